/- The walks through the reference's inName. -/
import Derived.Test.YtjhbmcgaehpadaaDoorTreeRef3
namespace Go.Proofs.YtjhbmcgaehpadaaDoor
open Go.RowKit
set_option linter.unusedVariables false

theorem make_flat (n : Nat) (hn : n ≤ 140737488355329) (W : World) : ∃ W1, (Instr.makeSlice 67 (.int .i64 (n : Int)) (.int .i64 (n : Int))).run Tryd.prog W = .ok (.slice (some ⟨W.heap.size, 0, none⟩) n n) W1 ∧
    Blk W1 W.heap.size 4 (brow n fun _ => false) ∧ W1.heap.size = W.heap.size + 1 ∧ Below W.heap.size W W1 := by
  have h := run_make_row' (P := Tryd.prog) 67 4 (.bool false) 1 Tryd.underlying67 infoBool rfl .i64 .i64 n (by omega) (by omega) W
  have e : madeCells #[.bool false] n = brow n fun _ => false := by
    apply Array.ext_getElem?
    intro j
    unfold madeCells
    rw [Array.getElem?_map, Array.getElem?_range]
    by_cases hj : j < n
    · rw [brow_get _ hj, if_pos (by simpa using hj)]
      simp [Nat.mod_one]
    · rw [if_neg (by simpa using hj), Array.getElem?_eq_none (by rw [brow_size]; omega)]
      rfl
  rw [e] at h
  exact ⟨_, h, Blk.new _ _ _, by simp, (Below.refl _ W).alloc (Nat.le_refl _) _⟩
section
variable {w : World} {g : Nat} {t : TypeId} {n m : Nat} {F : Nat → Bool} {v : Bool}
/-- A row that is filled from behind. -/
theorem Blk.dput (h : Blk w g t (brow n (fun i => if m + 1 ≤ i then F i else false))) (hv : F m = v) : Blk (w.setCell ⟨g, m, none⟩ (.bool v)) g t (brow n (fun i => if m ≤ i then F i else false)) := by
  have h2 := h.set_ m (.bool v)
  rw [brow_set] at h2
  rwa [brow_congr (g := fun i => if m ≤ i then F i else false)] at h2
  intro i _
  by_cases e : i = m
  · subst e; simp [hv]
  · by_cases h3 : m + 1 ≤ i
    · rw [if_neg e, if_pos h3, if_pos (by omega)]
    · rw [if_neg e, if_neg h3, if_neg (by omega)]
theorem Blk.dget (h : Blk w g t (brow n (fun i => if m ≤ i then F i else false))) {i : Nat} (hi : i < n) (hm : m ≤ i) : w.cell? ⟨g, i, none⟩ = some (.bool (F i)) := by
  rw [h.cell i, brow_get _ hi, if_pos hm]
theorem Blk.dgone (h : Blk w g t (brow n (fun i => if m + 1 ≤ i then F i else false))) (hm : m < n) : w.cell? ⟨g, m, none⟩ = some (.bool false) := by
  rw [h.cell m, brow_get _ hm, if_neg (by omega)]
end
theorem flat_one {W i k : Nat} (T : Nat → Nat → Bool) (hk : k < W) : (fun j => T (j / W) (j % W)) (i * W + k) = T i k := by
  show T ((i * W + k) / W) ((i * W + k) % W) = _
  rw [Nat.mul_comm, Nat.mul_add_div (by omega), Nat.mul_add_mod, Nat.div_eq_of_lt hk, Nat.mod_eq_of_lt hk, Nat.add_zero]
/-- Cell (i, k) of the table. -/
def inBack (p s : List UInt8) (i k : Nat) : Bool := fitB nameStar nameOne (p.drop i) (s.drop k)
section
variable {p s : List UInt8} {i k : Nat}
theorem inBack_end (hi : i = p.length) (hk : k ≤ s.length) : inBack p s i k = decide (k = s.length) := by rw [hi]; exact back_end _ _ hk
theorem inBack_star (hi : i < p.length) (hk : k < s.length) (hc : bt p i = 42) : inBack p s i k = (inBack p s (i + 1) k || inBack p s i (k + 1)) := back_star _ _ (bt_some hi) (by rw [hc]; rfl) (bt_some hk)
theorem inBack_star_end (hi : i < p.length) (hk : k = s.length) (hc : bt p i = 42) : inBack p s i k = inBack p s (i + 1) k := by rw [hk]; exact back_star_end _ _ (bt_some hi) (by rw [hc]; rfl)
theorem inBack_one (hi : i < p.length) (hk : k < s.length) (hc : bt p i ≠ 42) : inBack p s i k = (nameOne (bt p i) (bt s k) && inBack p s (i + 1) (k + 1)) := back_one _ _ (bt_some hi) (notStar hc) (bt_some hk)
theorem inBack_one_end (hi : i < p.length) (hk : k = s.length) (hc : bt p i ≠ 42) : inBack p s i k = false := by rw [hk]; exact back_one_end _ _ (bt_some hi) (notStar hc)
end
/-- The table, laid flat. -/
def inFlat (p s : List UInt8) (W j : Nat) : Bool := inBack p s (j / W) (j % W)
theorem inFlat_at (p s : List UInt8) {W i k : Nat} (hk : k < W) : inFlat p s W (i * W + k) = inBack p s i k := flat_one (inBack p s) hk
theorem nat_facts (P W i : Nat) (hP : P ≤ 200) (hW : W ≤ 201) (hi : i ≤ P) : ∃ R0 R1 N : Nat, R0 = i * W ∧ R1 = (i + 1) * W ∧ R1 = R0 + W ∧ N = (P + 1) * W ∧ R1 ≤ N ∧ N ≤ 40401 ∧ (i < P → R1 + W ≤ N) := by
  refine ⟨_, _, _, rfl, rfl, by rw [Nat.add_mul, Nat.one_mul], rfl, Nat.mul_le_mul_right _ (by omega), by have := Nat.mul_le_mul (show P + 1 ≤ 201 by omega) hW; omega, fun h => ?_⟩
  have : (i + 2) * W ≤ (P + 1) * W := Nat.mul_le_mul_right _ (by omega)
  have e : (i + 2) * W = (i + 1) * W + W := by rw [Nat.add_mul, Nat.add_mul]; omega
  omega

theorem nat_facts' (P W i : Nat) (hP : P ≤ 201) (hW : W ≤ 202) (hi : i ≤ P) : ∃ R0 R1 N : Nat, R0 = i * W ∧ R1 = (i + 1) * W ∧ R1 = R0 + W ∧ N = (P + 1) * W ∧ R1 ≤ N ∧ N ≤ 40804 ∧ (i < P → R1 + W ≤ N) := by
  refine ⟨_, _, _, rfl, rfl, by rw [Nat.add_mul, Nat.one_mul], rfl, Nat.mul_le_mul_right _ (by omega), by have := Nat.mul_le_mul (show P + 1 ≤ 202 by omega) hW; omega, fun h => ?_⟩
  have : (i + 2) * W ≤ (P + 1) * W := Nat.mul_le_mul_right _ (by omega)
  have e : (i + 2) * W = (i + 1) * W + W := by rw [Nat.add_mul, Nat.add_mul]; omega
  omega

theorem flat_wraps {i k R1 N : Nat} (h1 : R1 + k + 1 < N) (h2 : N ≤ 40804) (h3 : i ≤ 1000) : IntKind.i64.wrap ((i : Int) + 1) = (i : Int) + 1 ∧ IntKind.i64.wrap (R1 : Int) = R1 ∧ IntKind.i64.wrap ((R1 : Int) + k) = (R1 : Int) + k ∧ IntKind.i64.wrap ((R1 : Int) + k + 1) = (R1 : Int) + k + 1 ∧
    (R1 : Int) + k + 1 < N ∧ 0 ≤ (R1 : Int) + k + 1 ∧ ((R1 : Int) + k + 1).toNat = R1 + k + 1 :=
  ⟨IntWalk.i64_in _ (by omega), IntWalk.i64_in _ (by omega), IntWalk.i64_in _ (by omega), IntWalk.i64_in _ (by omega), by omega, by omega, by omega⟩

set_option maxHeartbeats 2000000 in
set_option maxRecDepth 100000 in
theorem inName_ref (p s : ByteArray) (w : World) (hp : p.size ≤ 200) (hs : s.size ≤ 200) :
    Calls Tryd.prog 53 #[.string p, .string s] w fun e w' => e = .returned (.bool (inNameB p.data.toList s.data.toList)) ∧ Below w.heap.size w w' := by
  obtain ⟨R0, R1, N, _, _, _, hN, _, hN2, _⟩ := nat_facts p.size (s.size + 1) 0 hp (by omega) (Nat.zero_le _)
  obtain ⟨w1, hm1, hk1, hz1, hb1⟩ := make_flat N (by omega) w
  have hNi : ((p.size : Int) + 1) * ((s.size : Int) + 1) = (N : Int) := by rw [hN]; simp
  have lp := bt_size p
  have ls := bt_size s
  have gp := Lib.hid (bt_get p)
  have gs := Lib.hid (bt_get s)
  generalize p.data.toList = L at *
  generalize s.data.toList = M at *
  have hres : inNameB L M = inBack L M 0 0 := rfl
  rw [hres]
  generalize hR : inBack L M 0 0 = R
  have HR := Lib.hid hR
  have LP := Lib.hid lp
  have LS := Lib.hid ls
  have K1 : Hid (Blk w1 w.heap.size 4 (brow N (fun i => if N ≤ i then inFlat L M (s.size + 1) i else false))) := Lib.hid (by
    rwa [brow_congr (g := fun _ => false)]
    intro j hj
    rw [if_neg (by omega)])
  have HN := Lib.hid hN
  have HZ1 := Lib.hid hz1
  clear hR lp ls hk1 hres hN hz1
  go_enter Tryd.func53, Tryd.ntmps53
  go_wp2
  clear hNi
  go_loopw [7] (fun v wr => ∃ (i : Nat), i ≤ p.size + 1 ∧ v = .int .i64 ((i : Int) - 1) ∧ Hid (Blk wr w.heap.size 4 (brow N (fun j => if i * (s.size + 1) ≤ j then inFlat L M (s.size + 1) j else false))) ∧ Below w.heap.size w wr) (fun v _ => (intOf v + 1).toNat)
  case atStart => exact ⟨p.size + 1, Nat.le_refl _, by simp, by rw [← HN.out]; exact K1, hb1⟩
  case round =>
    obtain ⟨i, hi, hv, H, hB⟩ := hrel
    rcases i with _ | i
    · rw [show ((0 : Nat) : Int) - 1 = -1 from rfl] at hv
      subst hv
      have hr := H.out.dget (i := 0) (by have := HN.out; have : 0 < (p.size + 1) * (s.size + 1) := Nat.mul_pos (by omega) (by omega); omega) (by simp)
      have e0 : inFlat L M (s.size + 1) 0 = R := by
        have := inFlat_at L M (W := s.size + 1) (i := 0) (k := 0) (by omega)
        rw [Nat.zero_mul] at this
        exact this.trans HR.out
      rw [e0] at hr
      have hNp : 0 < N := by have := HN.out; have : 0 < (p.size + 1) * (s.size + 1) := Nat.mul_pos (by omega) (by omega); omega
      clear H e0
      go_wp2
      go_ret
      exact ⟨rfl, hB⟩
    · rw [show ((i + 1 : Nat) : Int) - 1 = (i : Int) by omega] at hv
      subst hv
      obtain ⟨wo, hwo⟩ : ∃ wo, wo = wr := ⟨_, rfl⟩
      subst hwo
      obtain ⟨R0, R1, N', h0, h1, h01, hN', hle, hNN, hlt⟩ := nat_facts p.size (s.size + 1) i hp (by omega) (by omega)
      obtain rfl : N' = N := by rw [hN', HN.out]
      clear hN'
      rw [← h1] at H
      have q1 : ((i : Int) + 1) * ((s.size : Int) + 1) = (R1 : Int) := by rw [h1]; simp
      have q0 : (i : Int) * ((s.size : Int) + 1) = (R0 : Int) := by rw [h0]; simp
      have f0 := Lib.hid (fun (k : Nat) (hk : k < s.size + 1) => (show inFlat L M (s.size + 1) (R0 + k) = inBack L M i k by rw [h0]; exact inFlat_at L M hk))
      have f1 := Lib.hid (fun (k : Nat) (hk : k < s.size + 1) => (show inFlat L M (s.size + 1) (R1 + k) = inBack L M (i + 1) k by rw [h1]; exact inFlat_at L M hk))
      have H01 := Lib.hid h01
      have H0 := Lib.hid h0
      have K : Hid (Blk wo w.heap.size 4 (brow N' (fun j => if R0 + (s.size + 1) ≤ j then inFlat L M (s.size + 1) j else false))) := Lib.hid (by rw [← h01]; exact H.out)
      clear h0 h1 h01 H
      have Q1 := Lib.hid q1
      have Q0 := Lib.hid q0
      clear q1 q0
      go_wp2
      go_loopw [8] (fun v wr => ∃ (k : Nat), k ≤ s.size + 1 ∧ v = .int .i64 ((k : Int) - 1) ∧ Hid (Blk wr w.heap.size 4 (brow N' (fun j => if R0 + k ≤ j then inFlat L M (s.size + 1) j else false))) ∧ Below w.heap.size w wr) (fun v _ => (intOf v + 1).toNat)
      case atStart => exact ⟨s.size + 1, Nat.le_refl _, by simp, K, hB⟩
      case round =>
        obtain ⟨k, hk, hv, H, hB⟩ := hrel
        rcases k with _ | k
        · rw [show ((0 : Nat) : Int) - 1 = -1 from rfl] at hv
          subst hv
          rw [Nat.add_zero, H0.out] at H
          go_wp2
          go_roundw
          case rel => exact ⟨i, by omega, rfl, H, hB⟩
          case measure => simp [intOf] <;> omega
        · rw [show ((k + 1 : Nat) : Int) - 1 = (k : Int) by omega] at hv
          subst hv
          rw [← Nat.add_assoc] at H
          have q1 := Q1.out
          have q0 := Q0.out
          have e01 : R0 + (s.size + 1) ≤ R1 := by have := H01.out; omega
          have e02 : R1 ≤ R0 + (s.size + 1) := by have := H01.out; omega
          have hcell := H.out.dgone (by omega)
          have hfr := H.out.frozen (R0 + k)
          have hf0 := f0.out k (by omega)
          have hi2 : i ≤ p.size := by omega
          have k0 : 0 ≤ (k : Int) := by omega
          have j0 : (R0 : Int) + k < N' := by omega
          have j1 : 0 ≤ (R0 : Int) + k := by omega
          have j2 : k < s.size → (R0 : Int) + k + 1 < N' := by omega
          by_cases hie : i = p.size
          · have t1 : ((i : Int) == p.size) = true := by rw [beq_iff_eq]; omega
            have hv := hf0.trans (inBack_end (by have := LP.out; omega) (by have := LS.out; omega))
            by_cases hke : k = s.size
            · have t2 : ((k : Int) == s.size) = true := by rw [beq_iff_eq]; omega
              have hst := Lib.hid (H.out.dput (v := true) (by rw [hv, decide_eq_true (by have := LS.out; omega)]))
              clear H hf0 hv hke hie
              go_wp2
              go_roundw
              case rel => exact ⟨k, by omega, rfl, hst, hB.setCell (Nat.le_refl _) _⟩
              case measure => simp [intOf] <;> omega
            · have t2 : ((k : Int) == s.size) = false := by rw [beq_eq_false_iff_ne]; omega
              have hst := Lib.hid (H.out.dput (v := false) (by rw [hv, decide_eq_false (by have := LS.out; omega)]))
              clear H hf0 hv hke hie
              go_wp2
              go_roundw
              case rel => exact ⟨k, by omega, rfl, hst, hB.setCell (Nat.le_refl _) _⟩
              case measure => simp [intOf] <;> omega
          · have t1 : ((i : Int) == p.size) = false := by rw [beq_eq_false_iff_ne]; omega
            have hip : i < p.size := by omega
            have hN2 := hlt hip
            have g1 := gp.out i hip
            have i1 : (i : Int) < p.size := by omega
            have i0 : 0 ≤ (i : Int) := by omega
            have hiL : i < L.length := by have := LP.out; omega
            have m1 : (R1 : Int) + k < N' := by omega
            by_cases hc : bt L i = 42
            · have c1 := H.out.dget (i := R1 + k) (by omega) (by have := H01.out; omega)
              rw [f1.out k (by omega)] at c1
              have hcn : (((bt L i).toNat : Int) == 42) = true := by rw [hc]; rfl
              by_cases hks : k < s.size
              · have c2 := H.out.dget (i := R0 + k + 1) (by omega) (by omega)
                rw [Nat.add_assoc, f0.out (k + 1) (by omega), ← Nat.add_assoc] at c2
                have hst := H.out.dput (hf0.trans (inBack_star hiL (by have := LS.out; omega) hc))
                generalize inBack L M (i + 1) k = b1 at *
                generalize inBack L M i (k + 1) = b2 at *
                have hst := Lib.hid hst
                have i3 : (k : Int) < s.size := by omega
                have j3 := j2 hks
                have j4 : 0 ≤ (R0 : Int) + k + 1 := by omega
                generalize bt L i = y at *
                clear H hf0 hc
                cases b1 <;> cases b2
                all_goals
                  go_wp2
                  go_roundw
                  case rel => exact ⟨k, by omega, rfl, hst, hB.setCell (Nat.le_refl _) _⟩
                  case measure => simp [intOf] <;> omega
              · have hst := H.out.dput (hf0.trans (inBack_star_end hiL (by have := LS.out; omega) hc))
                generalize inBack L M (i + 1) k = b1 at *
                have hst := Lib.hid hst
                have i3 : ¬ (k : Int) < s.size := by omega
                generalize bt L i = y at *
                clear H hf0 hc
                cases b1
                all_goals
                  go_wp2
                  go_roundw
                  case rel => exact ⟨k, by omega, rfl, hst, hB.setCell (Nat.le_refl _) _⟩
                  case measure => simp [intOf] <;> omega
            · have hcn : (((bt L i).toNat : Int) == 42) = false := ne_toNat (y := 42) hc
              by_cases hks : k < s.size
              · have c3 := H.out.dget (i := R1 + k + 1) (by omega) (by omega)
                rw [Nat.add_assoc, f1.out (k + 1) (by omega), ← Nat.add_assoc] at c3
                have hst := H.out.dput (hf0.trans (inBack_one hiL (by have := LS.out; omega) hc))
                generalize inBack L M (i + 1) (k + 1) = b2 at *
                have gx := gs.out k hks
                have i3 : (k : Int) < s.size := by omega
                have hU := Lib.hid (flat_wraps (i := i) (k := k) (R1 := R1) (N := N') (by omega) (by omega) (by omega))
                by_cases hq : bt L i = 63
                · have hq1 : (((bt L i).toNat : Int) == 63) = true := by rw [hq]; rfl
                  rw [show nameOne (bt L i) (bt M k) = true by unfold nameOne; rw [hq]; rfl] at hst
                  have hst := Lib.hid hst
                  generalize bt L i = y at *
                  clear H hf0 hc hq gx
                  cases b2
                  all_goals
                    go_wp2
                    obtain ⟨u1, u2, u3, u4, m2, m3, m4⟩ := hU.out
                    go_quiet (fail)
                    clear u1 u2 u3 u4 m2 m3 m4
                    go_wp2
                    go_roundw
                    case rel => exact ⟨k, by omega, rfl, hst, below_drewN (hB.setCell (Nat.le_refl _) _) _⟩
                    case measure => simp [intOf] <;> omega
                · have hq1 : (((bt L i).toNat : Int) == 63) = false := ne_toNat (y := 63) hq
                  by_cases he : bt L i = bt M k
                  · have he1 : (((bt L i).toNat : Int) == ((bt M k).toNat : Int)) = true := by rw [he]; simp
                    rw [show nameOne (bt L i) (bt M k) = true by unfold nameOne; rw [he]; simp] at hst
                    have hst := Lib.hid hst
                    generalize bt L i = y at *
                    generalize bt M k = z at *
                    clear H hf0 hc hq he
                    cases b2
                    all_goals
                      go_wp2
                      obtain ⟨u1, u2, u3, u4, m2, m3, m4⟩ := hU.out
                      go_quiet (fail)
                      clear u1 u2 u3 u4 m2 m3 m4
                      go_wp2
                      go_roundw
                      case rel => exact ⟨k, by omega, rfl, hst, below_drewN (hB.setCell (Nat.le_refl _) _) _⟩
                      case measure => simp [intOf] <;> omega
                  · have he1 := ne_toNat he
                    rw [show nameOne (bt L i) (bt M k) = false by unfold nameOne; rw [Bool.or_eq_false_iff, beq_eq_false_iff_ne, beq_eq_false_iff_ne]; exact ⟨hq, he⟩] at hst
                    have hst := Lib.hid hst
                    generalize bt L i = y at *
                    generalize bt M k = z at *
                    clear H hf0 hc hq he
                    go_wp2
                    go_quiet (fail)
                    go_wp2
                    go_roundw
                    case rel => exact ⟨k, by omega, rfl, hst, below_drewN (hB.setCell (Nat.le_refl _) _) _⟩
                    case measure => simp [intOf] <;> omega
              · have hst := Lib.hid (H.out.dput (hf0.trans (inBack_one_end hiL (by have := LS.out; omega) hc)))
                have i3 : decide (k < s.size) = false := decide_eq_false hks
                generalize bt L i = y at *
                clear H hf0 hc
                go_wp2
                go_quiet (fail)
                go_wp2
                go_roundw
                case rel => exact ⟨k, by omega, rfl, hst, below_drewN (hB.setCell (Nat.le_refl _) _) _⟩
                case measure => simp [intOf] <;> omega
end Go.Proofs.YtjhbmcgaehpadaaDoor
