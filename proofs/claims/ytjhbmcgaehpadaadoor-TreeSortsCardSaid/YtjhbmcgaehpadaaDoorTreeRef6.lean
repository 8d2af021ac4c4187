/- The walk through the reference's Match. -/
import Derived.Test.YtjhbmcgaehpadaaDoorTreeRef5
import Derived.Test.YtjhbmcgaehpadaaDoorCls
namespace Go.Proofs.YtjhbmcgaehpadaaDoor
open Go.RowKit
set_option linter.unusedVariables false

/-- Cell (i, k) of the table. -/
def mtBack (p s : List ByteArray) (i k : Nat) : Bool := fitB (fun a : ByteArray => pathStar a.data.toList) (fun a b : ByteArray => inNameB a.data.toList b.data.toList) (p.drop i) (s.drop k)
section
variable {p s : List ByteArray} {i k : Nat} {x y : ByteArray}
theorem mtBack_end (hi : i = p.length) (hk : k ≤ s.length) : mtBack p s i k = decide (k = s.length) := by rw [hi]; exact back_end _ _ hk
theorem mtBack_star (hi : p[i]? = some ⟨#[42, 42]⟩) (hk : s[k]? = some y) : mtBack p s i k = (mtBack p s (i + 1) k || mtBack p s i (k + 1)) := back_star _ _ hi star2 hk
theorem mtBack_star_end (hi : p[i]? = some ⟨#[42, 42]⟩) (hk : k = s.length) : mtBack p s i k = mtBack p s (i + 1) k := by rw [hk]; exact back_star_end _ _ hi star2
theorem mtBack_one (hi : p[i]? = some x) (hc : x ≠ ⟨#[42, 42]⟩) (hk : s[k]? = some y) : mtBack p s i k = (inNameB x.data.toList y.data.toList && mtBack p s (i + 1) (k + 1)) := back_one _ _ hi (notStar2 hc) hk
theorem mtBack_one_end (hi : p[i]? = some x) (hc : x ≠ ⟨#[42, 42]⟩) (hk : k = s.length) : mtBack p s i k = false := by rw [hk]; exact back_one_end _ _ hi (notStar2 hc)
end
def mtFlat (p s : List ByteArray) (W j : Nat) : Bool := mtBack p s (j / W) (j % W)
theorem mtFlat_at (p s : List ByteArray) {W i k : Nat} (hk : k < W) : mtFlat p s W (i * W + k) = mtBack p s i k := flat_one (mtBack p s) hk
theorem mtBack_all (p s : ByteArray) : mtBack (pieces p) (pieces s) 0 0 = matchL p.data.toList s.data.toList := by
  unfold mtBack matchL
  rw [List.drop_zero, List.drop_zero, ← pieces_list, ← pieces_list, fitB_map]
theorem pieces_pos (s : ByteArray) : 0 < (pieces s).length := by
  have := splitL_ne s.data.toList
  rw [← pieces_list] at this
  rcases Nat.eq_zero_or_pos (pieces s).length with h | h
  · rw [List.eq_nil_of_length_eq_zero h] at this; exact absurd rfl this
  · exact h

set_option maxHeartbeats 2000000 in
set_option maxRecDepth 100000 in
theorem match_ref_in (p s : ByteArray) (w : World) (hp : p.size ≤ 200) (hs : s.size ≤ 200)
    (HP : Hid (∀ W, Calls Tryd.prog 22 #[.string p] W fun e w' => e = .returned (.int .i64 0) ∧ Below W.heap.size W w'))
    (HQ : Hid (∀ W, Calls Tryd.prog 15 #[.string s] W fun e w' => e = .returned (.int .i64 0) ∧ Below W.heap.size W w')) :
    Calls Tryd.prog 24 #[.string p, .string s] w fun e w' => e = .returned (.bool (matchL p.data.toList s.data.toList)) ∧ Below w.heap.size w w' := by
  have HS1 := Lib.hid (fun W => names_ref p W hp)
  have HS2 := Lib.hid (fun W => names_ref s W hs)
  have le1 := pieces_le p
  have le2 := pieces_le s
  have po1 := pieces_pos p
  have po2 := pieces_pos s
  have ea1 := Lib.hid (pieces_each p)
  have ea2 := Lib.hid (pieces_each s)
  have hend := mtBack_all p s
  generalize pieces p = P at HS1 le1 po1 ea1 hend
  generalize pieces s = Q at HS2 le2 po2 ea2 hend
  generalize matchL p.data.toList s.data.toList = R at hend ⊢
  have HR := Lib.hid hend
  obtain ⟨_, _, N, _, _, _, hN, _, hN2, _⟩ := nat_facts' P.length (Q.length + 1) 0 (by omega) (by omega) (Nat.zero_le _)
  have hNi : ((P.length : Int) + 1) * ((Q.length : Int) + 1) = (N : Int) := by rw [hN]; simp
  have hmk := Lib.hid (fun W => make_flat N (by omega) W)
  have HN := Lib.hid hN
  clear hend hN
  go_enter Tryd.func24, Tryd.ntmps24
  go_wp2_with (first
    | (go_at_call 22; with_reducible refine (HP.out _).mono ?_; rintro e w1 ⟨rfl, hb1⟩)
    | (go_at_call 15; with_reducible refine (HQ.out _).mono ?_; rintro e w2 ⟨rfl, hb2⟩)
    | (go_at_call 46; (with_reducible refine (HS1.out _).mono ?_); rintro e w3 ⟨A3, c3, rfl, hk3, _, hb3⟩; have HK3 := Lib.hid hk3; clear hk3)
    | (go_at_call 46; (with_reducible refine (HS2.out _).mono ?_); rintro e w4 ⟨A4, c4, rfl, hk4, _, hb4⟩; have HK4 := Lib.hid hk4; clear hk4; obtain ⟨w5, hm5, hk5, hz5, hb5⟩ := hmk.out w4; have HK5 := Lib.hid hk5; have HZ5 := Lib.hid hz5; clear hk5 hz5))
  clear hNi hm5
  have K5 : Hid (Blk w5 w4.heap.size 4 (brow N (fun i => if N ≤ i then mtFlat P Q (Q.length + 1) i else false))) := Lib.hid (by
    have := HK5.out
    rwa [brow_congr (g := fun _ => false)]
    intro j hj
    rw [if_neg (by omega)])
  obtain ⟨bP, oP, rfl, hbP, hcP⟩ := HK3.out.2 po1
  obtain ⟨bQ, oQ, rfl, hbQ, hcQ⟩ := HK4.out.2 po2
  have hP4 : bP < w4.heap.size := Nat.lt_of_lt_of_le hbP hb4.size
  have HCP : Hid (∀ (i : Nat) (x : ByteArray), P[i]? = some x → w4.cell? ⟨bP, oP + i, none⟩ = some (.string x)) := Lib.hid fun i x h => (hb4.cell (p := ⟨bP, oP + i, none⟩) hbP).trans (hcP i _ (by simp [h]))
  have HCQ : Hid (∀ (i : Nat) (x : ByteArray), Q[i]? = some x → w4.cell? ⟨bQ, oQ + i, none⟩ = some (.string x)) := Lib.hid fun i x h => hcQ i _ (by simp [h])
  have hB4 := below_on hb1 (below_on hb2 (below_on hb3 hb4))
  clear hcP hcQ
  go_loopw [9] (fun v wr => ∃ (i : Nat), i ≤ P.length + 1 ∧ v = .int .i64 ((i : Int) - 1) ∧ Hid (Blk wr w4.heap.size 4 (brow N (fun j => if i * (Q.length + 1) ≤ j then mtFlat P Q (Q.length + 1) j else false))) ∧ Below w4.heap.size w4 wr) (fun v _ => (intOf v + 1).toNat)
  case atStart => exact ⟨P.length + 1, Nat.le_refl _, by simp, by rw [← HN.out]; exact K5, hb5⟩
  case round =>
    obtain ⟨i, hi, hv, H, hB⟩ := hrel
    rcases i with _ | i
    · rw [show ((0 : Nat) : Int) - 1 = -1 from rfl] at hv
      subst hv
      have hNp : 0 < N := by have := HN.out; have : 0 < (P.length + 1) * (Q.length + 1) := Nat.mul_pos (by omega) (by omega); omega
      have hr := H.out.dget (i := 0) hNp (by simp)
      have e0 : mtFlat P Q (Q.length + 1) 0 = R := by
        have := mtFlat_at P Q (W := Q.length + 1) (i := 0) (k := 0) (by omega)
        rw [Nat.zero_mul] at this
        exact this.trans HR.out
      rw [e0] at hr
      clear H e0
      go_wp2
      go_ret
      exact ⟨rfl, below_on hB4 hB⟩
    · rw [show ((i + 1 : Nat) : Int) - 1 = (i : Int) by omega] at hv
      subst hv
      obtain ⟨wo, hwo⟩ : ∃ wo, wo = wr := ⟨_, rfl⟩
      subst hwo
      obtain ⟨R0, R1, N', h0, h1, h01, hN', hle, hNN, hlt⟩ := nat_facts' P.length (Q.length + 1) i (by omega) (by omega) (by omega)
      obtain rfl : N' = N := by rw [hN', HN.out]
      clear hN'
      rw [← h1] at H
      have Q1 : Hid (((i : Int) + 1) * ((Q.length : Int) + 1) = (R1 : Int)) := Lib.hid (by rw [h1]; simp)
      have Q0 : Hid ((i : Int) * ((Q.length : Int) + 1) = (R0 : Int)) := Lib.hid (by rw [h0]; simp)
      have f0 := Lib.hid (fun (k : Nat) (hk : k < Q.length + 1) => (show mtFlat P Q (Q.length + 1) (R0 + k) = mtBack P Q i k by rw [h0]; exact mtFlat_at P Q hk))
      have f1 := Lib.hid (fun (k : Nat) (hk : k < Q.length + 1) => (show mtFlat P Q (Q.length + 1) (R1 + k) = mtBack P Q (i + 1) k by rw [h1]; exact mtFlat_at P Q hk))
      have e01 : R0 + (Q.length + 1) ≤ R1 := by omega
      have e02 : R1 ≤ R0 + (Q.length + 1) := by omega
      have H0 := Lib.hid h0
      have K : Hid (Blk wo w4.heap.size 4 (brow N' (fun j => if R0 + (Q.length + 1) ≤ j then mtFlat P Q (Q.length + 1) j else false))) := Lib.hid (by rw [← h01]; exact H.out)
      clear h0 h1 h01 H
      go_wp2
      go_loopw [10] (fun v wr => ∃ (k : Nat), k ≤ Q.length + 1 ∧ v = .int .i64 ((k : Int) - 1) ∧ Hid (Blk wr w4.heap.size 4 (brow N' (fun j => if R0 + k ≤ j then mtFlat P Q (Q.length + 1) j else false))) ∧ Below w4.heap.size w4 wr) (fun v _ => (intOf v + 1).toNat)
      case atStart => exact ⟨Q.length + 1, Nat.le_refl _, by simp, K, hB⟩
      case round =>
        obtain ⟨k, hk, hv, H, hB⟩ := hrel
        rcases k with _ | k
        · rw [show ((0 : Nat) : Int) - 1 = -1 from rfl] at hv
          subst hv
          rw [Nat.add_zero, H0.out] at H
          go_wp2
          go_roundw
          case rel => exact ⟨i, by omega, rfl, H, hB⟩
          case measure => simp [intOf] <;> omega
        · rw [show ((k + 1 : Nat) : Int) - 1 = (k : Int) by omega] at hv
          subst hv
          rw [← Nat.add_assoc] at H
          have q1 := Q1.out
          have q0 := Q0.out
          have hcell := H.out.dgone (by omega)
          have hfr := H.out.frozen (R0 + k)
          have hf0 := f0.out k (by omega)
          have hi2 : i ≤ P.length := by omega
          have k0 : 0 ≤ (k : Int) := by omega
          have j0 : (R0 : Int) + k < N' := by omega
          have j1 : 0 ≤ (R0 : Int) + k := by omega
          have hglt := H.out.lt
          by_cases hie : i = P.length
          · have t1 : ((i : Int) == P.length) = true := by rw [beq_iff_eq]; omega
            have hv := hf0.trans (mtBack_end hie (by omega))
            by_cases hke : k = Q.length
            · have t2 : ((k : Int) == Q.length) = true := by rw [beq_iff_eq]; omega
              have hst := Lib.hid (H.out.dput (v := true) (by rw [hv, decide_eq_true hke]))
              clear H hf0 hv hke hie
              go_wp2
              go_roundw
              case rel => exact ⟨k, by omega, rfl, hst, hB.setCell (Nat.le_refl _) _⟩
              case measure => simp [intOf] <;> omega
            · have t2 : ((k : Int) == Q.length) = false := by rw [beq_eq_false_iff_ne]; omega
              have hst := Lib.hid (H.out.dput (v := false) (by rw [hv, decide_eq_false hke]))
              clear H hf0 hv hke hie
              go_wp2
              go_roundw
              case rel => exact ⟨k, by omega, rfl, hst, hB.setCell (Nat.le_refl _) _⟩
              case measure => simp [intOf] <;> omega
          · have t1 : ((i : Int) == P.length) = false := by rw [beq_eq_false_iff_ne]; omega
            have hip : i < P.length := by omega
            have hN2 := hlt hip
            obtain ⟨x, hx⟩ : ∃ x, P[i]? = some x := ⟨_, List.getElem?_eq_getElem hip⟩
            have cx := (hB.cell (p := ⟨bP, oP + i, none⟩) hP4).trans (HCP.out i x hx)
            have hxs := ea1.out x (List.mem_of_getElem? hx)
            have i1 : (i : Int) < P.length := by omega
            have i0 : 0 ≤ (i : Int) := by omega
            have m1 : (R1 : Int) + k < N' := by omega
            have c1 := H.out.dget (i := R1 + k) (by omega) (by omega)
            rw [f1.out k (by omega)] at c1
            by_cases hc : x = ⟨#[42, 42]⟩
            · subst hc
              by_cases hks : k < Q.length
              · obtain ⟨y, hy⟩ : ∃ y, Q[k]? = some y := ⟨_, List.getElem?_eq_getElem hks⟩
                have c2 := H.out.dget (i := R0 + k + 1) (by omega) (by omega)
                rw [Nat.add_assoc, f0.out (k + 1) (by omega), ← Nat.add_assoc] at c2
                have hst := H.out.dput (hf0.trans (mtBack_star hx hy))
                generalize mtBack P Q (i + 1) k = b1 at *
                generalize mtBack P Q i (k + 1) = b2 at *
                have hst := Lib.hid hst
                have i3 : (k : Int) < Q.length := by omega
                have j3 : (R0 : Int) + k + 1 < N' := by omega
                have j4 : 0 ≤ (R0 : Int) + k + 1 := by omega
                clear H hf0 hx hy
                cases b1 <;> cases b2
                all_goals
                  go_wp2
                  go_roundw
                  case rel => exact ⟨k, by omega, rfl, hst, hB.setCell (Nat.le_refl _) _⟩
                  case measure => simp [intOf] <;> omega
              · have hst := H.out.dput (hf0.trans (mtBack_star_end hx (by omega)))
                generalize mtBack P Q (i + 1) k = b1 at *
                have hst := Lib.hid hst
                have i3 : ¬ (k : Int) < Q.length := by omega
                clear H hf0 hx
                cases b1
                all_goals
                  go_wp2
                  go_roundw
                  case rel => exact ⟨k, by omega, rfl, hst, hB.setCell (Nat.le_refl _) _⟩
                  case measure => simp [intOf] <;> omega
            · obtain ⟨e2, e2'⟩ := bl_ne (s := x) (l := [42, 42]) (fun h => hc (ba_ext h))
              clear c1
              by_cases hks : k < Q.length
              · obtain ⟨y, hy⟩ : ∃ y, Q[k]? = some y := ⟨_, List.getElem?_eq_getElem hks⟩
                have cy := (hB.cell (p := ⟨bQ, oQ + k, none⟩) hbQ).trans (HCQ.out k y hy)
                have hys := ea2.out y (List.mem_of_getElem? hy)
                have c3 := H.out.dget (i := R1 + k + 1) (by omega) (by omega)
                rw [Nat.add_assoc, f1.out (k + 1) (by omega), ← Nat.add_assoc] at c3
                have HI := Lib.hid (fun W => inName_ref x y W (by omega) (by omega))
                have hmt := mtBack_one hx hc hy
                generalize inNameB x.data.toList y.data.toList = bn at *
                generalize mtBack P Q (i + 1) (k + 1) = b2 at *
                have HV := Lib.hid (hf0.trans hmt)
                have i3 : (k : Int) < Q.length := by omega
                have hU := Lib.hid (flat_wraps (i := i) (k := k) (R1 := R1) (N := N') (by omega) (by omega) (by omega))
                clear hf0 hx hy hc hmt
                go_wp2
                obtain ⟨u1, u2, u3, u4, m2, m3, m4⟩ := hU.out
                have cx' := cell_cls cx
                have cy' := cell_cls cy
                have c3' := cell_cls c3
                cases bn
                all_goals
                  refine wp_region_cls (by kernel_rfl) (by kernel_rfl) ?_
                  repeat (go_big_quiet_step ((go_at_call 53; exact cls_call (HI.out _))))
                  refine wpQuiet_nil ?_
                  intro _ hw'
                  obtain ⟨⟨w9, hb9⟩, hw''⟩ := hw'
                  subst hw''
                  clear u1 u2 u3 u4 m2 m3 m4 cx' cy' c3'
                  have c9 := (hb9.cell (p := ⟨w4.heap.size, R0 + k, none⟩) hglt).trans hcell
                  have f9 := (hb9.frozen (p := ⟨w4.heap.size, R0 + k, none⟩) hglt).trans hfr
                  have hst := Lib.hid ((H.out.below hb9 hglt).dput HV.out)
                  have hB9 := hB.trans (hb9.mono hB.size)
                  go_wp2
                  go_roundw
                  case rel => exact ⟨k, by omega, rfl, hst, hB9.setCell (Nat.le_refl _) _⟩
                  case measure => simp [intOf] <;> omega
              · have hst := Lib.hid (H.out.dput (hf0.trans (mtBack_one_end hx hc (by omega))))
                have i3 : decide (k < Q.length) = false := decide_eq_false hks
                clear H hf0 hx hc
                go_wp2
                go_quiet (fail)
                go_wp2
                go_roundw
                case rel => exact ⟨k, by omega, rfl, hst, below_drewN (hB.setCell (Nat.le_refl _) _) _⟩
                case measure => simp [intOf] <;> omega
end Go.Proofs.YtjhbmcgaehpadaaDoor
