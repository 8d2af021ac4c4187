/- The walks through inName and Match. -/
import Derived.Test.YtjhbmcgaehpadaaDoorTreeWalk3
import Derived.Test.YtjhbmcgaehpadaaDoorFit
import Derived.Deep.OwnRows
namespace Go.Proofs.YtjhbmcgaehpadaaDoor
open Go.RowKit
set_option linter.unusedVariables false

theorem infoBool : (Tryd.prog.info? 4).map (fun i => (i.zero, i.size, i.bytes)) = some (some (.bool false), 1, 1) := by kernel_rfl
theorem make_bools (n : Nat) (hn : n ≤ 140737488355329) (W : World) : ∃ W1, (Instr.makeSlice 67 (.int .i64 ((n : Int) + 1)) (.int .i64 ((n : Int) + 1))).run Tryd.prog W = .ok (.slice (some ⟨W.heap.size, 0, none⟩) (n + 1) (n + 1)) W1 ∧
    Blk W1 W.heap.size 4 (brow (n + 1) fun _ => false) ∧ W1.heap.size = W.heap.size + 1 ∧ Below W.heap.size W W1 := by
  have h := run_make_row' (P := Tryd.prog) 67 4 (.bool false) 1 Tryd.underlying67 infoBool rfl .i64 .i64 (n + 1) (by omega) (by omega) W
  rw [show ((n + 1 : Nat) : Int) = (n : Int) + 1 by omega] at h
  have e : madeCells #[.bool false] (n + 1) = brow (n + 1) fun _ => false := by
    apply Array.ext_getElem?
    intro j
    unfold madeCells
    rw [Array.getElem?_map, Array.getElem?_range]
    by_cases hj : j < n + 1
    · rw [brow_get _ hj, if_pos (by simpa using hj)]
      simp [Nat.mod_one]
    · rw [if_neg (by simpa using hj), Array.getElem?_eq_none (by rw [brow_size]; omega)]
      rfl
  rw [e] at h
  exact ⟨_, h, Blk.new _ _ _, by simp, (Below.refl _ W).alloc (Nat.le_refl _) _⟩

/-- Row k of the table. -/
def inRow (p s : List UInt8) (k i : Nat) : Bool := fitB nameStar nameOne (p.take k) (s.take i)
theorem bt_some {l : List UInt8} {i : Nat} (h : i < l.length) : l[i]? = some (bt l i) := by
  unfold bt
  rw [List.getD_eq_getElem?_getD, List.getElem?_eq_getElem h]
  rfl
section
variable {p s : List UInt8} {k i : Nat}
theorem inRow_zero (hi : i ≤ s.length) : inRow p s 0 i = decide (i = 0) := front_zero _ _ hi
theorem inRow_star0 (hk : k < p.length) (hc : bt p k = 42) : inRow p s (k + 1) 0 = inRow p s k 0 := front_star0 _ _ (bt_some hk) (by rw [hc]; rfl)
theorem inRow_star (hk : k < p.length) (hi : i < s.length) (hc : bt p k = 42) : inRow p s (k + 1) (i + 1) = (inRow p s k (i + 1) || inRow p s (k + 1) i) := front_star _ _ (bt_some hk) (by rw [hc]; rfl) (bt_some hi)
theorem notStar {c : UInt8} (h : c ≠ 42) : nameStar c = false := by unfold nameStar; rw [beq_eq_false_iff_ne]; exact h
theorem inRow_one0 (hk : k < p.length) (hc : bt p k ≠ 42) : inRow p s (k + 1) 0 = false := front_one0 _ _ (bt_some hk) (notStar hc)
theorem inRow_one (hk : k < p.length) (hi : i < s.length) (hc : bt p k ≠ 42) : inRow p s (k + 1) (i + 1) = (inRow p s k i && nameOne (bt p k) (bt s i)) := front_one _ _ (bt_some hk) (notStar hc) (bt_some hi)
theorem inRow_end (hk : p.length ≤ k) (hi : s.length ≤ i) : inRow p s k i = inNameB p s := by unfold inRow inNameB; rw [List.take_of_length_le hk, List.take_of_length_le hi]
end
theorem brow_start {w : World} {g : Nat} {t : TypeId} {n : Nat} {p s : List UInt8} (h : Blk w g t (brow (n + 1) fun _ => false)) (hn : n = s.length) : Blk (w.setCell ⟨g, 0, none⟩ (.bool true)) g t (brow (n + 1) (inRow p s 0)) := by
  have h2 := h.set_ 0 (.bool true)
  rw [brow_set] at h2
  rwa [brow_congr (g := inRow p s 0)] at h2
  intro i hi
  rw [inRow_zero (by omega)]
  by_cases e : i = 0
  · simp [e]
  · simp [e]

set_option maxHeartbeats 1000000 in
set_option maxRecDepth 100000 in
theorem inName_any (p s : ByteArray) (w : World) (hp : p.size ≤ 140737488355328) (hs : s.size ≤ 140737488355328) :
    Calls Tryd.prog 52 #[.string p, .string s] w fun e w' => e = .returned (.bool (inNameB p.data.toList s.data.toList)) ∧ Below w.heap.size w w' := by
  obtain ⟨w1, hm1, hk1, hz1, hb1⟩ := make_bools s.size (by omega) w
  have c0 : w1.cell? ⟨w.heap.size, 0, none⟩ = some (.bool false) := hk1.bget (by omega)
  have f0 : w1.frozen? ⟨w.heap.size, 0, none⟩ = false := hk1.frozen 0
  obtain ⟨L, hL⟩ : ∃ L, L = p.data.toList := ⟨_, rfl⟩
  obtain ⟨M, hM⟩ : ∃ M, M = s.data.toList := ⟨_, rfl⟩
  have lp := bt_size p
  have ls := bt_size s
  have gs := Lib.hid (bt_get s)
  rw [← hL] at lp ⊢
  rw [← hM] at ls gs ⊢
  have K1 := Lib.hid (brow_start (p := L) hk1 ls)
  have B1 := hb1.setCell (p := ⟨w.heap.size, 0, none⟩) (Nat.le_refl _) (.bool true)
  have Z1 : (w1.setCell ⟨w.heap.size, 0, none⟩ (.bool true)).heap.size = w.heap.size + 1 := by rw [← hz1]; simp [World.setCell]
  obtain ⟨w2, hw2⟩ : ∃ w2, w2 = w1.setCell ⟨w.heap.size, 0, none⟩ (.bool true) := ⟨_, rfl⟩
  rw [← hw2] at K1 B1 Z1
  obtain ⟨W1, C, hcv, hrow, hB⟩ := conv_bytes p w2
  rw [← hL] at hrow
  have hrow := Lib.hid hrow
  have hZ := Lib.hid Z1
  clear Z1 hk1 hz1 hL hM
  have HW := Lib.hid hw2
  rw [hw2] at hcv
  have hcv2 : (convert 9 66 (.string p)).run Tryd.prog (w1.setCell ⟨w.heap.size, 0, none⟩ (.bool true)) = .ok (.slice (some ⟨w2.heap.size, 0, none⟩) p.size C) W1 := by rw [hcv, hw2]
  clear hw2 hcv
  have LP := Lib.hid lp
  have LS := Lib.hid ls
  clear lp ls
  have hB2 := below_on B1 hB
  have hW1 : w.heap.size < W1.heap.size := by have := hB.size; have := hZ.out; omega
  have K1 := Lib.hid (K1.out.below hB (by have := hZ.out; omega))
  generalize hR : inNameB L M = R
  have HR := Lib.hid hR
  clear hR
  go_enter Tryd.func52, Tryd.ntmps52
  go_wp2
  go_loopw [5, 19] (fun rv v wr => ∃ (k g : Nat), k ≤ p.size ∧ v = .int .i64 k ∧ rv = .slice (some ⟨g, 0, none⟩) (s.size + 1) (s.size + 1) ∧ Hid (Blk wr g 4 (brow (s.size + 1) (inRow L M k))) ∧ Below W1.heap.size W1 wr) (fun _ v _ => p.size - (intOf v).toNat)
  case atStart => exact ⟨0, w.heap.size, Nat.zero_le _, rfl, rfl, K1, Below.refl _ _⟩
  case round =>
    obtain ⟨k, g, hk, rfl, rfl, H, hBr⟩ := hrel
    obtain ⟨wo, hwo⟩ : ∃ wo, wo = wr := ⟨_, rfl⟩
    subst hwo
    have hg := H.out.lt
    by_cases hlt : k < p.size
    · have hkL : k < L.length := by have := LP.out; omega
      have cc := hrow.out.1 k hkL
      rw [cur_zero] at cc
      have cc : wo.cell? ⟨w2.heap.size, k, none⟩ = some (.int .u8 ((bt L k).toNat : Int)) := (hBr.cell (World.block_lt_of_cell? _ _ cc)).trans cc
      obtain ⟨w3, hm3, hk3, hz3, hb3⟩ := make_bools s.size (by omega) wo
      have K3 : Hid (Blk w3 wo.heap.size 4 (brow (s.size + 1) (fun i => if i < 0 then inRow L M (k + 1) i else false))) := Lib.hid (by simpa using hk3)
      have HH := Lib.hid (H.out.below hb3 hg)
      have HZ3 := Lib.hid hz3
      clear hk3 hz3 H
      go_wp2
      go_loopw [29] (fun v wi => ∃ (j : Nat), j ≤ s.size + 1 ∧ v = .int .i64 j ∧ Hid (Blk wi wo.heap.size 4 (brow (s.size + 1) (fun i => if i < j then inRow L M (k + 1) i else false))) ∧ Below wo.heap.size w3 wi) (fun v _ => s.size + 1 - (intOf v).toNat)
      case atStart => exact ⟨0, Nat.zero_le _, rfl, K3, Below.refl _ _⟩
      case round =>
        obtain ⟨j, hj, rfl, H3, hB3⟩ := hrel
        by_cases hjn : j < s.size + 1
        · have hcell : wr.cell? ⟨wo.heap.size, j, none⟩ = some (.bool false) := by
            rw [H3.out.bget hjn, if_neg (Nat.lt_irrefl _)]
          have hfr := H3.out.frozen j
          have Kg := HH.out.below hB3 (by have := HZ3.out; omega)
          have g0 := Kg.bget (i := j) (by omega)
          rcases j with _ | i
          · by_cases hc : bt L k = 42
            · have hst := H3.out.bput (v := inRow L M k 0) (inRow_star0 hkL hc)
              have hcn : (((bt L k).toNat : Int) == 42) = true := by rw [hc]; rfl
              generalize inRow L M k 0 = b at *
              have hst := Lib.hid hst
              clear H3 Kg hc
              cases b
              all_goals
                go_wp2
                go_roundw
                case rel => exact ⟨0 + 1, by omega, by go_num, hst, hB3.setCell (Nat.le_refl _) _⟩
                case measure => simp [intOf] <;> omega
            · have hst := Lib.hid (H3.out.bskip (inRow_one0 hkL hc))
              have hc1 : (((bt L k).toNat : Int) == 42) = false := ne_toNat (y := 42) hc
              have hc2 : ¬ ((bt L k).toNat : Int) = 42 := ne_toNat' (y := 42) hc
              clear H3 Kg hc
              go_wp2
              go_roundw
              case rel => exact ⟨0 + 1, by omega, by go_num, hst, hB3⟩
              case measure => simp [intOf] <;> omega
          · have hiM : i < M.length := by have := LS.out; omega
            have g1 := H3.out.bget (i := i) (by omega)
            rw [if_pos (by omega)] at g1
            have g2 := Kg.bget (i := i) (by omega)
            have i1 : ((i : Int) + 1) - 1 = i := by omega
            by_cases hc : bt L k = 42
            · have hst := H3.out.bput (v := inRow L M k (i + 1) || inRow L M (k + 1) i) (inRow_star hkL hiM hc)
              have hcn : (((bt L k).toNat : Int) == 42) = true := by rw [hc]; rfl
              generalize inRow L M k (i + 1) = b at *
              generalize inRow L M (k + 1) i = b2 at *
              have hst := Lib.hid hst
              clear H3 Kg hc
              cases b <;> cases b2
              all_goals
                go_wp2
                go_roundw
                case rel => exact ⟨i + 1 + 1, by omega, by go_num, hst, hB3.setCell (Nat.le_refl _) _⟩
                case measure => simp [intOf] <;> omega
            · have hst := H3.out.bput (v := inRow L M k i && nameOne (bt L k) (bt M i)) (inRow_one hkL hiM hc)
              have hc1 : (((bt L k).toNat : Int) == 42) = false := ne_toNat (y := 42) hc
              have hc2 : ¬ ((bt L k).toNat : Int) = 42 := ne_toNat' (y := 42) hc
              have gx := gs.out i (by have := LS.out; omega)
              have hi1 : (i : Int) < s.size := by omega
              generalize inRow L M k i = b at *
              by_cases hq : bt L k = 63
              · have hq1 : (((bt L k).toNat : Int) == 63) = true := by rw [hq]; rfl
                rw [show nameOne (bt L k) (bt M i) = true by unfold nameOne; rw [hq]; rfl] at hst
                have hst := Lib.hid hst
                clear H3 Kg hc hc2 hq gx
                cases b
                all_goals
                  go_wp2
                  go_roundw
                  case rel => exact ⟨i + 1 + 1, by omega, by go_num, hst, hB3.setCell (Nat.le_refl _) _⟩
                  case measure => simp [intOf] <;> omega
              · have hq1 : (((bt L k).toNat : Int) == 63) = false := ne_toNat (y := 63) hq
                have hq2 : ¬ ((bt L k).toNat : Int) = 63 := ne_toNat' (y := 63) hq
                by_cases he : bt L k = bt M i
                · have he1 : (((bt L k).toNat : Int) == ((bt M i).toNat : Int)) = true := by rw [he]; simp
                  rw [show nameOne (bt L k) (bt M i) = true by unfold nameOne; rw [he]; simp] at hst
                  have hst := Lib.hid hst
                  clear H3 Kg hc hq he
                  cases b
                  all_goals
                    go_wp2
                    go_roundw
                    case rel => exact ⟨i + 1 + 1, by omega, by go_num, hst, hB3.setCell (Nat.le_refl _) _⟩
                    case measure => simp [intOf] <;> omega
                · have he1 := ne_toNat he
                  have he2 := ne_toNat' he
                  rw [show nameOne (bt L k) (bt M i) = false by unfold nameOne; rw [Bool.or_eq_false_iff, beq_eq_false_iff_ne, beq_eq_false_iff_ne]; exact ⟨hq, he⟩] at hst
                  have hst := Lib.hid hst
                  clear H3 Kg hc hq he
                  cases b
                  all_goals
                    go_wp2
                    go_roundw
                    case rel => exact ⟨i + 1 + 1, by omega, by go_num, hst, hB3.setCell (Nat.le_refl _) _⟩
                    case measure => simp [intOf] <;> omega
        · have hdone := Lib.hid (H3.out.bdone (by omega))
          have hb4 := Lib.hid (below_on hBr (hb3.trans hB3))
          clear H3
          go_wp2
          go_roundw
          case rel => exact ⟨k + 1, wo.heap.size, by omega, by go_num, rfl, hdone, hb4.out⟩
          case measure => simp [intOf] <;> omega
    · have hke : p.size ≤ k := by omega
      have hr := H.out.bget (i := s.size) (by omega)
      rw [inRow_end (by rw [← LP.out]; exact hke) (by rw [← LS.out]; exact Nat.le_refl _), HR.out] at hr
      clear H
      go_wp2
      go_ret
      exact ⟨rfl, below_on hB2 hBr⟩
end Go.Proofs.YtjhbmcgaehpadaaDoor
