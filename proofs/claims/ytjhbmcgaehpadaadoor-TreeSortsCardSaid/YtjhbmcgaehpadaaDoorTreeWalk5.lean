/- The walks through Pattern and Match. -/
import Derived.Test.YtjhbmcgaehpadaaDoorTreeWalk4
namespace Go.Proofs.YtjhbmcgaehpadaaDoor
open Go.RowKit
set_option linter.unusedVariables false

set_option maxHeartbeats 1000000 in
set_option maxRecDepth 100000 in
theorem pattern_any (s : ByteArray) (w : World) (hs : s.size ≤ 9223372036854775807) (hm : Ml w) :
    Calls Tryd.prog 21 #[.string s] w fun e w' => e = .returned (.int .i64 (patE s.data.toList)) ∧ Below w.heap.size w w' := by
  by_cases h : 200 < s.size
  · have h' : (200 : Int) < s.size := by omega
    rw [show patE s.data.toList = 4 from if_pos (by rw [← bt_size]; exact h)]
    go_enter Tryd.func21, Tryd.ntmps21
    go_wp2
    go_ret
    exact ⟨rfl, Below.refl _ _⟩
  · have h' : ¬ (200 : Int) < s.size := by omega
    rw [patE_of s (by omega)]
    have HS := Lib.hid (split_c s w (by omega) hm)
    have hle := pieces_le s
    have hea := Lib.hid (pieces_each s)
    generalize pieces s = l at HS hle hea
    generalize hR : (if l.all (fun p => patNameOk p.data.toList) = true then (0 : Int) else 10) = R
    have HR := Lib.hid hR
    clear hR
    go_enter Tryd.func21, Tryd.ntmps21
    go_wp2_with (go_at_call 44; refine HS.out.mono ?_; rintro e w1 ⟨rfl, hk1, hz1, hb1⟩)
    go_loopw [11] (fun v wr => ∃ (k : Nat), k ≤ l.length ∧ v = .int .i64 k ∧ Hid ((l.take k).all (fun p => patNameOk p.data.toList) = true) ∧ Below w1.heap.size w1 wr) (fun v _ => l.length - (intOf v).toNat)
    case atStart => exact ⟨0, Nat.zero_le _, rfl, by simp [Hid], Below.refl _ _⟩
    case round =>
      obtain ⟨k, hk, rfl, H, hB⟩ := hrel
      by_cases hlt : k < l.length
      · obtain ⟨x, hx⟩ : ∃ x, l[k]? = some x := ⟨_, List.getElem?_eq_getElem hlt⟩
        have hc : wr.cell? ⟨w.heap.size, k, none⟩ = some (.string x) := by
          rw [(hk1.below hB (by omega)).cell]
          simp [hx]
        have hxs := hea.out x (List.mem_of_getElem? hx)
        by_cases hx2 : x = ⟨#[42, 42]⟩
        · have hst := each_step (f := fun p => patNameOk p.data.toList) hx H (by subst hx2; rfl)
          subst hx2
          clear H hx hxs
          go_wp2
          go_roundw
          case rel => exact ⟨k + 1, by omega, by go_num, hst, hB⟩
          case measure => simp [intOf] <;> omega
        · have hok : patNameOk x.data.toList = nameOk (plainL x.data.toList) := by
            unfold patNameOk
            rw [show (x.data.toList == [42, 42]) = false by rw [beq_eq_false_iff_ne]; exact fun h => hx2 (ba_ext h)]
            rfl
          obtain ⟨e2, e2'⟩ := bl_ne (s := x) (l := [42, 42]) (fun h => hx2 (ba_ext h))
          have HP := Lib.hid (fun W => plain_any x W (by omega))
          obtain ⟨y, hy⟩ : ∃ y : ByteArray, y = ⟨(plainL x.data.toList).toArray⟩ := ⟨_, rfl⟩
          have hys : y.size = x.size := by rw [hy, bt_size, bt_size]; unfold plainL; simp
          have hyl : y.data.toList = plainL x.data.toList := by rw [hy]
          rw [← hyl] at hok
          have hn := fun W => name_any y W (by omega)
          have HP2 : Hid (∀ W, Calls Tryd.prog 51 #[.string x] W fun e w' => e = .returned (.string y) ∧ Below W.heap.size W w') := Lib.hid (by rw [hy]; exact HP.out)
          have HX := Lib.hid hx
          clear hx HP hy hys hyl hx2
          cases hoy : nameOk y.data.toList
          · rw [hoy] at hn hok
            have HN := Lib.hid hn
            have hb := each_bad (f := fun p => patNameOk p.data.toList) HX.out hok
            have HB := Lib.hid (HR.out.symm.trans (if_neg (by rw [hb]; simp)))
            clear hn hok hb H hoy
            go_wp2_with (first
              | (go_at_call 51; with_reducible refine (HP2.out _).mono ?_; rintro e w2 ⟨rfl, hb2⟩)
              | (go_at_call 45; with_reducible refine (HN.out _).mono ?_; rintro e w3 ⟨rfl, hb3⟩))
            go_ret
            exact ⟨by rw [HB.out]; rfl, below_on hb1 (below_on hB (below_on hb2 hb3))⟩
          · rw [hoy] at hn hok
            have HN := Lib.hid hn
            have hst := each_step (f := fun p => patNameOk p.data.toList) HX.out H hok
            clear hn hok H hoy
            go_wp2_with (first
              | (go_at_call 51; with_reducible refine (HP2.out _).mono ?_; rintro e w2 ⟨rfl, hb2⟩)
              | (go_at_call 45; with_reducible refine (HN.out _).mono ?_; rintro e w3 ⟨rfl, hb3⟩))
            go_roundw
            case rel => exact ⟨k + 1, by omega, by go_num, hst, below_on hB (below_on hb2 hb3)⟩
            case measure => simp [intOf] <;> omega
      · have hb := each_end (by omega) H
        have HB := Lib.hid (HR.out.symm.trans (if_pos hb))
        clear H hb
        go_wp2
        go_ret
        exact ⟨by rw [HB.out]; rfl, below_on hb1 hB⟩

/-! ### Match -/
/-- Row k of the table. -/
def mtRow (p s : List ByteArray) (k i : Nat) : Bool := fitB (fun a : ByteArray => pathStar a.data.toList) (fun a b : ByteArray => inNameB a.data.toList b.data.toList) (p.take k) (s.take i)
section
variable {p s : List ByteArray} {k i : Nat} {x y : ByteArray}
theorem mtRow_zero (hi : i ≤ s.length) : mtRow p s 0 i = decide (i = 0) := front_zero _ _ hi
theorem star2 : pathStar (⟨#[42, 42]⟩ : ByteArray).data.toList = true := rfl
theorem notStar2 (h : x ≠ ⟨#[42, 42]⟩) : pathStar x.data.toList = false := by unfold pathStar; rw [beq_eq_false_iff_ne]; exact fun e => h (ba_ext e)
theorem mtRow_star0 (hk : p[k]? = some ⟨#[42, 42]⟩) : mtRow p s (k + 1) 0 = mtRow p s k 0 := front_star0 _ _ hk star2
theorem mtRow_star (hk : p[k]? = some ⟨#[42, 42]⟩) (hi : s[i]? = some y) : mtRow p s (k + 1) (i + 1) = (mtRow p s k (i + 1) || mtRow p s (k + 1) i) := front_star _ _ hk star2 hi
theorem mtRow_one0 (hk : p[k]? = some x) (hc : x ≠ ⟨#[42, 42]⟩) : mtRow p s (k + 1) 0 = false := front_one0 _ _ hk (notStar2 hc)
theorem mtRow_one (hk : p[k]? = some x) (hc : x ≠ ⟨#[42, 42]⟩) (hi : s[i]? = some y) : mtRow p s (k + 1) (i + 1) = (mtRow p s k i && inNameB x.data.toList y.data.toList) := front_one _ _ hk (notStar2 hc) hi
end
theorem mtRow_end {p s : ByteArray} {k i : Nat} (hk : (pieces p).length ≤ k) (hi : (pieces s).length ≤ i) : mtRow (pieces p) (pieces s) k i = matchL p.data.toList s.data.toList := by
  unfold mtRow matchL
  rw [List.take_of_length_le hk, List.take_of_length_le hi, ← pieces_list, ← pieces_list, fitB_map]
theorem mtRow_start {w : World} {g : Nat} {t : TypeId} {p s : List ByteArray} (h : Blk w g t (brow (s.length + 1) fun _ => false)) : Blk (w.setCell ⟨g, 0, none⟩ (.bool true)) g t (brow (s.length + 1) (mtRow p s 0)) := by
  have h2 := h.set_ 0 (.bool true)
  rw [brow_set] at h2
  rwa [brow_congr (g := mtRow p s 0)] at h2
  intro i hi
  rw [mtRow_zero (by omega)]
  by_cases e : i = 0
  · simp [e]
  · simp [e]
theorem patE_long {p : ByteArray} (h : patE p.data.toList = 0) : p.size ≤ 200 := by
  rcases Nat.lt_or_ge 200 p.size with h2 | h2
  · unfold patE at h
    rw [if_pos (by rw [← bt_size]; exact h2)] at h
    cases h
  · exact h2
theorem pathE_long {p : ByteArray} (h : pathE p.data.toList = 0) : p.size ≤ 200 := by
  rcases Nat.lt_or_ge 200 p.size with h2 | h2
  · unfold pathE at h
    rw [if_pos (by rw [← bt_size]; exact h2)] at h
    cases h
  · exact h2
theorem str_cell {w : World} {g : Nat} {t : TypeId} {l : List ByteArray} {k : Nat} {x : ByteArray} (h : Blk w g t (l.map Value.string).toArray) (hx : l[k]? = some x) : w.cell? ⟨g, k, none⟩ = some (.string x) := by
  rw [h.cell]
  simp [hx]

set_option maxHeartbeats 1000000 in
set_option maxRecDepth 100000 in
theorem match_in (p s : ByteArray) (w : World) (hp : p.size ≤ 200) (hs : s.size ≤ 200) (hm : Ml w)
    (HP : Hid (∀ W, Ml W → Calls Tryd.prog 21 #[.string p] W fun e w' => e = .returned (.int .i64 0) ∧ Below W.heap.size W w'))
    (HQ : Hid (∀ W, Ml W → Calls Tryd.prog 14 #[.string s] W fun e w' => e = .returned (.int .i64 0) ∧ Below W.heap.size W w')) :
    Calls Tryd.prog 23 #[.string p, .string s] w fun e w' => e = .returned (.bool (matchL p.data.toList s.data.toList)) ∧ Below w.heap.size w w' := by
  have HS1 := Lib.hid (fun W hm => split_c p W (by omega) hm)
  have HS2 := Lib.hid (fun W hm => split_c s W (by omega) hm)
  have le1 := pieces_le p
  have le2 := pieces_le s
  have ea1 := Lib.hid (pieces_each p)
  have ea2 := Lib.hid (pieces_each s)
  have hend := Lib.hid (fun k => mtRow_end (p := p) (s := s) (k := k) (i := (pieces s).length))
  generalize pieces p = P at HS1 le1 ea1 hend
  generalize pieces s = Q at HS2 le2 ea2 hend
  generalize matchL p.data.toList s.data.toList = R at hend ⊢
  have hmk := fun W => make_bools Q.length (by omega) W
  go_enter Tryd.func23, Tryd.ntmps23
  go_wp2_with (first
    | (go_at_call 21; with_reducible refine (HP.out _ hm).mono ?_; rintro e w1 ⟨rfl, hb1⟩; have hm1 := hm.on hb1)
    | (go_at_call 14; with_reducible refine (HQ.out _ hm1).mono ?_; rintro e w2 ⟨rfl, hb2⟩; have hm2 := hm1.on hb2)
    | (go_at_call 44; with_reducible refine (HS2.out _ hm2).mono ?_; rintro e w3 ⟨rfl, hk3, hz3, hb3⟩; obtain ⟨w4, hmk4, hk4, hz4, hb4⟩ := hmk w3; have HK3 := Lib.hid hk3; have HK4 := Lib.hid hk4; have HZ3 := Lib.hid hz3; have HZ4 := Lib.hid hz4; clear hz3 hz4 hk3 hk4; have c0 := HK4.out.bget (i := 0) (Nat.succ_pos _); have f0 := HK4.out.frozen 0; have hB3 := below_on hb1 (below_on hb2 hb3); have hB5 := (below_on hB3 hb4).setCell (p := ⟨w3.heap.size, 0, none⟩) hB3.size (.bool true); have hm5 := hm.on hB5; have K5 := Lib.hid (mtRow_start (p := P) HK4.out))
    | (go_at_call 44; with_reducible refine (HS1.out _ hm5).mono ?_; rintro e w6 ⟨rfl, hk6, hz6, hb6⟩; have HK6 := Lib.hid hk6; have HZ6 := Lib.hid hz6; clear hk6 hz6; have K6 := Lib.hid (K5.out.below hb6 K5.out.lt); have hB6 := below_on hB5 hb6))
  have KQ : Hid (Blk w6 w2.heap.size 9 (Q.map Value.string).toArray) := Lib.hid (((HK3.out.below hb4 HK3.out.lt).far (by have := HZ3.out; simp; omega) _).below hb6 (by have := HZ3.out; have := HZ4.out; simp [World.setCell]; omega))
  have hq6 : w2.heap.size < w6.heap.size := KQ.out.lt
  have HK6 : Hid (Blk w6 w4.heap.size 9 (P.map Value.string).toArray) := Lib.hid (by have := HK6.out; rwa [show (w4.setCell ⟨w3.heap.size, 0, none⟩ (.bool true)).heap.size = w4.heap.size by simp [World.setCell]] at this)
  clear c0 f0 hmk4
  go_loopw [6, 30] (fun rv v wr => ∃ (k g : Nat), k ≤ P.length ∧ v = .int .i64 k ∧ rv = .slice (some ⟨g, 0, none⟩) (Q.length + 1) (Q.length + 1) ∧ Hid (Blk wr g 4 (brow (Q.length + 1) (mtRow P Q k))) ∧ Below w6.heap.size w6 wr) (fun _ v _ => P.length - (intOf v).toNat)
  case atStart => exact ⟨0, w3.heap.size, Nat.zero_le _, rfl, rfl, K6, Below.refl _ _⟩
  case round =>
    obtain ⟨k, g, hk, rfl, rfl, H, hBr⟩ := hrel
    obtain ⟨wo, hwo⟩ : ∃ wo, wo = wr := ⟨_, rfl⟩
    subst hwo
    have hg := H.out.lt
    by_cases hlt : k < P.length
    · obtain ⟨x, hx⟩ : ∃ x, P[k]? = some x := ⟨_, List.getElem?_eq_getElem hlt⟩
      have cc : wo.cell? ⟨w4.heap.size, k, none⟩ = some (.string x) := str_cell (HK6.out.below hBr HK6.out.lt) hx
      have hxs := ea1.out x (List.mem_of_getElem? hx)
      have HX := Lib.hid hx
      clear hx
      obtain ⟨w7, hmk7, hk7, hz7, hb7⟩ := hmk wo
      have K7 : Hid (Blk w7 wo.heap.size 4 (brow (Q.length + 1) (fun i => if i < 0 then mtRow P Q (k + 1) i else false))) := Lib.hid (by simpa using hk7)
      have HH := Lib.hid (H.out.below hb7 hg)
      have HZ7 := Lib.hid hz7
      have hB7 := below_on hBr hb7
      clear hk7 hz7 H
      go_wp2
      go_loopw [40] (fun v wi => ∃ (j : Nat), j ≤ Q.length + 1 ∧ v = .int .i64 j ∧ Hid (Blk wi wo.heap.size 4 (brow (Q.length + 1) (fun i => if i < j then mtRow P Q (k + 1) i else false))) ∧ Below wo.heap.size w7 wi) (fun v _ => Q.length + 1 - (intOf v).toNat)
      case atStart => exact ⟨0, Nat.zero_le _, rfl, K7, Below.refl _ _⟩
      case round =>
        obtain ⟨j, hj, rfl, H3, hB3⟩ := hrel
        have hwoz : wo.heap.size < wr.heap.size := H3.out.lt
        by_cases hjn : j < Q.length + 1
        · have hcell : wr.cell? ⟨wo.heap.size, j, none⟩ = some (.bool false) := by
            rw [H3.out.bget hjn, if_neg (Nat.lt_irrefl _)]
          have hfr := H3.out.frozen j
          have Kg := HH.out.below hB3 hg
          have g0 := Kg.bget (i := j) (by omega)
          rcases j with _ | i
          · by_cases hc : x = ⟨#[42, 42]⟩
            · have hst := H3.out.bput (v := mtRow P Q k 0) (mtRow_star0 (hc ▸ HX.out))
              generalize mtRow P Q k 0 = b at *
              have hst := Lib.hid hst
              subst hc
              clear H3 Kg
              cases b
              all_goals
                go_wp2
                go_roundw
                case rel => exact ⟨0 + 1, by omega, by go_num, hst, hB3.setCell (Nat.le_refl _) _⟩
                case measure => simp [intOf] <;> omega
            · have hst := Lib.hid (H3.out.bskip (mtRow_one0 HX.out hc))
              obtain ⟨e2, e2'⟩ := bl_ne (s := x) (l := [42, 42]) (fun h => hc (ba_ext h))
              clear H3 Kg hc
              go_wp2
              go_roundw
              case rel => exact ⟨0 + 1, by omega, by go_num, hst, hB3⟩
              case measure => simp [intOf] <;> omega
          · have hiM : i < Q.length := by omega
            have g1 := H3.out.bget (i := i) (by omega)
            rw [if_pos (by omega)] at g1
            have g2 := Kg.bget (i := i) (by omega)
            obtain ⟨y, hy⟩ : ∃ y, Q[i]? = some y := ⟨_, List.getElem?_eq_getElem hiM⟩
            have hqo : w2.heap.size < wo.heap.size := by have := hBr.size; omega
            have g3 : wr.cell? ⟨w2.heap.size, i, none⟩ = some (.string y) := str_cell (((KQ.out.below hBr hq6).below hb7 hqo).below hB3 hqo) hy
            have hys := ea2.out y (List.mem_of_getElem? hy)
            have HY := Lib.hid hy
            clear hy
            have i1 : ((i : Int) + 1) - 1 = i := by omega
            by_cases hc : x = ⟨#[42, 42]⟩
            · have hst := H3.out.bput (v := mtRow P Q k (i + 1) || mtRow P Q (k + 1) i) (mtRow_star (hc ▸ HX.out) HY.out)
              generalize mtRow P Q k (i + 1) = b at *
              generalize mtRow P Q (k + 1) i = b2 at *
              have hst := Lib.hid hst
              subst hc
              clear H3 Kg
              cases b <;> cases b2
              all_goals
                go_wp2
                go_roundw
                case rel => exact ⟨i + 1 + 1, by omega, by go_num, hst, hB3.setCell (Nat.le_refl _) _⟩
                case measure => simp [intOf] <;> omega
            · obtain ⟨e2, e2'⟩ := bl_ne (s := x) (l := [42, 42]) (fun h => hc (ba_ext h))
              have HI := Lib.hid (fun W => inName_any x y W (by omega) (by omega))
              have hst := mtRow_one HX.out hc HY.out
              generalize inNameB x.data.toList y.data.toList = b2 at *
              generalize mtRow P Q k i = b at *
              have hst := Lib.hid hst
              have H3 := Lib.hid H3
              clear Kg hc
              cases b
              · have hst2 := Lib.hid (H3.out.out.bput hst.out)
                go_wp2
                go_roundw
                case rel => exact ⟨i + 1 + 1, by omega, by go_num, hst2, hB3.setCell (Nat.le_refl _) _⟩
                case measure => simp [intOf] <;> omega
              · have hst3 : Hid (mtRow P Q (k + 1) (i + 1) = b2) := Lib.hid (by rw [hst.out]; cases b2 <;> rfl)
                go_wp2_with (go_at_call 52; with_reducible refine (HI.out _).mono ?_; rintro e w8 ⟨rfl, hb8⟩; have c8 := (hb8.cell (p := ⟨wo.heap.size, i + 1, none⟩) hwoz).trans hcell; have f8 := (hb8.frozen (p := ⟨wo.heap.size, i + 1, none⟩) hwoz).trans hfr)
                have hst2 := Lib.hid ((H3.out.out.below hb8 hwoz).bput hst3.out)
                go_roundw
                case rel => exact ⟨i + 1 + 1, by omega, by go_num, hst2, (hB3.trans (hb8.mono (by omega))).setCell (Nat.le_refl _) _⟩
                case measure => simp [intOf] <;> omega
        · have hdone := Lib.hid (H3.out.bdone (by omega))
          have hb4 := Lib.hid (below_on hBr (hb7.trans hB3))
          clear H3
          go_wp2
          go_roundw
          case rel => exact ⟨k + 1, wo.heap.size, by omega, by go_num, rfl, hdone, hb4.out⟩
          case measure => simp [intOf] <;> omega
    · have hke : P.length ≤ k := by omega
      have hr := H.out.bget (i := Q.length) (by omega)
      rw [hend.out k hke (Nat.le_refl _)] at hr
      clear H
      go_wp2
      go_ret
      exact ⟨rfl, below_on hB6 hBr⟩

set_option maxHeartbeats 1000000 in
set_option maxRecDepth 100000 in
theorem match_any (p s : ByteArray) (w : World) (hp : p.size ≤ 9223372036854775807) (hs : s.size ≤ 9223372036854775807) (hm : Ml w) :
    Calls Tryd.prog 23 #[.string p, .string s] w fun e w' => e = .returned (.bool (matchB p.data.toList s.data.toList)) ∧ Below w.heap.size w w' := by
  have hP := fun W h => pattern_any p W hp h
  have hQ := fun W h => path_any s W hs h
  unfold matchB
  by_cases h1 : patE p.data.toList = 0
  · rw [h1] at hP ⊢
    by_cases h2 : pathE s.data.toList = 0
    · rw [h2] at hQ ⊢
      exact match_in p s w (patE_long h1) (pathE_long h2) hm (Lib.hid hP) (Lib.hid hQ)
    · rw [show (pathE s.data.toList == 0) = false by rw [beq_eq_false_iff_ne]; exact h2]
      have e2 : (pathE s.data.toList == 0) = false := by rw [beq_eq_false_iff_ne]; exact h2
      have HP := Lib.hid hP
      have HQ := Lib.hid hQ
      generalize pathE s.data.toList = E at *
      clear hP hQ
      go_enter Tryd.func23, Tryd.ntmps23
      go_wp2_with (first
        | (go_at_call 21; with_reducible refine (HP.out _ hm).mono ?_; rintro e w1 ⟨rfl, hb1⟩; have hm1 := hm.on hb1)
        | (go_at_call 14; with_reducible refine (HQ.out _ hm1).mono ?_; rintro e w2 ⟨rfl, hb2⟩))
      go_ret
      exact ⟨rfl, below_on hb1 hb2⟩
  · rw [show (patE p.data.toList == 0) = false by rw [beq_eq_false_iff_ne]; exact h1]
    have e2 : (patE p.data.toList == 0) = false := by rw [beq_eq_false_iff_ne]; exact h1
    have HP := Lib.hid hP
    generalize patE p.data.toList = E at *
    clear hP hQ
    go_enter Tryd.func23, Tryd.ntmps23
    go_wp2_with (go_at_call 21; with_reducible refine (HP.out _ hm).mono ?_; rintro e w1 ⟨rfl, hb1⟩)
    go_ret
    exact ⟨rfl, hb1⟩
end Go.Proofs.YtjhbmcgaehpadaaDoor
