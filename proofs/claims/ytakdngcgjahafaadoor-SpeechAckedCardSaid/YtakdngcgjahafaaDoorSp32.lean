/- Chapter 22: what was acked; whether a tree was submitted. -/
import Derived.Test.YtakdngcgjahafaaDoorSp29
import Derived.Test.YtakdngcgjahafaaDoorSpG
namespace Go.Proofs.YtakdngcgjahafaaDoor
open Go.RowKit
set_option linter.unusedVariables false

set_option maxHeartbeats 4000000 in
set_option maxRecDepth 100000 in
theorem acked_ref (A : Option Addr) (c : Nat) (l : List EvD) (at_ : Int) (w : World) (hl : l.length ≤ 9223372036854775807) (ha : Arr w w.heap.size 10 A l.length (ecells l)) :
    Calls Tryd.prog 25 #[.slice A l.length c, .int .i64 at_] w fun x w' => x = .returned (.int .i64 (ackP l at_ (-1))) ∧ Below w.heap.size w w' := by
  obtain ⟨R, hR⟩ : ∃ R, R = ackP l at_ (-1) := ⟨_, rfl⟩
  have HR : Hid (ackP (l.drop 0) at_ (-1) = R) := Lib.hid (by rw [hR]; rfl)
  rw [← hR]
  have HA := Lib.hid ha
  clear hR ha
  go_enter Tryd.func25, Tryd.ntmps25
  go_wp2
  go_loopw [5, 6] (fun u v wr => ∃ (k : Nat) (best : Int), k ≤ l.length ∧ v = .int .i64 k ∧ u = .int .i64 best ∧ Hid (ackP (l.drop k) at_ best = R) ∧ Below w.heap.size w wr) (fun _ v _ => l.length - (intOf v).toNat)
  case atStart => exact ⟨0, -1, Nat.zero_le _, rfl, rfl, HR, Below.refl _ _⟩
  case round =>
    obtain ⟨k, best, hk, rfl, rfl, HK, hB⟩ := hrel
    by_cases hlt : k < l.length
    · obtain ⟨e, he⟩ : ∃ e, l[k]? = some e := ⟨_, List.getElem?_eq_getElem hlt⟩
      have kl : (k : Int) < l.length := by omega
      obtain ⟨b1, o1, rfl, hb1, hcell⟩ := HA.out.2 (by omega)
      obtain ⟨c0, c1, c2, c3, c4, c5, c6, c7, c8, c9⟩ := ev_cells (fun i u h => (hB.cell (p := ⟨b1, o1 + i, none⟩) hb1).trans (hcell i u h)) he
      have H := HK.out
      rw [drop_head he, ackP] at H
      clear he hcell HK
      by_cases g1 : e.kind = 1
      · have h1 : (e.kind == 1) = true := by rw [g1]; rfl
        by_cases g2 : 0 < e.told
        · by_cases g3 : e.told < at_
          · by_cases g4 : e.err = 0
            · have h4 : (e.err == 0) = true := by rw [g4]; rfl
              by_cases g5 : best < e.agen
              · have HST := Lib.hid (show ackP (l.drop (k + 1)) at_ e.agen = R by rw [← H, if_pos ⟨g1, g2, g3, g4, g5⟩])
                clear H g1 g4
                go_wp2
                go_roundw
                case rel => exact ⟨k + 1, e.agen, by omega, by go_num, rfl, HST, hB⟩
                case measure => simp [intOf] <;> omega
              · (have HST := Lib.hid (show ackP (l.drop (k + 1)) at_ best = R by (rw [← H, if_neg]; (rintro ⟨q1, q2, q3, q4, q5⟩; omega))); clear H; (go_wp2; go_roundw; (case rel => exact ⟨k + 1, best, by omega, by go_num, rfl, HST, hB⟩); (case measure => simp [intOf] <;> omega)))
            · have h4 : (e.err == 0) = false := by rw [beq_eq_false_iff_ne]; exact g4
              (have HST := Lib.hid (show ackP (l.drop (k + 1)) at_ best = R by (rw [← H, if_neg]; (rintro ⟨q1, q2, q3, q4, q5⟩; omega))); clear H; (go_wp2; go_roundw; (case rel => exact ⟨k + 1, best, by omega, by go_num, rfl, HST, hB⟩); (case measure => simp [intOf] <;> omega)))
          · (have HST := Lib.hid (show ackP (l.drop (k + 1)) at_ best = R by (rw [← H, if_neg]; (rintro ⟨q1, q2, q3, q4, q5⟩; omega))); clear H; (go_wp2; go_roundw; (case rel => exact ⟨k + 1, best, by omega, by go_num, rfl, HST, hB⟩); (case measure => simp [intOf] <;> omega)))
        · (have HST := Lib.hid (show ackP (l.drop (k + 1)) at_ best = R by (rw [← H, if_neg]; (rintro ⟨q1, q2, q3, q4, q5⟩; omega))); clear H; (go_wp2; go_roundw; (case rel => exact ⟨k + 1, best, by omega, by go_num, rfl, HST, hB⟩); (case measure => simp [intOf] <;> omega)))
      · have h1 : (e.kind == 1) = false := by rw [beq_eq_false_iff_ne]; exact g1
        (have HST := Lib.hid (show ackP (l.drop (k + 1)) at_ best = R by (rw [← H, if_neg]; (rintro ⟨q1, q2, q3, q4, q5⟩; omega))); clear H; (go_wp2; go_roundw; (case rel => exact ⟨k + 1, best, by omega, by go_num, rfl, HST, hB⟩); (case measure => simp [intOf] <;> omega)))
    · have H := HK.out
      rw [List.drop_eq_nil_of_le (by omega : l.length ≤ k)] at H
      have HST := Lib.hid (show best = R by rw [← H]; rfl)
      clear H HK
      have kl : ¬ (k : Int) < l.length := by omega
      go_wp2
      go_ret
      exact ⟨by rw [← HST.out]; rfl, hB⟩
/-- Whether a tree was asked to be kept ahead of a time. -/
def subB (fs : List FileD) (b : Int) : List EvD → Bool
  | [] => false
  | x :: l => (x.kind == 1 && decide (x.asked < b) && (ofE x.files == 0) && ((ofS x.files).toList == (ofS fs).toList)) || subB fs b l
theorem sub_of {fs : List FileD} {b : Int} : ∀ {l : List EvD}, (∃ x ∈ l, x.kind = 1 ∧ x.asked < b ∧ ofE x.files = 0 ∧ ofS x.files = ofS fs) → subB fs b l = true
  | [], ⟨x, hx, _⟩ => by cases hx
  | y :: l, ⟨x, hx, h1, h2, h3, h4⟩ => by
    rw [subB]
    rcases List.mem_cons.1 hx with rfl | hx
    · rw [h1, h3, h4, decide_eq_true h2]
      simp
    · rw [sub_of ⟨x, hx, h1, h2, h3, h4⟩, Bool.or_true]
set_option maxHeartbeats 8000000 in
set_option maxRecDepth 100000 in
theorem subm_any {V : Value} {l : List EvD} (w : World) (hh : Hist w V l) (hE : ∀ e ∈ l, EFit e) (hl : l.length ≤ 9223372036854775807) (FA : Option Addr) (FC : Nat) (fs : List FileD) (hz : fs.length ≤ 8796093022208) (hx : ∀ f ∈ fs, FOk f) (hf : Arr w w.heap.size 3 FA fs.length (fcells fs)) (b : Int) (hm : Ml w) :
    Calls Tryd.prog 26 #[V, .slice FA fs.length FC, .int .i64 b] w fun x w' => x = .returned (.bool (ofE fs == 0 && subB fs b l)) ∧ Below w.heap.size w w' := by
  obtain ⟨A, c, rfl, hcap, ha, _⟩ := own_arr hh.row
  have OX0 := Lib.hid (of_any FA FC fs w hz hx hf hm)
  unfold OfIs at OX0
  have HA := Lib.hid ha
  have HH := Lib.hid hh
  have HE := Lib.hid hE
  have HM := Lib.hid hm
  by_cases h0 : ofE fs = 0
  · have g0 : (ofE fs != 0) = false := by rw [h0]; rfl
    obtain ⟨R, hR⟩ : ∃ R, R = subB fs b l := ⟨_, rfl⟩
    rw [show (ofE fs == 0 && subB fs b l) = R by rw [h0, hR]; rfl]
    have HR : Hid (subB fs b (l.drop 0) = R) := Lib.hid (by rw [hR]; rfl)
    generalize hS : ofS fs = S at *
    have HS := Lib.hid hS
    clear ha hh hE hm hf hR hS h0
    go_enter Tryd.func26, Tryd.ntmps26
    go_wp2_with (go_at_call 35; (with_reducible refine (OX0.out).mono ?_); rintro x w1 ⟨rfl, hb1⟩)
    go_loopw [22] (fun v wr => ∃ k : Nat, k ≤ l.length ∧ v = .int .i64 k ∧ Hid (subB fs b (l.drop k) = R) ∧ Below w.heap.size w wr) (fun v _ => l.length - (intOf v).toNat)
    case atStart => exact ⟨0, Nat.zero_le _, rfl, HR, hb1⟩
    case round =>
      obtain ⟨k, hk, rfl, HK, hB⟩ := hrel
      by_cases hlt : k < l.length
      · obtain ⟨e, he⟩ : ∃ e, l[k]? = some e := ⟨_, List.getElem?_eq_getElem hlt⟩
        have kl : (k : Int) < l.length := by omega
        obtain ⟨b1, o1, rfl, hb1', hcell⟩ := HA.out.2 (by omega)
        obtain ⟨c0, c1, c2, c3, c4, c5, c6, c7, c8, c9⟩ := ev_cells (fun i u h => (hB.cell (p := ⟨b1, o1 + i, none⟩) hb1').trans (hcell i u h)) he
        have hef := HE.out e (List.mem_of_getElem? he)
        have hfs := HH.out.fs e (List.mem_of_getElem? he)
        have OX := Lib.hid (fun X (h : Below w.heap.size w X) => of_any e.fA e.fC e.files X (Nat.le_trans hef.2.1 (by omega)) hef.1 (own_slice (own_below hfs h)) (HM.out.on h))
        unfold OfIs at OX
        have H := HK.out
        rw [drop_head he, subB, HS.out] at H
        have heb := Blk.new wr 54 #[Value.int .i64 e.asked, .int .i64 e.told, .int .i64 e.kind, .int .i64 e.gen, .slice e.fA e.files.length e.fC, .int .i64 e.err, .int .i64 e.agen, .int .i64 e.floor, .slice e.aA e.afiles.length e.aC, .slice e.mA e.mN e.mC]
        have HEB := Lib.hid heb
        obtain ⟨y0, y1, y2, y3, y4, y5, y6, y7, y8, y9⟩ := evx heb
        have hB1 : Below w.heap.size w (wr.alloc (.cells #[Value.int .i64 e.asked, .int .i64 e.told, .int .i64 e.kind, .int .i64 e.gen, .slice e.fA e.files.length e.fC, .int .i64 e.err, .int .i64 e.agen, .int .i64 e.floor, .slice e.aA e.afiles.length e.aC, .slice e.mA e.mN e.mC] 54)) := hB.alloc hB.size _
        generalize ofE e.files = E at *
        generalize ofS e.files = T at *
        clear he hcell HK hef hfs heb
        by_cases g1 : e.kind = 1
        · have q1 : (e.kind == 1) = true := by rw [g1]; rfl
          by_cases g2 : e.asked < b
          · by_cases g3 : E = 0
            · have q3 : (E == 0) = true := by rw [g3]; rfl
              cases hst : (T.toList == S.toList) with
              | true =>
                have HST := Lib.hid (show true = R by rw [← H]; simp [g1, g2, g3, hst])
                clear H g1 g3
                go_wp2_with (go_at_call 35; (with_reducible refine (OX.out _ hB1).mono ?_); rintro x w3 ⟨rfl, hb3⟩; have hB3 := below_on hB1 hb3; obtain ⟨t0, t1, t2, t3, t4, t5, t6, t7, t8, t9⟩ := evx (HEB.out.below hb3 HEB.out.lt))
                go_ret
                exact ⟨by rw [← HST.out]; rfl, hB3⟩
              | false =>
                have HST := Lib.hid (show subB fs b (l.drop (k + 1)) = R by rw [← H]; simp [hst])
                clear H g1 g3
                (go_wp2_with (go_at_call 35; (with_reducible refine (OX.out _ hB1).mono ?_); rintro x w3 ⟨rfl, hb3⟩; have hB3 := below_on hB1 hb3; obtain ⟨t0, t1, t2, t3, t4, t5, t6, t7, t8, t9⟩ := evx (HEB.out.below hb3 HEB.out.lt)); go_roundw; (case rel => exact ⟨k + 1, by omega, by go_num, HST, hB3⟩); (case measure => simp [intOf] <;> omega))
            · have q3 : (E == 0) = false := by rw [beq_eq_false_iff_ne]; exact g3
              have HST := Lib.hid (show subB fs b (l.drop (k + 1)) = R by rw [← H]; simp [g3])
              clear H g1 g3
              (go_wp2_with (go_at_call 35; (with_reducible refine (OX.out _ hB1).mono ?_); rintro x w3 ⟨rfl, hb3⟩; have hB3 := below_on hB1 hb3; obtain ⟨t0, t1, t2, t3, t4, t5, t6, t7, t8, t9⟩ := evx (HEB.out.below hb3 HEB.out.lt)); go_roundw; (case rel => exact ⟨k + 1, by omega, by go_num, HST, hB3⟩); (case measure => simp [intOf] <;> omega))
          · have HST := Lib.hid (show subB fs b (l.drop (k + 1)) = R by rw [← H]; simp [g2])
            clear H g1
            (go_wp2_with (go_at_call 35; (with_reducible refine (OX.out _ hB1).mono ?_); rintro x w3 ⟨rfl, hb3⟩; have hB3 := below_on hB1 hb3; obtain ⟨t0, t1, t2, t3, t4, t5, t6, t7, t8, t9⟩ := evx (HEB.out.below hb3 HEB.out.lt)); go_roundw; (case rel => exact ⟨k + 1, by omega, by go_num, HST, hB3⟩); (case measure => simp [intOf] <;> omega))
        · have q1 : (e.kind == 1) = false := by rw [beq_eq_false_iff_ne]; exact g1
          have HST := Lib.hid (show subB fs b (l.drop (k + 1)) = R by rw [← H]; simp [g1])
          clear H g1
          (go_wp2_with (go_at_call 35; (with_reducible refine (OX.out _ hB1).mono ?_); rintro x w3 ⟨rfl, hb3⟩; have hB3 := below_on hB1 hb3; obtain ⟨t0, t1, t2, t3, t4, t5, t6, t7, t8, t9⟩ := evx (HEB.out.below hb3 HEB.out.lt)); go_roundw; (case rel => exact ⟨k + 1, by omega, by go_num, HST, hB3⟩); (case measure => simp [intOf] <;> omega))
      · have H := HK.out
        rw [List.drop_eq_nil_of_le (by omega : l.length ≤ k)] at H
        have HST := Lib.hid (show false = R by rw [← H]; rfl)
        clear H HK
        have kl : ¬ (k : Int) < l.length := by omega
        go_wp2
        go_ret
        exact ⟨by rw [← HST.out]; rfl, hB⟩
  · have g0 : (ofE fs != 0) = true := by simp [h0]
    rw [show (ofE fs == 0 && subB fs b l) = false by simp [h0]]
    clear ha hh hE hm hf h0
    go_enter Tryd.func26, Tryd.ntmps26
    go_wp2_with (go_at_call 35; (with_reducible refine (OX0.out).mono ?_); rintro x w1 ⟨rfl, hb1⟩)
    go_ret
    exact ⟨rfl, hb1⟩
end Go.Proofs.YtakdngcgjahafaaDoor
