/- Chapter 22: the document's open and over. -/
import Derived.Test.YtakdngcgjahafaaDoorSpF
import Derived.Test.YtakdngcgjahafaaDoorSpG
namespace Go.Proofs.YtakdngcgjahafaaDoor
open Go.RowKit
set_option linter.unusedVariables false

set_option maxHeartbeats 1000000 in
set_option maxRecDepth 100000 in
theorem open22 (e : EvD) (w : World) : Calls Tryd.prog 24 #[.agg #[.int .i64 e.asked, .int .i64 e.told, .int .i64 e.kind, .int .i64 e.gen, .slice e.fA e.files.length e.fC, .int .i64 e.err, .int .i64 e.agen, .int .i64 e.floor, .slice e.aA e.afiles.length e.aC, .slice e.mA e.mN e.mC]] w fun x w' => x = .returned (.bool (openE e)) ∧ Below w.heap.size w w' := by
  have hB : Below w.heap.size w (w.alloc (.cells #[Value.int .i64 e.asked, .int .i64 e.told, .int .i64 e.kind, .int .i64 e.gen, .slice e.fA e.files.length e.fC, .int .i64 e.err, .int .i64 e.agen, .int .i64 e.floor, .slice e.aA e.afiles.length e.aC, .slice e.mA e.mN e.mC] 54)) := (Below.refl _ w).alloc (Nat.le_refl _) _
  unfold openE openN
  by_cases h0 : e.told = 0
  · have g0 : (e.told == 0) = true := by rw [h0]; rfl
    rw [g0]
    clear h0
    go_enter Tryd.func24, Tryd.ntmps24
    go_wp2
    go_ret
    exact ⟨rfl, hB⟩
  · have g0 : (e.told == 0) = false := by rw [beq_eq_false_iff_ne]; exact h0
    rw [g0]
    by_cases h7 : e.err = 7
    · have g7 : (e.err == 7) = true := by rw [h7]; rfl
      rw [g7]
      clear h7 h0
      go_enter Tryd.func24, Tryd.ntmps24
      go_wp2
      go_ret
      exact ⟨by simp, hB⟩
    · have g7 : (e.err == 7) = false := by rw [beq_eq_false_iff_ne]; exact h7
      rw [g7]
      by_cases h6 : e.err = 16
      · have g6 : (e.err == 16) = true := by rw [h6]; rfl
        rw [g6]
        clear h7 h6 h0
        go_enter Tryd.func24, Tryd.ntmps24
        go_wp2
        go_ret
        exact ⟨by simp, hB⟩
      · have g6 : (e.err == 16) = false := by rw [beq_eq_false_iff_ne]; exact h6
        rw [g6]
        clear h7 h6 h0
        go_enter Tryd.func24, Tryd.ntmps24
        go_wp2
        go_ret
        exact ⟨by simp, hB⟩
theorem own_blk {w : World} {D n : Nat} {d : List Bool} (h : Blk w D 4 (drow d)) (hn : d.length = n) (hm : n ≤ 256) : w.ownsRow 0 4 1 (.slice (some ⟨D, 0, none⟩) n n) n (d.map Value.bool) := by
  refine ⟨by rw [List.length_map]; omega, .inr ⟨D, n, drow d, rfl, Nat.zero_le _, h, Nat.le_refl _, by unfold maxLen; omega, ?_, ?_⟩⟩
  · unfold drow; simp; omega
  · unfold drow
    rw [Nat.mul_one]
    exact List.take_of_length_le (by simp; omega)
theorem drow_cell {w : World} {D k : Nat} {d : List Bool} {q : Bool} (h : Blk w D 4 (drow d)) (hq : d[k]? = some q) : w.cell? ⟨D, k, none⟩ = some (.bool q) := by
  refine (h.cell k).trans ?_
  unfold drow
  rw [List.getElem?_toArray, List.getElem?_map, hq]
  rfl
set_option maxHeartbeats 2000000 in
set_option maxRecDepth 100000 in
theorem over_ref {V VD : Value} {l : List EvD} {d : List Bool} (w : World) (hh : Hist w V l) (hD : w.ownsRow 0 4 1 VD l.length (d.map Value.bool)) (hlen : d.length = l.length) (hl : l.length ≤ 256) :
    Calls Tryd.prog 43 #[V, VD] w fun x w' => x = .returned (.bool (overP l d)) ∧ Below w.heap.size w w' := by
  obtain ⟨R, hR⟩ : ∃ R, R = overP l d := ⟨_, rfl⟩
  have HR : Hid (overP (l.drop 0) (d.drop 0) = R) := Lib.hid (by rw [hR]; rfl)
  rw [← hR]
  obtain ⟨A, c, rfl, hcap, ha, _⟩ := own_arr hh.row
  obtain ⟨AD, CD, rfl, _, had, _⟩ := own_arr hD
  have HA := Lib.hid ha
  have HD := Lib.hid had
  clear hR hh ha hD had
  go_enter Tryd.func43, Tryd.ntmps43
  go_wp2
  go_loopw [5] (fun v wr => ∃ k : Nat, k ≤ l.length ∧ v = .int .i64 k ∧ Hid (overP (l.drop k) (d.drop k) = R) ∧ Below w.heap.size w wr) (fun v _ => l.length - (intOf v).toNat)
  case atStart => exact ⟨0, Nat.zero_le _, rfl, HR, Below.refl _ _⟩
  case round =>
    obtain ⟨k, hk, rfl, HK, hB⟩ := hrel
    by_cases hlt : k < l.length
    · obtain ⟨e, he⟩ : ∃ e, l[k]? = some e := ⟨_, List.getElem?_eq_getElem hlt⟩
      obtain ⟨q, hq⟩ : ∃ q, d[k]? = some q := ⟨_, List.getElem?_eq_getElem (by omega)⟩
      obtain ⟨b2, o2, rfl, hb2', hdc⟩ := HD.out.2 (by omega)
      have y0 := (hB.cell (p := ⟨b2, o2 + k, none⟩) hb2').trans (hdc k _ (by rw [List.getElem?_map, hq]; rfl))
      obtain ⟨e1, e2⟩ := drop2 he hq
      have H := HK.out
      rw [e1, e2, overP] at H
      have OPN := Lib.hid (fun W => open22 e W)
      have kl : (k : Int) < l.length := by omega
      obtain ⟨b1, o1, rfl, hb1, hcell⟩ := HA.out.2 (by omega)
      obtain ⟨c0, c1, c2, c3, c4, c5, c6, c7, c8, c9⟩ := ev_cells (fun i u h => (hB.cell (p := ⟨b1, o1 + i, none⟩) hb1).trans (hcell i u h)) he
      clear he hq e1 e2 HK hcell hdc
      cases q with
      | true =>
        have HST := Lib.hid (show overP (l.drop (k + 1)) (d.drop (k + 1)) = R by simpa using H)
        clear H
        go_wp2
        go_roundw
        case rel => exact ⟨k + 1, by omega, by go_num, HST, hB⟩
        case measure => simp [intOf] <;> omega
      | false =>
        cases hO : openE e with
        | true =>
          rw [hO] at H OPN
          have HST := Lib.hid (show overP (l.drop (k + 1)) (d.drop (k + 1)) = R by simpa using H)
          clear H
          go_wp2_with (go_at_call 24; (with_reducible refine (OPN.out _).mono ?_); rintro x w2 ⟨rfl, hb2⟩; have hB2 := below_on hB hb2)
          go_roundw
          case rel => exact ⟨k + 1, by omega, by go_num, HST, hB2⟩
          case measure => simp [intOf] <;> omega
        | false =>
          rw [hO] at H OPN
          have HST := Lib.hid (show false = R by simpa using H)
          clear H
          go_wp2_with (go_at_call 24; (with_reducible refine (OPN.out _).mono ?_); rintro x w2 ⟨rfl, hb2⟩; have hB2 := below_on hB hb2)
          go_ret
          exact ⟨by rw [← HST.out]; rfl, hB2⟩
    · have hkl : k = l.length := by omega
      have H := HK.out
      rw [List.drop_eq_nil_of_le (by omega : l.length ≤ k)] at H
      have HST := Lib.hid (show true = R by rw [← H]; rfl)
      clear H HK
      have kl : ¬ (k : Int) < l.length := by omega
      go_wp2
      go_ret
      exact ⟨by rw [← HST.out]; rfl, hB⟩
end Go.Proofs.YtakdngcgjahafaaDoor
