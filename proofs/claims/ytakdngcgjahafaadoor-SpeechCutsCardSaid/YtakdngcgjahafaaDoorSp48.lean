/- Chapter 22: Counts. -/
import Derived.Test.YtakdngcgjahafaaDoorSp27
namespace Go.Proofs.YtakdngcgjahafaaDoor
open Go.RowKit
set_option linter.unusedVariables false

def kindE (e : EvD) : Nat := if openE e = true then 2 else if e.err = 0 then 0 else 1
def cntL (j : Nat) (l : List EvD) : Nat := (l.filter fun e => kindE e == j).length
theorem cnt_snoc {l : List EvD} {k : Nat} {e : EvD} (j : Nat) (h : l[k]? = some e) : cntL j (l.take (k + 1)) = cntL j (l.take k) + (if kindE e = j then 1 else 0) := by
  unfold cntL
  rw [List.take_add_one, h, Option.toList_some, List.filter_append, List.length_append, List.filter_cons]
  by_cases hk : kindE e = j
  · rw [if_pos hk, hk, if_pos (by simp)]; rfl
  · rw [if_neg hk, if_neg (by simpa using hk)]; rfl
theorem cnt_le (j : Nat) (l : List EvD) (k : Nat) : cntL j (l.take k) ≤ k := by
  unfold cntL
  refine Nat.le_trans (List.length_filter_le _ _) ?_
  rw [List.length_take]
  omega
def CntOut (w : World) (l : List EvD) (e : Ending) (w' : World) : Prop := e = .returned (.tuple #[.int .i64 (cntL 0 l : Nat), .int .i64 (cntL 1 l : Nat), .int .i64 (cntL 2 l : Nat)]) ∧ Below w.heap.size w w'
def CntR (l : List EvD) (w : World) (v0 v1 v2 v : Value) (wr : World) : Prop := ∃ k a b d : Nat, k ≤ l.length ∧ v0 = .int .i64 a ∧ v1 = .int .i64 b ∧ v2 = .int .i64 d ∧ v = .int .i64 k ∧ a ≤ k ∧ b ≤ k ∧ d ≤ k ∧ Hid (a = cntL 0 (l.take k)) ∧ Hid (b = cntL 1 (l.take k)) ∧ Hid (d = cntL 2 (l.take k)) ∧ Below w.heap.size w wr
set_option maxHeartbeats 4000000 in
set_option maxRecDepth 100000 in
theorem counts_any (w : World) {V : Value} {l : List EvD} (hh : Hist w V l) (hl : l.length ≤ 1048576) : Calls Tryd.prog 33 #[V] w (CntOut w l) := by
  obtain ⟨A, c, rfl, hcap, ha, _⟩ := own_arr hh.row
  have HA := Lib.hid ha
  have OA := Lib.hid (fun e W => open_any e W)
  clear ha hh
  go_enter Tryd.func33, Tryd.ntmps33
  go_wp2
  go_loopw [2, 3, 4, 9] (fun v0 v1 v2 v wr => CntR l w v0 v1 v2 v wr) (fun _ _ _ v _ => l.length - (intOf v).toNat)
  case atStart => unfold CntR; exact ⟨0, 0, 0, 0, Nat.zero_le _, rfl, rfl, rfl, rfl, Nat.le_refl _, Nat.le_refl _, Nat.le_refl _, Lib.hid rfl, Lib.hid rfl, Lib.hid rfl, Below.refl _ _⟩
  case round =>
    unfold CntR at hrel
    obtain ⟨k, a, b, d, hk, rfl, rfl, rfl, rfl, ha, hb, hd, HA0, HB0, HD0, hB⟩ := hrel
    by_cases hlt : k < l.length
    · have kl : (k : Int) < l.length := by omega
      obtain ⟨e, he⟩ : ∃ e, l[k]? = some e := ⟨_, List.getElem?_eq_getElem hlt⟩
      obtain ⟨b1, o1, rfl, hb1, hcell⟩ := HA.out.2 (by omega)
      obtain ⟨c0, c1, c2', c3', c4, c5, c6, c7, c8, c9⟩ := ev_cells (fun i u h => (hB.cell (p := ⟨b1, o1 + i, none⟩) hb1).trans (hcell i u h)) he
      have N0 := Lib.hid (cnt_snoc 0 he)
      have N1 := Lib.hid (cnt_snoc 1 he)
      have N2 := Lib.hid (cnt_snoc 2 he)
      have hB3 : Below w.heap.size w (wr.alloc (.cells #[Value.int .i64 e.asked, .int .i64 e.told, .int .i64 e.kind, .int .i64 e.gen, .slice e.fA e.files.length e.fC, .int .i64 e.err, .int .i64 e.agen, .int .i64 e.floor, .slice e.aA e.afiles.length e.aC, .slice e.mA e.mN e.mC] 54)) := hB.alloc hB.size _
      have OE := Lib.hid (fun W => open_any e.err W)
      clear hcell he
      by_cases h0 : e.told = 0
      · have g0 : (e.told == 0) = true := by rw [h0]; rfl
        have HK : Hid (kindE e = 2) := Lib.hid (by unfold kindE openE; rw [g0]; rfl)
        clear h0
        go_wp2
        (go_roundw; (case rel => unfold CntR; exact ⟨k + 1, a + 0, b + 0, d + 1, by omega, by go_num, by go_num, by go_num, by go_num, by omega, by omega, by omega, Lib.hid (by rw [N0.out, HK.out, HA0.out]; rfl), Lib.hid (by rw [N1.out, HK.out, HB0.out]; rfl), Lib.hid (by rw [N2.out, HK.out, HD0.out]; rfl), hB3⟩); (case measure => simp [intOf] <;> omega))
      · have g0 : (e.told == 0) = false := by rw [beq_eq_false_iff_ne]; exact h0
        cases hN : openN e.err with
        | true =>
          rw [hN] at OE
          have HK : Hid (kindE e = 2) := Lib.hid (by unfold kindE openE; rw [g0, hN]; rfl)
          clear h0 hN
          go_wp2_with (go_at_call 32; (with_reducible refine (OE.out _).mono ?_); rintro x w2 ⟨rfl, rfl⟩)
          (go_roundw; (case rel => unfold CntR; exact ⟨k + 1, a + 0, b + 0, d + 1, by omega, by go_num, by go_num, by go_num, by go_num, by omega, by omega, by omega, Lib.hid (by rw [N0.out, HK.out, HA0.out]; rfl), Lib.hid (by rw [N1.out, HK.out, HB0.out]; rfl), Lib.hid (by rw [N2.out, HK.out, HD0.out]; rfl), hB3⟩); (case measure => simp [intOf] <;> omega))
        | false =>
          rw [hN] at OE
          by_cases he0 : e.err = 0
          · have g5 : (e.err == 0) = true := by rw [he0]; rfl
            have HK : Hid (kindE e = 0) := Lib.hid (by unfold kindE openE; rw [g0, hN, if_neg (by simp), if_pos he0])
            clear h0 hN he0
            go_wp2_with (go_at_call 32; (with_reducible refine (OE.out _).mono ?_); rintro x w2 ⟨rfl, rfl⟩)
            (go_roundw; (case rel => unfold CntR; exact ⟨k + 1, a + 1, b + 0, d + 0, by omega, by go_num, by go_num, by go_num, by go_num, by omega, by omega, by omega, Lib.hid (by rw [N0.out, HK.out, HA0.out]; rfl), Lib.hid (by rw [N1.out, HK.out, HB0.out]; rfl), Lib.hid (by rw [N2.out, HK.out, HD0.out]; rfl), hB3⟩); (case measure => simp [intOf] <;> omega))
          · have g5 : (e.err == 0) = false := by rw [beq_eq_false_iff_ne]; exact he0
            have HK : Hid (kindE e = 1) := Lib.hid (by unfold kindE openE; rw [g0, hN, if_neg (by simp), if_neg he0])
            clear h0 hN he0
            go_wp2_with (go_at_call 32; (with_reducible refine (OE.out _).mono ?_); rintro x w2 ⟨rfl, rfl⟩)
            (go_roundw; (case rel => unfold CntR; exact ⟨k + 1, a + 0, b + 1, d + 0, by omega, by go_num, by go_num, by go_num, by go_num, by omega, by omega, by omega, Lib.hid (by rw [N0.out, HK.out, HA0.out]; rfl), Lib.hid (by rw [N1.out, HK.out, HB0.out]; rfl), Lib.hid (by rw [N2.out, HK.out, HD0.out]; rfl), hB3⟩); (case measure => simp [intOf] <;> omega))
    · have kl : ¬ (k : Int) < l.length := by omega
      have hkl : l.take k = l := List.take_of_length_le (by omega)
      have e0 := HA0.out
      have e1 := HB0.out
      have e2 := HD0.out
      rw [hkl] at e0 e1 e2
      have HE0 := Lib.hid e0
      have HE1 := Lib.hid e1
      have HE2 := Lib.hid e2
      clear e0 e1 e2 hkl
      go_wp2
      (try simp only [Exit.inBlock, Exit.then])
      refine bodyPost_ret (results_tmp3 rfl _ _ _) rfl ?_
      unfold CntOut
      rw [HE0.out, HE1.out, HE2.out]
      exact ⟨rfl, hB⟩
end Go.Proofs.YtakdngcgjahafaaDoor
