/- The walk through SpeechFinds. -/
import Derived.Test.YtakdngcgjahafaaDoorSp35
import Derived.Test.YtakdngcgjahafaaDoorSp36
namespace Go.Proofs.YtakdngcgjahafaaDoor
open Go.RowKit
set_option linter.unusedVariables false

set_option maxHeartbeats 8000000 in
set_option maxRecDepth 100000 in
theorem law_finds (A : Option Addr) (c : Nat) (l0 : List EvD) (w : World) (hz : l0.length ≤ 9223372036854775807) (ha : Arr w w.heap.size 10 A l0.length (ecells l0)) (hi : ∀ e ∈ l0, EvIn w e) (hm : Ml w) :
    Calls Tryd.prog 4 #[.slice A l0.length c] w fun e w' => e = .returned (.bool true) ∧ Below w.heap.size w w' := by
  have AW := Lib.hid (fun X (h : Below w.heap.size w X) => awake22 X (hm.on h))
  have SH0 := short_any A c l0 5 w hz (by omega) ha hi
  rw [show ((5 : Nat) : Int) = 5 from rfl] at SH0
  have SH := Lib.hid SH0
  clear SH0
  unfold ShortOut at SH
  have HM := Lib.hid hm
  generalize l0.length = n0 at *
  clear ha hi hm hz
  go_enter Tryd.func4, Tryd.ntmps4
  go_wp2_with (go_at_call 19; (with_reducible refine (SH.out).mono ?_); rintro x w1 ⟨V, l, rfl, hg, hl8, hb1⟩; have HGW := Lib.hid hg; have HB1 := Lib.hid hb1; clear hg hb1)
  have hh := HGW.out.hist
  have hE : ∀ e ∈ l, EFit e := fun e he => (HGW.out.fit e he).1
  have OR := Lib.hid (ord_any w1 (HM.out.on HB1.out) hh hE (by omega) (steps := 100000) (by omega))
  have Q1 := Lib.hid (order_holds (l := l) (steps := 100000))
  have Q2 := Lib.hid (order_err (l := l) (steps := 100000))
  have Q3 := Lib.hid (order_err1 (l := l) (steps := 100000))
  have Q4 := Lib.hid (order_is (l := l) (steps := 100000))
  have Q5 := Lib.hid (order_none (l := l) (steps := 100000))
  have HC := Lib.hid (fun X (h : Below w1.heap.size w1 X) D (hD : Blk X D 4 (drow (List.replicate l.length false))) => can_ref w HM.out (by omega) hE 257 (List.replicate l.length false) ⟨0, []⟩ X _ (.slice none 0 0) (by have := undone_rep l.length; unfold undone; omega) List.length_replicate ⟨by decide, by decide, by simp, by simp⟩ (HB1.out.trans (h.mono HB1.out.size)) (hh.below h) (own_blk hD List.length_replicate (by omega)) (World.ownsRow_nil _ _ _ _))
  obtain ⟨LA, LC, rfl, _, hla, _⟩ := own_arr hh.row
  have HR := Lib.hid (fun X (h : Below w1.heap.size w1 X) s SA SC hs hsa => holds_ref X (HM.out.on (HB1.out.trans (h.mono HB1.out.size))) (hh.below h) hE (by omega) SA SC s hs hsa)
  have RG := Lib.hid (fun X (h : Below w1.heap.size w1 X) => evs_right_ref LA LC l X (by omega) ((hla.below h).more h.size))
  have hmk := made_done l.length (by omega)
  generalize orderP l 100000 = P at *
  obtain ⟨pe, po⟩ := P
  unfold OrderOut at OR
  simp only [] at OR Q1 Q2 Q3 Q4 Q5
  clear hh hla hE
  cases hrr : rightP l with
  | false =>
    obtain rfl : pe = 1 := Q3.out.2 (.inl hrr)
    obtain rfl : po = [] := Q2.out (by decide)
    rw [hrr] at RG
    clear hrr Q1 Q2 Q3 Q4 Q5 HR HC hmk
    go_wp2_with (first | (go_at_call 20; (with_reducible refine (OR.out).mono ?_); rintro x w2 ⟨U, rfl, ho, hb2⟩; obtain ⟨UA, UC, rfl, _, _, _⟩ := own_arr ho; clear ho) | (go_at_call 21; (with_reducible refine (RG.out w2 hb2).mono ?_); rintro x w3 ⟨rfl, hb3⟩; have hb23 := below_on hb2 hb3; have hBW := HB1.out.trans (hb23.mono HB1.out.size)) | (go_at_call 18; (with_reducible refine (AW.out _ hBW).mono ?_); rintro x w9 ⟨rfl, hb9⟩; have hB9 := below_on hBW hb9) | (fail))
    go_ret
    exact ⟨rfl, hB9⟩
  | true =>
    rw [hrr] at RG
    by_cases h0 : pe = 0
    · subst h0
      have HQ := Lib.hid (Q1.out rfl)
      clear hrr Q1 Q2 Q3 Q4 Q5 HC hmk
      go_wp2_with (first
        | (go_at_call 20; (with_reducible refine (OR.out).mono ?_); rintro x w2 ⟨U, rfl, ho, hb2⟩; obtain ⟨UA, UC, rfl, hu1, hu2⟩ := own_ints ho; clear ho)
        | (go_at_call 21; (with_reducible refine (RG.out w2 hb2).mono ?_); rintro x w3 ⟨rfl, hb3⟩; have hb23 := below_on hb2 hb3; have hBW := HB1.out.trans (hb23.mono HB1.out.size))
        | (go_at_call 22; (with_reducible refine (HR.out w3 hb23 (ints po) UA UC hu1 ((hu2.below hb3).more hb3.size)).mono ?_); rw [HQ.out]; rintro x w4 ⟨rfl, hb4⟩; have hBW := HB1.out.trans ((below_on hb23 hb4).mono HB1.out.size))
        | (go_at_call 18; (with_reducible refine (AW.out _ hBW).mono ?_); rintro x w9 ⟨rfl, hb9⟩; have hB9 := below_on hBW hb9)
        | (fail))
      go_ret
      exact ⟨rfl, hB9⟩
    · obtain rfl : po = [] := Q2.out h0
      have hn1 : pe ≠ 1 := fun h => by
        rcases Q3.out.1 h with h | h
        · rw [hrr] at h; cases h
        · omega
      rcases Q4.out with h | h | h | h
      · exact absurd h h0
      · exact absurd h hn1
      · subst h
        clear hrr Q1 Q2 Q3 Q4 Q5 HR HC hmk h0 hn1
        go_wp2_with (first | (go_at_call 20; (with_reducible refine (OR.out).mono ?_); rintro x w2 ⟨U, rfl, ho, hb2⟩; obtain ⟨UA, UC, rfl, _, _, _⟩ := own_arr ho; clear ho) | (go_at_call 21; (with_reducible refine (RG.out w2 hb2).mono ?_); rintro x w3 ⟨rfl, hb3⟩; have hb23 := below_on hb2 hb3; have hBW := HB1.out.trans (hb23.mono HB1.out.size)) | (go_at_call 18; (with_reducible refine (AW.out _ hBW).mono ?_); rintro x w9 ⟨rfl, hb9⟩; have hB9 := below_on hBW hb9) | (fail))
        go_ret
        exact ⟨rfl, hB9⟩
      · subst h
        have HN := Lib.hid (Q5.out rfl)
        clear hrr Q1 Q2 Q3 Q4 Q5 HR h0 hn1
        go_wp2_with (first
          | (go_at_call 20; (with_reducible refine (OR.out).mono ?_); rintro x w2 ⟨U, rfl, ho, hb2⟩; obtain ⟨UA, UC, rfl, _, _, _⟩ := own_arr ho; clear ho)
          | (go_at_call 21; (with_reducible refine (RG.out w2 hb2).mono ?_); rintro x w3 ⟨rfl, hb3⟩; have hb23 := below_on hb2 hb3; have hBW := HB1.out.trans (hb23.mono HB1.out.size))
          | (go_at_call 23; (with_reducible refine (HC.out (w3.alloc (.cells (drow (List.replicate l.length false)) 4)) (hb23.alloc hb23.size (.cells (drow (List.replicate l.length false)) 4)) w3.heap.size (Blk.new _ _ _)).mono ?_); rintro x w4 ⟨t, rfl, ht, hb4⟩; obtain rfl : t = false := (by cases t; rfl; (obtain ⟨s, hs⟩ := ht rfl; rw [HN.out s] at hs; cases hs)); have hBW := HB1.out.trans ((below_on (hb23.alloc hb23.size (.cells (drow (List.replicate l.length false)) 4)) hb4).mono HB1.out.size))
          | (go_at_call 18; (with_reducible refine (AW.out _ hBW).mono ?_); rintro x w9 ⟨rfl, hb9⟩; have hB9 := below_on hBW hb9)
          | (fail))
        go_ret
        exact ⟨rfl, hB9⟩
end Go.Proofs.YtakdngcgjahafaaDoor
