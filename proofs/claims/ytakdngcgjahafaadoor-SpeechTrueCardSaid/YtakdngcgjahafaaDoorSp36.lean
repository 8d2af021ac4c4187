/- The walk through SpeechSound. -/
import Derived.Test.YtakdngcgjahafaaDoorSp34
import Derived.Test.YtakdngcgjahafaaDoorSpG
namespace Go.Proofs.YtakdngcgjahafaaDoor
open Go.RowKit
set_option linter.unusedVariables false

theorem ints_map (o : List Nat) : (ints o).map (fun (i : Int) => Value.int .i64 i) = o.map fun (i : Nat) => Value.int .i64 (i : Int) := by
  unfold ints
  rw [List.map_map]
  rfl
theorem ints_len (o : List Nat) : (ints o).length = o.length := by unfold ints; rw [List.length_map]
theorem own_ints {W : World} {base : Nat} {U : Value} {o : List Nat} (h : W.ownsRow base 3 1 U o.length (o.map fun (i : Nat) => Value.int .i64 (i : Int))) : ∃ A c, U = .slice A (ints o).length c ∧ (ints o).length ≤ 9223372036854775807 ∧ Arr W W.heap.size 1 A (ints o).length ((ints o).map fun (i : Int) => Value.int .i64 i) := by
  obtain ⟨A, c, rfl, _, ha, _⟩ := own_arr h
  refine ⟨A, c, by rw [ints_len], by rw [ints_len]; exact own_len h, ?_⟩
  rw [ints_map, ints_len]
  exact ha
set_option maxHeartbeats 8000000 in
set_option maxRecDepth 100000 in
theorem law_sound (A : Option Addr) (c : Nat) (l0 : List EvD) (steps : Int) (w : World) (hz : l0.length ≤ 9223372036854775807) (ha : Arr w w.heap.size 10 A l0.length (ecells l0)) (hi : ∀ e ∈ l0, EvIn w e) (hs1 : -9223372036854775808 ≤ steps) (hs2 : steps ≤ 9223372036854775807) (hm : Ml w) :
    Calls Tryd.prog 5 #[.slice A l0.length c, .int .i64 steps] w fun e w' => e = .returned (.bool true) ∧ Below w.heap.size w w' := by
  have AW := Lib.hid (fun X (h : Below w.heap.size w X) => awake22 X (hm.on h))
  have SH0 := short_any A c l0 20 w hz (by omega) ha hi
  rw [show ((20 : Nat) : Int) = 20 from rfl] at SH0
  have SH := Lib.hid SH0
  clear SH0
  unfold ShortOut at SH
  have HM := Lib.hid hm
  generalize l0.length = n0 at *
  clear ha hi hm hz hs1 hs2
  obtain ⟨st, hst, hc⟩ : ∃ st : Int, st ≤ 20000 ∧ ((20000 < steps ∧ st = 20000) ∨ (¬ 20000 < steps ∧ st = steps)) := by
    by_cases h : 20000 < steps
    · exact ⟨20000, by omega, .inl ⟨h, rfl⟩⟩
    · exact ⟨steps, by omega, .inr ⟨h, rfl⟩⟩
  have OX := Lib.hid (fun (w1 : World) (hb : Below w.heap.size w w1) (V : Value) (l : List EvD) (hh : Hist w1 V l) hE (hl : l.length ≤ 1048576) => ord_any w1 (HM.out.on hb) hh hE hl (steps := st) (by omega))
  have O1 := Lib.hid (fun (l : List EvD) h => order_holds (l := l) (steps := st) h)
  have O2 := Lib.hid (fun (l : List EvD) h => order_err (l := l) (steps := st) h)
  have O3 := Lib.hid (fun (l : List EvD) => order_err1 (l := l) (steps := st))
  have PX : Hid (∀ l : List EvD, ∃ P, P = orderP l st) := Lib.hid fun l => ⟨_, rfl⟩
  rcases hc with ⟨hs, rfl⟩ | ⟨hs, rfl⟩
  all_goals
    go_enter Tryd.func5, Tryd.ntmps5
    go_wp2_with (go_at_call 19; (with_reducible refine (SH.out).mono ?_); rintro x w1 ⟨V, l, rfl, hg, hl8, hb1⟩; have HGW := Lib.hid hg; have HB1 := Lib.hid hb1; clear hg hb1)
    have hh := HGW.out.hist
    have hE : ∀ e ∈ l, EFit e := fun e he => (HGW.out.fit e he).1
    have OR := Lib.hid (OX.out w1 HB1.out V l hh hE (by omega))
    have Q1 := Lib.hid (O1.out l)
    have Q2 := Lib.hid (O2.out l)
    have Q3 := Lib.hid (O3.out l)
    obtain ⟨LA, LC, rfl, _, hla, _⟩ := own_arr hh.row
    have HR := Lib.hid (fun X (h : Below w1.heap.size w1 X) s SA SC hs hsa => holds_ref X (HM.out.on (HB1.out.trans (h.mono HB1.out.size))) (hh.below h) hE (by omega) SA SC s hs hsa)
    have RG := Lib.hid (fun X (h : Below w1.heap.size w1 X) => evs_right_ref LA LC l X (by omega) ((hla.below h).more h.size))
    obtain ⟨P, hP⟩ := PX.out l
    rw [← hP] at OR Q1 Q2 Q3
    obtain ⟨pe, po⟩ := P
    unfold OrderOut at OR
    simp only [] at OR Q1 Q2 Q3
    clear hh hla hE hP OX O1 O2 O3 PX
    by_cases h0 : pe = 0
    · subst h0
      have HQ := Lib.hid (Q1.out rfl)
      clear Q1 Q2 Q3
      go_wp2_with (first
        | (go_at_call 20; (with_reducible refine (OR.out).mono ?_); rintro x w2 ⟨U, rfl, ho, hb2⟩; obtain ⟨UA, UC, rfl, hu1, hu2⟩ := own_ints ho; clear ho)
        | (go_at_call 22; (with_reducible refine (HR.out w2 hb2 (ints po) UA UC hu1 hu2).mono ?_); rw [HQ.out]; rintro x w3 ⟨rfl, hb3⟩; have hBW := HB1.out.trans ((below_on hb2 hb3).mono HB1.out.size))
        | (go_at_call 18; (with_reducible refine (AW.out _ hBW).mono ?_); rintro x w9 ⟨rfl, hb9⟩; have hB9 := below_on hBW hb9)
        | (fail))
      go_ret
      exact ⟨rfl, hB9⟩
    · obtain rfl : po = [] := Q2.out h0
      have n0 : (pe != 0) = true := by simp [h0]
      have HQ := Lib.hid Q3.out
      clear Q1 Q2 Q3 HR
      cases hrr : rightP l with
      | false =>
        obtain rfl : pe = 1 := HQ.out.2 (.inl hrr)
        rw [hrr] at RG
        clear hrr
        go_wp2_with (first
          | (go_at_call 20; (with_reducible refine (OR.out).mono ?_); rintro x w2 ⟨U, rfl, ho, hb2⟩; obtain ⟨UA, UC, rfl, _, _, _⟩ := own_arr ho; clear ho)
          | (go_at_call 21; (with_reducible refine (RG.out w2 hb2).mono ?_); rintro x w3 ⟨rfl, hb3⟩; have hBW := HB1.out.trans ((below_on hb2 hb3).mono HB1.out.size))
          | (go_at_call 18; (with_reducible refine (AW.out _ hBW).mono ?_); rintro x w9 ⟨rfl, hb9⟩; have hB9 := below_on hBW hb9)
          | (fail))
        go_ret
        exact ⟨rfl, hB9⟩
      | true =>
        rw [hrr] at RG
        by_cases h1 : pe = 1
        · have hlt := (HQ.out.1 h1).resolve_left (by rw [hrr]; decide)
          subst h1
          clear hrr
          first
            | (exfalso; omega)
            | (go_wp2_with (first
                | (go_at_call 20; (with_reducible refine (OR.out).mono ?_); rintro x w2 ⟨U, rfl, ho, hb2⟩; obtain ⟨UA, UC, rfl, _, _, _⟩ := own_arr ho; clear ho)
                | (go_at_call 21; (with_reducible refine (RG.out w2 hb2).mono ?_); rintro x w3 ⟨rfl, hb3⟩; have hBW := HB1.out.trans ((below_on hb2 hb3).mono HB1.out.size))
                | (go_at_call 18; (with_reducible refine (AW.out _ hBW).mono ?_); rintro x w9 ⟨rfl, hb9⟩; have hB9 := below_on hBW hb9)
                | (fail))
               go_ret
               exact ⟨rfl, hB9⟩)
        · have hge := mt (fun h => HQ.out.2 (.inr h)) h1
          have hgd := decide_eq_false hge
          have n1 : (pe == 1) = false := by rw [beq_eq_false_iff_ne]; exact h1
          clear hrr
          go_wp2_with (first
            | (go_at_call 20; (with_reducible refine (OR.out).mono ?_); rintro x w2 ⟨U, rfl, ho, hb2⟩; obtain ⟨UA, UC, rfl, _, _, _⟩ := own_arr ho; clear ho)
            | (go_at_call 21; (with_reducible refine (RG.out w2 hb2).mono ?_); rintro x w3 ⟨rfl, hb3⟩; have hBW := HB1.out.trans ((below_on hb2 hb3).mono HB1.out.size))
            | (go_at_call 18; (with_reducible refine (AW.out _ hBW).mono ?_); rintro x w9 ⟨rfl, hb9⟩; have hB9 := below_on hBW hb9)
            | (fail))
          go_ret
          exact ⟨rfl, hB9⟩
end Go.Proofs.YtakdngcgjahafaaDoor
