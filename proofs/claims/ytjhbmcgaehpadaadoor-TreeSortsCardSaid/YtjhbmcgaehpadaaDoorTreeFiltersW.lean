/- The walk through TreeFilters. -/
import Derived.Test.YtjhbmcgaehpadaaDoorTreeFilter3
namespace Go.Proofs.YtjhbmcgaehpadaaDoor
open Go.RowKit
set_option linter.unusedVariables false

theorem arr_some {w : World} {B size n : Nat} {A : Option Addr} {xs : List Value} (h : Arr w B size A n xs) : 0 < n → ∃ a, A = some a := fun hn => by
  obtain ⟨b, o, e, _⟩ := h.2 hn
  exact ⟨_, e⟩
theorem few_len (l : List FileD) : (l.take 60).length = min l.length 60 := by rw [List.length_take, Nat.min_comm]
theorem Arr.few {w : World} {B : Nat} {A : Option Addr} {l : List FileD} (h : Arr w B 3 A l.length (fcells l)) : Arr w B 3 A (l.take 60).length (fcells (l.take 60)) := by
  have h2 := h.ftake (k := min l.length 60) (by omega)
  rw [few_len]
  rwa [show l.take (min l.length 60) = l.take 60 by
    rcases Nat.le_total l.length 60 with h | h
    · rw [Nat.min_eq_left h, List.take_of_length_le (Nat.le_refl _), List.take_of_length_le h]
    · rw [Nat.min_eq_right h]] at h2

set_option maxHeartbeats 2000000 in
set_option maxRecDepth 100000 in
theorem law_filters (A : Option Addr) (c : Nat) (l : List FileD) (Ai : Option Addr) (ci : Nat) (li : List ByteArray) (Ao : Option Addr) (co : Nat) (lo : List ByteArray) (w : World)
    (hz : l.length * 40 ≤ 140737488351232) (hcap : l.length ≤ c) (hx : ∀ f ∈ l, FFit f) (ha : Arr w w.heap.size 3 A l.length (fcells l))
    (hzi : li.length * 16 ≤ 140737488351232) (hci : li.length ≤ ci) (hix : ∀ x ∈ li, x.size ≤ 9223372036854775807) (hia : Arr w w.heap.size 1 Ai li.length (li.map Value.string))
    (hzo : lo.length * 16 ≤ 140737488351232) (hco : lo.length ≤ co) (hox : ∀ x ∈ lo, x.size ≤ 9223372036854775807) (hoa : Arr w w.heap.size 1 Ao lo.length (lo.map Value.string)) (hm : Ml w) :
    Calls Tryd.prog 7 #[.slice A l.length c, .slice Ai li.length ci, .slice Ao lo.length co] w fun e w' => e = .returned (.bool true) ∧ Below w.heap.size w w' := by
  have HA := Lib.hid awake_any
  have hfew := few_any A c l.length w (by omega) hcap (arr_some ha)
  rw [← few_len] at hfew
  have HFEW := Lib.hid hfew
  have ha' := ha.few
  have hxx : ∀ f ∈ l.take 60, FOk f := fun f hf => (hx f (List.mem_of_mem_take hf)).1
  have hl60 : (l.take 60).length ≤ 60 := by rw [List.length_take]; omega
  clear hfew ha hx
  generalize l.take 60 = l' at *
  have hB : Below w.heap.size w w := Below.refl _ _
  by_cases hbig : 8 < li.length ∨ 8 < lo.length
  · by_cases h8 : 8 < li.length
    · have g1 : (8 : Int) < li.length := by omega
      clear hbig
      go_enter Tryd.func7, Tryd.ntmps7
      go_wp2_with (first
        | (go_at_call 25; (with_reducible refine HFEW.out.mono ?_); rintro e w1 ⟨rfl, rfl⟩)
        | (go_at_call 16; (with_reducible refine (HA.out _ hm).mono ?_); rintro e w1 ⟨rfl, hb1⟩; have hB := below_on hB hb1))
      go_ret
      exact ⟨rfl, hB⟩
    · have g1 : ¬ (8 : Int) < li.length := by omega
      have g2 : (8 : Int) < lo.length := by omega
      clear hbig
      go_enter Tryd.func7, Tryd.ntmps7
      go_wp2_with (first
        | (go_at_call 25; (with_reducible refine HFEW.out.mono ?_); rintro e w1 ⟨rfl, rfl⟩)
        | (go_at_call 16; (with_reducible refine (HA.out _ hm).mono ?_); rintro e w1 ⟨rfl, hb1⟩; have hB := below_on hB hb1))
      go_ret
      exact ⟨rfl, hB⟩
  · have g1 : ¬ (8 : Int) < li.length := by omega
    have g2 : ¬ (8 : Int) < lo.length := by omega
    have F1 := Lib.hid (filter_any A c l' Ai ci li Ao co lo w hl60 hxx ha' (by omega) hix hia (by omega) hox hoa hm)
    have F2 := Lib.hid (fun W (hb : Below w.heap.size w W) => filter_ref A c l' Ai ci li Ao co lo W hl60 hxx ((ha'.below hb).more hb.size) (by omega) hix ((hia.below hb).more hb.size) (by omega) hox ((hoa.below hb).more hb.size))
    have hL : (filtL l' li lo).length ≤ 60 := by
      unfold filtL
      split
      · exact Nat.le_trans (List.length_filter_le _ _) hl60
      · exact Nat.zero_le _
    have F3 := Lib.hid (fun A c B d W h1 h2 => files_same A c B d (filtL l' li lo) W (by omega) h1 h2)
    generalize filtL l' li lo = L at *
    generalize filtE l' li lo = E at *
    clear ha' hia hoa hxx hix hox hbig
    go_enter Tryd.func7, Tryd.ntmps7
    go_wp2_with (first
      | (go_at_call 25; (with_reducible refine HFEW.out.mono ?_); rintro e w1 ⟨rfl, rfl⟩)
      | (go_at_call 26; (with_reducible refine F1.out.mono ?_); rintro e w1 ⟨A1, c1, rfl, ha1, _, _, hb1⟩; have HA1 := Lib.hid ha1; clear ha1; have hB := below_on hB hb1)
      | (go_at_call 27; (with_reducible refine (F2.out _ hB).mono ?_); rintro e w2 ⟨A2, c2, rfl, ha2, _, _, hb2⟩; have HA2 := Lib.hid ha2; clear ha2; have hB := below_on hB hb2; have HA1 := Lib.hid (Arr.on HA1.out hb2))
      | (go_at_call 28; (with_reducible refine (F3.out _ _ _ _ _ HA1.out HA2.out).mono ?_); rintro e w3 ⟨rfl, hb3⟩; have hB := below_on hB hb3)
      | (go_at_call 16; (with_reducible refine (HA.out _ (hm.on hB)).mono ?_); rintro e w1 ⟨rfl, hb1⟩; have hB := below_on hB hb1))
    go_ret
    exact ⟨rfl, hB⟩
end Go.Proofs.YtjhbmcgaehpadaaDoor
