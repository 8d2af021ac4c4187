/- The walk through TreeReads. -/
import Derived.Test.YtjhbmcgaehpadaaDoorTreeOf2
import Derived.Test.YtjhbmcgaehpadaaDoorTreeOf3
namespace Go.Proofs.YtjhbmcgaehpadaaDoor
open Go.RowKit
set_option linter.unusedVariables false

theorem manGo_len : ∀ (n : Nat) (last : ByteArray) (acc : List ItemD) (r : Rd), (manGo n last acc r).2.1.length ≤ acc.length + n
  | 0, last, acc, r => by rw [manGo]; exact Nat.le_refl _
  | n + 1, last, acc, r => by
    rw [manGo]
    split
    · have := manGo_len n (last.extract 0 (rdCount r 200).1 ++ (rdText (rdCount r 200).2 200).1) (acc ++ [⟨last.extract 0 (rdCount r 200).1 ++ (rdText (rdCount r 200).2 200).1, (rdNum (rdText (rdCount r 200).2 200).2).1, (rdNum (rdNum (rdText (rdCount r 200).2 200).2).2).1, (rdRaw (rdNum (rdNum (rdText (rdCount r 200).2 200).2).2).2 32).1⟩]) (rdRaw (rdNum (rdNum (rdText (rdCount r 200).2 200).2).2).2 32).2
      rw [List.length_append, List.length_singleton] at this
      omega
    · simp
theorem manOf_len (s : ByteArray) : (manOf s).2.length ≤ 256 := by
  have h1 := rdCount_most_ ⟨s, 0, 0⟩ (m := 256) (by decide)
  have h2 := manGo_len (rdCount ⟨s, 0, 0⟩ 256).1 .empty [] (rdCount ⟨s, 0, 0⟩ 256).2
  rw [List.length_nil] at h2
  unfold manOf manEnd
  split
  · split
    · split
      · simp only []; omega
      · simp
    · simp
  · simp
theorem law_reads_in (s s' : ByteArray) (w : World) (hs : s'.size ≤ 4000) (hm : Ml w) (h : (4000 < s.size ∧ s' = s.extract 0 4000) ∨ (¬ 4000 < s.size ∧ s' = s)) (hsz : s.size ≤ 9223372036854775807) :
    Calls Tryd.prog 11 #[.string s] w fun e w' => e = .returned (.bool true) ∧ Below w.heap.size w w' := by
  have HA := Lib.hid awake_any
  have hB : Below w.heap.size w w := Below.refl _ _
  have F1 := Lib.hid (of_any s' w hs hm)
  have F2 := Lib.hid (fun W => of_ref s' W hs)
  have hl := manOf_len s'
  have F3 := Lib.hid (fun A c B d W h1 h2 => items_same A c B d (manOf s').2 W (by omega) h1 h2)
  generalize (manOf s').2 = L at *
  generalize (manOf s').1 = E at *
  rcases h with ⟨h1, rfl⟩ | ⟨h1, rfl⟩
  · have g1 : (4000 : Int) < s.size := by omega
    go_enter Tryd.func11, Tryd.ntmps11
    go_wp2_with (first
      | (go_at_call 39; (with_reducible refine F1.out.mono ?_); rintro e w1 ⟨A1, c1, rfl, ha1, _, _, hb1⟩; have HA1 := Lib.hid ha1; clear ha1; have hB := below_on hB hb1)
      | (go_at_call 40; (with_reducible refine (F2.out _).mono ?_); rintro e w2 ⟨A2, c2, rfl, ha2, _, _, hb2⟩; have HA2 := Lib.hid ha2; clear ha2; have hB := below_on hB hb2; have HA1 := Lib.hid (Arr.on HA1.out hb2))
      | (go_at_call 41; (with_reducible refine (F3.out _ _ _ _ _ HA1.out HA2.out).mono ?_); rintro e w3 ⟨rfl, hb3⟩; have hB := below_on hB hb3)
      | (go_at_call 16; (with_reducible refine (HA.out _ (hm.on hB)).mono ?_); rintro e w1 ⟨rfl, hb1⟩; have hB := below_on hB hb1))
    go_ret
    exact ⟨rfl, hB⟩
  · have g1 : ¬ (4000 : Int) < s'.size := by omega
    go_enter Tryd.func11, Tryd.ntmps11
    go_wp2_with (first
      | (go_at_call 39; (with_reducible refine F1.out.mono ?_); rintro e w1 ⟨A1, c1, rfl, ha1, _, _, hb1⟩; have HA1 := Lib.hid ha1; clear ha1; have hB := below_on hB hb1)
      | (go_at_call 40; (with_reducible refine (F2.out _).mono ?_); rintro e w2 ⟨A2, c2, rfl, ha2, _, _, hb2⟩; have HA2 := Lib.hid ha2; clear ha2; have hB := below_on hB hb2; have HA1 := Lib.hid (Arr.on HA1.out hb2))
      | (go_at_call 41; (with_reducible refine (F3.out _ _ _ _ _ HA1.out HA2.out).mono ?_); rintro e w3 ⟨rfl, hb3⟩; have hB := below_on hB hb3)
      | (go_at_call 16; (with_reducible refine (HA.out _ (hm.on hB)).mono ?_); rintro e w1 ⟨rfl, hb1⟩; have hB := below_on hB hb1))
    go_ret
    exact ⟨rfl, hB⟩
theorem law_reads (s : ByteArray) (w : World) (hs : s.size ≤ 9223372036854775807) (hm : Ml w) :
    Calls Tryd.prog 11 #[.string s] w fun e w' => e = .returned (.bool true) ∧ Below w.heap.size w w' := by
  by_cases h : 4000 < s.size
  · exact law_reads_in s (s.extract 0 4000) w (by simp; omega) hm (.inl ⟨h, rfl⟩) hs
  · exact law_reads_in s s w (by omega) hm (.inr ⟨h, rfl⟩) hs
end Go.Proofs.YtjhbmcgaehpadaaDoor
