/- The walk through TreeChecks. -/
import Derived.Test.YtjhbmcgaehpadaaDoorTreeRef3
import Derived.Test.YtjhbmcgaehpadaaDoorLiftFiles
namespace Go.Proofs.YtjhbmcgaehpadaaDoor
open Go.RowKit
set_option linter.unusedVariables false

theorem checks_args (A : Option Addr) (c : Nat) (l : List FileD) (hx : ∀ f ∈ l, FFit f) (hz : l.length ≤ 8796093022208) :
    ∃ E : Int, (∀ W, Ml W → Arr W W.heap.size 3 A l.length (fcells l) → Calls Tryd.prog 19 #[.slice A l.length c] W fun e w' => e = .returned (.int .i64 E) ∧ Below W.heap.size W w') ∧
      (∀ W, Arr W W.heap.size 3 A l.length (fcells l) → Calls Tryd.prog 20 #[.slice A l.length c] W fun e w' => e = .returned (.int .i64 E) ∧ Below W.heap.size W w') :=
  ⟨checkE l, fun W hm ha => check_any A c l W hz (fun f hf => (hx f hf).1) ha hm, fun W ha => check_ref A c l W hz (fun f hf => (hx f hf).1) ha⟩
theorem Arr.on {w w' : World} {size n : Nat} {A : Option Addr} {xs : List Value} (h : Arr w w.heap.size size A n xs) (hb : Below w.heap.size w w') : Arr w' w'.heap.size size A n xs := (h.below hb).more hb.size

set_option maxHeartbeats 1000000 in
set_option maxRecDepth 100000 in
theorem law_checks (A : Option Addr) (c : Nat) (l : List FileD) (w : World) (hz : l.length * 40 ≤ 140737488351232) (hcap : l.length ≤ c) (hx : ∀ f ∈ l, FFit f) (ha : Arr w w.heap.size 3 A l.length (fcells l)) (hm : Ml w) :
    Calls Tryd.prog 5 #[.slice A l.length c] w fun e w' => e = .returned (.bool true) ∧ Below w.heap.size w w' := by
  have HA := Lib.hid awake_any
  have hB : Below w.heap.size w w := Below.refl _ _
  by_cases hl : 300 < l.length
  · have h' : (300 : Int) < l.length := by omega
    have hc3 : 300 ≤ c := by omega
    have hle : (l.take 300).length = 300 := by rw [List.length_take]; omega
    obtain ⟨E, h1, h2⟩ := checks_args A c (l.take 300) (fun f hf => hx f (List.mem_of_mem_take hf)) (by omega)
    have hat := ha.ftake (k := 300) (by omega)
    rw [hle] at h1 h2
    have H1 := Lib.hid h1
    have H2 := Lib.hid h2
    have HT := Lib.hid hat
    obtain ⟨b, o, rfl, hb, _⟩ := hat.2 (by omega)
    clear h1 h2 hat ha hx hle
    go_enter Tryd.func5, Tryd.ntmps5
    go_wp2_with (first
      | (go_at_call 19; with_reducible refine (H1.out _ hm HT.out).mono ?_; rintro e w1 ⟨rfl, hb1⟩; have HT1 := Lib.hid (Arr.on HT.out hb1); have hB := below_on hB hb1)
      | (go_at_call 20; with_reducible refine (H2.out _ HT1.out).mono ?_; rintro e w2 ⟨rfl, hb2⟩; have hB := below_on hB hb2)
      | (go_at_call 16; with_reducible refine (HA.out _ (hm.on hB)).mono ?_; rintro e w3 ⟨rfl, hb3⟩; have hB := below_on hB hb3))
    go_ret
    exact ⟨rfl, hB⟩
  · have h' : ¬ (300 : Int) < l.length := by omega
    obtain ⟨E, h1, h2⟩ := checks_args A c l hx (by omega)
    have H1 := Lib.hid h1
    have H2 := Lib.hid h2
    have HT := Lib.hid ha
    clear h1 h2 ha hx
    go_enter Tryd.func5, Tryd.ntmps5
    go_wp2_with (first
      | (go_at_call 19; with_reducible refine (H1.out _ hm HT.out).mono ?_; rintro e w1 ⟨rfl, hb1⟩; have HT1 := Lib.hid (Arr.on HT.out hb1); have hB := below_on hB hb1)
      | (go_at_call 20; with_reducible refine (H2.out _ HT1.out).mono ?_; rintro e w2 ⟨rfl, hb2⟩; have hB := below_on hB hb2)
      | (go_at_call 16; with_reducible refine (HA.out _ (hm.on hB)).mono ?_; rintro e w3 ⟨rfl, hb3⟩; have hB := below_on hB hb3))
    go_ret
    exact ⟨rfl, hB⟩
end Go.Proofs.YtjhbmcgaehpadaaDoor
