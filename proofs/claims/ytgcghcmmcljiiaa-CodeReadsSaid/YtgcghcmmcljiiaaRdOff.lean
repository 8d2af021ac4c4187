/- The walks of Nums and Texts of a reader that has failed, however long its text is. -/
import Derived.Test.YtgcghcmmcljiiaaStep
set_option linter.unusedVariables false
namespace Go.Proofs.Ytgcghcmmcljiiaa
open Go.RowKit

set_option maxRecDepth 100000 in
theorem nums_off (b : Nat) (r : Rd) (most : Int) (w : World) (h : Rdr w b r) (ho : r.ok) (h0 : r.e ≠ 0) :
    Calls Try.prog 28 #[.pointer (some ⟨b, 0, none⟩), .int .i64 most] w fun e w' => ∃ A c, e = .returned (.slice A (rdNums r most).1.length c) ∧ Arr w' w'.heap.size 1 A (rdNums r most).1.length ((rdNums r most).1.map natV) ∧ Fresh w.heap.size A ∧ Rdr w' b (rdNums r most).2 ∧ w.grownBy w' (some b) := by
  have hc := count_any b r most w h ho
  rw [off_count most h0] at hc
  rw [off_nums most h0]
  have HC := Lib.hid hc
  clear hc h0
  go_enter Try.func28, Try.ntmps28
  go_wp2_with (go_at_call 40; refine HC.out.mono ?_; rintro e w1 ⟨rfl, h1, g1⟩)
  go_loopw [5, 10] (fun v5 v10 wr => v5 = .slice none 0 0 ∧ v10 = .int .i64 0 ∧ Rdr wr b r ∧ w.grownBy wr (some b)) (fun _ v10 _ => 0)
  case atStart => exact ⟨rfl, rfl, h1, g1⟩
  case round =>
    obtain ⟨rfl, rfl, hr, hg⟩ := hrel
    go_wp2
    go_ret
    exact ⟨none, 0, rfl, Arr.nil _ _ _ _, Fresh.none _, hr, hg⟩
set_option maxRecDepth 100000 in
theorem texts_off (b : Nat) (r : Rd) (most each : Int) (w : World) (h : Rdr w b r) (ho : r.ok) (h0 : r.e ≠ 0) :
    Calls Try.prog 34 #[.pointer (some ⟨b, 0, none⟩), .int .i64 most, .int .i64 each] w fun e w' => ∃ A c, e = .returned (.slice A (rdTexts r most each).1.length c) ∧ Arr w' w'.heap.size 1 A (rdTexts r most each).1.length ((rdTexts r most each).1.map Value.string) ∧ Fresh w.heap.size A ∧ Rdr w' b (rdTexts r most each).2 ∧ w.grownBy w' (some b) := by
  have hc := count_any b r most w h ho
  rw [off_count most h0] at hc
  rw [off_texts most each h0]
  have HC := Lib.hid hc
  clear hc h0
  go_enter Try.func34, Try.ntmps34
  go_wp2_with (go_at_call 40; refine HC.out.mono ?_; rintro e w1 ⟨rfl, h1, g1⟩)
  go_loopw [7, 12] (fun v5 v10 wr => v5 = .slice none 0 0 ∧ v10 = .int .i64 0 ∧ Rdr wr b r ∧ w.grownBy wr (some b)) (fun _ v10 _ => 0)
  case atStart => exact ⟨rfl, rfl, h1, g1⟩
  case round =>
    obtain ⟨rfl, rfl, hr, hg⟩ := hrel
    go_wp2
    go_ret
    exact ⟨none, 0, rfl, Arr.nil _ _ _ _, Fresh.none _, hr, hg⟩
theorem nums_any2 (b : Nat) (r : Rd) (most : Int) (w : World) (h : Rdr w b r) (ho : r.ok) (hsz : r.s.size ≤ 1099511627776 ∨ r.e ≠ 0) :
    Calls Try.prog 28 #[.pointer (some ⟨b, 0, none⟩), .int .i64 most] w fun e w' => ∃ A c, e = .returned (.slice A (rdNums r most).1.length c) ∧ Arr w' w'.heap.size 1 A (rdNums r most).1.length ((rdNums r most).1.map natV) ∧ Fresh w.heap.size A ∧ Rdr w' b (rdNums r most).2 ∧ w.grownBy w' (some b) :=
  hsz.elim (nums_any b r most w h ho) (nums_off b r most w h ho)
theorem texts_any2 (b : Nat) (r : Rd) (most each : Int) (w : World) (h : Rdr w b r) (ho : r.ok) (hsz : r.s.size ≤ 1099511627776 ∨ r.e ≠ 0) :
    Calls Try.prog 34 #[.pointer (some ⟨b, 0, none⟩), .int .i64 most, .int .i64 each] w fun e w' => ∃ A c, e = .returned (.slice A (rdTexts r most each).1.length c) ∧ Arr w' w'.heap.size 1 A (rdTexts r most each).1.length ((rdTexts r most each).1.map Value.string) ∧ Fresh w.heap.size A ∧ Rdr w' b (rdTexts r most each).2 ∧ w.grownBy w' (some b) :=
  hsz.elim (texts_any b r most each w h ho) (texts_off b r most each w h ho)
end Go.Proofs.Ytgcghcmmcljiiaa
