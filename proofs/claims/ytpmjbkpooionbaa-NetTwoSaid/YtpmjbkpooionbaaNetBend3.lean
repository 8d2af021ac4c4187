/- The walk of Bend out of range. -/
import Derived.Test.YtpmjbkpooionbaaNetBend2
set_option linter.unusedVariables false
namespace Go.Proofs.Ytpmjbkpooionbaa
open Go.RowKit

set_option maxRecDepth 100000 in
theorem net_bend_no (base b ch : Nat) (V : Value) (L : List ByteArray) (sent lost : Nat) (i : Int) (j k : Int) (w : World) (h : NetAt w base b ch V L sent lost) (hl : L.length ≤ 4096) (hi : ¬ (0 ≤ i ∧ i < L.length)) (i0 : -9223372036854775808 ≤ i) (i1 : i ≤ 9223372036854775807) :
    Calls Try.prog 20 #[.pointer (some ⟨b, 0, none⟩), .int .i64 i, .int .i64 j, .int .i64 k] w fun e w' => e = .returned (.int .i64 2) ∧ w = w' := by
  have hp := net_peek base b ch V L sent lost i w h hl i0 i1
  rw [(peek_no hi).1, (peek_no hi).2] at hp
  have HP := Lib.hid hp
  clear hp
  go_enter Try.func20, Try.ntmps20
  go_wp2_with (go_at_call 19; with_reducible refine HP.out.mono ?_; rintro e w1 ⟨rfl, rfl⟩)
  go_ret
  exact ⟨rfl, rfl⟩
set_option maxRecDepth 100000 in
theorem net_bend_out (base b ch : Nat) (V : Value) (L : List ByteArray) (sent lost : Nat) (i : Nat) (j k : Int) (x : ByteArray) (w : World) (h : NetAt w base b ch V L sent lost) (hl : L.length ≤ 4096) (hx : L[i]? = some x) (hj : ¬ (0 ≤ j ∧ j < x.size)) :
    Calls Try.prog 20 #[.pointer (some ⟨b, 0, none⟩), .int .i64 i, .int .i64 j, .int .i64 k] w fun e w' => e = .returned (.int .i64 2) ∧ w = w' := by
  have hi : i < L.length := by
    rcases Nat.lt_or_ge i L.length with h' | h'
    · exact h'
    · rw [List.getElem?_eq_none h'] at hx; cases hx
  have hp := net_peek base b ch V L sent lost i w h hl (by omega) (by omega)
  rw [(peek_ok hx).1, (peek_ok hx).2] at hp
  have HP := Lib.hid hp
  have hg : decide (j < 0) = true ∨ (decide (j < 0) = false ∧ decide ((x.size : Int) ≤ j) = true) := by
    by_cases h : j < 0
    · exact .inl (by simpa using h)
    · exact .inr ⟨by simpa using h, by simp; omega⟩
  clear hp hx hj
  rcases hg with g1 | ⟨g1, g2⟩
  all_goals
    go_enter Try.func20, Try.ntmps20
    go_wp2_with (go_at_call 19; with_reducible refine HP.out.mono ?_; rintro e w1 ⟨rfl, rfl⟩)
    go_ret
    exact ⟨rfl, rfl⟩
end Go.Proofs.Ytpmjbkpooionbaa
