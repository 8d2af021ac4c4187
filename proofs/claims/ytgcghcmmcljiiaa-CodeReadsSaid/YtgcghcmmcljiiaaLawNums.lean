/- The walks of the laws CodeNums and CodeSigns. -/
import Derived.Test.YtgcghcmmcljiiaaRdMore
namespace Go.Proofs.Ytgcghcmmcljiiaa
open Go.RowKit

theorem num300 : numL 300 = [172, 2] := by rw [numL_ge (by omega), numL_lt (by omega)]; rfl
theorem numS300 : numS 300 = ⟨#[172, 2]⟩ := by rw [numS_ok (by omega) (by omega)]; exact congrArg (fun l : List UInt8 => (⟨l.toArray⟩ : ByteArray)) num300
theorem rd300 : rdNum ⟨⟨#[172, 2]⟩, 0, 0⟩ = (300, ⟨⟨#[172, 2]⟩, 2, 0⟩) := by
  have := rdNum_numL (s := ⟨#[172, 2]⟩) (n := 300) (pre := []) (rest := []) (by omega) (by rw [num300]; rfl)
  rw [num300] at this
  exact this
theorem end300 : rdEnd ⟨⟨#[172, 2]⟩, 2, 0⟩ = ⟨⟨#[172, 2]⟩, 2, 0⟩ := if_neg (by simp [ByteArray.size])

set_option maxRecDepth 100000 in
theorem awake_any (w : World) : Calls Try.prog 14 #[] w fun e w' => e = .returned (.bool true) ∧ Below w.heap.size w w' := by
  have hn : ∀ w : World, Hid (Calls Try.prog 12 #[.int .i64 300] w fun e w' => e = .returned (.tuple #[.string ⟨#[172, 2]⟩, .int .i64 0]) ∧ Below w.heap.size w w') := fun w => by
    have := code_num 300 w (by omega) (by omega)
    rw [numS300] at this
    exact this
  have ho : Rd.ok ⟨⟨#[172, 2]⟩, 0, 0⟩ := ⟨by simp, by simp [ByteArray.size]⟩
  have ho2 : Rd.ok ⟨⟨#[172, 2]⟩, 2, 0⟩ := ⟨by simp [ByteArray.size], by simp [ByteArray.size]⟩
  go_enter Try.func14, Try.ntmps14
  go_wp2_with (go_at_call 12; refine (hn _).out.mono ?_; rintro e w1 ⟨rfl, hb1⟩)
  refine (read_any _ _).mono ?_
  rintro e w2 ⟨rfl, hr2, hb2⟩
  go_wp2_with fail
  have hc := num_any _ _ _ hr2 ho
  rw [rd300] at hc
  refine hc.mono ?_
  rintro e w3 ⟨rfl, hr3, hg3⟩
  go_wp2_with fail
  have hc2 := end_any _ _ _ hr3 ho2
  rw [end300] at hc2
  refine hc2.mono ?_
  rintro e w4 ⟨rfl, hr4, hg4⟩
  go_wp2
  go_ret
  have s1 := hb1.size
  exact ⟨rfl, (hb1.trans (hb2.mono s1)).trans ((below_of_row hg3 hb2.size (by simp)).mono s1 |>.trans ((below_of_row hg4 (Nat.le_trans hb2.size hg3.size) (by simp)).mono s1))⟩

set_option maxRecDepth 100000 in
theorem law_nums (n : Int) (w : World) (h0 : -9223372036854775808 ≤ n) (h1 : n ≤ 9223372036854775807) :
    Calls Try.prog 3 #[.int .i64 n] w fun e w' => e = .returned (.bool true) ∧ Below w.heap.size w w' := by
  go_enter Try.func3, Try.ntmps3
  go_wp2_with (first | (go_at_call 12; refine (code_num n _ h0 h1).mono ?_; rintro e w1 ⟨rfl, hb1⟩) | (go_at_call 13; refine (ref_num n _ h0 h1).mono ?_; rintro e w2 ⟨rfl, hb2⟩) | (go_at_call 14; refine (awake_any _).mono ?_; rintro e w3 ⟨rfl, hb3⟩))
  go_ret
  have s1 := hb1.size
  have s2 := hb2.size
  exact ⟨rfl, (hb1.trans (hb2.mono s1)).trans (hb3.mono (Nat.le_trans s1 s2))⟩
end Go.Proofs.Ytgcghcmmcljiiaa
