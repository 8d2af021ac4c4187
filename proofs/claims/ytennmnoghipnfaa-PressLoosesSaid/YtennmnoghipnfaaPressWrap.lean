/- The walks through Wrap, awake, cut, and the laws PressBounds and PressLong. -/
import Derived.Test.YtennmnoghipnfaaPressWalk
namespace Go.Proofs.Ytennmnoghipnfaa
open Go.RowKit
set_option linter.unusedVariables false

/-- The pressed text, and the error. -/
def pressS (s : ByteArray) : ByteArray := if 1048576 < s.size then ⟨#[]⟩ else ⟨(pressL s.data.toList).toArray⟩
def pressE (s : ByteArray) : Int := if 1048576 < s.size then 4 else 0
theorem pressS_ok {s : ByteArray} (h : s.size ≤ 1048576) : pressS s = ⟨(pressL s.data.toList).toArray⟩ ∧ pressE s = 0 := ⟨if_neg (by omega), if_neg (by omega)⟩
theorem pressS_no {s : ByteArray} (h : 1048576 < s.size) : pressS s = ⟨#[]⟩ ∧ pressE s = 4 := ⟨if_pos h, if_pos h⟩

set_option maxHeartbeats 1000000 in
set_option maxRecDepth 100000 in
theorem press_long (s : ByteArray) (w : World) (h1 : 1048576 < s.size) :
    Calls Try.prog 13 #[.string s] w fun e w' => e = .returned (.tuple #[.string ⟨#[]⟩, .int .i64 4]) ∧ Below w.heap.size w w' := by
  go_enter Try.func13, Try.ntmps13
  go_wp2
  go_ret2
  exact ⟨rfl, (Below.refl _ _).alloc (Nat.le_refl _) _⟩
theorem press_all (s : ByteArray) (w : World) :
    Calls Try.prog 13 #[.string s] w fun e w' => e = .returned (.tuple #[.string (pressS s), .int .i64 (pressE s)]) ∧ Below w.heap.size w w' := by
  by_cases h : 1048576 < s.size
  · rw [(pressS_no h).1, (pressS_no h).2]; exact press_long s w h
  · rw [(pressS_ok (by omega)).1, (pressS_ok (by omega)).2]; exact press_any s w (by omega)
theorem pressS_size {s : ByteArray} (h : s.size ≤ 1048576) : (pressS s).size = (pressL s.data.toList).length := by rw [(pressS_ok h).1, ba_size]
theorem pressS_small (s : ByteArray) : (pressS s).size ≤ 5242884 := by
  by_cases h : 1048576 < s.size
  · rw [(pressS_no h).1]; decide
  · rw [pressS_size (by omega)]
    have := press_len5 (t := s.data.toList) (by rw [← ba_size]; omega)
    rw [← ba_size] at this
    omega

/-- The wrapped text. -/
def wrapS (s : ByteArray) : ByteArray := if 1048576 < s.size then ⟨#[]⟩ else if (pressS s).size < s.size then ⟨#[90]⟩ ++ pressS s else ⟨#[82]⟩ ++ s

set_option maxHeartbeats 1000000 in
set_option maxRecDepth 100000 in
theorem wrap_all (s : ByteArray) (w : World) (hs : s.size ≤ 140737488351232) :
    Calls Try.prog 16 #[.string s] w fun e w' => e = .returned (.tuple #[.string (wrapS s), .int .i64 (pressE s)]) ∧ Below w.heap.size w w' := by
  have hp := fun W => press_all s W
  have hps := pressS_small s
  by_cases h : 1048576 < s.size
  · have hw : wrapS s = ⟨#[]⟩ := if_pos h
    rw [hw, (pressS_no h).2]
    rw [(pressS_no h).1, (pressS_no h).2] at hp
    have HP := Lib.hid hp
    clear hp
    go_enter Try.func16, Try.ntmps16
    go_wp2_with (go_at_call 13; refine (HP.out _).mono ?_; rintro e w1 ⟨rfl, hb1⟩)
    go_ret2
    exact ⟨rfl, hb1⟩
  · rw [(pressS_ok (by omega)).2]
    rw [(pressS_ok (by omega)).2] at hp
    by_cases h2 : (pressS s).size < s.size
    · have hw : wrapS s = ⟨#[90]⟩ ++ pressS s := by unfold wrapS; rw [if_neg h, if_pos h2]
      rw [hw]
      have HP := Lib.hid hp
      clear hp hw
      generalize pressS s = p at *
      go_enter Try.func16, Try.ntmps16
      go_wp2_with (go_at_call 13; refine (HP.out _).mono ?_; rintro e w1 ⟨rfl, hb1⟩)
      go_ret2
      exact ⟨rfl, hb1⟩
    · have hw : wrapS s = ⟨#[82]⟩ ++ s := by unfold wrapS; rw [if_neg h, if_neg h2]
      rw [hw]
      have HP := Lib.hid hp
      clear hp hw
      generalize pressS s = p at *
      go_enter Try.func16, Try.ntmps16
      go_wp2_with (go_at_call 13; refine (HP.out _).mono ?_; rintro e w1 ⟨rfl, hb1⟩)
      go_ret2
      exact ⟨rfl, hb1⟩

theorem awake_S : pressS ⟨#[97, 97, 97, 97, 97, 97, 97, 97, 97]⟩ = ⟨#[9, 2, 97, 9, 0]⟩ ∧ pressE ⟨#[97, 97, 97, 97, 97, 97, 97, 97, 97]⟩ = 0 := by
  have h : (⟨#[97, 97, 97, 97, 97, 97, 97, 97, 97]⟩ : ByteArray).size ≤ 1048576 := by decide
  refine ⟨?_, (pressS_ok h).2⟩
  rw [(pressS_ok h).1]
  show (⟨(pressL [97, 97, 97, 97, 97, 97, 97, 97, 97]).toArray⟩ : ByteArray) = _
  rw [awake_press]
set_option maxHeartbeats 1000000 in
set_option maxRecDepth 100000 in
theorem awake_any (w : World) :
    Calls Try.prog 15 #[] w fun e w' => e = .returned (.bool true) ∧ Below w.heap.size w w' := by
  have hp := fun W => press_all ⟨#[97, 97, 97, 97, 97, 97, 97, 97, 97]⟩ W
  rw [awake_S.1, awake_S.2] at hp
  have HP := Lib.hid hp
  clear hp
  go_enter Try.func15, Try.ntmps15
  go_wp2_with (go_at_call 13; refine (HP.out _).mono ?_; rintro e w1 ⟨rfl, hb1⟩)
  go_ret
  exact ⟨rfl, hb1⟩
end Go.Proofs.Ytennmnoghipnfaa
