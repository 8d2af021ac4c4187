/- The walk through Open, and the walks of the laws PressLooses, PressOpens, PressBack and PressTwice. -/
import Derived.Test.YtennmnoghipnfaaPressLawsA
import Derived.Test.YtennmnoghipnfaaLooseRef
namespace Go.Proofs.Ytennmnoghipnfaa
open Go.RowKit
set_option linter.unusedVariables false


set_option maxHeartbeats 2000000 in
set_option maxRecDepth 100000 in
theorem law_looses (s : ByteArray) (w : World) (hs : s.size ≤ 140737488351232) :
    Calls Try.prog 8 #[.string s] w fun e w' => e = .returned (.bool true) ∧ Below w.heap.size w w' := by
  have hc := fun W => cut_at s 3000 3000 W rfl (by omega) hs
  have hl := cutS_le s 3000
  generalize cutS s 3000 = t at hc hl
  have ho := fun W => loose_any t W (by omega)
  have hr := fun W => ref_loose t W (by omega)
  have HC := Lib.hid hc
  have HO := Lib.hid ho
  have HR := Lib.hid hr
  have HA := Lib.hid awake_any
  clear hc ho hr
  generalize looseS t = p at *
  generalize looseE t = x at *
  have hB : Below w.heap.size w w := Below.refl _ _
  by_cases hs2 : 2 < t.size
  · have i0 : 0 < t.size := by omega
    have i1 : (1 : Int) < (t.size : Int) := by omega
    have i2 : (2 : Int) < (t.size : Int) := by omega
    have i1' : 1 < t.size := by omega
    rcases (show (((t[0]'i0).toNat : Int) ≤ 127) ∨ ((127 < ((t[0]'i0).toNat : Int)) ∧ ((t[1]'i1').toNat : Int) ≤ 127) ∨ ((127 < ((t[0]'i0).toNat : Int)) ∧ (127 < ((t[1]'i1').toNat : Int)) ∧ ((t[2]'hs2).toNat : Int) ≤ 3) ∨ ((127 < ((t[0]'i0).toNat : Int)) ∧ (127 < ((t[1]'i1').toNat : Int)) ∧ 3 < ((t[2]'hs2).toNat : Int)) from by omega) with g0 | ⟨g0, g1⟩ | ⟨g0, g1, g2⟩ | ⟨g0, g1, g2⟩
    all_goals
      go_enter Try.func8, Try.ntmps8
      go_wp2_with (first | (go_at_call 12; with_reducible refine (HC.out _).mono ?_; rintro e w1 ⟨rfl, rfl⟩) | (go_at_call 17; with_reducible refine (HO.out _).mono ?_; rintro e w1 ⟨rfl, hb1⟩; have hB := below_on hB hb1) | (go_at_call 18; with_reducible refine (HR.out _).mono ?_; rintro e w1 ⟨rfl, hb1⟩; have hB := below_on hB hb1) | (go_at_call 15; with_reducible refine (HA.out _).mono ?_; rintro e w1 ⟨rfl, hb1⟩; have hB := below_on hB hb1))
      go_ret
      exact ⟨rfl, hB⟩
  · go_enter Try.func8, Try.ntmps8
    go_wp2_with (first | (go_at_call 12; with_reducible refine (HC.out _).mono ?_; rintro e w1 ⟨rfl, rfl⟩) | (go_at_call 17; with_reducible refine (HO.out _).mono ?_; rintro e w1 ⟨rfl, hb1⟩; have hB := below_on hB hb1) | (go_at_call 18; with_reducible refine (HR.out _).mono ?_; rintro e w1 ⟨rfl, hb1⟩; have hB := below_on hB hb1) | (go_at_call 15; with_reducible refine (HA.out _).mono ?_; rintro e w1 ⟨rfl, hb1⟩; have hB := below_on hB hb1))
    go_ret
    exact ⟨rfl, hB⟩

theorem pressS_back {t : ByteArray} (h : t.size ≤ 1048576) : looseE (pressS t) = 0 ∧ looseS (pressS t) = t := by
  have := loose_back (t := t.data.toList) (s := pressS t) (by rw [← ba_size]; exact h) (by rw [(pressS_ok h).1])
  exact ⟨this.1, this.2⟩
theorem loose_at_press (t : ByteArray) (w : World) (h : t.size ≤ 1048576) :
    Calls Try.prog 17 #[.string (pressS t)] w fun e w' => e = .returned (.tuple #[.string t, .int .i64 0]) ∧ Below w.heap.size w w' := by
  have h1 := loose_any (pressS t) w (by have := pressS_small t; omega)
  rw [(pressS_back h).1, (pressS_back h).2] at h1
  exact h1

/-- What opens a text. -/
def openR (s : ByteArray) : ByteArray × Int :=
  match s.data.toList with
  | [] => (⟨#[]⟩, 3)
  | c :: _ => if c = 82 then (s.extract 1 s.size, 0) else if c = 90 then (looseS (s.extract 1 s.size), looseE (s.extract 1 s.size)) else (⟨#[]⟩, 5)

set_option maxHeartbeats 1000000 in
set_option maxRecDepth 100000 in
theorem open_any (s : ByteArray) (w : World) (hs : s.size ≤ 140737488351232) :
    Calls Try.prog 19 #[.string s] w fun e w' => e = .returned (.tuple #[.string (openR s).1, .int .i64 (openR s).2]) ∧ Below w.heap.size w w' := by
  have hB : Below w.heap.size w w := Below.refl _ _
  have ho := fun W => loose_any (s.extract 1 s.size) W (by rw [ByteArray.size_extract]; omega)
  have HO := Lib.hid ho
  clear ho
  cases hl : s.data.toList with
  | nil =>
    have hr : openR s = (⟨#[]⟩, 3) := by unfold openR; rw [hl]
    have hne : s.toList.isEmpty = true := by rw [ByteArray.toList_eq, hl]; rfl
    rw [hr]
    go_enter Try.func19, Try.ntmps19
    go_wp2
    go_ret2
    exact ⟨rfl, hB⟩
  | cons c r =>
    have i0 : 0 < s.size := by rw [ba_size, hl]; simp
    have i1 : (1 : Int) ≤ (s.size : Int) := by omega
    have hc : s[0]'i0 = c := ba_get i0 (by rw [hl]; rfl)
    have hne : s.toList.isEmpty = false := by rw [ByteArray.toList_eq, hl]; rfl
    by_cases h1 : c = 82
    · have hr : openR s = (s.extract 1 s.size, 0) := by unfold openR; rw [hl]; simp [h1]
      rw [hr]
      have hcn : ((c.toNat : Int) == 82) = true := by rw [h1]; decide
      clear hl hr
      go_enter Try.func19, Try.ntmps19
      go_wp2
      go_ret2
      exact ⟨rfl, hB⟩
    · have hcn : ((c.toNat : Int) == 82) = false := by
        rw [beq_eq_false_iff_ne]
        intro h
        exact h1 (UInt8.toNat_inj.1 (by show c.toNat = 82; omega))
      by_cases h2 : c = 90
      · have hr : openR s = (looseS (s.extract 1 s.size), looseE (s.extract 1 s.size)) := by unfold openR; rw [hl]; simp [h2]
        rw [hr]
        have hcm : ((c.toNat : Int) == 90) = true := by rw [h2]; decide
        clear hl hr
        go_enter Try.func19, Try.ntmps19
        go_wp2_with (go_at_call 17; with_reducible refine (HO.out _).mono ?_; rintro e w1 ⟨rfl, hb1⟩; have hB := below_on hB hb1)
        go_ret2
        exact ⟨rfl, hB⟩
      · have hcm : ((c.toNat : Int) == 90) = false := by
          rw [beq_eq_false_iff_ne]
          intro h
          exact h2 (UInt8.toNat_inj.1 (by show c.toNat = 90; omega))
        have hr : openR s = (⟨#[]⟩, 5) := by unfold openR; rw [hl]; simp [h1, h2]
        rw [hr]
        clear hl hr
        go_enter Try.func19, Try.ntmps19
        go_wp2
        go_ret2
        exact ⟨rfl, hB⟩
end Go.Proofs.Ytennmnoghipnfaa
