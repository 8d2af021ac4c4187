/- The walks of Signed, of the program and of the reference, and of the law CodeSigns. -/
import Derived.Test.YtgcghcmmcljiiaaLawNums
namespace Go.Proofs.Ytgcghcmmcljiiaa
open Go.RowKit

/-- A number with a sign, as a number. -/
def zig (n : Int) : Int := if n < 0 then -2 * n - 1 else 2 * n
def sigBad (n : Int) : Prop := n < -2305843009213693952 ∨ 2305843009213693951 < n
instance (n : Int) : Decidable (sigBad n) := by unfold sigBad; infer_instance
def sigS (n : Int) : ByteArray := if sigBad n then ByteArray.empty else numS (zig n)
def sigE (n : Int) : Int := if sigBad n then 2 else 0

theorem zig_range {n : Int} (h : ¬ sigBad n) : 0 ≤ zig n ∧ zig n ≤ 4611686018427387903 := by unfold sigBad at h; unfold zig; split <;> omega
theorem sgn_zig {n : Int} : sgn (zig n).toNat = n := by unfold zig sgn; split <;> split <;> omega

theorem sig_reads {n : Int} (h : ¬ sigBad n) : rdSigned ⟨numS (zig n), 0, 0⟩ = (n, ⟨numS (zig n), (numS (zig n)).size, 0⟩) := by
  obtain ⟨h0, h1⟩ := zig_range h
  have e := rdNum_numL (s := numS (zig n)) (n := (zig n).toNat) (pre := []) (rest := []) (by omega) (by rw [numS_ok h0 h1]; simp)
  have es : (numS (zig n)).size = (numL (zig n).toNat).length := by rw [numS_ok h0 h1, ba_size]
  have e' : rdNum ⟨numS (zig n), 0, 0⟩ = ((zig n).toNat, ⟨numS (zig n), 0 + (numL (zig n).toNat).length, 0⟩) := e
  unfold rdSigned
  rw [e', sgn_zig, es, Nat.zero_add]
theorem end_at (s : ByteArray) : rdEnd ⟨s, s.size, 0⟩ = ⟨s, s.size, 0⟩ := if_neg (by simp)
theorem numS_size (n : Int) : (numS n).size ≤ 9223372036854775807 := by
  unfold numS
  split
  · simp
  · rename_i h
    rw [ba_size]
    have := numL_len n.toNat (by omega)
    show (numL n.toNat).length ≤ _
    omega

set_option maxRecDepth 100000 in
theorem code_signed (n : Int) (w : World) (h0 : -9223372036854775808 ≤ n) (h1 : n ≤ 9223372036854775807) :
    Calls Try.prog 15 #[.int .i64 n] w fun e w' => e = .returned (.tuple #[.string (sigS n), .int .i64 (sigE n)]) ∧ Below w.heap.size w w' := by
  by_cases hbad : sigBad n
  · have HS : Hid (sigS n = ByteArray.empty ∧ sigE n = 2) := ⟨if_pos hbad, if_pos hbad⟩
    unfold sigBad at hbad
    have hb : (n < -2305843009213693952) ∨ (¬ n < -2305843009213693952 ∧ 2305843009213693951 < n) := by omega
    clear hbad
    rcases hb with hb | ⟨hb, hb'⟩
    all_goals
      go_enter Try.func15, Try.ntmps15
      go_wp2
      go_ret2
      rw [HS.out.1, HS.out.2]
      exact ⟨rfl, Below.refl _ _⟩
  · have HS : Hid (sigS n = numS (zig n) ∧ sigE n = 0) := ⟨if_neg hbad, if_neg hbad⟩
    obtain ⟨hz0, hz1⟩ := zig_range hbad
    have hc := fun w => code_num (zig n) w (by omega) (by omega)
    rw [numE_ok hz0 hz1] at hc
    unfold sigBad at hbad
    have hq1 : ¬ n < -2305843009213693952 := by omega
    have hq2 : ¬ 2305843009213693951 < n := by omega
    clear hbad hz0 hz1
    by_cases hneg : n < 0
    · have ez : zig n = -2 * n - 1 := if_pos hneg
      rw [ez] at hc
      have EZ := Lib.hid ez
      have HC := Lib.hid hc
      clear ez hc
      go_enter Try.func15, Try.ntmps15
      go_wp2_with (go_at_call 12; refine (HC.out _).mono ?_; rintro e w1 ⟨rfl, hb1⟩)
      go_ret2
      rw [HS.out.1, HS.out.2, EZ.out]
      exact ⟨rfl, hb1⟩
    · have ez : zig n = 2 * n := if_neg hneg
      rw [ez] at hc
      have EZ := Lib.hid ez
      have HC := Lib.hid hc
      clear ez hc
      go_enter Try.func15, Try.ntmps15
      go_wp2_with (go_at_call 12; refine (HC.out _).mono ?_; rintro e w1 ⟨rfl, hb1⟩)
      go_ret2
      rw [HS.out.1, HS.out.2, EZ.out]
      exact ⟨rfl, hb1⟩

set_option maxRecDepth 100000 in
theorem ref_signed (n : Int) (w : World) (h0 : -9223372036854775808 ≤ n) (h1 : n ≤ 9223372036854775807) :
    Calls Try.prog 16 #[.int .i64 n] w fun e w' => e = .returned (.tuple #[.string (sigS n), .int .i64 (sigE n)]) ∧ Below w.heap.size w w' := by
  by_cases hbad : sigBad n
  · have HS : Hid (sigS n = ByteArray.empty ∧ sigE n = 2) := ⟨if_pos hbad, if_pos hbad⟩
    unfold sigBad at hbad
    have hb : (n < -2305843009213693952) ∨ (¬ n < -2305843009213693952 ∧ 2305843009213693951 < n) := by omega
    clear hbad
    rcases hb with hb | ⟨hb, hb'⟩
    all_goals
      go_enter Try.func16, Try.ntmps16
      go_wp2
      go_ret2
      rw [HS.out.1, HS.out.2]
      exact ⟨rfl, Below.refl _ _⟩
  · have HS : Hid (sigS n = numS (zig n) ∧ sigE n = 0) := ⟨if_neg hbad, if_neg hbad⟩
    obtain ⟨hz0, hz1⟩ := zig_range hbad
    have hc := fun w => ref_num (zig n) w (by omega) (by omega)
    rw [numE_ok hz0 hz1] at hc
    unfold sigBad at hbad
    have hq1 : ¬ n < -2305843009213693952 := by omega
    have hq2 : ¬ 2305843009213693951 < n := by omega
    clear hbad hz0 hz1
    by_cases hneg : n < 0
    · have ez : zig n = -2 * n - 1 := if_pos hneg
      have EZ := Lib.hid ez
      have HC := Lib.hid hc
      clear ez hc
      go_enter Try.func16, Try.ntmps16
      go_wp2_with (go_at_call 13; rw [show -(2 * n) - 1 = zig n from by rw [EZ.out]; omega]; refine (HC.out _).mono ?_; rintro e w1 ⟨rfl, hb1⟩)
      go_ret2
      rw [HS.out.1, HS.out.2]
      exact ⟨rfl, hb1⟩
    · have ez : zig n = 2 * n := if_neg hneg
      have EZ := Lib.hid ez
      have HC := Lib.hid hc
      clear ez hc
      go_enter Try.func16, Try.ntmps16
      go_wp2_with (go_at_call 13; rw [show 2 * n = zig n from EZ.out.symm]; refine (HC.out _).mono ?_; rintro e w1 ⟨rfl, hb1⟩)
      go_ret2
      rw [HS.out.1, HS.out.2]
      exact ⟨rfl, hb1⟩

theorem below_step {B : Nat} {a b c : World} {row : Option Nat} (h : Below B a b) (hB : B ≤ a.heap.size) (g : b.grownBy c row) (hr : ∀ k, row = some k → B ≤ k) : Below B a c :=
  h.grown g (Nat.le_trans hB h.size) hr
theorem below_next {B : Nat} {a b c : World} (h : Below B a b) (hB : B ≤ a.heap.size) (g : Below b.heap.size b c) : Below B a c :=
  h.trans (g.mono (Nat.le_trans hB h.size))

set_option maxRecDepth 100000 in
theorem law_signs (n : Int) (w : World) (h0 : -9223372036854775808 ≤ n) (h1 : n ≤ 9223372036854775807) :
    Calls Try.prog 4 #[.int .i64 n] w fun e w' => e = .returned (.bool true) ∧ Below w.heap.size w w' := by
  by_cases hbad : sigBad n
  · have hc := fun w => code_signed n w h0 h1
    have hf := fun w => ref_signed n w h0 h1
    rw [show sigS n = ByteArray.empty from if_pos hbad, show sigE n = 2 from if_pos hbad] at hc hf
    have HC := Lib.hid hc
    have HF := Lib.hid hf
    clear hc hf hbad
    go_enter Try.func4, Try.ntmps4
    go_wp2_with (first | (go_at_call 15; refine (HC.out _).mono ?_; rintro e w1 ⟨rfl, hb1⟩) | (go_at_call 16; refine (HF.out _).mono ?_; rintro e w2 ⟨rfl, hb2⟩) | (go_at_call 17; refine (read_any _ _).mono ?_; rintro e w3 ⟨rfl, hr3, hb3⟩) | (go_at_call 14; refine (awake_any _).mono ?_; rintro e w4 ⟨rfl, hb4⟩))
    go_ret
    exact ⟨rfl, below_next (below_next (below_next hb1 (Nat.le_refl _) hb2) (Nat.le_refl _) hb3) (Nat.le_refl _) hb4⟩
  · have hc := fun w => code_signed n w h0 h1
    have hf := fun w => ref_signed n w h0 h1
    rw [show sigS n = numS (zig n) from if_neg hbad, show sigE n = 0 from if_neg hbad] at hc hf
    have HC := Lib.hid hc
    have HF := Lib.hid hf
    have hsz := numS_size (zig n)
    have er := sig_reads hbad
    have ee := end_at (numS (zig n))
    generalize numS (zig n) = s at HC HF hsz er ee
    have ER := Lib.hid er
    have EE := Lib.hid ee
    have ho : Rd.ok ⟨s, 0, 0⟩ := ⟨Nat.zero_le _, hsz⟩
    have ho2 : Rd.ok ⟨s, s.size, 0⟩ := ⟨Nat.le_refl _, hsz⟩
    clear hc hf hbad er ee
    go_enter Try.func4, Try.ntmps4
    go_wp2_with (first | (go_at_call 15; refine (HC.out _).mono ?_; rintro e w1 ⟨rfl, hb1⟩) | (go_at_call 16; refine (HF.out _).mono ?_; rintro e w2 ⟨rfl, hb2⟩) | (go_at_call 17; refine (read_any _ _).mono ?_; rintro e w3 ⟨rfl, hr3, hb3⟩) | (go_at_call 14; refine (awake_any _).mono ?_; rintro e w4 ⟨rfl, hb4⟩))
    go_outline
    have hs := signed_any _ _ _ hr3 ho
    rw [ER.out] at hs
    refine hs.mono ?_
    rintro e w5 ⟨rfl, hr5, hg5⟩
    go_wp2_with fail
    have he := end_any _ _ _ hr5 ho2
    rw [EE.out] at he
    refine he.mono ?_
    rintro e w6 ⟨rfl, hr6, hg6⟩
    go_wp2_with (go_at_call 14; refine (awake_any _).mono ?_; rintro e w7 ⟨rfl, hb7⟩)
    go_ret
    have s1 := (below_next hb1 (Nat.le_refl _) hb2).size
    exact ⟨rfl, below_next (below_step (below_step (below_next (below_next hb1 (Nat.le_refl _) hb2) (Nat.le_refl _) hb3) (Nat.le_refl _) hg5 (by simpa using s1)) (Nat.le_refl _) hg6 (by simpa using s1)) (Nat.le_refl _) hb7⟩
end Go.Proofs.Ytgcghcmmcljiiaa
