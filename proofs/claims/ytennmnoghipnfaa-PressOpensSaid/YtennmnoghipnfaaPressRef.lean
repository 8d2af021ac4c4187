/- The walks through the reference's alike, plain and Press. -/
import Derived.Test.YtennmnoghipnfaaPressBoundsW
namespace Go.Proofs.Ytennmnoghipnfaa
open Go.RowKit
set_option linter.unusedVariables false

theorem numS_nat {n : Nat} (h : n ≤ 4611686018427387903) : numS (n : Int) = ⟨(numL n).toArray⟩ := by rw [numS_ok (by omega) (by omega), Int.toNat_natCast]
theorem numS_list {n : Nat} (h : n ≤ 4611686018427387903) : (numS (n : Int)).data.toList = numL n := by rw [numS_nat h]
theorem numS_9 {n : Nat} (h : n ≤ 4611686018427387903) : (numS (n : Int)).size ≤ 9 := by rw [ba_size, numS_list h]; exact numL_len n h
theorem below_drewN {a w : World} (h : Below a.heap.size a w) (n : Nat) : Below a.heap.size a (w.drewN n) := ⟨h.os, h.tape, h.output, h.size, h.block⟩
set_option maxRecDepth 100000 in
theorem ref_bytes (n : Int) (w : World) (h0 : -9223372036854775808 ≤ n) (h1 : n ≤ 9223372036854775807) :
    Calls Try.prog 26 #[.int .i64 n] w fun e w' => e = .returned (.string (numS n)) ∧ Below w.heap.size w w' := by
  go_enter Try.func26, Try.ntmps26
  go_wp2_with (go_at_call 45; refine (ref_num n _ h0 h1).mono ?_; rintro e w1 ⟨rfl, hb1⟩)
  go_ret
  exact ⟨rfl, hb1⟩

set_option maxHeartbeats 1000000 in
set_option maxRecDepth 100000 in
theorem ref_alike (s : ByteArray) (a b : Nat) (w : World) (hab : a ≤ b) (hb : b ≤ s.size) (h1 : s.size ≤ 1048576) :
    Calls Try.prog 27 #[.string s, .int .i64 a, .int .i64 b] w fun e w' => e = .returned (.int .i64 (al s.data.toList a b 259 : Nat)) ∧ Below w.heap.size w w' := by
  go_enter Try.func27, Try.ntmps27
  go_wp2
  go_loopw [7] (fun v9 wr => ∃ (k m : Nat), k ≤ 259 ∧ v9 = .int .i64 k ∧ b + k ≤ s.size ∧ Hid (k + al s.data.toList (a + k) (b + k) (259 - k) = al s.data.toList a b 259) ∧ wr = w.drewN m) (fun v9 _ => 259 - (intOf v9).toNat)
  case atStart => exact ⟨0, 0, Nat.zero_le _, rfl, by omega, by simp [Hid], rfl⟩
  case round =>
    obtain ⟨k, m, hk, rfl, hbk, H, rfl⟩ := hrel
    by_cases hkn : k < 259
    · by_cases hlt : b + k < s.size
      · have g1 := f_slot_get s (a + k) (by omega)
        have g2 := f_slot_get s (b + k) (by omega)
        have hd1 : decide ((k : Int) < 259) = true := decide_eq_true (by omega)
        have hw1 : IntKind.i64.wrap ((a : Int) + k) = (a : Int) + k := by rw [IntKind.wrap_i64]; omega
        have hw2 : IntKind.i64.wrap ((b : Int) + k) = (b : Int) + k := by rw [IntKind.wrap_i64]; omega
        have hd2 : decide ((b : Int) + k < s.size) = true := decide_eq_true (by omega)
        have hi1 : (a : Int) + k < s.size := by omega
        have hi2 : (b : Int) + k < s.size := by omega
        have hj1 : 0 ≤ (a : Int) + k := by omega
        have hj2 : 0 ≤ (b : Int) + k := by omega
        by_cases he : bat s.data.toList (a + k) = bat s.data.toList (b + k)
        · have hst := al_go hkn (by rw [← ba_size]; exact hlt) he H
          go_wp2
          go_quiet (fail)
          go_wp2
          go_roundw
          case rel => exact ⟨k + 1, _, by omega, by go_num, by omega, hst, rfl⟩
          case measure => simp [intOf]; omega
        · have hz := al_stop (t := s.data.toList) (a := a + k) (b := b + k) (n := 259 - k) (fun h => he h.2.2)
          have hne : (((bat s.data.toList (a + k)).toNat : Int) == ((bat s.data.toList (b + k)).toNat : Int)) = false := by
            rw [beq_eq_false_iff_ne]
            intro h
            exact he (UInt8.toNat_inj.1 (by omega))
          have hr := H.out
          rw [hz] at hr
          have HR := Lib.hid hr
          clear hz hr H
          go_wp2
          go_quiet (fail)
          go_wp2
          go_ret
          exact ⟨by rw [← HR.out]; rfl, below_drewN (below_drewN (Below.refl _ _) _) _⟩
      · have hz := al_stop (t := s.data.toList) (a := a + k) (b := b + k) (n := 259 - k) (fun h => hlt (by rw [ba_size]; exact h.2.1))
        have hd1 : decide ((k : Int) < 259) = true := decide_eq_true (by omega)
        have hw2 : IntKind.i64.wrap ((b : Int) + k) = (b : Int) + k := by rw [IntKind.wrap_i64]; omega
        have hd2 : decide ((b : Int) + k < s.size) = false := decide_eq_false (by omega)
        have hr := H.out
        rw [hz] at hr
        have HR := Lib.hid hr
        clear hz hr H
        go_wp2
        go_quiet (fail)
        go_wp2
        go_ret
        exact ⟨by rw [← HR.out]; rfl, below_drewN (below_drewN (Below.refl _ _) _) _⟩
    · have hz := al_stop (t := s.data.toList) (a := a + k) (b := b + k) (n := 259 - k) (fun h => hkn (by omega))
      have hd1 : decide ((k : Int) < 259) = false := decide_eq_false (by omega)
      have hr := H.out
      rw [hz] at hr
      have HR := Lib.hid hr
      clear hz hr H
      go_wp2
      go_quiet (fail)
      go_wp2
      go_ret
      exact ⟨by rw [← HR.out]; rfl, below_drewN (below_drewN (Below.refl _ _) _) _⟩

/-- What was gathered, as a plain run. -/
def plS (h : ByteArray) : ByteArray := if h.size = 0 then ⟨#[]⟩ else numS (2 * h.size : Nat) ++ h
theorem plS_list {h : ByteArray} {t : List UInt8} {a b : Nat} (hh : h.data.toList = (t.take b).drop a) (hab : a ≤ b) (hb : b ≤ t.length) (hN : t.length ≤ 1048576) : (plS h).data.toList = run_ t a b := by
  have hs : h.size = b - a := by rw [ba_size, hh]; simp; omega
  unfold plS run_
  by_cases h0 : a < b
  · rw [if_neg (by omega), if_pos h0, ByteArray.data_append, Array.toList_append, numS_list (by omega), hh, hs]
  · rw [if_pos (by omega), if_neg h0]
theorem plS_le (h : ByteArray) (hh : h.size ≤ 1048576) : (plS h).size ≤ h.size + 9 := by
  unfold plS
  split
  · show 0 ≤ _; omega
  · rw [ByteArray.size_append]
    have := numS_9 (n := 2 * h.size) (by omega)
    omega
set_option maxRecDepth 100000 in
theorem ref_plain (h : ByteArray) (w : World) (hh : h.size ≤ 1048576) :
    Calls Try.prog 28 #[.string h] w fun e w' => e = .returned (.string (plS h)) ∧ Below w.heap.size w w' := by
  by_cases h0 : h.size = 0
  · have hp : plS h = ⟨#[]⟩ := if_pos h0
    rw [hp]
    have he : h = ⟨#[]⟩ := by
      cases h with
      | mk d =>
        congr
        exact Array.eq_empty_of_size_eq_zero h0
    subst he
    go_enter Try.func28, Try.ntmps28
    go_wp2
    go_ret
    exact ⟨rfl, Below.refl _ _⟩
  · have hp : plS h = numS (2 * h.size : Nat) ++ h := if_neg h0
    rw [hp]
    have hb := fun W => ref_bytes (2 * h.size : Nat) W (by omega) (by omega)
    rw [show ((2 * h.size : Nat) : Int) = 2 * (h.size : Int) from by omega] at hb ⊢
    have h9 := numS_9 (n := 2 * h.size) (by omega)
    rw [show ((2 * h.size : Nat) : Int) = 2 * (h.size : Int) from by omega] at h9
    have hne : h.toList.isEmpty = false := by
      rw [ByteArray.toList_eq]
      cases hl : h.data.toList with
      | nil => rw [ba_size, hl] at h0; exact absurd rfl h0
      | cons _ _ => rfl
    have HB := Lib.hid hb
    clear hb hp
    go_enter Try.func28, Try.ntmps28
    go_wp2_with (go_at_call 26; refine (HB.out _).mono ?_; rintro e w1 ⟨rfl, hb1⟩)
    go_ret
    exact ⟨rfl, hb1⟩
end Go.Proofs.Ytennmnoghipnfaa
