/- The walk of the law NetFull. -/
import Derived.Test.YtpmjbkpooionbaaNetAllWalk
set_option linter.unusedVariables false
namespace Go.Proofs.Ytpmjbkpooionbaa
open Go.RowKit

set_option maxHeartbeats 1000000 in
set_option maxRecDepth 100000 in
theorem law_full (n : Int) (w : World) (n0 : -9223372036854775808 ≤ n) (n1 : n ≤ 9223372036854775807) :
    Calls Try.prog 4 #[.int .i64 n] w fun e w' => e = .returned (.bool true) ∧ Below w.heap.size w w' := by
  have hB := Below.refl w.heap.size w
  by_cases q0 : n < 0
  · go_enter Try.func4, Try.ntmps4
    go_wp2_with (first | (go_at_call 13; refine (awake_any _).mono ?_; rintro e w10 ⟨rfl, hb3⟩; have hB := hB.trans (hb3.mono hB.size); clear hb3))
    go_ret
    exact ⟨rfl, hB⟩
  by_cases q1 : 20 < n
  · go_enter Try.func4, Try.ntmps4
    go_wp2_with (first | (go_at_call 13; refine (awake_any _).mono ?_; rintro e w10 ⟨rfl, hb3⟩; have hB := hB.trans (hb3.mono hB.size); clear hb3))
    go_ret
    exact ⟨rfl, hB⟩
  obtain ⟨m, rfl⟩ : ∃ m : Nat, n = m := ⟨n.toNat, by omega⟩
  clear hB
  have hm : m ≤ 20 := by omega
  go_enter Try.func4, Try.ntmps4
  go_wp2_with (first | (go_at_call 8; refine (net_new _).mono ?_; rintro e w1 ⟨rfl, hN, hB⟩))
  go_loopw [4, 5] (fun v4 v5 wr => ∃ (j : Nat) (V : Value), j ≤ 4096 + m ∧ v5 = .int .i64 j ∧ v4 = .int .i64 ((j - 4096 : Nat) : Int) ∧ NetAt wr w.heap.size (w.heap.size + 1) w.heap.size V (List.replicate (min j 4096) ⟨#[120]⟩) j (j - 4096) ∧ Below w.heap.size w wr) (fun _ v5 _ => 4096 + m - (intOf v5).toNat)
  case atStart => exact ⟨0, _, Nat.zero_le _, rfl, rfl, by simpa using hN, hB⟩
  case round =>
    clear hN hB
    obtain ⟨j, V, hj, rfl, rfl, hN, hB⟩ := hrel
    by_cases hlt : j < 4096 + m
    · have g0 : (j : Int) < 4096 + (m : Int) := by omega
      by_cases hs : j < 4096
      · have e1 : min j 4096 = j := by omega
        have e2 : j - 4096 = 0 := by omega
        have e3 : min (j + 1) 4096 = j + 1 := by omega
        have e4 : j + 1 - 4096 = 0 := by omega
        have hrep : List.replicate j (⟨#[120]⟩ : ByteArray) ++ [⟨#[120]⟩] = List.replicate (j + 1) ⟨#[120]⟩ := by rw [List.replicate_succ']
        have HX := Lib.hid hrep
        rw [e1, e2] at hN
        rw [e2]
        clear hrep
        go_wp2_with (go_at_call 9; refine (net_send _ _ _ _ _ _ _ _ _ hN hB.size (by simpa using hs) (by omega)).mono ?_; rintro e w2 ⟨rfl, V2, hN2, hf2, _⟩; have hB := hN.step hB (Nat.le_refl _) hf2)
        rw [HX.out] at hN2
        go_roundw
        case rel => exact ⟨j + 1, V2, by omega, by go_num, by rw [e4]; rfl, by rw [e3, e4]; exact hN2, hB⟩
        case measure => simp [intOf]; omega
      · have e1 : min j 4096 = 4096 := by omega
        have e3 : min (j + 1) 4096 = 4096 := by omega
        have e4 : j + 1 - 4096 = j - 4096 + 1 := by omega
        have hlo : j - 4096 ≤ 20 := by omega
        rw [e1] at hN
        generalize hd : j - 4096 = d at hN e4 hlo
        go_wp2_with (go_at_call 9; refine (net_send_no _ _ _ _ _ _ _ _ _ hN (by simp) (by simp) (by omega) (by omega)).mono ?_; rintro e w2 ⟨rfl, hN2, hf2⟩; have hB := hN.step1 hB (Nat.le_refl _) hf2)
        go_roundw
        case rel => exact ⟨j + 1, V, by omega, by go_num, by rw [e4]; go_num, by rw [e3, e4]; exact hN2, hB⟩
        case measure => simp [intOf]; omega
    · obtain rfl : j = 4096 + m := by omega
      have e1 : min (4096 + m) 4096 = 4096 := by omega
      have e2 : 4096 + m - 4096 = m := by omega
      rw [e1, e2] at hN
      rw [e2]
      have hx0 : (List.replicate 4096 (⟨#[120]⟩ : ByteArray))[0]? = some ⟨#[120]⟩ := by simp
      have hl0 : (List.replicate 4096 (⟨#[120]⟩ : ByteArray)).length = 4096 := by simp
      have hl1 : ((List.replicate 4096 (⟨#[120]⟩ : ByteArray)).eraseIdx 0).length = 4095 := by rw [List.length_eraseIdx_of_lt (by simp), hl0]
      generalize List.replicate 4096 (⟨#[120]⟩ : ByteArray) = R at hN hx0 hl0 hl1
      have g1 : ((4096 + m : Nat) : Int) = 4096 + (m : Int) := by omega
      go_wp2_with (first
        | (go_at_call 14; refine (net_counts _ _ _ _ _ _ _ _ hN).mono ?_; rintro e w2 ⟨rfl, n2, rfl⟩; have hN := hN.fr (S := fun _ => False) (Fr.drewN (Fr.refl _ _) n2) (fun _ _ h => h); have hB := below_drewN hB n2)
        | (go_at_call 15; refine (net_copy_full _ _ _ _ _ _ _ 0 _ hN hl0 (by omega)).mono ?_; rintro e w3 ⟨rfl, rfl⟩)
        | (go_at_call 16; refine (net_drop _ _ _ _ _ _ _ 0 _ hN (by omega) (by omega)).mono ?_; rintro e w4 ⟨rfl, V4, hN4, hf4, _⟩; have hB := hN.step hB (Nat.le_refl _) hf4)
        | (go_at_call 11; refine (net_len _ _ _ _ _ _ _ _ hN4).mono ?_; rintro e w5 ⟨rfl, rfl⟩)
        | (go_at_call 9; refine (net_send _ _ _ _ _ _ _ _ _ hN4 hB.size (by omega) (by omega)).mono ?_; rintro e w6 ⟨rfl, V6, hN6, hf6, _⟩; have hB := hN4.step hB (Nat.le_refl _) hf6)
        | (go_at_call 13; refine (awake_any _).mono ?_; rintro e w10 ⟨rfl, hb3⟩; have hB := hB.trans (hb3.mono hB.size); clear hb3))
      go_ret
      exact ⟨rfl, hB⟩
end Go.Proofs.Ytpmjbkpooionbaa
