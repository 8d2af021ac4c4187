/- The walk through Num, of the program and of the reference. -/
import Derived.Test.YtmcgaaihdjpdgaaGreatDoorNumPlain
import Derived.Test.YtmcgaaihdjpdgaaGreatDoorProg
namespace Go.Proofs.YtmcgaaihdjpdgaaGreatDoor
open Go.RowKit
theorem info8 : (Tryz.prog.info? 5).map (fun i => (i.zero, i.size, i.bytes)) = some (some (.int .u8 0), 1, 1) := by kernel_rfl

set_option maxHeartbeats 1000000 in
set_option maxRecDepth 100000 in
theorem code_num (n : Int) (w : World) (h0 : -9223372036854775808 ≤ n) (h1 : n ≤ 9223372036854775807) :
    Calls Tryz.prog 69 #[.int .i64 n] w fun e w' => e = .returned (.tuple #[.string (numS n), .int .i64 (numE n)]) ∧ Below w.heap.size w w' := by
  by_cases hn : n < 0 ∨ 4611686018427387903 < n
  · rw [numS_no hn, numE_no hn]
    rcases hn with hn | hn
    · go_enter Tryz.func69, Tryz.ntmps69
      go_wp2
      go_ret2
      exact ⟨rfl, Below.refl _ _⟩
    · have hn' : ¬ n < 0 := by omega
      go_enter Tryz.func69, Tryz.ntmps69
      go_wp2
      go_ret2
      exact ⟨rfl, Below.refl _ _⟩
  · rw [numS_ok (by omega) (by omega), numE_ok (by omega) (by omega)]
    have hn0 : 0 ≤ n := by omega
    have hn1 : n ≤ 4611686018427387903 := by omega
    clear hn h0 h1
    obtain ⟨n, rfl⟩ := Int.eq_ofNat_of_zero_le hn0
    rw [Int.toNat_natCast]
    obtain ⟨i0, hi, hz0, hz1, hz2⟩ := info_parts info8
    go_enter Tryz.func69, Tryz.ntmps69
    go_wp2
    go_loopw [0, 4] (fun v0 v4 wr => ∃ (done : List UInt8) (k : Nat), k ≤ 4611686018427387903 ∧ Hid (done ++ numL k = numL n) ∧ v0 = .int .i64 k ∧ done.length + (numL k).length ≤ 9 ∧ wr.ownsRow w.heap.size 5 1 v4 done.length (Lib.byteCells done) ∧ Below w.heap.size w wr) (fun v0 _ _ => (intOf v0).toNat)
    case atStart => exact ⟨[], n, by omega, by simp [Hid], rfl, by have := numL_len n (by omega); simpa using this, World.ownsRow_nil _ _ _ _, Below.refl _ _⟩
    case round =>
      obtain ⟨done, k, hk, HE, rfl, hlen, hown, hbel⟩ := hrel
      have hand := i64_and_127 k (by omega)
      have hor := i64_or_128 ((k : Int) % 128) (by omega) (by omega)
      by_cases hlt : 127 < k
      · go_wp2_with (at_builtin; refine wpList_push rfl _ _ _ rfl Tryz.underlying104 hi hz0 hz1 hz2 rfl (by decide) hown rfl rfl rfl (by simp [Value.oneCell']) (by unfold maxLen; omega) (by omega) (by have := hbel.size; omega) ?_; intro g cap w1 hown1 hgr1 hat1)
        have hst := num_step hlt HE hlen
        rw [List.length_append] at hst
        go_roundw
        case rel => exact ⟨done ++ [(k % 128 + 128).toUInt8], k / 128, by omega, hst.1, by go_num, by simpa using hst.2, by rw [← num_cells, List.length_append]; exact hown1, hbel.grown hgr1 (by have := hbel.size; omega) (fun j hj => (hown.lt j hj).1)⟩
        case measure => simp [intOf]; omega
      · go_wp2_with (at_builtin; refine wpList_push rfl _ _ _ rfl Tryz.underlying104 hi hz0 hz1 hz2 rfl (by decide) hown rfl rfl rfl (by simp [Value.oneCell']) (by unfold maxLen; omega) (by omega) (by have := hbel.size; omega) ?_; intro g cap w1 hown1 hgr1 hat1; have hcv := run_own_string (P := Tryz.prog) w1 104 9 5 Tryz.underlying104 Tryz.underlying5 Tryz.underlying9 (done ++ [k.toUInt8]) (by rw [← num_cells1 (by omega)]; exact hown1))
        go_ret2
        exact ⟨by rw [num_end (by omega) HE]; rfl, hbel.grown hgr1 (by have := hbel.size; omega) (fun j hj => (hown.lt j hj).1)⟩

end Go.Proofs.YtmcgaaihdjpdgaaGreatDoor
