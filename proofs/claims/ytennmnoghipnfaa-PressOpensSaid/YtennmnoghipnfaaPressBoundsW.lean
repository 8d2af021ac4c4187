/- The walks of the laws PressBounds and PressLong. -/
import Derived.Test.YtennmnoghipnfaaPressWrap
namespace Go.Proofs.Ytennmnoghipnfaa
open Go.RowKit
set_option linter.unusedVariables false

def cutS (s : ByteArray) (n : Nat) : ByteArray := if n < s.size then s.extract 0 n else s
theorem cutS_le (s : ByteArray) (n : Nat) : (cutS s n).size ≤ n := by
  unfold cutS
  split
  · rw [ByteArray.size_extract]; omega
  · omega
set_option maxRecDepth 100000 in
theorem cut_any (s : ByteArray) (n : Nat) (w : World) (hn : n ≤ 1048576) (hs : s.size ≤ 140737488351232) :
    Calls Try.prog 12 #[.string s, .int .i64 n] w fun e w' => e = .returned (.string (cutS s n)) ∧ w = w' := by
  by_cases h : n < s.size
  · have hc : cutS s n = s.extract 0 n := if_pos h
    rw [hc]
    clear hc
    go_enter Try.func12, Try.ntmps12
    go_wp2
    go_ret
    exact ⟨rfl, rfl⟩
  · have hc : cutS s n = s := if_neg h
    rw [hc]
    clear hc
    go_enter Try.func12, Try.ntmps12
    go_wp2
    go_ret
    exact ⟨rfl, rfl⟩

theorem cut_at (s : ByteArray) (n : Nat) (x : Int) (w : World) (hx : x = (n : Int)) (hn : n ≤ 1048576) (hs : s.size ≤ 140737488351232) :
    Calls Try.prog 12 #[.string s, .int .i64 x] w fun e w' => e = .returned (.string (cutS s n)) ∧ w = w' := by
  subst hx
  exact cut_any s n w hn hs
theorem below_on {w b c : World} (h : Below w.heap.size w b) (g : Below b.heap.size b c) : Below w.heap.size w c := h.trans (g.mono h.size)

theorem wrapS_le {s : ByteArray} (h : s.size ≤ 1048576) : (wrapS s).size ≤ s.size + 1 := by
  unfold wrapS
  rw [if_neg (by omega)]
  split
  · rw [ByteArray.size_append]
    show 1 + (pressS s).size ≤ _
    omega
  · rw [ByteArray.size_append]
    show 1 + s.size ≤ _
    omega

set_option maxHeartbeats 1000000 in
set_option maxRecDepth 100000 in
theorem law_bounds (s : ByteArray) (w : World) (hs : s.size ≤ 140737488351232) :
    Calls Try.prog 5 #[.string s] w fun e w' => e = .returned (.bool true) ∧ Below w.heap.size w w' := by
  have hc := fun W => cut_at s 20000 20000 W rfl (by omega) hs
  have hl := cutS_le s 20000
  generalize cutS s 20000 = t at hc hl
  have hp := fun W => press_all t W
  have hw := fun W => wrap_all t W (by omega)
  have hpl := press_bound (t := t.data.toList) (by rw [← ba_size]; exact hl)
  rw [← pressS_size (by omega), ← ba_size] at hpl
  have hwl := wrapS_le (s := t) (by omega)
  rw [(pressS_ok (by omega)).2] at hp hw
  have HC := Lib.hid hc
  have HP := Lib.hid hp
  have HW := Lib.hid hw
  have HA := Lib.hid awake_any
  clear hc hp hw
  generalize pressS t = p at *
  generalize wrapS t = q at *
  have hB : Below w.heap.size w w := Below.refl _ _
  have hpl2 : (p.size : Int) ≤ t.size + t.size / 64 + 6 := by omega
  have hwl2 : (q.size : Int) ≤ t.size + 1 := by omega
  go_enter Try.func5, Try.ntmps5
  go_wp2_with (first
    | (go_at_call 12; with_reducible refine (HC.out _).mono ?_; rintro e w1 ⟨rfl, rfl⟩)
    | (go_at_call 13; with_reducible refine (HP.out _).mono ?_; rintro e w1 ⟨rfl, hb1⟩; have hB := below_on hB hb1)
    | (go_at_call 16; with_reducible refine (HW.out _).mono ?_; rintro e w1 ⟨rfl, hb1⟩; have hB := below_on hB hb1)
    | (go_at_call 15; with_reducible refine (HA.out _).mono ?_; rintro e w1 ⟨rfl, hb1⟩; have hB := below_on hB hb1))
  go_ret
  exact ⟨rfl, hB⟩

theorem infoU8 : (Try.prog.info? 5).map (fun i => (i.zero, i.size, i.bytes)) = some (some (.int .u8 0), 1, 1) := by kernel_rfl
theorem made_text (n : Nat) (hn : n ≤ 1048600) : ∃ (cs : Array Value) (z : ByteArray), z.size = n ∧
    (∀ W : World, (Instr.makeSlice 28 (.int .i64 n) (.int .i64 n)).run Try.prog W = .ok (.slice (some ⟨W.heap.size, 0, none⟩) n n) (W.alloc (.cells cs 5))) ∧
    (∀ W : World, (convert 28 9 (.slice (some ⟨W.heap.size, 0, none⟩) n n)).run Try.prog (W.alloc (.cells cs 5)) = .ok (.string z) (W.alloc (.cells cs 5))) := by
  obtain ⟨i0, hi, hz0, hz1, hz2⟩ := info_parts infoU8
  refine ⟨madeCells #[.int .u8 0] n, ⟨(List.replicate n 0).toArray⟩, ?_, fun W => ?_, fun W => ?_⟩
  · rw [ba_size]; simp
  · have hr := run_make (P := Try.prog) W 28 5 i0 (.int .u8 0) Try.underlying28 hi hz0 .i64 .i64 n n (by omega) (Int.le_refl _) (by rw [hz2]; omega) (by omega)
    rw [Int.toNat_natCast, hz1, Nat.mul_one] at hr
    exact hr
  · have hc := run_convert_bytes_back (P := Try.prog) (W.alloc (.cells (madeCells #[.int .u8 0] n) 5)) 28 9 5 ⟨W.heap.size, 0, none⟩ n (List.replicate n 0) Try.underlying28 Try.underlying5 Try.underlying9 (by
      intro j hj
      rw [List.length_replicate] at hj
      have hadd : (⟨W.heap.size, 0, none⟩ : Addr).add j = ⟨W.heap.size, j, none⟩ := by unfold Addr.add; split <;> simp_all
      rw [hadd, (Blk.new W _ _).cell]
      unfold madeCells
      rw [Array.getElem?_map, Array.getElem?_range, if_pos hj]
      simp [Nat.mod_one])
    rw [List.length_replicate] at hc
    exact hc

set_option maxHeartbeats 1000000 in
set_option maxRecDepth 100000 in
theorem law_long (n : Int) (w : World) (h0 : -9223372036854775808 ≤ n) (h1 : n ≤ 9223372036854775807) :
    Calls Try.prog 7 #[.int .i64 n] w fun e w' => e = .returned (.bool true) ∧ Below w.heap.size w w' := by
  have HA := Lib.hid awake_any
  have hB : Below w.heap.size w w := Below.refl _ _
  by_cases hlo : n < 1
  · go_enter Try.func7, Try.ntmps7
    go_wp2_with (go_at_call 15; with_reducible refine (HA.out _).mono ?_; rintro e w1 ⟨rfl, hb1⟩)
    go_ret
    exact ⟨rfl, hb1⟩
  · by_cases hhi : 9 < n
    · go_enter Try.func7, Try.ntmps7
      go_wp2_with (go_at_call 15; with_reducible refine (HA.out _).mono ?_; rintro e w1 ⟨rfl, hb1⟩)
      go_ret
      exact ⟨rfl, hb1⟩
    · obtain ⟨m, rfl⟩ := Int.eq_ofNat_of_zero_le (a := n) (by omega)
      obtain ⟨cs, z, hz, hmk, hcv⟩ := made_text (1048576 + m) (by omega)
      have hp := fun W => press_all z W
      have hw := fun W => wrap_all z W (by omega)
      rw [(pressS_no (by omega)).2] at hp hw
      have HP := Lib.hid hp
      have HW := Lib.hid hw
      clear hp hw
      generalize pressS z = p at *
      generalize wrapS z = q at *
      rw [show ((1048576 + m : Nat) : Int) = 1048576 + (m : Int) from by omega] at hmk
      go_enter Try.func7, Try.ntmps7
      go_wp2_with (first
        | (go_at_call 13; with_reducible refine (HP.out _).mono ?_; rintro e w1 ⟨rfl, hb1⟩; have hB := below_on (hB.alloc (Nat.le_refl _) _) hb1)
        | (go_at_call 16; with_reducible refine (HW.out _).mono ?_; rintro e w2 ⟨rfl, hb2⟩; have hB := below_on (hB.alloc hB.size _) hb2)
        | (go_at_call 15; with_reducible refine (HA.out _).mono ?_; rintro e w3 ⟨rfl, hb3⟩; have hB := below_on hB hb3))
      go_ret
      exact ⟨rfl, hB⟩
end Go.Proofs.Ytennmnoghipnfaa
