/- The walk of the law CodeStops. -/
import Derived.Test.YtgcghcmmcljiiaaReadsPre
import Derived.Test.YtgcghcmmcljiiaaSignWalk
set_option linter.unusedVariables false
namespace Go.Proofs.Ytgcghcmmcljiiaa
open Go.RowKit

theorem rdStep_off {r : Rd} (k n m : Int) (h : r.e ≠ 0) : rdStep r k n m = r := by
  unfold rdStep
  rw [off_byte h, off_num h, off_signed h, off_raw n h, off_count n h, off_text n h, off_nums n h, off_texts n m h, off_end h]
  simp

set_option maxHeartbeats 4000000 in
set_option maxRecDepth 100000 in
theorem law_stops (s : ByteArray) (n : Int) (A : Option Addr) (c : Nat) (l : List (Int × Int × Int)) (w : World) (hs : s.size ≤ 140737488351232) (hn0 : -9223372036854775808 ≤ n) (hn1 : n ≤ 9223372036854775807)
    (hl : l.length * 24 ≤ 140737488351232) (hlb : ∀ x ∈ l, -9223372036854775808 ≤ x.2.1 ∧ x.2.1 ≤ 9223372036854775807) (harr : Arr w w.heap.size 3 A l.length (opCells l)) :
    Calls Try.prog 8 #[.string s, .int .i64 n, .slice A l.length c] w fun e w' => e = .returned (.bool true) ∧ Below w.heap.size w w' := by
  have hB := Below.refl w.heap.size w
  by_cases q0 : 0 ≤ n ∧ n ≤ s.size
  · obtain ⟨q0, q1⟩ := q0
    go_enter Try.func8, Try.ntmps8
    go_wp2_with (first | (go_at_call 14; refine (awake_any _).mono ?_; rintro e w10 ⟨rfl, hb3⟩; have hB := below_next hB (Nat.le_refl _) hb3; clear hb3))
    go_ret
    exact ⟨rfl, hB⟩
  · have ok0 : Rd.ok ⟨s, 0, 0⟩ := ⟨Nat.zero_le _, by show s.size ≤ _; omega⟩
    obtain ⟨E, hE, R1⟩ : ∃ E : Int, E ≠ 0 ∧ rdRaw ⟨s, 0, 0⟩ n = (ByteArray.empty, ⟨s, 0, E⟩) := by
      by_cases h : n < 0
      · exact ⟨1, by omega, by unfold rdRaw; rw [if_neg (by simp), if_pos h]⟩
      · exact ⟨3, by omega, by unfold rdRaw; rw [if_neg (by simp), if_neg h, if_pos (by simp only; omega)]⟩
    have R1 := Lib.hid R1
    have ok1 : Rd.ok ⟨s, 0, E⟩ := ok0
    have hoff := fun k n m => rdStep_off (r := ⟨s, 0, E⟩) k n m hE
    have hoff2 := fun k n m => rdStep_off (r := ⟨⟨#[]⟩, 0, E⟩) k n m hE
    have hEb : (E != 0) = true := by simpa using hE
    have hguard : (decide (0 ≤ n) = false) ∨ (decide (0 ≤ n) = true ∧ decide (n ≤ (s.size : Int)) = false) := by
      by_cases h : 0 ≤ n
      · exact .inr ⟨by simpa using h, by simpa using (fun h2 => q0 ⟨h, h2⟩)⟩
      · exact .inl (by simpa using h)
    rcases hguard with q1 | ⟨q1, q2⟩
    all_goals
      go_enter Try.func8, Try.ntmps8
      go_wp2_with (first | (go_at_call 14; refine (awake_any _).mono ?_; rintro e w10 ⟨rfl, hb3⟩; have hB := below_next hB (Nat.le_refl _) hb3; clear hb3) | (go_at_call 17; refine (read_any _ _).mono ?_; rintro e w1 ⟨rfl, hr, hb1⟩; have hB := below_next hB (Nat.le_refl _) hb1; clear hb1) | (go_at_call 27; have hn := raw_any _ _ n _ hr ok0 (by omega) (by omega); rw [R1.out] at hn; refine hn.mono ?_; rintro e w2 ⟨rfl, hr, hg⟩; have hB := below_step hB (Nat.le_refl _) hg (by intro k hk; injection hk with hk; omega); clear hg hn) | (go_at_call 24; refine (err_any _ _ _ hr).mono ?_; rintro e w8 ⟨rfl, rfl⟩) | (go_at_call 23; refine (left_any _ _ _ hr ok1).mono ?_; rintro e w9 ⟨rfl, n9, rfl⟩; have hB := below_drewN hB n9; have hr := Rdr.drewN hr n9))
      go_loopw [10] (fun v10 wr => ∃ k : Nat, k ≤ l.length ∧ v10 = .int .i64 k ∧ Rdr wr w.heap.size ⟨s, 0, E⟩ ∧ Below w.heap.size w wr) (fun v10 _ => l.length - (intOf v10).toNat)
      case atStart => exact ⟨0, Nat.zero_le _, rfl, hr, hB⟩
      case round =>
        clear hr hB
        obtain ⟨k, hk, rfl, hr, hB⟩ := hrel
        by_cases hlt : k < l.length ∧ k < 60
        · obtain ⟨hlt, h60⟩ := hlt
          obtain ⟨⟨ok, on, om⟩, hx⟩ : ∃ x, l[k]? = some x := ⟨_, List.getElem?_eq_getElem hlt⟩
          obtain ⟨ab, ao, rfl, hab, hcell⟩ := harr.2 (by omega)
          have hxb := hlb _ (List.mem_of_getElem? hx)
          obtain ⟨o1, o2, o3⟩ := opCells_at hx
          have hwh := hB.size
          have hA := hB.alloc hwh (.cells #[.string ⟨#[]⟩, .int .i64 0, .int .i64 E] 39)
          have e1 := (hA.cell (p := ⟨ab, ao + k * 3, none⟩) hab).trans (hcell _ _ o1)
          have e2 := (hA.cell (p := ⟨ab, ao + (k * 3 + 1), none⟩) hab).trans (hcell _ _ o2)
          have e3 := (hA.cell (p := ⟨ab, ao + (k * 3 + 2), none⟩) hab).trans (hcell _ _ o3)
          rw [← Nat.add_assoc] at e2 e3
          have hsp := step_any w.heap.size wr.heap.size ⟨s, 0, E⟩ ⟨⟨#[]⟩, 0, E⟩ ok on om _ (Blk.alloc hr (.cells #[.string ⟨#[]⟩, .int .i64 0, .int .i64 E] 39)) (Blk.new wr _ _) ok1 ⟨Nat.zero_le _, by show ByteArray.size ⟨#[]⟩ ≤ _; decide⟩ (.inr hE) (by show ByteArray.size ⟨#[]⟩ ≤ _; decide) (.inr ⟨hE, rfl⟩) hxb.1 hxb.2
          rw [hoff, hoff2] at hsp
          have HSP := Lib.hid hsp
          clear hsp hx o1 o2 o3 hcell harr hxb
          go_wp2_with (go_at_call 29; refine HSP.out.mono ?_; rintro e w5 ⟨rfl, h5, q5, g5⟩)
          have hB5 := hA.trans (Fr.below g5 (by simp; omega) (fun k hk => by rcases hk with rfl | rfl <;> omega))
          go_roundw
          case rel => exact ⟨k + 1, by omega, by go_num, h5, hB5⟩
          case measure => simp [intOf]; omega
        · by_cases h1 : k < l.length
          · have h2 : ¬ k < 60 := fun h => hlt ⟨h1, h⟩
            go_wp2_with (first | (go_at_call 14; refine (awake_any _).mono ?_; rintro e w10 ⟨rfl, hb3⟩; have hB := below_next hB (Nat.le_refl _) hb3; clear hb3) | (go_at_call 24; refine (err_any _ _ _ hr).mono ?_; rintro e w8 ⟨rfl, rfl⟩) | (go_at_call 23; refine (left_any _ _ _ hr ok1).mono ?_; rintro e w9 ⟨rfl, n9, rfl⟩; have hB := below_drewN hB n9; have hr := Rdr.drewN hr n9))
            go_ret
            exact ⟨rfl, hB⟩
          · go_wp2_with (first | (go_at_call 14; refine (awake_any _).mono ?_; rintro e w10 ⟨rfl, hb3⟩; have hB := below_next hB (Nat.le_refl _) hb3; clear hb3) | (go_at_call 24; refine (err_any _ _ _ hr).mono ?_; rintro e w8 ⟨rfl, rfl⟩) | (go_at_call 23; refine (left_any _ _ _ hr ok1).mono ?_; rintro e w9 ⟨rfl, n9, rfl⟩; have hB := below_drewN hB n9; have hr := Rdr.drewN hr n9))
            go_ret
            exact ⟨rfl, hB⟩
end Go.Proofs.Ytgcghcmmcljiiaa
