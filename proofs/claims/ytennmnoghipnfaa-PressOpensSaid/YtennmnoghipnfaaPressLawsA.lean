/- The walks of the laws PressPresses, PressWraps and PressFar. -/
import Derived.Test.YtennmnoghipnfaaPressRef2
import Derived.Lib.SlBytesConst
import Derived.ArgAppend
namespace Go.Proofs.Ytennmnoghipnfaa
open Go.RowKit
set_option linter.unusedVariables false

set_option maxHeartbeats 1000000 in
set_option maxRecDepth 100000 in
theorem law_presses (s : ByteArray) (w : World) (hs : s.size ≤ 140737488351232) :
    Calls Try.prog 3 #[.string s] w fun e w' => e = .returned (.bool true) ∧ Below w.heap.size w w' := by
  have hc := fun W => cut_at s 1200 1200 W rfl (by omega) hs
  have hl := cutS_le s 1200
  generalize cutS s 1200 = t at hc hl
  have hp := fun W => press_all t W
  have hr := fun W => ref_press t W (by omega)
  rw [(pressS_ok (by omega)).2] at hp
  have HC := Lib.hid hc
  have HP := Lib.hid hp
  have HR := Lib.hid hr
  have HA := Lib.hid awake_any
  clear hc hp hr
  generalize pressS t = p at *
  have hB : Below w.heap.size w w := Below.refl _ _
  go_enter Try.func3, Try.ntmps3
  go_wp2_with (first
    | (go_at_call 12; with_reducible refine (HC.out _).mono ?_; rintro e w1 ⟨rfl, rfl⟩)
    | (go_at_call 13; with_reducible refine (HP.out _).mono ?_; rintro e w1 ⟨rfl, hb1⟩; have hB := below_on hB hb1)
    | (go_at_call 14; with_reducible refine (HR.out _).mono ?_; rintro e w1 ⟨rfl, hb1⟩; have hB := below_on hB hb1)
    | (go_at_call 15; with_reducible refine (HA.out _).mono ?_; rintro e w1 ⟨rfl, hb1⟩; have hB := below_on hB hb1))
  go_ret
  exact ⟨rfl, hB⟩

set_option maxHeartbeats 1000000 in
set_option maxRecDepth 100000 in
theorem law_wraps (s : ByteArray) (w : World) (hs : s.size ≤ 140737488351232) :
    Calls Try.prog 6 #[.string s] w fun e w' => e = .returned (.bool true) ∧ Below w.heap.size w w' := by
  have hc := fun W => cut_at s 1200 1200 W rfl (by omega) hs
  have hl := cutS_le s 1200
  generalize cutS s 1200 = t at hc hl
  have hw := fun W => wrap_all t W (by omega)
  have hr := fun W => ref_press t W (by omega)
  rw [(pressS_ok (by omega)).2] at hw
  have hps := pressS_small t
  have HA := Lib.hid awake_any
  have HC := Lib.hid hc
  have HR := Lib.hid hr
  have hB : Below w.heap.size w w := Below.refl _ _
  clear hc hr
  by_cases h2 : (pressS t).size < t.size
  · have he : wrapS t = ⟨#[90]⟩ ++ pressS t := by unfold wrapS; rw [if_neg (by omega), if_pos h2]
    rw [he] at hw
    have HW := Lib.hid hw
    clear hw he
    generalize pressS t = p at *
    go_enter Try.func6, Try.ntmps6
    go_wp2_with (first
      | (go_at_call 12; with_reducible refine (HC.out _).mono ?_; rintro e w1 ⟨rfl, rfl⟩)
      | (go_at_call 16; with_reducible refine (HW.out _).mono ?_; rintro e w1 ⟨rfl, hb1⟩; have hB := below_on hB hb1)
      | (go_at_call 14; with_reducible refine (HR.out _).mono ?_; rintro e w1 ⟨rfl, hb1⟩; have hB := below_on hB hb1)
      | (go_at_call 15; with_reducible refine (HA.out _).mono ?_; rintro e w1 ⟨rfl, hb1⟩; have hB := below_on hB hb1))
    go_ret
    exact ⟨rfl, hB⟩
  · have he : wrapS t = ⟨#[82]⟩ ++ t := by unfold wrapS; rw [if_neg (by omega), if_neg h2]
    rw [he] at hw
    have HW := Lib.hid hw
    clear hw he
    generalize pressS t = p at *
    go_enter Try.func6, Try.ntmps6
    go_wp2_with (first
      | (go_at_call 12; with_reducible refine (HC.out _).mono ?_; rintro e w1 ⟨rfl, rfl⟩)
      | (go_at_call 16; with_reducible refine (HW.out _).mono ?_; rintro e w1 ⟨rfl, hb1⟩; have hB := below_on hB hb1)
      | (go_at_call 14; with_reducible refine (HR.out _).mono ?_; rintro e w1 ⟨rfl, hb1⟩; have hB := below_on hB hb1)
      | (go_at_call 15; with_reducible refine (HA.out _).mono ?_; rintro e w1 ⟨rfl, hb1⟩; have hB := below_on hB hb1))
    go_ret
    exact ⟨rfl, hB⟩

/-- The sixteen bytes of PressFar. -/
def sixteen : List UInt8 := [48, 49, 50, 51, 52, 53, 54, 55, 56, 57, 97, 98, 99, 100, 101, 102]
set_option maxHeartbeats 2000000 in
set_option maxRecDepth 100000 in
theorem law_far (gap seed : Int) (w : World) (h0 : -9223372036854775808 ≤ gap) (h1 : gap ≤ 9223372036854775807) (h2 : -9223372036854775808 ≤ seed) (h3 : seed ≤ 9223372036854775807) :
    Calls Try.prog 4 #[.int .i64 gap, .int .i64 seed] w fun e w' => e = .returned (.bool true) ∧ Below w.heap.size w w' := by
  have HA := Lib.hid awake_any
  have hB : Below w.heap.size w w := Below.refl _ _
  by_cases hlo : gap < 4000
  · go_enter Try.func4, Try.ntmps4
    go_wp2_with (go_at_call 15; with_reducible refine (HA.out _).mono ?_; rintro e w1 ⟨rfl, hb1⟩)
    go_ret
    exact ⟨rfl, hb1⟩
  · by_cases hhi : 4200 < gap
    · go_enter Try.func4, Try.ntmps4
      go_wp2_with (go_at_call 15; with_reducible refine (HA.out _).mono ?_; rintro e w1 ⟨rfl, hb1⟩)
      go_ret
      exact ⟨rfl, hb1⟩
    · obtain ⟨m, rfl⟩ := Int.eq_ofNat_of_zero_le (a := gap) (by omega)
      obtain ⟨i0, hi, hz0, hz1, hz2⟩ := info_parts infoU8
      have kc := fun (w : World) (C : Array Value) (n c : Nat) => Lib.run_convert_bytes_const (P := Try.prog) w 28 5 C n c Try.underlying28 Try.underlying5
      go_enter Try.func4, Try.ntmps4
      go_wp2
      go_loopw [5, 6] (fun v5 v6 wr => ∃ (k : Nat) (l : List UInt8), k ≤ m ∧ v6 = .int .i64 k ∧ l.length = 16 + k ∧ Below w.heap.size w wr ∧
        ((k = 0 ∧ v5 = .slice (some ⟨w.heap.size, 0, none⟩) 16 16 ∧ w.heap.size < wr.heap.size ∧ ∀ j u, (Lib.byteCells l)[j]? = some u → wr.cell? ⟨w.heap.size, j, none⟩ = some u) ∨ (0 < k ∧ wr.ownsRow w.heap.size 5 1 v5 l.length (Lib.byteCells l)))) (fun _ v6 _ => m - (intOf v6).toNat)
      case atStart =>
        refine ⟨0, sixteen, Nat.zero_le _, rfl, rfl, (Below.refl _ _).alloc (Nat.le_refl _) _, .inl ⟨rfl, rfl, by simp, fun j u hu => ?_⟩⟩
        rw [World.cell?_alloc_mark]
        rw [← hu]
        show (List.toArray (Lib.byteCells sixteen))[j]? = _
        rw [List.getElem?_toArray]
      case round =>
        obtain ⟨k, l, hk, rfl, hl, hB, hv⟩ := hrel
        by_cases hlt : k < m
        · rcases hv with ⟨rfl, rfl, hzw, hc⟩ | ⟨hk0, hown⟩
          · have hbl := Lib.byteCells_length l
            have hlc : (Lib.byteCells l).length = 16 * 1 := by omega
            have hcs : ∀ b : Addr, some (⟨w.heap.size, 0, none⟩ : Addr) = some b → ∀ j u, (Lib.byteCells l)[j]? = some u → (wr.alloc (.cells #[.int .u8 (seed % 256)] 5)).cell? (b.add j) = some u := by
              intro b hb j u hu
              injection hb with hb
              subst hb
              have hadd : (⟨w.heap.size, 0, none⟩ : Addr).add j = ⟨w.heap.size, j, none⟩ := by unfold Addr.add; split <;> simp_all
              rw [hadd, World.cell?_alloc_past _ _ _ hzw]
              exact hc j u hu
            go_wp2_with (at_builtin; refine wpList_append_grows _ rfl _ _ 28 rfl 5 i0 (.int .u8 0) 1 1 Try.underlying28 hi hz0 hz1 hz2 rfl (by decide) (some ⟨w.heap.size, 0, none⟩) 16 16 (Lib.byteCells l) rfl (by simp) hlc hcs ⟨wr.heap.size, 0, none⟩ 1 1 [.int .u8 (seed % 256)] rfl rfl (cell_one_new _ _ _) (by simp [Value.oneCell']) (by omega) (by unfold maxLen; omega) (by omega) ?_; intro v1 w1 hown1 hgr1)
            have hs1 : (l ++ [(seed % 256).toNat.toUInt8]).length = 16 + 1 := by simp; omega
            rw [byteCells_snoc' l _ (by omega) (by omega), ← hs1] at hown1
            obtain ⟨A1, c1, rfl, _, _, _⟩ := own_arr hown1
            go_wp2
            go_roundw
            case rel => exact ⟨1, l ++ [(seed % 256).toNat.toUInt8], by omega, by go_num, hs1, hB.trans ((below_of_only (only_trans (World.grownBy_alloc wr _ none) hgr1)).mono hB.size), .inr ⟨by omega, own_mono hown1 (by have := hB.size; simp; omega)⟩⟩
            case measure => simp [intOf]; omega
          · go_wp2_with (at_builtin; refine wpList_push rfl _ _ _ rfl Try.underlying28 hi hz0 hz1 hz2 rfl (by decide) hown rfl rfl rfl (by simp [Value.oneCell']) (by unfold maxLen; omega) (by omega) (by have := hB.size; omega) ?_; intro g cap w1 hown1 hgr1 hat1)
            have hs1 : (l ++ [(seed % 256).toNat.toUInt8]).length = 16 + (k + 1) := by simp; omega
            have hs2 : l.length + 1 = (l ++ [(seed % 256).toNat.toUInt8]).length := by simp
            have hby : Lib.byteCells l ++ [Value.int IntKind.u8 (seed % 256)] = Lib.byteCells (l ++ [(seed % 256).toNat.toUInt8]) := byteCells_snoc' l _ (by omega) (by omega)
            have hown2 : w1.ownsRow w.heap.size 5 1 (.slice (some ⟨g, 0, none⟩) (16 + k + 1) cap) (l ++ [(seed % 256).toNat.toUInt8]).length (Lib.byteCells (l ++ [(seed % 256).toNat.toUInt8])) := by
              rw [← hby, ← hs2, hl]
              rw [hl] at hown1
              exact hown1
            go_roundw
            case rel => exact ⟨k + 1, l ++ [(seed % 256).toNat.toUInt8], by omega, by go_num, hs1, hB.grown hgr1 (by have := hB.size; omega) (fun j hj => (hown.lt j hj).1), .inr ⟨by omega, hown2⟩⟩
            case measure => simp [intOf]; omega
        · rcases hv with ⟨rfl, _⟩ | ⟨hk0, hown⟩
          · omega
          · obtain rfl : k = m := by omega
            have hown' := hown
            rcases hown'.2 with ⟨_, hz⟩ | ⟨g, cap, cur, rfl, hbg, hh, hnc, hcm, _⟩
            · omega
            have hcv := run_own_string (P := Try.prog) wr.drew 28 9 5 Try.underlying28 Try.underlying5 Try.underlying9 l hown
            have hcs := hown.cells (g := g) rfl
            have hcv2 := run_convert_bytes_back (P := Try.prog) wr.drew 28 9 5 ⟨g, 0, none⟩ cap (l.take 16) Try.underlying28 Try.underlying5 Try.underlying9 (by
              intro j hj
              rw [List.length_take] at hj
              refine hcs j _ ?_
              rw [Lib.byteCells, List.getElem?_map, List.getElem?_eq_getElem (by omega)]
              simp)
            rw [show (l.take 16).length = 16 from by rw [List.length_take]; omega] at hcv2
            have ht1 : (⟨l.toArray⟩ : ByteArray).size = 16 + k := by rw [ba_size]; exact hl
            have ht2 : (⟨(l.take 16).toArray⟩ : ByteArray).size = 16 := by rw [ba_size]; show (l.take 16).length = 16; rw [List.length_take]; omega
            obtain ⟨t, ht⟩ : ∃ t, Hid (t = (⟨l.toArray⟩ : ByteArray) ++ ⟨(l.take 16).toArray⟩) := ⟨_, rfl⟩
            have htz : t.size ≤ 1048576 := by rw [ht.out, ByteArray.size_append]; omega
            have hp := fun W => press_all t W
            have hr := fun W => ref_press t W htz
            rw [(pressS_ok htz).2] at hp
            generalize pressS t = p at *
            rw [ht.out] at hp hr
            have HP := Lib.hid hp
            have HR := Lib.hid hr
            clear hp hr hcs
            generalize (⟨l.toArray⟩ : ByteArray) = x at *
            generalize (⟨(l.take 16).toArray⟩ : ByteArray) = y at *
            clear hown hown' ht htz
            have k0 : (16 : Int) ≤ (cap : Int) := by omega
            have k1 : 16 ≤ cap := by omega
            have hB := hB.drew
            clear hl hnc hh
            go_wp2
            go_region
            go_wp2_with (first
              | (go_at_call 13; with_reducible refine (HP.out _).mono ?_; rintro e w1 ⟨rfl, hb1⟩; have hB := below_on hB hb1)
              | (go_at_call 14; with_reducible refine (HR.out _).mono ?_; rintro e w1 ⟨rfl, hb1⟩; have hB := below_on hB hb1)
              | (go_at_call 15; with_reducible refine (HA.out _).mono ?_; rintro e w1 ⟨rfl, hb1⟩; have hB := below_on hB hb1))
            go_ret
            exact ⟨rfl, hB⟩
end Go.Proofs.Ytennmnoghipnfaa
