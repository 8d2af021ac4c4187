/- The walks of Nums and Texts, of the program. -/
import Derived.Test.YtgcghcmmcljiiaaTextWalk
import Derived.Test.YtgcghcmmcljiiaaBuilder
namespace Go.Proofs.Ytgcghcmmcljiiaa
open Go.RowKit

set_option maxHeartbeats 1000000 in
set_option maxRecDepth 100000 in
theorem code_nums (A : Option Addr) (c : Nat) (l : List Int) (w : World) (hl : l.length ≤ 1048576) (hb : ∀ x ∈ l, -9223372036854775808 ≤ x ∧ x ≤ 9223372036854775807) (harr : Arr w w.heap.size 1 A l.length (l.map (Value.int .i64))) :
    Calls Try.prog 30 #[.slice A l.length c] w fun e w' => e = .returned (.tuple #[.string (listR NumOk numB 2 l).1, .int .i64 (listR NumOk numB 2 l).2]) ∧ Below w.heap.size w w' := by
  have hn := fun w => code_num l.length w (by omega) (by omega)
  rw [(numok_S (x := (l.length : Int)) ⟨by omega, by omega⟩).1, (numok_S (x := (l.length : Int)) ⟨by omega, by omega⟩).2] at hn
  have HN := Lib.hid hn
  have h9 := numB_len (x := (l.length : Int)) ⟨by omega, by omega⟩
  clear hn
  go_enter Try.func30, Try.ntmps30
  go_wp2_with (go_at_call 12; refine (HN.out _).mono ?_; rintro e w1 ⟨rfl, hb1⟩)
  have hB0 := Bld.new w 62 5
  have hfb : FrB 5 w.heap.size w (w.alloc (.cells #[.pointer none, .slice none 0 0] 62)) := Fr.alloc (Fr.refl _ _) _
  have hf1 : FrB 5 w.heap.size w w1 := hfb.trans (FrB.of_below hb1)
  have hB1 : Bld 62 5 w1 w.heap.size _ [] := hB0.fr (Fr.of_below hb1 (fun _ => False)) (by simp) (by simp)
  clear hB0 hfb hb1
  have hsz : (⟨(numB l.length).toArray⟩ : ByteArray).size ≤ 9 := h9
  refine (writeString_any _ _ _ _ _ hB1 (by simp only [List.length_nil]; omega)).mono ?_
  rintro e w2 ⟨v2, rfl, hB2, hf2⟩
  have hf2 := hf1.trans hf2
  clear hB1 hf1
  have hB2 : Bld 62 5 w2 w.heap.size v2 (numL l.length ++ (l.take 0).flatMap numB) := by simpa [numB] using hB2
  go_wp2
  go_loopw [24] (fun v24 wr => ∃ (k : Nat) (v : Value), k ≤ l.length ∧ v24 = .int .i64 k ∧ Hid (∀ x ∈ l.take k, NumOk x) ∧ Bld 62 5 wr w.heap.size v (numL l.length ++ (l.take k).flatMap numB) ∧ FrB 5 w.heap.size w wr) (fun v24 _ => l.length - (intOf v24).toNat)
  case atStart => exact ⟨0, _, Nat.zero_le _, rfl, by simp [Hid], hB2, hf2⟩
  case round =>
    obtain ⟨k, v, hk, rfl, HO, hB, hf⟩ := hrel
    by_cases hlt : k < l.length
    · obtain ⟨x, hx⟩ : ∃ x, l[k]? = some x := ⟨_, List.getElem?_eq_getElem hlt⟩
      obtain ⟨ab, ao, rfl, hab, hcell⟩ := harr.2 (by omega)
      have hc := (hf.below (Nat.le_refl _)).cell (p := ⟨ab, ao + k, none⟩) hab
      rw [hcell k (.int .i64 x) (by simp [hx])] at hc
      have hbx := hb x (List.mem_of_getElem? hx)
      have hx9 : (numL l.length).length ≤ 9 := h9
      have hfl : ((l.take k).flatMap numB).length ≤ k * 9 := by
        have := flat_len numB 9 (l.take k) (fun y hy => numB_len (HO.out y hy))
        rw [List.length_take, Nat.min_eq_left hk] at this
        exact this
      have HX := Lib.hid hx
      clear hx hcell harr hB2 hf2
      by_cases hok : NumOk x
      · have hn := fun w => code_num x w hbx.1 hbx.2
        rw [(numok_S hok).1, (numok_S hok).2] at hn
        have HN2 := Lib.hid hn
        have hs9 : (⟨(numB x).toArray⟩ : ByteArray).size ≤ 9 := numB_len hok
        clear hn
        go_wp2_with (go_at_call 12; refine (HN2.out _).mono ?_; rintro e w3 ⟨rfl, hb3⟩)
        have hB3 := hB.fr (Fr.of_below hb3 (fun _ => False)) (by simp) (by simp)
        have hf3 := hf.trans (FrB.of_below hb3)
        refine (writeString_any _ _ _ _ _ hB3 (by rw [List.length_append]; omega)).mono ?_
        rintro e w4 ⟨v4, rfl, hB4, hf4⟩
        rw [listL_snoc numB HX.out] at hB4
        go_wp2
        go_roundw
        case rel => exact ⟨k + 1, v4, by omega, by go_num, all_snoc HX.out HO.out hok, hB4, hf3.trans hf4⟩
        case measure => simp [intOf]; omega
      · have hn := fun w => code_num x w hbx.1 hbx.2
        rw [(numok_no hok).1, (numok_no hok).2] at hn
        have HR := Lib.hid (listR_no (ok := NumOk) (g := numB) (e := 2) HX.out hok)
        have HN2 := Lib.hid hn
        clear hn
        go_wp2_with (go_at_call 12; refine (HN2.out _).mono ?_; rintro e w3 ⟨rfl, hb3⟩)
        go_ret2
        rw [HR.out]
        exact ⟨rfl, (hf.trans (FrB.of_below hb3)).below (Nat.le_refl _)⟩
    · have hkl : l.take k = l := take_whole (by omega)
      have HR := Lib.hid (listR_ok (g := numB) (e := 2) (show ∀ x ∈ l, NumOk x from by have := HO.out; rwa [hkl] at this))
      rw [hkl] at hB
      have hne : numL l.length ++ l.flatMap numB ≠ [] := by simp [numL_ne]
      clear hkl
      go_wp2_with (go_at_call 51; refine (string_any _ _ _ _ hB hne).mono ?_; rintro e w3 ⟨rfl, hf3⟩)
      go_ret2
      rw [HR.out]
      exact ⟨rfl, (hf.trans hf3).below (Nat.le_refl _)⟩

set_option maxHeartbeats 1000000 in
set_option maxRecDepth 100000 in
theorem code_texts (A : Option Addr) (c : Nat) (l : List ByteArray) (w : World) (hl : l.length ≤ 1048576) (hb : ∀ x ∈ l, x.size ≤ 9223372036854775807) (harr : Arr w w.heap.size 1 A l.length (l.map Value.string)) :
    Calls Try.prog 32 #[.slice A l.length c] w fun e w' => e = .returned (.tuple #[.string (listR TxtOk txtB 4 l).1, .int .i64 (listR TxtOk txtB 4 l).2]) ∧ Below w.heap.size w w' := by
  have hn := fun w => code_num l.length w (by omega) (by omega)
  rw [(numok_S (x := (l.length : Int)) ⟨by omega, by omega⟩).1, (numok_S (x := (l.length : Int)) ⟨by omega, by omega⟩).2] at hn
  have HN := Lib.hid hn
  have h9 := numB_len (x := (l.length : Int)) ⟨by omega, by omega⟩
  clear hn
  go_enter Try.func32, Try.ntmps32
  go_wp2_with (go_at_call 12; refine (HN.out _).mono ?_; rintro e w1 ⟨rfl, hb1⟩)
  have hB0 := Bld.new w 62 5
  have hfb : FrB 5 w.heap.size w (w.alloc (.cells #[.pointer none, .slice none 0 0] 62)) := Fr.alloc (Fr.refl _ _) _
  have hf1 : FrB 5 w.heap.size w w1 := hfb.trans (FrB.of_below hb1)
  have hB1 : Bld 62 5 w1 w.heap.size _ [] := hB0.fr (Fr.of_below hb1 (fun _ => False)) (by simp) (by simp)
  clear hB0 hfb hb1
  have hsz : (⟨(numB l.length).toArray⟩ : ByteArray).size ≤ 9 := h9
  refine (writeString_any _ _ _ _ _ hB1 (by simp only [List.length_nil]; omega)).mono ?_
  rintro e w2 ⟨v2, rfl, hB2, hf2⟩
  have hf2 := hf1.trans hf2
  clear hB1 hf1
  have hB2 : Bld 62 5 w2 w.heap.size v2 (numL l.length ++ (l.take 0).flatMap txtB) := by simpa [numB] using hB2
  go_wp2
  go_loopw [24] (fun v24 wr => ∃ (k : Nat) (v : Value), k ≤ l.length ∧ v24 = .int .i64 k ∧ Hid (∀ x ∈ l.take k, TxtOk x) ∧ Bld 62 5 wr w.heap.size v (numL l.length ++ (l.take k).flatMap txtB) ∧ FrB 5 w.heap.size w wr) (fun v24 _ => l.length - (intOf v24).toNat)
  case atStart => exact ⟨0, _, Nat.zero_le _, rfl, by simp [Hid], hB2, hf2⟩
  case round =>
    obtain ⟨k, v, hk, rfl, HO, hB, hf⟩ := hrel
    by_cases hlt : k < l.length
    · obtain ⟨x, hx⟩ : ∃ x, l[k]? = some x := ⟨_, List.getElem?_eq_getElem hlt⟩
      obtain ⟨ab, ao, rfl, hab, hcell⟩ := harr.2 (by omega)
      have hc := (hf.below (Nat.le_refl _)).cell (p := ⟨ab, ao + k, none⟩) hab
      rw [hcell k (.string x) (by simp [hx])] at hc
      have hbx := hb x (List.mem_of_getElem? hx)
      have hx9 : (numL l.length).length ≤ 9 := h9
      have hfl : ((l.take k).flatMap txtB).length ≤ k * 1048585 := by
        have := flat_len txtB 1048585 (l.take k) (fun y hy => txtB_len (HO.out y hy))
        rw [List.length_take, Nat.min_eq_left hk] at this
        exact this
      have HX := Lib.hid hx
      clear hx hcell harr hB2 hf2
      by_cases hok : TxtOk x
      · have hn := fun w => code_text x w hbx
        rw [(txtok_S hok).2] at hn
        have HN2 := Lib.hid hn
        have HT := Lib.hid (txtok_S hok).1
        have hs9 : (txtS x).size ≤ 1048585 := by rw [ba_size, HT.out]; exact txtB_len hok
        clear hn
        go_wp2_with (go_at_call 20; refine (HN2.out _).mono ?_; rintro e w3 ⟨rfl, hb3⟩)
        have hB3 := hB.fr (Fr.of_below hb3 (fun _ => False)) (by simp) (by simp)
        have hf3 := hf.trans (FrB.of_below hb3)
        refine (writeString_any _ _ _ _ _ hB3 (by rw [List.length_append]; omega)).mono ?_
        rintro e w4 ⟨v4, rfl, hB4, hf4⟩
        rw [HT.out, listL_snoc txtB HX.out] at hB4
        go_wp2
        go_roundw
        case rel => exact ⟨k + 1, v4, by omega, by go_num, all_snoc HX.out HO.out hok, hB4, hf3.trans hf4⟩
        case measure => simp [intOf]; omega
      · have hn := fun w => code_text x w hbx
        rw [(txtok_no hok).1, (txtok_no hok).2] at hn
        have HR := Lib.hid (listR_no (ok := TxtOk) (g := txtB) (e := 4) HX.out hok)
        have HN2 := Lib.hid hn
        clear hn
        go_wp2_with (go_at_call 20; refine (HN2.out _).mono ?_; rintro e w3 ⟨rfl, hb3⟩)
        go_ret2
        rw [HR.out]
        exact ⟨rfl, (hf.trans (FrB.of_below hb3)).below (Nat.le_refl _)⟩
    · have hkl : l.take k = l := take_whole (by omega)
      have HR := Lib.hid (listR_ok (g := txtB) (e := 4) (show ∀ x ∈ l, TxtOk x from by have := HO.out; rwa [hkl] at this))
      rw [hkl] at hB
      have hne : numL l.length ++ l.flatMap txtB ≠ [] := by simp [numL_ne]
      clear hkl
      go_wp2_with (go_at_call 51; refine (string_any _ _ _ _ hB hne).mono ?_; rintro e w3 ⟨rfl, hf3⟩)
      go_ret2
      rw [HR.out]
      exact ⟨rfl, (hf.trans hf3).below (Nat.le_refl _)⟩
end Go.Proofs.Ytgcghcmmcljiiaa
