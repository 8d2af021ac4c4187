/- The walks of Nums and Texts, of the reference. -/
import Derived.Test.YtgcghcmmcljiiaaListWalk
namespace Go.Proofs.Ytgcghcmmcljiiaa
open Go.RowKit

theorem ba_add (l m : List UInt8) : (⟨l.toArray⟩ : ByteArray) ++ ⟨m.toArray⟩ = ⟨(l ++ m).toArray⟩ := by
  apply ByteArray.ext
  rw [ByteArray.data_append]
  simp
theorem ba_eq (s : ByteArray) {l : List UInt8} (h : s.data.toList = l) : s = ⟨l.toArray⟩ := by
  subst h
  apply ByteArray.ext
  simp

set_option maxHeartbeats 1000000 in
set_option maxRecDepth 100000 in
theorem ref_nums (A : Option Addr) (c : Nat) (l : List Int) (w : World) (hl : l.length ≤ 1048576) (hb : ∀ x ∈ l, -9223372036854775808 ≤ x ∧ x ≤ 9223372036854775807) (harr : Arr w w.heap.size 1 A l.length (l.map (Value.int .i64))) :
    Calls Try.prog 31 #[.slice A l.length c] w fun e w' => e = .returned (.tuple #[.string (listR NumOk numB 2 l).1, .int .i64 (listR NumOk numB 2 l).2]) ∧ Below w.heap.size w w' := by
  have hn := fun w => ref_bytes l.length w (by omega) (by omega)
  rw [(numok_S (x := (l.length : Int)) ⟨by omega, by omega⟩).1] at hn
  have HN := Lib.hid hn
  have h9 := numB_len (x := (l.length : Int)) ⟨by omega, by omega⟩
  clear hn
  go_enter Try.func31, Try.ntmps31
  go_wp2_with (go_at_call 39; refine (HN.out _).mono ?_; rintro e w1 ⟨rfl, hb1⟩)
  go_loopw [4, 5] (fun v4 v5 wr => ∃ (k : Nat), k ≤ l.length ∧ v5 = .int .i64 k ∧ Hid (∀ x ∈ l.take k, NumOk x) ∧ v4 = .string ⟨(numL l.length ++ (l.take k).flatMap numB).toArray⟩ ∧ Below w.heap.size w wr) (fun _ v5 _ => l.length - (intOf v5).toNat)
  case atStart => exact ⟨0, Nat.zero_le _, rfl, by simp [Hid], by simp [numB], hb1⟩
  case round =>
    obtain ⟨k, hk, rfl, HO, rfl, hf⟩ := hrel
    by_cases hlt : k < l.length
    · obtain ⟨x, hx⟩ : ∃ x, l[k]? = some x := ⟨_, List.getElem?_eq_getElem hlt⟩
      obtain ⟨ab, ao, rfl, hab, hcell⟩ := harr.2 (by omega)
      have hc := hf.cell (p := ⟨ab, ao + k, none⟩) hab
      rw [hcell k (.int .i64 x) (by simp [hx])] at hc
      have hbx := hb x (List.mem_of_getElem? hx)
      have hx9 : (numL l.length).length ≤ 9 := h9
      have hfl : ((l.take k).flatMap numB).length ≤ k * 9 := by
        have := flat_len numB 9 (l.take k) (fun y hy => numB_len (HO.out y hy))
        rw [List.length_take, Nat.min_eq_left hk] at this
        exact this
      have hsz : (⟨(numL l.length ++ (l.take k).flatMap numB).toArray⟩ : ByteArray).size ≤ k * 9 + 9 := by
        show (numL l.length ++ (l.take k).flatMap numB).length ≤ _
        rw [List.length_append]
        omega
      have HX := Lib.hid hx
      have HAB := Lib.hid (ba_add (numL l.length ++ (l.take k).flatMap numB) (numB x))
      clear hx hcell harr
      by_cases hok : NumOk x
      · have hn := fun w => ref_num x w hbx.1 hbx.2
        rw [(numok_S hok).1, (numok_S hok).2] at hn
        have HN2 := Lib.hid hn
        have hs9 : (⟨(numB x).toArray⟩ : ByteArray).size ≤ 9 := numB_len hok
        clear hn
        generalize (⟨(numL l.length ++ (l.take k).flatMap numB).toArray⟩ : ByteArray) = out at hsz HAB
        generalize (⟨(numB x).toArray⟩ : ByteArray) = nx at hs9 HN2 HAB
        go_wp2_with (go_at_call 13; refine (HN2.out _).mono ?_; rintro e w3 ⟨rfl, hb3⟩)
        go_roundw
        case rel => exact ⟨k + 1, by omega, by go_num, all_snoc HX.out HO.out hok, by rw [HAB.out, listL_snoc numB HX.out], below_next hf (Nat.le_refl _) hb3⟩
        case measure => simp [intOf]; omega
      · have hn := fun w => ref_num x w hbx.1 hbx.2
        rw [(numok_no hok).1, (numok_no hok).2] at hn
        have HR := Lib.hid (listR_no (ok := NumOk) (g := numB) (e := 2) HX.out hok)
        have HN2 := Lib.hid hn
        clear hn
        go_wp2_with (go_at_call 13; refine (HN2.out _).mono ?_; rintro e w3 ⟨rfl, hb3⟩)
        go_ret2
        rw [HR.out]
        exact ⟨rfl, below_next hf (Nat.le_refl _) hb3⟩
    · have hkl : l.take k = l := take_whole (by omega)
      have HR := Lib.hid (listR_ok (g := numB) (e := 2) (show ∀ x ∈ l, NumOk x from by have := HO.out; rwa [hkl] at this))
      have HK := Lib.hid hkl
      clear hkl
      go_wp2
      go_ret2
      rw [HR.out, HK.out]
      exact ⟨rfl, hf⟩

set_option maxHeartbeats 1000000 in
set_option maxRecDepth 100000 in
theorem ref_texts (A : Option Addr) (c : Nat) (l : List ByteArray) (w : World) (hl : l.length ≤ 1048576) (hb : ∀ x ∈ l, x.size ≤ 9223372036854775807) (harr : Arr w w.heap.size 1 A l.length (l.map Value.string)) :
    Calls Try.prog 33 #[.slice A l.length c] w fun e w' => e = .returned (.tuple #[.string (listR TxtOk txtB 4 l).1, .int .i64 (listR TxtOk txtB 4 l).2]) ∧ Below w.heap.size w w' := by
  have hn := fun w => ref_bytes l.length w (by omega) (by omega)
  rw [(numok_S (x := (l.length : Int)) ⟨by omega, by omega⟩).1] at hn
  have HN := Lib.hid hn
  have h9 := numB_len (x := (l.length : Int)) ⟨by omega, by omega⟩
  clear hn
  go_enter Try.func33, Try.ntmps33
  go_wp2_with (go_at_call 39; refine (HN.out _).mono ?_; rintro e w1 ⟨rfl, hb1⟩)
  go_loopw [4, 5] (fun v4 v5 wr => ∃ (k : Nat), k ≤ l.length ∧ v5 = .int .i64 k ∧ Hid (∀ x ∈ l.take k, TxtOk x) ∧ v4 = .string ⟨(numL l.length ++ (l.take k).flatMap txtB).toArray⟩ ∧ Below w.heap.size w wr) (fun _ v5 _ => l.length - (intOf v5).toNat)
  case atStart => exact ⟨0, Nat.zero_le _, rfl, by simp [Hid], by simp [numB], hb1⟩
  case round =>
    obtain ⟨k, hk, rfl, HO, rfl, hf⟩ := hrel
    by_cases hlt : k < l.length
    · obtain ⟨x, hx⟩ : ∃ x, l[k]? = some x := ⟨_, List.getElem?_eq_getElem hlt⟩
      obtain ⟨ab, ao, rfl, hab, hcell⟩ := harr.2 (by omega)
      have hc := hf.cell (p := ⟨ab, ao + k, none⟩) hab
      rw [hcell k (.string x) (by simp [hx])] at hc
      have hbx := hb x (List.mem_of_getElem? hx)
      have hx9 : (numL l.length).length ≤ 9 := h9
      have hfl : ((l.take k).flatMap txtB).length ≤ k * 1048585 := by
        have := flat_len txtB 1048585 (l.take k) (fun y hy => txtB_len (HO.out y hy))
        rw [List.length_take, Nat.min_eq_left hk] at this
        exact this
      have hsz : (⟨(numL l.length ++ (l.take k).flatMap txtB).toArray⟩ : ByteArray).size ≤ k * 1048585 + 9 := by
        show (numL l.length ++ (l.take k).flatMap txtB).length ≤ _
        rw [List.length_append]
        omega
      have HX := Lib.hid hx
      have HAB := Lib.hid (ba_add (numL l.length ++ (l.take k).flatMap txtB) (txtB x))
      clear hx hcell harr
      by_cases hok : TxtOk x
      · have hn := fun w => ref_text x w hbx
        rw [ba_eq _ (txtok_S hok).1, (txtok_S hok).2] at hn
        have HN2 := Lib.hid hn
        have hs9 : (⟨(txtB x).toArray⟩ : ByteArray).size ≤ 1048585 := txtB_len hok
        clear hn
        generalize (⟨(numL l.length ++ (l.take k).flatMap txtB).toArray⟩ : ByteArray) = out at hsz HAB
        generalize (⟨(txtB x).toArray⟩ : ByteArray) = nx at hs9 HN2 HAB
        go_wp2_with (go_at_call 21; refine (HN2.out _).mono ?_; rintro e w3 ⟨rfl, hb3⟩)
        go_roundw
        case rel => exact ⟨k + 1, by omega, by go_num, all_snoc HX.out HO.out hok, by rw [HAB.out, listL_snoc txtB HX.out], below_next hf (Nat.le_refl _) hb3⟩
        case measure => simp [intOf]; omega
      · have hn := fun w => ref_text x w hbx
        rw [(txtok_no hok).1, (txtok_no hok).2] at hn
        have HR := Lib.hid (listR_no (ok := TxtOk) (g := txtB) (e := 4) HX.out hok)
        have HN2 := Lib.hid hn
        clear hn
        go_wp2_with (go_at_call 21; refine (HN2.out _).mono ?_; rintro e w3 ⟨rfl, hb3⟩)
        go_ret2
        rw [HR.out]
        exact ⟨rfl, below_next hf (Nat.le_refl _) hb3⟩
    · have hkl : l.take k = l := take_whole (by omega)
      have HR := Lib.hid (listR_ok (g := txtB) (e := 4) (show ∀ x ∈ l, TxtOk x from by have := HO.out; rwa [hkl] at this))
      have HK := Lib.hid hkl
      clear hkl
      go_wp2
      go_ret2
      rw [HR.out, HK.out]
      exact ⟨rfl, hf⟩

set_option maxHeartbeats 1000000 in
set_option maxRecDepth 100000 in
theorem law_lists (A : Option Addr) (c : Nat) (l : List Int) (A' : Option Addr) (c' : Nat) (m : List ByteArray) (w : World) (hl : l.length * 8 ≤ 140737488351232) (hb : ∀ x ∈ l, -9223372036854775808 ≤ x ∧ x ≤ 9223372036854775807) (harr : Arr w w.heap.size 1 A l.length (l.map (Value.int .i64)))
    (hm : m.length * 16 ≤ 140737488351232) (hb' : ∀ x ∈ m, x.size ≤ 9223372036854775807) (harr' : Arr w w.heap.size 1 A' m.length (m.map Value.string)) :
    Calls Try.prog 9 #[.slice A l.length c, .slice A' m.length c'] w fun e w' => e = .returned (.bool true) ∧ Below w.heap.size w w' := by
  by_cases h1 : 2000 < l.length
  · go_enter Try.func9, Try.ntmps9
    go_wp2_with (go_at_call 14; refine (awake_any _).mono ?_; rintro e w7 ⟨rfl, hb7⟩)
    go_ret
    exact ⟨rfl, hb7⟩
  · by_cases h2 : 2000 < m.length
    · go_enter Try.func9, Try.ntmps9
      go_wp2_with (go_at_call 14; refine (awake_any _).mono ?_; rintro e w7 ⟨rfl, hb7⟩)
      go_ret
      exact ⟨rfl, hb7⟩
    · go_enter Try.func9, Try.ntmps9
      go_wp2_with fail
      refine (code_nums A c l _ (by omega) hb harr).mono ?_
      rintro e w1 ⟨rfl, hb1⟩
      have harr1 := (harr.below hb1).more hb1.size
      go_wp2_with fail
      refine (ref_nums A c l _ (by omega) hb harr1).mono ?_
      rintro e w2 ⟨rfl, hb2⟩
      have hb12 := below_next hb1 (Nat.le_refl _) hb2
      have harr2 := (harr'.below hb12).more hb12.size
      go_wp2_with fail
      refine (code_texts A' c' m _ (by omega) hb' harr2).mono ?_
      rintro e w3 ⟨rfl, hb3⟩
      have hb13 := below_next hb12 (Nat.le_refl _) hb3
      have harr3 := (harr'.below hb13).more hb13.size
      go_wp2_with fail
      refine (ref_texts A' c' m _ (by omega) hb' harr3).mono ?_
      rintro e w4 ⟨rfl, hb4⟩
      go_wp2_with (go_at_call 14; refine (awake_any _).mono ?_; rintro e w7 ⟨rfl, hb7⟩)
      go_ret
      exact ⟨rfl, below_next (below_next hb13 (Nat.le_refl _) hb4) (Nat.le_refl _) hb7⟩
end Go.Proofs.Ytgcghcmmcljiiaa
