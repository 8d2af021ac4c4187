/- The walks through Path, plain and Pattern. -/
import Derived.Test.YtmcgaaihdjpdgaaGreatDoorTreeWalk2
import Derived.Laws.IdiomStrings
namespace Go.Proofs.YtmcgaaihdjpdgaaGreatDoor
open Go.RowKit
set_option linter.unusedVariables false

/-- The library's one variable holds some number. -/
def Ml (w : World) : Prop := ∃ m, w.cell? ⟨0, 0, none⟩ = some (.int .i64 m)
theorem Ml.on {w w' : World} (h : Ml w) (hb : Below w.heap.size w w') : Ml w' := by
  obtain ⟨m, hm⟩ := h
  exact ⟨m, (hb.cell (World.block_lt_of_cell? _ _ hm)).trans hm⟩
theorem infoStr : (Tryz.prog.info? 9).map (fun i => (i.zero, i.size, i.bytes)) = some (some (.string ByteArray.empty), 1, 16) := by kernel_rfl
theorem split_c (s : ByteArray) (w : World) (hs : s.size < 4294967281) (hm : Ml w) :
    Calls Tryz.prog 103 #[.string s, .string ⟨#[47]⟩] w fun e w' => e = .returned (.slice (some ⟨w.heap.size, 0, none⟩) (pieces s).length (pieces s).length) ∧ Blk w' w.heap.size 9 ((pieces s).map Value.string).toArray ∧ w'.heap.size = w.heap.size + 1 ∧ Below w.heap.size w w' := by
  obtain ⟨m, hm⟩ := hm
  refine (Any.strings_Split laysSplit infoStr s ⟨#[47]⟩ m w hs hm (by decide)).mono fun e w' ⟨he, hw⟩ => ?_
  subst hw
  rw [pieces_len]
  exact ⟨he, Blk.new _ _ _, by simp, (Below.refl _ w).alloc (Nat.le_refl _) _⟩

/-! ### a list's each -/
section
variable {α : Type} {f : α → Bool} {l : List α} {k : Nat} {x : α}
theorem each_bad (hx : l[k]? = some x) (hb : f x = false) : l.all f = false := by
  rw [List.all_eq_false]
  exact ⟨x, List.mem_of_getElem? hx, by simp [hb]⟩
theorem each_step (hx : l[k]? = some x) (H : Hid ((l.take k).all f = true)) (hb : f x = true) : Hid ((l.take (k + 1)).all f = true) := by
  have := H.out
  exact Lib.hid (by rw [List.take_add_one, hx, List.all_append, this]; simp [hb])
theorem each_end (h : l.length ≤ k) (H : Hid ((l.take k).all f = true)) : l.all f = true := by
  have := H.out
  rwa [List.take_of_length_le h] at this
end
theorem pathE_of (s : ByteArray) (h : s.size ≤ 200) : pathE s.data.toList = if (pieces s).all (fun p => nameOk p.data.toList) then 0 else 10 := by
  unfold pathE
  rw [if_neg (by rw [← bt_size]; omega), ← pieces_list, List.all_map]
  rfl
theorem patE_of (s : ByteArray) (h : s.size ≤ 200) : patE s.data.toList = if (pieces s).all (fun p => patNameOk p.data.toList) then 0 else 10 := by
  unfold patE
  rw [if_neg (by rw [← bt_size]; omega), ← pieces_list, List.all_map]
  rfl
theorem pieces_each (s x : ByteArray) (h : x ∈ pieces s) : x.size ≤ s.size := by
  rw [bt_size, bt_size]
  exact splitL_each _ _ (by rw [← pieces_list]; exact List.mem_map_of_mem h)
theorem pieces_le (s : ByteArray) : (pieces s).length ≤ s.size + 1 := by
  have := splitL_len s.data.toList
  rwa [← pieces_list, List.length_map, ← bt_size] at this

set_option maxHeartbeats 1000000 in
set_option maxRecDepth 100000 in
theorem path_any (s : ByteArray) (w : World) (hs : s.size ≤ 9223372036854775807) (hm : Ml w) :
    Calls Tryz.prog 96 #[.string s] w fun e w' => e = .returned (.int .i64 (pathE s.data.toList)) ∧ Below w.heap.size w w' := by
  by_cases h : 200 < s.size
  · have h' : (200 : Int) < s.size := by omega
    rw [show pathE s.data.toList = 4 from if_pos (by rw [← bt_size]; exact h)]
    go_enter Tryz.func96, Tryz.ntmps96
    go_wp2
    go_ret
    exact ⟨rfl, Below.refl _ _⟩
  · have h' : ¬ (200 : Int) < s.size := by omega
    rw [pathE_of s (by omega)]
    have HS := Lib.hid (split_c s w (by omega) hm)
    have hle := pieces_le s
    have hea := Lib.hid (pieces_each s)
    generalize pieces s = l at HS hle hea
    generalize hR : (if l.all (fun p => nameOk p.data.toList) = true then (0 : Int) else 10) = R
    have HR := Lib.hid hR
    clear hR
    go_enter Tryz.func96, Tryz.ntmps96
    go_wp2_with (go_at_call 103; refine HS.out.mono ?_; rintro e w1 ⟨rfl, hk1, hz1, hb1⟩)
    go_loopw [11] (fun v wr => ∃ (k : Nat), k ≤ l.length ∧ v = .int .i64 k ∧ Hid ((l.take k).all (fun p => nameOk p.data.toList) = true) ∧ Below w1.heap.size w1 wr) (fun v _ => l.length - (intOf v).toNat)
    case atStart => exact ⟨0, Nat.zero_le _, rfl, by simp [Hid], Below.refl _ _⟩
    case round =>
      obtain ⟨k, hk, rfl, H, hB⟩ := hrel
      by_cases hlt : k < l.length
      · obtain ⟨x, hx⟩ : ∃ x, l[k]? = some x := ⟨_, List.getElem?_eq_getElem hlt⟩
        have hc : wr.cell? ⟨w.heap.size, k, none⟩ = some (.string x) := by
          rw [(hk1.below hB (by omega)).cell]
          simp [hx]
        have hxs := hea.out x (List.mem_of_getElem? hx)
        have hn := fun W => name_any x W (by omega)
        have HX := Lib.hid hx
        clear hx
        cases hok : nameOk x.data.toList
        · rw [hok] at hn
          have HN := Lib.hid hn
          have hb := each_bad (f := fun p => nameOk p.data.toList) HX.out hok
          have HB := Lib.hid (HR.out.symm.trans (if_neg (by rw [hb]; simp)))
          clear hn hok hb H
          go_wp2_with (go_at_call 104; refine (HN.out _).mono ?_; rintro e w2 ⟨rfl, hb2⟩)
          go_ret
          exact ⟨by rw [HB.out]; rfl, below_on hb1 (below_on hB hb2)⟩
        · rw [hok] at hn
          have HN := Lib.hid hn
          have hst := each_step (f := fun p => nameOk p.data.toList) HX.out H hok
          clear hn hok H
          go_wp2_with (go_at_call 104; refine (HN.out _).mono ?_; rintro e w2 ⟨rfl, hb2⟩)
          go_roundw
          case rel => exact ⟨k + 1, by omega, by go_num, hst, below_on hB hb2⟩
          case measure => simp [intOf]; omega
      · have hb := each_end (by omega) H
        have HB := Lib.hid (HR.out.symm.trans (if_pos hb))
        clear H hb
        go_wp2
        go_ret
        exact ⟨by rw [HB.out]; rfl, below_on hb1 hB⟩

/-! ### plain -/
def plB (c : UInt8) : UInt8 := if c = 42 ∨ c = 63 then 97 else c
def cur (l : List UInt8) (k : Nat) : List UInt8 := (l.take k).map plB ++ l.drop k
theorem cur_len (l : List UInt8) (k : Nat) : (cur l k).length = l.length := by unfold cur; simp; omega
theorem cur_zero (l : List UInt8) : cur l 0 = l := rfl
theorem cur_end (l : List UInt8) : cur l l.length = plainL l := by unfold cur plainL; rw [List.take_length, List.drop_length, List.append_nil]; rfl
theorem bt_cur (l : List UInt8) (k j : Nat) (hj : j < l.length) : bt (cur l k) j = if j < k then plB (bt l j) else bt l j := by
  unfold bt cur
  rw [List.getD_eq_getElem?_getD, List.getD_eq_getElem?_getD, List.getElem?_append]
  simp only [List.length_map, List.length_take, List.getElem?_map, List.getElem?_drop]
  by_cases h : j < k
  · rw [if_pos (by omega), if_pos h, List.getElem?_take_of_lt h, List.getElem?_eq_getElem hj]
    rfl
  · rw [if_neg (by omega), if_neg h, show k + (j - min k l.length) = j by omega]
theorem wild_no {x : UInt8} (h : ¬ (x = 42 ∨ x = 63)) : plB x = x := if_neg h
theorem wild_yes {x : UInt8} (h : x = 42 ∨ x = 63) : plB x = 97 := if_pos h
/-- The row of bytes, as far as it is done. -/
def Row (l : List UInt8) (B k : Nat) (w : World) : Prop := (∀ j, j < l.length → w.cell? ⟨B, j, none⟩ = some (.int .u8 ((bt (cur l k) j).toNat : Int))) ∧ ∀ j, j < l.length → w.frozen? ⟨B, j, none⟩ = false
theorem Row.skip {l : List UInt8} {B k : Nat} {w : World} (h : Row l B k w) (hk : k < l.length) (hp : plB (bt l k) = bt l k) : Row l B (k + 1) w := by
  refine ⟨fun j hj => ?_, h.2⟩
  rw [h.1 j hj, bt_cur l k j hj, bt_cur l (k + 1) j hj]
  by_cases h1 : j < k
  · rw [if_pos h1, if_pos (by omega)]
  · rw [if_neg h1]
    by_cases h2 : j = k
    · subst h2; rw [if_pos (by omega), hp]
    · rw [if_neg (by omega)]
theorem Row.put {l : List UInt8} {B k : Nat} {w : World} (h : Row l B k w) (hk : k < l.length) (hp : plB (bt l k) = 97) : Row l B (k + 1) (w.setCell ⟨B, k, none⟩ (.int .u8 97)) := by
  refine ⟨fun j hj => ?_, fun j hj => ?_⟩
  · rw [bt_cur l (k + 1) j hj]
    by_cases h2 : j = k
    · subst h2
      rw [World.cell?_setCell_same w _ _ (h.1 j hj), if_pos (by omega), hp]
      rfl
    · rw [World.cell?_setCell_other w _ _ _ (fun e => h2 (by injection e with _ e; exact e.symm)), h.1 j hj, bt_cur l k j hj]
      by_cases h1 : j < k
      · rw [if_pos h1, if_pos (by omega)]
      · rw [if_neg h1, if_neg (by omega)]
  · rw [World.frozen?_setCell]
    exact h.2 j hj
theorem conv_bytes (s : ByteArray) (w : World) : ∃ (W1 : World) (C : Nat), (convert 9 104 (.string s)).run Tryz.prog w = .ok (.slice (some ⟨w.heap.size, 0, none⟩) s.size C) W1 ∧
    Row s.data.toList w.heap.size 0 W1 ∧ Below w.heap.size w W1 := by
  have h := run_bytes_of_string (P := Tryz.prog) w 9 104 5 s Tryz.underlying9 Tryz.underlying104 Tryz.underlying5
  have hb := fun j hj => bytesRow_at s (grownCap w s.size 0 5) j hj
  have hz : s.size ≤ (bytesRow s (grownCap w s.size 0 5)).size := by
    unfold bytesRow
    rw [Array.size_append, Array.size_map]
    exact Nat.le_add_right _ _
  generalize bytesRow s (grownCap w s.size 0 5) = R at h hb hz
  generalize grownCap w s.size 0 5 = C at h
  have hg : (w.drew.alloc (.cells R 5 (R.size, R.size + 1))).heap[w.heap.size]? = some (.cells R 5 (R.size, R.size + 1)) := heap_alloc_new w.drew _
  refine ⟨_, C, h, ⟨fun j hj => ?_, fun j hj => ?_⟩, ?_⟩
  · rw [cell_of_row _ w.heap.size j R 5 (R.size, R.size + 1) hg, hb j (by rw [← Array.length_toList]; exact hj), cur_zero]
    unfold bt
    rw [List.getD_eq_getElem?_getD, List.getElem?_eq_getElem hj]
    rfl
  · rw [← bt_size] at hj
    unfold World.frozen?
    simp only [hg]
    simp
    omega
  · have h1 : Below w.heap.size w w.drew := ⟨rfl, rfl, rfl, Nat.le_refl _, fun _ _ => rfl⟩
    exact h1.alloc (Nat.le_refl _) _
theorem conv_back (l : List UInt8) (B C : Nat) (w : World) (h : Row l B l.length w) : (convert 104 9 (.slice (some ⟨B, 0, none⟩) l.length C)).run Tryz.prog w = .ok (.string ⟨(plainL l).toArray⟩) w := by
  have hl : (plainL l).length = l.length := by unfold plainL; simp
  have := run_convert_bytes_back (P := Tryz.prog) w 104 9 5 ⟨B, 0, none⟩ C (plainL l) Tryz.underlying104 Tryz.underlying5 Tryz.underlying9 (by
    intro j hj
    have hadd : (⟨B, 0, none⟩ : Addr).add j = ⟨B, j, none⟩ := by unfold Addr.add; split <;> simp_all
    rw [hadd, h.1 j (by omega), cur_end]
    unfold bt
    rw [List.getD_eq_getElem?_getD, List.getElem?_eq_getElem hj]
    rfl)
  rw [hl] at this
  exact this

end Go.Proofs.YtmcgaaihdjpdgaaGreatDoor
