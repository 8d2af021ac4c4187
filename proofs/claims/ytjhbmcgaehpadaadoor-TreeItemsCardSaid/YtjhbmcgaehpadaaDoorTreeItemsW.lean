/- The walk through TreeItems. -/
import Derived.Test.YtjhbmcgaehpadaaDoorMark3
import Derived.Test.YtjhbmcgaehpadaaDoorTreeFiltersW
import Derived.Test.YtjhbmcgaehpadaaDoorTreeBackP
import Derived.Test.YtjhbmcgaehpadaaDoorCls
namespace Go.Proofs.YtjhbmcgaehpadaaDoor
open Go.RowKit
set_option linter.unusedVariables false

theorem filesE_all : ∀ (l : List FileD), filesE l = 0 → ∀ x ∈ l, fileE x = 0
  | [], _, x, hx => by cases hx
  | f :: r, h, x, hx => by
    rw [filesE] at h
    by_cases h0 : fileE f = 0
    · rw [if_pos h0] at h
      rcases List.mem_cons.1 hx with rfl | hx
      · exact h0
      · exact filesE_all r h x hx
    · rw [if_neg h0] at h; exact absurd h h0
theorem itemsE_of : ∀ (l : List ItemD), (∀ x ∈ l, itemE x = 0) → itemsE l = 0
  | [], _ => by rw [itemsE]
  | f :: r, h => by rw [itemsE, if_pos (h f (by simp))]; exact itemsE_of r (fun x hx => h x (by simp [hx]))
theorem fit_item {f : FileD} {q : ByteArray} (h : fileE f = 0) (hq : q.size = 32) : itemE (mkI f q) = 0 := by
  unfold fileE at h
  unfold itemE mkI
  simp only []
  split at h
  · rename_i h1
    split at h
    · rename_i h2
      exact absurd h (by decide)
    · rename_i h2
      rw [if_pos h1, if_pos ⟨by omega, by omega⟩, if_pos hq]
  · exact absurd h (by decide)
theorem fits_right {D : DataW Unit} {l : List FileD} {acc : List ItemD} (h : ItFits D l acc) (hc : checkE l = 0) : rightE acc = 0 := by
  obtain ⟨hl, ha⟩ := h
  have hp : lists (ipaths acc) = l.map (·.path.data.toList) := by
    apply List.ext_getElem?
    intro i
    unfold lists ipaths
    rw [List.map_map, List.getElem?_map, List.getElem?_map]
    by_cases hi : i < l.length
    · obtain ⟨f, hf⟩ : ∃ f, l[i]? = some f := ⟨_, List.getElem?_eq_getElem hi⟩
      obtain ⟨q, h1, _, _⟩ := ha i f hf
      rw [h1, hf]
      rfl
    · rw [List.getElem?_eq_none (by omega), List.getElem?_eq_none (by omega)]
      rfl
  unfold checkE at hc
  unfold rightE
  rw [hp]
  by_cases h0 : pathsE (l.map (·.path.data.toList)) = 0
  · rw [if_pos h0] at hc
    rw [if_pos h0]
    refine itemsE_of _ fun x hx => ?_
    obtain ⟨i, hi, rfl⟩ := List.mem_iff_getElem.1 hx
    obtain ⟨f, hf⟩ : ∃ f, l[i]? = some f := ⟨_, List.getElem?_eq_getElem (by omega)⟩
    obtain ⟨q, h1, h2, _⟩ := ha i f hf
    rw [List.getElem?_eq_getElem hi] at h1
    injection h1 with h1
    rw [h1]
    exact fit_item (filesE_all _ hc f (List.mem_of_getElem? hf)) h2
  · rw [if_neg h0] at hc
    exact absurd hc h0

set_option maxHeartbeats 4000000 in
set_option maxRecDepth 100000 in
theorem law_items (A : Option Addr) (c : Nat) (l : List FileD) (w : World)
    (hz : l.length * 40 ≤ 140737488351232) (hcap : l.length ≤ c) (hx : ∀ f ∈ l, FFit f) (ha : Arr w w.heap.size 3 A l.length (fcells l)) (hm : Ml w) :
    Calls Tryd.prog 10 #[.slice A l.length c] w fun e w' => e = .returned (.bool true) ∧ Below w.heap.size w w' := by
  have HA := Lib.hid awake_any
  have hfew := few_any A c l.length w (by omega) hcap (arr_some ha)
  rw [← few_len] at hfew
  have HFEW := Lib.hid hfew
  have ha' := ha.few
  have hxx : ∀ f ∈ l.take 60, FOk f := fun f hf => (hx f (List.mem_of_mem_take hf)).1
  have hl60 : (l.take 60).length ≤ 60 := by rw [List.length_take]; omega
  clear hfew ha hx
  generalize l.take 60 = l' at *
  have HID := Lib.hid (ideal_any w)
  have F1 := Lib.hid (fun W (hb : Below w.heap.size w W) => check_ref A c l' W (by omega) hxx ((ha'.below hb).more hb.size))
  have F2 := Lib.hid (fun W b (hb : Below w.heap.size w W) (h : At W b w.heap.size 0 (.map [])) (hbm : w.heap.size < b) => items_any b w.heap.size A c l' W hl60 hxx (ha'.below hb) (hm.on hb) h hbm)
  have HX := Lib.hid hxx
  have HAA := Lib.hid ha'
  have hR := @fits_right
  clear hxx ha'
  by_cases hE : checkE l' = 0
  · rw [hE] at F1
    go_enter Tryd.func10, Tryd.ntmps10
    go_wp2_with (first
      | (go_at_call 25; (with_reducible refine HFEW.out.mono ?_); rintro e w1 ⟨rfl, rfl⟩)
      | (go_at_call 36; (with_reducible refine HID.out.mono ?_); rintro e w1 ⟨rfl, hbk1, hmp1, hb1, hz1⟩)
      | (go_at_call 37; refine (F2.out _ _ hb1 ⟨hbk1, hmp1⟩ (by omega)).mono ?_; rintro e w2 (⟨hbad, _⟩ | ⟨_, A', c', acc, D, n, rfl, hF, hA2, hat2, hb2, hz2⟩); (exact absurd hE hbad); have hB2 := hb1.trans hb2; have HA2 := Lib.hid hA2; clear hA2)
      | (go_at_call 20; (with_reducible refine (F1.out _ hB2).mono ?_); rintro e w3 ⟨rfl, hb3⟩))
    have hB3 := below_on hB2 hb3
    have hat3 := hat2.below hb3 (Blk.lt hat2.bk) hat2.mp.lt
    have HA3 := Lib.hid (Arr.on HA2.out hb3)
    have HFI := Lib.hid hF
    have hri := hR hF hE
    have hal := hF.1
    clear hat2 hF hR hE HA2
    have hb1s := hb1.size
    have hs3 := hb3.size
    go_wp2
    go_loopw [7] (fun v wr => ∃ (k : Nat), k ≤ l'.length ∧ v = .int .i64 k ∧ Below w3.heap.size w3 wr) (fun v _ => l'.length - (intOf v).toNat)
    case atStart => exact ⟨0, Nat.zero_le _, rfl, Below.refl _ _⟩
    case round =>
      obtain ⟨k, hk, rfl, hB⟩ := hrel
      have hBw := below_on hB3 hB
      by_cases hlt : k < l'.length
      · obtain ⟨f, hf⟩ : ∃ f, l'[k]? = some f := ⟨_, List.getElem?_eq_getElem hlt⟩
        obtain ⟨q, hq, hq2, hq3⟩ := HFI.out.2 k f hf
        obtain ⟨bA, oA, rfl, hbA, hcell⟩ := HAA.out.2 (by omega)
        obtain ⟨c0, c1, c2⟩ := file_cells (fun i u h => (hBw.cell (p := ⟨bA, oA + i, none⟩) hbA).trans (hcell i u h)) hf
        obtain ⟨bI, oI, rfl, hbI, hcellI⟩ := HA3.out.2 (by omega)
        obtain ⟨e0, e1, e2, e3⟩ := item_cells (fun i u h => (hB.cell (p := ⟨bI, oI + i, none⟩) hbI).trans (hcellI i u h)) hq
        have hat4 := hat3.below hB (Blk.lt hat3.bk) hat3.mp.lt
        have hfx := (HX.out f (List.mem_of_getElem? hf)).2
        have HI := Lib.hid (fun (p : Cls wr) => is_any _ _ _ _ f.data q p.n (Blk.below hat4.bk p.h (Blk.lt hat4.bk)) (MapAt.below hat4.mp p.h hat4.mp.lt) hfx hq3)
        have kl : (k : Int) < l'.length := by omega
        have e0 : wr.cell? ⟨bI, oI + k * 4, none⟩ = some (.string f.path) := e0
        have e1 : wr.cell? ⟨bI, oI + k * 4 + 1, none⟩ = some (.int .i64 f.mode) := e1
        have e2 : wr.cell? ⟨bI, oI + k * 4 + 2, none⟩ = some (.int .i64 f.data.size) := e2
        have e3 : wr.cell? ⟨bI, oI + k * 4 + 3, none⟩ = some (.string q) := e3
        clear hcell hcellI hf hq hq3
        go_wp2
        have c0' := cell_cls c0
        have c1' := cell_cls c1
        have c2' := cell_cls c2
        have e0' := cell_cls e0
        have e1' := cell_cls e1
        have e2' := cell_cls e2
        have e3' := cell_cls e3
        refine wp_region_cls (by kernel_rfl) (by kernel_rfl) ?_
        repeat (go_big_quiet_step ((go_at_call 38; with_reducible exact cls_call (HI.out _))))
        refine wpQuiet_nil ?_
        intro _ hw'
        obtain ⟨⟨w9, hb9⟩, hw''⟩ := hw'
        subst hw''
        clear c0' c1' c2' e0' e1' e2' e3'
        go_wp2
        go_roundw
        case rel => exact ⟨k + 1, by omega, by go_num, below_on hB hb9⟩
        case measure => simp [intOf] <;> omega
      · have hm4 := hm.on hBw
        have F4 := Lib.hid (right_any A' c' acc wr (by omega) (good_ok (good_of hri)) (by rw [hal]; exact (HA3.out.below hB).more hB.size) hm4)
        rw [hri, hal] at F4
        go_wp2_with (first
          | (go_at_call 34; (with_reducible refine F4.out.mono ?_); rintro e w5 ⟨rfl, hb5⟩; have hBw := below_on hBw hb5)
          | (go_at_call 16; (with_reducible refine (HA.out _ (hm.on hBw)).mono ?_); rintro e w6 ⟨rfl, hb6⟩; have hBw := below_on hBw hb6))
        go_ret
        exact ⟨rfl, hBw⟩
  · have hE' : (checkE l' == 0) = false := by rw [beq_eq_false_iff_ne]; exact hE
    have hE2 : (checkE l' != 0) = true := by rw [bne_iff_ne]; exact hE
    generalize checkE l' = E at *
    go_enter Tryd.func10, Tryd.ntmps10
    go_wp2_with (first
      | (go_at_call 25; (with_reducible refine HFEW.out.mono ?_); rintro e w1 ⟨rfl, rfl⟩)
      | (go_at_call 36; (with_reducible refine HID.out.mono ?_); rintro e w1 ⟨rfl, hbk1, hmp1, hb1, hz1⟩)
      | (go_at_call 37; refine (F2.out _ _ hb1 ⟨hbk1, hmp1⟩ (by omega)).mono ?_; rintro e w2 (⟨_, rfl, hb2, hz2⟩ | ⟨hbad, _⟩); rotate_left; (exact absurd hbad hE); have hB2 := hb1.trans hb2)
      | (go_at_call 20; (with_reducible refine (F1.out _ hB2).mono ?_); rintro e w3 ⟨rfl, hb3⟩; have hB3 := below_on hB2 hb3)
      | (go_at_call 16; (with_reducible refine (HA.out _ (hm.on hB3)).mono ?_); rintro e w6 ⟨rfl, hb6⟩; have hB3 := below_on hB3 hb6))
    go_ret
    exact ⟨rfl, hB3⟩
end Go.Proofs.YtjhbmcgaehpadaaDoor
