/- Chapter 11: BlobPacks. -/
import Derived.Test.YtmcgaaihdjpdgaaGreatDoorBlH
namespace Go.Proofs.YtmcgaaihdjpdgaaGreatDoor
open Go.RowKit
set_option linter.unusedVariables false

theorem newT_none {l : List KpD} : ∀ (T : List ByteArray), (∀ t ∈ T, cntT l t ≠ 0) → newT l T = [] := by
  intro T h
  have hk : ∀ k, newT l (T.take k) = [] := by
    intro k
    induction k with
    | zero => simp [newT]
    | succ k ih =>
      by_cases hlt : k < T.length
      · rw [newT_snoc (List.getElem?_eq_getElem hlt), ih]
        unfold newStep
        rw [if_neg (fun hh => h _ (List.getElem_mem hlt) hh.1)]
      · rw [List.take_of_length_le (by omega)] at ih ⊢
        exact ih
  have := hk T.length
  rw [List.take_length] at this
  exact this
theorem newT_mem (L : List ByteArray) (t : ByteArray) : t ∈ newT [] L ↔ t ∈ L := by
  have h := newT_all L t
  constructor
  · intro h1
    refine Classical.byContradiction fun h2 => ?_
    have := occ_pos h1
    rw [h.2 h2] at this
    omega
  · intro h1
    exact occ_mem (by rw [h.1 h1]; omega)
/-- Texts that are kept, told by a list in which each may stand often. -/
theorem texts_of {D : DataW Unit} {l : List KpD} {n : Nat} {C : List ByteArray} (hs : KSrt l) (hk : KOk D l n) (hc : ∀ t, cntT l t = occ t C) : (newT [] C).length = (texts l).length ∧ (∀ t, t ∈ newT [] C ↔ t ∈ texts l) ∧ (texts l).Nodup ∧ (newT [] (texts l)).length = (texts l).length := by
  have hm : ∀ t, t ∈ texts l ↔ t ∈ C := fun t => by
    have h1 := mem_texts hk t
    unfold texts
    rw [h1, hc]
    exact ⟨fun h => occ_mem (by omega), fun h => by have := occ_pos h; omega⟩
  have hn := texts_nodup hs hk
  have h1 : ∀ t, t ∈ newT [] C ↔ t ∈ texts l := fun t => (newT_mem C t).trans (hm t).symm
  exact ⟨(nodup_perm (newT_nodup C) hn h1).length_eq, h1, hn, (nodup_perm (newT_nodup _) hn (fun t => newT_mem _ t)).length_eq⟩
/-- New blobs with a book that was there. -/
theorem bs_more {w : World} {kb m n : Nat} {D : DataW Unit} (h : Bk w kb m) (h2 : MapAt w m n D) (hg : GoodD D n) : BS (w.alloc (.cells #[.pointer (some ⟨kb, 0, none⟩), .slice none 0 0, .slice none 0 0] 52)) w.heap.size kb m n D (fun k => k = w.heap.size ∨ k = kb ∨ k = m) [] [] := by
  refine ⟨.slice none 0 0, .slice none 0 0, ⟨⟨Blk.new w _ _, World.ownsRow_nil _ _ _ _, World.ownsRow_nil _ _ _ _, List.Pairwise.nil⟩, Blk.alloc h _, World.ownsMap.alloc h2 _, hg⟩, ⟨Nat.zero_le _, by simp⟩, Nat.zero_le _, fun k => ⟨fun h => ?_, fun h => ?_⟩⟩
  · rcases h with h | h | h
    · exact .inl h
    · exact .inr (.inl h)
    · exact .inr (.inr (.inl h))
  · rcases h with h | h | h | h | h
    · exact .inl h
    · exact .inr (.inl h)
    · exact .inr (.inr h)
    · cases h
    · cases h
/-- The book has grown by other blobs' calls. -/
theorem BS.rebook {w w' : World} {b kb m n n' : Nat} {D D' : DataW Unit} {S T : Nat → Prop} {l : List KpD} {R : List ByteArray} (h : BS w b kb m n D S l R) (hf : Fr T w w') (hT : ∀ k, S k → T k → k = kb ∨ k = m) (hat : At w' kb m n' D') (hg : GoodD D' n') (hn : n ≤ n') (hD : ∀ s q, Marked D s q → Marked D' s q) : BS w' b kb m n' D' S l R := by
  obtain ⟨VL, VR, g, h1, h2, h3⟩ := h
  have hbk := bk_ne g.at_.blk g.bk
  have hbm := blk_ne_map g.at_.blk g.mp
  have nb : ¬ T b := fun ht => by rcases hT b ((h3 b).2 (.inl rfl)) ht with e | e; exact hbk e.symm; exact hbm e
  have nl : ∀ k, VL.ownBlock = some k → ¬ T k := fun k hk ht => by
    rcases hT k ((h3 k).2 (.inr (.inr (.inr (.inl hk))))) ht with e | e
    · exact row_ne_blk g.at_.row (show Blk w kb _ _ from g.bk) (by decide) (by rw [hk, e])
    · exact row_ne_map g.at_.row g.mp (by rw [hk, e])
  have nr : ∀ k, VR.ownBlock = some k → ¬ T k := fun k hk ht => by
    rcases hT k ((h3 k).2 (.inr (.inr (.inr (.inr hk))))) ht with e | e
    · exact row_ne_blk g.at_.roots (show Blk w kb _ _ from g.bk) (by decide) (by rw [hk, e])
    · exact row_ne_map g.at_.roots g.mp (by rw [hk, e])
  exact ⟨VL, VR, ⟨⟨hf.blk g.at_.blk nb, hf.own g.at_.row nl, hf.own g.at_.roots nr, g.at_.srt⟩, hat.bk, hat.mp, hg⟩, h1.mono hn hD, by omega, h3⟩
def cuts (l : List ByteArray) : List ByteArray := l.map cut500
theorem cuts_take {l : List ByteArray} {i : Nat} {s : ByteArray} (h : l[i]? = some s) : cuts (l.take (i + 1)) = cuts (l.take i) ++ [cut500 s] := by
  rw [take_snoc h]; unfold cuts; simp
theorem newT_app (C : List ByteArray) (t : ByteArray) : newT [] (C ++ [t]) = newStep [] (newT [] C) t := by unfold newT; rw [List.foldl_append]; rfl
/-- What the other blobs' calls may change. -/
def TT (B z : Nat) (k : Nat) : Prop := k = B + 1 ∨ k = B ∨ z ≤ k
theorem framesB_list (l : List ByteArray) : (framesB l).data.toList = framesL l := rfl
theorem scan_pack {l : List ByteArray} (h : ∀ p ∈ l, p.size ≤ 65536) : scanB (framesB l) 0 = l := scan_frames l _ 0 h (by rw [List.drop_zero]; rfl) (Nat.zero_le _)
theorem scan_noisy {l : List ByteArray} {s : ByteArray} (h : ∀ p ∈ l, p.size ≤ 65536) (hs : ∀ j, j < s.size → bt s.data.toList j ≠ 181) : scanB (s ++ framesB l) 0 = l := by
  have hz : s.size ≤ (s ++ framesB l).size := by rw [ByteArray.size_append]; omega
  rw [scan_noise (s ++ framesB l) s.size hz (fun i hi => ?_) s.size 0 (by omega) (Nat.zero_le _)]
  · refine scan_frames l _ _ h ?_ hz
    rw [fm_app, bt_size, List.drop_left]
    rfl
  · have := hs i hi
    unfold bt at this ⊢
    rw [fm_app, List.getD_eq_getElem?_getD, List.getElem?_append_left (by rw [← bt_size]; exact hi), ← List.getD_eq_getElem?_getD]
    exact this
theorem sum_texts (l : List KpD) : sumK l = ((texts l).map (·.size)).sum := by unfold sumK texts; rw [List.map_map]; rfl
end Go.Proofs.YtmcgaaihdjpdgaaGreatDoor
