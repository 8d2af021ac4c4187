/- Chapter 11: Pack, Unpack upon the state.; Chapter 11: BlobUnpacks. -/
import Derived.Test.YtmcgaaihdjpdgaaGreatDoorBlobP
import Derived.Test.YtmcgaaihdjpdgaaGreatDoorFrmC
import Derived.Test.YtmcgaaihdjpdgaaGreatDoorBlobQ
import Derived.Test.YtmcgaaihdjpdgaaGreatDoorFrm8
import Derived.Test.YtmcgaaihdjpdgaaGreatDoorCls
import Derived.Deep.CutRange
import Derived.Deep.RegionHeld3
/- Chapter 11: Pack, Unpack upon the state. -/
namespace Go.Proofs.YtmcgaaihdjpdgaaGreatDoor
open Go.RowKit
set_option linter.unusedVariables false

def texts (l : List KpD) : List ByteArray := l.map (·.text)
theorem texts_take {l : List KpD} {i : Nat} {k : KpD} (h : l[i]? = some k) : (texts (l.take (i + 1))).map Value.string = (texts (l.take i)).map Value.string ++ [.string k.text] := by
  rw [take_snoc h]; unfold texts; simp
/-- A text that is met: new, or not. -/
def newStep (l : List KpD) (acc : List ByteArray) (t : ByteArray) : List ByteArray := if cntT l t = 0 ∧ occ t acc = 0 then acc ++ [t] else acc
/-- The new ones, each once. -/
def newT (l : List KpD) (L : List ByteArray) : List ByteArray := L.foldl (newStep l) []
theorem newT_snoc {l : List KpD} {L : List ByteArray} {k : Nat} {t : ByteArray} (h : L[k]? = some t) : newT l (L.take (k + 1)) = newStep l (newT l (L.take k)) t := by
  rw [take_snoc h]; unfold newT; rw [List.foldl_append]; rfl
theorem newStep_len (l : List KpD) (acc : List ByteArray) (t : ByteArray) : (newStep l acc t).length ≤ acc.length + 1 := by
  unfold newStep; split
  · simp
  · omega
theorem newT_len (l : List KpD) (L : List ByteArray) : ∀ k, (newT l (L.take k)).length ≤ k
  | 0 => by simp [newT]
  | k + 1 => by
    have ih := newT_len l L k
    by_cases h : k < L.length
    · rw [newT_snoc (List.getElem?_eq_getElem h)]
      have := newStep_len l (newT l (L.take k)) L[k]
      omega
    · rw [List.take_of_length_le (by omega)]
      rw [List.take_of_length_le (by omega)] at ih
      omega
theorem good_mono' {D : DataW Unit} {n n' : Nat} (h : GoodD D n) (hn : n ≤ n') : GoodD D n' := ⟨fun k hk => by obtain ⟨c, h1, h2⟩ := h.1 k hk; exact ⟨c, by omega, h2⟩, h.2⟩
def UnpOut (w : World) (b kb m n : Nat) (D : DataW Unit) (S : Nat → Prop) (l : List KpD) (R : List ByteArray) (L : List ByteArray) (e : Ending) (w' : World) : Prop :=
  ∃ D' S' l', e = .returned (.tuple #[.int .i64 L.length, .int .i64 (newT l L).length, .int .i64 0]) ∧ (∀ s q, Marked D s q → Marked D' s q) ∧ BS w' b kb m (n + 2 * L.length) D' S' l' R ∧ Stp S S' w w' ∧ (∀ t, cntT l' t = cntT l t + occ t (newT l L)) ∧ ∀ t ∈ L, ∃ q, Marked D' t q
end Go.Proofs.YtmcgaaihdjpdgaaGreatDoor
/- Chapter 11: BlobUnpacks. -/
namespace Go.Proofs.YtmcgaaihdjpdgaaGreatDoor
open Go.RowKit
set_option linter.unusedVariables false

theorem cnt_nil (t : ByteArray) : cntT [] t = 0 := rfl
theorem nodup_of_occ : ∀ {l : List ByteArray}, (∀ t, occ t l ≤ 1) → l.Nodup
  | [], _ => List.nodup_nil
  | x :: l, h => by
    rw [List.nodup_cons]
    refine ⟨fun hx => ?_, nodup_of_occ fun t => ?_⟩
    · have h1 := h x
      have h2 := occ_pos hx
      rw [occ, if_pos rfl] at h1
      omega
    · have := h t
      rw [occ] at this
      omega
theorem newT_occ (L : List ByteArray) (t : ByteArray) : ∀ k, (t ∈ L.take k → occ t (newT [] (L.take k)) = 1) ∧ (t ∉ L.take k → occ t (newT [] (L.take k)) = 0)
  | 0 => by simp [newT, occ]
  | k + 1 => by
    have ih := newT_occ L t k
    by_cases h : k < L.length
    · have hk := List.getElem?_eq_getElem h
      rw [newT_snoc hk, take_snoc hk]
      generalize L[k] = x at *
      obtain ⟨acc, hacc⟩ : ∃ acc, newT [] (L.take k) = acc := ⟨_, rfl⟩
      rw [hacc] at ih ⊢
      unfold newStep
      by_cases e : t = x
      · subst e
        refine ⟨fun _ => ?_, fun hn => absurd (by simp) hn⟩
        by_cases h1 : t ∈ L.take k
        · rw [if_neg (by rw [ih.1 h1]; omega)]; exact ih.1 h1
        · rw [if_pos ⟨cnt_nil t, ih.2 h1⟩, occ_app, occ_one, if_pos rfl, ih.2 h1]
      · have hm : t ∈ L.take k ++ [x] ↔ t ∈ L.take k := by
          rw [List.mem_append]
          exact ⟨fun h => h.elim id (fun h => absurd (List.mem_singleton.1 h) e), .inl⟩
        have ho : occ t (if cntT [] x = 0 ∧ occ x acc = 0 then acc ++ [x] else acc) = occ t acc := by
          split
          · rw [occ_app, occ_one, if_neg (fun h => e h.symm), Nat.add_zero]
          · rfl
        rw [hm, ho]
        exact ih
    · rw [List.take_of_length_le (by omega)] at ih ⊢
      exact ih
theorem newT_all (L : List ByteArray) (t : ByteArray) : (t ∈ L → occ t (newT [] L) = 1) ∧ (t ∉ L → occ t (newT [] L) = 0) := by
  have := newT_occ L t L.length
  rw [List.take_length] at this
  exact this
theorem newT_nodup (L : List ByteArray) : (newT [] L).Nodup := nodup_of_occ fun t => by
  have h := newT_all L t
  by_cases h1 : t ∈ L
  · rw [h.1 h1]; exact Nat.le_refl _
  · rw [h.2 h1]; exact Nat.zero_le _
theorem new_count {D : DataW Unit} {l : List KpD} {n : Nat} {L : List ByteArray} (hs : KSrt l) (hk : KOk D l n) (hc : ∀ t, cntT l t = occ t (newT [] L)) : l.length = (newT [] L).length ∧ sumK l = ((newT [] L).map (·.size)).sum :=
  texts_tell hs hk (newT_nodup L) fun t => by
    rw [hc]
    constructor
    · intro h; have := occ_pos h; omega
    · intro h; exact occ_mem (by omega)
theorem LW.aside {w0 w w' : World} {n : Nat} {D : DataW Unit} {S T : Nat → Prop} {l : List KpD} {Rs : List RtD} (h : LW w0 w n D S l Rs) (hf : Fr T w w') (hT : ∀ k, T k → w0.heap.size + 5 ≤ k ∧ ¬ S k) : LW w0 w' n D S l Rs :=
  ⟨h.bs.aside hf (fun k hk ht => (hT k ht).2 hk), hf.blk h.wb (fun ht => by have := (hT _ ht).1; omega), h.bl.trans (hf.below h.bl.size (fun k hk => by have := (hT k hk).1; omega)), h.lo, h.rt⟩
theorem LW.big {w0 w : World} {n : Nat} {D : DataW Unit} {S : Nat → Prop} {l : List KpD} {Rs : List RtD} (h : LW w0 w n D S l Rs) : w0.heap.size + 5 ≤ w.heap.size := h.wb.lt
end Go.Proofs.YtmcgaaihdjpdgaaGreatDoor
