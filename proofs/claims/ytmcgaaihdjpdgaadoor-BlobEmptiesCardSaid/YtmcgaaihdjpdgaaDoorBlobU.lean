/- Chapter 11: BlobEmpties. -/
import Derived.Test.YtmcgaaihdjpdgaaDoorBlobT
import Derived.Test.YtmcgaaihdjpdgaaDoorBlobOp
namespace Go.Proofs.YtmcgaaihdjpdgaaDoor
open Go.RowKit
set_option linter.unusedVariables false

/-- A row of the law's own. -/
def Off (B : Nat) (S : Nat → Prop) (v : Value) : Prop := ∀ k, v.ownBlock = some k → ¬ S k ∧ B + 5 ≤ k
theorem Off.step {w w' : World} {B base sz n : Nat} {S S' : Nat → Prop} {v : Value} {e : TypeId} {xs : List Value} (h : Off B S v) (ho : w.ownsRow base e sz v n xs) (hs : Stp S S' w w') : w'.ownsRow base e sz v n xs ∧ Off B S' v :=
  ⟨hs.1.own ho (fun k hk => (h k hk).1), fun k hk => ⟨fun hS => by
    rcases hs.2 k hS with h1 | h1
    · exact (h k hk).1 h1
    · have := (ho.lt k hk).2
      omega, (h k hk).2⟩⟩
theorem Off.push {w0 w : World} {n g cap m : Nat} {D : DataW Unit} {S : Nat → Prop} {l : List KpD} {Rs : List RtD} {v : Value} (hL : LW w0 w n D S l Rs) (h : Off w0.heap.size S v) (hat : v.ownBlock = some g ∨ w.heap.size ≤ g) : Off w0.heap.size S (.slice (some ⟨g, 0, none⟩) m cap) := fun k hk => by
  injection hk with hk
  change g = k at hk
  subst hk
  rcases hat with hat | hat
  · exact h _ hat
  · have := hL.big
    exact ⟨fun hS => by have := hL.bs.lt hS; omega, by omega⟩
theorem Off.nil (B : Nat) (S : Nat → Prop) : Off B S (.slice none 0 0) := fun k hk => by cases hk
theorem fits_uniq {D : DataW Unit} {n : Nat} (hg : GoodD D n) : ∀ {acc : List ItemD} {fl fl' : List FileD}, ItFits D fl acc → ItFits D fl' acc → fl = fl'
  | [], fl, fl', h, h' => by
    have h1 := h.1
    have h2 := h'.1
    rw [List.eq_nil_of_length_eq_zero (l := fl) (by simpa using h1.symm), List.eq_nil_of_length_eq_zero (l := fl') (by simpa using h2.symm)]
  | x :: acc, [], fl', h, _ => by have := h.1; simp at this
  | x :: acc, f :: fl, [], _, h' => by have := h'.1; simp at this
  | x :: acc, f :: fl, f' :: fl', h, h' => by
    rw [fits_uniq hg (fits_tail h) (fits_tail h')]
    obtain ⟨g, h1, h2, _, h4⟩ := fits_at h (i := 0) (x := x) rfl
    obtain ⟨g', h1', h2', _, h4'⟩ := fits_at h' (i := 0) (x := x) rfl
    obtain rfl : f = g := by simpa using h1
    obtain rfl : f' = g' := by simpa using h1'
    have hd := marked_inj hg h4 h4'
    rw [h2] at h2'
    obtain ⟨a, b, c⟩ := f
    obtain ⟨a', b', c'⟩ := f'
    injection h2' with e1 e2 e3 e4
    simp only at e1 e2 hd
    rw [e1, e2, hd]
theorem rt_uniq {D : DataW Unit} {n : Nat} (hg : GoodD D n) {r r' : RtD} (h : RtGood D r) (h' : RtGood D r') (e : r.q = r'.q) : r = r' := by
  have h1 : r.man = r'.man := marked_inj hg h.1 (by rw [e]; exact h'.1)
  have h2 : r.acc = r'.acc := by
    have a := man_back h.2.1
    have b := man_back h'.2.1
    unfold RtD.man at h1
    rw [h1, b] at a
    injection a with _ a
    exact a.symm
  have h3 : r.fl = r'.fl := fits_uniq hg h.2.2 (by rw [h2]; exact h'.2.2)
  obtain ⟨a, b, c⟩ := r
  obtain ⟨a', b', c'⟩ := r'
  simp only at e h2 h3
  rw [e, h2, h3]
theorem needT_perm {t : ByteArray} {a b : List RtD} (h : a.Perm b) : needT t a = needT t b := by
  induction h with
  | nil => rfl
  | cons x _ ih => rw [needT, needT, ih]
  | swap x y l => rw [needT, needT, needT, needT]; omega
  | trans _ _ h1 h2 => rw [h1, h2]
theorem erase_perm {α : Type} {l : List α} {i : Nat} {r : α} (h : l[i]? = some r) : l.Perm (r :: l.eraseIdx i) := by
  have h1 : l = l.take i ++ r :: l.drop (i + 1) := by rw [← drop_head h, List.take_append_drop]
  rw [List.eraseIdx_eq_take_drop_succ]
  conv => lhs; rw [h1]
  exact List.perm_middle
theorem erase_map {α β : Type} (f : α → β) (l : List α) (i : Nat) : (l.map f).eraseIdx i = (l.eraseIdx i).map f := by
  rw [List.eraseIdx_eq_take_drop_succ, List.eraseIdx_eq_take_drop_succ, List.map_append, List.map_take, List.map_drop]
/-- Forget of a root that is there. -/
theorem forget_L {w0 w : World} {n : Nat} {D : DataW Unit} {S : Nat → Prop} {l : List KpD} {Rs : List RtD} (r : RtD) (h : LW w0 w n D S l Rs) (hn : n ≤ 65000) (hr : r ∈ Rs) (hne : ∀ t, (occ t r.need : Int) ≤ cntT l t) (hm : Ml w0) :
    Calls Tryd.prog 25 #[.pointer (some ⟨w0.heap.size + 2, 0, none⟩), .string r.q] w fun e w' => ∃ l' i, e = .returned (.int .i64 0) ∧ Rs[i]? = some r ∧ LW w0 w' n D S l' (Rs.eraseIdx i) ∧ Stp S S w w' ∧ ∀ t, cntT l' t = cntT l t - occ t r.need := by
  refine (forget_S r w h.bs hn (h.rt r hr) (List.mem_map.2 ⟨r, hr, rfl⟩) hne (hm.on h.bl)).mono ?_
  rintro e w' ⟨l', i, rfl, h1, h2, h3, h4⟩
  rw [List.getElem?_map] at h1
  obtain ⟨r2, hr2, he⟩ := Option.map_eq_some_iff.1 h1
  obtain rfl := rt_uniq h.bs.good (h.rt r2 (List.mem_of_getElem? hr2)) (h.rt r hr) he
  exact ⟨l', i, rfl, hr2, h.step (by rw [← erase_map]; exact h2) h3 (fun x hx => h.rt x (List.mem_of_mem_eraseIdx hx)), h3, h4⟩
/-- Marks of texts. -/
def MksOf (D : DataW Unit) (C P : List ByteArray) : Prop := P.length = C.length ∧ ∀ (j : Nat) (s q : ByteArray), C[j]? = some s → P[j]? = some q → Marked D s q
theorem MksOf.mono {D D' : DataW Unit} {C P : List ByteArray} (h : MksOf D C P) (hD : ∀ s q, Marked D s q → Marked D' s q) : MksOf D' C P := ⟨h.1, fun j s q h1 h2 => hD _ _ (h.2 j s q h1 h2)⟩
theorem MksOf.snoc {D : DataW Unit} {C P : List ByteArray} {s q : ByteArray} (h : MksOf D C P) (hq : Marked D s q) : MksOf D (C ++ [s]) (P ++ [q]) := by
  refine ⟨by simp [h.1], fun j a b h1 h2 => ?_⟩
  rcases Nat.lt_or_ge j C.length with hj | hj
  · rw [List.getElem?_append_left hj] at h1
    rw [List.getElem?_append_left (by rw [h.1]; exact hj)] at h2
    exact h.2 j a b h1 h2
  · rw [List.getElem?_append_right hj] at h1
    rw [List.getElem?_append_right (by rw [h.1]; exact hj), h.1] at h2
    cases hk : j - C.length with
    | zero =>
      rw [hk] at h1 h2
      simp at h1 h2
      rw [← h1, ← h2]; exact hq
    | succ k => rw [hk] at h1; simp at h1
/-- Nothing is kept. -/
theorem none_kept {D : DataW Unit} {l : List KpD} {n : Nat} (hs : KSrt l) (hk : KOk D l n) (h : ∀ t, cntT l t = 0) : l.length = 0 ∧ sumK l = 0 := by
  have := texts_tell hs hk (L := []) List.nodup_nil (fun s => by rw [h]; simp)
  simpa using this
end Go.Proofs.YtmcgaaihdjpdgaaDoor
