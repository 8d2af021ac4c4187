/- Manifests that came in. -/
import Derived.Test.YtjhbmcgaehpadaaDoorLiftRecs
import Derived.Test.YtjhbmcgaehpadaaDoorTreeItem1
set_option linter.unusedVariables false
namespace Go.Proofs.YtjhbmcgaehpadaaDoor
open Go.RowKit Go.WideShapes Go.ChangeShapes Go.ChangeAt Go.Deep

theorem item_type : RecType Tryd.prog 56 [true, false, false, true] := by
  refine ⟨_, Tryd.underlying56, by kernel_rfl, rfl, ?_⟩
  intro j k h
  match j, h with
  | 0, h => simp at h; subst h; exact ⟨_, rfl, rfl, by kernel_rfl, by kernel_rfl⟩
  | 1, h => simp at h; subst h; exact ⟨_, rfl, rfl, by kernel_rfl, by kernel_rfl⟩
  | 2, h => simp at h; subst h; exact ⟨_, rfl, rfl, by kernel_rfl, by kernel_rfl⟩
  | 3, h => simp at h; subst h; exact ⟨_, rfl, rfl, by kernel_rfl, by kernel_rfl⟩
  | j + 4, h => simp at h
theorem rec_item {r : List Value} (h : RecFits [true, false, false, true] r) : ∃ f : ItemD, r = icell f ∧ IOk f := by
  obtain ⟨hl, hf⟩ := h
  obtain ⟨v0, e0, p, rfl, hp⟩ := hf 0 true rfl
  obtain ⟨v1, e1, m, rfl, b0, b1⟩ := hf 1 false rfl
  obtain ⟨v2, e2, z, rfl, c0, c1⟩ := hf 2 false rfl
  obtain ⟨v3, e3, d, rfl, hd⟩ := hf 3 true rfl
  match r, hl with
  | [a, b, c, d], _ =>
    simp at e0 e1 e2 e3
    subst e0 e1 e2 e3
    exact ⟨⟨p, m, z, _⟩, rfl, hp, hd, ⟨b0, b1⟩, c0, c1⟩
theorem recs_item : ∀ l : List (List Value), (∀ r ∈ l, RecFits [true, false, false, true] r) → ∃ l' : List ItemD, l'.length = l.length ∧ l.flatten = icells l' ∧ ∀ x ∈ l', IOk x
  | [], _ => ⟨[], rfl, rfl, by simp⟩
  | r :: l, h => by
    obtain ⟨l', e1, e2, e3⟩ := recs_item l (fun x hx => h x (by simp [hx]))
    obtain ⟨o, rfl, ho⟩ := rec_item (h r (by simp))
    refine ⟨o :: l', by simp [e1], ?_, ?_⟩
    · rw [List.flatten_cons, e2]
      rfl
    · intro x hx
      rcases List.mem_cons.1 hx with rfl | hx
      · exact ho
      · exact e3 x hx
section
variable {H : Type} {enc : TypeId × Value → H}
set_option maxRecDepth 100000 in
theorem open_items {r : Reach} {b0 : Nat} {W : World} {v : Value} {d : DataW H} {ps : List MemPlace}
    (hval : Value.okWide Tryd.prog W r b0 39 v) (h : DataW.Trod enc Tryd.prog W 0 (fun _ => true) true 39 v d ps) :
    ∃ (A : Option Addr) (c : Nat) (l : List ItemD), v = .slice A l.length c ∧ l.length ≤ c ∧ (∀ x ∈ l, IOk x) ∧ Arr W W.heap.size 4 A l.length (icells l) ∧ (l.length = 0 ∨ ∃ es sp, d = .slice es sp ∧ es.length = l.length) := by
  obtain ⟨A, c, l, rfl, hc, hf, ha, hd⟩ := open_recs (b0 := b0) [true, false, false, true] (by decide) Tryd.underlying39 item_type hval h
  obtain ⟨l', e1, e2, e3⟩ := recs_item l hf
  rw [← e1] at hc
  rw [← e1, e2] at ha
  refine ⟨A, c, l', by rw [e1], hc, e3, ha, ?_⟩
  rcases hd with rfl | ⟨es, sp, h1, h2⟩
  · exact .inl e1
  · exact .inr ⟨es, sp, h1, by rw [h2, e1]⟩
end
theorem some_len (l : List ItemD) : (l.take 100).length = min l.length 100 := by rw [List.length_take, Nat.min_comm]
theorem Arr.some_ {w : World} {B : Nat} {A : Option Addr} {l : List ItemD} (h : Arr w B 4 A l.length (icells l)) : Arr w B 4 A (l.take 100).length (icells (l.take 100)) := by
  have h2 := h.itake (k := min l.length 100) (by omega)
  rw [some_len]
  rwa [show l.take (min l.length 100) = l.take 100 by
    rcases Nat.le_total l.length 100 with h | h
    · rw [Nat.min_eq_left h, List.take_of_length_le (Nat.le_refl _), List.take_of_length_le h]
    · rw [Nat.min_eq_right h]] at h2
end Go.Proofs.YtjhbmcgaehpadaaDoor
