/- A script of calls that came in. -/
import Derived.Test.YtpmjbkpooionbaaLiftRecs
import Derived.Test.YtpmjbkpooionbaaNetOps
set_option linter.unusedVariables false
namespace Go.Proofs.Ytpmjbkpooionbaa
open Go.RowKit Go.WideShapes Go.ChangeShapes Go.ChangeAt Go.Deep

theorem nop_type : RecType Try.prog 40 [false, false, false, false, true] := by
  refine ⟨_, Try.underlying40, by kernel_rfl, rfl, ?_⟩
  intro j k h
  match j, h with
  | 0, h => simp at h; subst h; exact ⟨_, rfl, rfl, by kernel_rfl, by kernel_rfl⟩
  | 1, h => simp at h; subst h; exact ⟨_, rfl, rfl, by kernel_rfl, by kernel_rfl⟩
  | 2, h => simp at h; subst h; exact ⟨_, rfl, rfl, by kernel_rfl, by kernel_rfl⟩
  | 3, h => simp at h; subst h; exact ⟨_, rfl, rfl, by kernel_rfl, by kernel_rfl⟩
  | 4, h => simp at h; subst h; exact ⟨_, rfl, rfl, by kernel_rfl, by kernel_rfl⟩
  | j + 5, h => simp at h

theorem rec5 {r : List Value} (h : RecFits [false, false, false, false, true] r) : ∃ o : NOp, r = o.cells ∧ o.fits := by
  obtain ⟨hl, hf⟩ := h
  obtain ⟨v0, e0, k, rfl, _, _⟩ := hf 0 false rfl
  obtain ⟨v1, e1, n, rfl, b0, b1⟩ := hf 1 false rfl
  obtain ⟨v2, e2, m, rfl, c0, c1⟩ := hf 2 false rfl
  obtain ⟨v3, e3, y, rfl, d0, d1⟩ := hf 3 false rfl
  obtain ⟨v4, e4, t, rfl, ht⟩ := hf 4 true rfl
  match r, hl with
  | [a, b, c, d, e], _ =>
    simp at e0 e1 e2 e3 e4
    subst e0 e1 e2 e3 e4
    exact ⟨⟨k, n, m, y, t⟩, rfl, ⟨b0, b1⟩, ⟨c0, c1⟩, ⟨d0, d1⟩, ht⟩
theorem recs5 : ∀ l : List (List Value), (∀ r ∈ l, RecFits [false, false, false, false, true] r) → ∃ l' : List NOp, l'.length = l.length ∧ l.flatten = nopCells l' ∧ ∀ x ∈ l', x.fits
  | [], _ => ⟨[], rfl, rfl, by simp⟩
  | r :: l, h => by
    obtain ⟨l', e1, e2, e3⟩ := recs5 l (fun x hx => h x (by simp [hx]))
    obtain ⟨o, rfl, ho⟩ := rec5 (h r (by simp))
    refine ⟨o :: l', by simp [e1], ?_, ?_⟩
    · rw [List.flatten_cons, e2]
      rfl
    · intro x hx
      rcases List.mem_cons.1 hx with rfl | hx
      · exact ho
      · exact e3 x hx
section
variable {H : Type} {enc : TypeId × Value → H}
theorem open_ops {r : Reach} {b0 : Nat} {W : World} {v : Value} {d : DataW H} {ps : List MemPlace}
    (hval : Value.okWide Try.prog W r b0 36 v) (h : DataW.Trod enc Try.prog W 0 (fun _ => true) true 36 v d ps) :
    ∃ (A : Option Addr) (c : Nat) (l : List NOp), v = .slice A l.length c ∧ (∀ x ∈ l, x.fits) ∧ Arr W W.heap.size 5 A l.length (nopCells l) ∧ (l.length = 0 ∨ ∃ es sp, d = .slice es sp ∧ es.length = l.length) := by
  obtain ⟨A, c, l, rfl, hc, hf, ha, hd⟩ := open_recs (b0 := b0) [false, false, false, false, true] (by decide) Try.underlying36 nop_type hval h
  obtain ⟨l', e1, e2, e3⟩ := recs5 l hf
  rw [← e1, e2] at ha
  refine ⟨A, c, l', by rw [e1], e3, ha, ?_⟩
  rcases hd with rfl | ⟨es, sp, h1, h2⟩
  · exact .inl e1
  · exact .inr ⟨es, sp, h1, by rw [h2, e1]⟩
end
end Go.Proofs.Ytpmjbkpooionbaa
