/- A script of calls (structs of three numbers) that came in. -/
import Derived.Test.YtgcghcmmcljiiaaLiftRecs
import Derived.Test.YtgcghcmmcljiiaaReadsPre
set_option linter.unusedVariables false
namespace Go.Proofs.Ytgcghcmmcljiiaa
open Go.RowKit Go.WideShapes Go.ChangeShapes Go.ChangeAt Go.Deep

theorem op_type : RecType Try.prog 42 [false, false, false] := by
  refine ⟨_, Try.underlying42, by kernel_rfl, rfl, ?_⟩
  intro j k h
  match j, h with
  | 0, h => simp at h; subst h; exact ⟨_, rfl, rfl, by kernel_rfl, by kernel_rfl⟩
  | 1, h => simp at h; subst h; exact ⟨_, rfl, rfl, by kernel_rfl, by kernel_rfl⟩
  | 2, h => simp at h; subst h; exact ⟨_, rfl, rfl, by kernel_rfl, by kernel_rfl⟩
  | j + 3, h => simp at h

theorem rec3 {r : List Value} (h : RecFits [false, false, false] r) : ∃ k n m : Int, r = [.int .i64 k, .int .i64 n, .int .i64 m] ∧ -9223372036854775808 ≤ n ∧ n ≤ 9223372036854775807 := by
  obtain ⟨hl, hf⟩ := h
  obtain ⟨v0, e0, k, rfl, _, _⟩ := hf 0 false rfl
  obtain ⟨v1, e1, n, rfl, b0, b1⟩ := hf 1 false rfl
  obtain ⟨v2, e2, m, rfl, _, _⟩ := hf 2 false rfl
  match r, hl with
  | [a, b, c], _ =>
    simp at e0 e1 e2
    subst e0 e1 e2
    exact ⟨k, n, m, rfl, b0, b1⟩
theorem recs3 : ∀ l : List (List Value), (∀ r ∈ l, RecFits [false, false, false] r) → ∃ l' : List (Int × Int × Int), l'.length = l.length ∧ l.flatten = opCells l' ∧ ∀ x ∈ l', -9223372036854775808 ≤ x.2.1 ∧ x.2.1 ≤ 9223372036854775807
  | [], _ => ⟨[], rfl, rfl, by simp⟩
  | r :: l, h => by
    obtain ⟨l', e1, e2, e3⟩ := recs3 l (fun x hx => h x (by simp [hx]))
    obtain ⟨k, n, m, rfl, b0, b1⟩ := rec3 (h r (by simp))
    refine ⟨(k, n, m) :: l', by simp [e1], ?_, ?_⟩
    · rw [List.flatten_cons, e2]
      rfl
    · intro x hx
      rcases List.mem_cons.1 hx with rfl | hx
      · exact ⟨b0, b1⟩
      · exact e3 x hx
section
variable {H : Type} {enc : TypeId × Value → H}
theorem open_ops {r : Reach} {b0 : Nat} {W : World} {v : Value} {d : DataW H} {ps : List MemPlace}
    (hval : Value.okWide Try.prog W r b0 36 v) (h : DataW.Trod enc Try.prog W 0 (fun _ => true) true 36 v d ps) :
    ∃ (A : Option Addr) (c : Nat) (l : List (Int × Int × Int)), v = .slice A l.length c ∧ (∀ x ∈ l, -9223372036854775808 ≤ x.2.1 ∧ x.2.1 ≤ 9223372036854775807) ∧ Arr W W.heap.size 3 A l.length (opCells l) ∧ (l.length = 0 ∨ ∃ es sp, d = .slice es sp ∧ es.length = l.length) := by
  obtain ⟨A, c, l, rfl, hc, hf, ha, hd⟩ := open_recs (b0 := b0) [false, false, false] (by decide) Try.underlying36 op_type hval h
  obtain ⟨l', e1, e2, e3⟩ := recs3 l hf
  rw [← e1, e2] at ha
  refine ⟨A, c, l', by rw [e1], e3, ha, ?_⟩
  rcases hd with rfl | ⟨es, sp, h1, h2⟩
  · exact .inl e1
  · exact .inr ⟨es, sp, h1, by rw [h2, e1]⟩
end
end Go.Proofs.Ytgcghcmmcljiiaa
