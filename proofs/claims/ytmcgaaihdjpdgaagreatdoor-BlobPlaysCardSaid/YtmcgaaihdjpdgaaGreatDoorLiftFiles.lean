/- Files that came in. -/
import Derived.Test.YtmcgaaihdjpdgaaGreatDoorLiftRecs
import Derived.Test.YtmcgaaihdjpdgaaGreatDoorTreeWB
set_option linter.unusedVariables false
namespace Go.Proofs.YtmcgaaihdjpdgaaGreatDoor
open Go.RowKit Go.WideShapes Go.ChangeShapes Go.ChangeAt Go.Deep

theorem file_type : RecType Tryz.prog 64 [true, false, true] := by
  refine ⟨_, Tryz.underlying64, by kernel_rfl, rfl, ?_⟩
  intro j k h
  match j, h with
  | 0, h => simp at h; subst h; exact ⟨_, rfl, rfl, by kernel_rfl, by kernel_rfl⟩
  | 1, h => simp at h; subst h; exact ⟨_, rfl, rfl, by kernel_rfl, by kernel_rfl⟩
  | 2, h => simp at h; subst h; exact ⟨_, rfl, rfl, by kernel_rfl, by kernel_rfl⟩
  | j + 3, h => simp at h
def FFit (f : FileD) : Prop := FOk f ∧ -9223372036854775808 ≤ f.mode ∧ f.mode ≤ 9223372036854775807
theorem rec_file {r : List Value} (h : RecFits [true, false, true] r) : ∃ f : FileD, r = fcell f ∧ FFit f := by
  obtain ⟨hl, hf⟩ := h
  obtain ⟨v0, e0, p, rfl, hp⟩ := hf 0 true rfl
  obtain ⟨v1, e1, m, rfl, b0, b1⟩ := hf 1 false rfl
  obtain ⟨v2, e2, d, rfl, hd⟩ := hf 2 true rfl
  match r, hl with
  | [a, b, c], _ =>
    simp at e0 e1 e2
    subst e0 e1 e2
    exact ⟨⟨p, m, d⟩, rfl, ⟨hp, hd⟩, b0, b1⟩
theorem recs_file : ∀ l : List (List Value), (∀ r ∈ l, RecFits [true, false, true] r) → ∃ l' : List FileD, l'.length = l.length ∧ l.flatten = fcells l' ∧ ∀ x ∈ l', FFit x
  | [], _ => ⟨[], rfl, rfl, by simp⟩
  | r :: l, h => by
    obtain ⟨l', e1, e2, e3⟩ := recs_file l (fun x hx => h x (by simp [hx]))
    obtain ⟨o, rfl, ho⟩ := rec_file (h r (by simp))
    refine ⟨o :: l', by simp [e1], ?_, ?_⟩
    · rw [List.flatten_cons, e2]
      rfl
    · intro x hx
      rcases List.mem_cons.1 hx with rfl | hx
      · exact ho
      · exact e3 x hx
section
variable {H : Type} {enc : TypeId × Value → H}
set_option maxRecDepth 100000 in
theorem open_files {r : Reach} {b0 : Nat} {W : World} {v : Value} {d : DataW H} {ps : List MemPlace}
    (hval : Value.okWide Tryz.prog W r b0 26 v) (h : DataW.Trod enc Tryz.prog W 0 (fun _ => true) true 26 v d ps) :
    ∃ (A : Option Addr) (c : Nat) (l : List FileD), v = .slice A l.length c ∧ l.length ≤ c ∧ (∀ x ∈ l, FFit x) ∧ Arr W W.heap.size 3 A l.length (fcells l) ∧ (l.length = 0 ∨ ∃ es sp, d = .slice es sp ∧ es.length = l.length) := by
  obtain ⟨A, c, l, rfl, hc, hf, ha, hd⟩ := open_recs (b0 := b0) [true, false, true] (by decide) Tryz.underlying26 file_type hval h
  obtain ⟨l', e1, e2, e3⟩ := recs_file l hf
  rw [← e1] at hc
  rw [← e1, e2] at ha
  refine ⟨A, c, l', by rw [e1], hc, e3, ha, ?_⟩
  rcases hd with rfl | ⟨es, sp, h1, h2⟩
  · exact .inl e1
  · exact .inr ⟨es, sp, h1, by rw [h2, e1]⟩
end
theorem fcells_len (l : List FileD) : (fcells l).length = l.length * 3 := by
  unfold fcells
  rw [flat_len_eq (c := 3) _ (by intro r hr; obtain ⟨f, _, rfl⟩ := List.mem_map.1 hr; rfl), List.length_map]
theorem fcells_app (l m : List FileD) : fcells (l ++ m) = fcells l ++ fcells m := by unfold fcells; rw [List.map_append, List.flatten_append]
theorem Arr.ftake {w : World} {B : Nat} {A : Option Addr} {l : List FileD} (h : Arr w B 3 A l.length (fcells l)) {k : Nat} (hk : k ≤ l.length) : Arr w B 3 A k (fcells (l.take k)) := by
  refine ⟨by rw [fcells_len, List.length_take]; congr 1; omega, fun hn => ?_⟩
  obtain ⟨b, o, e, hb, hc⟩ := h.2 (by omega)
  refine ⟨b, o, e, hb, fun i u hu => hc i u ?_⟩
  have e2 : fcells l = fcells (l.take k) ++ fcells (l.drop k) := by rw [← fcells_app, List.take_append_drop]
  rw [e2]
  exact (List.getElem?_append_left (by
    rcases Nat.lt_or_ge i (fcells (l.take k)).length with h | h
    · exact h
    · rw [List.getElem?_eq_none h] at hu; cases hu)).trans hu
end Go.Proofs.YtmcgaaihdjpdgaaGreatDoor
