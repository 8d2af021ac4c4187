/- A slice of structs of numbers and texts that came in. -/
import Derived.Test.YtmcgaaihdjpdgaaGreatDoorLift
import Derived.Deep.Slices
set_option linter.unusedVariables false
namespace Go.Proofs.YtmcgaaihdjpdgaaGreatDoor
open Go.RowKit Go.WideShapes Go.ChangeShapes Go.ChangeAt Go.Deep

/-- What a field may be: true: a text; false: a number. -/
def Fits (k : Bool) (v : Value) : Prop := if k then ∃ s : ByteArray, v = .string s ∧ s.size ≤ 9223372036854775807 else ∃ n : Int, v = .int .i64 n ∧ -9223372036854775808 ≤ n ∧ n ≤ 9223372036854775807
def RecFits (ks : List Bool) (r : List Value) : Prop := r.length = ks.length ∧ ∀ (j : Nat) (k : Bool), ks[j]? = some k → ∃ v : Value, r[j]? = some v ∧ Fits k v
section
variable {H : Type} {enc : TypeId × Value → H} {P : Program}
/-- A struct's fields, one cell each, in order. -/
def RecType (P : Program) (e : TypeId) (ks : List Bool) : Prop :=
  ∃ fs : Array Field, P.underlying e = some (.struct fs) ∧ P.cellsOf e = ks.length ∧ fs.size = ks.length ∧
    ∀ (j : Nat) (k : Bool), ks[j]? = some k → ∃ f : Field, fs[j]? = some f ∧ f.offset = j ∧ P.cellsOf f.type = 1 ∧ P.underlying f.type = some (if k then .string else .int .i64)

theorem take_one {l : List Value} {j : Nat} (h : j < l.length) : (l.drop j).take 1 = [l[j]] := by
  rw [List.drop_eq_getElem_cons h]
  rfl

theorem flat_at {c : Nat} : ∀ (l : List (List Value)) (i j : Nat) (r : List Value), (∀ r ∈ l, r.length = c) → l[i]? = some r → j < c → l.flatten[i * c + j]? = r[j]?
  | [], i, j, r, _, h, _ => by simp at h
  | x :: l, 0, j, r, hl, h, hj => by
    simp at h
    subst h
    have := hl x (by simp)
    rw [List.flatten_cons, List.getElem?_append_left (by omega)]
    simp
  | x :: l, i + 1, j, r, hl, h, hj => by
    have hx := hl x (by simp)
    simp only [List.getElem?_cons_succ] at h
    have hm : (i + 1) * c = i * c + c := by rw [Nat.add_mul, Nat.one_mul]
    rw [List.flatten_cons, List.getElem?_append_right (by omega), show (i + 1) * c + j - x.length = i * c + j by omega]
    exact flat_at l i j r (fun y hy => hl y (by simp [hy])) h hj
theorem flat_len_eq {c : Nat} : ∀ (l : List (List Value)), (∀ r ∈ l, r.length = c) → l.flatten.length = l.length * c
  | [], _ => by simp
  | x :: l, hl => by
    rw [List.flatten_cons, List.length_append, flat_len_eq l (fun y hy => hl y (by simp [hy])), hl x (by simp), List.length_cons, Nat.add_mul]
    omega

theorem arr_of_recs {w : World} {a : Addr} {c : Nat} (hc : 0 < c) {l : List (List Value)} (hl : ∀ r ∈ l, r.length = c) (h : ∀ (i j : Nat) (r : List Value) (u : Value), l[i]? = some r → r[j]? = some u → w.cell? (a.add (i * c + j)) = some u) : Arr w w.heap.size c (some a) l.length l.flatten := by
  have hlen := flat_len_eq l hl
  have hall : ∀ (i : Nat) (u : Value), l.flatten[i]? = some u → w.cell? (a.add i) = some u := by
    intro i u hu
    have hi : i < l.length * c := by
      rcases Nat.lt_or_ge i (l.length * c) with h | h
      · exact h
      · rw [List.getElem?_eq_none (by omega)] at hu; cases hu
    have hq : i / c < l.length := Nat.div_lt_of_lt_mul (by rw [Nat.mul_comm]; exact hi)
    have hr : i % c < c := Nat.mod_lt _ hc
    have he : i / c * c + i % c = i := by rw [Nat.mul_comm]; exact Nat.div_add_mod i c
    have hx : l[i / c]? = some l[i / c] := List.getElem?_eq_getElem hq
    have hf := flat_at l (i / c) (i % c) _ hl hx hr
    rw [he, hu] at hf
    have := h _ _ _ _ hx hf.symm
    rwa [he] at this
  refine ⟨hlen, fun hn => ?_⟩
  have hpos : 0 < l.flatten.length := by rw [hlen]; exact Nat.mul_pos hn hc
  have h0 : w.cell? a = some l.flatten[0] := by
    have := hall 0 _ (List.getElem?_eq_getElem hpos)
    have e : a.add 0 = a := by unfold Addr.add; simp
    rwa [e] at this
  have hs := spot_of_cell h0
  refine ⟨a.block, a.off, ?_, lt_of_cell h0, fun i u hu => ?_⟩
  · obtain ⟨b, o, s⟩ := a
    simp only at hs
    subst hs
    rfl
  · rw [← add_none hs]
    exact hall i u hu

theorem open_recs {r : Reach} {b0 : Nat} {t e : TypeId} {W : World} {v : Value} {d : DataW H} {ps : List MemPlace} (ks : List Bool) (hks : 0 < ks.length) (ht : P.underlying t = some (.slice e)) (he : RecType P e ks)
    (hval : Value.okWide P W r b0 t v) (h : DataW.Trod enc P W 0 (fun _ => true) true t v d ps) :
    ∃ (A : Option Addr) (c : Nat) (l : List (List Value)), v = .slice A l.length c ∧ l.length ≤ c ∧ (∀ x ∈ l, RecFits ks x) ∧ Arr W W.heap.size ks.length A l.length l.flatten ∧ (l = [] ∨ ∃ es sp, d = .slice es sp ∧ es.length = l.length) := by
  obtain ⟨fs, hu, hce, hfs, hf⟩ := he
  obtain ⟨a0, len, cap, rfl⟩ := okWide_slice ht hval
  obtain ⟨fuel, hfu⟩ := h
  rcases open_slice ht hfu with ⟨hcs, hx⟩ | ⟨a, len', cap', m, n, D, Pl, hcs, _, hl, hm, hmm, hx, hcell⟩
  · simp [Value.cells] at hcs
    obtain ⟨rfl, rfl, rfl⟩ := hcs
    exact ⟨none, 0, [], rfl, Nat.le_refl _, by simp, Arr.nil _ _ _ _, .inl rfl⟩
  · simp [Value.cells] at hcs
    obtain ⟨rfl, rfl, rfl⟩ := hcs
    simp only [if_true] at hmm
    subst hmm
    have each : ∀ i, i < m → ∃ q : List Value, RecFits ks q ∧ ∀ (j : Nat) (u : Value), q[j]? = some u → W.cell? (a.add (i * ks.length + j)) = some u := by
      intro i hi
      obtain ⟨cs', h1, h2⟩ := hcell i hi
      rw [hce] at h1
      obtain ⟨_, hlen, hc⟩ := World.cells?_some h1
      obtain ⟨xs, k, hk, hxy, _, hxl, hff⟩ := DataW.trod_struct hu h2
      refine ⟨cs', ⟨hlen, fun j k hj => ?_⟩, fun j u hu => ?_⟩
      · obtain ⟨f, hfj, ho, hcf, huf⟩ := hf j k hj
        have hjl : j < ks.length := by
          rcases Nat.lt_or_ge j ks.length with h | h
          · exact h
          · rw [List.getElem?_eq_none h] at hj; cases hj
        have hg := hff j f hfj
        rw [ho, hcf, take_one (by omega), List.getElem?_eq_getElem (by omega)] at hg
        refine ⟨cs'[j], List.getElem?_eq_getElem (by omega), ?_⟩
        unfold Fits
        cases k with
        | true =>
          obtain ⟨s, hs, _, hsz⟩ := DataW.trod_string (by simpa using huf) hg
          simp only [if_true]
          exact ⟨s, by simpa using hs, by unfold maxLen at hsz; exact hsz⟩
        | false =>
          obtain ⟨z, hz, _, hw⟩ := DataW.trod_int (k := .i64) (by simpa using huf) hg
          exact ⟨z, by simpa using hz, int_bounds hw⟩
      · have hjl : j < ks.length := by
          rcases Nat.lt_or_ge j cs'.length with h | h
          · omega
          · rw [List.getElem?_eq_none h] at hu; cases hu
        have := hc j hjl
        rw [add_add, hu] at this
        exact this
    obtain ⟨q, hq⟩ := choose_lt each
    have hlen : ((List.range len).map q).length = len := by simp
    refine ⟨some a, m, (List.range len).map q, by rw [hlen], by rw [hlen]; exact hl, ?_, ?_, .inr ⟨(List.range len).map D, _, by injection hx, by simp⟩⟩
    · intro x hx
      obtain ⟨i, hi, rfl⟩ := List.mem_map.1 hx
      exact (hq i (by have := List.mem_range.1 hi; omega)).1
    · refine arr_of_recs hks ?_ ?_
      · intro x hx
        obtain ⟨i, hi, rfl⟩ := List.mem_map.1 hx
        exact (hq i (by have := List.mem_range.1 hi; omega)).1.1
      · intro i j x u hx hu
        have hi : i < len := by
          rcases Nat.lt_or_ge i len with h | h
          · exact h
          · rw [List.getElem?_eq_none (by simp; exact h)] at hx; cases hx
        rw [List.getElem?_map, List.getElem?_range hi] at hx
        simp only [Option.map_some, Option.some.injEq] at hx
        subst hx
        exact (hq i (by omega)).2 j u hu
end
end Go.Proofs.YtmcgaaihdjpdgaaGreatDoor
