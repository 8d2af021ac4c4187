/- Chapter 11: scripts that came in. -/
import Derived.Test.YtmcgaaihdjpdgaaDoorLiftFiles
import Derived.Test.YtmcgaaihdjpdgaaDoorTreeWB
set_option linter.unusedVariables false
namespace Go.Proofs.YtmcgaaihdjpdgaaDoor
open Go.RowKit Go.WideShapes Go.ChangeShapes Go.ChangeAt Go.Deep

section
variable {H : Type} {enc : TypeId × Value → H}
theorem recs_ofB {P : Program} {t e : TypeId} {W : World} {fuel : Nat} {cs : List Value} {x : DataW H × List MemPlace} (ks : List Bool) (hks : 0 < ks.length) (ht : P.underlying t = some (.slice e)) (he : RecType P e ks)
    (hfu : DataW.trod enc P W 0 (fun _ => true) true fuel t cs = some x) :
    ∃ (A : Option Addr) (c : Nat) (l : List (List Value)), cs = [.slice A l.length c] ∧ l.length ≤ maxLen ∧ (∀ x ∈ l, RecFits ks x) ∧ Arr W W.heap.size ks.length A l.length l.flatten := by
  obtain ⟨fs, hu, hce, hfs, hf⟩ := he
  rcases open_slice ht hfu with ⟨hcs, hx⟩ | ⟨a, len', cap', m, n, D, Pl, hcs, _, hl, hm, hmm, hx, hcell⟩
  · exact ⟨none, 0, [], hcs, Nat.zero_le _, by simp, Arr.nil _ _ _ _⟩
  · simp only [if_true] at hmm
    subst hmm
    have each : ∀ i, i < m → ∃ q : List Value, RecFits ks q ∧ ∀ (j : Nat) (u : Value), q[j]? = some u → W.cell? (a.add (i * ks.length + j)) = some u := by
      intro i hi
      obtain ⟨cs', h1, h2⟩ := hcell i hi
      rw [hce] at h1
      obtain ⟨_, hlen, hc⟩ := World.cells?_some h1
      obtain ⟨xs, k, hk, hxy, _, hxl, hff⟩ := DataW.trod_struct hu h2
      refine ⟨cs', ⟨hlen, fun j k hj => ?_⟩, fun j u hu => ?_⟩
      · obtain ⟨f, hfj, ho, hcf, huf⟩ := hf j k hj
        have hjl : j < ks.length := by
          rcases Nat.lt_or_ge j ks.length with h | h
          · exact h
          · rw [List.getElem?_eq_none h] at hj; cases hj
        have hg := hff j f hfj
        rw [ho, hcf, take_one (by omega), List.getElem?_eq_getElem (by omega)] at hg
        refine ⟨cs'[j], List.getElem?_eq_getElem (by omega), ?_⟩
        unfold Fits
        cases k with
        | true =>
          obtain ⟨s, hs, _, hsz⟩ := DataW.trod_string (by simpa using huf) hg
          simp only [if_true]
          exact ⟨s, by simpa using hs, by unfold maxLen at hsz; exact hsz⟩
        | false =>
          obtain ⟨z, hz, _, hw⟩ := DataW.trod_int (k := .i64) (by simpa using huf) hg
          exact ⟨z, by simpa using hz, int_bounds hw⟩
      · have hjl : j < ks.length := by
          rcases Nat.lt_or_ge j cs'.length with h | h
          · omega
          · rw [List.getElem?_eq_none h] at hu; cases hu
        have := hc j hjl
        rw [add_add, hu] at this
        exact this
    obtain ⟨q, hq⟩ := choose_lt each
    have hlen : ((List.range len').map q).length = len' := by simp
    refine ⟨some a, m, (List.range len').map q, by rw [hlen]; exact hcs, by rw [hlen]; exact Nat.le_trans hl hm, ?_, ?_⟩
    · intro x hx
      obtain ⟨i, hi, rfl⟩ := List.mem_map.1 hx
      exact (hq i (by have := List.mem_range.1 hi; omega)).1
    · refine arr_of_recs hks ?_ ?_
      · intro x hx
        obtain ⟨i, hi, rfl⟩ := List.mem_map.1 hx
        exact (hq i (by have := List.mem_range.1 hi; omega)).1.1
      · intro i j x u hx hu
        have hi : i < len' := by
          rcases Nat.lt_or_ge i len' with h | h
          · exact h
          · rw [List.getElem?_eq_none (by simp; exact h)] at hx; cases hx
        rw [List.getElem?_map, List.getElem?_range hi] at hx
        simp only [Option.map_some, Option.some.injEq] at hx
        subst hx
        exact (hq i (by omega)).2 j u hu
/-- Files that lie in what came in. -/
def FilesInB (W : World) (A : Option Addr) (l : List FileD) : Prop := l.length ≤ 9223372036854775807 ∧ (∀ f ∈ l, FFit f) ∧ Arr W W.heap.size 3 A l.length (fcells l)
theorem files_ofB {W : World} {fuel : Nat} {cs : List Value} {x : DataW H × List MemPlace} (hfu : DataW.trod enc Tryd.prog W 0 (fun _ => true) true fuel 37 cs = some x) :
    ∃ (A : Option Addr) (c : Nat) (l : List FileD), cs = [.slice A l.length c] ∧ FilesInB W A l := by
  obtain ⟨A, c, l, h1, h2, h3, h4⟩ := recs_ofB [true, false, true] (by decide) Tryd.underlying37 file_type hfu
  obtain ⟨l', e1, e2, e3⟩ := recs_file l h3
  rw [← e1] at h1 h2
  rw [← e1, e2] at h4
  exact ⟨A, c, l', h1, by unfold maxLen at h2; exact h2, e3, h4⟩
def Fit64B (n : Int) : Prop := -9223372036854775808 ≤ n ∧ n ≤ 9223372036854775807
theorem c_intB : Tryd.prog.cellsOf 3 = 1 := by kernel_rfl
theorem c_filesB : Tryd.prog.cellsOf 37 = 1 := by kernel_rfl
theorem c_text : Tryd.prog.cellsOf 9 = 1 := by kernel_rfl
theorem c_bop : Tryd.prog.cellsOf 49 = 4 := by kernel_rfl
theorem one_intB {W : World} {fuel : Nat} {v : Value} {x : DataW H × List MemPlace} {t : TypeId} (ht : Tryd.prog.underlying t = some (.int .i64)) (h : DataW.trod enc Tryd.prog W 0 (fun _ => true) true fuel t [v] = some x) : ∃ z : Int, v = .int .i64 z ∧ Fit64B z := by
  obtain ⟨z, hz, _, hw⟩ := DataW.trod_int (k := .i64) ht h
  exact ⟨z, by simpa using hz, int_bounds hw⟩
theorem one_filesB {W : World} {fuel : Nat} {v : Value} {x : DataW H × List MemPlace} (h : DataW.trod enc Tryd.prog W 0 (fun _ => true) true fuel 37 [v] = some x) : ∃ (A : Option Addr) (c : Nat) (l : List FileD), v = .slice A l.length c ∧ FilesInB W A l := by
  obtain ⟨A, c, l, h1, h2⟩ := files_ofB h
  exact ⟨A, c, l, by simpa using h1, h2⟩
theorem xs_atB {α : Type} {xs : List α} {n i : Nat} (h : xs.length = n) (hi : i < n) : ∃ x, xs[i]? = some x := ⟨_, List.getElem?_eq_getElem (by omega)⟩
theorem one_text {W : World} {fuel : Nat} {v : Value} {x : DataW H × List MemPlace} (h : DataW.trod enc Tryd.prog W 0 (fun _ => true) true fuel 9 [v] = some x) : ∃ z : ByteArray, v = .string z ∧ z.size ≤ 9223372036854775807 := by
  obtain ⟨s, hs, _, hsz⟩ := DataW.trod_string Tryd.underlying9 h
  exact ⟨s, by simpa using hs, by unfold maxLen at hsz; exact hsz⟩
structure InOp where
  kind : Int
  n : Int
  text : ByteArray
  fA : Option Addr
  fC : Nat
  files : List FileD
instance : Inhabited InOp := ⟨⟨0, 0, ⟨#[]⟩, none, 0, []⟩⟩
def opcell (e : InOp) : List Value := [.int .i64 e.kind, .int .i64 e.n, .string e.text, .slice e.fA e.files.length e.fC]
def opcells (l : List InOp) : List Value := (l.map opcell).flatten
theorem opcell_get {l : List InOp} {k : Nat} {e : InOp} (h : l[k]? = some e) {j : Nat} (hj : j < 4) : (opcells l)[k * 4 + j]? = (opcell e)[j]? :=
  flat_at (c := 4) _ k j (opcell e) (by intro r hr; obtain ⟨f, _, rfl⟩ := List.mem_map.1 hr; rfl) (by rw [List.getElem?_map, h]; rfl) hj
theorem op_cells {W : World} {b o : Nat} {l : List InOp} (hc : ∀ i u, (opcells l)[i]? = some u → W.cell? ⟨b, o + i, none⟩ = some u) {k : Nat} {e : InOp} (h : l[k]? = some e) :
    W.cell? ⟨b, o + k * 4, none⟩ = some (.int .i64 e.kind) ∧ W.cell? ⟨b, o + k * 4 + 1, none⟩ = some (.int .i64 e.n) ∧ W.cell? ⟨b, o + k * 4 + 2, none⟩ = some (.string e.text) ∧ W.cell? ⟨b, o + k * 4 + 3, none⟩ = some (.slice e.fA e.files.length e.fC) := by
  have f : ∀ j u, j < 4 → (opcell e)[j]? = some u → W.cell? ⟨b, o + k * 4 + j, none⟩ = some u := fun j u hj hu => by
    have := hc (k * 4 + j) u ((opcell_get h hj).trans hu)
    rwa [← Nat.add_assoc] at this
  exact ⟨f 0 _ (by omega) rfl, f 1 _ (by omega) rfl, f 2 _ (by omega) rfl, f 3 _ (by omega) rfl⟩
def OpIn (W : World) (e : InOp) : Prop := FilesInB W e.fA e.files ∧ Fit64B e.kind ∧ Fit64B e.n ∧ e.text.size ≤ 9223372036854775807
theorem FilesInB.on {W W' : World} {A : Option Addr} {l : List FileD} (h : FilesInB W A l) (hb : Below W.heap.size W W') : FilesInB W' A l := ⟨h.1, h.2.1, (h.2.2.below hb).more hb.size⟩
set_option maxRecDepth 100000 in
theorem bop_of {W : World} {fuel : Nat} {cs : List Value} {x : DataW H × List MemPlace} (h : DataW.trod enc Tryd.prog W 0 (fun _ => true) true fuel 49 cs = some x) : ∃ e : InOp, cs = opcell e ∧ OpIn W e := by
  obtain ⟨xs, n, rfl, _, hlen, hxl, hff⟩ := DataW.trod_struct Tryd.underlying49 h
  rw [c_bop] at hlen
  have hxl4 : xs.length = 4 := hxl
  match cs, hlen with
  | [a, b, c, d], _ =>
    obtain ⟨x0, e0⟩ := xs_atB hxl4 (i := 0) (by omega)
    obtain ⟨x1, e1⟩ := xs_atB hxl4 (i := 1) (by omega)
    obtain ⟨x2, e2⟩ := xs_atB hxl4 (i := 2) (by omega)
    obtain ⟨x3, e3⟩ := xs_atB hxl4 (i := 3) (by omega)
    have h0 := hff 0 _ rfl
    have h1 := hff 1 _ rfl
    have h2 := hff 2 _ rfl
    have h3 := hff 3 _ rfl
    rw [e0] at h0
    rw [e1] at h1
    rw [e2] at h2
    rw [e3] at h3
    change DataW.trod enc Tryd.prog W 0 _ true n 3 (([a, b, c, d].drop 0).take (Tryd.prog.cellsOf 3)) = _ at h0
    change DataW.trod enc Tryd.prog W 0 _ true n 3 (([a, b, c, d].drop 1).take (Tryd.prog.cellsOf 3)) = _ at h1
    change DataW.trod enc Tryd.prog W 0 _ true n 9 (([a, b, c, d].drop 2).take (Tryd.prog.cellsOf 9)) = _ at h2
    change DataW.trod enc Tryd.prog W 0 _ true n 37 (([a, b, c, d].drop 3).take (Tryd.prog.cellsOf 37)) = _ at h3
    rw [c_intB] at h0 h1
    rw [c_text] at h2
    rw [c_filesB] at h3
    obtain ⟨z0, rfl, w0⟩ := one_intB Tryd.underlying3 h0
    obtain ⟨z1, rfl, w1⟩ := one_intB Tryd.underlying3 h1
    obtain ⟨z2, rfl, w2⟩ := one_text h2
    obtain ⟨A, c', l, rfl, w3⟩ := one_filesB h3
    exact ⟨⟨z0, z1, z2, A, c', l⟩, rfl, w3, w0, w1, w2⟩
/-- A slice of structs of any fields that came in, by a law for one. -/
theorem slice_ofB {P : Program} {t e : TypeId} {W : World} {v : Value} {d : DataW H} {ps : List MemPlace} {α : Type} [Inhabited α] {r : Reach} {b0 : Nat} {N : Nat} (hN : 0 < N) (hce : P.cellsOf e = N) (cell : α → List Value) (Q : α → Prop) (ht : P.underlying t = some (.slice e))
    (one : ∀ fuel cs x, DataW.trod enc P W 0 (fun _ => true) true fuel e cs = some x → ∃ y : α, cs = cell y ∧ Q y)
    (hval : Value.okWide P W r b0 t v) (h : DataW.Trod enc P W 0 (fun _ => true) true t v d ps) :
    ∃ (A : Option Addr) (c : Nat) (l : List α), v = .slice A l.length c ∧ l.length ≤ c ∧ (∀ y ∈ l, Q y) ∧ Arr W W.heap.size N A l.length (l.map cell).flatten ∧ (l.length = 0 ∨ ∃ es sp, d = .slice es sp ∧ es.length = l.length) := by
  obtain ⟨a0, len, cap, rfl⟩ := okWide_slice ht hval
  obtain ⟨fuel, hfu⟩ := h
  rcases open_slice ht hfu with ⟨hcs, hx⟩ | ⟨a, len', cap', m, n, D, Pl, hcs, _, hl, hm, hmm, hx, hcell⟩
  · simp [Value.cells] at hcs
    obtain ⟨rfl, rfl, rfl⟩ := hcs
    exact ⟨none, 0, [], rfl, Nat.le_refl _, by simp, Arr.nil _ _ _ _, .inl rfl⟩
  · simp [Value.cells] at hcs
    obtain ⟨rfl, rfl, rfl⟩ := hcs
    simp only [if_true] at hmm
    subst hmm
    have each : ∀ i, i < m → ∃ y : α, Q y ∧ (cell y).length = N ∧ ∀ (j : Nat) (u : Value), (cell y)[j]? = some u → W.cell? (a.add (i * N + j)) = some u := by
      intro i hi
      obtain ⟨cs', h1, h2⟩ := hcell i hi
      rw [hce] at h1
      obtain ⟨_, hlen, hc⟩ := World.cells?_some h1
      obtain ⟨y, rfl, hy⟩ := one _ _ _ h2
      refine ⟨y, hy, hlen, fun j u hu => ?_⟩
      have hjl : j < N := by
        rcases Nat.lt_or_ge j (cell y).length with h | h
        · omega
        · rw [List.getElem?_eq_none h] at hu; cases hu
      have := hc j hjl
      rw [add_add, hu] at this
      exact this
    obtain ⟨q, hq⟩ := choose_lt each
    have hlen : ((List.range len).map q).length = len := by simp
    refine ⟨some a, m, (List.range len).map q, by rw [hlen], by rw [hlen]; exact hl, ?_, ?_, .inr ⟨(List.range len).map D, _, by injection hx, by simp⟩⟩
    · intro x hx
      obtain ⟨i, hi, rfl⟩ := List.mem_map.1 hx
      exact (hq i (by have := List.mem_range.1 hi; omega)).1
    · have hr : Arr W W.heap.size N (some a) (((List.range len).map q).map cell).length (((List.range len).map q).map cell).flatten := by
        refine arr_of_recs hN ?_ ?_
        · intro x hx
          obtain ⟨y, hy, rfl⟩ := List.mem_map.1 hx
          obtain ⟨i, hi, rfl⟩ := List.mem_map.1 hy
          exact (hq i (by have := List.mem_range.1 hi; omega)).2.1
        · intro i j x u hx hu
          have hi : i < len := by
            rcases Nat.lt_or_ge i len with h | h
            · exact h
            · rw [List.getElem?_eq_none (by simp; exact h)] at hx; cases hx
          rw [List.getElem?_map, List.getElem?_map, List.getElem?_range hi] at hx
          simp only [Option.map_some, Option.some.injEq] at hx
          subst hx
          exact (hq i (by omega)).2.2 j u hu
      rw [List.length_map] at hr
      exact hr
set_option maxRecDepth 100000 in
theorem open_bops {r : Reach} {b0 : Nat} {W : World} {v : Value} {d : DataW H} {ps : List MemPlace}
    (hval : Value.okWide Tryd.prog W r b0 38 v) (h : DataW.Trod enc Tryd.prog W 0 (fun _ => true) true 38 v d ps) :
    ∃ (A : Option Addr) (c : Nat) (l : List InOp), v = .slice A l.length c ∧ l.length ≤ c ∧ (∀ x ∈ l, OpIn W x) ∧ Arr W W.heap.size 4 A l.length (opcells l) ∧ (l.length = 0 ∨ ∃ es sp, d = .slice es sp ∧ es.length = l.length) :=
  slice_ofB (N := 4) (by omega) c_bop opcell (OpIn W) Tryd.underlying38 (fun fuel cs x hx => bop_of hx) hval h
end
end Go.Proofs.YtmcgaaihdjpdgaaDoor
