/- Chapter 22: calls and events that came in.; Chapter 22: a short history.; Chapter 22: calls that came in; openers. -/
import Derived.Test.YtakdngcgjahafaaDoorSpF
import Derived.Test.YtakdngcgjahafaaDoorLiftFiles
/- Chapter 22: calls and events that came in. -/
set_option linter.unusedVariables false
namespace Go.Proofs.YtakdngcgjahafaaDoor
open Go.RowKit Go.WideShapes Go.ChangeShapes Go.ChangeAt Go.Deep

section
variable {H : Type} {enc : TypeId × Value → H}
theorem recs_of {P : Program} {t e : TypeId} {W : World} {fuel : Nat} {cs : List Value} {x : DataW H × List MemPlace} (ks : List Bool) (hks : 0 < ks.length) (ht : P.underlying t = some (.slice e)) (he : RecType P e ks)
    (hfu : DataW.trod enc P W 0 (fun _ => true) true fuel t cs = some x) :
    ∃ (A : Option Addr) (c : Nat) (l : List (List Value)), cs = [.slice A l.length c] ∧ l.length ≤ maxLen ∧ (∀ x ∈ l, RecFits ks x) ∧ Arr W W.heap.size ks.length A l.length l.flatten := by
  obtain ⟨fs, hu, hce, hfs, hf⟩ := he
  rcases open_slice ht hfu with ⟨hcs, hx⟩ | ⟨a, len', cap', m, n, D, Pl, hcs, _, hl, hm, hmm, hx, hcell⟩
  · exact ⟨none, 0, [], hcs, Nat.zero_le _, by simp, Arr.nil _ _ _ _⟩
  · simp only [if_true] at hmm
    subst hmm
    have each : ∀ i, i < m → ∃ q : List Value, RecFits ks q ∧ ∀ (j : Nat) (u : Value), q[j]? = some u → W.cell? (a.add (i * ks.length + j)) = some u := by
      intro i hi
      obtain ⟨cs', h1, h2⟩ := hcell i hi
      rw [hce] at h1
      obtain ⟨_, hlen, hc⟩ := World.cells?_some h1
      obtain ⟨xs, k, hk, hxy, _, hxl, hff⟩ := DataW.trod_struct hu h2
      refine ⟨cs', ⟨hlen, fun j k hj => ?_⟩, fun j u hu => ?_⟩
      · obtain ⟨f, hfj, ho, hcf, huf⟩ := hf j k hj
        have hjl : j < ks.length := by
          rcases Nat.lt_or_ge j ks.length with h | h
          · exact h
          · rw [List.getElem?_eq_none h] at hj; cases hj
        have hg := hff j f hfj
        rw [ho, hcf, take_one (by omega), List.getElem?_eq_getElem (by omega)] at hg
        refine ⟨cs'[j], List.getElem?_eq_getElem (by omega), ?_⟩
        unfold Fits
        cases k with
        | true =>
          obtain ⟨s, hs, _, hsz⟩ := DataW.trod_string (by simpa using huf) hg
          simp only [if_true]
          exact ⟨s, by simpa using hs, by unfold maxLen at hsz; exact hsz⟩
        | false =>
          obtain ⟨z, hz, _, hw⟩ := DataW.trod_int (k := .i64) (by simpa using huf) hg
          exact ⟨z, by simpa using hz, int_bounds hw⟩
      · have hjl : j < ks.length := by
          rcases Nat.lt_or_ge j cs'.length with h | h
          · omega
          · rw [List.getElem?_eq_none h] at hu; cases hu
        have := hc j hjl
        rw [add_add, hu] at this
        exact this
    obtain ⟨q, hq⟩ := choose_lt each
    have hlen : ((List.range len').map q).length = len' := by simp
    refine ⟨some a, m, (List.range len').map q, by rw [hlen]; exact hcs, by rw [hlen]; exact Nat.le_trans hl hm, ?_, ?_⟩
    · intro x hx
      obtain ⟨i, hi, rfl⟩ := List.mem_map.1 hx
      exact (hq i (by have := List.mem_range.1 hi; omega)).1
    · refine arr_of_recs hks ?_ ?_
      · intro x hx
        obtain ⟨i, hi, rfl⟩ := List.mem_map.1 hx
        exact (hq i (by have := List.mem_range.1 hi; omega)).1.1
      · intro i j x u hx hu
        have hi : i < len' := by
          rcases Nat.lt_or_ge i len' with h | h
          · exact h
          · rw [List.getElem?_eq_none (by simp; exact h)] at hx; cases hx
        rw [List.getElem?_map, List.getElem?_range hi] at hx
        simp only [Option.map_some, Option.some.injEq] at hx
        subst hx
        exact (hq i (by omega)).2 j u hu
instance : Inhabited EvD := ⟨⟨0, 0, 0, 0, none, 0, [], 0, 0, 0, none, 0, [], none, 0, 0⟩⟩
/-- Files that lie in what came in. -/
def FilesIn (W : World) (A : Option Addr) (l : List FileD) : Prop := l.length ≤ 9223372036854775807 ∧ (∀ f ∈ l, FFit f) ∧ Arr W W.heap.size 3 A l.length (fcells l)
theorem files_of {W : World} {fuel : Nat} {cs : List Value} {x : DataW H × List MemPlace} (hfu : DataW.trod enc Tryd.prog W 0 (fun _ => true) true fuel 28 cs = some x) :
    ∃ (A : Option Addr) (c : Nat) (l : List FileD), cs = [.slice A l.length c] ∧ FilesIn W A l := by
  obtain ⟨A, c, l, h1, h2, h3, h4⟩ := recs_of [true, false, true] (by decide) Tryd.underlying28 file_type hfu
  obtain ⟨l', e1, e2, e3⟩ := recs_file l h3
  rw [← e1] at h1 h2
  rw [← e1, e2] at h4
  exact ⟨A, c, l', h1, by unfold maxLen at h2; exact h2, e3, h4⟩
theorem strs_of {W : World} {fuel : Nat} {cs : List Value} {x : DataW H × List MemPlace} (hfu : DataW.trod enc Tryd.prog W 0 (fun _ => true) true fuel 23 cs = some x) :
    ∃ (A : Option Addr) (n c : Nat), cs = [.slice A n c] := by
  rcases open_slice Tryd.underlying23 hfu with ⟨hcs, hx⟩ | ⟨a, len', cap', m, n, D, Pl, hcs, _⟩
  · exact ⟨none, 0, 0, hcs⟩
  · exact ⟨_, _, _, hcs⟩
def Fit64 (n : Int) : Prop := -9223372036854775808 ≤ n ∧ n ≤ 9223372036854775807
theorem c_int : Tryd.prog.cellsOf 3 = 1 := by kernel_rfl
theorem c_err : Tryd.prog.cellsOf 32 = 1 := by kernel_rfl
theorem c_files : Tryd.prog.cellsOf 28 = 1 := by kernel_rfl
theorem c_strs : Tryd.prog.cellsOf 23 = 1 := by kernel_rfl
theorem c_call : Tryd.prog.cellsOf 30 = 3 := by kernel_rfl
theorem c_ans : Tryd.prog.cellsOf 34 = 5 := by kernel_rfl
theorem c_ev : Tryd.prog.cellsOf 54 = 10 := by kernel_rfl
theorem one_int {W : World} {fuel : Nat} {v : Value} {x : DataW H × List MemPlace} {t : TypeId} (ht : Tryd.prog.underlying t = some (.int .i64)) (h : DataW.trod enc Tryd.prog W 0 (fun _ => true) true fuel t [v] = some x) : ∃ z : Int, v = .int .i64 z ∧ Fit64 z := by
  obtain ⟨z, hz, _, hw⟩ := DataW.trod_int (k := .i64) ht h
  exact ⟨z, by simpa using hz, int_bounds hw⟩
theorem one_files {W : World} {fuel : Nat} {v : Value} {x : DataW H × List MemPlace} (h : DataW.trod enc Tryd.prog W 0 (fun _ => true) true fuel 28 [v] = some x) : ∃ (A : Option Addr) (c : Nat) (l : List FileD), v = .slice A l.length c ∧ FilesIn W A l := by
  obtain ⟨A, c, l, h1, h2⟩ := files_of h
  exact ⟨A, c, l, by simpa using h1, h2⟩
theorem xs_at {α : Type} {xs : List α} {n i : Nat} (h : xs.length = n) (hi : i < n) : ∃ x, xs[i]? = some x := ⟨_, List.getElem?_eq_getElem (by omega)⟩
set_option maxRecDepth 100000 in
theorem call_of {W : World} {fuel : Nat} {cs : List Value} {x : DataW H × List MemPlace} (h : DataW.trod enc Tryd.prog W 0 (fun _ => true) true fuel 30 cs = some x) :
    ∃ (kind gen : Int) (A : Option Addr) (c : Nat) (l : List FileD), cs = [.int .i64 kind, .int .i64 gen, .slice A l.length c] ∧ FilesIn W A l ∧ Fit64 kind ∧ Fit64 gen := by
  obtain ⟨xs, n, rfl, _, hlen, hxl, hff⟩ := DataW.trod_struct Tryd.underlying30 h
  rw [c_call] at hlen
  have hxl3 : xs.length = 3 := hxl
  match cs, hlen with
  | [a, b, c], _ =>
    obtain ⟨x0, e0⟩ := xs_at hxl3 (i := 0) (by omega)
    obtain ⟨x1, e1⟩ := xs_at hxl3 (i := 1) (by omega)
    obtain ⟨x2, e2⟩ := xs_at hxl3 (i := 2) (by omega)
    have h0 := hff 0 _ rfl
    have h1 := hff 1 _ rfl
    have h2 := hff 2 _ rfl
    rw [e0] at h0
    rw [e1] at h1
    rw [e2] at h2
    change DataW.trod enc Tryd.prog W 0 _ true n 3 (([a, b, c].drop 0).take (Tryd.prog.cellsOf 3)) = _ at h0
    change DataW.trod enc Tryd.prog W 0 _ true n 3 (([a, b, c].drop 1).take (Tryd.prog.cellsOf 3)) = _ at h1
    change DataW.trod enc Tryd.prog W 0 _ true n 28 (([a, b, c].drop 2).take (Tryd.prog.cellsOf 28)) = _ at h2
    rw [c_int] at h0 h1
    rw [c_files] at h2
    obtain ⟨z0, rfl, w0⟩ := one_int Tryd.underlying3 h0
    obtain ⟨z1, rfl, w1⟩ := one_int Tryd.underlying3 h1
    obtain ⟨A, c', l, rfl, w2⟩ := one_files h2
    exact ⟨z0, z1, A, c', l, rfl, w2, w0, w1⟩
set_option maxRecDepth 100000 in
theorem ans_of {W : World} {fuel : Nat} {cs : List Value} {x : DataW H × List MemPlace} (h : DataW.trod enc Tryd.prog W 0 (fun _ => true) true fuel 34 cs = some x) :
    ∃ (err gen fl : Int) (A : Option Addr) (c : Nat) (l : List FileD) (M : Option Addr) (mn mc : Nat), cs = [.int .i64 err, .int .i64 gen, .int .i64 fl, .slice A l.length c, .slice M mn mc] ∧ FilesIn W A l ∧ Fit64 err ∧ Fit64 gen ∧ Fit64 fl := by
  obtain ⟨xs, n, rfl, _, hlen, hxl, hff⟩ := DataW.trod_struct Tryd.underlying34 h
  rw [c_ans] at hlen
  have hxl5 : xs.length = 5 := hxl
  match cs, hlen with
  | [a, b, c, d, f], _ =>
    obtain ⟨x0, e0⟩ := xs_at hxl5 (i := 0) (by omega)
    obtain ⟨x1, e1⟩ := xs_at hxl5 (i := 1) (by omega)
    obtain ⟨x2, e2⟩ := xs_at hxl5 (i := 2) (by omega)
    obtain ⟨x3, e3⟩ := xs_at hxl5 (i := 3) (by omega)
    obtain ⟨x4, e4⟩ := xs_at hxl5 (i := 4) (by omega)
    have h0 := hff 0 _ rfl
    have h1 := hff 1 _ rfl
    have h2 := hff 2 _ rfl
    have h3 := hff 3 _ rfl
    have h4 := hff 4 _ rfl
    rw [e0] at h0
    rw [e1] at h1
    rw [e2] at h2
    rw [e3] at h3
    rw [e4] at h4
    change DataW.trod enc Tryd.prog W 0 _ true n 32 (([a, b, c, d, f].drop 0).take (Tryd.prog.cellsOf 32)) = _ at h0
    change DataW.trod enc Tryd.prog W 0 _ true n 3 (([a, b, c, d, f].drop 1).take (Tryd.prog.cellsOf 3)) = _ at h1
    change DataW.trod enc Tryd.prog W 0 _ true n 3 (([a, b, c, d, f].drop 2).take (Tryd.prog.cellsOf 3)) = _ at h2
    change DataW.trod enc Tryd.prog W 0 _ true n 28 (([a, b, c, d, f].drop 3).take (Tryd.prog.cellsOf 28)) = _ at h3
    change DataW.trod enc Tryd.prog W 0 _ true n 23 (([a, b, c, d, f].drop 4).take (Tryd.prog.cellsOf 23)) = _ at h4
    rw [c_err] at h0
    rw [c_int] at h1 h2
    rw [c_files] at h3
    rw [c_strs] at h4
    obtain ⟨z0, rfl, w0⟩ := one_int Tryd.underlying32 h0
    obtain ⟨z1, rfl, w1⟩ := one_int Tryd.underlying3 h1
    obtain ⟨z2, rfl, w2⟩ := one_int Tryd.underlying3 h2
    obtain ⟨A, c', l, rfl, w3⟩ := one_files h3
    obtain ⟨M, mn, mc, hM⟩ := strs_of h4
    have hM' : f = .slice M mn mc := by simpa using hM
    subst hM'
    exact ⟨z0, z1, z2, A, c', l, M, mn, mc, rfl, w3, w0, w1, w2⟩
set_option maxRecDepth 100000 in
theorem ev_of {W : World} {fuel : Nat} {cs : List Value} {x : DataW H × List MemPlace} (h : DataW.trod enc Tryd.prog W 0 (fun _ => true) true fuel 54 cs = some x) :
    ∃ e : EvD, cs = ecell e ∧ FilesIn W e.fA e.files ∧ FilesIn W e.aA e.afiles ∧ Fit64 e.asked ∧ Fit64 e.told ∧ Fit64 e.kind ∧ Fit64 e.gen ∧ Fit64 e.err ∧ Fit64 e.agen ∧ Fit64 e.floor := by
  obtain ⟨xs, n, rfl, _, hlen, hxl, hff⟩ := DataW.trod_struct Tryd.underlying54 h
  rw [c_ev] at hlen
  have hxl4 : xs.length = 4 := hxl
  match cs, hlen with
  | [a, b, c0, c1, c2, d0, d1, d2, d3, d4], _ =>
    obtain ⟨x0, e0⟩ := xs_at hxl4 (i := 0) (by omega)
    obtain ⟨x1, e1⟩ := xs_at hxl4 (i := 1) (by omega)
    obtain ⟨x2, e2⟩ := xs_at hxl4 (i := 2) (by omega)
    obtain ⟨x3, e3⟩ := xs_at hxl4 (i := 3) (by omega)
    have h0 := hff 0 _ rfl
    have h1 := hff 1 _ rfl
    have h2 := hff 2 _ rfl
    have h3 := hff 3 _ rfl
    rw [e0] at h0
    rw [e1] at h1
    rw [e2] at h2
    rw [e3] at h3
    change DataW.trod enc Tryd.prog W 0 _ true n 3 (([a, b, c0, c1, c2, d0, d1, d2, d3, d4].drop 0).take (Tryd.prog.cellsOf 3)) = _ at h0
    change DataW.trod enc Tryd.prog W 0 _ true n 3 (([a, b, c0, c1, c2, d0, d1, d2, d3, d4].drop 1).take (Tryd.prog.cellsOf 3)) = _ at h1
    change DataW.trod enc Tryd.prog W 0 _ true n 30 (([a, b, c0, c1, c2, d0, d1, d2, d3, d4].drop 2).take (Tryd.prog.cellsOf 30)) = _ at h2
    change DataW.trod enc Tryd.prog W 0 _ true n 34 (([a, b, c0, c1, c2, d0, d1, d2, d3, d4].drop 5).take (Tryd.prog.cellsOf 34)) = _ at h3
    rw [c_int] at h0 h1
    rw [c_call] at h2
    rw [c_ans] at h3
    obtain ⟨z0, rfl, w0⟩ := one_int Tryd.underlying3 h0
    obtain ⟨z1, rfl, w1⟩ := one_int Tryd.underlying3 h1
    obtain ⟨kind, gen, A, c, l, hc, w2, w3, w4⟩ := call_of h2
    obtain ⟨err, agen, fl, B, d, m, M, mn, mc, hd, w5, w6, w7, w8⟩ := ans_of h3
    simp at hc hd
    obtain ⟨rfl, rfl, rfl⟩ := hc
    obtain ⟨rfl, rfl, rfl, rfl, rfl⟩ := hd
    exact ⟨⟨z0, z1, kind, gen, A, c, l, err, agen, fl, B, d, m, M, mn, mc⟩, rfl, w2, w5, w0, w1, w3, w4, w6, w7, w8⟩
/-- A slice of structs of any fields that came in, by a law for one. -/
theorem slice_of {P : Program} {t e : TypeId} {W : World} {v : Value} {d : DataW H} {ps : List MemPlace} {α : Type} [Inhabited α] {r : Reach} {b0 : Nat} {N : Nat} (hN : 0 < N) (hce : P.cellsOf e = N) (cell : α → List Value) (Q : α → Prop) (ht : P.underlying t = some (.slice e))
    (one : ∀ fuel cs x, DataW.trod enc P W 0 (fun _ => true) true fuel e cs = some x → ∃ y : α, cs = cell y ∧ Q y)
    (hval : Value.okWide P W r b0 t v) (h : DataW.Trod enc P W 0 (fun _ => true) true t v d ps) :
    ∃ (A : Option Addr) (c : Nat) (l : List α), v = .slice A l.length c ∧ l.length ≤ c ∧ (∀ y ∈ l, Q y) ∧ Arr W W.heap.size N A l.length (l.map cell).flatten ∧ (l.length = 0 ∨ ∃ es sp, d = .slice es sp ∧ es.length = l.length) := by
  obtain ⟨a0, len, cap, rfl⟩ := okWide_slice ht hval
  obtain ⟨fuel, hfu⟩ := h
  rcases open_slice ht hfu with ⟨hcs, hx⟩ | ⟨a, len', cap', m, n, D, Pl, hcs, _, hl, hm, hmm, hx, hcell⟩
  · simp [Value.cells] at hcs
    obtain ⟨rfl, rfl, rfl⟩ := hcs
    exact ⟨none, 0, [], rfl, Nat.le_refl _, by simp, Arr.nil _ _ _ _, .inl rfl⟩
  · simp [Value.cells] at hcs
    obtain ⟨rfl, rfl, rfl⟩ := hcs
    simp only [if_true] at hmm
    subst hmm
    have each : ∀ i, i < m → ∃ y : α, Q y ∧ (cell y).length = N ∧ ∀ (j : Nat) (u : Value), (cell y)[j]? = some u → W.cell? (a.add (i * N + j)) = some u := by
      intro i hi
      obtain ⟨cs', h1, h2⟩ := hcell i hi
      rw [hce] at h1
      obtain ⟨_, hlen, hc⟩ := World.cells?_some h1
      obtain ⟨y, rfl, hy⟩ := one _ _ _ h2
      refine ⟨y, hy, hlen, fun j u hu => ?_⟩
      have hjl : j < N := by
        rcases Nat.lt_or_ge j (cell y).length with h | h
        · omega
        · rw [List.getElem?_eq_none h] at hu; cases hu
      have := hc j hjl
      rw [add_add, hu] at this
      exact this
    obtain ⟨q, hq⟩ := choose_lt each
    have hlen : ((List.range len).map q).length = len := by simp
    refine ⟨some a, m, (List.range len).map q, by rw [hlen], by rw [hlen]; exact hl, ?_, ?_, .inr ⟨(List.range len).map D, _, by injection hx, by simp⟩⟩
    · intro x hx
      obtain ⟨i, hi, rfl⟩ := List.mem_map.1 hx
      exact (hq i (by have := List.mem_range.1 hi; omega)).1
    · have hr : Arr W W.heap.size N (some a) (((List.range len).map q).map cell).length (((List.range len).map q).map cell).flatten := by
        refine arr_of_recs hN ?_ ?_
        · intro x hx
          obtain ⟨y, hy, rfl⟩ := List.mem_map.1 hx
          obtain ⟨i, hi, rfl⟩ := List.mem_map.1 hy
          exact (hq i (by have := List.mem_range.1 hi; omega)).2.1
        · intro i j x u hx hu
          have hi : i < len := by
            rcases Nat.lt_or_ge i len with h | h
            · exact h
            · rw [List.getElem?_eq_none (by simp; exact h)] at hx; cases hx
          rw [List.getElem?_map, List.getElem?_map, List.getElem?_range hi] at hx
          simp only [Option.map_some, Option.some.injEq] at hx
          subst hx
          exact (hq i (by omega)).2.2 j u hu
      rw [List.length_map] at hr
      exact hr
end
end Go.Proofs.YtakdngcgjahafaaDoor
/- Chapter 22: a short history. -/
namespace Go.Proofs.YtakdngcgjahafaaDoor
open Go.RowKit
set_option linter.unusedVariables false


/-- What an event that came in holds. -/
def EvIn (W : World) (e : EvD) : Prop := FilesIn W e.fA e.files ∧ FilesIn W e.aA e.afiles ∧ Fit64 e.asked ∧ Fit64 e.told ∧ Fit64 e.kind ∧ Fit64 e.gen ∧ Fit64 e.err ∧ Fit64 e.agen ∧ Fit64 e.floor
def EvFit (e : EvD) : Prop := EFit e ∧ (∀ f ∈ e.afiles, FOk f) ∧ Fit64 e.asked ∧ Fit64 e.told ∧ Fit64 e.kind ∧ Fit64 e.gen ∧ Fit64 e.err ∧ Fit64 e.agen ∧ Fit64 e.floor
/-- A history as it grows: rows of the call's own. -/
structure Grow (W : World) (b : Nat) (V : Value) (l : List EvD) : Prop where
  row : W.ownsRow b 54 10 V l.length (ecells l)
  fs : ∀ e ∈ l, W.ownsRow 0 69 3 (.slice e.fA e.files.length e.fC) e.files.length (fcells e.files)
  an : ∀ e ∈ l, W.ownsRow 0 69 3 (.slice e.aA e.afiles.length e.aC) e.afiles.length (fcells e.afiles)
  fit : ∀ e ∈ l, EvFit e
section
variable {W W' : World} {b : Nat} {V V' : Value} {l : List EvD}
theorem Grow.hist (h : Grow W b V l) : Hist W V l := ⟨own_mono h.row (Nat.zero_le _), h.fs, h.an⟩
theorem Grow.below (h : Grow W b V l) (hb : Below W.heap.size W W') : Grow W' b V l := ⟨own_below h.row hb, fun e he => own_below (h.fs e he) hb, fun e he => own_below (h.an e he) hb, h.fit⟩
theorem Grow.setbox {g i : Nat} {t : TypeId} {cs : Array Value} {B : Nat} (h : Grow W b V l) (hb : Blk W g t cs) (h0 : ∀ k, V.ownBlock = some k → k ≠ g) (h2 : 69 ≠ t) (u : Value) : Grow (W.setCell ⟨g, i, none⟩ u) b V l :=
  ⟨own_setbox h.row (fun e => h0 g e rfl), fun e he => own_setbox (h.fs e he) (own_blk_ne (h.fs e he) hb h2), fun e he => own_setbox (h.an e he) (own_blk_ne (h.an e he) hb h2), h.fit⟩
theorem Grow.push {e : EvD} (h : Grow W b V l) (g : W.grownBy W' V.ownBlock) (hr : W'.ownsRow b 54 10 V' (l.length + 1) (ecells l ++ ecell e)) (hf : W.ownsRow 0 69 3 (.slice e.fA e.files.length e.fC) e.files.length (fcells e.files))
    (ha : W.ownsRow 0 69 3 (.slice e.aA e.afiles.length e.aC) e.afiles.length (fcells e.afiles)) (ho : EvFit e) : Grow W' b V' (l ++ [e]) := by
  have he : ecells (l ++ [e]) = ecells l ++ ecell e := by rw [ecells_app]; unfold ecells; simp
  refine ⟨by rw [he, List.length_append]; exact hr, fun x hx => ?_, fun x hx => ?_, fun x hx => ?_⟩
  · rcases List.mem_append.1 hx with hx | hx
    · exact (h.fs x hx).kept g (own_apart (h.fs x hx) h.row (by decide))
    · rw [List.mem_singleton] at hx; subst hx
      exact hf.kept g (own_apart hf h.row (by decide))
  · rcases List.mem_append.1 hx with hx | hx
    · exact (h.an x hx).kept g (own_apart (h.an x hx) h.row (by decide))
    · rw [List.mem_singleton] at hx; subst hx
      exact ha.kept g (own_apart ha h.row (by decide))
  · rcases List.mem_append.1 hx with hx | hx
    · exact h.fit x hx
    · rw [List.mem_singleton] at hx; subst hx
      exact ho
end
theorem FilesIn.on {W W' : World} {A : Option Addr} {l : List FileD} (h : FilesIn W A l) (hb : Below W.heap.size W W') : FilesIn W' A l := ⟨h.1, h.2.1, (h.2.2.below hb).more hb.size⟩
def ShortOut (w : World) (n : Nat) (e : Ending) (w' : World) : Prop := ∃ V l', e = .returned V ∧ Grow w' w.heap.size V l' ∧ l'.length ≤ n ∧ Below w.heap.size w w'
/-- One event, its files cut. -/
def shortE (e : EvD) (A : Option Addr) (c : Nat) (B : Option Addr) (d : Nat) : EvD := ⟨e.asked, e.told, e.kind, e.gen, A, c, few8 e.files, e.err, e.agen, e.floor, B, d, few8 e.afiles, e.mA, e.mN, e.mC⟩
theorem shortE_fit {W : World} {e : EvD} (h : EvIn W e) (A : Option Addr) (c : Nat) (B : Option Addr) (d : Nat) : EvFit (shortE e A c B d) :=
  ⟨⟨few8_ok fun f hf => (h.1.2.1 f hf).1, Nat.le_trans (few8_len _) (by omega), Nat.le_trans (few8_len _) (by omega)⟩, few8_ok fun f hf => (h.2.1.2.1 f hf).1, h.2.2⟩
def ShR (P : Option Addr → Nat → Prop) (w : World) (n : Nat) (m : Nat) (vo v : Value) (wr : World) : Prop := ∃ (k : Nat) (l' : List EvD), k ≤ m ∧ k ≤ n ∧ v = .int .i64 k ∧ l'.length = k ∧ Hid (∀ e ∈ l', P e.mA e.mN) ∧ Hid (Grow wr w.heap.size vo l') ∧ Below w.heap.size w wr
def ShortP (P : Option Addr → Nat → Prop) (w : World) (n : Nat) (e : Ending) (w' : World) : Prop := ∃ V l', e = .returned V ∧ Grow w' w.heap.size V l' ∧ l'.length ≤ n ∧ (∀ e ∈ l', P e.mA e.mN) ∧ Below w.heap.size w w'
set_option maxHeartbeats 4000000 in
set_option maxRecDepth 100000 in
theorem short_anyP (P : Option Addr → Nat → Prop) (A : Option Addr) (c : Nat) (l : List EvD) (n : Nat) (w : World) (hz : l.length ≤ 9223372036854775807) (hn : n ≤ 1000) (ha : Arr w w.heap.size 10 A l.length (ecells l)) (hi : ∀ e ∈ l, EvIn w e) (hP : ∀ e ∈ l, P e.mA e.mN) :
    Calls Tryd.prog 19 #[.slice A l.length c, .int .i64 n] w (ShortP P w n) := by
  obtain ⟨i2, fi0, fz0, fz1, fz2⟩ := info_parts infoEv
  have HA := Lib.hid ha
  have HI := Lib.hid hi
  have HP := Lib.hid hP
  obtain ⟨m, hm⟩ : ∃ m, m = l.length := ⟨_, rfl⟩
  have Hm := Lib.hid hm
  rw [← hm] at HA hz ⊢
  clear ha hi hm hP
  go_enter Tryd.func19, Tryd.ntmps19
  go_wp2
  go_loopw [5, 6] (fun vo v wr => ShR P w n m vo v wr) (fun _ v _ => m - (intOf v).toNat)
  case atStart => exact ⟨0, [], Nat.zero_le _, Nat.zero_le _, rfl, rfl, Lib.hid (by simp), Lib.hid ⟨World.ownsRow_nil _ _ _ _, by simp, by simp, by simp⟩, Below.refl _ _⟩
  case round =>
    obtain ⟨k, l', hk, hkn, rfl, hlk, HPl, HG, hB⟩ := hrel
    by_cases hlt : k < m
    · have kl : (k : Int) < m := by omega
      by_cases hln : k < n
      · have kn : (k : Int) < n := by omega
        obtain ⟨e, he⟩ : ∃ e, l[k]? = some e := ⟨_, List.getElem?_eq_getElem (by have := Hm.out; omega)⟩
        have hie := HI.out e (List.mem_of_getElem? he)
        have HPe := Lib.hid (HP.out e (List.mem_of_getElem? he))
        obtain ⟨b1, o1, rfl, hb1, hcell⟩ := HA.out.2 (by omega)
        obtain ⟨c0, c1, c2', c3', c4, c5, c6, c7, c8, c9⟩ := ev_cells (fun i u h => (hB.cell (p := ⟨b1, o1 + i, none⟩) hb1).trans (hcell i u h)) he
        have hbx : Below wr.heap.size wr (wr.alloc (.cells #[Value.int .i64 e.asked, .int .i64 e.told, .int .i64 e.kind, .int .i64 e.gen, .slice e.fA e.files.length e.fC, .int .i64 e.err, .int .i64 e.agen, .int .i64 e.floor, .slice e.aA e.afiles.length e.aC, .slice e.mA e.mN e.mC] 54)) := (Below.refl _ _).alloc (Nat.le_refl _) _
        have heb := Blk.new wr 54 #[Value.int .i64 e.asked, .int .i64 e.told, .int .i64 e.kind, .int .i64 e.gen, .slice e.fA e.files.length e.fC, .int .i64 e.err, .int .i64 e.agen, .int .i64 e.floor, .slice e.aA e.afiles.length e.aC, .slice e.mA e.mN e.mC]
        obtain ⟨t0, t1, t2, t3, t4, t5, t6, t7, t8, t9⟩ := evx heb
        have HEB := Lib.hid heb
        have FE := Lib.hid (fun X (h : Below wr.heap.size wr X) => few22 e.kind e.gen e.fA e.fC e.files X hie.1.1 (fun f hf => (hie.1.2.1 f hf).1) ((hie.1.on (hB.trans (h.mono hB.size))).2.2))
        have FA := Lib.hid (fun X (h : Below wr.heap.size wr X) => few22 0 0 e.aA e.aC e.afiles X hie.2.1.1 (fun f hf => (hie.2.1.2.1 f hf).1) ((hie.2.1.on (hB.trans (h.mono hB.size))).2.2))
        have HIE := Lib.hid hie
        have Hlk := Lib.hid hlk
        have HB := Lib.hid hB
        clear hcell he heb hie
        unfold CallOut at FE FA
        go_wp2_with (first
          | (go_at_call 13; (with_reducible refine (FE.out _ hbx).mono ?_); rintro x w2 ⟨V2, rfl, hv2, hb2⟩; obtain ⟨A2, c2, rfl, _, _, _⟩ := own_arr hv2; have he2 := HEB.out.below hb2 HEB.out.lt; have z2 := he2.frozen 2; have z3 := he2.frozen 3; have z4 := he2.frozen 4; obtain ⟨p0, p1, p2, p3, p4, p5, p6, p7, p8, p9⟩ := evx he2; have he3 : Blk (((w2.setCell ⟨wr.heap.size, 2, none⟩ (.int .i64 e.kind)).setCell ⟨wr.heap.size, 3, none⟩ (.int .i64 e.gen)).setCell ⟨wr.heap.size, 4, none⟩ (.slice A2 (few8 e.files).length c2)) wr.heap.size 54 #[Value.int .i64 e.asked, .int .i64 e.told, .int .i64 e.kind, .int .i64 e.gen, .slice A2 (few8 e.files).length c2, .int .i64 e.err, .int .i64 e.agen, .int .i64 e.floor, .slice e.aA e.afiles.length e.aC, .slice e.mA e.mN e.mC] := ((he2.set_ 2 (.int .i64 e.kind)).set_ 3 (.int .i64 e.gen)).set_ 4 (.slice A2 (few8 e.files).length c2); obtain ⟨s0, s1, s2, s3, s4, s5, s6, s7, s8, s9⟩ := evx he3; have HE3 := Lib.hid he3; have hw2 := below_on hbx hb2; have HW2 := Lib.hid (((hw2.setCell (p := ⟨wr.heap.size, 2, none⟩) (Nat.le_refl _) (.int .i64 e.kind)).setCell (p := ⟨wr.heap.size, 3, none⟩) (Nat.le_refl _) (.int .i64 e.gen)).setCell (p := ⟨wr.heap.size, 4, none⟩) (Nat.le_refl _) (.slice A2 (few8 e.files).length c2)); have hne2 := own_ne hv2 HEB.out.lt; have HV2 := Lib.hid (own_setbox (i := 4) (u := .slice A2 (few8 e.files).length c2) (own_setbox (i := 3) (u := .int .i64 e.gen) (own_setbox (i := 2) (u := .int .i64 e.kind) hv2 hne2) hne2) hne2); have HN2 := Lib.hid hne2; clear he2 he3 hv2 hne2 hw2 t0 t1 t2 t3 t4 t5 t6 t7 t8 t9 c0 c1 c2' c3' c4 c5 c6 c7 c8 c9)
          | (go_at_call 13; (with_reducible refine (FA.out _ HW2.out).mono ?_); rintro x w3 ⟨V3, rfl, hv3, hb3⟩; obtain ⟨A3, c3, rfl, _, _, _⟩ := own_arr hv3; have he4 := HE3.out.below hb3 HE3.out.lt; have he5 := he4.alloc (.cells #[Value.int .i64 0, .int .i64 0, .slice A3 (few8 e.afiles).length c3] 30); have z8 := he5.frozen 8; have z8' := he4.frozen 8; obtain ⟨q0, q1, q2, q3, q4, q5, q6, q7, q8, q9⟩ := evx he5; have he6 : Blk ((w3.alloc (.cells #[Value.int .i64 0, .int .i64 0, .slice A3 (few8 e.afiles).length c3] 30)).setCell ⟨wr.heap.size, 8, none⟩ (.slice A3 (few8 e.afiles).length c3)) wr.heap.size 54 #[Value.int .i64 e.asked, .int .i64 e.told, .int .i64 e.kind, .int .i64 e.gen, .slice A2 (few8 e.files).length c2, .int .i64 e.err, .int .i64 e.agen, .int .i64 e.floor, .slice A3 (few8 e.afiles).length c3, .slice e.mA e.mN e.mC] := he5.set_ 8 (.slice A3 (few8 e.afiles).length c3); obtain ⟨r0, r1, r2, r3, r4, r5, r6, r7, r8, r9⟩ := evx he6; have hcb := (Blk.new w3 30 #[Value.int .i64 0, .int .i64 0, .slice A3 (few8 e.afiles).length c3]).cell 2; have hb3' := below_on HW2.out hb3; have HB6 := Lib.hid ((hb3'.alloc hb3'.size (.cells #[Value.int .i64 0, .int .i64 0, .slice A3 (few8 e.afiles).length c3] 30)).setCell (p := ⟨wr.heap.size, 8, none⟩) (Nat.le_refl _) (.slice A3 (few8 e.afiles).length c3)); have HV3 := Lib.hid (own_setbox (i := 8) (u := .slice A3 (few8 e.afiles).length c3) (hv3.alloc (.cells #[Value.int .i64 0, .int .i64 0, .slice A3 (few8 e.afiles).length c3] 30)) (own_ne hv3 HE3.out.lt)); have HV6 := Lib.hid (own_setbox (i := 8) (u := .slice A3 (few8 e.afiles).length c3) ((own_below HV2.out hb3).alloc (.cells #[Value.int .i64 0, .int .i64 0, .slice A3 (few8 e.afiles).length c3] 30)) HN2.out); clear he4 he5 he6 hv3 hb3' s0 s1 s2 s3 s4 s5 s6 s7 s8 s9 p0 p1 p2 p3 p4 p5 p6 p7 p8 p9)
          | (at_builtin; (have hg6 := HG.out.below HB6.out); refine wpList_push rfl _ _ _ rfl Tryd.underlying43 fi0 fz0 fz1 fz2 ev_zero (by decide) hg6.row rfl (by rw [World.size_setCell, World.size_alloc]; rfl) rfl (by intro u hu; simp at hu; rcases hu with rfl | rfl | rfl | rfl | rfl | rfl | rfl | rfl | rfl | rfl <;> rfl) (by unfold maxLen; omega) (by omega) (Nat.le_trans HB.out.size HB6.out.size) ?_; intro g7 cap7 w7 hown7 hgr7 hat7; have HG7 := Lib.hid (hg6.push (e := shortE e A2 c2 A3 c3) hgr7 hown7 (own_mono HV6.out (Nat.zero_le _)) (own_mono HV3.out (Nat.zero_le _)) (shortE_fit HIE.out A2 c2 A3 c3)); have hB7 := Lib.hid ((HB.out.trans (HB6.out.mono HB.out.size)).grown hgr7 (Nat.le_trans HB.out.size HB6.out.size) (fun j hj => (hg6.row.lt j hj).1)))
          | (fail))
        go_roundw
        case rel => have h7 := HG7.out; rw [Hlk.out] at h7; unfold ShR; exact ⟨k + 1, l' ++ [shortE e A2 c2 A3 c3], by omega, by omega, by go_num, by rw [List.length_append, Hlk.out]; rfl, Lib.hid (fun y hy => by
          rcases List.mem_append.1 hy with hy | hy
          · exact HPl.out y hy
          · rw [List.mem_singleton] at hy; subst hy; exact HPe.out), Lib.hid h7, hB7.out⟩
        case measure => simp [intOf] <;> omega
      · have kn : ¬ (k : Int) < n := by omega
        go_wp2
        go_ret
        unfold ShortP
        exact ⟨_, l', rfl, HG.out, by omega, HPl.out, hB⟩
    · have kl : ¬ (k : Int) < m := by omega
      go_wp2
      go_ret
      unfold ShortP
      exact ⟨_, l', rfl, HG.out, by omega, HPl.out, hB⟩
theorem short_any (A : Option Addr) (c : Nat) (l : List EvD) (n : Nat) (w : World) (hz : l.length ≤ 9223372036854775807) (hn : n ≤ 1000) (ha : Arr w w.heap.size 10 A l.length (ecells l)) (hi : ∀ e ∈ l, EvIn w e) :
    Calls Tryd.prog 19 #[.slice A l.length c, .int .i64 n] w (ShortOut w n) :=
  (short_anyP (fun _ _ => True) A c l n w hz hn ha hi (fun _ _ => trivial)).mono fun _ _ ⟨V, l', h1, h2, h3, _, h5⟩ => ⟨V, l', h1, h2, h3, h5⟩
end Go.Proofs.YtakdngcgjahafaaDoor
/- Chapter 22: calls that came in; openers. -/
set_option linter.unusedVariables false
namespace Go.Proofs.YtakdngcgjahafaaDoor
open Go.RowKit Go.WideShapes Go.ChangeShapes Go.ChangeAt Go.Deep

structure InC where
  kind : Int
  gen : Int
  fA : Option Addr
  fC : Nat
  files : List FileD
instance : Inhabited InC := ⟨⟨0, 0, none, 0, []⟩⟩
def ccell (e : InC) : List Value := [.int .i64 e.kind, .int .i64 e.gen, .slice e.fA e.files.length e.fC]
def ccells (l : List InC) : List Value := (l.map ccell).flatten
theorem ccell_get {l : List InC} {k : Nat} {e : InC} (h : l[k]? = some e) {j : Nat} (hj : j < 3) : (ccells l)[k * 3 + j]? = (ccell e)[j]? :=
  flat_at (c := 3) _ k j (ccell e) (by intro r hr; obtain ⟨f, _, rfl⟩ := List.mem_map.1 hr; rfl) (by rw [List.getElem?_map, h]; rfl) hj
theorem c_cells {W : World} {b o : Nat} {l : List InC} (hc : ∀ i u, (ccells l)[i]? = some u → W.cell? ⟨b, o + i, none⟩ = some u) {k : Nat} {e : InC} (h : l[k]? = some e) :
    W.cell? ⟨b, o + k * 3, none⟩ = some (.int .i64 e.kind) ∧ W.cell? ⟨b, o + k * 3 + 1, none⟩ = some (.int .i64 e.gen) ∧ W.cell? ⟨b, o + k * 3 + 2, none⟩ = some (.slice e.fA e.files.length e.fC) := by
  have f : ∀ j u, j < 3 → (ccell e)[j]? = some u → W.cell? ⟨b, o + k * 3 + j, none⟩ = some u := fun j u hj hu => by
    have := hc (k * 3 + j) u ((ccell_get h hj).trans hu)
    rwa [← Nat.add_assoc] at this
  exact ⟨f 0 _ (by omega) rfl, f 1 _ (by omega) rfl, f 2 _ (by omega) rfl⟩
def CIn (W : World) (e : InC) : Prop := FilesIn W e.fA e.files ∧ Fit64 e.kind ∧ Fit64 e.gen
section
variable {H : Type} {enc : TypeId × Value → H}
set_option maxRecDepth 100000 in
theorem open_calls {r : Reach} {b0 : Nat} {W : World} {v : Value} {d : DataW H} {ps : List MemPlace}
    (hval : Value.okWide Tryd.prog W r b0 22 v) (h : DataW.Trod enc Tryd.prog W 0 (fun _ => true) true 22 v d ps) :
    ∃ (A : Option Addr) (c : Nat) (l : List InC), v = .slice A l.length c ∧ l.length ≤ c ∧ (∀ x ∈ l, CIn W x) ∧ Arr W W.heap.size 3 A l.length (ccells l) ∧ (l.length = 0 ∨ ∃ es sp, d = .slice es sp ∧ es.length = l.length) :=
  slice_of (N := 3) (by omega) c_call ccell (CIn W) Tryd.underlying22 (fun fuel cs x hx => by
    obtain ⟨kind, gen, A, c, l, e1, e2, e3, e4⟩ := call_of hx
    exact ⟨⟨kind, gen, A, c, l⟩, e1, e2, e3, e4⟩) hval h
set_option maxRecDepth 100000 in
theorem open_events {r : Reach} {b0 : Nat} {W : World} {v : Value} {d : DataW H} {ps : List MemPlace}
    (hval : Value.okWide Tryd.prog W r b0 43 v) (h : DataW.Trod enc Tryd.prog W 0 (fun _ => true) true 43 v d ps) :
    ∃ (A : Option Addr) (c : Nat) (l : List EvD), v = .slice A l.length c ∧ l.length ≤ c ∧ (∀ x ∈ l, EvIn W x) ∧ Arr W W.heap.size 10 A l.length (ecells l) ∧ (l.length = 0 ∨ ∃ es sp, d = .slice es sp ∧ es.length = l.length) :=
  slice_of (N := 10) (by omega) c_ev ecell (EvIn W) Tryd.underlying43 (fun fuel cs x hx => ev_of hx) hval h
end
end Go.Proofs.YtakdngcgjahafaaDoor
