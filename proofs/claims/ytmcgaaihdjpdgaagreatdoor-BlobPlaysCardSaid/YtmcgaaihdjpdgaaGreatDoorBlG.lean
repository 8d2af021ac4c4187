/- Chapter 11: scripts that came in.; A region that draws its order and ends by operations in one forced order: its head is walked alone, under a condition that the end need not keep.; Chapter 11: BlobEmpties.; Chapter 11: BlobKeeps: the plain model's roots; manifest, free.; Chapter 11: BlobKeeps: the state of the law. -/
import Derived.Test.YtmcgaaihdjpdgaaGreatDoorLiftFiles
import Derived.Test.YtmcgaaihdjpdgaaGreatDoorTreeWB
import Derived.Test.YtmcgaaihdjpdgaaGreatDoorBase
import Derived.Deep.RegionHeld3
import Derived.StillTail
import Derived.Test.YtmcgaaihdjpdgaaGreatDoorBlobT
import Derived.Deep.RegionLaw
/- Chapter 11: scripts that came in. -/
set_option linter.unusedVariables false
namespace Go.Proofs.YtmcgaaihdjpdgaaGreatDoor
open Go.RowKit Go.WideShapes Go.ChangeShapes Go.ChangeAt Go.Deep

section
variable {H : Type} {enc : TypeId × Value → H}
theorem recs_ofB {P : Program} {t e : TypeId} {W : World} {fuel : Nat} {cs : List Value} {x : DataW H × List MemPlace} (ks : List Bool) (hks : 0 < ks.length) (ht : P.underlying t = some (.slice e)) (he : RecType P e ks)
    (hfu : DataW.trod enc P W 0 (fun _ => true) true fuel t cs = some x) :
    ∃ (A : Option Addr) (c : Nat) (l : List (List Value)), cs = [.slice A l.length c] ∧ l.length ≤ maxLen ∧ (∀ x ∈ l, RecFits ks x) ∧ Arr W W.heap.size ks.length A l.length l.flatten := by
  obtain ⟨fs, hu, hce, hfs, hf⟩ := he
  rcases open_slice ht hfu with ⟨hcs, hx⟩ | ⟨a, len', cap', m, n, D, Pl, hcs, _, hl, hm, hmm, hx, hcell⟩
  · exact ⟨none, 0, [], hcs, Nat.zero_le _, by simp, Arr.nil _ _ _ _⟩
  · simp only [if_true] at hmm
    subst hmm
    have each : ∀ i, i < m → ∃ q : List Value, RecFits ks q ∧ ∀ (j : Nat) (u : Value), q[j]? = some u → W.cell? (a.add (i * ks.length + j)) = some u := by
      intro i hi
      obtain ⟨cs', h1, h2⟩ := hcell i hi
      rw [hce] at h1
      obtain ⟨_, hlen, hc⟩ := World.cells?_some h1
      obtain ⟨xs, k, hk, hxy, _, hxl, hff⟩ := DataW.trod_struct hu h2
      refine ⟨cs', ⟨hlen, fun j k hj => ?_⟩, fun j u hu => ?_⟩
      · obtain ⟨f, hfj, ho, hcf, huf⟩ := hf j k hj
        have hjl : j < ks.length := by
          rcases Nat.lt_or_ge j ks.length with h | h
          · exact h
          · rw [List.getElem?_eq_none h] at hj; cases hj
        have hg := hff j f hfj
        rw [ho, hcf, take_one (by omega), List.getElem?_eq_getElem (by omega)] at hg
        refine ⟨cs'[j], List.getElem?_eq_getElem (by omega), ?_⟩
        unfold Fits
        cases k with
        | true =>
          obtain ⟨s, hs, _, hsz⟩ := DataW.trod_string (by simpa using huf) hg
          simp only [if_true]
          exact ⟨s, by simpa using hs, by unfold maxLen at hsz; exact hsz⟩
        | false =>
          obtain ⟨z, hz, _, hw⟩ := DataW.trod_int (k := .i64) (by simpa using huf) hg
          exact ⟨z, by simpa using hz, int_bounds hw⟩
      · have hjl : j < ks.length := by
          rcases Nat.lt_or_ge j cs'.length with h | h
          · omega
          · rw [List.getElem?_eq_none h] at hu; cases hu
        have := hc j hjl
        rw [add_add, hu] at this
        exact this
    obtain ⟨q, hq⟩ := choose_lt each
    have hlen : ((List.range len').map q).length = len' := by simp
    refine ⟨some a, m, (List.range len').map q, by rw [hlen]; exact hcs, by rw [hlen]; exact Nat.le_trans hl hm, ?_, ?_⟩
    · intro x hx
      obtain ⟨i, hi, rfl⟩ := List.mem_map.1 hx
      exact (hq i (by have := List.mem_range.1 hi; omega)).1
    · refine arr_of_recs hks ?_ ?_
      · intro x hx
        obtain ⟨i, hi, rfl⟩ := List.mem_map.1 hx
        exact (hq i (by have := List.mem_range.1 hi; omega)).1.1
      · intro i j x u hx hu
        have hi : i < len' := by
          rcases Nat.lt_or_ge i len' with h | h
          · exact h
          · rw [List.getElem?_eq_none (by simp; exact h)] at hx; cases hx
        rw [List.getElem?_map, List.getElem?_range hi] at hx
        simp only [Option.map_some, Option.some.injEq] at hx
        subst hx
        exact (hq i (by omega)).2 j u hu
/-- Files that lie in what came in. -/
def FilesInB (W : World) (A : Option Addr) (l : List FileD) : Prop := l.length ≤ 9223372036854775807 ∧ (∀ f ∈ l, FFit f) ∧ Arr W W.heap.size 3 A l.length (fcells l)
theorem files_ofB {W : World} {fuel : Nat} {cs : List Value} {x : DataW H × List MemPlace} (hfu : DataW.trod enc Tryz.prog W 0 (fun _ => true) true fuel 26 cs = some x) :
    ∃ (A : Option Addr) (c : Nat) (l : List FileD), cs = [.slice A l.length c] ∧ FilesInB W A l := by
  obtain ⟨A, c, l, h1, h2, h3, h4⟩ := recs_ofB [true, false, true] (by decide) Tryz.underlying26 file_type hfu
  obtain ⟨l', e1, e2, e3⟩ := recs_file l h3
  rw [← e1] at h1 h2
  rw [← e1, e2] at h4
  exact ⟨A, c, l', h1, by unfold maxLen at h2; exact h2, e3, h4⟩
def Fit64B (n : Int) : Prop := -9223372036854775808 ≤ n ∧ n ≤ 9223372036854775807
theorem c_intB : Tryz.prog.cellsOf 3 = 1 := by kernel_rfl
theorem c_filesB : Tryz.prog.cellsOf 26 = 1 := by kernel_rfl
theorem c_text : Tryz.prog.cellsOf 9 = 1 := by kernel_rfl
theorem c_bop : Tryz.prog.cellsOf 28 = 4 := by kernel_rfl
theorem one_intB {W : World} {fuel : Nat} {v : Value} {x : DataW H × List MemPlace} {t : TypeId} (ht : Tryz.prog.underlying t = some (.int .i64)) (h : DataW.trod enc Tryz.prog W 0 (fun _ => true) true fuel t [v] = some x) : ∃ z : Int, v = .int .i64 z ∧ Fit64B z := by
  obtain ⟨z, hz, _, hw⟩ := DataW.trod_int (k := .i64) ht h
  exact ⟨z, by simpa using hz, int_bounds hw⟩
theorem one_filesB {W : World} {fuel : Nat} {v : Value} {x : DataW H × List MemPlace} (h : DataW.trod enc Tryz.prog W 0 (fun _ => true) true fuel 26 [v] = some x) : ∃ (A : Option Addr) (c : Nat) (l : List FileD), v = .slice A l.length c ∧ FilesInB W A l := by
  obtain ⟨A, c, l, h1, h2⟩ := files_ofB h
  exact ⟨A, c, l, by simpa using h1, h2⟩
theorem xs_atB {α : Type} {xs : List α} {n i : Nat} (h : xs.length = n) (hi : i < n) : ∃ x, xs[i]? = some x := ⟨_, List.getElem?_eq_getElem (by omega)⟩
theorem one_text {W : World} {fuel : Nat} {v : Value} {x : DataW H × List MemPlace} (h : DataW.trod enc Tryz.prog W 0 (fun _ => true) true fuel 9 [v] = some x) : ∃ z : ByteArray, v = .string z ∧ z.size ≤ 9223372036854775807 := by
  obtain ⟨s, hs, _, hsz⟩ := DataW.trod_string Tryz.underlying9 h
  exact ⟨s, by simpa using hs, by unfold maxLen at hsz; exact hsz⟩
structure InOp where
  kind : Int
  n : Int
  text : ByteArray
  fA : Option Addr
  fC : Nat
  files : List FileD
instance : Inhabited InOp := ⟨⟨0, 0, ⟨#[]⟩, none, 0, []⟩⟩
def opcell (e : InOp) : List Value := [.int .i64 e.kind, .int .i64 e.n, .string e.text, .slice e.fA e.files.length e.fC]
def opcells (l : List InOp) : List Value := (l.map opcell).flatten
theorem opcell_get {l : List InOp} {k : Nat} {e : InOp} (h : l[k]? = some e) {j : Nat} (hj : j < 4) : (opcells l)[k * 4 + j]? = (opcell e)[j]? :=
  flat_at (c := 4) _ k j (opcell e) (by intro r hr; obtain ⟨f, _, rfl⟩ := List.mem_map.1 hr; rfl) (by rw [List.getElem?_map, h]; rfl) hj
theorem op_cells {W : World} {b o : Nat} {l : List InOp} (hc : ∀ i u, (opcells l)[i]? = some u → W.cell? ⟨b, o + i, none⟩ = some u) {k : Nat} {e : InOp} (h : l[k]? = some e) :
    W.cell? ⟨b, o + k * 4, none⟩ = some (.int .i64 e.kind) ∧ W.cell? ⟨b, o + k * 4 + 1, none⟩ = some (.int .i64 e.n) ∧ W.cell? ⟨b, o + k * 4 + 2, none⟩ = some (.string e.text) ∧ W.cell? ⟨b, o + k * 4 + 3, none⟩ = some (.slice e.fA e.files.length e.fC) := by
  have f : ∀ j u, j < 4 → (opcell e)[j]? = some u → W.cell? ⟨b, o + k * 4 + j, none⟩ = some u := fun j u hj hu => by
    have := hc (k * 4 + j) u ((opcell_get h hj).trans hu)
    rwa [← Nat.add_assoc] at this
  exact ⟨f 0 _ (by omega) rfl, f 1 _ (by omega) rfl, f 2 _ (by omega) rfl, f 3 _ (by omega) rfl⟩
def OpIn (W : World) (e : InOp) : Prop := FilesInB W e.fA e.files ∧ Fit64B e.kind ∧ Fit64B e.n ∧ e.text.size ≤ 9223372036854775807
theorem FilesInB.on {W W' : World} {A : Option Addr} {l : List FileD} (h : FilesInB W A l) (hb : Below W.heap.size W W') : FilesInB W' A l := ⟨h.1, h.2.1, (h.2.2.below hb).more hb.size⟩
set_option maxRecDepth 100000 in
theorem bop_of {W : World} {fuel : Nat} {cs : List Value} {x : DataW H × List MemPlace} (h : DataW.trod enc Tryz.prog W 0 (fun _ => true) true fuel 28 cs = some x) : ∃ e : InOp, cs = opcell e ∧ OpIn W e := by
  obtain ⟨xs, n, rfl, _, hlen, hxl, hff⟩ := DataW.trod_struct Tryz.underlying28 h
  rw [c_bop] at hlen
  have hxl4 : xs.length = 4 := hxl
  match cs, hlen with
  | [a, b, c, d], _ =>
    obtain ⟨x0, e0⟩ := xs_atB hxl4 (i := 0) (by omega)
    obtain ⟨x1, e1⟩ := xs_atB hxl4 (i := 1) (by omega)
    obtain ⟨x2, e2⟩ := xs_atB hxl4 (i := 2) (by omega)
    obtain ⟨x3, e3⟩ := xs_atB hxl4 (i := 3) (by omega)
    have h0 := hff 0 _ rfl
    have h1 := hff 1 _ rfl
    have h2 := hff 2 _ rfl
    have h3 := hff 3 _ rfl
    rw [e0] at h0
    rw [e1] at h1
    rw [e2] at h2
    rw [e3] at h3
    change DataW.trod enc Tryz.prog W 0 _ true n 3 (([a, b, c, d].drop 0).take (Tryz.prog.cellsOf 3)) = _ at h0
    change DataW.trod enc Tryz.prog W 0 _ true n 3 (([a, b, c, d].drop 1).take (Tryz.prog.cellsOf 3)) = _ at h1
    change DataW.trod enc Tryz.prog W 0 _ true n 9 (([a, b, c, d].drop 2).take (Tryz.prog.cellsOf 9)) = _ at h2
    change DataW.trod enc Tryz.prog W 0 _ true n 26 (([a, b, c, d].drop 3).take (Tryz.prog.cellsOf 26)) = _ at h3
    rw [c_intB] at h0 h1
    rw [c_text] at h2
    rw [c_filesB] at h3
    obtain ⟨z0, rfl, w0⟩ := one_intB Tryz.underlying3 h0
    obtain ⟨z1, rfl, w1⟩ := one_intB Tryz.underlying3 h1
    obtain ⟨z2, rfl, w2⟩ := one_text h2
    obtain ⟨A, c', l, rfl, w3⟩ := one_filesB h3
    exact ⟨⟨z0, z1, z2, A, c', l⟩, rfl, w3, w0, w1, w2⟩
/-- A slice of structs of any fields that came in, by a law for one. -/
theorem slice_ofB {P : Program} {t e : TypeId} {W : World} {v : Value} {d : DataW H} {ps : List MemPlace} {α : Type} [Inhabited α] {r : Reach} {b0 : Nat} {N : Nat} (hN : 0 < N) (hce : P.cellsOf e = N) (cell : α → List Value) (Q : α → Prop) (ht : P.underlying t = some (.slice e))
    (one : ∀ fuel cs x, DataW.trod enc P W 0 (fun _ => true) true fuel e cs = some x → ∃ y : α, cs = cell y ∧ Q y)
    (hval : Value.okWide P W r b0 t v) (h : DataW.Trod enc P W 0 (fun _ => true) true t v d ps) :
    ∃ (A : Option Addr) (c : Nat) (l : List α), v = .slice A l.length c ∧ l.length ≤ c ∧ (∀ y ∈ l, Q y) ∧ Arr W W.heap.size N A l.length (l.map cell).flatten ∧ (l.length = 0 ∨ ∃ es sp, d = .slice es sp ∧ es.length = l.length) := by
  obtain ⟨a0, len, cap, rfl⟩ := okWide_slice ht hval
  obtain ⟨fuel, hfu⟩ := h
  rcases open_slice ht hfu with ⟨hcs, hx⟩ | ⟨a, len', cap', m, n, D, Pl, hcs, _, hl, hm, hmm, hx, hcell⟩
  · simp [Value.cells] at hcs
    obtain ⟨rfl, rfl, rfl⟩ := hcs
    exact ⟨none, 0, [], rfl, Nat.le_refl _, by simp, Arr.nil _ _ _ _, .inl rfl⟩
  · simp [Value.cells] at hcs
    obtain ⟨rfl, rfl, rfl⟩ := hcs
    simp only [if_true] at hmm
    subst hmm
    have each : ∀ i, i < m → ∃ y : α, Q y ∧ (cell y).length = N ∧ ∀ (j : Nat) (u : Value), (cell y)[j]? = some u → W.cell? (a.add (i * N + j)) = some u := by
      intro i hi
      obtain ⟨cs', h1, h2⟩ := hcell i hi
      rw [hce] at h1
      obtain ⟨_, hlen, hc⟩ := World.cells?_some h1
      obtain ⟨y, rfl, hy⟩ := one _ _ _ h2
      refine ⟨y, hy, hlen, fun j u hu => ?_⟩
      have hjl : j < N := by
        rcases Nat.lt_or_ge j (cell y).length with h | h
        · omega
        · rw [List.getElem?_eq_none h] at hu; cases hu
      have := hc j hjl
      rw [add_add, hu] at this
      exact this
    obtain ⟨q, hq⟩ := choose_lt each
    have hlen : ((List.range len).map q).length = len := by simp
    refine ⟨some a, m, (List.range len).map q, by rw [hlen], by rw [hlen]; exact hl, ?_, ?_, .inr ⟨(List.range len).map D, _, by injection hx, by simp⟩⟩
    · intro x hx
      obtain ⟨i, hi, rfl⟩ := List.mem_map.1 hx
      exact (hq i (by have := List.mem_range.1 hi; omega)).1
    · have hr : Arr W W.heap.size N (some a) (((List.range len).map q).map cell).length (((List.range len).map q).map cell).flatten := by
        refine arr_of_recs hN ?_ ?_
        · intro x hx
          obtain ⟨y, hy, rfl⟩ := List.mem_map.1 hx
          obtain ⟨i, hi, rfl⟩ := List.mem_map.1 hy
          exact (hq i (by have := List.mem_range.1 hi; omega)).2.1
        · intro i j x u hx hu
          have hi : i < len := by
            rcases Nat.lt_or_ge i len with h | h
            · exact h
            · rw [List.getElem?_eq_none (by simp; exact h)] at hx; cases hx
          rw [List.getElem?_map, List.getElem?_map, List.getElem?_range hi] at hx
          simp only [Option.map_some, Option.some.injEq] at hx
          subst hx
          exact (hq i (by omega)).2.2 j u hu
      rw [List.length_map] at hr
      exact hr
set_option maxRecDepth 100000 in
theorem open_bops {r : Reach} {b0 : Nat} {W : World} {v : Value} {d : DataW H} {ps : List MemPlace}
    (hval : Value.okWide Tryz.prog W r b0 22 v) (h : DataW.Trod enc Tryz.prog W 0 (fun _ => true) true 22 v d ps) :
    ∃ (A : Option Addr) (c : Nat) (l : List InOp), v = .slice A l.length c ∧ l.length ≤ c ∧ (∀ x ∈ l, OpIn W x) ∧ Arr W W.heap.size 4 A l.length (opcells l) ∧ (l.length = 0 ∨ ∃ es sp, d = .slice es sp ∧ es.length = l.length) :=
  slice_ofB (N := 4) (by omega) c_bop opcell (OpIn W) Tryz.underlying22 (fun fuel cs x hx => bop_of hx) hval h
end
end Go.Proofs.YtmcgaaihdjpdgaaGreatDoor
/- A region that draws its order and ends by operations in one forced order: its head is walked alone, under a condition that the end need not keep. -/
namespace Go.Proofs.YtmcgaaihdjpdgaaGreatDoor
open Go.RowKit
set_option linter.unusedVariables false

section
variable {P : Program} {ops : Array Oper} {Q : Exit → Act → World → Prop}
/-- Q, but R at the normal end. -/
def AtEnd (Q : Exit → Act → World → Prop) (R : Act → World → Prop) : Exit → Act → World → Prop
  | .normal, a, w => R a w
  | e, a, w => Q e a w
def headB (ops : Array Oper) (n : Nat) : Bool :=
  (List.range n).all fun i => match ops[i]? with
    | some o => (o.after.all fun e => !Region.binds .any e || decide (e.on < i)) && (match o.guard with | some (j, _) => decide (j < n) | none => true)
    | none => false
def tailB (ops : Array Oper) (n : Nat) : Bool :=
  decide (n < ops.size) && Region.sinkB .any ops n && Region.chainB .any ops n && headB ops n && Region.seqB .any ops (ops.size - n) n (Array.replicate n true ++ Array.replicate (ops.size - n) false)
theorem headB_spec {n i : Nat} (h : headB ops n = true) (hi : i < n) : ∃ o, ops[i]? = some o ∧ (∀ e ∈ o.after, Region.binds .any e = true → e.on < i) ∧ (∀ j b, o.guard = some (j, b) → j < n) := by
  have h1 := List.all_eq_true.1 h i (List.mem_range.2 hi)
  cases ho : ops[i]? with
  | none => rw [ho] at h1; cases h1
  | some o =>
    rw [ho] at h1
    simp only [Bool.and_eq_true] at h1
    refine ⟨o, rfl, fun e he hb => ?_, fun j b hg => ?_⟩
    · have h2 := Array.all_eq_true_iff_forall_mem.1 h1.1 e he
      rw [hb] at h2
      simpa using h2
    · have h2 := h1.2
      rw [hg] at h2
      simpa using h2
theorem upon_more {o : Oper} {a : Act} {w : World} {K K' : Act → World → Prop} {Q' : Exit → Act → World → Prop} (hK : ∀ a w, K' a w → K a w) (hp : ∀ c a w, Q' (.panic c) a w → Q (.panic c) a w) (hl : LetsOut Q' → LetsOut Q)
    (h : o.wp P a w K' Q') : o.wp P a w K Q := by
  unfold Oper.wp at *
  generalize (execOp a.eval o).run P w = r at *
  cases r with
  | ok n w' =>
    cases n <;> simp only [Oper.upon] at h ⊢ <;>
      first
        | exact hK _ _ h
        | exact Calls.mono h (fun e w'' he => by
            cases e with
            | returned v => exact hK _ _ he
            | panicked c => exact hp _ _ _ he
            | outgrown => exact hl he)
        | exact Rows.mono h (fun _ _ he => hK _ _ he)
  | halt x w' =>
    cases x <;> simp only [Oper.upon] at h ⊢
    case panic u => exact hp _ _ _ h
theorem wpOp_more {head : Array Oper} {i : Nat} {a : Act} {w : World} {K K' : Act → World → Prop} {Q' : Exit → Act → World → Prop} {o : Oper} (ho : ops[i]? = some o) (ho' : head[i]? = some o)
    (hw : Region.wanted o (yielded head a.tmps) = Region.wanted o (yielded ops a.tmps)) (hK : ∀ a w, K' a w → K a w) (hp : ∀ c a w, Q' (.panic c) a w → Q (.panic c) a w) (hl : LetsOut Q' → LetsOut Q)
    (h : wpOp P head Q' i K' a w) : wpOp P ops Q i K a w := by
  unfold wpOp at *
  simp only [ho, ho'] at *
  rw [hw] at h
  split
  · rename_i h1
    simp only [h1, if_true] at h
    exact h.imp (upon_more hK hp hl) (fun h2 => ⟨h2.1, hl h2.2⟩)
  · rename_i h1
    simp only [h1] at h
    exact hK _ _ h
theorem take_at (l : List Oper) {n i : Nat} (hi : i < n) : (l.take n).toArray[i]? = l.toArray[i]? := by
  simp [hi]
theorem ready_mem {md : Region.Mode} {i : Nat} {listed : Array Bool} (h : i ∈ Region.ready md ops listed) : i < ops.size := by
  obtain ⟨_, o, ho, _⟩ := mem_ready.1 h
  exact (Array.getElem?_eq_some_iff.1 ho).1
/-- The head's listed and the whole's. -/
structure Lst (n N : Nat) (a b : Array Bool) : Prop where
  sa : a.size = n
  sb : b.size = N
  same : ∀ i d, i < n → a.getD i d = b.getD i d
  rest : ∀ t, n ≤ t → t < N → b.getD t true = false
theorem Lst.set {n N i : Nat} {a b : Array Bool} (h : Lst n N a b) (hi : i < n) : Lst n N (a.setIfInBounds i true) (b.setIfInBounds i true) := by
  refine ⟨by simp [h.sa], by simp [h.sb], fun j d hj => ?_, fun t h1 h2 => by rw [getD_set_ne true (by omega)]; exact h.rest t h1 h2⟩
  by_cases hij : i = j
  · subst hij
    have h1 : i < a.size := by rw [h.sa]; exact hi
    have h2 : i < b.size ∨ ¬ i < b.size := Nat.lt_or_ge i b.size |>.imp id (fun h => by omega)
    have h3 := h.same i d hi
    rcases h2 with h2 | h2
    · simp [h1, h2]
    · have h4 := h.same i true hi
      have h5 := h.same i false hi
      have e1 : b.getD i true = true := by rw [Array.getD_eq_getD_getElem?, Array.getElem?_eq_none (by omega)]; rfl
      have e2 : b.getD i false = false := by rw [Array.getD_eq_getD_getElem?, Array.getElem?_eq_none (by omega)]; rfl
      rw [e1] at h4
      rw [e2] at h5
      rw [Array.getD_eq_getD_getElem?, Array.getElem?_eq_getElem h1] at h4 h5
      simp only [Option.getD_some] at h4 h5
      rw [h4] at h5
      cases h5
  · rw [getD_set_ne d hij, getD_set_ne d hij]
    exact h.same j d hj
theorem getD_far {a b : Array Bool} {n N i : Nat} {d : Bool} (h : Lst n N a b) (hn : n ≤ N) (hi : n ≤ i) : d = false → a.getD i d = b.getD i d := by
  rintro rfl
  have e1 : a.getD i false = false := by rw [Array.getD_eq_getD_getElem?, Array.getElem?_eq_none (by rw [h.sa]; exact hi)]; rfl
  rw [e1]
  rcases Nat.lt_or_ge i N with h1 | h1
  · rw [getD_both (h.rest i hi h1)]
  · rw [Array.getD_eq_getD_getElem?, Array.getElem?_eq_none (by rw [h.sb]; exact h1)]; rfl
theorem ready_head {l : List Oper} {n i : Nat} {a b : Array Bool} (h : Lst n l.toArray.size a b) (hn : n < l.toArray.size) (hi : i < n) : i ∈ Region.ready .any (l.take n).toArray a ↔ i ∈ Region.ready .any l.toArray b := by
  rw [mem_ready, mem_ready, take_at l hi, h.same i true hi]
  refine and_congr Iff.rfl (exists_congr fun o => and_congr Iff.rfl ?_)
  refine forall_congr' fun e => forall_congr' fun he => forall_congr' fun hb => ?_
  rcases Nat.lt_or_ge e.on n with h1 | h1
  · rw [h.same e.on false h1]
  · rw [getD_far h (by omega) h1 rfl]
theorem all_listed {l : List Oper} {n : Nat} {a : Array Bool} (hsz : a.size = n) (hn : n ≤ l.length) (hB : headB l.toArray n = true) (h : Region.ready .any (l.take n).toArray a = []) : ∀ i, i < n → a.getD i true = true := by
  intro i
  induction i using Nat.strongRecOn with
  | _ i ih =>
    intro hi
    cases hc : a.getD i true with
    | true => rfl
    | false =>
      obtain ⟨o, ho, he, _⟩ := headB_spec hB hi
      have : i ∈ Region.ready .any (l.take n).toArray a := mem_ready.2 ⟨hc, o, by rw [take_at l hi]; exact ho, fun e h1 h2 => by
        have h3 := he e h1 h2
        have h4 := ih e.on h3 (by omega)
        have h5 : e.on < a.size := by omega
        rw [Array.getD_eq_getD_getElem?, Array.getElem?_eq_getElem h5] at h4 ⊢
        exact h4⟩
      rw [h] at this
      cases this
theorem lst_full {n N : Nat} {a b : Array Bool} (h : Lst n N a b) (hn : n ≤ N) (hall : ∀ i, i < n → a.getD i true = true) : b = Array.replicate n true ++ Array.replicate (N - n) false := by
  apply Array.ext
  · simp [h.sb]; omega
  · intro i h1 h2
    rw [h.sb] at h1
    rw [Array.getElem_append]
    split
    · rename_i h3
      have h4 : i < n := by simpa using h3
      have h5 := hall i h4
      rw [h.same i true h4, Array.getD_eq_getD_getElem?, Array.getElem?_eq_getElem (by rw [h.sb]; exact h1)] at h5
      simpa using h5
    · rename_i h3
      have h4 : n ≤ i := by simpa using h3
      have h5 := h.rest i h4 h1
      rw [Array.getD_eq_getD_getElem?, Array.getElem?_eq_getElem (by rw [h.sb]; exact h1)] at h5
      simpa using h5
theorem wpAny_of_parts {l : List Oper} {n : Nat} (hB : tailB l.toArray n = true) :
    ∀ (f : Nat) (x b : Array Bool) (a : Act) (w : World), Lst n l.toArray.size x b → HeadInv .any l.toArray n b →
      wpAny P .any (l.take n).toArray (AtEnd Q (fun a w => wpList P l.toArray Q (l.drop n) a w)) f x a w → wpAny P .any l.toArray Q (f + (l.toArray.size - n)) b a w := by
  simp only [tailB, Bool.and_eq_true, decide_eq_true_eq] at hB
  obtain ⟨⟨⟨⟨hn, hs⟩, hc⟩, hh⟩, hq⟩ := hB
  have hend : ∀ (x b : Array Bool) (a : Act) (w : World) (f : Nat), Lst n l.toArray.size x b → Region.ready .any (l.take n).toArray x = [] → wpList P l.toArray Q (l.drop n) a w → wpAny P .any l.toArray Q (f + (l.toArray.size - n)) b a w := by
    intro x b a w f hL hr h
    have hb := lst_full hL (by omega) (all_listed hL.sa (by simpa using Nat.le_of_lt hn) hh hr)
    have hdl : (l.drop n).length = l.toArray.size - n := by simp
    have h1 := wpAny_of_seq (md := .any) (Q' := Q) (l.drop n) n b a w (fun j => by simp [List.getElem?_drop]) (by rw [hdl, hb]; exact hq) h
    rw [hdl] at h1
    clear hb
    have grow : ∀ (g : Nat) (c : Array Bool) (a : Act) (w : World) (f : Nat), wpAny P .any l.toArray Q g c a w → wpAny P .any l.toArray Q (f + g) c a w := by
      intro g
      induction g with
      | zero =>
        intro c a w f h
        cases f with
        | zero => exact h
        | succ f => exact ⟨fun _ => h.2, fun i hi => by rw [h.1] at hi; cases hi⟩
      | succ g ih =>
        intro c a w f h
        rw [show f + (g + 1) = (f + g) + 1 by omega]
        exact ⟨h.1, fun i hi => wpOp_mono (fun a' w' h' => ih _ a' w' f h') (h.2 i hi)⟩
    exact grow _ _ _ _ _ h1
  intro f
  induction f with
  | zero =>
    intro x b a w hL inv h
    exact hend x b a w 0 hL h.1 h.2
  | succ f ih =>
    intro x b a w hL inv h
    by_cases hr : Region.ready .any (l.take n).toArray x = []
    · exact hend x b a w (f + 1) hL hr (h.1 hr)
    · obtain ⟨i0, hi0⟩ := List.exists_mem_of_ne_nil _ hr
      have hi0n : i0 < n := by have := ready_mem hi0; simp at this; omega
      have hun : b.getD i0 true = false := by
        have := (mem_ready.1 hi0).1
        rwa [hL.same i0 true hi0n] at this
      have hlt : ∀ j ∈ Region.ready .any l.toArray b, j < n := fun j hj => by
        rcases Nat.lt_or_ge j n with h1 | h1
        · exact h1
        · exact absurd hj (tail_waits hs hc hn inv _ i0 rfl hi0n hun j h1)
      rw [show f + 1 + (l.toArray.size - n) = (f + (l.toArray.size - n)) + 1 by omega]
      refine ⟨fun h0 => ?_, fun j hj => ?_⟩
      · have := (ready_head hL hn hi0n).1 hi0
        rw [h0] at this
        cases this
      · have hjn := hlt j hj
        have hj' := (ready_head hL hn hjn).2 hj
        obtain ⟨o, ho, _, hg⟩ := headB_spec hh hjn
        refine wpOp_more (head := (l.take n).toArray) ho (by rw [take_at l hjn]; exact ho) ?_ (fun a' w' h' => ih _ _ a' w' (hL.set hjn) (inv.set hj hjn) h') (fun _ _ _ h => h) (fun ⟨a, w, h⟩ => ⟨a, w, h⟩) (h.2 j hj')
        unfold Region.wanted
        cases hgd : o.guard with
        | none => rfl
        | some p =>
          obtain ⟨k, v⟩ := p
          have hk := hg k v hgd
          simp only
          unfold yielded
          rw [take_at l hk]
/-- **The head under S; the end in its one order, without it.** -/
theorem wp_region_tail {id : Nat} {a : Act} {w : World} {l : List Oper} {S : World → Prop} (n : Nat) (hm : P.follows .mixedOrders = true) (hB : tailB l.toArray n = true) (hS : S w.drew)
    (h : S w.drew → wpAnyH P .any (l.take n).toArray (AtEnd Q (fun a w => wpList P l.toArray Q (l.drop n) a w)) S n (Array.replicate n false) a w.drew) : (Code.region id l.toArray true).wp P Q a w := by
  refine wp_region_any hm ?_
  have hn : n < l.toArray.size := by
    simp only [tailB, Bool.and_eq_true, decide_eq_true_eq] at hB
    exact hB.1.1.1.1
  have h1 := wpAny_of_parts (P := P) (Q := Q) hB n (Array.replicate n false) (Array.replicate l.toArray.size false) a w.drew
    ⟨by simp, by simp, fun i d hi => by rw [Array.getD_eq_getD_getElem?, Array.getD_eq_getD_getElem?, Array.getElem?_replicate, Array.getElem?_replicate, if_pos hi, if_pos (by omega)], fun t h1 h2 => getD_in (by simpa using h2) (getD_replicate_false _ _)⟩
    ⟨by simp, fun j oj _ hl => (by rw [getD_replicate_false] at hl; cases hl), fun t _ ht => getD_in (by simpa using ht) (getD_replicate_false _ _)⟩
    (wpAny_of_held _ _ _ _ (h hS))
  rw [show n + (l.toArray.size - n) = l.toArray.size by omega] at h1
  exact h1
end
end Go.Proofs.YtmcgaaihdjpdgaaGreatDoor
/- Chapter 11: BlobEmpties. -/
namespace Go.Proofs.YtmcgaaihdjpdgaaGreatDoor
open Go.RowKit
set_option linter.unusedVariables false

/-- A row of the law's own. -/
def Off (B : Nat) (S : Nat → Prop) (v : Value) : Prop := ∀ k, v.ownBlock = some k → ¬ S k ∧ B + 5 ≤ k
theorem Off.step {w w' : World} {B base sz n : Nat} {S S' : Nat → Prop} {v : Value} {e : TypeId} {xs : List Value} (h : Off B S v) (ho : w.ownsRow base e sz v n xs) (hs : Stp S S' w w') : w'.ownsRow base e sz v n xs ∧ Off B S' v :=
  ⟨hs.1.own ho (fun k hk => (h k hk).1), fun k hk => ⟨fun hS => by
    rcases hs.2 k hS with h1 | h1
    · exact (h k hk).1 h1
    · have := (ho.lt k hk).2
      omega, (h k hk).2⟩⟩
theorem Off.push {w0 w : World} {n g cap m : Nat} {D : DataW Unit} {S : Nat → Prop} {l : List KpD} {Rs : List RtD} {v : Value} (hL : LW w0 w n D S l Rs) (h : Off w0.heap.size S v) (hat : v.ownBlock = some g ∨ w.heap.size ≤ g) : Off w0.heap.size S (.slice (some ⟨g, 0, none⟩) m cap) := fun k hk => by
  injection hk with hk
  change g = k at hk
  subst hk
  rcases hat with hat | hat
  · exact h _ hat
  · have := hL.big
    exact ⟨fun hS => by have := hL.bs.lt hS; omega, by omega⟩
theorem Off.nil (B : Nat) (S : Nat → Prop) : Off B S (.slice none 0 0) := fun k hk => by cases hk
theorem fits_uniq {D : DataW Unit} {n : Nat} (hg : GoodD D n) : ∀ {acc : List ItemD} {fl fl' : List FileD}, ItFits D fl acc → ItFits D fl' acc → fl = fl'
  | [], fl, fl', h, h' => by
    have h1 := h.1
    have h2 := h'.1
    rw [List.eq_nil_of_length_eq_zero (l := fl) (by simpa using h1.symm), List.eq_nil_of_length_eq_zero (l := fl') (by simpa using h2.symm)]
  | x :: acc, [], fl', h, _ => by have := h.1; simp at this
  | x :: acc, f :: fl, [], _, h' => by have := h'.1; simp at this
  | x :: acc, f :: fl, f' :: fl', h, h' => by
    rw [fits_uniq hg (fits_tail h) (fits_tail h')]
    obtain ⟨g, h1, h2, _, h4⟩ := fits_at h (i := 0) (x := x) rfl
    obtain ⟨g', h1', h2', _, h4'⟩ := fits_at h' (i := 0) (x := x) rfl
    obtain rfl : f = g := by simpa using h1
    obtain rfl : f' = g' := by simpa using h1'
    have hd := marked_inj hg h4 h4'
    rw [h2] at h2'
    obtain ⟨a, b, c⟩ := f
    obtain ⟨a', b', c'⟩ := f'
    injection h2' with e1 e2 e3 e4
    simp only at e1 e2 hd
    rw [e1, e2, hd]
theorem rt_uniq {D : DataW Unit} {n : Nat} (hg : GoodD D n) {r r' : RtD} (h : RtGood D r) (h' : RtGood D r') (e : r.q = r'.q) : r = r' := by
  have h1 : r.man = r'.man := marked_inj hg h.1 (by rw [e]; exact h'.1)
  have h2 : r.acc = r'.acc := by
    have a := man_back h.2.1
    have b := man_back h'.2.1
    unfold RtD.man at h1
    rw [h1, b] at a
    injection a with _ a
    exact a.symm
  have h3 : r.fl = r'.fl := fits_uniq hg h.2.2 (by rw [h2]; exact h'.2.2)
  obtain ⟨a, b, c⟩ := r
  obtain ⟨a', b', c'⟩ := r'
  simp only at e h2 h3
  rw [e, h2, h3]
theorem needT_perm {t : ByteArray} {a b : List RtD} (h : a.Perm b) : needT t a = needT t b := by
  induction h with
  | nil => rfl
  | cons x _ ih => rw [needT, needT, ih]
  | swap x y l => rw [needT, needT, needT, needT]; omega
  | trans _ _ h1 h2 => rw [h1, h2]
theorem erase_perm {α : Type} {l : List α} {i : Nat} {r : α} (h : l[i]? = some r) : l.Perm (r :: l.eraseIdx i) := by
  have h1 : l = l.take i ++ r :: l.drop (i + 1) := by rw [← drop_head h, List.take_append_drop]
  rw [List.eraseIdx_eq_take_drop_succ]
  conv => lhs; rw [h1]
  exact List.perm_middle
theorem erase_map {α β : Type} (f : α → β) (l : List α) (i : Nat) : (l.map f).eraseIdx i = (l.eraseIdx i).map f := by
  rw [List.eraseIdx_eq_take_drop_succ, List.eraseIdx_eq_take_drop_succ, List.map_append, List.map_take, List.map_drop]
/-- Forget of a root that is there. -/
theorem forget_L {w0 w : World} {n : Nat} {D : DataW Unit} {S : Nat → Prop} {l : List KpD} {Rs : List RtD} (r : RtD) (h : LW w0 w n D S l Rs) (hn : n ≤ 65000) (hr : r ∈ Rs) (hne : ∀ t, (occ t r.need : Int) ≤ cntT l t) (hm : Ml w0) :
    Calls Tryz.prog 36 #[.pointer (some ⟨w0.heap.size + 2, 0, none⟩), .string r.q] w fun e w' => ∃ l' i, e = .returned (.int .i64 0) ∧ Rs[i]? = some r ∧ LW w0 w' n D S l' (Rs.eraseIdx i) ∧ Stp S S w w' ∧ ∀ t, cntT l' t = cntT l t - occ t r.need := by
  refine (forget_S r w h.bs hn (h.rt r hr) (List.mem_map.2 ⟨r, hr, rfl⟩) hne (hm.on h.bl)).mono ?_
  rintro e w' ⟨l', i, rfl, h1, h2, h3, h4⟩
  rw [List.getElem?_map] at h1
  obtain ⟨r2, hr2, he⟩ := Option.map_eq_some_iff.1 h1
  obtain rfl := rt_uniq h.bs.good (h.rt r2 (List.mem_of_getElem? hr2)) (h.rt r hr) he
  exact ⟨l', i, rfl, hr2, h.step (by rw [← erase_map]; exact h2) h3 (fun x hx => h.rt x (List.mem_of_mem_eraseIdx hx)), h3, h4⟩
/-- Marks of texts. -/
def MksOf (D : DataW Unit) (C P : List ByteArray) : Prop := P.length = C.length ∧ ∀ (j : Nat) (s q : ByteArray), C[j]? = some s → P[j]? = some q → Marked D s q
theorem MksOf.mono {D D' : DataW Unit} {C P : List ByteArray} (h : MksOf D C P) (hD : ∀ s q, Marked D s q → Marked D' s q) : MksOf D' C P := ⟨h.1, fun j s q h1 h2 => hD _ _ (h.2 j s q h1 h2)⟩
theorem MksOf.snoc {D : DataW Unit} {C P : List ByteArray} {s q : ByteArray} (h : MksOf D C P) (hq : Marked D s q) : MksOf D (C ++ [s]) (P ++ [q]) := by
  refine ⟨by simp [h.1], fun j a b h1 h2 => ?_⟩
  rcases Nat.lt_or_ge j C.length with hj | hj
  · rw [List.getElem?_append_left hj] at h1
    rw [List.getElem?_append_left (by rw [h.1]; exact hj)] at h2
    exact h.2 j a b h1 h2
  · rw [List.getElem?_append_right hj] at h1
    rw [List.getElem?_append_right (by rw [h.1]; exact hj), h.1] at h2
    cases hk : j - C.length with
    | zero =>
      rw [hk] at h1 h2
      simp at h1 h2
      rw [← h1, ← h2]; exact hq
    | succ k => rw [hk] at h1; simp at h1
/-- Nothing is kept. -/
theorem none_kept {D : DataW Unit} {l : List KpD} {n : Nat} (hs : KSrt l) (hk : KOk D l n) (h : ∀ t, cntT l t = 0) : l.length = 0 ∧ sumK l = 0 := by
  have := texts_tell hs hk (L := []) List.nodup_nil (fun s => by rw [h]; simp)
  simpa using this
end Go.Proofs.YtmcgaaihdjpdgaaGreatDoor
/- Chapter 11: BlobKeeps: the plain model's roots; manifest, free. -/
namespace Go.Proofs.YtmcgaaihdjpdgaaGreatDoor
open Go.RowKit
set_option linter.unusedVariables false

theorem ne_list {a b : ByteArray} (h : ¬ a = b) : ¬ a.toList = b.toList := fun he => h (by rw [ByteArray.toList_eq, ByteArray.toList_eq] at he; exact ba_ext he)
structure PE where
  A : Option Addr
  c : Nat
  fl : List FileD
  q : ByteArray
  is : Bool
def pcell (x : PE) : List Value := [.slice x.A x.fl.length x.c, .string x.q, .bool x.is]
def pcells (P : List PE) : List Value := (P.map pcell).flatten
theorem pcells_app (a b : List PE) : pcells (a ++ b) = pcells a ++ pcells b := by unfold pcells; rw [List.map_append, List.flatten_append]
theorem pe_cells {W : World} {b o : Nat} {P : List PE} (hc : ∀ i u, (pcells P)[i]? = some u → W.cell? ⟨b, o + i, none⟩ = some u) {k : Nat} {y : PE} (h : P[k]? = some y) :
    W.cell? ⟨b, o + k * 3, none⟩ = some (.slice y.A y.fl.length y.c) ∧ W.cell? ⟨b, o + k * 3 + 1, none⟩ = some (.string y.q) ∧ W.cell? ⟨b, o + k * 3 + 2, none⟩ = some (.bool y.is) := by
  have f : ∀ j u, j < 3 → (pcell y)[j]? = some u → W.cell? ⟨b, o + k * 3 + j, none⟩ = some u := fun j u hj hu => by
    have h2 : (pcells P)[k * 3 + j]? = (pcell y)[j]? := flat_at (c := 3) _ k j (pcell y) (by intro r hr; obtain ⟨f, _, rfl⟩ := List.mem_map.1 hr; rfl) (by rw [List.getElem?_map, h]; rfl) hj
    have := hc (k * 3 + j) u (h2.trans hu)
    rwa [← Nat.add_assoc] at this
  exact ⟨f 0 _ (by omega) rfl, f 1 _ (by omega) rfl, f 2 _ (by omega) rfl⟩
/-- The plain model's block, its row of roots, the roots' files. -/
structure PW (B : Nat) (w : World) (S : Nat → Prop) (T V : Value) (P : List PE) : Prop where
  pb : Blk w (B + 3) 41 #[T, V]
  row : w.ownsRow B 45 3 V P.length (pcells P)
  off : Off B S V
  fs : ∀ y ∈ P, Arr w w.heap.size 3 y.A y.fl.length (fcells y.fl) ∧ ∀ g o, y.A = some ⟨g, o, none⟩ → ¬ S g ∧ B + 5 ≤ g ∧ g < w.heap.size ∧ V.ownBlock ≠ some g
theorem Arr.fr {w w' : World} {S : Nat → Prop} {A : Option Addr} {n sz : Nat} {xs : List Value} (h : Arr w w.heap.size sz A n xs) (hf : Fr S w w') (hA : ∀ g o, A = some ⟨g, o, none⟩ → ¬ S g) : Arr w' w'.heap.size sz A n xs :=
  ⟨h.1, fun hn => by
    obtain ⟨b, o, rfl, hb, hc⟩ := h.2 hn
    exact ⟨b, o, rfl, Nat.lt_of_lt_of_le hb hf.size, fun i u hu => (hf.cell (p := ⟨b, o + i, none⟩) hb (hA b o rfl)).trans (hc i u hu)⟩⟩
theorem PW.step {B : Nat} {w w' : World} {S S' : Nat → Prop} {T V : Value} {P : List PE} (h : PW B w S T V P) (hs : Stp S S' w w') (hB : ¬ S (B + 3)) : PW B w' S' T V P := by
  obtain ⟨h1, h2⟩ := h.off.step h.row hs
  refine ⟨hs.1.blk h.pb hB, h1, h2, fun y hy => ?_⟩
  obtain ⟨h3, h4⟩ := h.fs y hy
  refine ⟨h3.fr hs.1 (fun g o e => (h4 g o e).1), fun g o e => ?_⟩
  obtain ⟨a, b, c, d⟩ := h4 g o e
  refine ⟨fun hk => ?_, b, Nat.lt_of_lt_of_le c hs.1.size, d⟩
  rcases hs.2 g hk with h5 | h5
  · exact a h5
  · omega
theorem PW.below {B : Nat} {w w' : World} {S : Nat → Prop} {T V : Value} {P : List PE} (h : PW B w S T V P) (hb : Below w.heap.size w w') : PW B w' S T V P := by
  have hs : Stp S S w w' := Stp.below hb
  obtain ⟨h1, h2⟩ := h.off.step h.row hs
  refine ⟨h.pb.below hb h.pb.lt, h1, h2, fun y hy => ?_⟩
  obtain ⟨h3, h4⟩ := h.fs y hy
  exact ⟨(h3.below hb).more hb.size, fun g o e => by
    obtain ⟨a, b, c, d⟩ := h4 g o e
    exact ⟨a, b, Nat.lt_of_lt_of_le c hb.size, d⟩⟩
/-- manifest. -/
theorem mani_L {w0 w : World} {n : Nat} {D : DataW Unit} {S : Nat → Prop} {l : List KpD} {Rs : List RtD} (s q : ByteArray) (h : LW w0 w n D S l Rs) (hn : n ≤ 65000) (hq : Marked D s q) :
    Calls Tryz.prog 22 #[.pointer (some ⟨w0.heap.size + 4, 0, none⟩), .string q] w fun e w' => e = .returned (.string (if 0 < cntT l s then s else ⟨#[]⟩)) ∧ Below w.heap.size w w' := by
  have HG := Lib.hid (get_S q w h.bs hn)
  rw [get_T h.bs.ok h.bs.good hq] at HG
  obtain ⟨k0, k1, k2, _, _, _⟩ := tcellsK h.wb
  clear h hq
  by_cases hp : 0 < cntT l s
  · rw [if_pos hp] at HG
    rw [if_pos hp]
    go_enter Tryz.func22, Tryz.ntmps22
    go_wp2_with (first
      | (go_at_call 30; (with_reducible refine (HG.out).mono ?_); rintro e w2 ⟨rfl, hb2⟩)
      | fail)
    go_ret
    exact ⟨rfl, hb2⟩
  · rw [if_neg hp] at HG
    rw [if_neg hp]
    go_enter Tryz.func22, Tryz.ntmps22
    go_wp2_with (first
      | (go_at_call 30; (with_reducible refine (HG.out).mono ?_); rintro e w2 ⟨rfl, hb2⟩)
      | fail)
    go_ret
    exact ⟨rfl, hb2⟩
def opval (x : InOp) : Value := .agg #[.int .i64 x.kind, .int .i64 x.n, .string x.text, .slice x.fA x.files.length x.fC]
def FreeOut (w : World) (x : InOp) (P : List PE) (Rs : List RtD) (e : Ending) (w' : World) : Prop := ∃ v, e = .returned (.bool v) ∧ Below w.heap.size w w' ∧ (v = true → x.kind = 1 → ∀ y ∈ P, y.is = true → ∀ r ∈ Rs, r.q = y.q → occ (cut500 x.text) r.need = 0)
def FreeRel (w : World) (s : ByteArray) (P : List PE) (Rs : List RtD) (wr : World) (i : Nat) : Prop := Below w.heap.size w wr ∧ ∀ k y, k < i → P[k]? = some y → y.is = true → ∀ r ∈ Rs, r.q = y.q → occ s r.need = 0
set_option maxHeartbeats 4000000 in
set_option maxRecDepth 100000 in
theorem free_L (x : InOp) {w0 w : World} {n : Nat} {D : DataW Unit} {S : Nat → Prop} {l : List KpD} {Rs : List RtD} {T V : Value} {P : List PE} (h : LW w0 w n D S l Rs) (hp : PW w0.heap.size w S T V P) (hn : n ≤ 65000) (hz : P.length ≤ 1000) (hf : ∀ y ∈ P, y.fl.length ≤ 1000)
    (hR : ∀ y ∈ P, y.is = true → ∃ r ∈ Rs, r.q = y.q ∧ r.fl = y.fl) (hpos : ∀ r ∈ Rs, 0 < cntT l r.man) (hx : x.text.size ≤ 9223372036854775807) :
    Calls Tryz.prog 11 #[.pointer (some ⟨w0.heap.size + 4, 0, none⟩), opval x] w (FreeOut w x P Rs) := by
  obtain ⟨AV, cV, rfl, _, haV, _⟩ := own_arr hp.row
  have HAV := Lib.hid haV
  have HL := Lib.hid h
  have HFS := Lib.hid hp.fs
  have HK := Lib.hid (fun W (hb : Below w.heap.size w W) => (show W.cell? ⟨w0.heap.size + 4, 2, none⟩ = some (.pointer (some ⟨w0.heap.size + 3, 0, none⟩)) ∧ W.cell? ⟨w0.heap.size + 3, 1, none⟩ = some (.slice AV P.length cV) from ⟨(h.below hb).wb.cell 2, (hp.pb.below hb hp.pb.lt).cell 1⟩))
  have HRR := Lib.hid hR
  have HPOS := Lib.hid hpos
  have HF := Lib.hid hf
  have HBX := Lib.hid (fun (o : Obj) => (Below.refl w.heap.size w).alloc (Nat.le_refl _) o)
  have hb0 := Blk.new w 28 #[.int .i64 x.kind, .int .i64 x.n, .string x.text, .slice x.fA x.files.length x.fC]
  have c0 := hb0.cell 0
  have c2 := hb0.cell 2
  have HCT := Lib.hid (fun W => cut_any11 x.text W hx)
  obtain ⟨s, hs⟩ : ∃ s, cut500 x.text = s := ⟨_, rfl⟩
  rw [hs] at HCT
  unfold opval
  clear haV h hp hR hpos hf hx hb0
  by_cases hk : x.kind = 1
  · go_enter Tryz.func11, Tryz.ntmps11
    go_wp2_with (first
      | (go_at_call 21; (with_reducible refine (HCT.out _).mono ?_); rintro e wa ⟨rfl, hwa⟩; subst hwa)
      | fail)
    go_loopw [6] (fun vi wr => ∃ (i : Nat), i ≤ P.length ∧ vi = .int .i64 i ∧ Hid (FreeRel w s P Rs wr i)) (fun vi _ => P.length - (intOf vi).toNat)
    case atStart => exact ⟨0, Nat.zero_le _, rfl, Lib.hid ⟨HBX.out _, fun k y h => absurd h (by omega)⟩⟩
    case round =>
      obtain ⟨i, hi, rfl, HI⟩ := hrel
      obtain ⟨k2, k3⟩ := HK.out wr HI.out.1
      by_cases hlt : i < P.length
      · have i1 : (i : Int) < P.length := by omega
        obtain ⟨y, hy⟩ : ∃ y, P[i]? = some y := ⟨_, List.getElem?_eq_getElem hlt⟩
        obtain ⟨bV, oV, rfl, hbV, hcell⟩ := HAV.out.2 (by omega)
        have hym := List.mem_of_getElem? hy
        have hyf := HFS.out y hym
        have hyl := HF.out y hym
        have hyr := HRR.out y hym
        have hcv := (fun W (hb : Below w.heap.size w W) => pe_cells (fun j u h => (hb.cell (p := ⟨bV, oV + j, none⟩) hbV).trans (hcell j u h)) hy)
        obtain ⟨yA, yc, fl, yq, yis⟩ := y
        have HCV : Hid (∀ W, Below w.heap.size w W → W.cell? ⟨bV, oV + i * 3, none⟩ = some (.slice yA fl.length yc) ∧ W.cell? ⟨bV, oV + i * 3 + 1, none⟩ = some (.string yq) ∧ W.cell? ⟨bV, oV + i * 3 + 2, none⟩ = some (.bool yis)) := Lib.hid hcv
        obtain ⟨e0, e1, e2⟩ := HCV.out wr HI.out.1
        have HYF : Hid (Arr w w.heap.size 3 yA fl.length (fcells fl)) := Lib.hid hyf.1
        replace hyl : fl.length ≤ 1000 := hyl
        have HY := Lib.hid hy
        clear hcv hcell hyf hym hy
        cases yis with
        | false =>
          go_wp2
          go_roundw
          case rel => exact ⟨i + 1, by omega, by go_num, Lib.hid ⟨HI.out.1, fun k y hk2 hy2 hyi => by
            rcases Nat.lt_or_ge k i with h1 | h1
            · exact HI.out.2 k y h1 hy2 hyi
            · obtain rfl : k = i := by omega
              rw [HY.out] at hy2
              injection hy2 with hy2
              rw [← hy2] at hyi
              cases hyi⟩⟩
          case measure => simp [intOf] <;> omega
        | true =>
          obtain ⟨r, hr, hrq, hrf⟩ := hyr rfl
          replace hrq : r.q = yq := hrq
          replace hrf : r.fl = fl := hrf
          have HMA := Lib.hid (mani_L r.man r.q (HL.out.below HI.out.1) hn (HL.out.rt r hr).1)
          rw [if_pos (HPOS.out r hr), hrq] at HMA
          have HU : Hid (r.man ≠ s → (∀ f ∈ fl, f.data ≠ s) → ∀ r' ∈ Rs, r'.q = yq → occ s r'.need = 0) := Lib.hid (fun h1 h2 r' hr' hq' => by
            obtain rfl := rt_uniq HL.out.bs.good (HL.out.rt r' hr') (HL.out.rt r hr) (hq'.trans hrq.symm)
            refine occ_zero fun hm => ?_
            rcases List.mem_append.1 hm with hm | hm
            · obtain ⟨f, hf, he⟩ := List.mem_map.1 hm
              exact h2 f (hrf ▸ hf) he
            · exact h1 (List.mem_singleton.1 hm).symm)
          clear hyr hr hrq hrf
          generalize r.man = m at *
          by_cases hm : m = s
          · subst hm
            go_wp2_with (first
              | (go_at_call 22; (with_reducible refine (HMA.out).mono ?_); rintro e wm ⟨rfl, hbm⟩)
              | fail)
            go_ret
            exact ⟨false, rfl, below_on HI.out.1 hbm, fun h => by cases h⟩
          · have q0 : ¬ m.toList = s.toList := ne_list hm
            have q1 : (m.toList == s.toList) = false := by rw [beq_eq_false_iff_ne]; exact q0
            have HQ := Lib.hid hm
            go_wp2_with (first
              | (go_at_call 22; (with_reducible refine (HMA.out).mono ?_); rintro e wm ⟨rfl, hbm⟩; have HBM := Lib.hid (below_on HI.out.1 hbm))
              | fail)
            go_loopw [7] (fun vk wr => ∃ (k : Nat), k ≤ fl.length ∧ vk = .int .i64 k ∧ Hid (Below w.heap.size w wr) ∧ Hid (∀ f ∈ fl.take k, f.data ≠ s)) (fun vk _ => fl.length - (intOf vk).toNat)
            case atStart => exact ⟨0, Nat.zero_le _, rfl, HBM, Lib.hid (by simp)⟩
            case round =>
              obtain ⟨k, hk5, rfl, HB5, HN⟩ := hrel
              obtain ⟨k2', k3'⟩ := HK.out wr HB5.out
              obtain ⟨g0, g1, g2⟩ := HCV.out wr HB5.out
              by_cases hlk : k < fl.length
              · have j1 : (k : Int) < fl.length := by omega
                obtain ⟨f, hf⟩ : ∃ f, fl[k]? = some f := ⟨_, List.getElem?_eq_getElem hlk⟩
                obtain ⟨bF, oF, rfl, hbF, hcF⟩ := HYF.out.2 (by omega)
                obtain ⟨f0, f1, f2⟩ := file_cells (fun i u h => (HB5.out.cell (p := ⟨bF, oF + i, none⟩) hbF).trans (hcF i u h)) hf
                have htk := take_snoc hf
                have HTK := Lib.hid htk
                clear hcF hf htk
                obtain ⟨d, hdd⟩ : ∃ d, f.data = d := ⟨_, rfl⟩
                rw [hdd] at f2
                have HDD := Lib.hid hdd
                clear hdd f0 f1
                by_cases hd : d = s
                · subst hd
                  go_wp2
                  go_ret
                  exact ⟨false, rfl, HB5.out, fun h => by cases h⟩
                · have q3 : ¬ d.toList = s.toList := ne_list hd
                  have q2 : (d.toList == s.toList) = false := by rw [beq_eq_false_iff_ne]; exact q3
                  have HD := Lib.hid hd
                  go_wp2
                  go_roundw
                  case rel => exact ⟨k + 1, by omega, by go_num, HB5, Lib.hid (fun f hf => by
                    rw [HTK.out] at hf
                    rcases List.mem_append.1 hf with hf | hf
                    · exact HN.out f hf
                    · rw [List.mem_singleton.1 hf, HDD.out]; exact HD.out)⟩
                  case measure => simp [intOf] <;> omega
              · have j1 : ¬ (k : Int) < fl.length := by omega
                go_wp2
                go_roundw
                case rel => exact ⟨i + 1, by omega, by go_num, Lib.hid ⟨HB5.out, fun k y hk2 hy2 hyi => by
                  rcases Nat.lt_or_ge k i with h1 | h1
                  · exact HI.out.2 k y h1 hy2 hyi
                  · obtain rfl : k = i := by omega
                    rw [HY.out] at hy2
                    injection hy2 with hy2
                    have hz := HN.out
                    rw [List.take_of_length_le (by omega)] at hz
                    rw [← hy2]
                    exact HU.out HQ.out hz⟩⟩
                case measure => simp [intOf] <;> omega
      · have i1 : ¬ (i : Int) < P.length := by omega
        go_wp2
        go_ret
        exact ⟨true, rfl, HI.out.1, fun _ _ y hy => by
          obtain ⟨k, hk2⟩ := List.getElem?_of_mem hy
          rw [hs]
          exact HI.out.2 k y (by have := (List.getElem?_eq_some_iff.1 hk2).1; omega) hk2⟩
  · go_enter Tryz.func11, Tryz.ntmps11
    go_wp2
    go_ret
    exact ⟨true, rfl, HBX.out _, fun _ h1 => absurd h1 hk⟩
end Go.Proofs.YtmcgaaihdjpdgaaGreatDoor
/- Chapter 11: BlobKeeps: the state of the law. -/
namespace Go.Proofs.YtmcgaaihdjpdgaaGreatDoor
open Go.RowKit
set_option linter.unusedVariables false

theorem infoRoot : (Tryz.prog.info? 45).map (fun i => (i.zero, i.size, i.bytes)) = some (some (.agg #[.slice none 0 0, .string ⟨#[]⟩, .bool false]), 3, 48) := by kernel_rfl
theorem root_zero : (Value.agg #[.slice none 0 0, .string ⟨#[]⟩, .bool false]).cells.size = 3 := rfl
theorem root_one (y : PE) : ∀ u ∈ pcell y, u.oneCell' = true := by
  intro u hu
  simp [pcell] at hu
  rcases hu with rfl | rfl | rfl <;> rfl
theorem LW.aside2 {w0 w w' : World} {n : Nat} {D : DataW Unit} {S T : Nat → Prop} {l : List KpD} {Rs : List RtD} (h : LW w0 w n D S l Rs) (hf : Fr T w w') (hT : ∀ k, T k → w0.heap.size ≤ k ∧ k ≠ w0.heap.size + 4 ∧ ¬ S k) : LW w0 w' n D S l Rs :=
  ⟨h.bs.aside hf (fun k hk ht => (hT k ht).2.2 hk), hf.blk h.wb (fun ht => (hT _ ht).2.1 rfl), h.bl.trans (hf.below h.bl.size (fun k hk => (hT k hk).1)), h.lo, h.rt⟩
/-- The row of roots grows by one. -/
theorem PW.push {B : Nat} {w w' : World} {S : Nat → Prop} {T V : Value} {P : List PE} {g cap : Nat} (y : PE) (h : PW B w S T V P) (hlt : ∀ k, S k → k < w.heap.size) (hB : B + 5 ≤ w.heap.size)
    (hown : w'.ownsRow B 45 3 (.slice (some ⟨g, 0, none⟩) (P.length + 1) cap) (P.length + 1) (pcells P ++ pcell y)) (hgr : w.grownBy w' V.ownBlock) (hat : V.ownBlock = some g ∨ w.heap.size ≤ g)
    (hy : Arr w w.heap.size 3 y.A y.fl.length (fcells y.fl)) (hyA : ∀ g o, y.A = some ⟨g, o, none⟩ → ¬ S g ∧ B + 5 ≤ g ∧ g < w.heap.size ∧ V.ownBlock ≠ some g) :
    PW B (w'.setCell ⟨B + 3, 1, none⟩ (.slice (some ⟨g, 0, none⟩) (P.length + 1) cap)) S T (.slice (some ⟨g, 0, none⟩) (P.length + 1) cap) (P ++ [y]) ∧
      Fr (fun k => k = B + 3 ∨ V.ownBlock = some k) w (w'.setCell ⟨B + 3, 1, none⟩ (.slice (some ⟨g, 0, none⟩) (P.length + 1) cap)) := by
  have hpl := h.pb.lt
  have hne : V.ownBlock ≠ some (B + 3) := fun e => by have := (h.off _ e).2; omega
  have hgB : g ≠ B + 3 := by
    rcases hat with e | e
    · exact fun e2 => hne (by rw [e, e2])
    · omega
  have hf1 : Fr (fun k => k = B + 3 ∨ V.ownBlock = some k) w w' := Fr.of_grown hgr (fun k e => .inr e)
  have hf : Fr (fun k => k = B + 3 ∨ V.ownBlock = some k) w (w'.setCell ⟨B + 3, 1, none⟩ (.slice (some ⟨g, 0, none⟩) (P.length + 1) cap)) := hf1.setCell (.inl (.inl rfl)) _
  have hall : ∀ z ∈ P ++ [y], Arr w w.heap.size 3 z.A z.fl.length (fcells z.fl) ∧ ∀ g o, z.A = some ⟨g, o, none⟩ → ¬ S g ∧ B + 5 ≤ g ∧ g < w.heap.size ∧ V.ownBlock ≠ some g := by
    intro z hz
    rcases List.mem_append.1 hz with hz | hz
    · exact h.fs z hz
    · obtain rfl := List.mem_singleton.1 hz
      exact ⟨hy, hyA⟩
  refine ⟨⟨(h.pb.grown hgr (fun e => hne e.symm)).set_ 1 _, ?_, fun k hk => ?_, fun z hz => ?_⟩, hf⟩
  · rw [List.length_append, pcells_app, show pcells [y] = pcell y from by simp [pcells]]
    have hz2 : Fr (fun k => k = B + 3) w' (w'.setCell ⟨B + 3, 1, none⟩ (.slice (some ⟨g, 0, none⟩) (P.length + 1) cap)) := (Fr.refl (fun k => k = B + 3) w').setCell (p := ⟨B + 3, 1, none⟩) (.inl rfl) _
    exact hz2.own hown (fun k hk e => hgB (by injection hk with hk; exact hk.trans e))
  · injection hk with hk
    change g = k at hk
    subst hk
    rcases hat with e | e
    · exact h.off _ e
    · exact ⟨fun hS => by have := hlt _ hS; omega, by omega⟩
  · obtain ⟨h1, h2⟩ := hall z hz
    refine ⟨h1.fr hf (fun g2 o e => ?_), fun g2 o e => ?_⟩
    · obtain ⟨_, b, _, d⟩ := h2 g2 o e
      rintro (h3 | h3)
      · omega
      · exact d h3
    · obtain ⟨a, b, c, d⟩ := h2 g2 o e
      refine ⟨a, b, Nat.lt_of_lt_of_le c hf.size, fun h3 => ?_⟩
      injection h3 with h3
      change g = g2 at h3
      subst h3
      rcases hat with e2 | e2
      · exact d e2
      · omega
theorem PW.nil {w0 w : World} {S : Nat → Prop} (h : Blk w (w0.heap.size + 3) 41 #[.slice none 0 0, .slice none 0 0]) : PW w0.heap.size w S (.slice none 0 0) (.slice none 0 0) [] :=
  ⟨h, World.ownsRow_nil _ _ _ _, Off.nil _ _, by simp⟩
/-- The state of BlobKeeps: y0, r0 are the first root. -/
structure KS (w wr : World) (n : Nat) (D : DataW Unit) (S : Nat → Prop) (l : List KpD) (Rs : List RtD) (V : Value) (P : List PE) : Prop where
  lw : LW w wr n D S l Rs
  pw : PW w.heap.size wr S (.slice none 0 0) V P
  need : ∀ t, (needT t Rs : Int) ≤ cntT l t
  has : ∀ y ∈ P, y.is = true → ∃ r ∈ Rs, r.q = y.q ∧ r.fl = y.fl
  back : ∀ r ∈ Rs, ∃ y ∈ P, y.is = true ∧ y.q = r.q
  len : ∀ y ∈ P, y.fl.length ≤ 12
theorem KS.below {w wr wx : World} {n : Nat} {D : DataW Unit} {S : Nat → Prop} {l : List KpD} {Rs : List RtD} {V : Value} {P : List PE} (h : KS w wr n D S l Rs V P) (hb : Below wr.heap.size wr wx) : KS w wx n D S l Rs V P :=
  ⟨h.lw.below hb, h.pw.below hb, h.need, h.has, h.back, h.len⟩
theorem KS.step {w wr wx : World} {n n' : Nat} {D D' : DataW Unit} {S S' : Nat → Prop} {l l' : List KpD} {Rs : List RtD} {V : Value} {P : List PE} (h : KS w wr n D S l Rs V P) (hL : LW w wx n' D' S' l' Rs) (hs : Stp S S' wr wx) (hn : ∀ t, (needT t Rs : Int) ≤ cntT l' t) : KS w wx n' D' S' l' Rs V P :=
  ⟨hL, h.pw.step hs (fun hk => (h.lw.lo _ hk).2.1 rfl), hn, h.has, h.back, h.len⟩
theorem KS.root {w wr wx w' : World} {n n' : Nat} {D D' : DataW Unit} {S S' : Nat → Prop} {l l' : List KpD} {Rs : List RtD} {V : Value} {P : List PE} {g cap : Nat} {r : RtD} (y : PE) (h : KS w wr n D S l Rs V P) (hyq : y.q = r.q) (hyf : y.fl = r.fl) (hyi : y.is = true) (hyl : y.fl.length ≤ 12)
    (hL : LW w wx n' D' S' l' (Rs ++ [r])) (hp : PW w.heap.size wx S' (.slice none 0 0) V P) (hc : ∀ t, cntT l' t = cntT l t + occ t r.need)
    (hown : w'.ownsRow w.heap.size 45 3 (.slice (some ⟨g, 0, none⟩) (P.length + 1) cap) (P.length + 1) (pcells P ++ pcell y)) (hgr : wx.grownBy w' V.ownBlock) (hat : V.ownBlock = some g ∨ wx.heap.size ≤ g)
    (hy : Arr wx wx.heap.size 3 y.A y.fl.length (fcells y.fl)) (hyA : ∀ g o, y.A = some ⟨g, o, none⟩ → ¬ S' g ∧ w.heap.size + 5 ≤ g ∧ g < wx.heap.size ∧ V.ownBlock ≠ some g) :
    KS w (w'.setCell ⟨w.heap.size + 3, 1, none⟩ (.slice (some ⟨g, 0, none⟩) (P.length + 1) cap)) n' D' S' l' (Rs ++ [r]) (.slice (some ⟨g, 0, none⟩) (P.length + 1) cap) (P ++ [y]) ∧ Fr (fun k => k = w.heap.size + 3 ∨ V.ownBlock = some k) wx (w'.setCell ⟨w.heap.size + 3, 1, none⟩ (.slice (some ⟨g, 0, none⟩) (P.length + 1) cap)) := by
  obtain ⟨h1, h2⟩ := hp.push y (fun k hk => hL.bs.lt hk) hL.big hown hgr hat hy hyA
  refine ⟨⟨hL.aside2 h2 ?_, h1, fun t => ?_, ?_, ?_, ?_⟩, h2⟩
  · rintro k (e | e)
    · exact ⟨by omega, by omega, fun hk => (hL.lo k hk).2.1 e⟩
    · obtain ⟨a, b⟩ := hp.off k e
      exact ⟨by omega, by omega, a⟩
  · rw [hc, needT_app, needT, needT]
    have := h.need t
    omega
  · intro z hz hzi
    rcases List.mem_append.1 hz with hz | hz
    · obtain ⟨r2, a, b⟩ := h.has z hz hzi
      exact ⟨r2, List.mem_append.2 (.inl a), b⟩
    · obtain rfl := List.mem_singleton.1 hz
      exact ⟨r, List.mem_append.2 (.inr (by simp)), hyq.symm, hyf.symm⟩
  · intro r2 hr
    rcases List.mem_append.1 hr with hr | hr
    · obtain ⟨z, a, b⟩ := h.back r2 hr
      exact ⟨z, List.mem_append.2 (.inl a), b⟩
    · obtain rfl := List.mem_singleton.1 hr
      exact ⟨y, List.mem_append.2 (.inr (by simp)), hyi, hyq⟩
  · intro z hz
    rcases List.mem_append.1 hz with hz | hz
    · exact h.len z hz
    · obtain rfl := List.mem_singleton.1 hz
      exact hyl
end Go.Proofs.YtmcgaaihdjpdgaaGreatDoor
