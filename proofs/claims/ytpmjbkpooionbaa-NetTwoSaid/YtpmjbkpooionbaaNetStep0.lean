/- A fresh copy of a list of texts: append([]string{}, l...); the walk through swapped. -/
import Derived.Test.YtpmjbkpooionbaaNetBend3
import Derived.Test.YtpmjbkpooionbaaNetSwap2
import Derived.Test.YtpmjbkpooionbaaNetHelp
import Derived.Maps.AppendAt
set_option linter.unusedVariables false
namespace Go.Proofs.Ytpmjbkpooionbaa
open Go.RowKit Go.Conc

section
variable {P : Program}
theorem run_append_zero (w : World) (t ty e : TypeId) (i : TypeInfo) (ht : P.underlying t = some (.slice e)) (hi : P.info? e = some i) (B A : Option Addr) (n cap c : Nat) (hle : n ≤ cap) :
    (Builtin.append_ #[t, t] ty #[.slice B n cap, .slice A 0 c]).run P w = .ok (.slice B n cap) w := by
  have hl : ∀ a : Addr, (loadCells a 0).run P w = .ok #[] w := fun a => run_loadCells_list (P := P) w a [] (by simp)
  cases B <;> cases A <;> simp [Builtin.append_, run_underlying ht, sizeOf, typeInfo, hi, hle, storeCells, Builtin.lenOf, Builtin.firstCells, hl]

/-- 'append([]string{}, l...)': behind the block that is laid for the empty literal. -/
theorem wpList_fresh_copy {ops : Array Oper} {rest : List Oper} {o : Oper} {a : Act} {Q : Exit → Act → World → Prop} (hgd : o.guard = none) (s x : Operand) (t : TypeId)
    (ho : o.op = .call { callee := .builtin .append, args := #[s, x], argTypes := #[t, t] })
    {e : TypeId} {i : TypeInfo} {z : Value} {bytes : Nat} (ht : P.underlying t = some (.slice e)) (hi : P.info? e = some i) (hz : i.zero = some z)
    (hsize : i.size = 1) (hby : i.bytes = bytes) (hzs : z.cells.size = 1)
    {w w1 : World} (hw1 : w1 = w.alloc (.cells #[] e)) {g0 : Nat} (hg0 : g0 = w.heap.size) (hs : a.eval s = .slice (some ⟨g0, 0, none⟩) 0 0) {A : Option Addr} {n c : Nat} {xs : List Value} (hx : a.eval x = .slice A n c) (harr : Arr w w.heap.size 1 A n xs) (h1 : ∀ u ∈ xs, u.oneCell' = true)
    (h63 : n ≤ maxLen) (hbytes : n * bytes ≤ 140737488355328)
    (h : ∀ g cap w', w'.ownsRow w.heap.size e 1 (.slice (some ⟨g, 0, none⟩) n cap) n xs → Below w.heap.size w w' → wpList P ops Q rest (a.put o.dst (.slice (some ⟨g, 0, none⟩) n cap)) w') :
    wpList P ops Q (o :: rest) a w1 := by
  subst hw1
  subst hg0
  have hown : (w.alloc (.cells #[] e)).ownsRow w.heap.size e 1 (.slice (some ⟨w.heap.size, 0, none⟩) 0 0) 0 [] := World.ownsRow_lit w #[] 0 (Nat.le_refl _) (by simp [maxLen]) (by simp)
  have hB : Below w.heap.size w (w.alloc (.cells #[] e)) := (Below.refl _ _).alloc (Nat.le_refl _) _
  by_cases hn : n = 0
  · subst hn
    have hxs : xs = [] := List.eq_nil_of_length_eq_zero (by have := harr.1; omega)
    subst hxs
    refine wpList_plain hgd fun K hK => ?_
    unfold Oper.wp execOp
    simp only [ho, resolve, invoke, builtin, Sem.run_bind, Sem.run_pure, Result.andThen_ok, List.map_toArray, List.map_cons, List.map_nil, hs, hx, run_append_zero _ t o.type e i ht hi _ _ 0 0 c (Nat.le_refl _)]
    exact hK _ _ (h _ _ _ hown hB)
  · obtain ⟨ab, ao, rfl, hab, hcell⟩ := harr.2 (by omega)
    have hnews : ∀ j u, xs[j]? = some u → (w.alloc (.cells #[] e)).cell? ((⟨ab, ao, none⟩ : Addr).add j) = some u := by
      intro j u hu
      have hadd : (⟨ab, ao, none⟩ : Addr).add j = ⟨ab, ao + j, none⟩ := by unfold Addr.add; split <;> simp_all
      rw [hadd, World.cell?_alloc_past _ _ _ hab]
      exact hcell j u hu
    refine wpList_append_own_at (w.alloc (.cells #[] e)) hgd s x t ho w.heap.size e i z 1 bytes ht hi hz hsize hby hzs (by omega) _ 0 [] hs hown ⟨ab, ao, none⟩ n c xs hx harr.1 hnews h1 (by omega) (by rw [Nat.zero_add]; exact hbytes) (by simp) ?_
    intro v' w' hown' hgr _ _
    rw [Nat.zero_add, List.nil_append] at hown'
    obtain ⟨g, cap, rfl, _, _⟩ := hown'.form (by omega)
    exact h g cap w' hown' (hB.grown hgr (by simp) (fun k hk => by have h2 : some w.heap.size = some k := hk; injection h2 with h2; omega))
end
theorem str_cells (L : List ByteArray) : ∀ u ∈ L.map Value.string, u.oneCell' = true := by
  intro u hu
  obtain ⟨x, _, rfl⟩ := List.mem_map.1 hu
  rfl
theorem own_cell {w : World} {base : Nat} {e : TypeId} {g n cap : Nat} {xs : List Value} (h : w.ownsRow base e 1 (.slice (some ⟨g, 0, none⟩) n cap) n xs) {i : Nat} {u : Value} (hu : xs[i]? = some u) : w.cell? ⟨g, i, none⟩ = some u ∧ w.frozen? ⟨g, i, none⟩ = false := by
  have hadd : (⟨g, 0, none⟩ : Addr).add i = ⟨g, i, none⟩ := by unfold Addr.add; split <;> simp_all
  refine ⟨by rw [← hadd]; exact h.cells (g := g) rfl i u hu, ?_⟩
  rcases h.2 with ⟨hv, _⟩ | ⟨g', cap', cur, hv, _, hh, _⟩
  · cases hv
  · injection hv with h1
    injection h1 with h1
    injection h1 with h1
    subst h1
    exact Blk.frozen (cs := cur) hh i

theorem swap_facts {w w1 : World} {e : TypeId} {g cap ab ao i k : Nat} {L : List ByteArray} {x y : ByteArray} (hown1 : w1.ownsRow w.heap.size e 1 (.slice (some ⟨g, 0, none⟩) L.length cap) L.length (L.map Value.string)) (hb1 : Below w.heap.size w w1) (hab : ab < w.heap.size)
    (hcx : w.cell? ⟨ab, ao + i, none⟩ = some (.string x)) (hcy : w.cell? ⟨ab, ao + k, none⟩ = some (.string y)) (hx : L[i]? = some x) (hkl : k < L.length) (hil : i < L.length) :
    w1.cell? ⟨ab, ao + k, none⟩ = some (.string y) ∧ (w1.setCell ⟨g, i, none⟩ (.string y)).cell? ⟨ab, ao + i, none⟩ = some (.string x) ∧ w1.cell? ⟨g, i, none⟩ = some (.string x) ∧ w1.frozen? ⟨g, i, none⟩ = false ∧
    ∃ u2, (w1.setCell ⟨g, i, none⟩ (.string y)).cell? ⟨g, k, none⟩ = some u2 ∧ (w1.setCell ⟨g, i, none⟩ (.string y)).frozen? ⟨g, k, none⟩ = false := by
  have hgw : w.heap.size ≤ g := (hown1.lt g rfl).1
  have hag : ab ≠ g := by omega
  have hgi := own_cell hown1 (i := i) (u := .string x) (by simp [hx])
  have hcy1 := hb1.cell (p := ⟨ab, ao + k, none⟩) hab
  rw [hcy] at hcy1
  have hcx1 := hb1.cell (p := ⟨ab, ao + i, none⟩) hab
  rw [hcx] at hcx1
  have o1 := own_set hown1 i (.string y) hil
  obtain ⟨u2, hu2⟩ : ∃ u2, ((L.map Value.string).set i (.string y))[k]? = some u2 := ⟨_, List.getElem?_eq_getElem (by simpa using hkl)⟩
  have hgk := own_cell o1 hu2
  have hcx2 : (w1.setCell ⟨g, i, none⟩ (.string y)).cell? ⟨ab, ao + i, none⟩ = some (.string x) := by
    rw [World.cell?_of_block (w := w1) (Below.heap_setCell w1 ⟨g, i, none⟩ (.string y) ab hag)]; exact hcx1
  exact ⟨hcy1, hcx2, hgi.1, hgi.2, u2, hgk.1, hgk.2⟩

set_option maxHeartbeats 1000000 in
set_option maxRecDepth 100000 in
theorem swapped_any (A : Option Addr) (c : Nat) (L : List ByteArray) (i k : Nat) (x y : ByteArray) (w : World) (hl : L.length ≤ 4096) (hx : L[i]? = some x) (hy : L[k]? = some y) (harr : Arr w w.heap.size 1 A L.length (L.map Value.string)) :
    Calls Try.prog 25 #[.slice A L.length c, .int .i64 i, .int .i64 k] w fun e w' => ∃ A' c', e = .returned (.slice A' L.length c') ∧ Arr w' w'.heap.size 1 A' L.length (((L.set i y).set k x).map Value.string) ∧ Fresh w.heap.size A' ∧ Below w.heap.size w w' := by
  obtain ⟨i0, hi, hz0, hz1, hz2⟩ := info_parts infoStr
  have hil : i < L.length := by
    rcases Nat.lt_or_ge i L.length with h' | h'
    · exact h'
    · rw [List.getElem?_eq_none h'] at hx; cases hx
  have hkl : k < L.length := by
    rcases Nat.lt_or_ge k L.length with h' | h'
    · exact h'
    · rw [List.getElem?_eq_none h'] at hy; cases hy
  obtain ⟨ab, ao, rfl, hab, hcell⟩ := harr.2 (by omega)
  have hcx := hcell i (.string x) (by simp [hx])
  have hcy := hcell k (.string y) (by simp [hy])
  clear hcell
  go_enter Try.func25, Try.ntmps25
  go_wp2_with (at_builtin; refine wpList_fresh_copy rfl _ _ 22 rfl Try.underlying22 hi hz0 hz1 hz2 rfl rfl rfl rfl rfl harr (str_cells L) (by unfold maxLen; omega) (by omega) ?_; intro g cap w1 hown1 hb1; obtain ⟨hcy1, hcx2, c1, f1, u2, c2, f2⟩ := swap_facts hown1 hb1 hab hcx hcy hx hkl hil)
  go_ret
  have hgw : w.heap.size ≤ g := (hown1.lt g rfl).1
  have o1 := own_set hown1 i (.string y) hil
  have o2 := own_set o1 k (.string x) hkl
  obtain ⟨A9, c9, hA9, _, harr9, hfr9⟩ := own_arr o2
  injection hA9 with hA9 _ _
  subst hA9
  rw [List.map_set, List.map_set]
  refine ⟨_, _, rfl, harr9, hfr9, ?_⟩
  exact (hb1.setCell (p := ⟨g, i, none⟩) hgw _).setCell (p := ⟨g, k, none⟩) hgw _
end Go.Proofs.Ytpmjbkpooionbaa
