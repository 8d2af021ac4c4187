/- Chapter 22: events that came in, their marks too; clones. -/
import Derived.Test.YtakdngcgjahafaaDoorSpG
import Derived.Test.YtakdngcgjahafaaDoorSpF
set_option linter.unusedVariables false
namespace Go.Proofs.YtakdngcgjahafaaDoor
open Go.RowKit Go.WideShapes Go.ChangeShapes Go.ChangeAt Go.Deep

/-- Marks that lie in what came in. -/
def MarksIn (W : World) (A : Option Addr) (n : Nat) : Prop := ∃ L : List ByteArray, n = L.length ∧ L.length ≤ 8796093022207 ∧ Arr W W.heap.size 1 A n (L.map Value.string)
theorem MarksIn.on {W W' : World} {A : Option Addr} {n : Nat} (h : MarksIn W A n) (hb : Below W.heap.size W W') : MarksIn W' A n := by
  obtain ⟨L, h1, h2, h3⟩ := h
  exact ⟨L, h1, h2, (h3.below hb).more hb.size⟩
section
variable {H : Type} {enc : TypeId × Value → H}
theorem weights_all_mem {P : Program} {e : TypeId} : ∀ {ds : List (DataW H)} {d : DataW H}, d ∈ ds → ∀ n ∈ d.weights P e, n ∈ DataW.weightsAll P e ds
  | [], d, h, _, _ => by cases h
  | x :: ds, d, h, n, hn => by
    rw [DataW.weightsAll]
    rcases List.mem_cons.1 h with rfl | h
    · exact List.mem_append_left _ hn
    · exact List.mem_append_right _ (weights_all_mem h n hn)
theorem strs_full {W : World} {fuel : Nat} {cs : List Value} {x : DataW H × List MemPlace} (hfu : DataW.trod enc Tryd.prog W 0 (fun _ => true) true fuel 23 cs = some x) (hw : ∀ n ∈ x.1.weights Tryd.prog 23, n ≤ reachBytes) :
    ∃ (A : Option Addr) (n c : Nat), cs = [.slice A n c] ∧ MarksIn W A n := by
  rcases open_slice Tryd.underlying23 hfu with ⟨hcs, hx⟩ | ⟨a, len', cap', m, n, D, Pl, hcs, _, hl, hm, hmm, hx, hcell⟩
  · exact ⟨none, 0, 0, hcs, [], rfl, Nat.zero_le _, Arr.nil _ _ _ _⟩
  · simp only [if_true] at hmm
    subst hmm
    have c1 : Tryd.prog.cellsOf 9 = 1 := by kernel_rfl
    have b1 : Tryd.prog.bytesOf 9 = 16 := by kernel_rfl
    have each : ∀ i, i < m → ∃ s : ByteArray, W.cell? (a.add (i * 1 + 0)) = some (.string s) := by
      intro i hi
      obtain ⟨cs', h1, h2⟩ := hcell i hi
      rw [c1] at h1
      obtain ⟨_, hlen, hc⟩ := World.cells?_some h1
      obtain ⟨s, hs, _, _⟩ := DataW.trod_string Tryd.underlying9 h2
      have hs' : cs' = [.string s] := by simpa using hs
      subst hs'
      have := hc 0 (by omega)
      rw [add_add] at this
      exact ⟨s, this⟩
    obtain ⟨q, hq⟩ := choose_lt each
    refine ⟨some a, len', m, hcs, (List.range len').map q, by simp, ?_, ?_⟩
    · have h9 := hw ((((List.range len').map D).length + ((List.range (m - len')).map fun j => D (len' + j)).length) * Tryd.prog.bytesOf 9) (by
        rw [hx]
        simp only [DataW.weights, Tryd.underlying23]
        exact List.mem_cons_self ..)
      rw [b1] at h9
      unfold reachBytes at h9
      simp at h9 ⊢
      omega
    · have hr : Arr W W.heap.size 1 (some a) (((List.range len').map q).map fun s => [Value.string s]).length (((List.range len').map q).map fun s => [Value.string s]).flatten := by
        refine arr_of_recs (by omega) ?_ ?_
        · intro x hx
          obtain ⟨y, hy, rfl⟩ := List.mem_map.1 hx
          rfl
        · intro i j x u hx hu
          have hi : i < len' := by
            rcases Nat.lt_or_ge i len' with h | h
            · exact h
            · rw [List.getElem?_eq_none (by simp; exact h)] at hx; cases hx
          rw [List.getElem?_map, List.getElem?_map, List.getElem?_range hi] at hx
          simp only [Option.map_some, Option.some.injEq] at hx
          subst hx
          cases j with
          | zero =>
            simp at hu
            subst hu
            exact hq i (by omega)
          | succ j => simp at hu
      rw [List.length_map, List.length_map, List.length_range] at hr
      have hf : (((List.range len').map q).map fun s => [Value.string s]).flatten = ((List.range len').map q).map Value.string := by
        induction (List.range len').map q with
        | nil => rfl
        | cons x l ih => rw [List.map_cons, List.flatten_cons, ih]; rfl
      rw [hf] at hr
      exact hr
theorem agg_weights {P : Program} {t : TypeId} {fs : Array Field} (hu : P.underlying t = some (.struct fs)) {parts : List (DataW H)} {j : Nat} {f : Field} {d : DataW H} (hf : fs[j]? = some f) (hd : parts[j]? = some d) (hw : ∀ n ∈ (DataW.agg parts).weights P t, n ≤ reachBytes) : ∀ n ∈ d.weights P f.type, n ≤ reachBytes := by
  intro n hn
  refine hw n ?_
  simp only [DataW.weights, hu]
  exact DataW.weights_mem_each (j := j) (by rw [List.getElem?_map, Array.getElem?_toList, hf]; rfl) hd n hn
set_option maxRecDepth 100000 in
/-- An answer's marks. -/
theorem ans_marks {W : World} {fuel : Nat} {cs : List Value} {x : DataW H × List MemPlace} (h : DataW.trod enc Tryd.prog W 0 (fun _ => true) true fuel 34 cs = some x) (hw : ∀ n ∈ x.1.weights Tryd.prog 34, n ≤ reachBytes) :
    ∃ (M : Option Addr) (mn mc : Nat), cs[4]? = some (.slice M mn mc) ∧ MarksIn W M mn := by
  obtain ⟨xs, n, rfl, hx, hlen, hxl, hff⟩ := DataW.trod_struct Tryd.underlying34 h
  rw [c_ans] at hlen
  have hxl5 : xs.length = 5 := hxl
  match cs, hlen with
  | [a, b, c, d, f], _ =>
    obtain ⟨x4, e4⟩ := xs_at hxl5 (i := 4) (by omega)
    have h4 := hff 4 _ rfl
    rw [e4] at h4
    have hw4 := agg_weights Tryd.underlying34 (j := 4) rfl (d := x4.1) (by rw [List.getElem?_map, e4]; rfl) (by rw [hx] at hw; exact hw)
    change DataW.trod enc Tryd.prog W 0 _ true n 23 (([a, b, c, d, f].drop 4).take (Tryd.prog.cellsOf 23)) = _ at h4
    rw [c_strs] at h4
    obtain ⟨M, mn, mc, hM, hin⟩ := strs_full h4 hw4
    have hM' : f = .slice M mn mc := by simpa using hM
    subst hM'
    exact ⟨M, mn, mc, rfl, hin⟩
set_option maxRecDepth 100000 in
theorem ev_marks {W : World} {fuel : Nat} {cs : List Value} {x : DataW H × List MemPlace} (h : DataW.trod enc Tryd.prog W 0 (fun _ => true) true fuel 54 cs = some x) (hw : ∀ n ∈ x.1.weights Tryd.prog 54, n ≤ reachBytes) :
    ∃ e : EvD, cs = ecell e ∧ EvIn W e ∧ MarksIn W e.mA e.mN := by
  obtain ⟨e, he, hin⟩ := ev_of h
  obtain ⟨xs, n, rfl, hx, hlen, hxl, hff⟩ := DataW.trod_struct Tryd.underlying54 h
  have hxl4 : xs.length = 4 := hxl
  obtain ⟨x3, e3⟩ := xs_at hxl4 (i := 3) (by omega)
  have h3 := hff 3 _ rfl
  rw [e3] at h3
  have hw3 := agg_weights Tryd.underlying54 (j := 3) rfl (d := x3.1) (by rw [List.getElem?_map, e3]; rfl) (by rw [hx] at hw; exact hw)
  change DataW.trod enc Tryd.prog W 0 _ true n 34 ((cs.drop 5).take (Tryd.prog.cellsOf 34)) = _ at h3
  rw [c_ans] at h3
  obtain ⟨M, mn, mc, hM, hmin⟩ := ans_marks h3 hw3
  rw [he] at hM
  have hM' : (Value.slice e.mA e.mN e.mC) = .slice M mn mc := by simpa [ecell] using hM
  injection hM' with m1 m2 m3
  exact ⟨e, he, hin, by rw [m1, m2]; exact hmin⟩
set_option maxRecDepth 100000 in
theorem open_eventsM {r : Reach} {b0 : Nat} {W : World} {v : Value} {d : DataW H} {ps : List MemPlace}
    (hval : Value.okWide Tryd.prog W r b0 43 v) (h : DataW.Trod enc Tryd.prog W 0 (fun _ => true) true 43 v d ps) (hw : ∀ n ∈ d.weights Tryd.prog 43, n ≤ reachBytes) :
    ∃ (A : Option Addr) (c : Nat) (l : List EvD), v = .slice A l.length c ∧ l.length ≤ c ∧ (∀ x ∈ l, EvIn W x ∧ MarksIn W x.mA x.mN) ∧ Arr W W.heap.size 10 A l.length (ecells l) ∧ (l.length = 0 ∨ ∃ es sp, d = .slice es sp ∧ es.length = l.length) := by
  obtain ⟨a0, len, cap, rfl⟩ := okWide_slice Tryd.underlying43 hval
  obtain ⟨fuel, hfu⟩ := h
  rcases open_slice Tryd.underlying43 hfu with ⟨hcs, hx⟩ | ⟨a, len', cap', m, n, D, Pl, hcs, _, hl, hm, hmm, hx, hcell⟩
  · simp [Value.cells] at hcs
    obtain ⟨rfl, rfl, rfl⟩ := hcs
    exact ⟨none, 0, [], rfl, Nat.le_refl _, by simp, Arr.nil _ _ _ _, .inl rfl⟩
  · simp [Value.cells] at hcs
    obtain ⟨rfl, rfl, rfl⟩ := hcs
    simp only [if_true] at hmm
    subst hmm
    injection hx with hd hp
    have each : ∀ i, i < len → ∃ y : EvD, (EvIn W y ∧ MarksIn W y.mA y.mN) ∧ (ecell y).length = 10 ∧ ∀ (j : Nat) (u : Value), (ecell y)[j]? = some u → W.cell? (a.add (i * 10 + j)) = some u := by
      intro i hi
      obtain ⟨cs', h1, h2⟩ := hcell i (by omega)
      rw [c_ev] at h1
      obtain ⟨_, hlen, hc⟩ := World.cells?_some h1
      obtain ⟨y, rfl, hy, hy2⟩ := ev_marks h2 (fun q hq => hw q (by
        rw [hd]
        simp only [DataW.weights, Tryd.underlying43]
        refine List.mem_cons_of_mem _ (List.mem_append_left _ (weights_all_mem (List.mem_map.2 ⟨i, List.mem_range.2 hi, rfl⟩) q hq))))
      refine ⟨y, ⟨hy, hy2⟩, hlen, fun j u hu => ?_⟩
      have hjl : j < 10 := by
        rcases Nat.lt_or_ge j (ecell y).length with h | h
        · omega
        · rw [List.getElem?_eq_none h] at hu; cases hu
      have := hc j hjl
      rw [add_add, hu] at this
      exact this
    obtain ⟨q, hq⟩ := choose_lt each
    have hlen : ((List.range len).map q).length = len := by simp
    refine ⟨some a, m, (List.range len).map q, by rw [hlen], by rw [hlen]; exact hl, ?_, ?_, .inr ⟨(List.range len).map D, _, hd, by simp⟩⟩
    · intro x hx
      obtain ⟨i, hi, rfl⟩ := List.mem_map.1 hx
      exact (hq i (List.mem_range.1 hi)).1
    · have hr : Arr W W.heap.size 10 (some a) (((List.range len).map q).map ecell).length (((List.range len).map q).map ecell).flatten := by
        refine arr_of_recs (by omega) ?_ ?_
        · intro x hx
          obtain ⟨y, hy, rfl⟩ := List.mem_map.1 hx
          rfl
        · intro i j x u hx hu
          have hi : i < len := by
            rcases Nat.lt_or_ge i len with h | h
            · exact h
            · rw [List.getElem?_eq_none (by simp; exact h)] at hx; cases hx
          rw [List.getElem?_map, List.getElem?_map, List.getElem?_range hi] at hx
          simp only [Option.map_some, Option.some.injEq] at hx
          subst hx
          exact (hq i hi).2.2 j u hu
      rw [List.length_map] at hr
      exact hr
end
theorem fcells_one (l : List FileD) : ∀ u ∈ fcells l, u.oneCell' = true := by
  intro u hu
  unfold fcells at hu
  obtain ⟨r, hr, hu⟩ := List.mem_flatten.1 hu
  obtain ⟨f, _, rfl⟩ := List.mem_map.1 hr
  simp [fcell] at hu
  rcases hu with rfl | rfl | rfl <;> rfl
set_option maxHeartbeats 1000000 in
set_option maxRecDepth 100000 in
theorem clone_file (A : Option Addr) (c : Nat) (L : List FileD) (w : World) (hl : L.length ≤ 1048576) (ha : Arr w w.heap.size 3 A L.length (fcells L)) :
    Calls Tryd.prog 51 #[.slice A L.length c] w fun e w' => ∃ v, e = .returned v ∧ w'.ownsRow w.heap.size 69 3 v L.length (fcells L) ∧ Below w.heap.size w w' := by
  obtain ⟨i0, hi0, hz0, hz1, hz2⟩ := info_parts infoFile
  have HA := Lib.hid ha
  have q23 : ∀ (w : World) (a : Option Addr) (n c n' c' : Nat), (binOp .eql 28 (.slice a n c) (.slice none n' c')).run Tryd.prog w = .ok (.bool a.isNone) w := fun w a n c n' c' => Lib.run_eql_slice_nil w _ _ a n c n' c' Tryd.underlying28
  have hown : (w.alloc (.cells #[] 69)).ownsRow w.heap.size 69 3 (.slice (some ⟨w.heap.size, 0, none⟩) 0 0) 0 [] := World.ownsRow_lit w #[] 0 (Nat.le_refl _) (by simp [maxLen]) (by simp)
  have hB : Below w.heap.size w (w.alloc (.cells #[] 69)) := (Below.refl _ _).alloc (Nat.le_refl _) _
  have hone := Lib.hid (fcells_one L)
  clear ha
  cases A with
  | none =>
    have hl0 : L = [] := by
      have h := HA.out.2
      rcases Nat.eq_zero_or_pos L.length with h0 | h0
      · exact List.eq_nil_of_length_eq_zero h0
      · obtain ⟨b, o, e, _⟩ := h h0
        cases e
    subst hl0
    clear HA
    go_enter Tryd.func51, Tryd.ntmps51
    go_wp2
    go_ret
    exact ⟨_, rfl, World.ownsRow_nil _ _ _ _, Below.refl _ _⟩
  | some ad =>
    go_enter Tryd.func51, Tryd.ntmps51
    go_wp2_with (at_builtin; refine wpList_append_arr _ rfl _ _ 28 rfl Tryd.underlying28 hi0 hz0 hz1 hz2 rfl (by decide) hown rfl rfl (HA.out.below hB) hone.out (by rw [Nat.zero_add]; unfold maxLen; omega) (by rw [Nat.zero_add]; omega) hB.size ?_; intro v' w' hown' hgr' hat')
    go_ret
    exact ⟨_, rfl, by simpa using hown', hB.grown hgr' (by simp) (fun k hk => by simp [Value.ownBlock] at hk; omega)⟩
end Go.Proofs.YtakdngcgjahafaaDoor
