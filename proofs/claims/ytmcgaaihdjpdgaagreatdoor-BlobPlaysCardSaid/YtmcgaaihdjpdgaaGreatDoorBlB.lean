/- Chapter 11: slices.Insert of one text into the row.; Chapter 11: slices.Insert of one text within the row, where there is room.; Chapter 11: slices.Insert of one text within the row, where there is no room.; Chapter 11: slices.Insert of one text, any place. -/
import Derived.Test.YtmcgaaihdjpdgaaGreatDoorBlA
import Derived.Laws.CopyRow
import Derived.Lib.Overlaps
import Derived.Lib.AppendZerosOnto
import Derived.BigRegion
import Derived.Laws.Externs
/- Chapter 11: slices.Insert of one text into the row. -/
namespace Go.Proofs.YtmcgaaihdjpdgaaGreatDoor
open Go.RowKit
set_option linter.unusedVariables false

theorem infoKept : (Tryz.prog.info? 60).map (fun i => (i.zero, i.size, i.bytes)) = some (some (.agg #[.string .empty, .string .empty, .int .i64 0]), 3, 40) := by kernel_rfl
theorem kept_zero : (Value.agg #[.string .empty, .string .empty, .int .i64 0]).cells.size = 3 := rfl
theorem kcells_one (l : List KpD) : ∀ u ∈ kcells l, u.oneCell' = true := by
  intro u hu
  unfold kcells at hu
  obtain ⟨r, hr, hu⟩ := List.mem_flatten.1 hu
  obtain ⟨k, _, rfl⟩ := List.mem_map.1 hr
  simp [kcell] at hu
  rcases hu with rfl | rfl | rfl <;> rfl
/-- copy of elements of more cells than one, into a row. -/
theorem run_copyK {P : Program} (w : World) (dT sT ty elem : TypeId) (g o dLen dCap : Nat) (a : Addr) (sLen sCap : Nat) (cur : Array Value) (t : TypeId) (xs : List Value) (k : Nat)
    (hu : P.underlying dT = some (.slice elem)) (hs : (P.info? elem).map (·.size) = some k)
    (hg : w.heap[g]? = some (.cells cur t (0, 0))) (hn : xs.length = Nat.min sLen dLen * k)
    (hsrc : ∀ j v, xs[j]? = some v → w.cell? (a.add j) = some v) (hfit : o + xs.length ≤ cur.size) (h1 : ∀ v ∈ xs, v.oneCell' = true) :
    (Builtin.copy_ #[dT, sT] ty #[.slice (some ⟨g, o, none⟩) dLen dCap, .slice (some a) sLen sCap]).run P w =
      .ok (goInt (Nat.min sLen dLen)) (w.setRow g (cur.toList.take o ++ xs ++ cur.toList.drop (o + xs.length)).toArray) := by
  have hl := run_loadCells_list (P := P) w a xs hsrc
  have hst := run_storeCells_at P g o t xs 0 cur w hg (by simpa using hfit) h1
  cases hq : P.info? elem with
  | none => simp [hq] at hs
  | some i =>
    have hi : i.size = k := by simpa [hq] using hs
    simp [Builtin.copy_, run_underlying hu, Builtin.lenOf, Builtin.firstCells, sizeOf, typeInfo, hq, hi, ← hn, hl, hst]
theorem ownBlock_cap (A : Option Addr) (n c n' c' : Nat) : (Value.slice A n c).ownBlock = (Value.slice A n' c').ownBlock := by cases A <;> rfl
theorem grown_cap {w w' : World} {A : Option Addr} {n c n' c' : Nat} (h : w.grownBy w' (Value.slice A n c).ownBlock) : w.grownBy w' (Value.slice A n' c').ownBlock := by rw [ownBlock_cap A n' c' n c]; exact h
def insK (l : List KpD) (i : Nat) (x : KpD) : List KpD := l.take i ++ x :: l.drop i
def InsOut (w : World) (B : Nat) (v : Value) (L : List KpD) (e : Ending) (w' : World) : Prop := ∃ v', e = .returned v' ∧ w'.ownsRow B 60 3 v' L.length (kcells L) ∧ w.grownBy w' v.ownBlock ∧ (v'.ownBlock = v.ownBlock ∨ v'.ownBlock = some w.heap.size)
set_option maxHeartbeats 2000000 in
set_option maxRecDepth 100000 in
theorem ins_end (w : World) (B : Nat) (v : Value) (l : List KpD) (x : KpD) (vb : Nat) (h : w.ownsRow B 60 3 v l.length (kcells l)) (hv : Blk w vb 60 #[.string x.mark, .string x.text, .int .i64 x.refs]) (hl : l.length ≤ 100000) (hbs : B ≤ w.heap.size) :
    Calls Tryz.prog 43 #[v, .int .i64 l.length, .slice (some ⟨vb, 0, none⟩) 1 1] w (InsOut w B v (l ++ [x])) := by
  obtain ⟨i0, hi0, hz0, hz1, hz2⟩ := info_parts infoKept
  have HO := Lib.hid h
  have harr : Arr w w.heap.size 3 (some ⟨vb, 0, none⟩) 1 (kcells [x]) := ⟨rfl, fun _ => ⟨vb, 0, rfl, hv.lt, fun j u hu => by
    rw [Nat.zero_add, hv.cell j, ← hu, ← Array.getElem?_toList]; rfl⟩⟩
  have HA := Lib.hid harr
  obtain ⟨A, c, rfl, hcap, _, _⟩ := own_arr h
  obtain ⟨n, hn⟩ : ∃ n, l.length = n := ⟨_, rfl⟩
  have Hn := Lib.hid hn
  rw [hn] at HO hcap hl ⊢
  clear h hv harr hn
  go_enter Tryz.func43, Tryz.ntmps43
  go_wp2_with (at_builtin; refine wpList_append_arr _ rfl _ _ 50 rfl Tryz.underlying50 hi0 hz0 hz1 hz2 kept_zero (by decide) HO.out rfl rfl HA.out (kcells_one [x]) (by unfold maxLen; omega) (by omega) hbs ?_; intro v' w' hown' hgr' hat')
  all_goals
    go_ret
    unfold InsOut
    rw [List.length_append, Hn.out, kcells_app]
    exact ⟨_, rfl, hown', grown_cap hgr', by rw [ownBlock_cap A _ _ n c]; exact hat'⟩
end Go.Proofs.YtmcgaaihdjpdgaaGreatDoor
/- Chapter 11: slices.Insert of one text within the row, where there is room. -/
namespace Go.Proofs.YtmcgaaihdjpdgaaGreatDoor
open Go.RowKit
set_option linter.unusedVariables false

theorem kcells_take (l : List KpD) (i : Nat) : kcells (l.take i) = (kcells l).take (i * 3) := by
  induction l generalizing i with
  | nil => simp [kcells]
  | cons k l ih =>
    cases i with
    | zero => rfl
    | succ i =>
      rw [List.take_succ_cons, kcells_cons, kcells_cons, ih, show (i + 1) * 3 = i * 3 + 3 by omega]
      rfl
theorem kcells_drop (l : List KpD) (i : Nat) : kcells (l.drop i) = (kcells l).drop (i * 3) := by
  induction l generalizing i with
  | nil => simp [kcells]
  | cons k l ih =>
    cases i with
    | zero => rfl
    | succ i =>
      rw [List.drop_succ_cons, kcells_cons, ih, show (i + 1) * 3 = i * 3 + 3 by omega]
      rfl
/-- Two copies that make room and fill it, as lists of cells. -/
theorem shift_list {α : Type} (C X K : List α) (a n r : Nat) (hX : X.length = r) (hK : K.length = 3) (hn : n = a + r) (hC : n + 3 ≤ C.length) :
    (((C.take (a + 3) ++ X ++ C.drop (a + 3 + X.length)).take a ++ K ++ (C.take (a + 3) ++ X ++ C.drop (a + 3 + X.length)).drop (a + K.length)).take (n + 3)) = C.take a ++ K ++ X := by
  have e1 : (C.take (a + 3) ++ X ++ C.drop (a + 3 + X.length)).take a = C.take a := by
    rw [List.append_assoc, List.take_append_of_le_length (by rw [List.length_take]; omega), List.take_take]
    congr 1
    omega
  have e2 : (C.take (a + 3) ++ X ++ C.drop (a + 3 + X.length)).drop (a + K.length) = X ++ C.drop (a + 3 + X.length) := by
    have hl : (C.take (a + 3)).length = a + K.length := by rw [List.length_take, hK]; omega
    rw [List.append_assoc, ← hl, List.drop_left]
  rw [e1, e2, ← List.append_assoc, List.take_append_of_le_length (by simp only [List.length_append, List.length_take]; omega), List.take_of_length_le (by simp only [List.length_append, List.length_take]; omega)]
set_option maxHeartbeats 4000000 in
set_option maxRecDepth 100000 in
theorem ins_room (w : World) (B g n cap i vb : Nat) (cur : Array Value) (l : List KpD) (x : KpD) (hg : w.heap[g]? = some (.cells cur 60 (0, 0))) (hB : B ≤ g) (hcm : cap ≤ maxLen) (hcs : cur.size = cap * 3) (htk : cur.toList.take (n * 3) = kcells l) (hn : l.length = n) (hi : i < n) (hroom : n + 1 ≤ cap) (hnl : n ≤ 100000)
    (hv : Blk w vb 60 #[.string x.mark, .string x.text, .int .i64 x.refs]) (hvg : vb ≠ g) :
    Calls Tryz.prog 43 #[.slice (some ⟨g, 0, none⟩) n cap, .int .i64 i, .slice (some ⟨vb, 0, none⟩) 1 1] w (InsOut w B (.slice (some ⟨g, 0, none⟩) n cap) (insK l i x)) := by
  have hX : ((kcells l).drop (i * 3)).length = (n - i) * 3 := by rw [List.length_drop, kcells_len, hn]; omega
  have hsz : (Tryz.prog.info? 60).map (·.size) = some 3 := by
    obtain ⟨i0, hi0, _, hz1, _⟩ := info_parts infoKept
    rw [hi0]; simp [hz1]
  obtain ⟨X, hXe⟩ : ∃ X, X = (kcells l).drop (i * 3) := ⟨_, rfl⟩
  obtain ⟨cur1, hc1⟩ : ∃ cur1, cur1 = (cur.toList.take (i * 3 + 3) ++ X ++ cur.toList.drop (i * 3 + 3 + X.length)).toArray := ⟨_, rfl⟩
  rw [← hXe] at hX
  have hone : ∀ v ∈ X, v.oneCell' = true := fun v hv => kcells_one l v (List.mem_of_mem_drop (by rw [hXe] at hv; exact hv))
  have hcp1 : ∀ ty dc sc, (Builtin.copy_ #[50, 50] ty #[.slice (some ⟨g, i * 3 + 3, none⟩) (n - i) dc, .slice (some ⟨g, i * 3, none⟩) (n + 1 - i) sc]).run Tryz.prog w.drew = .ok (goInt ((n - i : Nat) : Int)) (w.drew.setRow g cur1) := fun ty dc sc => by
    have := run_copyK (P := Tryz.prog) w.drew 50 50 ty 60 g (i * 3 + 3) (n - i) dc ⟨g, i * 3, none⟩ (n + 1 - i) sc cur 60 X 3 Tryz.underlying50 hsz hg (by rw [hX]; simp only [Nat.min_def]; split <;> omega)
      (fun j v hj => by
        rw [show ((⟨g, i * 3, none⟩ : Addr).add j) = ⟨g, i * 3 + j, none⟩ by unfold Addr.add; simp]
        rw [hXe, List.getElem?_drop, ← htk, List.getElem?_take] at hj
        split at hj
        · show w.cell? _ = _
          rw [cell_of_row w g _ cur 60 (0, 0) hg, ← Array.getElem?_toList]; exact hj
        · cases hj) (by rw [hX]; omega) hone
    rw [this, ← hc1, show Nat.min (n + 1 - i) (n - i) = n - i by simp only [Nat.min_def]; split <;> omega]
  obtain ⟨K, hK⟩ : ∃ K, K = kcell x := ⟨_, rfl⟩
  have hKl : K.length = 3 := by rw [hK]; rfl
  have hc1s : cur1.size = cur.size := by
    rw [hc1, List.size_toArray]
    simp only [List.length_append, List.length_take, List.length_drop, Array.length_toList]
    omega
  have hg1 : (w.drew.setRow g cur1).heap[g]? = some (.cells cur1 60 (0, 0)) := setRow_heap w.drew g cur cur1 60 (0, 0) hg
  have hv1 : Blk (w.drew.setRow g cur1) vb 60 #[.string x.mark, .string x.text, .int .i64 x.refs] := by
    show (w.drew.setRow g cur1).heap[vb]? = _
    rw [setRow_other w.drew g vb cur1 hvg]
    exact hv
  obtain ⟨cur2, hc2⟩ : ∃ cur2, cur2 = (cur1.toList.take (i * 3) ++ K ++ cur1.toList.drop (i * 3 + K.length)).toArray := ⟨_, rfl⟩
  have hcp2 : ∀ ty dc, (Builtin.copy_ #[50, 50] ty #[.slice (some ⟨g, i * 3, none⟩) (n + 1 - i) dc, .slice (some ⟨vb, 0, none⟩) 1 1]).run Tryz.prog (w.drew.setRow g cur1) = .ok (goInt ((1 : Nat) : Int)) ((w.drew.setRow g cur1).setRow g cur2) := fun ty dc => by
    have := run_copyK (P := Tryz.prog) (w.drew.setRow g cur1) 50 50 ty 60 g (i * 3) (n + 1 - i) dc ⟨vb, 0, none⟩ 1 1 cur1 60 K 3 Tryz.underlying50 hsz hg1 (by rw [hKl]; simp only [Nat.min_def]; split <;> omega)
      (fun j v hj => by
        rw [show ((⟨vb, 0, none⟩ : Addr).add j) = ⟨vb, j, none⟩ by unfold Addr.add; simp; intro h; exact h.symm]
        rw [hv1.cell j, ← hj, hK, ← Array.getElem?_toList]; rfl) (by rw [hKl, hc1s]; omega) (by
        intro v hv
        exact kcells_one [x] v (by rw [hK] at hv; exact hv))
    rw [this, ← hc2, show Nat.min 1 (n + 1 - i) = 1 by simp only [Nat.min_def]; split <;> omega]
  have hfin : cur2.toList.take ((n + 1) * 3) = kcells (insK l i x) := by
    have := shift_list cur.toList X K (i * 3) (n * 3) ((n - i) * 3) hX hKl (by omega) (by rw [Array.length_toList]; omega)
    rw [hc2, hc1]
    show List.take _ _ = _
    rw [show (n + 1) * 3 = n * 3 + 3 by omega]
    refine Eq.trans this ?_
    unfold insK
    rw [kcells_app, kcells_cons, kcells_take, kcells_drop, ← htk, List.take_take, show min (i * 3) (n * 3) = i * 3 by omega, htk, ← hXe, hK, List.append_assoc]
  have hc2s : cur2.size = cur.size := by
    rw [hc2, List.size_toArray]
    simp only [List.length_append, List.length_take, List.length_drop, Array.length_toList, hKl]
    omega
  have hov : ∀ lb cb, (callFunc 75 #[.slice (some ⟨vb, 0, none⟩) 1 1, .slice (some ⟨g, i * 3 + 3, none⟩) lb cb]).run Tryz.prog w = .ok (.value (.bool false)) w := fun lb cb => by
    rw [run_callFunc_extern Tryz.func75 (by kernel_rfl) (by kernel_rfl) (by kernel_rfl) (e := Extern.SlicesOverlaps.overlaps #[50, 50] #[4]) (by kernel_rfl),
      Lib.run_overlaps_apart w 50 4 60 Tryz.underlying50 3 (fun w => by kernel_rfl) ⟨vb, 0, none⟩ ⟨g, i * 3 + 3, none⟩ 1 1 lb cb hvg 60 60 3 cur.size (by unfold World.shape?; rw [show w.heap[vb]? = _ from hv]; rfl) (by unfold World.shape?; rw [show w.heap[(⟨g, i * 3 + 3, none⟩ : Addr).block]? = _ from hg]) (by omega) (hv.frozen 0) (hv.frozen 3)]
    rfl
  have mixed : Tryz.prog.follows .mixedOrders = true := by kernel_rfl
  have hw1 : IntKind.i64.wrap ((i : Int) + 1) = (i : Int) + 1 := by rw [IntKind.wrap_i64]; omega
  have hb1 : (0 : Int) ≤ (i : Int) + 1 := by omega
  have hb2 : (i : Int) + 1 ≤ (n : Int) + 1 := by omega
  have htn : ((i : Int) + 1).toNat = i + 1 := by omega
  have hb3 : (i : Int) ≤ (n : Int) + 1 := by omega
  have hnn : n + 1 - (i + 1) = n - i := by omega
  have f1 : ((i : Int) == n) = false := by rw [beq_eq_false_iff_ne]; omega
  have f2 : ¬ (cap : Int) < n + 1 := by omega
  have f3 : ¬ cap = i := by omega
  have f4 : ¬ cap = i + 1 := by omega
  have e3 : i * 3 + 3 = (i + 1) * 3 := by omega
  rw [e3] at hov hcp1
  have HC1 := Lib.hid hcp1
  have HC2 := Lib.hid hcp2
  have HF := Lib.hid hfin
  clear hc1 hc2 hfin hXe htk hcp1 hcp2 hX hone hKl hK hv1 e3
  go_enter Tryz.func43, Tryz.ntmps43
  go_wp2_with (simp only [hov])
  have hq := HC1.out
  go_region
  clear hq
  have hq2 := HC2.out
  go_wp2
  clear hq2
  go_ret
  unfold InsOut
  have hlen : (insK l i x).length = n + 1 := by unfold insK; rw [List.length_append, List.length_cons, List.length_take, List.length_drop]; omega
  have hg2 : ((w.drew.setRow g cur1).setRow g cur2).heap[g]? = some (.cells cur2 60 (0, 0)) := setRow_heap _ g cur1 cur2 60 (0, 0) hg1
  refine ⟨_, rfl, ?_, ?_, .inl rfl⟩
  · rw [hlen]
    exact ⟨by rw [kcells_len, hlen], .inr ⟨g, cap, cur2, rfl, hB, hg2, hroom, hcm, by rw [hc2s]; exact hcs, HF.out⟩⟩
  · refine ⟨rfl, rfl, rfl, by rw [setRow_size, setRow_size]; exact Nat.le_refl _, fun k hk hne => ?_⟩
    have hkg : k ≠ g := fun e => hne (by rw [e]; rfl)
    rw [setRow_other _ g k cur2 hkg, setRow_other _ g k cur1 hkg]
    rfl
end Go.Proofs.YtmcgaaihdjpdgaaGreatDoor
/- Chapter 11: slices.Insert of one text within the row, where there is no room. -/
namespace Go.Proofs.YtmcgaaihdjpdgaaGreatDoor
open Go.RowKit
set_option linter.unusedVariables false

theorem grow_list {α : Type} (P Z1 Z2 K X : List α) (a r : Nat) (hP : P.length = a) (hK : K.length = 3) (hX : X.length = r) (hZ : Z1.length = r + 3) :
    (((P ++ Z1 ++ Z2).take a ++ K ++ (P ++ Z1 ++ Z2).drop (a + K.length)).take (a + 3) ++ X ++ ((P ++ Z1 ++ Z2).take a ++ K ++ (P ++ Z1 ++ Z2).drop (a + K.length)).drop (a + 3 + X.length)).take (a + 3 + r) = P ++ K ++ X := by
  have e1 : (P ++ Z1 ++ Z2).take a = P := by rw [List.append_assoc, ← hP, List.take_left]
  have e2 : ((P ++ K) ++ (P ++ Z1 ++ Z2).drop (a + K.length)).take (a + 3) = P ++ K := by
    have : (P ++ K).length = a + 3 := by rw [List.length_append, hP, hK]
    rw [← this, List.take_left]
  rw [e1, e2, List.take_append_of_le_length (by rw [List.length_append, List.length_append, hP, hK, hX]; omega), List.take_of_length_le (by rw [List.length_append, List.length_append, hP, hK, hX]; omega)]
theorem zero_len (k : Nat) : (Builtin.zeroCells (Value.agg #[.string .empty, .string .empty, .int .i64 0]).cells k).size = k * 3 := by
  simp [Builtin.zeroCells, Value.cells]
set_option maxHeartbeats 4000000 in
set_option maxRecDepth 100000 in
theorem ins_grow (w : World) (B g n cap i vb : Nat) (cur : Array Value) (l : List KpD) (x : KpD) (hg : w.heap[g]? = some (.cells cur 60 (0, 0))) (hBw : B ≤ w.heap.size) (hnc : n ≤ cap) (htk : cur.toList.take (n * 3) = kcells l) (hn : l.length = n) (hi : i < n) (hroom : cap < n + 1) (hnl : n ≤ 100000)
    (hv : Blk w vb 60 #[.string x.mark, .string x.text, .int .i64 x.refs]) :
    Calls Tryz.prog 43 #[.slice (some ⟨g, 0, none⟩) n cap, .int .i64 i, .slice (some ⟨vb, 0, none⟩) 1 1] w (InsOut w B (.slice (some ⟨g, 0, none⟩) n cap) (insK l i x)) := by
  obtain ⟨i0, hi0, hz0, hz1, hz2⟩ := info_parts infoKept
  have hsz : (Tryz.prog.info? 60).map (·.size) = some 3 := by rw [hi0]; simp [hz1]
  have hcell : ∀ j, j < n * 3 → ∀ v, (kcells l)[j]? = some v → w.cell? ⟨g, j, none⟩ = some v := fun j hj v h => by
    rw [← htk, List.getElem?_take, if_pos hj] at h
    rw [cell_of_row w g _ cur 60 (0, 0) hg, ← Array.getElem?_toList]; exact h
  have hgw : g < w.heap.size := (Array.getElem?_eq_some_iff.1 hg).1
  obtain ⟨X, hXe⟩ : ∃ X, X = (kcells l).drop (i * 3) := ⟨_, rfl⟩
  have hX : X.length = (n - i) * 3 := by rw [hXe, List.length_drop, kcells_len, hn]; omega
  obtain ⟨Q, hQe⟩ : ∃ Q, Q = (kcells l).take (i * 3) := ⟨_, rfl⟩
  have hQ : Q.length = i * 3 := by rw [hQe, List.length_take, kcells_len, hn]; omega
  obtain ⟨K, hK⟩ : ∃ K, K = kcell x := ⟨_, rfl⟩
  have hKl : K.length = 3 := by rw [hK]; rfl
  have hold : (Builtin.firstCells i0.size i (.slice (some ⟨g, 0, none⟩) i cap)).run Tryz.prog w.drew = .ok Q.toArray w.drew := by
    rw [hz1]
    exact run_firstCells_some w.drew 3 i ⟨g, 0, none⟩ i cap Q hQ (fun j v hj => by
      rw [show ((⟨g, 0, none⟩ : Addr).add j) = ⟨g, j, none⟩ by unfold Addr.add; simp; intro h; exact h.symm]
      rw [hQe, List.getElem?_take] at hj
      split at hj
      · exact hcell j (by omega) v hj
      · cases hj)
  obtain ⟨Z1, hZ1⟩ : ∃ Z1, Z1 = Builtin.zeroCells (Value.agg #[.string .empty, .string .empty, .int .i64 0]).cells (n + 1 - i) := ⟨_, rfl⟩
  obtain ⟨G, hG⟩ : ∃ G, G = grownCap w (n + 1) cap 60 := ⟨_, rfl⟩
  obtain ⟨Z2, hZ2⟩ : ∃ Z2, Z2 = Builtin.zeroCells (Value.agg #[.string .empty, .string .empty, .int .i64 0]).cells (G - (n + 1)) := ⟨_, rfl⟩
  have hZ1l : Z1.size = (n + 1 - i) * 3 := by rw [hZ1, zero_len]
  have hZ2l : Z2.size = (G - (n + 1)) * 3 := by rw [hZ2, zero_len]
  have hkk : (n : Int) + 1 - i = ((n + 1 - i : Nat) : Int) := by omega
  obtain ⟨R, hR⟩ : ∃ R, R = Q.toArray ++ Z1 ++ Z2 := ⟨_, rfl⟩
  have hrz : ∀ ty, (Builtin.append_ #[50, 3] ty #[.slice (some ⟨g, 0, none⟩) i cap, .int .i64 ((n : Int) + 1 - i)]).run Tryz.prog w = .ok (.slice (some ⟨w.heap.size, 0, none⟩) (n + 1) G) (w.drew.alloc (.cells R 60)) := fun ty => by
    have h := Lib.run_append_grow_zeros w 50 3 ty 60 i0 _ .i64 .i64 Tryz.underlying50 Tryz.underlying3 hi0 hz0 (some ⟨g, 0, none⟩) i cap Q hold (n + 1 - i) (by omega) (by omega) (by omega) (by omega) (by rw [hz2]; omega) (by rw [hz2, show i + (n + 1 - i) = n + 1 by omega]; exact growslice_fits hroom (by omega))
    rw [show i + (n + 1 - i) = n + 1 by omega, ← hG, ← hZ1, ← hZ2, ← hR] at h
    rw [hkk]
    exact h
  have hGn : n + 1 ≤ G := by rw [hG]; exact grownCap_ge w _ _ _
  have hGm : G ≤ maxLen := by rw [hG]; exact grownCap_le_maxLen w (n + 1) cap 60 (by unfold maxLen; omega)
  have hRs : R.size = G * 3 := by
    rw [hR]
    simp only [Array.size_append, List.size_toArray, hQ, hZ1l, hZ2l]
    omega
  obtain ⟨N, hN⟩ : ∃ N, N = w.heap.size := ⟨_, rfl⟩
  obtain ⟨W1, hW1⟩ : ∃ W1, W1 = w.drew.alloc (.cells R 60) := ⟨_, rfl⟩
  have hg1 : W1.heap[N]? = some (.cells R 60 (0, 0)) := by
    rw [hW1, hN]
    exact Blk.new w.drew 60 R
  have hB1 : Below w.heap.size w W1 := by rw [hW1]; exact ((Below.refl _ w).drew).alloc (Nat.le_refl _) _
  rw [← hW1, ← hN] at hrz
  have hgN : g ≠ N := by omega
  have hvN : vb ≠ N := by have := hv.lt; omega
  have hv1 : Blk W1 vb 60 #[.string x.mark, .string x.text, .int .i64 x.refs] := hv.below hB1 hv.lt
  obtain ⟨cur1, hc1⟩ : ∃ cur1, cur1 = (R.toList.take (i * 3) ++ K ++ R.toList.drop (i * 3 + K.length)).toArray := ⟨_, rfl⟩
  have hc1s : cur1.size = G * 3 := by
    rw [hc1, List.size_toArray]
    simp only [List.length_append, List.length_take, List.length_drop, Array.length_toList]
    omega
  have hcpA : ∀ ty dc, (Builtin.copy_ #[50, 50] ty #[.slice (some ⟨N, i * 3, none⟩) (n + 1 - i) dc, .slice (some ⟨vb, 0, none⟩) 1 1]).run Tryz.prog W1 = .ok (goInt ((1 : Nat) : Int)) (W1.setRow N cur1) := fun ty dc => by
    have := run_copyK (P := Tryz.prog) W1 50 50 ty 60 N (i * 3) (n + 1 - i) dc ⟨vb, 0, none⟩ 1 1 R 60 K 3 Tryz.underlying50 hsz hg1 (by rw [hKl]; simp only [Nat.min_def]; split <;> omega)
      (fun j v hj => by
        rw [show ((⟨vb, 0, none⟩ : Addr).add j) = ⟨vb, j, none⟩ by unfold Addr.add; simp; intro h; exact h.symm]
        rw [hv1.cell j, ← hj, hK, ← Array.getElem?_toList]; rfl) (by rw [hKl, hRs]; omega) (by
        intro v hv
        exact kcells_one [x] v (by rw [hK] at hv; exact hv))
    rw [this, ← hc1, show Nat.min 1 (n + 1 - i) = 1 by simp only [Nat.min_def]; split <;> omega]
  have hg2 : (W1.setRow N cur1).heap[N]? = some (.cells cur1 60 (0, 0)) := setRow_heap W1 N R cur1 60 (0, 0) hg1
  obtain ⟨cur2, hc2⟩ : ∃ cur2, cur2 = (cur1.toList.take (i * 3 + 3) ++ X ++ cur1.toList.drop (i * 3 + 3 + X.length)).toArray := ⟨_, rfl⟩
  have hc2s : cur2.size = G * 3 := by
    rw [hc2, List.size_toArray]
    simp only [List.length_append, List.length_take, List.length_drop, Array.length_toList]
    omega
  have hgold : (W1.setRow N cur1).drew.heap[g]? = some (.cells cur 60 (0, 0)) := by
    show (W1.setRow N cur1).heap[g]? = _
    rw [setRow_other W1 N g cur1 hgN, hB1.block g hgw]
    exact hg
  have hone : ∀ v ∈ X, v.oneCell' = true := fun v hv => kcells_one l v (List.mem_of_mem_drop (by rw [hXe] at hv; exact hv))
  have hcpB : ∀ ty dc sc, (Builtin.copy_ #[50, 50] ty #[.slice (some ⟨N, i * 3 + 3, none⟩) (n - i) dc, .slice (some ⟨g, i * 3, none⟩) (n - i) sc]).run Tryz.prog (W1.setRow N cur1).drew = .ok (goInt ((n - i : Nat) : Int)) ((W1.setRow N cur1).drew.setRow N cur2) := fun ty dc sc => by
    have := run_copyK (P := Tryz.prog) (W1.setRow N cur1).drew 50 50 ty 60 N (i * 3 + 3) (n - i) dc ⟨g, i * 3, none⟩ (n - i) sc cur1 60 X 3 Tryz.underlying50 hsz hg2 (by rw [hX]; simp only [Nat.min_def]; split <;> omega)
      (fun j v hj => by
        rw [show ((⟨g, i * 3, none⟩ : Addr).add j) = ⟨g, i * 3 + j, none⟩ by unfold Addr.add; simp]
        rw [hXe, List.getElem?_drop, ← htk, List.getElem?_take] at hj
        split at hj
        · rw [cell_of_row _ g _ cur 60 (0, 0) hgold, ← Array.getElem?_toList]; exact hj
        · cases hj) (by rw [hX, hc1s]; omega) hone
    rw [this, ← hc2, show Nat.min (n - i) (n - i) = n - i by simp only [Nat.min_def]; split <;> omega]
  have hfin : cur2.toList.take ((n + 1) * 3) = kcells (insK l i x) := by
    have := grow_list Q Z1.toList Z2.toList K X (i * 3) ((n - i) * 3) hQ hKl hX (by rw [Array.length_toList, hZ1l]; omega)
    rw [hc2, hc1, hR]
    simp only [Array.toList_append]
    rw [show (n + 1) * 3 = i * 3 + 3 + (n - i) * 3 by omega]
    refine Eq.trans this ?_
    unfold insK
    rw [kcells_app, kcells_cons, kcells_take, kcells_drop, ← hQe, ← hXe, hK, List.append_assoc]
  have mixed : Tryz.prog.follows .mixedOrders = true := by kernel_rfl
  have hw1 : IntKind.i64.wrap ((i : Int) + 1) = (i : Int) + 1 := by rw [IntKind.wrap_i64]; omega
  have hb1 : (0 : Int) ≤ (i : Int) + 1 := by omega
  have hb2 : (i : Int) + 1 ≤ (n : Int) + 1 := by omega
  have htn : ((i : Int) + 1).toNat = i + 1 := by omega
  have hb3 : (i : Int) ≤ (n : Int) + 1 := by omega
  have hb4 : (i : Int) ≤ cap := by omega
  have hnn : n + 1 - (i + 1) = n - i := by omega
  have f1 : ((i : Int) == n) = false := by rw [beq_eq_false_iff_ne]; omega
  have f2 : (cap : Int) < n + 1 := by omega
  have f3 : ¬ cap = i := by omega
  have f5 : ¬ G = i := by omega
  have f6 : ¬ G = i + 1 := by omega
  have e3 : i * 3 + 3 = (i + 1) * 3 := by omega
  rw [e3] at hcpB
  have HA := Lib.hid hcpA
  have HZ := Lib.hid hrz
  have HCB := Lib.hid hcpB
  have HF := Lib.hid hfin
  have HB1 := Lib.hid hB1
  have HW1 := Lib.hid hW1
  have HNE := Lib.hid hN
  have Hn := Lib.hid hn
  clear hcpA hrz hcpB hfin hB1 hW1 hc1 hc2 hR hZ1 hZ2 hG hK hKl hQe hQ hXe hX hZ1l hZ2l hkk htk hold hcell hone e3 hgold hv1 hN hn
  have hq2 := HA.out
  go_enter Tryz.func43, Tryz.ntmps43
  go_wp2_with (first | (at_builtin; refine Lib.wpList_append_run _ rfl _ _ _ _ rfl _ _ rfl rfl _ _ (HZ.out _) ?_) | (fail))
  clear hq2
  have hq := HCB.out
  go_region
  clear hq
  go_wp2
  go_ret
  unfold InsOut
  have hlen : (insK l i x).length = n + 1 := by unfold insK; rw [List.length_append, List.length_cons, List.length_take, List.length_drop, Hn.out]; omega
  have hg3 : ((W1.setRow N cur1).drew.setRow N cur2).heap[N]? = some (.cells cur2 60 (0, 0)) := setRow_heap _ N cur1 cur2 60 (0, 0) hg2
  refine ⟨_, rfl, ?_, ?_, .inr (by rw [← HNE.out]; rfl)⟩
  · rw [hlen]
    exact ⟨by rw [kcells_len, hlen], .inr ⟨N, G, cur2, rfl, by rw [HNE.out]; exact hBw, hg3, hGn, hGm, hc2s, HF.out⟩⟩
  · have hb := HB1.out
    refine ⟨hb.os, hb.tape, hb.output, ?_, fun k hk hne => ?_⟩
    · rw [setRow_size]
      show _ ≤ (W1.setRow N cur1).heap.size
      rw [setRow_size]
      exact hb.size
    · have hkN : k ≠ N := by rw [HNE.out]; omega
      rw [setRow_other _ N k cur2 hkN]
      show (W1.setRow N cur1).heap[k]? = _
      rw [setRow_other _ N k cur1 hkN]
      exact hb.block k hk
end Go.Proofs.YtmcgaaihdjpdgaaGreatDoor
/- Chapter 11: slices.Insert of one text, any place. -/
namespace Go.Proofs.YtmcgaaihdjpdgaaGreatDoor
open Go.RowKit
set_option linter.unusedVariables false

theorem insK_end (l : List KpD) (x : KpD) : insK l l.length x = l ++ [x] := by unfold insK; rw [List.take_length, List.drop_length]
theorem insK_len (l : List KpD) (i : Nat) (x : KpD) (h : i ≤ l.length) : (insK l i x).length = l.length + 1 := by
  unfold insK; rw [List.length_append, List.length_cons, List.length_take, List.length_drop]; omega
theorem insK_set (l : List KpD) (i : Nat) (x y : KpD) (h : i ≤ l.length) : (insK l i x).set i y = insK l i y := by
  unfold insK
  have hl : (l.take i).length = i := by rw [List.length_take]; omega
  have h1 : (l.take i ++ x :: l.drop i).set (l.take i).length y = l.take i ++ y :: l.drop i := by
    rw [List.set_append_right _ _ (Nat.le_refl _), Nat.sub_self]; rfl
  rw [hl] at h1
  exact h1
theorem insK_get (l : List KpD) (i : Nat) (x : KpD) (h : i ≤ l.length) : (insK l i x)[i]? = some x := by
  unfold insK
  have hl : (l.take i).length = i := by rw [List.length_take]; omega
  rw [List.getElem?_append_right (by omega), hl, Nat.sub_self]; rfl
theorem insK_look (l : List KpD) (i : Nat) (x : KpD) (m : ByteArray) (hx : x.mark ≠ m) : lookK m (insK l i x) = lookK m l := by
  unfold lookK insK
  rw [List.find?_append, List.find?_cons, decide_eq_false hx]
  conv => rhs; rw [← List.take_append_drop i l, List.find?_append]
theorem insert_any (w : World) (B : Nat) (v : Value) (l : List KpD) (x : KpD) (i vb : Nat) (h : w.ownsRow B 60 3 v l.length (kcells l)) (hv : Blk w vb 60 #[.string x.mark, .string x.text, .int .i64 x.refs]) (hne : v.ownBlock ≠ some vb) (hi : i ≤ l.length) (hl : l.length ≤ 100000) (hbs : B ≤ w.heap.size) :
    Calls Tryz.prog 43 #[v, .int .i64 i, .slice (some ⟨vb, 0, none⟩) 1 1] w (InsOut w B v (insK l i x)) := by
  by_cases he : i = l.length
  · subst he
    rw [insK_end]
    exact ins_end w B v l x vb h hv hl hbs
  · rcases h.2 with ⟨_, h2⟩ | ⟨g, cap, cur, rfl, hB, hg, hnc, hcm, hcs, htk⟩
    · exfalso
      omega
    · by_cases hr : l.length + 1 ≤ cap
      · exact ins_room w B g l.length cap i vb cur l x hg hB hcm hcs htk rfl (by omega) hr hl hv (fun e => hne (by rw [e]; rfl))
      · exact ins_grow w B g l.length cap i vb cur l x hg hbs hnc htk rfl (by omega) (by omega) hl hv
/-- In order again, where the mark is put at its place. -/
theorem insK_srt {l : List KpD} {x : KpD} (hs : KSrt l) (hx : ∀ k, l[placeK x.mark l]? = some k → k.mark ≠ x.mark) : KSrt (insK l (placeK x.mark l) x) := by
  unfold insK
  have hS := List.pairwise_append.1 (show (l.take (placeK x.mark l) ++ l.drop (placeK x.mark l)).Pairwise (fun a b : KpD => cmpB a.mark b.mark < 0) by rw [List.take_append_drop]; exact hs)
  have lo : ∀ a ∈ l.take (placeK x.mark l), cmpB a.mark x.mark < 0 := by
    intro a ha
    obtain ⟨j, hj⟩ := List.getElem?_of_mem ha
    rw [List.getElem?_take] at hj
    split at hj
    · rename_i h; exact placeK_lo x.mark l j a h hj
    · cases hj
  have hi : ∀ b ∈ l.drop (placeK x.mark l), cmpB x.mark b.mark < 0 := by
    intro b hb
    obtain ⟨j, hj⟩ := List.getElem?_of_mem hb
    rw [List.getElem?_drop] at hj
    have h1 := placeK_hi x.mark l hs (placeK x.mark l + j) b (by omega) hj
    have h2 := cmpB_flip b.mark x.mark
    have h3 : cmpB b.mark x.mark ≠ 0 := by
      intro e
      have e2 := (cmpB_zero _ _).1 e
      cases j with
      | zero => exact hx b hj e2
      | succ j =>
        obtain ⟨y, hy⟩ : ∃ y, l[placeK x.mark l]? = some y := ⟨_, List.getElem?_eq_getElem (by
          rcases Nat.lt_or_ge (placeK x.mark l + (j + 1)) l.length with h | h
          · omega
          · rw [List.getElem?_eq_none h] at hj; cases hj)⟩
        have h4 := placeK_hi x.mark l hs _ y (Nat.le_refl _) hy
        have hjl : placeK x.mark l + (j + 1) < l.length := by
          rcases Nat.lt_or_ge (placeK x.mark l + (j + 1)) l.length with h | h
          · exact h
          · rw [List.getElem?_eq_none h] at hj; cases hj
        have h5 := (List.pairwise_iff_getElem.1 hs) (placeK x.mark l) (placeK x.mark l + (j + 1)) (by omega) hjl (by omega)
        rw [List.getElem?_eq_getElem (by omega)] at hy
        rw [List.getElem?_eq_getElem hjl] at hj
        injection hy with hy
        injection hj with hj
        rw [hy, hj, e2] at h5
        exact h4 h5
    omega
  exact List.pairwise_append.2 ⟨hS.1, List.pairwise_cons.2 ⟨hi, hS.2.1⟩, fun a ha b hb => by
    rcases List.mem_cons.1 hb with rfl | hb
    · exact lo a ha
    · exact hS.2.2 a ha b hb⟩
end Go.Proofs.YtmcgaaihdjpdgaaGreatDoor
