/- Chapter 11: slices.Delete of one text. -/
import Derived.Test.YtmcgaaihdjpdgaaGreatDoorBlB
import Derived.Deep.RegionLaw
import Derived.Shelf.RegionOpenPlain
import Derived.Lib.SliceRun
namespace Go.Proofs.YtmcgaaihdjpdgaaGreatDoor
open Go.RowKit
set_option linter.unusedVariables false

theorem run_append_roomK {P : Program} (w : World) (t ty e : TypeId) (i : TypeInfo) (ht : P.underlying t = some (.slice e)) (hi : P.info? e = some i)
    (g sLen sCap : Nat) (a : Addr) (m c : Nat) (news : List Value) (cur : Array Value) (t0 : TypeId) (hl : news.length = m * i.size) (hnews : ∀ j u, news[j]? = some u → w.cell? (a.add j) = some u) (h1 : ∀ u ∈ news, u.oneCell' = true)
    (hroom : sLen + m ≤ sCap) (hg : w.heap[g]? = some (.cells cur t0 (0, 0))) (hfit : sLen * i.size + news.length ≤ cur.size) :
    (Builtin.append_ #[t, t] ty #[.slice (some ⟨g, 0, none⟩) sLen sCap, .slice (some a) m c]).run P w = .ok (.slice (some ⟨g, 0, none⟩) (sLen + m) sCap) (w.setRow g (cur.toList.take (sLen * i.size) ++ news ++ cur.toList.drop (sLen * i.size + news.length)).toArray) := by
  have hfc := run_firstCells_some (P := P) w i.size m a m c news hl hnews
  have hst := run_storeCells_at P g (sLen * i.size) t0 news 0 cur w hg (by simpa using hfit) h1
  simp only [Nat.add_zero] at hst
  simp [Builtin.append_, run_underlying ht, sizeOf, typeInfo, hi, Builtin.lenOf, hroom, hfc, Addr.add_lit, hst]
theorem run_clearK {P : Program} (w : World) (t e ty : TypeId) (z : Value) (ht : P.underlying t = some (.slice e)) (hv : ∀ w, (zeroValue e).run P w = .ok z w) (h1 : ∀ u ∈ z.cells.toList, u.oneCell' = true) (hz : 0 < z.cells.size) (g o c : Nat) (cur : Array Value) (t0 : TypeId)
    (hg : w.heap[g]? = some (.cells cur t0 (0, 0))) (hfit : o + z.cells.size ≤ cur.size) :
    (Builtin.clear_ #[t] ty #[.slice (some ⟨g, o, none⟩) 1 c]).run P w = .ok (.tuple #[]) (w.setRow g (cur.toList.take o ++ z.cells.toList ++ cur.toList.drop (o + z.cells.toList.length)).toArray) := by
  have hzc : (Builtin.zeroCells z.cells 1).toList = z.cells.toList := by
    simp [Builtin.zeroCells]
    apply List.ext_getElem
    · simp
    · intro i h1 h2
      simp
      have hlt : i < z.cells.size := by simpa using h2
      rw [Nat.mod_eq_of_lt hlt, getElem!_pos z.cells i hlt]
  have hst := run_storeCells_at P g o t0 z.cells.toList 0 cur w hg (by simpa using hfit) h1
  simp only [Nat.add_zero] at hst
  simp [Builtin.clear_, run_underlying ht, hv, hzc, hst]
theorem step_append_run {P : Program} {ops : Array Oper} {o : Oper} {a : Act} {w : World} {K : Act → World → Prop} {Q : Exit → Act → World → Prop} {E : Prop}
    (hg : o.guard = none) (s x : Operand) (t : TypeId) (hop : o.op = Op.call { callee := Callee.builtin Builtin.append, args := #[s, x], argTypes := #[t, t] })
    (vs vx v : Value) (w' : World) (hs : a.eval s = vs) (hx : a.eval x = vx) (hrun : ∀ ty, (Builtin.append_ #[t, t] ty #[vs, vx]).run P w = .ok v w')
    (hK : K (a.put o.dst v) w') : if Region.wanted o (yielded ops a.tmps) = true then Oper.wp P o a w K Q else E := by
  have hw : Region.wanted o (yielded ops a.tmps) = true := by simp [Region.wanted, hg]
  rw [if_pos hw]
  unfold Oper.wp
  simp [execOp, hop, resolve, invoke, builtin, hs, hx, hrun, Result.andThen]
  exact hK
theorem erase_cells (l : List KpD) (i : Nat) : kcells (l.eraseIdx i) = (kcells l).take (i * 3) ++ (kcells l).drop ((i + 1) * 3) := by
  rw [List.eraseIdx_eq_take_drop_succ, kcells_app, kcells_take, kcells_drop]
theorem cut_list {α : Type} (C X Z : List α) (a r : Nat) (hX : X.length = r) (hC : a + r + 3 ≤ C.length) (hZ : Z.length = 3) :
    ((C.take a ++ X ++ C.drop (a + X.length)).take (a + r) ++ Z ++ (C.take a ++ X ++ C.drop (a + X.length)).drop (a + r + Z.length)).take (a + r) = C.take a ++ X := by
  have e1 : (C.take a ++ X ++ C.drop (a + X.length)).take (a + r) = C.take a ++ X := by
    rw [List.take_append_of_le_length (by simp only [List.length_append, List.length_take]; omega), List.take_of_length_le (by simp only [List.length_append, List.length_take]; omega)]
  rw [e1, List.append_assoc, List.take_append_of_le_length (by simp only [List.length_append, List.length_take]; omega), List.take_of_length_le (by simp only [List.length_append, List.length_take]; omega)]
def DelOut (w : World) (B : Nat) (v : Value) (L : List KpD) (e : Ending) (w' : World) : Prop := ∃ v', e = .returned v' ∧ w'.ownsRow B 60 3 v' L.length (kcells L) ∧ w.grownBy w' v.ownBlock ∧ v'.ownBlock = v.ownBlock
set_option maxHeartbeats 4000000 in
set_option maxRecDepth 100000 in
theorem delete_any (w : World) (B : Nat) (v : Value) (l : List KpD) (i : Nat) (h : w.ownsRow B 60 3 v l.length (kcells l)) (hi : i < l.length) (hl : l.length ≤ 100000) :
    Calls Tryz.prog 47 #[v, .int .i64 i, .int .i64 ((i : Int) + 1)] w (DelOut w B v (l.eraseIdx i)) := by
  obtain ⟨i0, hi0, hz0, hz1, hz2⟩ := info_parts infoKept
  rcases h.2 with ⟨_, h2⟩ | ⟨g, cap, cur, rfl, hB, hg, hnc, hcm, hcs, htk⟩
  · exfalso; omega
  clear h
  obtain ⟨n, hn⟩ : ∃ n, l.length = n := ⟨_, rfl⟩
  rw [hn] at hi hl hnc htk ⊢
  obtain ⟨X, hX⟩ : ∃ X, X = (kcells l).drop ((i + 1) * 3) := ⟨_, rfl⟩
  have hXl : X.length = (n - (i + 1)) * 3 := by rw [hX, List.length_drop, kcells_len, hn]; omega
  obtain ⟨cur1, hc1⟩ : ∃ cur1, cur1 = (cur.toList.take (i * 3) ++ X ++ cur.toList.drop (i * 3 + X.length)).toArray := ⟨_, rfl⟩
  obtain ⟨W1, hW1⟩ : ∃ W1, W1 = w.drew.setRow g cur1 := ⟨_, rfl⟩
  have hg1 : W1.heap[g]? = some (.cells cur1 60 (0, 0)) := by rw [hW1]; exact setRow_heap w.drew g cur cur1 60 (0, 0) hg
  have hc1s : cur1.size = cur.size := by
    rw [hc1, List.size_toArray]
    simp only [List.length_append, List.length_take, List.length_drop, Array.length_toList]
    omega
  obtain ⟨A, hA, hsrc⟩ : ∃ A : Addr, (if cap = i + 1 then (some (⟨g, 0, none⟩ : Addr)) else some ⟨g, (i + 1) * 3, none⟩) = some A ∧ (∀ t u, X[t]? = some u → w.drew.cell? (A.add t) = some u) := by
    by_cases hc : cap = i + 1
    · refine ⟨⟨g, 0, none⟩, by simp [hc], fun t u hu => ?_⟩
      have h0 : X.length = 0 := by rw [hXl]; omega
      rw [List.length_eq_zero_iff.1 h0] at hu
      simp at hu
    · refine ⟨⟨g, (i + 1) * 3, none⟩, by simp [hc], fun t u hu => ?_⟩
      rw [Addr.add_lit]
      rw [hX, List.getElem?_drop, ← htk, List.getElem?_take] at hu
      split at hu
      · show w.cell? _ = _
        rw [cell_of_row w g _ cur 60 (0, 0) hg, ← Array.getElem?_toList]; exact hu
      · cases hu
  have hone : ∀ v ∈ X, v.oneCell' = true := fun v hv => kcells_one l v (List.mem_of_mem_drop (by rw [hX] at hv; exact hv))
  have hap : ∀ ty c, (Builtin.append_ #[50, 50] ty #[.slice (some ⟨g, 0, none⟩) i cap, .slice (some A) (n - (i + 1)) c]).run Tryz.prog w.drew = .ok (.slice (some ⟨g, 0, none⟩) (i + (n - (i + 1))) cap) W1 := fun ty c => by
    have := run_append_roomK (P := Tryz.prog) w.drew 50 ty 60 i0 Tryz.underlying50 hi0 g i cap A (n - (i + 1)) c X cur 60 (by rw [hz1]; exact hXl) hsrc hone (by omega) hg (by rw [hz1]; omega)
    rw [hz1, ← hc1, ← hW1] at this
    exact this
  obtain ⟨cur2, hc2⟩ : ∃ cur2, cur2 = (cur1.toList.take ((n - 1) * 3) ++ [Value.string .empty, .string .empty, .int .i64 0] ++ cur1.toList.drop ((n - 1) * 3 + 3)).toArray := ⟨_, rfl⟩
  have hcl : ∀ ty c, (Builtin.clear_ #[50] ty #[.slice (some ⟨g, (n - 1) * 3, none⟩) 1 c]).run Tryz.prog W1 = .ok (.tuple #[]) (W1.setRow g cur2) := fun ty c => by
    have := run_clearK (P := Tryz.prog) W1 50 60 ty (.agg #[.string .empty, .string .empty, .int .i64 0]) Tryz.underlying50 (fun w => by kernel_rfl) (by intro u hu; simp [Value.cells] at hu; rcases hu with rfl | rfl | rfl <;> rfl) (by decide) g ((n - 1) * 3) c cur1 60 hg1 (by show (n - 1) * 3 + 3 ≤ _; omega)
    rw [this, hc2]
    rfl
  have hc2s : cur2.size = cur.size := by
    rw [hc2, List.size_toArray]
    simp only [List.length_append, List.length_take, List.length_drop, Array.length_toList, List.length_cons, List.length_nil]
    omega
  have hfin : cur2.toList.take ((n - 1) * 3) = kcells (l.eraseIdx i) := by
    have := cut_list cur.toList X [Value.string .empty, .string .empty, .int .i64 0] (i * 3) ((n - (i + 1)) * 3) hXl (by rw [Array.length_toList]; omega) rfl
    rw [hc2, hc1, show (n - 1) * 3 = i * 3 + (n - (i + 1)) * 3 by omega]
    refine Eq.trans this ?_
    rw [erase_cells, hX, ← htk, List.take_take, show min (i * 3) (n * 3) = i * 3 by omega]
  have hlen : (l.eraseIdx i).length = n - 1 := by rw [List.length_eraseIdx, hn, if_pos (by omega)]
  have mixed : Tryz.prog.follows .mixedOrders = true := by kernel_rfl
  have hb2 : (i : Int) + 1 ≤ (n : Int) := by omega
  have hb3 : (n : Int) ≤ cap := by omega
  have hnn : i + (n - (i + 1)) = n - 1 := by omega
  have hcap1 : ¬ cap = n - 1 := by omega
  have hic : i ≤ cap := by omega
  have hi01 : (0 : Int) ≤ (i : Int) + 1 := by omega
  have hjc : i + 1 ≤ cap := by omega
  have hjc2 : (i : Int) + 1 ≤ cap := by omega
  have hn1 : n - (n - 1) = 1 := by omega
  have htn : ((i : Int) + 1).toNat = i + 1 := by omega
  have f1 : ((i : Int) == (i : Int) + 1) = false := by rw [beq_eq_false_iff_ne]; omega
  have HAP := Lib.hid hap
  have HF := Lib.hid hfin
  have HW := Lib.hid hW1
  rw [hnn] at HAP
  clear hap hc1 hc2 hfin hX hXl hone hsrc hW1 hn htk
  go_enter Tryz.func47, Tryz.ntmps47
  go_wp2_with fail
  go_region_law_o (refine step_append_run rfl (.tmp 22) (.tmp 25) 50 rfl _ _ _ _ rfl rfl (fun ty => HAP.out ty _) ?_)
  have hq := hcl
  go_wp2
  go_ret
  unfold DelOut
  refine ⟨.slice (some ⟨g, 0, none⟩) (n - 1 : Nat) cap, rfl, ?_, ?_, rfl⟩
  · rw [hlen]
    exact ⟨by rw [kcells_len, hlen], .inr ⟨g, cap, cur2, rfl, hB, setRow_heap _ g cur1 cur2 60 (0, 0) hg1, by omega, hcm, by rw [hc2s]; exact hcs, HF.out⟩⟩
  · rw [HW.out]
    refine ⟨rfl, rfl, rfl, by rw [setRow_size, setRow_size]; exact Nat.le_refl _, fun k hk hne => ?_⟩
    have hkg : k ≠ g := fun e => hne (by rw [e]; rfl)
    rw [setRow_other _ g k cur2 hkg, setRow_other _ g k cur1 hkg]
    rfl
end Go.Proofs.YtmcgaaihdjpdgaaGreatDoor
