/- The step Copy of the law. -/
import Derived.Test.YtpmjbkpooionbaaNetStep3
import Derived.Deep.RegionLaw
set_option linter.unusedVariables false
namespace Go.Proofs.Ytpmjbkpooionbaa
open Go.RowKit Go.Conc

/-- append onto a row of the call's own, as one step of a region that draws. -/
theorem step_append_own {P : Program} {ops : Array Oper} {o : Oper} {a : Act} {w : World} {K : Act → World → Prop} {Q : Exit → Act → World → Prop} {E : Prop}
    (hg : o.guard = none) (s x : Operand) (t : TypeId) (hop : o.op = Op.call { callee := Callee.builtin Builtin.append, args := #[s, x], argTypes := #[t, t] })
    {base : Nat} {e : TypeId} {i : TypeInfo} {z : Value} {bytes : Nat} (ht : P.underlying t = some (.slice e)) (hi : P.info? e = some i) (hz : i.zero = some z) (hsize : i.size = 1) (hby : i.bytes = bytes) (hzs : z.cells.size = 1)
    {g0 n cap0 : Nat} {xs : List Value} (hown : w.ownsRow base e 1 (.slice (some ⟨g0, 0, none⟩) n cap0) n xs) (hs : a.eval s = .slice (some ⟨g0, 0, none⟩) n cap0)
    {B : Nat} {A : Option Addr} {m c : Nat} {news : List Value} (harr : Arr w B 1 A m news) (hx : a.eval x = .slice A m c) (h1 : ∀ u ∈ news, u.oneCell' = true)
    (h63 : n + m ≤ maxLen) (hbytes : (n + m) * bytes ≤ 140737488355328) (hbase : base ≤ w.heap.size)
    {k : Nat} (hk : n + m = k)
    (hK : ∀ g cap w', w'.ownsRow base e 1 (.slice (some ⟨g, 0, none⟩) k cap) k (xs ++ news) → w.grownBy w' (some g0) → (g = g0 ∨ w.heap.size ≤ g) → K (a.put o.dst (.slice (some ⟨g, 0, none⟩) k cap)) w') :
    if Region.wanted o (yielded ops a.tmps) = true then Oper.wp P o a w K Q else E := by
  subst hk
  have hw : Region.wanted o (yielded ops a.tmps) = true := by simp [Region.wanted, hg]
  rw [if_pos hw]
  have hle : n ≤ cap0 := by
    rcases hown.2 with ⟨hv, h0⟩ | ⟨g, cap, cur, hv, _, _, hn, _⟩
    · cases hv
    · injection hv with _ _ hv; omega
  by_cases hm : m = 0
  · subst hm
    have hnews : news = [] := List.eq_nil_of_length_eq_zero (by have := harr.1; omega)
    subst hnews
    unfold Oper.wp execOp
    simp only [hop, resolve, invoke, builtin, Sem.run_bind, Sem.run_pure, Result.andThen_ok, List.map_toArray, List.map_cons, List.map_nil, hs, hx, run_append_zero _ t o.type e i ht hi _ _ n cap0 c hle]
    exact hK g0 cap0 w (by rw [List.append_nil]; exact hown) (World.grownBy.refl _ _) (.inl rfl)
  · obtain ⟨ab, ao, rfl, hab, hcell⟩ := harr.2 (by omega)
    have hnews : ∀ j u, news[j]? = some u → w.cell? ((⟨ab, ao, none⟩ : Addr).add j) = some u := by
      intro j u hu
      have hadd : (⟨ab, ao, none⟩ : Addr).add j = ⟨ab, ao + j, none⟩ := by unfold Addr.add; split <;> simp_all
      rw [hadd]
      exact hcell j u hu
    obtain ⟨v', w', hr, h2, h3, h4, h5⟩ := run_append_own_at (P := P) w base t o.type e i z 1 bytes ht hi hz hsize hby hzs (by omega) _ n xs hown ⟨ab, ao, none⟩ m c news harr.1 hnews h1 h63 hbytes hbase
    obtain ⟨g, cap, rfl, _, _⟩ := h2.form (by omega)
    unfold Oper.wp execOp
    simp only [hop, resolve, invoke, builtin, Sem.run_bind, Sem.run_pure, Result.andThen_ok, List.map_toArray, List.map_cons, List.map_nil, hs, hx, hr]
    refine hK g cap w' h2 h3 ?_
    rcases h5 with h6 | h6
    · left
      have h7 : some g = some g0 := h6
      injection h7
    · right
      have h7 : some g = some w.heap.size := h6
      injection h7 with h7
      omega
theorem one_arr (w : World) (B : Nat) {g : Nat} {x : Value} (h : w.cell? ⟨g, 0, none⟩ = some x) (hB : g < B) : Arr w B 1 (some ⟨g, 0, none⟩) 1 [x] := by
  refine ⟨rfl, fun _ => ⟨g, 0, rfl, hB, fun i u hu => ?_⟩⟩
  match i, hu with
  | 0, hu => injection hu with hu; subst hu; exact h
  | i + 1, hu => cases hu
theorem empty_own (w : World) (e : TypeId) (base : Nat) (hb : base ≤ w.heap.size) : (w.alloc (.cells #[] e)).ownsRow base e 1 (.slice (some ⟨w.heap.size, 0, none⟩) 0 0) 0 [] := World.ownsRow_lit w #[] 0 hb (by simp [maxLen]) (by simp)

theorem mid_below {w1 W w2 : World} {g0 : Nat} (hB : Below w1.heap.size w1 W) (hgr : W.grownBy w2 (some g0)) (hg0 : w1.heap.size ≤ g0) : Below w1.heap.size w1 w2 := hB.grown hgr hB.size (fun k hk => by injection hk with hk; omega)

set_option maxHeartbeats 4000000 in
set_option maxRecDepth 100000 in
theorem step_copy (base b ch : Nat) (V : Value) (A : Option Addr) (c : Nat) (L : List ByteArray) (sent lost : Nat) (i : Nat) (x : ByteArray) (m y : Int) (t : ByteArray) (w : World) (h : SP w base b ch V A L sent lost) (hbs : base ≤ w.heap.size) (hl : L.length < 4096) (ht : t.size ≤ 9223372036854775807) (hx : L[i]? = some x) :
    Calls Try.prog 17 #[.pointer (some ⟨b, 0, none⟩), .slice A L.length c, .agg #[.int .i64 3, .int .i64 i, .int .i64 m, .int .i64 y, .string t]] w fun e w' =>
      ∃ A' c' V', e = .returned (.tuple #[.slice A' (L ++ [x]).length c', .bool true]) ∧ SPost w w' base b ch V A L.length (L ++ [x]) sent lost V' A' := by
  obtain ⟨i0, hi, hz0, hz1, hz2⟩ := info_parts infoStr
  have hil := lt_of_get hx
  have hb := h.alloc (.cells #[.int .i64 3, .int .i64 i, .int .i64 m, .int .i64 y, .string t] 40)
  have hO : OpAt (w.alloc (.cells #[.int .i64 3, .int .i64 i, .int .i64 m, .int .i64 y, .string t] 40)) w.heap.size 3 i m y t := Blk.new _ _ _
  have hsz : (w.alloc (.cells #[.int .i64 3, .int .i64 i, .int .i64 m, .int .i64 y, .string t] 40)).heap.size = w.heap.size + 1 := by simp
  have hq : ¬ NS b ch V w.heap.size := fun e => by have := ns_lt h.net _ e; omega
  have HT := Lib.hid (net_copy _ _ _ _ _ _ _ i x _ hb.net (by omega) hl hx)
  obtain ⟨ab, ao, rfl, hab, hns, hcx⟩ := hb.get hx
  obtain ⟨o0, o1, o2, o3, o4⟩ := hO.cells
  have hn3 : decide ((i : Int) < (L.length : Int)) = true := decide_eq_true (by omega)
  have HX := Lib.hid hx
  clear hx
  rcases (show 200 < t.size ∨ t.size ≤ 200 from by omega) with hc | hc
  all_goals
    go_enter Try.func17, Try.ntmps17
    go_wp2_with (go_at_call 15; with_reducible refine HT.out.mono ?_; rintro e w1 ⟨rfl, V', hN, hf, hV⟩; have hO1 := hO.fr hq hf; obtain ⟨o0, o1, o2, o3, o4⟩ := hO1.cells; have hcx := (hf.cell (p := ⟨ab, ao + i, none⟩) hab hns).trans hcx)
    have harr1 := hb.arr_fr hf
    have hab1 : ab < w1.heap.size := Nat.lt_of_lt_of_le hab hf.size
    have hq1 : w.heap.size < w1.heap.size := by have := hf.size; omega
    have k0 : (0 : Int) ≤ (i : Int) := by omega
    have k1 : (i : Int) < (L.length : Int) := by omega
    have BA : Below w1.heap.size w1 (w1.alloc (.cells #[] 9)).drew := ((Below.refl _ _).alloc (Nat.le_refl _) _).drew
    have BC : Below w1.heap.size w1 (w1.alloc (.cells #[.string x] 9)).drew := ((Below.refl _ _).alloc (Nat.le_refl _) _).drew
    have BB : Below w1.heap.size w1 ((w1.alloc (.cells #[] 9)).alloc (.cells #[.string x] 9)).drew := (((Below.refl _ _).alloc (Nat.le_refl _) _).alloc (by simp) _).drew
    have BD : Below w1.heap.size w1 ((w1.alloc (.cells #[.string x] 9)).alloc (.cells #[] 9)).drew := (((Below.refl _ _).alloc (Nat.le_refl _) _).alloc (by simp) _).drew
    have H1 : (w1.alloc (.cells #[] 9)).drew.ownsRow w1.heap.size 9 1 (.slice (some ⟨w1.heap.size, 0, none⟩) 0 0) 0 [] := empty_own w1 _ _ (Nat.le_refl _)
    have H2 : ((w1.alloc (.cells #[] 9)).alloc (.cells #[.string x] 9)).drew.ownsRow w1.heap.size 9 1 (.slice (some ⟨w1.heap.size, 0, none⟩) 0 0) 0 [] := (empty_own w1 _ _ (Nat.le_refl _)).alloc _
    have H3 : ((w1.alloc (.cells #[.string x] 9)).alloc (.cells #[] 9)).drew.ownsRow w1.heap.size 9 1 (.slice (some ⟨w1.heap.size + 1, 0, none⟩) 0 0) 0 [] := by
      have := empty_own (w1.alloc (.cells #[.string x] 9)) 9 w1.heap.size (by simp)
      rw [show (w1.alloc (.cells #[.string x] 9)).heap.size = w1.heap.size + 1 from by simp] at this
      exact this
    have N2 : ((w1.alloc (.cells #[] 9)).alloc (.cells #[.string x] 9)).drew.cell? ⟨w1.heap.size + 1, 0, none⟩ = some (.string x) := by
      have := (Blk.new (w1.alloc (.cells #[] 9)) 9 #[.string x]).cell 0
      rw [show (w1.alloc (.cells #[] 9)).heap.size = w1.heap.size + 1 from by simp] at this
      exact this
    have N3 : ((w1.alloc (.cells #[.string x] 9)).alloc (.cells #[] 9)).drew.cell? ⟨w1.heap.size, 0, none⟩ = some (.string x) := ((Blk.new w1 9 #[.string x]).alloc (.cells #[] 9)).cell 0
    have hA1 := harr1.below BA
    have hA2 := harr1.below BB
    have hA3 := harr1.below BD
    have oA := (BA.cell (p := ⟨w.heap.size, 1, none⟩) hq1).trans o1
    have xA := (BA.cell (p := ⟨ab, ao + i, none⟩) hab1).trans hcx
    have hm1 : 0 + L.length ≤ maxLen := by unfold maxLen; omega
    have hm2 : (0 + L.length) * 16 ≤ 140737488355328 := by omega
    have hm3 : L.length + 1 ≤ maxLen := by unfold maxLen; omega
    have hm4 : (L.length + 1) * 16 ≤ 140737488355328 := by omega
    have hx1 : ∀ u ∈ [Value.string x], u.oneCell' = true := by simp [Value.oneCell']
    go_region_law (first
      | (refine step_append_own rfl (.tmp 130) (.tmp 131) 22 rfl Try.underlying22 hi hz0 hz1 hz2 rfl H1 rfl hA1 rfl (str_cells L) hm1 hm2 BA.size (Nat.zero_add _) ?_; intro g cap w2 hown2 hgr2 hat2; rw [List.nil_append] at hown2; have hB2 := mid_below BA hgr2 (Nat.le_refl _); have hz2' := hB2.size; have o1 := (hB2.cell (p := ⟨w.heap.size, 1, none⟩) hq1).trans o1; have hcx := (hB2.cell (p := ⟨ab, ao + i, none⟩) hab1).trans hcx; have hone := (Blk.new w2 9 #[.string x]).cell 0; have hown2' := hown2.alloc (.cells #[.string x] 9); have hB2' := hB2.alloc hz2' (.cells #[.string x] 9))
      | (refine step_append_own rfl (.tmp 130) (.tmp 131) 22 rfl Try.underlying22 hi hz0 hz1 hz2 rfl H2 rfl hA2 rfl (str_cells L) hm1 hm2 BB.size (Nat.zero_add _) ?_; intro g cap w2 hown2 hgr2 hat2; rw [List.nil_append] at hown2; have hB2 := mid_below BB hgr2 (Nat.le_refl _); have hz2' := hB2.size; have hone := hgr2.cell N2 (by simp))
      | (refine step_append_own rfl (.tmp 130) (.tmp 131) 22 rfl Try.underlying22 hi hz0 hz1 hz2 rfl H3 rfl hA3 rfl (str_cells L) hm1 hm2 BD.size (Nat.zero_add _) ?_; intro g cap w2 hown2 hgr2 hat2; rw [List.nil_append] at hown2; have hB2 := mid_below BD hgr2 (Nat.le_succ _); have hz2' := hB2.size; have hone := hgr2.cell N3 (by simp))
      | (refine step_append_own rfl (.tmp 132) (.tmp 138) 22 rfl Try.underlying22 hi hz0 hz1 hz2 rfl hown2' rfl (one_arr _ _ hone (Nat.lt_succ_self _)) rfl hx1 hm3 hm4 hB2'.size rfl ?_; intro g3 cap3 w3 hown3 hgr3 hat3; have hB3 := mid_below hB2' hgr3 (hown2.lt _ rfl).1)
      | (refine step_append_own rfl (.tmp 132) (.tmp 138) 22 rfl Try.underlying22 hi hz0 hz1 hz2 rfl hown2 rfl (one_arr _ _ hone (Nat.lt_succ_self _)) rfl hx1 hm3 hm4 hB2.size rfl ?_; intro g3 cap3 w3 hown3 hgr3 hat3; have hB3 := mid_below hB2 hgr3 (hown2.lt _ rfl).1))
    all_goals
      go_wp2
      go_ret2
      have hown4 : w3.ownsRow w1.heap.size 9 1 (.slice (some ⟨g3, 0, none⟩) (L ++ [x]).length cap3) (L ++ [x]).length ((L ++ [x]).map Value.string) := by
        rw [List.map_append, List.length_append]
        exact hown3
      obtain ⟨A9, c9, hA9, _, harr9, hfr9⟩ := own_arr hown4
      injection hA9 with hA9 _ _
      subst hA9
      refine ⟨_, cap3, V', ?_, then_post h hf hN hV hB3 harr9 hfr9⟩
      rw [List.length_append]
      simp
end Go.Proofs.Ytpmjbkpooionbaa
