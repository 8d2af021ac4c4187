/- The library's stable sort over files: symMerge where one side has one file.; The library's stable sort over files: symMerge.; The library's stable sort over files: stable.; tree.Sort. -/
import Derived.Test.YtjhbmcgaehpadaaDoorSortA
import Derived.Deep.CutRange
/- The library's stable sort over files: symMerge where one side has one file. -/
namespace Go.Proofs.YtjhbmcgaehpadaaDoor
open Go.RowKit
set_option linter.unusedVariables false

theorem get_seg {α : Type} {A Q C : List α} {r : Nat} (h : r < Q.length) : (A ++ Q ++ C)[A.length + r]? = Q[r]? := by
  rw [List.append_assoc, List.getElem?_append_right (by omega), Nat.add_sub_cancel_left, List.getElem?_append_left h]
theorem sym_left {x : FileD} {Y : List FileD} {p : Nat} (hY : Srt Y) (hp : p ≤ Y.length) (hlo : ∀ y, 0 < p → Y[p - 1]? = some y → flt y x) (hhi : ∀ y, Y[p]? = some y → ¬ flt y x) :
    Srt (Y.take p ++ x :: Y.drop p) ∧ Stb ([x] ++ Y) (Y.take p ++ x :: Y.drop p) := by
  have h1 : ∀ y ∈ Y.take p, flt y x := by
    intro y hy
    obtain ⟨j, hj, gj⟩ := mem_take hy
    obtain ⟨y0, gy0⟩ : ∃ y0, Y[p - 1]? = some y0 := ⟨_, List.getElem?_eq_getElem (by omega)⟩
    exact fle_lt_trans (srt_get hY gj gy0 (by omega)) (hlo y0 (by omega) gy0)
  have h2 : ∀ y ∈ Y.drop p, fle x y := by
    intro y hy
    obtain ⟨j, hj, gj⟩ := mem_drop hy
    have hl : p < Y.length := by rcases Nat.lt_or_ge j Y.length with h | h; omega; rw [List.getElem?_eq_none h] at gj; cases gj
    obtain ⟨y0, gy0⟩ : ∃ y0, Y[p]? = some y0 := ⟨_, List.getElem?_eq_getElem hl⟩
    exact fle_trans (not_flt.1 (hhi y0 gy0)) (srt_get hY gy0 gj hj)
  have hS := srt_app.1 (show Srt (Y.take p ++ Y.drop p) by rw [List.take_append_drop]; exact hY)
  constructor
  · refine srt_app.2 ⟨hS.1, List.pairwise_cons.2 ⟨h2, hS.2.1⟩, fun y hy z hz => ?_⟩
    rcases List.mem_cons.1 hz with rfl | hz
    · exact flt_le (h1 y hy)
    · exact hS.2.2 y hy z hz
  · have q : Stb (([x] ++ Y.take p) ++ Y.drop p) ((Y.take p ++ [x]) ++ Y.drop p) := (Stb.swap fun z hz y hy => by rw [List.mem_singleton] at hz; rw [hz]; exact h1 y hy).app (Stb.refl _)
    rw [List.append_assoc, List.take_append_drop, List.append_assoc] at q
    exact q
theorem sym_right {y : FileD} {X : List FileD} {p : Nat} (hX : Srt X) (hp : p ≤ X.length) (hlo : ∀ u, 0 < p → X[p - 1]? = some u → ¬ flt y u) (hhi : ∀ u, X[p]? = some u → flt y u) :
    Srt (X.take p ++ y :: X.drop p) ∧ Stb (X ++ [y]) (X.take p ++ y :: X.drop p) := by
  have h1 : ∀ u ∈ X.take p, fle u y := by
    intro u hu
    obtain ⟨j, hj, gj⟩ := mem_take hu
    obtain ⟨y0, gy0⟩ : ∃ y0, X[p - 1]? = some y0 := ⟨_, List.getElem?_eq_getElem (by omega)⟩
    exact fle_trans (srt_get hX gj gy0 (by omega)) (not_flt.1 (hlo y0 (by omega) gy0))
  have h2 : ∀ u ∈ X.drop p, flt y u := by
    intro u hu
    obtain ⟨j, hj, gj⟩ := mem_drop hu
    have hl : p < X.length := by rcases Nat.lt_or_ge j X.length with h | h; omega; rw [List.getElem?_eq_none h] at gj; cases gj
    obtain ⟨y0, gy0⟩ : ∃ y0, X[p]? = some y0 := ⟨_, List.getElem?_eq_getElem hl⟩
    exact flt_le_trans (hhi y0 gy0) (srt_get hX gy0 gj hj)
  have hS : Srt (X.take p ++ X.drop p) := by rw [List.take_append_drop]; exact hX
  have := ins_stb hS h1 h2
  rw [List.take_append_drop, List.append_assoc] at this
  exact this
def BsQ (w0 : World) (B g N cap m : Nat) (L : List FileD) (n : Nat) (lo hi : Nat → Prop) (vi vj : Value) (wr : World) : Prop := ∃ (i j p q : Nat), vi = .int .i64 i ∧ vj = .int .i64 j ∧ Hid (i = m + p) ∧ Hid (j = m + q) ∧ p ≤ q ∧ q ≤ n ∧ Hid (lo p) ∧ Hid (hi q) ∧ Hid (FRow wr B g N cap L) ∧ Hid (Below B w0 wr)
def SwQ (w0 : World) (B g N cap a n : Nat) (P : List FileD) (x : FileD) (Y S : List FileD) (v : Value) (wr : World) : Prop := ∃ (k c : Nat), v = .int .i64 k ∧ Hid (k = a + c) ∧ c ≤ n ∧ Hid (FRow wr B g N cap (P ++ Y.take c ++ x :: Y.drop c ++ S)) ∧ Hid (Below B w0 wr)
set_option maxHeartbeats 8000000 in
set_option maxRecDepth 100000 in
theorem sym_one (w0 W : World) (B g N cap : Nat) (P : List FileD) (x : FileD) (Y S : List FileD) (va vm vb : Int) (hN : N ≤ 100000) (hB : Below B w0 W) (h : FRow W B g N cap (P ++ [x] ++ Y ++ S)) (hx : FOk x) (hY : ∀ f ∈ Y, FOk f) (hS : Srt Y)
    (ea : va = P.length) (em : vm = ((P.length + 1 : Nat) : Int)) (eb : vb = ((P.length + 1 + Y.length : Nat) : Int)) :
    Calls Tryd.prog 105 #[.slice (some ⟨g, 0, none⟩) N cap, .int .i64 va, .int .i64 vm, .int .i64 vb, (.func (.func 83) #[] #[])] W (SortOut w0 B g N cap P ([x] ++ Y) S) := by
  have hlen := h.len
  simp only [List.length_append, List.length_cons, List.length_nil] at hlen
  obtain ⟨n, hn⟩ : ∃ n, Y.length = n := ⟨_, rfl⟩
  obtain ⟨a, ha⟩ : ∃ a, P.length = a := ⟨_, rfl⟩
  obtain ⟨m, hm⟩ : ∃ m, m = a + 1 := ⟨_, rfl⟩
  obtain ⟨b, hb⟩ : ∃ b, b = m + n := ⟨_, rfl⟩
  rw [ha] at ea
  rw [ha, ← hm] at em
  rw [ha, hn, ← hm, ← hb] at eb
  subst ea em eb
  have Hn := Lib.hid hn
  have Ha := Lib.hid ha
  have Hm := Lib.hid hm
  have Hb := Lib.hid hb
  have hbN : b ≤ N := by omega
  have ham1 : a + 1 ≤ m := by omega
  have ham2 : m ≤ a + 1 := by omega
  have hmb1 : m + n ≤ b := by omega
  have hmb2 : b ≤ m + n := by omega
  have e1 : (m : Int) - a = 1 := by omega
  have hgB := h.lt.1
  obtain ⟨L, hL⟩ : ∃ L, L = P ++ [x] ++ Y ++ S := ⟨_, rfl⟩
  have HL := Lib.hid hL
  rw [← hL] at h
  have hxa : L[a]? = some x := by rw [hL, ← ha]; simp only [List.append_assoc]; exact get_mid _ _ _
  have HXA := Lib.hid hxa
  have HYR := Lib.hid (fun r (hr : r < n) => show L[m + r]? = Y[r]? by
    have := get_seg (A := P ++ [x]) (Q := Y) (C := S) (r := r) (by omega)
    rw [← hL, List.length_append, ha] at this
    rw [hm]; exact this)
  have HR := Lib.hid h
  have HB := Lib.hid hB
  have HY := Lib.hid hY
  have HS := Lib.hid hS
  have HX := Lib.hid hx
  clear hn ha hm hb hlen h hB hY hS hx hL hxa
  go_enter Tryd.func105, Tryd.ntmps105
  go_wp2
  go_loopw [10, 11] (fun vi vj wr => BsQ w0 B g N cap m L n (fun p => ∀ y, 0 < p → Y[p - 1]? = some y → flt y x) (fun q => ∀ y, Y[q]? = some y → ¬ flt y x) vi vj wr) (fun vi vj _ => (intOf vj).toNat - (intOf vi).toNat)
  case atStart => unfold BsQ; exact ⟨m, b, 0, n, rfl, rfl, Lib.hid rfl, Hb, Nat.zero_le _, Nat.le_refl _, Lib.hid (fun y h => absurd h (by omega)), Lib.hid (fun y hy => by rw [List.getElem?_eq_none (by rw [Hn.out]; exact Nat.le_refl _)] at hy; cases hy), HR, HB⟩
  case round =>
    unfold BsQ at hrel
    clear HR HB
    obtain ⟨i, j, p, q, rfl, rfl, Hi, Hj, hpq, hqn, HLO, HHI, HR, HBr⟩ := hrel
    have hi := Hi.out
    have hj := Hj.out
    by_cases hlt : i < j
    · obtain ⟨M, hM, r, hr1, hr2, hr3⟩ : ∃ M : Nat, ((i : Int) + (j : Int)) / 2 = (M : Int) ∧ ∃ r, M = m + r ∧ p ≤ r ∧ r < q := ⟨(i + j) / 2, by omega, (i + j) / 2 - m, by omega, by omega, by omega⟩
      have HMr := Lib.hid hr1
      obtain ⟨y, hy⟩ : ∃ y, Y[r]? = some y := ⟨_, List.getElem?_eq_getElem (by have := Hn.out; omega)⟩
      have HYr := Lib.hid hy
      have hym : L[M]? = some y := by rw [hr1, HYR.out r (by omega)]; exact hy
      obtain ⟨y0, y1, y2⟩ := HR.out.get hym
      obtain ⟨x0, x1, x2⟩ := HR.out.get HXA.out
      have il : (i : Int) < j := by omega
      have MN : (M : Int) < N := by omega
      have aN : (a : Int) < N := by omega
      have hfy := HY.out y (List.mem_of_getElem? hy)
      have hs := ordL_neg (fk y) (fk x)
      have HCC : Hid (∀ p : Cls wr, Calls Tryd.prog 83 #[.agg #[.string y.path, .int .i64 y.mode, .string y.data], .agg #[.string x.path, .int .i64 x.mode, .string x.data]] p.n fun e w' => e = .returned (.int .i64 (ordL (fk y) (fk x))) ∧ Below p.n.heap.size p.n w') := Lib.hid fun p => cmp_any y x p.n hfy HX.out
      have x0' := cell_cls x0
      have x1' := cell_cls x1
      have x2' := cell_cls x2
      have y0' := cell_cls y0
      have y1' := cell_cls y1
      have y2' := cell_cls y2
      by_cases hc : flt y x
      · have hSS := hs.2 hc
        have HLO2 : Hid (∀ y', 0 < r + 1 → Y[r + 1 - 1]? = some y' → flt y' x) := Lib.hid fun y' _ hy' => by
          rw [Nat.add_sub_cancel, HYr.out] at hy'
          injection hy' with hy'
          rw [← hy']; exact hc
        have HMI : Hid (M + 1 = m + (r + 1)) := Lib.hid (by omega)
        generalize ordL (fk y) (fk x) = Q at *
        clear x0 x1 x2 y0 y1 y2 hy hym hfy hs hc hi hj hr1 hlt
        go_wp2
        (refine wp_region_cls (by kernel_rfl) (by kernel_rfl) ?_; (repeat (go_big_quiet_step ((go_at_call 83; with_reducible exact cls_call (HCC.out _))))); refine wpQuiet_nil ?_; intro w9 hw'; obtain ⟨⟨w9', hb9⟩, hw''⟩ := hw'; subst hw'')
        go_wp2
        go_roundw
        case rel => unfold BsQ; exact ⟨M + 1, j, r + 1, q, by go_num, rfl, HMI, Hj, by omega, hqn, HLO2, HHI, Lib.hid (HR.out.below hb9), Lib.hid (HBr.out.trans (hb9.mono (Nat.le_trans hgB (Nat.le_of_lt HR.out.lt.2))))⟩
        case measure => simp [intOf] <;> omega
      · have hSS : ¬ ordL (fk y) (fk x) < 0 := fun h => hc (hs.1 h)
        have HHI2 : Hid (∀ y', Y[r]? = some y' → ¬ flt y' x) := Lib.hid fun y' hy' => by
          rw [HYr.out] at hy'
          injection hy' with hy'
          rw [← hy']; exact hc
        generalize ordL (fk y) (fk x) = Q at *
        clear x0 x1 x2 y0 y1 y2 hy hym hfy hs hc hi hj hr1 hlt
        go_wp2
        (refine wp_region_cls (by kernel_rfl) (by kernel_rfl) ?_; (repeat (go_big_quiet_step ((go_at_call 83; with_reducible exact cls_call (HCC.out _))))); refine wpQuiet_nil ?_; intro w9 hw'; obtain ⟨⟨w9', hb9⟩, hw''⟩ := hw'; subst hw'')
        go_wp2
        go_roundw
        case rel => unfold BsQ; exact ⟨i, M, p, r, rfl, rfl, Hi, HMr, hr2, by omega, HLO, HHI2, Lib.hid (HR.out.below hb9), Lib.hid (HBr.out.trans (hb9.mono (Nat.le_trans hgB (Nat.le_of_lt HR.out.lt.2))))⟩
        case measure => simp [intOf] <;> omega
    · have hpq2 : p = q := by omega
      subst hpq2
      have il : ¬ (i : Int) < j := by omega
      have hsl := sym_left HS.out (by rw [Hn.out]; exact hqn) HLO.out HHI.out
      have HZ := Lib.hid hsl
      have HR2 : Hid (FRow wr B g N cap (P ++ Y.take 0 ++ x :: Y.drop 0 ++ S)) := Lib.hid (by
        have := HR.out
        rw [HL.out] at this
        simpa using this)
      have hia : (i : Int) - 1 = a + p := by omega
      have HIA := Lib.hid hia
      have iN : (i : Int) ≤ N := by omega
      have i1 : (1 : Int) ≤ i := by omega
      clear hi hj hlt hsl hia HR
      obtain ⟨w1, rfl⟩ : ∃ w1, w1 = wr := ⟨_, rfl⟩
      go_wp2
      go_loopw [13] (fun v wr => SwQ w0 B g N cap a p P x Y S v wr) (fun v _ => (a + p) - (intOf v).toNat)
      case atStart => unfold SwQ; exact ⟨a, 0, rfl, Lib.hid rfl, Nat.zero_le _, HR2, HBr⟩
      case round =>
        unfold SwQ at hrel
        clear HR2 HBr
        obtain ⟨k, c, rfl, Hk, hcp, HR, HBr⟩ := hrel
        have hk := Hk.out
        have hia := HIA.out
        by_cases hlt2 : c < p
        · have kl : (k : Int) < (i : Int) - 1 := by omega
          obtain ⟨y, hy⟩ : ∃ y, Y[c]? = some y := ⟨_, List.getElem?_eq_getElem (by have := Hn.out; omega)⟩
          have eL : P ++ Y.take c ++ x :: Y.drop c ++ S = (P ++ Y.take c) ++ x :: ([] ++ y :: (Y.drop (c + 1) ++ S)) := by rw [drop_head hy]; simp only [List.append_assoc, List.cons_append, List.nil_append]
          have eN : P ++ Y.take (c + 1) ++ x :: Y.drop (c + 1) ++ S = (P ++ Y.take c) ++ y :: ([] ++ x :: (Y.drop (c + 1) ++ S)) := by rw [List.take_add_one, hy]; simp only [List.append_assoc, List.cons_append, List.nil_append, Option.toList_some]
          have hA : (P ++ Y.take c).length = k := by rw [List.length_append, Ha.out, List.length_take, Hn.out]; omega
          have hr := HR.out
          rw [eL] at hr
          have hxk : ((P ++ Y.take c) ++ x :: ([] ++ y :: (Y.drop (c + 1) ++ S)))[k]? = some x := by rw [← hA]; exact get_mid _ _ _
          have hyk : ((P ++ Y.take c) ++ x :: ([] ++ y :: (Y.drop (c + 1) ++ S)))[k + 1]? = some y := by
            rw [show (P ++ Y.take c) ++ x :: ([] ++ y :: (Y.drop (c + 1) ++ S)) = ((P ++ Y.take c) ++ [x]) ++ y :: (Y.drop (c + 1) ++ S) by simp only [List.append_assoc, List.cons_append, List.nil_append], show k + 1 = ((P ++ Y.take c) ++ [x]).length by rw [List.length_append, hA]; rfl]
            exact get_mid _ _ _
          have hsw : (((P ++ Y.take c) ++ x :: ([] ++ y :: (Y.drop (c + 1) ++ S))).set k y).set (k + 1) x = P ++ Y.take (c + 1) ++ x :: Y.drop (c + 1) ++ S := by
            rw [eN, ← hA]
            exact swap_mid (P ++ Y.take c) [] (Y.drop (c + 1) ++ S) x y
          have HSW := Lib.hid hsw
          have HRW := Lib.hid hr
          obtain ⟨x0, x1, x2⟩ := hr.get hxk
          obtain ⟨y0, y1, y2⟩ := hr.get hyk
          have p0 := hr.fz (k * 3)
          have p1 := hr.fz (k * 3 + 1)
          have p2 := hr.fz (k * 3 + 2)
          have p3 := hr.fz ((k + 1) * 3)
          have p4 := hr.fz ((k + 1) * 3 + 1)
          have p5 := hr.fz ((k + 1) * 3 + 2)
          have kN : (k : Int) < N := by omega
          have kN1 : (k : Int) + 1 < N := by omega
          have HK1 : Hid (k + 1 = a + (c + 1)) := Lib.hid (by omega)
          have kb : k < a + p := by omega
          clear hy eL eN hA hxk hyk hsw hr hk hia
          go_wp2
          go_region
          go_wp2
          go_roundw
          case rel => unfold SwQ; exact ⟨k + 1, c + 1, by go_num, HK1, hlt2, Lib.hid (by have := ((HRW.out.put k y).put (k + 1) x).drew; rw [HSW.out] at this; exact this), Lib.hid (put_below (put_below HBr.out hgB k y) hgB (k + 1) x).drew⟩
          case measure => simp [intOf] <;> omega
        · have kl : ¬ (k : Int) < (i : Int) - 1 := by omega
          have hcp2 : c = p := by omega
          subst hcp2
          clear hk hia
          go_wp2
          refine bodyPost_ret (results_none rfl _ _ _) rfl ?_
          unfold SortOut
          exact ⟨_, rfl, HZ.out.1, HZ.out.2, by have := HR.out; simp only [List.append_assoc, List.cons_append] at this ⊢; exact this, HBr.out⟩
def SwT (w0 : World) (B g N cap a n p : Nat) (P : List FileD) (y : FileD) (X S : List FileD) (v : Value) (wr : World) : Prop := ∃ (k c : Nat), v = .int .i64 k ∧ Hid (k = a + c) ∧ c ≤ n ∧ p ≤ c ∧ Hid (FRow wr B g N cap (P ++ X.take c ++ y :: X.drop c ++ S)) ∧ Hid (Below B w0 wr)
set_option maxHeartbeats 8000000 in
set_option maxRecDepth 100000 in
theorem sym_two (w0 W : World) (B g N cap : Nat) (P X : List FileD) (y : FileD) (S : List FileD) (va vm vb : Int) (hN : N ≤ 100000) (hB : Below B w0 W) (h : FRow W B g N cap (P ++ X ++ [y] ++ S)) (hy : FOk y) (hX : ∀ f ∈ X, FOk f) (hS : Srt X) (hX2 : X.length ≠ 1)
    (ea : va = P.length) (em : vm = ((P.length + X.length : Nat) : Int)) (eb : vb = ((P.length + X.length + 1 : Nat) : Int)) :
    Calls Tryd.prog 105 #[.slice (some ⟨g, 0, none⟩) N cap, .int .i64 va, .int .i64 vm, .int .i64 vb, (.func (.func 83) #[] #[])] W (SortOut w0 B g N cap P (X ++ [y]) S) := by
  have hlen := h.len
  simp only [List.length_append, List.length_cons, List.length_nil] at hlen
  obtain ⟨n, hn⟩ : ∃ n, X.length = n := ⟨_, rfl⟩
  obtain ⟨a, ha⟩ : ∃ a, P.length = a := ⟨_, rfl⟩
  obtain ⟨m, hm⟩ : ∃ m, m = a + n := ⟨_, rfl⟩
  obtain ⟨b, hb⟩ : ∃ b, b = m + 1 := ⟨_, rfl⟩
  rw [ha] at ea
  rw [ha, hn, ← hm] at em
  rw [ha, hn, ← hm, ← hb] at eb
  subst ea em eb
  have Hn := Lib.hid hn
  have Ha := Lib.hid ha
  have Hm := Lib.hid hm
  have Hb := Lib.hid hb
  have hbN : b ≤ N := by omega
  have ham1 : a + n ≤ m := by omega
  have ham2 : m ≤ a + n := by omega
  have hmb1 : m + 1 ≤ b := by omega
  have hmb2 : b ≤ m + 1 := by omega
  have e1 : ((m : Int) - a == 1) = false := by rw [beq_eq_false_iff_ne]; omega
  have e2 : (b : Int) - m = 1 := by omega
  have hgB := h.lt.1
  obtain ⟨L, hL⟩ : ∃ L, L = P ++ X ++ [y] ++ S := ⟨_, rfl⟩
  have HL := Lib.hid hL
  rw [← hL] at h
  have hym : L[m]? = some y := by
    rw [hL, hm, ← ha, ← hn, ← List.length_append, List.append_assoc]
    exact get_mid _ _ _
  have HYM := Lib.hid hym
  have HXR := Lib.hid (fun r (hr : r < n) => show L[a + r]? = X[r]? by
    have := get_seg (A := P) (Q := X) (C := [y] ++ S) (r := r) (by omega)
    rw [← List.append_assoc, ← hL, ha] at this
    exact this)
  have HR := Lib.hid h
  have HB := Lib.hid hB
  have HX := Lib.hid hX
  have HS := Lib.hid hS
  have HY := Lib.hid hy
  clear hn ha hm hb hlen h hB hX hS hy hL hym hX2
  go_enter Tryd.func105, Tryd.ntmps105
  go_wp2
  go_loopw [14, 15] (fun vi vj wr => BsQ w0 B g N cap a L n (fun p => ∀ u, 0 < p → X[p - 1]? = some u → ¬ flt y u) (fun q => ∀ u, X[q]? = some u → flt y u) vi vj wr) (fun vi vj _ => (intOf vj).toNat - (intOf vi).toNat)
  case atStart => unfold BsQ; exact ⟨a, m, 0, n, rfl, rfl, Lib.hid rfl, Hm, Nat.zero_le _, Nat.le_refl _, Lib.hid (fun y h => absurd h (by omega)), Lib.hid (fun y hy => by rw [List.getElem?_eq_none (by rw [Hn.out]; exact Nat.le_refl _)] at hy; cases hy), HR, HB⟩
  case round =>
    unfold BsQ at hrel
    clear HR HB
    obtain ⟨i, j, p, q, rfl, rfl, Hi, Hj, hpq, hqn, HLO, HHI, HR, HBr⟩ := hrel
    have hi := Hi.out
    have hj := Hj.out
    by_cases hlt : i < j
    · obtain ⟨M, hM, r, hr1, hr2, hr3⟩ : ∃ M : Nat, ((i : Int) + (j : Int)) / 2 = (M : Int) ∧ ∃ r, M = a + r ∧ p ≤ r ∧ r < q := ⟨(i + j) / 2, by omega, (i + j) / 2 - a, by omega, by omega, by omega⟩
      have HMr := Lib.hid hr1
      obtain ⟨u, hu⟩ : ∃ u, X[r]? = some u := ⟨_, List.getElem?_eq_getElem (by have := Hn.out; omega)⟩
      have HUr := Lib.hid hu
      have hum : L[M]? = some u := by rw [hr1, HXR.out r (by omega)]; exact hu
      obtain ⟨y0, y1, y2⟩ := HR.out.get HYM.out
      obtain ⟨x0, x1, x2⟩ := HR.out.get hum
      have il : (i : Int) < j := by omega
      have MN : (M : Int) < N := by omega
      have mN : (m : Int) < N := by omega
      have hfu := HX.out u (List.mem_of_getElem? hu)
      have hs := ordL_neg (fk y) (fk u)
      have HCC : Hid (∀ p : Cls wr, Calls Tryd.prog 83 #[.agg #[.string y.path, .int .i64 y.mode, .string y.data], .agg #[.string u.path, .int .i64 u.mode, .string u.data]] p.n fun e w' => e = .returned (.int .i64 (ordL (fk y) (fk u))) ∧ Below p.n.heap.size p.n w') := Lib.hid fun p => cmp_any y u p.n HY.out hfu
      have x0' := cell_cls x0
      have x1' := cell_cls x1
      have x2' := cell_cls x2
      have y0' := cell_cls y0
      have y1' := cell_cls y1
      have y2' := cell_cls y2
      by_cases hc : flt y u
      · have hSS := hs.2 hc
        have HHI2 : Hid (∀ y', X[r]? = some y' → flt y y') := Lib.hid fun y' hy' => by
          rw [HUr.out] at hy'
          injection hy' with hy'
          rw [← hy']; exact hc
        have dS := decide_eq_true hSS
        generalize ordL (fk y) (fk u) = Q at *
        clear x0 x1 x2 y0 y1 y2 hu hum hfu hs hc hi hj hr1 hlt
        go_wp2
        (refine wp_region_cls (by kernel_rfl) (by kernel_rfl) ?_; (repeat (go_big_quiet_step ((go_at_call 83; with_reducible exact cls_call (HCC.out _))))); refine wpQuiet_nil ?_; intro w9 hw'; obtain ⟨⟨w9', hb9⟩, hw''⟩ := hw'; subst hw'')
        go_wp2
        go_roundw
        case rel => unfold BsQ; exact ⟨i, M, p, r, rfl, rfl, Hi, HMr, hr2, by omega, HLO, HHI2, Lib.hid (HR.out.below hb9), Lib.hid (HBr.out.trans (hb9.mono (Nat.le_trans hgB (Nat.le_of_lt HR.out.lt.2))))⟩
        case measure => simp [intOf] <;> omega
      · have hSS : ¬ ordL (fk y) (fk u) < 0 := fun h => hc (hs.1 h)
        have HLO2 : Hid (∀ y', 0 < r + 1 → X[r + 1 - 1]? = some y' → ¬ flt y y') := Lib.hid fun y' _ hy' => by
          rw [Nat.add_sub_cancel, HUr.out] at hy'
          injection hy' with hy'
          rw [← hy']; exact hc
        have HMI : Hid (M + 1 = a + (r + 1)) := Lib.hid (by omega)
        have dS := decide_eq_false hSS
        generalize ordL (fk y) (fk u) = Q at *
        clear x0 x1 x2 y0 y1 y2 hu hum hfu hs hc hi hj hr1 hlt
        go_wp2
        (refine wp_region_cls (by kernel_rfl) (by kernel_rfl) ?_; (repeat (go_big_quiet_step ((go_at_call 83; with_reducible exact cls_call (HCC.out _))))); refine wpQuiet_nil ?_; intro w9 hw'; obtain ⟨⟨w9', hb9⟩, hw''⟩ := hw'; subst hw'')
        go_wp2
        go_roundw
        case rel => unfold BsQ; exact ⟨M + 1, j, r + 1, q, by go_num, rfl, HMI, Hj, by omega, hqn, HLO2, HHI, Lib.hid (HR.out.below hb9), Lib.hid (HBr.out.trans (hb9.mono (Nat.le_trans hgB (Nat.le_of_lt HR.out.lt.2))))⟩
        case measure => simp [intOf] <;> omega
    · have hpq2 : p = q := by omega
      subst hpq2
      have il : ¬ (i : Int) < j := by omega
      have hsl := sym_right HS.out (by rw [Hn.out]; exact hqn) HLO.out HHI.out
      have HZ := Lib.hid hsl
      have HR2 : Hid (FRow wr B g N cap (P ++ X.take n ++ y :: X.drop n ++ S)) := Lib.hid (by
        have := HR.out
        rw [HL.out] at this
        rw [List.take_of_length_le (by rw [Hn.out]; exact Nat.le_refl _), List.drop_eq_nil_of_le (by rw [Hn.out]; exact Nat.le_refl _)]
        simpa using this)
      have HIA : Hid (i = a + p) := Hi
      clear hi hj hlt hsl HR
      obtain ⟨w1, rfl⟩ : ∃ w1, w1 = wr := ⟨_, rfl⟩
      go_wp2
      go_loopw [17] (fun v wr => SwT w0 B g N cap a n p P y X S v wr) (fun v _ => (intOf v).toNat)
      case atStart => unfold SwT; exact ⟨m, n, rfl, Hm, Nat.le_refl _, hqn, HR2, HBr⟩
      case round =>
        unfold SwT at hrel
        clear HR2 HBr
        obtain ⟨k, c, rfl, Hk, hcn, hpc, HR, HBr⟩ := hrel
        have hk := Hk.out
        have hia := HIA.out
        by_cases hlt2 : p < c
        · obtain ⟨k', rfl⟩ : ∃ k', k = k' + 1 := ⟨k - 1, by omega⟩
          obtain ⟨c', rfl⟩ : ∃ c', c = c' + 1 := ⟨c - 1, by omega⟩
          have kl : (i : Int) < (k' : Int) + 1 := by omega
          obtain ⟨u, hu⟩ : ∃ u, X[c']? = some u := ⟨_, List.getElem?_eq_getElem (by have := Hn.out; omega)⟩
          have eL : P ++ X.take (c' + 1) ++ y :: X.drop (c' + 1) ++ S = (P ++ X.take c') ++ u :: y :: (X.drop (c' + 1) ++ S) := by rw [List.take_add_one, hu]; simp only [List.append_assoc, List.cons_append, List.nil_append, Option.toList_some]
          have eN : P ++ X.take c' ++ y :: X.drop c' ++ S = (P ++ X.take c') ++ y :: u :: (X.drop (c' + 1) ++ S) := by rw [drop_head hu]; simp only [List.append_assoc, List.cons_append]
          have hA : (P ++ X.take c').length = k' := by rw [List.length_append, Ha.out, List.length_take, Hn.out]; omega
          have hr := HR.out
          rw [eL] at hr
          have huk : ((P ++ X.take c') ++ u :: y :: (X.drop (c' + 1) ++ S))[k']? = some u := by rw [← hA]; exact get_mid _ _ _
          have hyk : ((P ++ X.take c') ++ u :: y :: (X.drop (c' + 1) ++ S))[k' + 1]? = some y := by
            rw [show (P ++ X.take c') ++ u :: y :: (X.drop (c' + 1) ++ S) = ((P ++ X.take c') ++ [u]) ++ y :: (X.drop (c' + 1) ++ S) by simp only [List.append_assoc, List.cons_append, List.nil_append], show k' + 1 = ((P ++ X.take c') ++ [u]).length by rw [List.length_append, hA]; rfl]
            exact get_mid _ _ _
          have hsw : (((P ++ X.take c') ++ u :: y :: (X.drop (c' + 1) ++ S)).set (k' + 1) u).set k' y = P ++ X.take c' ++ y :: X.drop c' ++ S := by
            rw [eN, ← hA]
            exact swap_adj _ _ _ _
          have HSW := Lib.hid hsw
          have HRW := Lib.hid hr
          obtain ⟨x0, x1, x2⟩ := hr.get huk
          obtain ⟨y0, y1, y2⟩ := hr.get hyk
          have p0 := hr.fz (k' * 3)
          have p1 := hr.fz (k' * 3 + 1)
          have p2 := hr.fz (k' * 3 + 2)
          have p3 := hr.fz ((k' + 1) * 3)
          have p4 := hr.fz ((k' + 1) * 3 + 1)
          have p5 := hr.fz ((k' + 1) * 3 + 2)
          have k0 : (0 : Int) ≤ k' := by omega
          have kN : (k' : Int) < N := by omega
          have kN1 : (k' : Int) + 1 < N := by omega
          have HK1 : Hid (k' = a + c') := Lib.hid (by omega)
          clear hu eL eN hA huk hyk hsw hr hk hia
          go_wp2
          go_region
          go_wp2
          go_roundw
          case rel => unfold SwT; exact ⟨k', c', by go_num, HK1, by omega, by omega, Lib.hid (by have := ((HRW.out.put (k' + 1) u).put k' y).drew; rw [HSW.out] at this; exact this), Lib.hid (put_below (put_below HBr.out hgB (k' + 1) u) hgB k' y).drew⟩
          case measure => simp [intOf] <;> omega
        · have kl : ¬ (i : Int) < (k : Int) := by omega
          have hcp2 : c = p := by omega
          subst hcp2
          clear hk hia
          go_wp2
          refine bodyPost_ret (results_none rfl _ _ _) rfl ?_
          unfold SortOut
          exact ⟨_, rfl, HZ.out.1, HZ.out.2, by have := HR.out; simp only [List.append_assoc, List.cons_append] at this ⊢; exact this, HBr.out⟩
end Go.Proofs.YtjhbmcgaehpadaaDoor
/- The library's stable sort over files: symMerge. -/
namespace Go.Proofs.YtjhbmcgaehpadaaDoor
open Go.RowKit
set_option linter.unusedVariables false

/-- What symMerge answers to any call on the row. -/
def SymLaw (w0 : World) (B g N cap d : Nat) : Prop := ∀ (W : World) (P X Y S : List FileD) (va vm vb : Int), X.length + Y.length ≤ d → Below B w0 W → FRow W B g N cap (P ++ X ++ Y ++ S) → (∀ f ∈ X, FOk f) → (∀ f ∈ Y, FOk f) → Srt X → Srt Y → 0 < X.length → 0 < Y.length →
  va = P.length → vm = ((P.length + X.length : Nat) : Int) → vb = ((P.length + X.length + Y.length : Nat) : Int) → Calls Tryd.prog 105 #[.slice (some ⟨g, 0, none⟩) N cap, .int .i64 va, .int .i64 vm, .int .i64 vb, (.func (.func 83) #[] #[])] W (SortOut w0 B g N cap P (X ++ Y) S)
/-- Where the search for the crossing may stand. -/
def Edge (a m b pp s0 r0 : Nat) : Prop := a ≤ s0 ∧ s0 ≤ r0 ∧ r0 ≤ m ∧ m + r0 ≤ pp + 1 ∧ pp + 1 ≤ b + s0 ∧ (s0 = a ∨ pp + 1 = b + s0) ∧ (r0 = m ∨ pp + 1 = m + r0)
def BsG (w0 : World) (B g N cap : Nat) (L : List FileD) (pp s0 r0 : Nat) (vi vj : Value) (wr : World) : Prop := ∃ (i j : Nat), vi = .int .i64 i ∧ vj = .int .i64 j ∧ s0 ≤ i ∧ i ≤ j ∧ j ≤ r0 ∧ Hid (∀ x y, s0 < i → L[i - 1]? = some x → L[pp + 1 - i]? = some y → ¬ flt y x) ∧ Hid (∀ x y, j < r0 → L[j]? = some x → L[pp - j]? = some y → flt y x) ∧ Hid (FRow wr B g N cap L) ∧ Hid (Below B w0 wr)
def CutA (a m b pp : Nat) (w : World) (v20 v21 : Value) (wx : World) : Prop := wx = w ∧ ∃ s0 r0 : Nat, v20 = .int .i64 s0 ∧ v21 = .int .i64 r0 ∧ Edge a m b pp s0 r0
def CutB (w0 : World) (B g N cap en : Nat) (L : List FileD) (v : Value) (wx : World) : Prop := v = .int .i64 en ∧ Hid (FRow wx B g N cap L) ∧ Hid (Below B w0 wx)
def CutZ (w0 : World) (B g N cap en : Nat) (P Q R : List FileD) (v : Value) (wx : World) : Prop := ∃ Z, v = .int .i64 en ∧ Hid (Srt Z) ∧ Hid (Stb Q Z) ∧ Hid (FRow wx B g N cap (P ++ Z ++ R)) ∧ Hid (Below B w0 wx)
set_option maxHeartbeats 8000000 in
set_option maxRecDepth 100000 in
theorem sym_big (w0 W : World) (B g N cap : Nat) (P X Y S : List FileD) (va vm vb : Int) (hN : N ≤ 100000) (d : Nat) (REC : SymLaw w0 B g N cap d) (hd : X.length + Y.length ≤ d + 1) (hB : Below B w0 W) (h : FRow W B g N cap (P ++ X ++ Y ++ S)) (hX : ∀ f ∈ X, FOk f) (hY : ∀ f ∈ Y, FOk f) (sX : Srt X) (sY : Srt Y) (hx2 : 2 ≤ X.length) (hy2 : 2 ≤ Y.length)
    (ea : va = P.length) (em : vm = ((P.length + X.length : Nat) : Int)) (eb : vb = ((P.length + X.length + Y.length : Nat) : Int)) :
    Calls Tryd.prog 105 #[.slice (some ⟨g, 0, none⟩) N cap, .int .i64 va, .int .i64 vm, .int .i64 vb, (.func (.func 83) #[] #[])] W (SortOut w0 B g N cap P (X ++ Y) S) := by
  have hlen := h.len
  simp only [List.length_append] at hlen
  obtain ⟨nx, hnx⟩ : ∃ n, X.length = n := ⟨_, rfl⟩
  obtain ⟨ny, hny⟩ : ∃ n, Y.length = n := ⟨_, rfl⟩
  obtain ⟨a, ha⟩ : ∃ a, P.length = a := ⟨_, rfl⟩
  obtain ⟨m, hm⟩ : ∃ m, m = a + nx := ⟨_, rfl⟩
  obtain ⟨b, hb⟩ : ∃ b, b = m + ny := ⟨_, rfl⟩
  obtain ⟨mid, hmid⟩ : ∃ mid : Nat, ((a : Int) + b) / 2 = mid := ⟨(a + b) / 2, by omega⟩
  obtain ⟨nn, hnn⟩ : ∃ nn : Nat, (mid : Int) + m = nn := ⟨mid + m, by omega⟩
  obtain ⟨pp, hpp⟩ : ∃ pp : Nat, (nn : Int) - 1 = pp := ⟨mid + m - 1, by omega⟩
  rw [ha] at ea
  rw [ha, hnx, ← hm] at em
  rw [ha, hnx, hny, ← hm, ← hb] at eb
  subst ea em eb
  have Hnx := Lib.hid hnx
  have Hny := Lib.hid hny
  have Ha := Lib.hid ha
  have Hd := Lib.hid hd
  have hbN : b ≤ N := by omega
  have i1 : a + nx ≤ m := by omega
  have i2 : m ≤ a + nx := by omega
  have i3 : m + ny ≤ b := by omega
  have i4 : b ≤ m + ny := by omega
  have i5 : 2 ≤ nx := by omega
  have i6 : 2 ≤ ny := by omega
  have i7 : 2 * mid ≤ a + b := by omega
  have i8 : a + b ≤ 2 * mid + 1 := by omega
  have i9 : mid + m ≤ nn := by omega
  have i10 : nn ≤ mid + m := by omega
  have i11 : pp + 1 ≤ nn := by omega
  have i12 : nn ≤ pp + 1 := by omega
  have e1 : ((m : Int) - a == 1) = false := by rw [beq_eq_false_iff_ne]; omega
  have e2 : ((b : Int) - m == 1) = false := by rw [beq_eq_false_iff_ne]; omega
  have hgB := h.lt.1
  obtain ⟨L, hL⟩ : ∃ L, L = P ++ X ++ Y ++ S := ⟨_, rfl⟩
  have HL := Lib.hid hL
  rw [← hL] at h
  have HXR := Lib.hid (fun r (hr : r < nx) => show L[a + r]? = X[r]? by
    have := get_seg (A := P) (Q := X) (C := Y ++ S) (r := r) (by omega)
    rw [← List.append_assoc, ← hL, ha] at this
    exact this)
  have HYR := Lib.hid (fun r (hr : r < ny) => show L[m + r]? = Y[r]? by
    have := get_seg (A := P ++ X) (Q := Y) (C := S) (r := r) (by omega)
    rw [← hL, List.length_append, ha, hnx, ← hm] at this
    exact this)
  have HR := Lib.hid h
  have HB := Lib.hid hB
  have HX := Lib.hid hX
  have HY := Lib.hid hY
  have SX := Lib.hid sX
  have SY := Lib.hid sY
  have RC := Lib.hid REC
  clear hnx hny ha hm hb hlen h hB hX hY sX sY hL REC hd hx2 hy2
  go_enter Tryd.func105, Tryd.ntmps105
  go_upto_if 140 with (fail)
  go_cut [20, 21] from 138 (fun v20 v21 wx => CutA a m b pp W v20 v21 wx)
  case first =>
    by_cases hmm : mid < m
    · have q1 : (mid : Int) < m := by omega
      obtain ⟨s0, hs0⟩ : ∃ s0 : Nat, (nn : Int) - b = s0 := ⟨nn - b, by omega⟩
      have HE : Edge a m b pp s0 mid := ⟨by omega, by omega, by omega, by omega, by omega, .inr (by omega), .inr (by omega)⟩
      go_wp2_with fail
      go_meet
      unfold CutA
      exact ⟨rfl, s0, mid, rfl, rfl, HE⟩
    · have q1 : ¬ (mid : Int) < m := by omega
      have HE : Edge a m b pp a m := ⟨by omega, by omega, by omega, by omega, by omega, .inl rfl, .inl rfl⟩
      go_wp2_with fail
      go_meet
      unfold CutA
      exact ⟨rfl, a, m, rfl, rfl, HE⟩
  case rest =>
    unfold CutA at hcut
    obtain ⟨rfl, s0, r0, rfl, rfl, HE0⟩ := hcut
    have HE := Lib.hid HE0
    obtain ⟨g1, g2, g3, g4, g5, _, _⟩ := HE0
    go_wp2
    go_loopw [20, 21] (fun vi vj wr => BsG w0 B g N cap L pp s0 r0 vi vj wr) (fun vi vj _ => (intOf vj).toNat - (intOf vi).toNat)
    case atStart => unfold BsG; exact ⟨s0, r0, rfl, rfl, Nat.le_refl _, g2, Nat.le_refl _, Lib.hid (fun x y h => absurd h (by omega)), Lib.hid (fun x y h => absurd h (by omega)), HR, HB⟩
    case round =>
      unfold BsG at hrel
      clear HR HB
      obtain ⟨i, j, rfl, rfl, hi1, hij, hj1, HLO, HHI, HR, HBr⟩ := hrel
      by_cases hlt : i < j
      · obtain ⟨M, hM, hM1, hM2⟩ : ∃ M : Nat, ((i : Int) + (j : Int)) / 2 = (M : Int) ∧ i ≤ M ∧ M < j := ⟨(i + j) / 2, by omega, by omega, by omega⟩
        obtain ⟨dd, hdd⟩ : ∃ dd : Nat, (pp : Int) - M = dd := ⟨pp - M, by omega⟩
        have hd1 : m ≤ dd := by omega
        have hd2 : dd < b := by omega
        have hdn : pp - M = dd := by omega
        obtain ⟨x, hx⟩ : ∃ x, X[M - a]? = some x := ⟨_, List.getElem?_eq_getElem (by have := Hnx.out; omega)⟩
        obtain ⟨y, hy⟩ : ∃ y, Y[dd - m]? = some y := ⟨_, List.getElem?_eq_getElem (by have := Hny.out; omega)⟩
        have hxm : L[M]? = some x := by
          have := HXR.out (M - a) (by omega)
          rw [show a + (M - a) = M by omega] at this
          rw [this]; exact hx
        have hyd : L[dd]? = some y := by
          have := HYR.out (dd - m) (by omega)
          rw [show m + (dd - m) = dd by omega] at this
          rw [this]; exact hy
        have HXM := Lib.hid hxm
        have HYD := Lib.hid hyd
        have HDN := Lib.hid hdn
        obtain ⟨x0, x1, x2⟩ := HR.out.get hxm
        obtain ⟨y0, y1, y2⟩ := HR.out.get hyd
        have il : (i : Int) < j := by omega
        have MN : (M : Int) < N := by omega
        have dN : (dd : Int) < N := by omega
        have hfx := HX.out x (List.mem_of_getElem? hx)
        have hfy := HY.out y (List.mem_of_getElem? hy)
        have hs := ordL_neg (fk y) (fk x)
        have HCC : Hid (∀ p : Cls wr, Calls Tryd.prog 83 #[.agg #[.string y.path, .int .i64 y.mode, .string y.data], .agg #[.string x.path, .int .i64 x.mode, .string x.data]] p.n fun e w' => e = .returned (.int .i64 (ordL (fk y) (fk x))) ∧ Below p.n.heap.size p.n w') := Lib.hid fun p => cmp_any y x p.n hfy hfx
        have x0' := cell_cls x0
        have x1' := cell_cls x1
        have x2' := cell_cls x2
        have y0' := cell_cls y0
        have y1' := cell_cls y1
        have y2' := cell_cls y2
        by_cases hc : flt y x
        · have hSS := hs.2 hc
          have dS := decide_eq_true hSS
          have HHI2 : Hid (∀ x' y', M < r0 → L[M]? = some x' → L[pp - M]? = some y' → flt y' x') := Lib.hid fun x' y' _ h1 h2 => by
            rw [HXM.out] at h1
            rw [HDN.out, HYD.out] at h2
            injection h1 with h1
            injection h2 with h2
            rw [← h1, ← h2]; exact hc
          generalize ordL (fk y) (fk x) = Q at *
          clear x0 x1 x2 y0 y1 y2 hx hy hxm hyd hfx hfy hs hc hdn hlt
          go_wp2
          (refine wp_region_cls (by kernel_rfl) (by kernel_rfl) ?_; (repeat (go_big_quiet_step ((go_at_call 83; with_reducible exact cls_call (HCC.out _))))); refine wpQuiet_nil ?_; intro w9 hw'; obtain ⟨⟨w9', hb9⟩, hw''⟩ := hw'; subst hw'')
          go_wp2
          go_roundw
          case rel => unfold BsG; exact ⟨i, M, rfl, rfl, hi1, hM1, by omega, HLO, HHI2, Lib.hid (HR.out.below hb9), Lib.hid (HBr.out.trans (hb9.mono (Nat.le_trans hgB (Nat.le_of_lt HR.out.lt.2))))⟩
          case measure => simp [intOf] <;> omega
        · have hSS : ¬ ordL (fk y) (fk x) < 0 := fun h => hc (hs.1 h)
          have dS := decide_eq_false hSS
          have HLO2 : Hid (∀ x' y', s0 < M + 1 → L[M + 1 - 1]? = some x' → L[pp + 1 - (M + 1)]? = some y' → ¬ flt y' x') := Lib.hid fun x' y' _ h1 h2 => by
            rw [Nat.add_sub_cancel, HXM.out] at h1
            rw [Nat.add_sub_add_right, HDN.out, HYD.out] at h2
            injection h1 with h1
            injection h2 with h2
            rw [← h1, ← h2]; exact hc
          generalize ordL (fk y) (fk x) = Q at *
          clear x0 x1 x2 y0 y1 y2 hx hy hxm hyd hfx hfy hs hc hdn hlt
          go_wp2
          (refine wp_region_cls (by kernel_rfl) (by kernel_rfl) ?_; (repeat (go_big_quiet_step ((go_at_call 83; with_reducible exact cls_call (HCC.out _))))); refine wpQuiet_nil ?_; intro w9 hw'; obtain ⟨⟨w9', hb9⟩, hw''⟩ := hw'; subst hw'')
          go_wp2
          go_roundw
          case rel => unfold BsG; exact ⟨M + 1, j, by go_num, rfl, by omega, by omega, hj1, HLO2, HHI, Lib.hid (HR.out.below hb9), Lib.hid (HBr.out.trans (hb9.mono (Nat.le_trans hgB (Nat.le_of_lt HR.out.lt.2))))⟩
          case measure => simp [intOf] <;> omega
      · have hij2 : i = j := by omega
        subst hij2
        have il : ¬ (i : Int) < i := by omega
        obtain ⟨en, hen⟩ : ∃ en : Nat, (nn : Int) - i = en := ⟨nn - i, by omega⟩
        obtain ⟨k, hk⟩ : ∃ k, k = i - a := ⟨_, rfl⟩
        obtain ⟨ee, hee⟩ : ∃ ee, ee = en - m := ⟨_, rfl⟩
        have h0 := HE.out
        have u1 : a + k = i := by omega
        have u2 : m + ee = en := by obtain ⟨_, _, _, _, _, _, _⟩ := h0; omega
        have u3 : k ≤ nx := by omega
        have u4 : ee ≤ ny := by omega
        have F1 : ∀ x y, X[k]? = some x → 0 < ee → Y[ee - 1]? = some y → flt y x := by
          intro x y hx he hy
          have hkx : k < nx := by
            rcases Nat.lt_or_ge k nx with h | h
            · exact h
            · rw [List.getElem?_eq_none (by rw [Hnx.out]; exact h)] at hx; cases hx
          have l1 := HXR.out k hkx
          have l2 := HYR.out (ee - 1) (by omega)
          refine HHI.out x y ?_ (by rw [← u1, l1]; exact hx) (by rw [show pp - i = m + (ee - 1) by omega, l2]; exact hy)
          obtain ⟨_, _, _, _, _, _, h7⟩ := h0
          omega
        have F2 : ∀ x y, 0 < k → X[k - 1]? = some x → Y[ee]? = some y → fle x y := by
          intro x y hk0 hx hy
          have hey : ee < ny := by
            rcases Nat.lt_or_ge ee ny with h | h
            · exact h
            · rw [List.getElem?_eq_none (by rw [Hny.out]; exact h)] at hy; cases hy
          have l1 := HXR.out (k - 1) (by omega)
          have l2 := HYR.out ee hey
          refine not_flt.1 (HLO.out x y ?_ (by rw [show i - 1 = a + (k - 1) by omega, l1]; exact hx) (by rw [show pp + 1 - i = m + ee by omega, l2]; exact hy))
          obtain ⟨_, _, _, _, _, h6, _⟩ := h0
          omega
        have HGEN := Lib.hid (fun Z1 Z2 => sym_gen (Z1 := Z1) (Z2 := Z2) SX.out SY.out F1 F2 (by rw [Hnx.out]; exact u3) (by rw [Hny.out]; exact u4))
        have v1 : a + k ≤ i := by omega
        have v2 : i ≤ a + k := by omega
        have v3 : m + ee ≤ en := by omega
        have v4 : en ≤ m + ee := by omega
        have v5 : i + en ≤ mid + m := by omega
        have v6 : mid + m ≤ i + en := by omega
        have v7 : i ≤ m := by omega
        have v8 : en ≤ b := by omega
        have lX1 : (X.take k).length = k := by rw [List.length_take, Hnx.out]; omega
        have lX2 : (X.drop k).length = nx - k := by rw [List.length_drop, Hnx.out]
        have lY1 : (Y.take ee).length = ee := by rw [List.length_take, Hny.out]; omega
        have lY2 : (Y.drop ee).length = ny - ee := by rw [List.length_drop, Hny.out]
        have hr0 : FRow wr B g N cap (P ++ X.take k ++ X.drop k ++ Y.take ee ++ (Y.drop ee ++ S)) := by
          have := HR.out
          rw [HL.out] at this
          have e : P ++ X.take k ++ X.drop k ++ Y.take ee ++ (Y.drop ee ++ S) = P ++ X ++ Y ++ S := by
            rw [List.append_assoc P, List.take_append_drop, List.append_assoc (P ++ X), ← List.append_assoc (Y.take ee), List.take_append_drop, ← List.append_assoc (P ++ X)]
          rw [e]; exact this
        have HX1 := Lib.hid (fun f (hf : f ∈ X.take k) => HX.out f (List.mem_of_mem_take hf))
        have HX2 := Lib.hid (fun f (hf : f ∈ X.drop k) => HX.out f (List.mem_of_mem_drop hf))
        have HY1 := Lib.hid (fun f (hf : f ∈ Y.take ee) => HY.out f (List.mem_of_mem_take hf))
        have HY2 := Lib.hid (fun f (hf : f ∈ Y.drop ee) => HY.out f (List.mem_of_mem_drop hf))
        have SX1 : Hid (Srt (X.take k)) := Lib.hid (List.Pairwise.sublist (List.take_sublist _ _) SX.out)
        have SX2 : Hid (Srt (X.drop k)) := Lib.hid (List.Pairwise.sublist (List.drop_sublist _ _) SX.out)
        have SY1 : Hid (Srt (Y.take ee)) := Lib.hid (List.Pairwise.sublist (List.take_sublist _ _) SY.out)
        have SY2 : Hid (Srt (Y.drop ee)) := Lib.hid (List.Pairwise.sublist (List.drop_sublist _ _) SY.out)
        have RT : Hid (i < m → m < en → ∀ cmp, Calls Tryd.prog 111 #[.slice (some ⟨g, 0, none⟩) N cap, .int .i64 i, .int .i64 m, .int .i64 en, cmp] wr (RowOut w0 B g N cap (P ++ X.take k ++ Y.take ee ++ X.drop k ++ (Y.drop ee ++ S)))) := Lib.hid fun h1 h2 cmp =>
          rot_any w0 wr B g N cap (P ++ X.take k) (X.drop k) (Y.take ee) (Y.drop ee ++ S) i m en cmp hN HBr.out hr0 (by omega) (by omega) (by rw [List.length_append, Ha.out, lX1]; omega) (by rw [List.length_append, Ha.out, lX1, lX2]; omega) (by rw [List.length_append, Ha.out, lX1, lX2, lY1]; omega)
        have RT0 : Hid (¬ i < m ∨ ¬ m < en → FRow wr B g N cap (P ++ X.take k ++ Y.take ee ++ X.drop k ++ (Y.drop ee ++ S))) := Lib.hid fun h => by
          have := hr0
          rcases h with h | h
          · have e : X.drop k = [] := List.eq_nil_of_length_eq_zero (by omega)
            rw [e] at this ⊢
            rw [List.append_nil] at this ⊢
            exact this
          · have e : Y.take ee = [] := List.eq_nil_of_length_eq_zero (by omega)
            rw [e] at this ⊢
            rw [List.append_nil] at this ⊢
            exact this
        have RS1 : Hid (∀ W', FRow W' B g N cap (P ++ X.take k ++ Y.take ee ++ (X.drop k ++ (Y.drop ee ++ S))) → Below B w0 W' → a < i → i < mid → Calls Tryd.prog 105 #[.slice (some ⟨g, 0, none⟩) N cap, .int .i64 a, .int .i64 i, .int .i64 mid, (.func (.func 83) #[] #[])] W' (SortOut w0 B g N cap P (X.take k ++ Y.take ee) (X.drop k ++ (Y.drop ee ++ S)))) := Lib.hid fun W' h1 h2 h3 h4 =>
          RC.out W' P (X.take k) (Y.take ee) (X.drop k ++ (Y.drop ee ++ S)) a i mid (by have := Hd.out; have := Hnx.out; have := Hny.out; omega) h2 h1 HX1.out HY1.out SX1.out SY1.out (by omega) (by omega) (by rw [Ha.out]) (by rw [Ha.out, lX1]; omega) (by rw [Ha.out, lX1, lY1]; omega)
        have RS2 : Hid (∀ W' Z, Stb (X.take k ++ Y.take ee) Z → FRow W' B g N cap (P ++ Z ++ X.drop k ++ Y.drop ee ++ S) → Below B w0 W' → mid < en → en < b → Calls Tryd.prog 105 #[.slice (some ⟨g, 0, none⟩) N cap, .int .i64 mid, .int .i64 en, .int .i64 b, (.func (.func 83) #[] #[])] W' (SortOut w0 B g N cap (P ++ Z) (X.drop k ++ Y.drop ee) S)) := Lib.hid fun W' Z hz h1 h2 h3 h4 => by
          have lZ : Z.length = k + ee := by rw [← hz.1, List.length_append, lX1, lY1]
          exact RC.out W' (P ++ Z) (X.drop k) (Y.drop ee) S mid en b (by have := Hd.out; have := Hnx.out; have := Hny.out; omega) h2 h1 HX2.out HY2.out SX2.out SY2.out (by omega) (by omega) (by rw [List.length_append, Ha.out, lZ]; omega) (by rw [List.length_append, Ha.out, lZ, lX2]; omega) (by rw [List.length_append, Ha.out, lZ, lX2, lY2]; omega)
        have HL1 : Hid (¬ a < i ∨ ¬ i < mid → Srt (X.take k ++ Y.take ee)) := Lib.hid fun h => half_left SX.out SY.out (by omega)
        have HL2 : Hid (¬ mid < en ∨ ¬ en < b → Srt (X.drop k ++ Y.drop ee)) := Lib.hid fun h => half_right SX.out SY.out (by have := Hnx.out; have := Hny.out; omega)
        clear h0 hk hee F1 F2 u1 u2 HLO HHI hi1 hj1 hij hlt HXR HYR hr0 lX1 lX2 lY1 lY2 HX1 HX2 HY1 HY2 SX1 SX2 SY1 SY2
        go_upto_region 39 with (fail)
        go_cut [185] from 178 (fun v wx => v = .bool (decide (i < m ∧ m < en)) ∧ wr = wx)
        case first =>
          by_cases h1 : i < m
          · have q1 : (i : Int) < m := by omega
            by_cases h2 : m < en
            · have q2 : (m : Int) < en := by omega
              go_wp2_with fail
              go_meet
              exact ⟨by simp [h1, h2], rfl⟩
            · have q2 : ¬ (m : Int) < en := by omega
              go_wp2_with fail
              go_meet
              exact ⟨by simp [h1, h2], rfl⟩
          · have q1 : ¬ (i : Int) < m := by omega
            go_wp2_with fail
            go_meet
            exact ⟨by simp [h1], rfl⟩
        case rest =>
          obtain ⟨rfl, rfl⟩ := hcut
          go_upto_if 185 with (fail)
          go_cut [185] from 186 (fun v wx => CutB w0 B g N cap en (P ++ X.take k ++ Y.take ee ++ X.drop k ++ (Y.drop ee ++ S)) (.int .i64 en) wx)
          case first =>
            by_cases h1 : i < m ∧ m < en
            · have d1 : decide (i < m ∧ m < en) = true := decide_eq_true h1
              have RTX := Lib.hid (RT.out h1.1 h1.2)
              unfold RowOut at RTX
              rw [d1]
              clear h1 d1
              go_wp2_with (go_at_call 111; (with_reducible refine (RTX.out _).mono ?_); rintro x w5 ⟨rfl, hr5, hb5⟩)
              go_meet
              unfold CutB
              exact ⟨rfl, Lib.hid hr5, Lib.hid hb5⟩
            · have d1 : decide (i < m ∧ m < en) = false := decide_eq_false h1
              have HR5 := Lib.hid (RT0.out (by omega))
              rw [d1]
              clear h1 d1
              go_wp2_with fail
              go_meet
              unfold CutB
              exact ⟨rfl, HR5, HBr⟩
          case rest =>
            unfold CutB at hcut
            obtain ⟨_, HR5, HB5⟩ := hcut
            clear RT RT0 HR HBr
            obtain ⟨w5, rfl⟩ : ∃ x, x = wc := ⟨_, rfl⟩
            go_upto_region 41 with (fail)
            go_cut [199] from 192 (fun v wx => v = .bool (decide (a < i ∧ i < mid)) ∧ w5 = wx)
            case first =>
              by_cases h1 : a < i
              · have q1 : (a : Int) < i := by omega
                by_cases h2 : i < mid
                · have q2 : (i : Int) < mid := by omega
                  go_wp2_with fail
                  go_meet
                  exact ⟨by simp [h1, h2], rfl⟩
                · have q2 : ¬ (i : Int) < mid := by omega
                  go_wp2_with fail
                  go_meet
                  exact ⟨by simp [h1, h2], rfl⟩
              · have q1 : ¬ (a : Int) < i := by omega
                go_wp2_with fail
                go_meet
                exact ⟨by simp [h1], rfl⟩
            case rest =>
              obtain ⟨rfl, rfl⟩ := hcut
              go_upto_if 199 with (fail)
              go_cut [199] from 200 (fun v wx => CutZ w0 B g N cap en P (X.take k ++ Y.take ee) (X.drop k ++ (Y.drop ee ++ S)) (.int .i64 en) wx)
              case first =>
                have hr6 : FRow w5 B g N cap (P ++ X.take k ++ Y.take ee ++ (X.drop k ++ (Y.drop ee ++ S))) := by
                  have := HR5.out
                  rw [List.append_assoc (P ++ X.take k ++ Y.take ee)] at this
                  exact this
                have HR6 := Lib.hid hr6
                clear hr6
                by_cases h1 : a < i ∧ i < mid
                · have d1 : decide (a < i ∧ i < mid) = true := decide_eq_true h1
                  have RSX := Lib.hid (RS1.out w5 HR6.out HB5.out h1.1 h1.2)
                  unfold SortOut at RSX
                  rw [d1]
                  clear h1 d1
                  go_wp2_with (go_at_call 105; (with_reducible refine (RSX.out).mono ?_); rintro x w6 ⟨Z, rfl, hz1, hz2, hr7, hb7⟩)
                  go_meet
                  unfold CutZ
                  exact ⟨Z, rfl, Lib.hid hz1, Lib.hid hz2, Lib.hid hr7, Lib.hid hb7⟩
                · have d1 : decide (a < i ∧ i < mid) = false := decide_eq_false h1
                  have HS7 := Lib.hid (HL1.out (by omega))
                  rw [d1]
                  clear h1 d1
                  go_wp2_with fail
                  go_meet
                  unfold CutZ
                  exact ⟨X.take k ++ Y.take ee, rfl, HS7, Lib.hid (Stb.refl _), Lib.hid (by have := HR6.out; rw [List.append_assoc P] at this; exact this), HB5⟩
              case rest =>
                unfold CutZ at hcut
                obtain ⟨Z, _, HZ1, HZ2, HR7, HB7⟩ := hcut
                clear HR5 HB5 RS1 HL1
                obtain ⟨w7, rfl⟩ : ∃ x, x = wc := ⟨_, rfl⟩
                have hr8 : FRow w7 B g N cap (P ++ Z ++ X.drop k ++ Y.drop ee ++ S) := by
                  have := HR7.out
                  rw [← List.append_assoc (X.drop k), ← List.append_assoc (P ++ Z), ← List.append_assoc (P ++ Z)] at this
                  exact this
                have RSY := Lib.hid (fun h1 h2 => RS2.out w7 Z HZ2.out hr8 HB7.out h1 h2)
                have HR8 := Lib.hid hr8
                clear hr8 RS2
                by_cases h1 : mid < en
                · have q1 : (mid : Int) < en := by omega
                  by_cases h2 : en < b
                  · have q2 : (en : Int) < b := by omega
                    have RSX := Lib.hid (RSY.out h1 h2)
                    unfold SortOut at RSX
                    go_wp2_with (go_at_call 105; (with_reducible refine (RSX.out).mono ?_); rintro x w9 ⟨Z2, rfl, hz1, hz2, hr9, hb9⟩)
                    have hG := HGEN.out Z Z2 HZ1.out hz1 HZ2.out hz2
                    have HG := Lib.hid hG
                    clear hG
                    go_end0
                    unfold SortOut
                    exact ⟨Z ++ Z2, rfl, HG.out.1, HG.out.2, by rw [← List.append_assoc P]; exact hr9, hb9⟩
                  · have q2 : ¬ (en : Int) < b := by omega
                    have hG := HGEN.out Z _ HZ1.out (HL2.out (.inr h2)) HZ2.out (Stb.refl _)
                    have HG := Lib.hid hG
                    clear hG
                    go_wp2_with fail
                    go_end0
                    unfold SortOut
                    exact ⟨Z ++ (X.drop k ++ Y.drop ee), rfl, HG.out.1, HG.out.2, by have := HR8.out; simp only [List.append_assoc] at this ⊢; exact this, HB7.out⟩
                · have q1 : ¬ (mid : Int) < en := by omega
                  have hG := HGEN.out Z _ HZ1.out (HL2.out (.inl h1)) HZ2.out (Stb.refl _)
                  have HG := Lib.hid hG
                  clear hG
                  go_wp2_with fail
                  go_end0
                  unfold SortOut
                  exact ⟨Z ++ (X.drop k ++ Y.drop ee), rfl, HG.out.1, HG.out.2, by have := HR8.out; simp only [List.append_assoc] at this ⊢; exact this, HB7.out⟩
end Go.Proofs.YtjhbmcgaehpadaaDoor
/- The library's stable sort over files: stable. -/
namespace Go.Proofs.YtjhbmcgaehpadaaDoor
open Go.RowKit
set_option linter.unusedVariables false

theorem sym_law (w0 : World) (B g N cap : Nat) (hN : N ≤ 100000) : ∀ d, SymLaw w0 B g N cap d
  | 0 => fun W P X Y S va vm vb hd hB h hX hY sX sY lX lY ea em eb => absurd hd (by omega)
  | d + 1 => fun W P X Y S va vm vb hd hB h hX hY sX sY lX lY ea em eb => by
    by_cases hx1 : X.length = 1
    · obtain ⟨x, rfl⟩ := List.length_eq_one_iff.1 hx1
      exact sym_one w0 W B g N cap P x Y S va vm vb hN hB h (hX x (by simp)) hY sY ea em eb
    · by_cases hy1 : Y.length = 1
      · obtain ⟨y, rfl⟩ := List.length_eq_one_iff.1 hy1
        exact sym_two w0 W B g N cap P X y S va vm vb hN hB h (hY y (by simp)) hX sX hx1 ea em eb
      · exact sym_big w0 W B g N cap P X Y S va vm vb hN d (sym_law w0 B g N cap hN d) hd hB h hX hY sX sY (by omega) (by omega) ea em eb
/-- Each run of so many files is in order. -/
def Runs (s : Nat) (Z : List FileD) : Prop := ∀ t, Srt ((Z.drop (s * t)).take s)
theorem srt_sub {A B : List FileD} (h : A.Sublist B) (hB : Srt B) : Srt A := List.Pairwise.sublist h hB
theorem runs_nil (s : Nat) : Runs s [] := fun t => by simp; exact srt_nil
theorem runs_app {s q : Nat} {Z V : List FileD} (h1 : Z.length = s * q) (hZ : Runs s Z) (hV : Srt V) : Runs s (Z ++ V) := by
  intro t
  rcases Nat.lt_or_ge t q with h | h
  · have h2 : s * t + s ≤ s * q := by rw [← Nat.mul_succ]; exact Nat.mul_le_mul_left s h
    rw [List.drop_append_of_le_length (by omega), List.take_append_of_le_length (by rw [List.length_drop]; omega)]
    exact hZ t
  · have h2 : s * q ≤ s * t := Nat.mul_le_mul_left s h
    rw [List.drop_append, List.drop_eq_nil_of_le (by omega), List.nil_append]
    exact srt_sub (List.Sublist.trans (List.take_sublist _ _) (List.drop_sublist _ _)) hV
theorem runs_end {s : Nat} {Z : List FileD} (h : Runs s Z) (hs : Z.length ≤ s) : Srt Z := by
  have := h 0
  rw [Nat.mul_zero, List.drop_zero, List.take_of_length_le hs] at this
  exact this
def StR1 (w0 : World) (B g N cap : Nat) (L : List FileD) (va vb : Value) (wr : World) : Prop := ∃ (q a b : Nat) (Z : List FileD), va = .int .i64 a ∧ vb = .int .i64 b ∧ Hid (a = 20 * q) ∧ Hid (b = a + 20) ∧ a ≤ N ∧ Hid (Z.length = a) ∧ Hid (Runs 20 Z) ∧ Hid (Stb (L.take a) Z) ∧ Hid (FRow wr B g N cap (Z ++ L.drop a)) ∧ Hid (Below B w0 wr)
def StR2 (w0 : World) (B g N cap : Nat) (L : List FileD) (vs : Value) (wr : World) : Prop := ∃ (s : Nat) (M : List FileD), vs = .int .i64 s ∧ 1 ≤ s ∧ s ≤ 200000 ∧ Hid (Runs s M) ∧ Hid (Stb L M) ∧ Hid (FRow wr B g N cap M) ∧ Hid (Below B w0 wr)
def StR3 (w0 : World) (B g N cap s : Nat) (M : List FileD) (va vb : Value) (wr : World) : Prop := ∃ (q a b : Nat) (Z : List FileD), va = .int .i64 a ∧ vb = .int .i64 b ∧ Hid (a = 2 * s * q) ∧ Hid (b = a + 2 * s) ∧ a ≤ N ∧ Hid (Z.length = a) ∧ Hid (Runs (2 * s) Z) ∧ Hid (Stb (M.take a) Z) ∧ Hid (FRow wr B g N cap (Z ++ M.drop a)) ∧ Hid (Below B w0 wr)
def StabOut (w0 : World) (B g N cap : Nat) (L : List FileD) (e : Ending) (w' : World) : Prop := ∃ Z, e = .returned (.tuple #[]) ∧ Srt Z ∧ Stb L Z ∧ FRow w' B g N cap Z ∧ Below B w0 w'
set_option maxHeartbeats 8000000 in
set_option maxRecDepth 100000 in
theorem stab_any (w0 W : World) (B g N cap : Nat) (L : List FileD) (hN : N ≤ 100000) (hB : Below B w0 W) (h : FRow W B g N cap L) (hL : ∀ f ∈ L, FOk f) :
    Calls Tryd.prog 97 #[.slice (some ⟨g, 0, none⟩) N cap, .int .i64 N, (.func (.func 83) #[] #[])] W (StabOut w0 B g N cap L) := by
  have hlen := h.len
  have HLN := Lib.hid hlen
  have HR : Hid (FRow W B g N cap ([] ++ L.drop 0)) := Lib.hid (by simpa using h)
  have HB := Lib.hid hB
  have HX := Lib.hid hL
  have SL := Lib.hid (sym_law w0 B g N cap hN)
  have hgB := h.lt.1
  clear hlen h hB hL
  go_enter Tryd.func97, Tryd.ntmps97
  go_wp2
  go_loopw [7, 8] (fun va vb wr => StR1 w0 B g N cap L va vb wr) (fun va vb _ => N - (intOf va).toNat)
  case atStart => unfold StR1; exact ⟨0, 0, 20, [], rfl, rfl, Lib.hid rfl, Lib.hid rfl, Nat.zero_le _, Lib.hid rfl, Lib.hid (runs_nil _), Lib.hid (Stb.refl _), HR, HB⟩
  case round =>
    unfold StR1 at hrel
    clear HR HB
    obtain ⟨q, a, b, Z, rfl, rfl, Ha, Hb, haN, HZL, HRU, HST, HR, HBr⟩ := hrel
    have hb1 : a + 20 ≤ b := Nat.le_of_eq Hb.out.symm
    have hb2 : b ≤ a + 20 := Nat.le_of_eq Hb.out
    by_cases hlt : b ≤ N
    · have bl : (b : Int) ≤ N := by omega
      have lX : ((L.drop a).take 20).length = 20 := by rw [List.length_take, List.length_drop, HLN.out]; omega
      have hr : FRow wr B g N cap (Z ++ (L.drop a).take 20 ++ L.drop b) := by
        have := HR.out
        rw [show L.drop b = (L.drop a).drop 20 by rw [List.drop_drop, Hb.out], List.append_assoc, List.take_append_drop]
        exact this
      have IX := Lib.hid (ins_any w0 wr B g N cap Z ((L.drop a).take 20) (L.drop b) a b hN HBr.out hr (fun f hf => HX.out f (List.mem_of_mem_drop (List.mem_of_mem_take hf))) (by rw [HZL.out]) (by rw [HZL.out, lX]; omega))
      unfold SortOut at IX
      clear hr lX
      go_wp2_with (go_at_call 104; (with_reducible refine (IX.out).mono ?_); rintro x w2 ⟨V, rfl, hv1, hv2, hr2, hb2'⟩)
      have lV : V.length = 20 := by rw [← hv2.1, List.length_take, List.length_drop, HLN.out]; omega
      have HST2 : Hid (Stb (L.take b) (Z ++ V)) := Lib.hid (by
        rw [show L.take b = L.take a ++ (L.drop a).take 20 by rw [Hb.out, List.take_add]]
        exact HST.out.app hv2)
      have HRU2 : Hid (Runs 20 (Z ++ V)) := Lib.hid (runs_app (q := q) (by rw [HZL.out, Ha.out]) HRU.out hv1)
      have HZL2 : Hid ((Z ++ V).length = b) := Lib.hid (by rw [List.length_append, HZL.out, lV]; omega)
      have HR2 := Lib.hid hr2
      have HB2 := Lib.hid hb2'
      have HA2 : Hid (b = 20 * (q + 1)) := Lib.hid (by have := Ha.out; omega)
      clear hv1 hv2 hr2 hb2' lV
      go_roundw
      case rel => unfold StR1; exact ⟨q + 1, b, b + 20, Z ++ V, rfl, by go_num, HA2, Lib.hid rfl, hlt, HZL2, HRU2, HST2, HR2, HB2⟩
      case measure => simp [intOf] <;> omega
    · have bl : ¬ (b : Int) ≤ N := by omega
      have lX : (L.drop a).length = N - a := by rw [List.length_drop, HLN.out]
      have hr : FRow wr B g N cap (Z ++ L.drop a ++ []) := by rw [List.append_nil]; exact HR.out
      have IX := Lib.hid (ins_any w0 wr B g N cap Z (L.drop a) [] a N hN HBr.out hr (fun f hf => HX.out f (List.mem_of_mem_drop hf)) (by rw [HZL.out]) (by rw [HZL.out, lX]; omega))
      unfold SortOut at IX
      clear hr lX
      go_wp2_with (go_at_call 104; (with_reducible refine (IX.out).mono ?_); rintro x w2 ⟨V, rfl, hv1, hv2, hr2, hb2'⟩)
      rw [List.append_nil] at hr2
      have HST2 : Hid (Stb L (Z ++ V)) := Lib.hid (by
        have := HST.out.app hv2
        rw [List.take_append_drop] at this
        exact this)
      have HRU2 : Hid (Runs 20 (Z ++ V)) := Lib.hid (runs_app (q := q) (by rw [HZL.out, Ha.out]) HRU.out hv1)
      have HR2 := Lib.hid hr2
      have HB2 := Lib.hid hb2'
      clear hv1 hv2 hr2 hb2' HR HBr HST HRU HZL
      go_loopw [6, 7, 8, 9] (fun vs _ _ _ wr => StR2 w0 B g N cap L vs wr) (fun vs _ _ _ _ => N - (intOf vs).toNat)
      case atStart => unfold StR2; exact ⟨20, Z ++ V, rfl, by omega, by omega, HRU2, HST2, HR2, HB2⟩
      case round =>
        unfold StR2 at hrel
        clear HR2 HB2 HST2 HRU2 Ha Hb hb1 hb2 hlt bl haN
        obtain ⟨s, M, rfl, hs1, hs2, HRM, HSM, HR, HBr⟩ := hrel
        have hml : M.length = N := by rw [← HSM.out.1, HLN.out]
        have HML := Lib.hid hml
        have HFM : Hid (∀ f ∈ M, FOk f) := Lib.hid fun f hf => HX.out f (HSM.out.mem.2 hf)
        clear hml
        by_cases hlt : s < N
        · have sl : (s : Int) < N := by omega
          have HR0 : Hid (FRow wr B g N cap ([] ++ M.drop 0)) := Lib.hid (by have := HR.out; simpa using this)
          obtain ⟨w1, rfl⟩ : ∃ w1, w1 = wr := ⟨_, rfl⟩
          go_wp2
          go_loopw [7, 8] (fun va vb wr => StR3 w0 B g N cap s M va vb wr) (fun va vb _ => N - (intOf va).toNat)
          case atStart => unfold StR3; exact ⟨0, 0, 2 * s, [], rfl, by go_num, Lib.hid rfl, Lib.hid (by omega), Nat.zero_le _, Lib.hid rfl, Lib.hid (runs_nil _), Lib.hid (Stb.refl _), HR0, HBr⟩
          case round =>
            unfold StR3 at hrel
            clear HR0 HBr HR
            obtain ⟨q, a, b, Z, rfl, rfl, Ha, Hb, haN, HZL, HRU, HST, HR, HBr⟩ := hrel
            have hb1 : a + 2 * s ≤ b := Nat.le_of_eq Hb.out.symm
            have hb2 : b ≤ a + 2 * s := Nat.le_of_eq Hb.out
            have q1 : a = s * (2 * q) := by rw [Ha.out, Nat.mul_comm 2 s, Nat.mul_assoc]
            have q2 : a + s = s * (2 * q + 1) := by rw [Nat.mul_succ, ← q1]
            have sX := HRM.out (2 * q)
            rw [← q1] at sX
            have sY := HRM.out (2 * q + 1)
            rw [← q2, ← List.drop_drop] at sY
            have SX := Lib.hid sX
            have SY := Lib.hid sY
            have lR : (M.drop a).length = N - a := by rw [List.length_drop, HML.out]
            clear q1 q2 sX sY
            by_cases hbl : b ≤ N
            · have bl : (b : Int) ≤ N := by omega
              have lX : ((M.drop a).take s).length = s := by rw [List.length_take, lR]; omega
              have lY : (((M.drop a).drop s).take s).length = s := by rw [List.length_take, List.length_drop, lR]; omega
              have e3 : (M.drop a).take s ++ ((M.drop a).drop s).take s = (M.drop a).take (2 * s) := by rw [show 2 * s = s + s by omega, List.take_add]
              have hr : FRow wr B g N cap (Z ++ (M.drop a).take s ++ ((M.drop a).drop s).take s ++ M.drop b) := by
                have := HR.out
                rw [List.append_assoc Z, e3, show M.drop b = (M.drop a).drop (2 * s) by rw [List.drop_drop, Hb.out], List.append_assoc, List.take_append_drop]
                exact this
              have IX := Lib.hid (SL.out (s + s) wr Z ((M.drop a).take s) (((M.drop a).drop s).take s) (M.drop b) a ((a : Int) + s) b (by rw [lX, lY]; exact Nat.le_refl _) HBr.out hr (fun f hf => HFM.out f (List.mem_of_mem_drop (List.mem_of_mem_take hf))) (fun f hf => HFM.out f (List.mem_of_mem_drop (List.mem_of_mem_drop (List.mem_of_mem_take hf)))) SX.out SY.out (by omega) (by omega) (by rw [HZL.out]) (by rw [HZL.out, lX]; omega) (by rw [HZL.out, lX, lY]; omega))
              rw [e3] at IX
              unfold SortOut at IX
              clear hr lX lY e3
              go_wp2_with (go_at_call 105; (with_reducible refine (IX.out).mono ?_); rintro x w2 ⟨V, rfl, hv1, hv2, hr2, hb2'⟩)
              have lV : V.length = 2 * s := by rw [← hv2.1, List.length_take, lR]; omega
              have HST2 : Hid (Stb (M.take b) (Z ++ V)) := Lib.hid (by
                rw [show M.take b = M.take a ++ (M.drop a).take (2 * s) by rw [Hb.out, List.take_add]]
                exact HST.out.app hv2)
              have HRU2 : Hid (Runs (2 * s) (Z ++ V)) := Lib.hid (runs_app (q := q) (by rw [HZL.out, Ha.out]) HRU.out hv1)
              have HZL2 : Hid ((Z ++ V).length = b) := Lib.hid (by rw [List.length_append, HZL.out, lV]; omega)
              have HR2 := Lib.hid hr2
              have HB2 := Lib.hid hb2'
              have HA2 : Hid (b = 2 * s * (q + 1)) := Lib.hid (by rw [Nat.mul_succ, ← Ha.out]; omega)
              clear hv1 hv2 hr2 hb2' lV lR
              go_roundw
              case rel => unfold StR3; exact ⟨q + 1, b, b + 2 * s, Z ++ V, rfl, by go_num, HA2, Lib.hid rfl, hbl, HZL2, HRU2, HST2, HR2, HB2⟩
              case measure => simp [intOf] <;> omega
            · have bl : ¬ (b : Int) ≤ N := by omega
              by_cases hm : a + s < N
              · have ml : (a : Int) + s < N := by omega
                have lX : ((M.drop a).take s).length = s := by rw [List.length_take, lR]; omega
                have lY : ((M.drop a).drop s).length = N - a - s := by rw [List.length_drop, lR]
                have sY : Srt ((M.drop a).drop s) := by
                  have := SY.out
                  rw [List.take_of_length_le (by rw [lY]; omega)] at this
                  exact this
                have hr : FRow wr B g N cap (Z ++ (M.drop a).take s ++ (M.drop a).drop s ++ []) := by
                  rw [List.append_nil, List.append_assoc, List.take_append_drop]
                  exact HR.out
                have IX := Lib.hid (SL.out N wr Z ((M.drop a).take s) ((M.drop a).drop s) [] a ((a : Int) + s) N (by rw [lX, lY]; omega) HBr.out hr (fun f hf => HFM.out f (List.mem_of_mem_drop (List.mem_of_mem_take hf))) (fun f hf => HFM.out f (List.mem_of_mem_drop (List.mem_of_mem_drop hf))) SX.out sY (by omega) (by omega) (by rw [HZL.out]) (by rw [HZL.out, lX]; omega) (by rw [HZL.out, lX, lY]; omega))
                rw [List.take_append_drop] at IX
                unfold SortOut at IX
                clear hr lX lY sY
                go_wp2_with (go_at_call 105; (with_reducible refine (IX.out).mono ?_); rintro x w2 ⟨V, rfl, hv1, hv2, hr2, hb2'⟩)
                rw [List.append_nil] at hr2
                have HST2 : Hid (Stb L (Z ++ V)) := Lib.hid (by
                  have := HST.out.app hv2
                  rw [List.take_append_drop] at this
                  exact HSM.out.trans this)
                have HRU2 : Hid (Runs (s * 2) (Z ++ V)) := Lib.hid (by rw [Nat.mul_comm]; exact runs_app (q := q) (by rw [HZL.out, Ha.out]) HRU.out hv1)
                have HR2 := Lib.hid hr2
                have HB2 := Lib.hid hb2'
                clear hv1 hv2 hr2 hb2' lR
                go_roundw
                case rel => unfold StR2; exact ⟨s * 2, Z ++ V, by go_num, by omega, by omega, HRU2, HST2, HR2, HB2⟩
                case measure => simp [intOf] <;> omega
              · have ml : ¬ (a : Int) + s < N := by omega
                have sR : Srt (M.drop a) := by
                  have := SX.out
                  rw [List.take_of_length_le (by rw [lR]; omega)] at this
                  exact this
                have HST2 : Hid (Stb L (Z ++ M.drop a)) := Lib.hid (by
                  have := HST.out.app (Stb.refl (M.drop a))
                  rw [List.take_append_drop] at this
                  exact HSM.out.trans this)
                have HRU2 : Hid (Runs (s * 2) (Z ++ M.drop a)) := Lib.hid (by rw [Nat.mul_comm]; exact runs_app (q := q) (by rw [HZL.out, Ha.out]) HRU.out sR)
                clear sR lR
                go_wp2
                go_roundw
                case rel => unfold StR2; exact ⟨s * 2, Z ++ M.drop a, by go_num, by omega, by omega, HRU2, HST2, HR, HBr⟩
                case measure => simp [intOf] <;> omega
        · have sl : ¬ (s : Int) < N := by omega
          have HZ := Lib.hid (runs_end HRM.out (by rw [HML.out]; omega))
          go_wp2
          go_end0
          unfold StabOut
          exact ⟨M, rfl, HZ.out, HSM.out, HR.out, HBr.out⟩
end Go.Proofs.YtjhbmcgaehpadaaDoor
/- tree.Sort. -/
namespace Go.Proofs.YtjhbmcgaehpadaaDoor
open Go.RowKit
set_option linter.unusedVariables false

theorem fcells_cell (l : List FileD) : ∀ u ∈ fcells l, u.oneCell' = true := by
  intro u hu
  unfold fcells at hu
  obtain ⟨r, hr, hu⟩ := List.mem_flatten.1 hu
  obtain ⟨f, _, rfl⟩ := List.mem_map.1 hr
  simp [fcell] at hu
  rcases hu with rfl | rfl | rfl <;> rfl
set_option maxHeartbeats 1000000 in
set_option maxRecDepth 100000 in
theorem cloneF_any (A : Option Addr) (c : Nat) (L : List FileD) (w : World) (hl : L.length ≤ 1048576) (ha : Arr w w.heap.size 3 A L.length (fcells L)) :
    Calls Tryd.prog 81 #[.slice A L.length c] w fun e w' => ∃ v, e = .returned v ∧ w'.ownsRow w.heap.size 58 3 v L.length (fcells L) ∧ Below w.heap.size w w' := by
  obtain ⟨i0, hi0, hz0, hz1, hz2⟩ := info_parts infoFile
  have HA := Lib.hid ha
  have q23 : ∀ (w : World) (a : Option Addr) (n c n' c' : Nat), (binOp .eql 29 (.slice a n c) (.slice none n' c')).run Tryd.prog w = .ok (.bool a.isNone) w := fun w a n c n' c' => Lib.run_eql_slice_nil w _ _ a n c n' c' Tryd.underlying29
  have hown : (w.alloc (.cells #[] 58)).ownsRow w.heap.size 58 3 (.slice (some ⟨w.heap.size, 0, none⟩) 0 0) 0 [] := World.ownsRow_lit w #[] 0 (Nat.le_refl _) (by simp [maxLen]) (by simp)
  have hB : Below w.heap.size w (w.alloc (.cells #[] 58)) := (Below.refl _ _).alloc (Nat.le_refl _) _
  have hone := Lib.hid (fcells_cell L)
  clear ha
  cases A with
  | none =>
    have hl0 : L = [] := by
      have h := HA.out.2
      rcases Nat.eq_zero_or_pos L.length with h0 | h0
      · exact List.eq_nil_of_length_eq_zero h0
      · obtain ⟨b, o, e, _⟩ := h h0
        cases e
    subst hl0
    clear HA
    go_enter Tryd.func81, Tryd.ntmps81
    go_wp2
    go_ret
    exact ⟨_, rfl, World.ownsRow_nil _ _ _ _, Below.refl _ _⟩
  | some ad =>
    go_enter Tryd.func81, Tryd.ntmps81
    go_wp2_with (at_builtin; refine wpList_append_arr _ rfl _ _ 29 rfl Tryd.underlying29 hi0 hz0 hz1 hz2 rfl (by decide) hown rfl rfl (HA.out.below hB) hone.out (by rw [Nat.zero_add]; unfold maxLen; omega) (by rw [Nat.zero_add]; omega) hB.size ?_; intro v' w' hown' hgr' hat')
    go_ret
    exact ⟨_, rfl, by simpa using hown', hB.grown hgr' (by simp) (fun k hk => by simp [Value.ownBlock] at hk; omega)⟩
set_option maxRecDepth 100000 in
theorem ins_nil (A : Option Addr) (c : Nat) (cmp : Value) (w : World) : Calls Tryd.prog 104 #[.slice A 0 c, .int .i64 0, .int .i64 0, cmp] w fun e w' => e = .returned (.tuple #[]) ∧ w' = w := by
  go_enter Tryd.func104, Tryd.ntmps104
  go_wp2
  go_loopw [8, 9] (fun v _ wr => v = .int .i64 1 ∧ wr = w) (fun _ _ _ => 0)
  case atStart => exact ⟨rfl, rfl⟩
  case round =>
    obtain ⟨rfl, rfl⟩ := hrel
    go_wp2
    go_end0
    exact ⟨rfl, rfl⟩
set_option maxRecDepth 100000 in
theorem stab_nil (A : Option Addr) (c : Nat) (cmp : Value) (w : World) : Calls Tryd.prog 97 #[.slice A 0 c, .int .i64 0, cmp] w fun e w' => e = .returned (.tuple #[]) ∧ w' = w := by
  have IX := Lib.hid (fun W => ins_nil A c cmp W)
  go_enter Tryd.func97, Tryd.ntmps97
  go_wp2
  go_loopw [7, 8] (fun va vb wr => va = .int .i64 0 ∧ vb = .int .i64 20 ∧ wr = w) (fun _ _ _ => 0)
  case atStart => exact ⟨rfl, rfl, rfl⟩
  case round =>
    obtain ⟨rfl, rfl, rfl⟩ := hrel
    go_wp2_with (go_at_call 104; (with_reducible refine (IX.out _).mono ?_); rintro x w2 ⟨rfl, rfl⟩)
    go_loopw [6, 7, 8, 9] (fun vs _ _ _ wr => vs = .int .i64 20 ∧ wr = w2) (fun _ _ _ _ _ => 0)
    case atStart => exact ⟨rfl, rfl⟩
    case round =>
      obtain ⟨rfl, rfl⟩ := hrel
      go_wp2
      go_end0
      exact ⟨rfl, rfl⟩
theorem own_form {w : World} {B n : Nat} {v : Value} {L : List FileD} (h : w.ownsRow B 58 3 v n (fcells L)) (hn : L.length = n) (h0 : 0 < n) : ∃ g cap, v = .slice (some ⟨g, 0, none⟩) n cap ∧ FRow w B g n cap L := by
  rcases h.2 with ⟨_, h2⟩ | ⟨g, cap, cur, hv, _⟩
  · omega
  · exact ⟨g, cap, hv, hn, by rw [← hv]; exact h⟩
set_option maxHeartbeats 1000000 in
set_option maxRecDepth 100000 in
theorem sort_any (A : Option Addr) (c : Nat) (L : List FileD) (w : World) (hl : L.length ≤ 100000) (hx : ∀ f ∈ L, FOk f) (ha : Arr w w.heap.size 3 A L.length (fcells L)) :
    Calls Tryd.prog 42 #[.slice A L.length c] w fun e w' => ∃ v, e = .returned v ∧ w'.ownsRow w.heap.size 58 3 v L.length (fcells (sortS L)) ∧ Below w.heap.size w w' := by
  have CL := Lib.hid (cloneF_any A c L w (by omega) ha)
  have HX := Lib.hid hx
  obtain ⟨n, hn⟩ : ∃ n, L.length = n := ⟨_, rfl⟩
  rw [hn] at CL ⊢
  have Hn := Lib.hid hn
  have hl' : n ≤ 100000 := by omega
  clear ha hx hn
  by_cases h0 : n = 0
  · subst h0
    have hL : L = [] := List.eq_nil_of_length_eq_zero Hn.out
    have HL := Lib.hid hL
    have SN := Lib.hid (fun A c cmp W => stab_nil A c cmp W)
    clear hL
    go_enter Tryd.func42, Tryd.ntmps42
    go_wp2_with (go_at_call 81; (with_reducible refine (CL.out).mono ?_); rintro x w1 ⟨v, rfl, hv, hb1⟩; have HV := Lib.hid hv; obtain ⟨A1, c1, rfl, _, _, _⟩ := own_arr hv; clear hv)
    have HB1 := Lib.hid hb1
    clear hb1
    have SS : Hid (∀ cmp, Calls Tryd.prog 82 #[.slice A1 0 c1, cmp] w1 fun e w' => e = .returned (.tuple #[]) ∧ w' = w1) := Lib.hid fun cmp => by
      clear CL
      go_enter Tryd.func82, Tryd.ntmps82
      go_wp2_with (go_at_call 97; (with_reducible refine (SN.out _ _ _ _).mono ?_); rintro x w2 ⟨rfl, rfl⟩)
      go_end0
      exact ⟨rfl, rfl⟩
    go_wp2_with (go_at_call 82; (with_reducible refine (SS.out _).mono ?_); rintro x w2 ⟨rfl, rfl⟩)
    go_ret
    exact ⟨_, rfl, by have := HV.out; rw [HL.out] at this ⊢; exact this, HB1.out⟩
  · go_enter Tryd.func42, Tryd.ntmps42
    go_wp2_with (go_at_call 81; (with_reducible refine (CL.out).mono ?_); rintro x w1 ⟨v, rfl, hv, hb1⟩; obtain ⟨g1, cap1, rfl, hr1⟩ := own_form hv Hn.out (by omega); have HV := Lib.hid hr1; clear hv hr1)
    have HB1 := Lib.hid hb1
    clear hb1
    have ST := Lib.hid (stab_any w w1 w.heap.size g1 n cap1 L hl' HB1.out HV.out HX.out)
    unfold StabOut at ST
    have SS : Hid (Calls Tryd.prog 82 #[.slice (some ⟨g1, 0, none⟩) n cap1, (.func (.func 83) #[] #[])] w1 (StabOut w w.heap.size g1 n cap1 L)) := Lib.hid (by
      clear CL h0
      go_enter Tryd.func82, Tryd.ntmps82
      go_wp2_with (go_at_call 97; (with_reducible refine (ST.out).mono ?_); rintro x w2 ⟨Z, rfl, hz1, hz2, hr2, hb2⟩)
      go_end0
      unfold StabOut
      exact ⟨Z, rfl, hz1, hz2, hr2, hb2⟩)
    unfold StabOut at SS
    go_wp2_with (go_at_call 82; (with_reducible refine (SS.out).mono ?_); rintro x w2 ⟨Z, rfl, hz1, hz2, hr2, hb2⟩)
    have hZ := sort_is hz1 hz2
    subst hZ
    go_ret
    exact ⟨_, rfl, hr2.own, hb2⟩
end Go.Proofs.YtjhbmcgaehpadaaDoor
