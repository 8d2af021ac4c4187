/- Chapter 22: the document's next. -/
import Derived.Test.YtakdngcgjahafaaDoorSp27
import Derived.Test.YtakdngcgjahafaaDoorSpK
import Derived.Test.YtakdngcgjahafaaDoorCls
import Derived.Deep.Cut
import Derived.Deep.CutRange
import Derived.Deep.RegionHeld3
namespace Go.Proofs.YtakdngcgjahafaaDoor
open Go.RowKit
set_option linter.unusedVariables false

theorem dec_of {t : Bool} {p : Prop} (h : t = true ↔ p) : t = @decide p (Classical.propDecidable _) := by
  rw [Bool.eq_iff_iff, h]
  exact (@decide_eq_true_iff p (Classical.propDecidable _)).symm
/-- Whether an event may come, and the log behind it. -/
def NextOut (w : World) (l : List EvD) (d : List Bool) (g : LogD) (i : Nat) (e : EvD) (x : Ending) (w' : World) : Prop := ∃ fl A n c t, x = .returned (.tuple #[.agg #[.int .i64 fl, .slice A n c], .bool t]) ∧ t = (freeGo i e.asked 0 l d && tells g e) ∧
  (t = true → fl = (doP g (callOf e)).1.floor ∧ n = (doP g (callOf e)).1.trees.length ∧ w'.ownsRow 0 9 1 (.slice A n c) (doP g (callOf e)).1.trees.length ((doP g (callOf e)).1.trees.map Value.string)) ∧ Below w.heap.size w w'
set_option maxHeartbeats 8000000 in
set_option maxRecDepth 100000 in
theorem next_ref (w : World) (hm : Ml w) {V : Value} {l : List EvD} {d : List Bool} {g : LogD} {m : Nat} {VG VD : Value} {i : Nat} {e : EvD} (hh : Hist w V l) (hD : w.ownsRow 0 4 1 VD l.length (d.map Value.bool)) (hlen : d.length = l.length) (hl : l.length ≤ 256) (he : l[i]? = some e) (hf : EFit e)
    (hg : GoodL g m) (hm2 : m ≤ 1000) (hv : w.ownsRow 0 9 1 VG g.trees.length (g.trees.map Value.string)) :
    Calls Tryd.prog 42 #[V, VD, .agg #[.int .i64 g.floor, VG], .int .i64 i] w (NextOut w l d g i e) := by
  obtain ⟨GA, GC, rfl, _, _, _⟩ := own_arr hv
  obtain ⟨A, c, rfl, hcap, ha, _⟩ := own_arr hh.row
  have hil : i < l.length := by
    rcases Nat.lt_or_ge i l.length with h | h
    · exact h
    · rw [List.getElem?_eq_none h] at he; cases he
  obtain ⟨b1, o1, rfl, hb1, hcell⟩ := ha.2 (by omega)
  have z0 := (ev_cells hcell he).1
  have HC := Lib.hid hcell
  have HH := Lib.hid hh
  obtain ⟨AD, CD, rfl, _, had, _⟩ := own_arr hD
  have HD := Lib.hid had
  have HV := Lib.hid hv
  have HE := Lib.hid he
  have HM := Lib.hid hm
  have HF := Lib.hid hf
  have HG := Lib.hid hg
  obtain ⟨R, hR⟩ : ∃ R, R = freeGo i e.asked 0 l d := ⟨_, rfl⟩
  have HR : Hid (freeGo i e.asked 0 (l.drop 0) (d.drop 0) = R) := Lib.hid (by rw [hR]; rfl)
  have HRR := Lib.hid hR
  obtain ⟨ask, hask⟩ : ∃ ask, ask = e.asked := ⟨_, rfl⟩
  rw [← hask] at z0 HR
  have HAS := Lib.hid hask
  have il : (i : Int) < l.length := by omega
  have hb0 : Below w.heap.size w ((w.alloc (.cells #[Value.int .i64 g.floor, .slice GA g.trees.length GC] 27)).alloc (.cells #[Value.int .i64 0, .slice none 0 0] 27)) := ((Below.refl _ w).alloc (Nat.le_refl _) _).alloc (by simp) _
  have HG6 := (Blk.new w 27 #[Value.int .i64 g.floor, .slice GA g.trees.length GC]).alloc (.cells #[Value.int .i64 0, .slice none 0 0] 27)
  have HG8 := Blk.new' (w := w.alloc (.cells #[Value.int .i64 g.floor, .slice GA g.trees.length GC] 27)) (g := w.heap.size + 1) (by simp) 27 #[Value.int .i64 0, .slice none 0 0]
  clear hh ha hcell hD had hv he hm hf hg hR hask
  go_enter Tryd.func42, Tryd.ntmps42
  go_wp2
  generalize (w.alloc (.cells #[Value.int .i64 g.floor, .slice GA g.trees.length GC] 27)).alloc (.cells #[Value.int .i64 0, .slice none 0 0] 27) = w1 at *
  have hx6 := HG6.lt
  have hx8 := HG8.lt
  go_loopw [10] (fun v wr => ∃ k : Nat, k ≤ l.length ∧ v = .int .i64 k ∧ Hid (freeGo i ask k (l.drop k) (d.drop k) = R) ∧ Below w1.heap.size w1 wr) (fun v _ => l.length - (intOf v).toNat)
  case atStart => exact ⟨0, Nat.zero_le _, rfl, HR, Below.refl _ _⟩
  case round =>
    obtain ⟨k, hk, rfl, HK, hB⟩ := hrel
    have hBw := hb0.trans (hB.mono hb0.size)
    by_cases hlt : k < l.length
    · obtain ⟨f, he⟩ : ∃ f, l[k]? = some f := ⟨_, List.getElem?_eq_getElem hlt⟩
      obtain ⟨q, hq⟩ : ∃ q, d[k]? = some q := ⟨_, List.getElem?_eq_getElem (by omega)⟩
      obtain ⟨b2, o2, rfl, hb2', hdc⟩ := HD.out.2 (by omega)
      have y0 := cell_cls ((hBw.cell (p := ⟨b2, o2 + k, none⟩) hb2').trans (hdc k _ (by rw [List.getElem?_map, hq]; rfl)))
      obtain ⟨c0, c1, c2, c3, c4, c5, c6, c7, c8, c9⟩ := ev_cells (fun i u h => (hBw.cell (p := ⟨b1, o1 + i, none⟩) hb1).trans (HC.out i u h)) he
      have t0 := cell_cls c0
      have t1 := cell_cls c1
      have t2 := cell_cls c2
      have t3 := cell_cls c3
      have t4 := cell_cls c4
      have t5 := cell_cls c5
      have t6 := cell_cls c6
      have t7 := cell_cls c7
      have t8 := cell_cls c8
      have t9 := cell_cls c9
      have s0 := cell_cls ((hBw.cell (p := ⟨b1, o1 + i * 10, none⟩) hb1).trans z0)
      obtain ⟨e1, e2⟩ := drop2 he hq
      have H := HK.out
      rw [e1, e2, freeGo] at H
      have OPB := Lib.hid (fun (p : Cls wr) => open22 f p.n)
      have kl : (k : Int) < l.length := by omega
      clear he hq e1 e2 HK hdc c0 c1 c2 c3 c4 c5 c6 c7 c8 c9
      cases q with
      | true =>
        have HST := Lib.hid (show freeGo i ask (k + 1) (l.drop (k + 1)) (d.drop (k + 1)) = R by simpa using H)
        clear H
        (go_wp2; (refine wp_region_cls (by kernel_rfl) (by kernel_rfl) ?_; repeat (go_big_quiet_step ((go_at_call 24; with_reducible exact cls_call (OPB.out _))))); (refine wpQuiet_nil ?_; intro _ hw'; obtain ⟨⟨w9, hb9⟩, hw''⟩ := hw'; subst hw''; have hB2 := hB.trans (hb9.mono hB.size)); go_wp2; go_roundw; (case rel => exact ⟨k + 1, by omega, by go_num, HST, hB2⟩); (case measure => simp [intOf] <;> omega))
      | false =>
        by_cases hki : k = i
        · have HST := Lib.hid (show freeGo i ask (k + 1) (l.drop (k + 1)) (d.drop (k + 1)) = R by simpa [hki] using H)
          have n2 : ((k : Int) == (i : Int)) = true := by rw [beq_iff_eq]; omega
          have n1 : ((k : Int) != (i : Int)) = false := by rw [bne, n2]; rfl
          clear H hki
          (go_wp2; (refine wp_region_cls (by kernel_rfl) (by kernel_rfl) ?_; repeat (go_big_quiet_step ((go_at_call 24; with_reducible exact cls_call (OPB.out _))))); (refine wpQuiet_nil ?_; intro _ hw'; obtain ⟨⟨w9, hb9⟩, hw''⟩ := hw'; subst hw''; have hB2 := hB.trans (hb9.mono hB.size)); go_wp2; go_roundw; (case rel => exact ⟨k + 1, by omega, by go_num, HST, hB2⟩); (case measure => simp [intOf] <;> omega))
        · have n3 : (k == i) = false := by rw [beq_eq_false_iff_ne]; exact hki
          have n2 : ((k : Int) == (i : Int)) = false := by rw [beq_eq_false_iff_ne]; omega
          have n1 : ((k : Int) != (i : Int)) = true := by rw [bne, n2]; rfl
          cases hO : openE f with
          | true =>
            rw [hO] at H OPB
            have HST := Lib.hid (show freeGo i ask (k + 1) (l.drop (k + 1)) (d.drop (k + 1)) = R by simpa using H)
            clear H
            (go_wp2; (refine wp_region_cls (by kernel_rfl) (by kernel_rfl) ?_; repeat (go_big_quiet_step ((go_at_call 24; with_reducible exact cls_call (OPB.out _))))); (refine wpQuiet_nil ?_; intro _ hw'; obtain ⟨⟨w9, hb9⟩, hw''⟩ := hw'; subst hw''; have hB2 := hB.trans (hb9.mono hB.size)); go_wp2; go_roundw; (case rel => exact ⟨k + 1, by omega, by go_num, HST, hB2⟩); (case measure => simp [intOf] <;> omega))
          | false =>
            rw [hO] at H OPB
            by_cases ht : f.told < ask
            · have HST := Lib.hid (show false = R by simpa [n3, ht] using H)
              have hg6 := fun w9 (hb : Below wr.heap.size wr w9) => HG6.below (hB.trans (hb.mono hB.size)) hx6
              have hg8 := fun w9 (hb : Below wr.heap.size wr w9) => HG8.below (hB.trans (hb.mono hB.size)) hx8
              clear H
              go_wp2
              (refine wp_region_cls (by kernel_rfl) (by kernel_rfl) ?_; repeat (go_big_quiet_step ((go_at_call 24; with_reducible exact cls_call (OPB.out _))))); (refine wpQuiet_nil ?_; intro _ hw'; obtain ⟨⟨w9, hb9⟩, hw''⟩ := hw'; subst hw''; have hB2 := hB.trans (hb9.mono hB.size))
              have hg6' := HG6.below hB2 hx6
              have hg8' := HG8.below hB2 hx8
              obtain ⟨r0, r1, _, _⟩ := hcells hg6'
              obtain ⟨r2, r3, r4, r5⟩ := hcells hg8'
              go_wp2
              have hz9 := (hg8'.set_ 0 (.int .i64 g.floor)).set_ 1 (.slice GA g.trees.length GC)
              obtain ⟨q0, q1, _, _⟩ := hcells hz9
              have hq9 := Nat.le_add_right w.heap.size 1
              have hbz := ((hb0.trans (hB2.mono hb0.size)).setCell (p := ⟨w.heap.size + 1, 0, none⟩) hq9 (.int .i64 g.floor)).setCell (p := ⟨w.heap.size + 1, 1, none⟩) hq9 (.slice GA g.trees.length GC)
              refine bodyPost_ret (v := .tuple #[.agg #[.int .i64 g.floor, .slice GA g.trees.length GC], .bool false]) (by simp [results, Tryd.results42, go_sem, q0, q1]) rfl ?_
              unfold NextOut
              exact ⟨_, _, _, _, false, rfl, by rw [← HRR.out, ← HST.out]; rfl, fun h => (Bool.false_ne_true h).elim, hbz⟩
            · have HST := Lib.hid (show freeGo i ask (k + 1) (l.drop (k + 1)) (d.drop (k + 1)) = R by simpa [n3, ht] using H)
              have d4 : decide (f.told < ask) = false := decide_eq_false ht
              clear H
              (go_wp2; (refine wp_region_cls (by kernel_rfl) (by kernel_rfl) ?_; repeat (go_big_quiet_step ((go_at_call 24; with_reducible exact cls_call (OPB.out _))))); (refine wpQuiet_nil ?_; intro _ hw'; obtain ⟨⟨w9, hb9⟩, hw''⟩ := hw'; subst hw''; have hB2 := hB.trans (hb9.mono hB.size)); go_wp2; go_roundw; (case rel => exact ⟨k + 1, by omega, by go_num, HST, hB2⟩); (case measure => simp [intOf] <;> omega))
    · have H := HK.out
      rw [List.drop_eq_nil_of_le (by omega : l.length ≤ k)] at H
      have HST := Lib.hid (show true = R by rw [← H]; simp [freeGo])
      clear H HK
      have kl : ¬ (k : Int) < l.length := by omega
      have hhw := HH.out.below hBw
      have hfs := hhw.fs e (List.mem_of_getElem? HE.out)
      have han := hhw.an e (List.mem_of_getElem? HE.out)
      have hgl := HG.out
      have hEe := HF.out
      have DC := Lib.hid (fun X (h : Below wr.heap.size wr X) => dp_any g.floor e.kind e.gen (.slice GA g.trees.length GC) g.trees e.fA e.fC e.files X (fun s hs => Nat.le_trans (hgl.s s hs) (by omega)) (Nat.le_trans hgl.n (by omega)) hgl.f0 hgl.f1 (Nat.le_trans hEe.2.1 (by omega)) hEe.1 (own_below (own_below HV.out hBw) h) (own_slice (own_below hfs h)) (HM.out.on (hBw.trans (h.mono hBw.size))))
      rw [show doP ⟨g.floor, g.trees⟩ ⟨e.kind, e.gen, e.files⟩ = doP g (callOf e) from rfl] at DC
      have htl : tells g e = if openE e then ((doP g (callOf e)).2.err == 0) else @decide ((doP g (callOf e)).2 = ansOf e) (Classical.propDecidable _) := rfl
      obtain ⟨DR, hDR⟩ : ∃ DR, DR = doP g (callOf e) := ⟨_, rfl⟩
      rw [← hDR] at DC htl
      obtain ⟨⟨fl3, L3⟩, ⟨er3, ge3, fo3, F3⟩⟩ := DR
      have HDR := Lib.hid hDR
      have HTL := Lib.hid htl
      clear hDR htl
      unfold DoOut at DC
      simp only [] at DC
      obtain ⟨w2, rfl⟩ : ∃ x, x = wr := ⟨_, rfl⟩
      have hb2 : Below w2.heap.size w2 w2 := Below.refl _ _
      have hw2 : ∀ W, Below w2.heap.size w2 W → _ := fun W h => ev_cells (fun i u h' => ((hBw.trans (h.mono hBw.size)).cell (p := ⟨b1, o1 + i, none⟩) hb1).trans (HC.out i u h')) HE.out
      have HW2 := Lib.hid hw2
      have HWW := Lib.hid (fun W (h : Below w.heap.size w W) => ev_cells (fun i u h' => (h.cell (p := ⟨b1, o1 + i, none⟩) hb1).trans (HC.out i u h')) HE.out)
      have hG6 := HG6.below hB hx6
      have HG6' := Lib.hid hG6
      have HG8' := Lib.hid (HG8.below hB hx8)
      clear hfs han hhw HG6 HG8 hw2
      go_wp2
      go_cut [11, 12] from 51 to 60 (fun u v wx => HCut 27 34 w2 ⟨fl3, L3⟩ ⟨er3, ge3, fo3, F3⟩ u v wx)
      case first =>
        have hS : ∀ W, Below w2.heap.size w2 W → (W.cell? ⟨w.heap.size, 0, none⟩ = some (.int .i64 g.floor) ∧ W.cell? ⟨w.heap.size, 1, none⟩ = some (.slice GA g.trees.length GC) ∧ W.cell? ⟨b1, o1 + i * 10 + 2, none⟩ = some (.int .i64 e.kind) ∧ W.cell? ⟨b1, o1 + i * 10 + 3, none⟩ = some (.int .i64 e.gen) ∧ W.cell? ⟨b1, o1 + i * 10 + 4, none⟩ = some (.slice e.fA e.files.length e.fC)) := fun W h => ⟨(hG6.below h hG6.lt).cell 0, (hG6.below h hG6.lt).cell 1, (HW2.out _ h).2.2.1, (HW2.out _ h).2.2.2.1, (HW2.out _ h).2.2.2.2.1⟩
        have HS := Lib.hid hS
        have z0 := Nat.le_refl w2.heap.size
        have z1 := Nat.le_succ w2.heap.size
        clear hG6 hS
        go_region_held3 (fun w' => (w'.cell? ⟨w.heap.size, 0, none⟩ = some (.int .i64 g.floor) ∧ w'.cell? ⟨w.heap.size, 1, none⟩ = some (.slice GA g.trees.length GC) ∧ w'.cell? ⟨b1, o1 + i * 10 + 2, none⟩ = some (.int .i64 e.kind) ∧ w'.cell? ⟨b1, o1 + i * 10 + 3, none⟩ = some (.int .i64 e.gen) ∧ w'.cell? ⟨b1, o1 + i * 10 + 4, none⟩ = some (.slice e.fA e.files.length e.fC))) ((refine HS.out _ ?_; (repeat (first | (with_reducible exact hb2) | (with_reducible exact hbw3) | (with_reducible refine Below.drew ?_) | (with_reducible refine bel2 ?_ _) | (with_reducible refine belset ?_ (by first | exact Nat.le_refl _ | exact Nat.le_succ _ | exact hle3 | exact Nat.le_succ_of_le hle3) _))))) (first | (go_at_call 15; (with_reducible refine (DC.out w2.drew hb2.drew).mono ?_); rintro x w3 ⟨V7, U7, rfl, hv3, hu3, hb3⟩; obtain ⟨A3, C3, rfl, _, _, _⟩ := own_arr hv3; obtain ⟨A4, C4, rfl, _, _, _⟩ := own_arr hu3; have HV3 := Lib.hid hv3; have HU3 := Lib.hid hu3; have hbw3 := below_on hb2.drew hb3; have HB3 := Lib.hid hbw3; have hle3 := hbw3.size; clear hv3 hu3) | ((go_at_call 15; (with_reducible refine (DC.out (w2.alloc (.cells #[Value.int .i64 0, .slice none 0 0] 27)).drew (bel2 hb2 _).drew).mono ?_); rintro x w3 ⟨V7, U7, rfl, hv3, hu3, hb3⟩; obtain ⟨A3, C3, rfl, _, _, _⟩ := own_arr hv3; obtain ⟨A4, C4, rfl, _, _, _⟩ := own_arr hu3; have HV3 := Lib.hid hv3; have HU3 := Lib.hid hu3; have hbw3 := below_on (bel2 hb2 _).drew hb3; have HB3 := Lib.hid hbw3; have hle3 := hbw3.size; clear hv3 hu3); have zL := (Blk.new w2 27 #[Value.int .i64 0, .slice none 0 0]).drew.below hb3 (by show _ < (w2.alloc _).heap.size; simp); obtain ⟨z0, z1, z2, z3⟩ := hcells zL; have z4 := fun o => (hcells (zL.alloc o)).1; have z5 := fun o => (hcells (zL.alloc o)).2.1; have z6 := fun o => (hcells (zL.alloc o)).2.2.1; have z7 := fun o => (hcells (zL.alloc o)).2.2.2; have n0 := zL.lt; have n1 : ¬ w2.heap.size = w3.heap.size := (by omega); have n2 : ¬ w3.heap.size = w2.heap.size := (by omega); have ZL := Lib.hid zL; clear zL) | ((go_at_call 15; (with_reducible refine (DC.out (w2.alloc (.cells #[Value.int .i64 0, .int .i64 0, .int .i64 0, .slice none 0 0, .slice none 0 0] 34)).drew (bel2 hb2 _).drew).mono ?_); rintro x w3 ⟨V7, U7, rfl, hv3, hu3, hb3⟩; obtain ⟨A3, C3, rfl, _, _, _⟩ := own_arr hv3; obtain ⟨A4, C4, rfl, _, _, _⟩ := own_arr hu3; have HV3 := Lib.hid hv3; have HU3 := Lib.hid hu3; have hbw3 := below_on (bel2 hb2 _).drew hb3; have HB3 := Lib.hid hbw3; have hle3 := hbw3.size; clear hv3 hu3); have zA := (Blk.new w2 34 #[Value.int .i64 0, .int .i64 0, .int .i64 0, .slice none 0 0, .slice none 0 0]).drew.below hb3 (by show _ < (w2.alloc _).heap.size; simp); obtain ⟨y0, y1, y2, y3, y4, y5, y6, y7, y8, y9⟩ := acells zA; have v0 := fun o => (acells (zA.alloc o)).1; have v1 := fun o => (acells (zA.alloc o)).2.1; have v2 := fun o => (acells (zA.alloc o)).2.2.1; have v3 := fun o => (acells (zA.alloc o)).2.2.2.1; have v4 := fun o => (acells (zA.alloc o)).2.2.2.2.1; have v5 := fun o => (acells (zA.alloc o)).2.2.2.2.2.1; have v6 := fun o => (acells (zA.alloc o)).2.2.2.2.2.2.1; have v7 := fun o => (acells (zA.alloc o)).2.2.2.2.2.2.2.1; have v8 := fun o => (acells (zA.alloc o)).2.2.2.2.2.2.2.2.1; have v9 := fun o => (acells (zA.alloc o)).2.2.2.2.2.2.2.2.2; have n0 := zA.lt; have n1 : ¬ w2.heap.size = w3.heap.size := (by omega); have n2 : ¬ w3.heap.size = w2.heap.size := (by omega); have ZA := Lib.hid zA; clear zA) | ((go_at_call 15; (with_reducible refine (DC.out ((w2.alloc (.cells #[Value.int .i64 0, .slice none 0 0] 27)).alloc (.cells #[Value.int .i64 0, .int .i64 0, .int .i64 0, .slice none 0 0, .slice none 0 0] 34)).drew (bel2 (bel2 hb2 _) _).drew).mono ?_); rintro x w3 ⟨V7, U7, rfl, hv3, hu3, hb3⟩; obtain ⟨A3, C3, rfl, _, _, _⟩ := own_arr hv3; obtain ⟨A4, C4, rfl, _, _, _⟩ := own_arr hu3; have HV3 := Lib.hid hv3; have HU3 := Lib.hid hu3; have hbw3 := below_on (bel2 (bel2 hb2 _) _).drew hb3; have HB3 := Lib.hid hbw3; have hle3 := hbw3.size; clear hv3 hu3); have zL := ((Blk.new w2 27 #[Value.int .i64 0, .slice none 0 0]).alloc (.cells #[Value.int .i64 0, .int .i64 0, .int .i64 0, .slice none 0 0, .slice none 0 0] 34)).drew.below hb3 (by show _ < ((w2.alloc _).alloc _).heap.size; simp; omega); have zA := (Blk.new' (w := w2.alloc (.cells #[Value.int .i64 0, .slice none 0 0] 27)) (g := w2.heap.size + 1) (by simp) 34 #[Value.int .i64 0, .int .i64 0, .int .i64 0, .slice none 0 0, .slice none 0 0]).drew.below hb3 (by show _ < ((w2.alloc _).alloc _).heap.size; simp); obtain ⟨z0, z1, z2, z3⟩ := hcells zL; obtain ⟨y0, y1, y2, y3, y4, y5, y6, y7, y8, y9⟩ := acells zA; have zL2 := setA_far zL (by omega : w2.heap.size ≠ w2.heap.size + 1) (.int .i64 er3) (.int .i64 ge3) (.int .i64 fo3) (.slice A4 F3.length C4) (.slice none 0 0); have zA2 := setL_far zA (by omega : w2.heap.size + 1 ≠ w2.heap.size) (.int .i64 fl3) (.slice A3 L3.length C3); obtain ⟨z4, z5, z6, z7⟩ := hcells zL2; obtain ⟨v0, v1, v2, v3, v4, v5, v6, v7, v8, v9⟩ := acells zA2; have ZL := Lib.hid zL; have ZA := Lib.hid zA; clear zL zA zL2 zA2) | ((go_at_call 15; (with_reducible refine (DC.out ((w2.alloc (.cells #[Value.int .i64 0, .int .i64 0, .int .i64 0, .slice none 0 0, .slice none 0 0] 34)).alloc (.cells #[Value.int .i64 0, .slice none 0 0] 27)).drew (bel2 (bel2 hb2 _) _).drew).mono ?_); rintro x w3 ⟨V7, U7, rfl, hv3, hu3, hb3⟩; obtain ⟨A3, C3, rfl, _, _, _⟩ := own_arr hv3; obtain ⟨A4, C4, rfl, _, _, _⟩ := own_arr hu3; have HV3 := Lib.hid hv3; have HU3 := Lib.hid hu3; have hbw3 := below_on (bel2 (bel2 hb2 _) _).drew hb3; have HB3 := Lib.hid hbw3; have hle3 := hbw3.size; clear hv3 hu3); have zA := ((Blk.new w2 34 #[Value.int .i64 0, .int .i64 0, .int .i64 0, .slice none 0 0, .slice none 0 0]).alloc (.cells #[Value.int .i64 0, .slice none 0 0] 27)).drew.below hb3 (by show _ < ((w2.alloc _).alloc _).heap.size; simp; omega); have zL := (Blk.new' (w := w2.alloc (.cells #[Value.int .i64 0, .int .i64 0, .int .i64 0, .slice none 0 0, .slice none 0 0] 34)) (g := w2.heap.size + 1) (by simp) 27 #[Value.int .i64 0, .slice none 0 0]).drew.below hb3 (by show _ < ((w2.alloc _).alloc _).heap.size; simp); obtain ⟨z0, z1, z2, z3⟩ := hcells zL; obtain ⟨y0, y1, y2, y3, y4, y5, y6, y7, y8, y9⟩ := acells zA; have zL2 := setA_far zL (by omega : w2.heap.size + 1 ≠ w2.heap.size) (.int .i64 er3) (.int .i64 ge3) (.int .i64 fo3) (.slice A4 F3.length C4) (.slice none 0 0); have zA2 := setL_far zA (by omega : w2.heap.size ≠ w2.heap.size + 1) (.int .i64 fl3) (.slice A3 L3.length C3); obtain ⟨z4, z5, z6, z7⟩ := hcells zL2; obtain ⟨v0, v1, v2, v3, v4, v5, v6, v7, v8, v9⟩ := acells zA2; have ZL := Lib.hid zL; have ZA := Lib.hid zA; clear zL zA zL2 zA2) | (fail))
        all_goals (try go_wp2_with fail)
        all_goals go_meet
        all_goals have k0 : w2.heap.size ≤ w2.heap.size := Nat.le_refl _
        all_goals have k5 : w2.heap.size ≤ w2.heap.size + 1 := Nat.le_succ _
        all_goals have k1 : (9 : TypeId) ≠ 27 := by decide
        all_goals have k2 : (69 : TypeId) ≠ 27 := by decide
        all_goals have k3 : (9 : TypeId) ≠ 34 := by decide
        all_goals have k4 : (69 : TypeId) ≠ 34 := by decide
        all_goals have k6 : (27 : TypeId) ≠ 34 := by decide
        all_goals try (first | (with_reducible exact cut_E1 (g := ⟨fl3, L3⟩) (a := ⟨er3, ge3, fo3, F3⟩) HV3.out HU3.out HB3.out) | (with_reducible exact cut_E2 (g := ⟨fl3, L3⟩) (a := ⟨er3, ge3, fo3, F3⟩) HV3.out HU3.out HB3.out) | (with_reducible exact cut_E3 (g := ⟨fl3, L3⟩) (a := ⟨er3, ge3, fo3, F3⟩) ZL.out k0 k1 k2 HV3.out HU3.out HB3.out) | (with_reducible exact cut_E4 (g := ⟨fl3, L3⟩) (a := ⟨er3, ge3, fo3, F3⟩) ZA.out k0 k3 k4 HV3.out HU3.out HB3.out) | (with_reducible exact cut_E5 (g := ⟨fl3, L3⟩) (a := ⟨er3, ge3, fo3, F3⟩) ZL.out ZA.out k0 k5 k6 k1 k2 k3 k4 HV3.out HU3.out HB3.out) | (with_reducible exact cut_E6 (g := ⟨fl3, L3⟩) (a := ⟨er3, ge3, fo3, F3⟩) ZL.out ZA.out k0 k5 k6 k1 k2 k3 k4 HV3.out HU3.out HB3.out) | (with_reducible exact cut_E5 (g := ⟨fl3, L3⟩) (a := ⟨er3, ge3, fo3, F3⟩) ZL.out ZA.out k5 k0 k6 k1 k2 k3 k4 HV3.out HU3.out HB3.out) | (with_reducible exact cut_E6 (g := ⟨fl3, L3⟩) (a := ⟨er3, ge3, fo3, F3⟩) ZL.out ZA.out k5 k0 k6 k1 k2 k3 k4 HV3.out HU3.out HB3.out))
      case rest =>
        obtain ⟨g9, g10, A3, C3, A4, C4, rfl, rfl, hL9, hA10, hv9, hu9, hbc, hg9⟩ := hcut
        have HL9 := Lib.hid hL9
        have HA10 := Lib.hid hA10
        have HV9 := Lib.hid hv9
        have HU9 := Lib.hid hu9
        have HBC := Lib.hid hbc
        obtain ⟨a0, a1, a2, a3, a4, a5, a6, a7, a8, a9⟩ := HW2.out _ hbc
        have OPB := Lib.hid (fun W => open22 e W)
        clear hL9 hA10 hv9 hu9 hbc
        have hx8' : w.heap.size + 1 < w2.heap.size := Nat.lt_of_lt_of_le hx8 hB.size
        have hn9 : g9 ≠ w.heap.size + 1 := by omega
        cases hO : openE e with
        | true =>
          have HT9 : Hid ((er3 == 0) = (freeGo i e.asked 0 l d && tells g e)) := Lib.hid (by rw [← HRR.out, ← HST.out, HTL.out, hO, if_pos rfl]; rfl)
          rw [hO] at OPB
          clear hO
          go_wp2_with (go_at_call 24; (with_reducible refine (OPB.out _).mono ?_); rintro x w5 ⟨rfl, hb5⟩)
          have hB5 := below_on HBC.out hb5
          have hL5 := HL9.out.below hb5 HL9.out.lt
          have hA5 := HA10.out.below hb5 HA10.out.lt
          have h8 := HG8'.out.below hB5 HG8'.out.lt
          have hn10 : g10 ≠ w.heap.size + 1 := Blk.ne_ hA5 h8 (by decide)
          obtain ⟨l0, l1, _, _⟩ := hcells hL5
          have v0 := hA5.cell 0
          have v1 := (setL_far (gL := w.heap.size + 1) hA5 hn10 (.int .i64 fl3) (.slice A3 L3.length C3)).cell 0
          obtain ⟨m0, m1, m2, m3⟩ := hcells h8
          have H8 := Lib.hid h8
          have HB5 := Lib.hid hB5
          have HV5 := Lib.hid (own_below HV9.out hb5)
          clear hL5 hA5 h8 hB5
          go_region
          all_goals (try go_wp2_with fail)
          all_goals
            have hz9 := setL_blk H8.out (.int .i64 fl3) (.slice A3 L3.length C3)
            obtain ⟨q0, q1, _, _⟩ := hcells hz9
            refine bodyPost_ret (v := .tuple #[.agg #[.int .i64 fl3, .slice A3 L3.length C3], .bool (er3 == 0)]) (by simp [results, Tryd.results42, go_sem, q0, q1]) rfl ?_
            unfold NextOut
            rw [← HDR.out]
            exact ⟨_, _, _, _, _, rfl, HT9.out, fun _ => ⟨rfl, rfl, setL_own H8.out HV5.out (by decide) _ _⟩, Below.drew (setL_be (below_on hBw HB5.out) (Nat.le_succ _) _ _)⟩
        | false =>
          have HT9 : Hid (@decide ((⟨er3, ge3, fo3, F3⟩ : AnsD) = ansOf e) (Classical.propDecidable _) = (freeGo i e.asked 0 l d && tells g e)) := Lib.hid (by rw [← HRR.out, ← HST.out, HTL.out, hO, if_neg Bool.false_ne_true]; rfl)
          rw [hO] at OPB
          clear hO
          go_wp2_with (go_at_call 24; (with_reducible refine (OPB.out _).mono ?_); rintro x w5 ⟨rfl, hb5⟩)
          have hB5 := below_on HBC.out hb5
          have HL5 := Lib.hid (HL9.out.below hb5 HL9.out.lt)
          have HA5 := Lib.hid (HA10.out.below hb5 HA10.out.lt)
          have H8 := Lib.hid (HG8'.out.below hB5 HG8'.out.lt)
          have hn10 : g10 ≠ w.heap.size + 1 := Blk.ne_ HA5.out H8.out (by decide)
          have HB5 := Lib.hid hB5
          have HV5 := Lib.hid (own_below HV9.out hb5)
          have HU5 := Lib.hid (own_below HU9.out hb5)
          have han := (HH.out.below hBw).an e (List.mem_of_getElem? HE.out)
          have HAN := Lib.hid (own_below han hB5)
          have hbw5 : Below w5.heap.size w5 w5 := Below.refl _ _
          have AN := Lib.hid (fun X (h : Below w5.heap.size w5 X) => answers_any ⟨er3, ge3, fo3, F3⟩ ⟨e.err, e.agen, e.floor, e.afiles⟩ A4 e.aA C4 e.aC (.slice none 0 0) (.slice e.mA e.mN e.mC) X (own_len HU5.out) (own_len HAN.out) (own_slice (own_below HU5.out h)) (own_slice (own_below HAN.out h)) rfl rfl)
          have hS5 : ∀ W, Below w5.heap.size w5 W → (W.cell? ⟨g9, 0, none⟩ = some (.int .i64 fl3) ∧ W.cell? ⟨g9, 1, none⟩ = some (.slice A3 L3.length C3) ∧ W.cell? ⟨g10, 0, none⟩ = some (.int .i64 er3) ∧ W.cell? ⟨g10, 1, none⟩ = some (.int .i64 ge3) ∧ W.cell? ⟨g10, 2, none⟩ = some (.int .i64 fo3) ∧ W.cell? ⟨g10, 3, none⟩ = some (.slice A4 F3.length C4) ∧ W.cell? ⟨g10, 4, none⟩ = some (.slice none 0 0) ∧ W.cell? ⟨b1, o1 + i * 10 + 5, none⟩ = some (.int .i64 e.err) ∧ W.cell? ⟨b1, o1 + i * 10 + 6, none⟩ = some (.int .i64 e.agen) ∧ W.cell? ⟨b1, o1 + i * 10 + 7, none⟩ = some (.int .i64 e.floor) ∧ W.cell? ⟨b1, o1 + i * 10 + 8, none⟩ = some (.slice e.aA e.afiles.length e.aC) ∧ W.cell? ⟨b1, o1 + i * 10 + 9, none⟩ = some (.slice e.mA e.mN e.mC)) := fun W h => by
            have a := HL5.out.below h HL5.out.lt
            have b := HA5.out.below h HA5.out.lt
            have c := HW2.out W (below_on HB5.out h)
            exact ⟨a.cell 0, a.cell 1, b.cell 0, b.cell 1, b.cell 2, b.cell 3, b.cell 4, c.2.2.2.2.2.1, c.2.2.2.2.2.2.1, c.2.2.2.2.2.2.2.1, c.2.2.2.2.2.2.2.2.1, c.2.2.2.2.2.2.2.2.2⟩
          have HS5 := Lib.hid hS5
          clear hS5 han hB5 a0 a1 a2 a3 a4 a5 a6 a7 a8 a9
          go_region_held3 (fun w' => (w'.cell? ⟨g9, 0, none⟩ = some (.int .i64 fl3) ∧ w'.cell? ⟨g9, 1, none⟩ = some (.slice A3 L3.length C3) ∧ w'.cell? ⟨g10, 0, none⟩ = some (.int .i64 er3) ∧ w'.cell? ⟨g10, 1, none⟩ = some (.int .i64 ge3) ∧ w'.cell? ⟨g10, 2, none⟩ = some (.int .i64 fo3) ∧ w'.cell? ⟨g10, 3, none⟩ = some (.slice A4 F3.length C4) ∧ w'.cell? ⟨g10, 4, none⟩ = some (.slice none 0 0) ∧ w'.cell? ⟨b1, o1 + i * 10 + 5, none⟩ = some (.int .i64 e.err) ∧ w'.cell? ⟨b1, o1 + i * 10 + 6, none⟩ = some (.int .i64 e.agen) ∧ w'.cell? ⟨b1, o1 + i * 10 + 7, none⟩ = some (.int .i64 e.floor) ∧ w'.cell? ⟨b1, o1 + i * 10 + 8, none⟩ = some (.slice e.aA e.afiles.length e.aC) ∧ w'.cell? ⟨b1, o1 + i * 10 + 9, none⟩ = some (.slice e.mA e.mN e.mC))) (first | (refine HS5.out _ ?_; (first | (with_reducible exact hbw5) | (with_reducible exact hbw5.drew) | (with_reducible exact hbw6))) | (with_reducible exact HS7.out) | (fail))
            (first
            | ((go_at_call 17); (with_reducible refine (AN.out w5.drew hbw5.drew).mono ?_); rintro x w6 ⟨t6, rfl, ht6, hb6⟩; have hbw6 := below_on hbw5.drew hb6; have h86 := H8.out.below hbw6 H8.out.lt; obtain ⟨m0, m1, m2, m3⟩ := hcells h86; have HT6 := Lib.hid ht6; have H86 := Lib.hid h86; have HS7 : Hid ((((w6.setCell ⟨w.heap.size + 1, 0, none⟩ (.int .i64 fl3)).setCell ⟨w.heap.size + 1, 1, none⟩ (.slice A3 L3.length C3)).cell? ⟨g9, 0, none⟩ = some (.int .i64 fl3) ∧ ((w6.setCell ⟨w.heap.size + 1, 0, none⟩ (.int .i64 fl3)).setCell ⟨w.heap.size + 1, 1, none⟩ (.slice A3 L3.length C3)).cell? ⟨g9, 1, none⟩ = some (.slice A3 L3.length C3) ∧ ((w6.setCell ⟨w.heap.size + 1, 0, none⟩ (.int .i64 fl3)).setCell ⟨w.heap.size + 1, 1, none⟩ (.slice A3 L3.length C3)).cell? ⟨g10, 0, none⟩ = some (.int .i64 er3) ∧ ((w6.setCell ⟨w.heap.size + 1, 0, none⟩ (.int .i64 fl3)).setCell ⟨w.heap.size + 1, 1, none⟩ (.slice A3 L3.length C3)).cell? ⟨g10, 1, none⟩ = some (.int .i64 ge3) ∧ ((w6.setCell ⟨w.heap.size + 1, 0, none⟩ (.int .i64 fl3)).setCell ⟨w.heap.size + 1, 1, none⟩ (.slice A3 L3.length C3)).cell? ⟨g10, 2, none⟩ = some (.int .i64 fo3) ∧ ((w6.setCell ⟨w.heap.size + 1, 0, none⟩ (.int .i64 fl3)).setCell ⟨w.heap.size + 1, 1, none⟩ (.slice A3 L3.length C3)).cell? ⟨g10, 3, none⟩ = some (.slice A4 F3.length C4) ∧ ((w6.setCell ⟨w.heap.size + 1, 0, none⟩ (.int .i64 fl3)).setCell ⟨w.heap.size + 1, 1, none⟩ (.slice A3 L3.length C3)).cell? ⟨g10, 4, none⟩ = some (.slice none 0 0) ∧ ((w6.setCell ⟨w.heap.size + 1, 0, none⟩ (.int .i64 fl3)).setCell ⟨w.heap.size + 1, 1, none⟩ (.slice A3 L3.length C3)).cell? ⟨b1, o1 + i * 10 + 5, none⟩ = some (.int .i64 e.err) ∧ ((w6.setCell ⟨w.heap.size + 1, 0, none⟩ (.int .i64 fl3)).setCell ⟨w.heap.size + 1, 1, none⟩ (.slice A3 L3.length C3)).cell? ⟨b1, o1 + i * 10 + 6, none⟩ = some (.int .i64 e.agen) ∧ ((w6.setCell ⟨w.heap.size + 1, 0, none⟩ (.int .i64 fl3)).setCell ⟨w.heap.size + 1, 1, none⟩ (.slice A3 L3.length C3)).cell? ⟨b1, o1 + i * 10 + 7, none⟩ = some (.int .i64 e.floor) ∧ ((w6.setCell ⟨w.heap.size + 1, 0, none⟩ (.int .i64 fl3)).setCell ⟨w.heap.size + 1, 1, none⟩ (.slice A3 L3.length C3)).cell? ⟨b1, o1 + i * 10 + 8, none⟩ = some (.slice e.aA e.afiles.length e.aC) ∧ ((w6.setCell ⟨w.heap.size + 1, 0, none⟩ (.int .i64 fl3)).setCell ⟨w.heap.size + 1, 1, none⟩ (.slice A3 L3.length C3)).cell? ⟨b1, o1 + i * 10 + 9, none⟩ = some (.slice e.mA e.mN e.mC))) := Lib.hid (by have a := setL_far (gL := w.heap.size + 1) (HL5.out.below hbw6 HL5.out.lt) hn9 (.int .i64 fl3) (.slice A3 L3.length C3); have b := setL_far (gL := w.heap.size + 1) (HA5.out.below hbw6 HA5.out.lt) hn10 (.int .i64 fl3) (.slice A3 L3.length C3); have c := HWW.out _ (setL_be (gL := w.heap.size + 1) (below_on hBw (below_on HB5.out hbw6)) (Nat.le_succ _) (.int .i64 fl3) (.slice A3 L3.length C3)); exact ⟨a.cell 0, a.cell 1, b.cell 0, b.cell 1, b.cell 2, b.cell 3, b.cell 4, c.2.2.2.2.2.1, c.2.2.2.2.2.2.1, c.2.2.2.2.2.2.2.1, c.2.2.2.2.2.2.2.2.1, c.2.2.2.2.2.2.2.2.2⟩); clear ht6 h86)
            | (fail))
          all_goals (try go_wp2_with fail)
          all_goals
            have hz9 := setL_blk H86.out (.int .i64 fl3) (.slice A3 L3.length C3)
            obtain ⟨q0, q1, _, _⟩ := hcells hz9
            refine bodyPost_ret (v := .tuple #[.agg #[.int .i64 fl3, .slice A3 L3.length C3], .bool t6]) (by simp [results, Tryd.results42, go_sem, q0, q1]) rfl ?_
            unfold NextOut
            rw [← HDR.out, ← HT9.out]
            exact ⟨_, _, _, _, _, rfl, dec_of HT6.out, fun _ => ⟨rfl, rfl, setL_own H86.out (own_below HV5.out hbw6) (by decide) _ _⟩, setL_be (below_on hBw (below_on HB5.out hbw6)) (Nat.le_succ _) _ _⟩
end Go.Proofs.YtakdngcgjahafaaDoor
