/- Chapter 22: the walk through find, by itself. -/
import Derived.Test.YtakdngcgjahafaaDoorSp14
import Derived.Test.YtakdngcgjahafaaDoorSpC
namespace Go.Proofs.YtakdngcgjahafaaDoor
open Go.RowKit
set_option linter.unusedVariables false

theorem own_cap {w : World} {base : Nat} {e : TypeId} {size n c g : Nat} {xs : List Value} (h : w.ownsRow base e size (.slice (some ⟨g, 0, none⟩) n c) n xs) : n ≤ c := by
  obtain ⟨A, c', e1, h1, _⟩ := own_arr h
  injection e1 with _ _ e3
  omega
theorem dr_below (w : World) : Below w.heap.size w w.drew := ⟨rfl, rfl, rfl, Nat.le_refl _, fun _ _ => rfl⟩
theorem t_false {t : Bool} {p : Prop} (h : t = true ↔ p) (hp : ¬ p) : t = false := by
  cases t
  · rfl
  · exact absurd (h.1 rfl) hp
def FRel (W1 : World) (b F D : Nat) (V : Value) (l : List EvD) (g : LogD) (d : List Bool) (o : List Nat) (n B : Nat) (R : FindR) (v : Value) (wr : World) : Prop := ∃ (i : Nat) (left : Int) (U : Value), i ≤ l.length ∧ v = .int .i64 i ∧
  Hid (triesP (findP n l) l g i (l.drop i) d left o = R) ∧ -(B : Int) - i ≤ left ∧ left ≤ 4611686018427387904 ∧ Hid (Fnd wr b F D V l d left U o) ∧ Hid (Kf b F D W1 wr) ∧ W1.heap.size ≤ wr.heap.size
set_option maxHeartbeats 8000000 in
set_option maxRecDepth 100000 in
theorem find_any (w0 : World) (hm : Ml w0) {F D : Nat} {V : Value} {l : List EvD} (hl : l.length ≤ 256) (hE : ∀ e ∈ l, EFit e) : ∀ (n : Nat) (g : LogD) (d : List Bool) (left : Int) (o : List Nat) (W : World) (U VL : Value),
    n ≤ 257 → undone d + 1 ≤ n → GoodL g (300 - n) → -1099511627776 ≤ left → left ≤ 4611686018427387904 → o.length + n ≤ 300 → Fnd W w0.heap.size F D V l d left U o → Below w0.heap.size w0 W →
    W.ownsRow 0 9 1 VL g.trees.length (g.trees.map Value.string) →
    Calls Tryd.prog 41 #[.pointer (some ⟨F, 0, none⟩), .agg #[.int .i64 g.floor, VL]] W (FindOut W w0.heap.size F D V l (findP n l g d left o)) := by
  intro n
  induction n with
  | zero => intro g d left o W U VL _ h; exact absurd h (by omega)
  | succ n ih =>
    intro g d left o W U VL hn hu hg hl0 hl1 ho hf hB0 hv
    obtain ⟨LA, LC, rfl, hlc, _, _⟩ := own_arr hv
    obtain ⟨VA, VC, rfl, hvc, hva, _⟩ := own_arr hf.his.row
    have IH := Lib.hid (fun g d left o W U VL => ih g d left o W U VL (by omega))
    clear ih
    have HG := Lib.hid hg
    have HE := Lib.hid hE
    have HV := Lib.hid hv
    have HM := Lib.hid hm
    have hbl : Below W.heap.size W (W.alloc (.cells #[Value.int .i64 g.floor, .slice LA g.trees.length LC] 25)) := (Below.refl _ _).alloc (Nat.le_refl _) _
    have hf1 := hf.below hbl
    have HF := Lib.hid hf
    have OV := Lib.hid (fun X (h : Below W.heap.size W X) => over_any X (hf.below h) hl)
    have hLB := Blk.new W 25 #[Value.int .i64 g.floor, .slice LA g.trees.length LC]
    have hwr : IntKind.i64.wrap (left - 1) = left - 1 := IntWalk.i64_in _ (by omega)
    obtain ⟨f0, f1, f2, f3, f4, f5⟩ := hf1.cells
    clear hv hg hE hm
    by_cases hov : overP l d = true
    · rw [show findP (n + 1) l g d left o = ⟨true, d, left, o⟩ by rw [findP, if_pos hov]]
      rw [hov] at OV
      clear hf hf1
      go_enter Tryd.func41, Tryd.ntmps41
      go_wp2
      go_step3
      go_wp2_with (go_at_call 47; (with_reducible refine (OV.out _ hbl).mono ?_); rintro x w2 ⟨rfl, hb2⟩; have hB2 := below_on hbl hb2)
      (try rw [Exit.noGoto_ret])
      go_ret
      exact ⟨rfl, U, HF.out.below hB2, Kf.of_below hB2⟩
    · have hov' : overP l d = false := by simpa using hov
      rw [hov'] at OV
      by_cases hneg : left - 1 < 0
      · rw [show findP (n + 1) l g d left o = ⟨false, d, left - 1, o⟩ by rw [findP, if_neg hov, if_pos hneg]]
        clear hf hf1
        go_enter Tryd.func41, Tryd.ntmps41
        go_wp2
        go_step3
        go_wp2_with (go_at_call 47; (with_reducible refine (OV.out _ hbl).mono ?_); rintro x w2 ⟨rfl, hb2⟩; have hB2 := below_on hbl hb2; have hf2 := HF.out.below hB2; obtain ⟨k0, k1, k2, k3, k4, k5⟩ := hf2.cells; have hf3 := hf2.setLeft (left - 1); obtain ⟨m0, m1, m2, m3, m4, m5⟩ := hf3.cells)
        (try rw [Exit.noGoto_ret])
        go_ret
        exact ⟨rfl, U, hf3, (Kf.of_below hB2).setF 2 _⟩
      · rw [show findP (n + 1) l g d left o = triesP (findP n l) l g 0 l d (left - 1) o by rw [findP, if_neg hov, if_neg hneg]]
        obtain ⟨R, hR⟩ : ∃ R, R = triesP (findP n l) l g 0 l d (left - 1) o := ⟨_, rfl⟩
        have HR : Hid (triesP (findP n l) l g 0 (l.drop 0) d (left - 1) o = R) := Lib.hid (by rw [hR]; rfl)
        rw [← hR]
        obtain ⟨B, hB⟩ : ∃ B, B = n * (l.length + 1) := ⟨_, rfl⟩
        have hBb : B ≤ 66049 := by rw [hB]; exact Nat.le_trans (Nat.mul_le_mul (show n ≤ 257 by omega) (show l.length + 1 ≤ 257 by omega)) (by decide)
        have L0 := Lib.hid (fun g d left o (h : 0 ≤ left) => find_left n l g d left o h)
        rw [← hB] at L0
        have L1 := Lib.hid (fun g d left o (h : left < 0) => find_neg n l g d left o h)
        clear hf hf1 hB hR
        go_enter Tryd.func41, Tryd.ntmps41
        go_wp2
        go_step3
        go_wp2_with (go_at_call 47; (with_reducible refine (OV.out _ hbl).mono ?_); rintro x w2 ⟨rfl, hb2⟩; have hB2 := below_on hbl hb2; have hf2 := HF.out.below hB2; obtain ⟨k0, k1, k2, k3, k4, k5⟩ := hf2.cells; have hf3 := hf2.setLeft (left - 1); obtain ⟨m0, m1, m2, m3, m4, m5⟩ := hf3.cells)
        go_step3
        go_wp2
        have hK1 : Kf w0.heap.size F D W _ := (Kf.of_below hB2).setF 2 (.int .i64 (left - 1))
        have hLB2 := (hLB.below hb2 hLB.lt).far (p := ⟨F, 2, none⟩) (Blk.ne_ (hLB.below hb2 hLB.lt) hf2.blk (by decide)) (.int .i64 (left - 1))
        have hsz : W.heap.size < (w2.setCell ⟨F, 2, none⟩ (.int .i64 (left - 1))).heap.size := by rw [World.size_setCell]; exact Nat.lt_of_lt_of_le hLB.lt hb2.size
        generalize w2.setCell ⟨F, 2, none⟩ (.int .i64 (left - 1)) = w1 at *
        have HF3 := Lib.hid hf3
        have HK1 := Lib.hid hK1
        have HLB := Lib.hid hLB2
        clear hf2 hf3 hb2 hB2 hK1 hLB hLB2 k0 k1 k2 k3 k4 k5
        go_loopw [29] (fun v wr => FRel w1 w0.heap.size F D (.slice VA l.length VC) l g d o n B R v wr) (fun v _ => l.length - (intOf v).toNat)
        case atStart => unfold FRel; exact ⟨0, left - 1, U, Nat.zero_le _, rfl, HR, by omega, by omega, HF3, Lib.hid (Kf.refl _ _ _ _), Nat.le_refl _⟩
        case round =>
          clear f0 f1 f2 f3 f4 f5 m0 m1 m2 m3 m4 m5
          unfold FRel at hrel
          obtain ⟨i, lf, Ui, hi, rfl, HT, hlf0, hlf1, HFi, HKi, hzi⟩ := hrel
          have hfi := HFi.out
          have hKr : Kf w0.heap.size F D W wr := HK1.out.trans HKi.out
          have hBr : Below w0.heap.size w0 wr := hB0.trans (hKr.below hB0.size hfi.bF hfi.bD)
          have HLr := Lib.hid (HKi.out.blk HLB.out HF3.out.blk HF3.out.row (by decide) (by decide) (by decide))
          have HVr := Lib.hid (hKr.own HV.out HF.out.blk HF.out.row (by decide) (by decide) (by decide))
          have HKr := Lib.hid hKr
          have HBr := Lib.hid hBr
          obtain ⟨a0, a1, a2, a3, a4, a5⟩ := hfi.cells
          have hlen := Lib.hid hfi.len
          clear hKr hBr
          by_cases hlt : i < l.length
          · obtain ⟨e, he⟩ : ∃ e, l[i]? = some e := ⟨_, List.getElem?_eq_getElem hlt⟩
            obtain ⟨q, hq⟩ : ∃ q, d[i]? = some q := ⟨_, List.getElem?_eq_getElem (by have := hlen.out; omega)⟩
            obtain ⟨VA', VC', hVe, _, hvr, _⟩ := own_arr hfi.his.row
            injection hVe with hVe hn1 hc1
            subst hVe hc1
            clear hn1
            obtain ⟨b1, o1, rfl, hb1, hcell⟩ := hvr.2 (by omega)
            obtain ⟨c0, c1, c2, c3, c4, c5, c6, c7, c8, c9⟩ := ev_cells hcell he
            obtain ⟨x0, x1⟩ := hfi.done hq
            have il : (i : Int) < l.length := by omega
            have hbx : Below wr.heap.size wr (wr.alloc (.cells #[Value.int .i64 e.asked, .int .i64 e.told, .int .i64 e.kind, .int .i64 e.gen, .slice e.fA e.files.length e.fC, .int .i64 e.err, .int .i64 e.agen, .int .i64 e.floor, .slice e.aA e.afiles.length e.aC, .slice e.mA e.mN e.mC] 54)) := (Below.refl _ _).alloc (Nat.le_refl _) _
            have hfx := hfi.below hbx
            obtain ⟨y0, y1, y2, y3, y4, y5⟩ := hfx.cells
            obtain ⟨z0, z1⟩ := hfx.done hq
            have hH := HT.out
            rw [drop_head he, triesP] at hH
            have hdd : d.getD i true = q := by rw [List.getD_eq_getElem?_getD, hq]; rfl
            rw [hdd] at hH
            have FR := Lib.hid (fun X (h : Below wr.heap.size wr X) => free_any X (hfi.below h) hl he)
            clear hcell hvr
            cases q with
            | true =>
              have HST := Lib.hid (show triesP (findP n l) l g (i + 1) (l.drop (i + 1)) d lf o = R by simpa using hH)
              clear hH
              go_wp2
              go_roundw
              case rel => unfold FRel; exact ⟨i + 1, lf, Ui, by omega, by go_num, HST, by omega, hlf1, Lib.hid (hfi.below hbx), Lib.hid (HKi.out.trans (Kf.of_below hbx)), Nat.le_trans hzi hbx.size⟩
              case measure => simp [intOf] <;> omega
            | false =>
              cases hfr : freeGo i e.asked 0 l d with
              | false =>
                rw [hfr] at FR hH
                have HST := Lib.hid (show triesP (findP n l) l g (i + 1) (l.drop (i + 1)) d lf o = R by simpa using hH)
                clear hH hfr hdd he hq
                go_wp2_with (go_at_call 44; (with_reducible refine (FR.out _ hbx).mono ?_); rintro x w2 ⟨rfl, hb2⟩; have hq2 := below_on hbx hb2)
                clear a0 a1 a2 a3 a4 a5 c0 c1 c2 c3 c4 c5 c6 c7 c8 c9 x0 x1 y0 y1 y2 y3 y4 y5 z0 z1
                go_roundw
                case rel => unfold FRel; exact ⟨i + 1, lf, Ui, by omega, by go_num, HST, by omega, hlf1, Lib.hid (hfi.below hq2), Lib.hid (HKi.out.trans (Kf.of_below hq2)), Nat.le_trans hzi hq2.size⟩
                case measure => simp [intOf] <;> omega
              | true =>
                rw [hfr] at FR hH
                have hEe := HE.out e (List.mem_of_getElem? he)
                have hfs := hfi.his.fs e (List.mem_of_getElem? he)
                have has := hfi.his.an e (List.mem_of_getElem? he)
                have hgl := HG.out
                have DC := Lib.hid (fun X (h : Below wr.heap.size wr X) => do_any g.floor e.kind e.gen (.slice LA g.trees.length LC) g.trees e.fA e.fC e.files X (fun s hs => Nat.le_trans (hgl.s s hs) (by omega)) (Nat.le_trans hgl.n (by omega)) hgl.f0 hgl.f1 (Nat.le_trans hEe.2.1 (by omega)) hEe.1 (own_below HVr.out h) (own_slice (own_below hfs h)) (HM.out.on (HBr.out.trans (h.mono HBr.out.size))))
                have hdo : doP ⟨g.floor, g.trees⟩ ⟨e.kind, e.gen, e.files⟩ = doP g (callOf e) := rfl
                rw [hdo] at DC
                have hgd := Lib.hid (do_good HG.out (callOf e))
                have htk : takes g e = if openE e then (e.kind == 1 || e.kind == 5) && ((doP g (callOf e)).2.err == 0) else @decide ((doP g (callOf e)).2 = ansOf e) (Classical.propDecidable _) := rfl
                rw [htk] at hH
                generalize doP g (callOf e) = DD at *
                obtain ⟨⟨fl3, L3⟩, ⟨er3, ge3, fo3, F3⟩⟩ := DD
                unfold DoOut at DC
                simp only [] at DC hH htk
                have ID := Lib.hid (fun X (h : Below wr.heap.size wr X) => idle_any X (hfi.below h) he hl)
                have HEB := Lib.hid (Blk.new wr 54 #[Value.int .i64 e.asked, .int .i64 e.told, .int .i64 e.kind, .int .i64 e.gen, .slice e.fA e.files.length e.fC, .int .i64 e.err, .int .i64 e.agen, .int .i64 e.floor, .slice e.aA e.afiles.length e.aC, .slice e.mA e.mN e.mC])
                have hLl := HLr.out.lt
                have HSB := Lib.hid (set_back hdd)
                have HSET : Hid ((d.set i true)[i]? = some true) := Lib.hid (by
                  have hil : i < d.length := by
                    rcases Nat.lt_or_ge i d.length with h | h
                    · exact h
                    · rw [List.getElem?_eq_none h] at hq; cases hq
                  rw [List.getElem?_set, if_pos rfl, if_pos hil])
                clear hEe hgl hdo htk hfr hdd
                have CG := Lib.hid (fun X => changes_any e.kind e.gen (.slice e.fA e.files.length e.fC) rfl X)
                have HQ := Lib.hid hq
                have hun : Hid (undone (d.set i true) + 1 ≤ n) := Lib.hid (by have := undone_set hq; omega)
                have HGD : Hid (GoodL ⟨fl3, L3⟩ (300 - n)) := Lib.hid (by have h := hgd.out; rw [show 300 - (n + 1) + 1 = 300 - n by omega] at h; exact h)
                have hlf2 : Hid (-1099511627776 ≤ lf) := Lib.hid (by omega)
                have hon : Hid ((o ++ [i]).length + n ≤ 300) := Lib.hid (by rw [List.length_append]; simp; omega)
                obtain ⟨iI, fi0, fz0, fz1, fz2⟩ := info_parts infoI
                clear he hq
                cases hop : openE e with
                | true =>
                  rw [hop] at ID hH
                  rw [if_pos rfl] at hH
                  cases hcg : (e.kind == 1 || e.kind == 5) with
                  | false =>
                    rw [hcg] at CG hH
                    have HST := Lib.hid (show triesP (findP n l) l g (i + 1) (l.drop (i + 1)) d lf o = R by simpa using hH)
                    clear hH hop hcg
                    go_wp2_with (first
                      | (go_at_call 44; (with_reducible refine (FR.out _ hbx).mono ?_); rintro x w2 ⟨rfl, hb2⟩; have hq2 := below_on hbx hb2; obtain ⟨l0, l1, _, _⟩ := hcells (HLr.out.below hq2 hLl); have heb2 := HEB.out.below hb2 HEB.out.lt; obtain ⟨t0, t1, t2, t3, t4, t5, t6, t7, t8, t9⟩ := evx heb2; have HEB2 := Lib.hid heb2; clear heb2 a0 a1 a2 a3 a4 a5 c0 c1 c2 c3 c4 c5 c6 c7 c8 c9 x0 x1 y0 y1 y2 y3 y4 y5 z0 z1)
                      | (go_at_call 14; (with_reducible refine (DC.out _ hq2).mono ?_); rintro x w3 ⟨V3, U3, rfl, hv3, hu3, hb3⟩; obtain ⟨A3, C3, rfl, hc3, _, _⟩ := own_arr hv3; obtain ⟨A4, C4, rfl, hc4, ha4, _⟩ := own_arr hu3; have hq3 := below_on hq2 hb3; have HV3 := Lib.hid hv3; have HA4 := Lib.hid ha4; have hn4 := own_len hu3; clear hv3 hu3 ha4; have hqa := hq3.alloc hq3.size (.cells #[Value.int .i64 fl3, .slice A3 L3.length C3] 25); have hqb := hqa.alloc hqa.size (.cells #[Value.int .i64 er3, .int .i64 ge3, .int .i64 fo3, .slice A4 F3.length C4, .slice none 0 0] 34); have hqc : Below w3.heap.size w3 ((w3.alloc (.cells #[Value.int .i64 fl3, .slice A3 L3.length C3] 25)).alloc (.cells #[Value.int .i64 er3, .int .i64 ge3, .int .i64 fo3, .slice A4 F3.length C4, .slice none 0 0] 34)) := ((Below.refl _ w3).alloc (Nat.le_refl _) _).alloc (by simp) _; have HEB3 := Lib.hid ((HEB2.out.below hb3 HEB2.out.lt).below hqc (Nat.lt_of_lt_of_le HEB2.out.lt hb3.size)); have HL7 := Lib.hid ((Blk.new w3 25 #[Value.int .i64 fl3, .slice A3 L3.length C3]).alloc (.cells #[Value.int .i64 er3, .int .i64 ge3, .int .i64 fo3, .slice A4 F3.length C4, .slice none 0 0] 34)); have HA8 := Lib.hid (Blk.new' (w := w3.alloc (.cells #[Value.int .i64 fl3, .slice A3 L3.length C3] 25)) (g := w3.heap.size + 1) (by simp) 34 #[Value.int .i64 er3, .int .i64 ge3, .int .i64 fo3, .slice A4 F3.length C4, .slice none 0 0]))
                      | (go_at_call 45; (with_reducible refine (ID.out _ hqb).mono ?_); rintro x w4 ⟨rfl, hb4⟩; have hq4 := below_on hqb hb4; have HEB4 := Lib.hid (HEB3.out.below hb4 HEB3.out.lt); have HL74 := Lib.hid (HL7.out.below hb4 HL7.out.lt); have HA84 := Lib.hid (HA8.out.below hb4 HA8.out.lt); obtain ⟨s0, s1, s2, s3, s4, s5, s6, s7, s8, s9⟩ := evx HEB4.out; obtain ⟨r0, r1, r2, r3, r4, _⟩ := acells HA84.out; obtain ⟨n0, n1, _, _⟩ := hcells HL74.out; clear t0 t1 t2 t3 t4 t5 t6 t7 t8 t9 l0 l1)
                      | (go_at_call 61; (with_reducible refine (CG.out _).mono ?_); rintro x w5 ⟨rfl, hb5⟩; have hq5 := below_on hq4 hb5; obtain ⟨r0', _, _, _, _, _⟩ := acells (HA84.out.below hb5 HA84.out.lt); clear s0 s1 s2 s3 s4 s5 s6 s7 s8 s9 r0 r1 r2 r3 r4 n0 n1)
                      | (fail))
                    (go_roundw; (case rel => unfold FRel; exact ⟨i + 1, lf, Ui, by omega, by go_num, HST, by omega, hlf1, Lib.hid (hfi.below hq5), Lib.hid (HKi.out.trans (Kf.of_below hq5)), Nat.le_trans hzi hq5.size⟩); (case measure => simp [intOf] <;> omega))
                  | true =>
                    rw [hcg] at CG hH
                    by_cases her : er3 = 0
                    · have g1 : (er3 == 0) = true := by rw [her]; rfl
                      have g2 : (er3 != 0) = false := by rw [her]; rfl
                      have hT := hH
                      simp only [g1, Bool.not_true, Bool.or_false, Bool.and_self, Bool.false_eq_true, if_false] at hT
                      (obtain ⟨r, hr⟩ : ∃ r, r = findP n l ⟨fl3, L3⟩ (d.set i true) lf (o ++ [i]) := ⟨_, rfl⟩); (have ic := fun W U VL h1 h2 h3 => IH.out ⟨fl3, L3⟩ (d.set i true) lf (o ++ [i]) W U VL hun.out HGD.out hlf2.out hlf1 hon.out h1 h2 h3); (have hlv := find_leaves n l ⟨fl3, L3⟩ (d.set i true) lf (o ++ [i])); (have hl2 : -(B : Int) - (i + 1 : Nat) ≤ r.left := by (rw [hr]; by_cases hs : 0 ≤ lf; (have := L0.out ⟨fl3, L3⟩ (d.set i true) lf (o ++ [i]) hs; omega); (have := L1.out ⟨fl3, L3⟩ (d.set i true) lf (o ++ [i]) (by omega); omega))); (have hl3 : r.left ≤ lf := by (rw [hr]; exact find_le n l ⟨fl3, L3⟩ (d.set i true) lf (o ++ [i]))); rw [← hr] at hT ic hlv; (have IC := Lib.hid ic); clear ic hr; (have hol : (o ++ [i]).length = o.length + 1 := by simp)
                      clear hH hop hcg her
                      (cases hok : r.ok with | true => (have HR8 : Hid (r = R) := Lib.hid (by simpa [hok] using hT)); (clear hT); (go_wp2_with (first | (go_at_call 44; (with_reducible refine (FR.out _ hbx).mono ?_); rintro x w2 ⟨rfl, hb2⟩; have hq2 := below_on hbx hb2; obtain ⟨l0, l1, _, _⟩ := hcells (HLr.out.below hq2 hLl); have heb2 := HEB.out.below hb2 HEB.out.lt; obtain ⟨t0, t1, t2, t3, t4, t5, t6, t7, t8, t9⟩ := evx heb2; have HEB2 := Lib.hid heb2; clear heb2 a0 a1 a2 a3 a4 a5 c0 c1 c2 c3 c4 c5 c6 c7 c8 c9 x0 x1 y0 y1 y2 y3 y4 y5 z0 z1) | (go_at_call 14; (with_reducible refine (DC.out _ hq2).mono ?_); rintro x w3 ⟨V3, U3, rfl, hv3, hu3, hb3⟩; obtain ⟨A3, C3, rfl, hc3, _, _⟩ := own_arr hv3; obtain ⟨A4, C4, rfl, hc4, ha4, _⟩ := own_arr hu3; have hq3 := below_on hq2 hb3; have HV3 := Lib.hid hv3; have HA4 := Lib.hid ha4; have hn4 := own_len hu3; clear hv3 hu3 ha4; have hqa := hq3.alloc hq3.size (.cells #[Value.int .i64 fl3, .slice A3 L3.length C3] 25); have hqb := hqa.alloc hqa.size (.cells #[Value.int .i64 er3, .int .i64 ge3, .int .i64 fo3, .slice A4 F3.length C4, .slice none 0 0] 34); have hqc : Below w3.heap.size w3 ((w3.alloc (.cells #[Value.int .i64 fl3, .slice A3 L3.length C3] 25)).alloc (.cells #[Value.int .i64 er3, .int .i64 ge3, .int .i64 fo3, .slice A4 F3.length C4, .slice none 0 0] 34)) := ((Below.refl _ w3).alloc (Nat.le_refl _) _).alloc (by simp) _; have HEB3 := Lib.hid ((HEB2.out.below hb3 HEB2.out.lt).below hqc (Nat.lt_of_lt_of_le HEB2.out.lt hb3.size)); have HL7 := Lib.hid ((Blk.new w3 25 #[Value.int .i64 fl3, .slice A3 L3.length C3]).alloc (.cells #[Value.int .i64 er3, .int .i64 ge3, .int .i64 fo3, .slice A4 F3.length C4, .slice none 0 0] 34)); have HA8 := Lib.hid (Blk.new' (w := w3.alloc (.cells #[Value.int .i64 fl3, .slice A3 L3.length C3] 25)) (g := w3.heap.size + 1) (by simp) 34 #[Value.int .i64 er3, .int .i64 ge3, .int .i64 fo3, .slice A4 F3.length C4, .slice none 0 0])) | (go_at_call 45; (with_reducible refine (ID.out _ hqb).mono ?_); rintro x w4 ⟨rfl, hb4⟩; have hq4 := below_on hqb hb4; have HEB4 := Lib.hid (HEB3.out.below hb4 HEB3.out.lt); have HL74 := Lib.hid (HL7.out.below hb4 HL7.out.lt); have HA84 := Lib.hid (HA8.out.below hb4 HA8.out.lt); obtain ⟨s0, s1, s2, s3, s4, s5, s6, s7, s8, s9⟩ := evx HEB4.out; obtain ⟨r0, r1, r2, r3, r4, _⟩ := acells HA84.out; obtain ⟨n0, n1, _, _⟩ := hcells HL74.out; clear t0 t1 t2 t3 t4 t5 t6 t7 t8 t9 l0 l1) | ((go_at_call 61; (with_reducible refine (CG.out _).mono ?_); rintro x w5 ⟨rfl, hb5⟩; have hq5 := below_on hq4 hb5; obtain ⟨r0', _, _, _, _, _⟩ := acells (HA84.out.below hb5 HA84.out.lt); clear s0 s1 s2 s3 s4 s5 s6 s7 s8 s9 r0 r1 r2 r3 r4 n0 n1); have hf5 := hfi.below hq5; obtain ⟨k0, k1, k2, k3, k4, k5⟩ := hf5.cells; obtain ⟨kd, kz⟩ := hf5.done HQ.out; have HD5 := Lib.hid (hf5.setDone i true); obtain ⟨j0, j1, j2, j3, j4, j5⟩ := HD5.out.cells; have HL5 := Lib.hid ((HL74.out.below hb5 HL74.out.lt).far (p := ⟨D, i, none⟩) (Blk.ne_ (HL74.out.below hb5 HL74.out.lt) hf5.row (by decide)) (.bool true)); have HV5 := Lib.hid (own_setbox (i := i) (u := .bool true) (own_below HV3.out ((hqc.trans (hb4.mono hqc.size)).trans (hb5.mono (Nat.le_trans hqc.size hb4.size)))) (own_blk_ne (own_below HV3.out ((hqc.trans (hb4.mono hqc.size)).trans (hb5.mono (Nat.le_trans hqc.size hb4.size)))) hf5.row (by decide))); have HK5 : Hid (Kf w0.heap.size F D wr (w5.setCell ⟨D, i, none⟩ (.bool true))) := Lib.hid ((Kf.of_below hq5).setD i (.bool true)); have hs5 : w0.heap.size ≤ (w5.setCell ⟨D, i, none⟩ (.bool true)).heap.size := by rw [World.size_setCell]; exact Nat.le_trans HBr.out.size hq5.size) | (at_builtin; refine wpList_push rfl _ _ _ rfl Tryd.underlying45 fi0 fz0 fz1 fz2 rfl (by decide) HD5.out.ord rfl (by rw [World.size_setCell]; rfl) rfl (int_one i) (by unfold maxLen; omega) (by omega) hs5 ?_; intro g6 cap6 w6 hown6 hgr6 hat6; obtain ⟨hG1, hG2, hG3⟩ := HD5.out.grown hgr6; have u3 := hG1.cell 3; have u4 := hG1.frozen 3; have u0 := hG1.cell 0; have HF7 := Lib.hid (HD5.out.pushed hgr6 (U' := .slice (some ⟨g6, 0, none⟩) (o.length + 1) cap6) (o' := o ++ [i]) (by rw [List.length_append, List.map_append]; exact hown6)); obtain ⟨v0, v1, v2, v3, v4, v5⟩ := HF7.out.cells; have hL7 := (HL5.out.grown hgr6 (fun e => own_blk_ne HD5.out.ord HL5.out (by decide) e.symm)).far (p := ⟨F, 3, none⟩) (Blk.ne_ (HL5.out.grown hgr6 (fun e => own_blk_ne HD5.out.ord HL5.out (by decide) e.symm)) hG1 (by decide)) (.slice (some ⟨g6, 0, none⟩) (o.length + 1) cap6); obtain ⟨n2, n3, _, _⟩ := hcells hL7; have HV7 := Lib.hid (own_setbox (i := 3) (u := .slice (some ⟨g6, 0, none⟩) (o.length + 1) cap6) (HV5.out.kept hgr6 (own_apart HV5.out HD5.out.ord (by decide))) (own_blk_ne (HV5.out.kept hgr6 (own_apart HV5.out HD5.out.ord (by decide))) hG1 (by decide))); have HK7 := Lib.hid ((HK5.out.push hgr6 HD5.out.ord).setF 3 (.slice (some ⟨g6, 0, none⟩) (o.length + 1) cap6)); clear hL7) | (go_at_call 41; (with_reducible refine (IC.out _ _ _ HF7.out (hB0.trans ((HKr.out.trans HK7.out).below hB0.size hfi.bF hfi.bD)) HV7.out).mono ?_); rintro x w8 ⟨hx8, U8, hf8, hk8⟩; rw [hok] at hx8; subst hx8) | (fail))); (try rw [Exit.noGoto_ret]); go_ret; unfold FindOut; rw [← HR8.out]; (exact ⟨by rw [hok]; rfl, U8, hf8, HKr.out.trans (HK7.out.trans hk8)⟩) | false => (obtain ⟨hlv1, hlv2⟩ := hlv hok); (have hR8 : triesP (findP n l) l g (i + 1) (l.drop (i + 1)) d r.left o = R := by (have hT2 := hT; rw [hok, hlv1, hlv2, HSB.out, List.dropLast_concat] at hT2; simpa using hT2)); (have HR8 := Lib.hid hR8); (clear hT hR8); (go_wp2_with (first | (go_at_call 44; (with_reducible refine (FR.out _ hbx).mono ?_); rintro x w2 ⟨rfl, hb2⟩; have hq2 := below_on hbx hb2; obtain ⟨l0, l1, _, _⟩ := hcells (HLr.out.below hq2 hLl); have heb2 := HEB.out.below hb2 HEB.out.lt; obtain ⟨t0, t1, t2, t3, t4, t5, t6, t7, t8, t9⟩ := evx heb2; have HEB2 := Lib.hid heb2; clear heb2 a0 a1 a2 a3 a4 a5 c0 c1 c2 c3 c4 c5 c6 c7 c8 c9 x0 x1 y0 y1 y2 y3 y4 y5 z0 z1) | (go_at_call 14; (with_reducible refine (DC.out _ hq2).mono ?_); rintro x w3 ⟨V3, U3, rfl, hv3, hu3, hb3⟩; obtain ⟨A3, C3, rfl, hc3, _, _⟩ := own_arr hv3; obtain ⟨A4, C4, rfl, hc4, ha4, _⟩ := own_arr hu3; have hq3 := below_on hq2 hb3; have HV3 := Lib.hid hv3; have HA4 := Lib.hid ha4; have hn4 := own_len hu3; clear hv3 hu3 ha4; have hqa := hq3.alloc hq3.size (.cells #[Value.int .i64 fl3, .slice A3 L3.length C3] 25); have hqb := hqa.alloc hqa.size (.cells #[Value.int .i64 er3, .int .i64 ge3, .int .i64 fo3, .slice A4 F3.length C4, .slice none 0 0] 34); have hqc : Below w3.heap.size w3 ((w3.alloc (.cells #[Value.int .i64 fl3, .slice A3 L3.length C3] 25)).alloc (.cells #[Value.int .i64 er3, .int .i64 ge3, .int .i64 fo3, .slice A4 F3.length C4, .slice none 0 0] 34)) := ((Below.refl _ w3).alloc (Nat.le_refl _) _).alloc (by simp) _; have HEB3 := Lib.hid ((HEB2.out.below hb3 HEB2.out.lt).below hqc (Nat.lt_of_lt_of_le HEB2.out.lt hb3.size)); have HL7 := Lib.hid ((Blk.new w3 25 #[Value.int .i64 fl3, .slice A3 L3.length C3]).alloc (.cells #[Value.int .i64 er3, .int .i64 ge3, .int .i64 fo3, .slice A4 F3.length C4, .slice none 0 0] 34)); have HA8 := Lib.hid (Blk.new' (w := w3.alloc (.cells #[Value.int .i64 fl3, .slice A3 L3.length C3] 25)) (g := w3.heap.size + 1) (by simp) 34 #[Value.int .i64 er3, .int .i64 ge3, .int .i64 fo3, .slice A4 F3.length C4, .slice none 0 0])) | (go_at_call 45; (with_reducible refine (ID.out _ hqb).mono ?_); rintro x w4 ⟨rfl, hb4⟩; have hq4 := below_on hqb hb4; have HEB4 := Lib.hid (HEB3.out.below hb4 HEB3.out.lt); have HL74 := Lib.hid (HL7.out.below hb4 HL7.out.lt); have HA84 := Lib.hid (HA8.out.below hb4 HA8.out.lt); obtain ⟨s0, s1, s2, s3, s4, s5, s6, s7, s8, s9⟩ := evx HEB4.out; obtain ⟨r0, r1, r2, r3, r4, _⟩ := acells HA84.out; obtain ⟨n0, n1, _, _⟩ := hcells HL74.out; clear t0 t1 t2 t3 t4 t5 t6 t7 t8 t9 l0 l1) | ((go_at_call 61; (with_reducible refine (CG.out _).mono ?_); rintro x w5 ⟨rfl, hb5⟩; have hq5 := below_on hq4 hb5; obtain ⟨r0', _, _, _, _, _⟩ := acells (HA84.out.below hb5 HA84.out.lt); clear s0 s1 s2 s3 s4 s5 s6 s7 s8 s9 r0 r1 r2 r3 r4 n0 n1); have hf5 := hfi.below hq5; obtain ⟨k0, k1, k2, k3, k4, k5⟩ := hf5.cells; obtain ⟨kd, kz⟩ := hf5.done HQ.out; have HD5 := Lib.hid (hf5.setDone i true); obtain ⟨j0, j1, j2, j3, j4, j5⟩ := HD5.out.cells; have HL5 := Lib.hid ((HL74.out.below hb5 HL74.out.lt).far (p := ⟨D, i, none⟩) (Blk.ne_ (HL74.out.below hb5 HL74.out.lt) hf5.row (by decide)) (.bool true)); have HV5 := Lib.hid (own_setbox (i := i) (u := .bool true) (own_below HV3.out ((hqc.trans (hb4.mono hqc.size)).trans (hb5.mono (Nat.le_trans hqc.size hb4.size)))) (own_blk_ne (own_below HV3.out ((hqc.trans (hb4.mono hqc.size)).trans (hb5.mono (Nat.le_trans hqc.size hb4.size)))) hf5.row (by decide))); have HK5 : Hid (Kf w0.heap.size F D wr (w5.setCell ⟨D, i, none⟩ (.bool true))) := Lib.hid ((Kf.of_below hq5).setD i (.bool true)); have hs5 : w0.heap.size ≤ (w5.setCell ⟨D, i, none⟩ (.bool true)).heap.size := by rw [World.size_setCell]; exact Nat.le_trans HBr.out.size hq5.size) | (at_builtin; refine wpList_push rfl _ _ _ rfl Tryd.underlying45 fi0 fz0 fz1 fz2 rfl (by decide) HD5.out.ord rfl (by rw [World.size_setCell]; rfl) rfl (int_one i) (by unfold maxLen; omega) (by omega) hs5 ?_; intro g6 cap6 w6 hown6 hgr6 hat6; obtain ⟨hG1, hG2, hG3⟩ := HD5.out.grown hgr6; have u3 := hG1.cell 3; have u4 := hG1.frozen 3; have u0 := hG1.cell 0; have HF7 := Lib.hid (HD5.out.pushed hgr6 (U' := .slice (some ⟨g6, 0, none⟩) (o.length + 1) cap6) (o' := o ++ [i]) (by rw [List.length_append, List.map_append]; exact hown6)); obtain ⟨v0, v1, v2, v3, v4, v5⟩ := HF7.out.cells; have hL7 := (HL5.out.grown hgr6 (fun e => own_blk_ne HD5.out.ord HL5.out (by decide) e.symm)).far (p := ⟨F, 3, none⟩) (Blk.ne_ (HL5.out.grown hgr6 (fun e => own_blk_ne HD5.out.ord HL5.out (by decide) e.symm)) hG1 (by decide)) (.slice (some ⟨g6, 0, none⟩) (o.length + 1) cap6); obtain ⟨n2, n3, _, _⟩ := hcells hL7; have HV7 := Lib.hid (own_setbox (i := 3) (u := .slice (some ⟨g6, 0, none⟩) (o.length + 1) cap6) (HV5.out.kept hgr6 (own_apart HV5.out HD5.out.ord (by decide))) (own_blk_ne (HV5.out.kept hgr6 (own_apart HV5.out HD5.out.ord (by decide))) hG1 (by decide))); have HK7 := Lib.hid ((HK5.out.push hgr6 HD5.out.ord).setF 3 (.slice (some ⟨g6, 0, none⟩) (o.length + 1) cap6)); clear hL7) | (go_at_call 41; (with_reducible refine (IC.out _ _ _ HF7.out (hB0.trans ((HKr.out.trans HK7.out).below hB0.size hfi.bF hfi.bD)) HV7.out).mono ?_); rintro x w8 ⟨hx8, U8, hf8, hk8⟩; rw [hok] at hx8; subst hx8; rw [hlv1, hlv2] at hf8; obtain ⟨g8, C8, rfl, _, _⟩ := hf8.ord.form (by simp); have hor8 := hf8.ord; rw [hol] at hf8 hor8; have hor9 := pop_row hor8 hol; have hcp8 := own_cap hor8; obtain ⟨k0', k1', k2', k3', k4', k5'⟩ := hf8.cells; have HF8 := Lib.hid hf8; have HF9 := Lib.hid (hf8.setOrd hor9); obtain ⟨kd9, kz9⟩ := HF9.out.done HSET.out; obtain ⟨j0', j1', j2', j3', j4', j5'⟩ := HF9.out.cells; clear hor8 hor9 hf8) | (fail))); go_region; go_wp2; go_roundw; (case rel => (have hF := HF9.out.setDone i false); rw [HSB.out, List.dropLast_concat] at hF; (have hK := HKi.out.trans ((((HK7.out.trans hk8).setF 3 (.slice (some ⟨g8, 0, none⟩) o.length C8)).setD i (.bool false)).trans (Kf.of_below (dr_below _)))); (unfold FRel); (exact ⟨i + 1, r.left, _, by omega, by go_num, HR8, by omega, by omega, Lib.hid (hF.below (dr_below _)), Lib.hid hK, hK.size⟩)); (case measure => simp [intOf] <;> omega))
                    · have g1 : (er3 == 0) = false := by rw [beq_eq_false_iff_ne]; exact her
                      have g2 : (er3 != 0) = true := by simp [her]
                      have HST := Lib.hid (show triesP (findP n l) l g (i + 1) (l.drop (i + 1)) d lf o = R by simpa [g1] using hH)
                      clear hH hop hcg her
                      go_wp2_with (first
                        | (go_at_call 44; (with_reducible refine (FR.out _ hbx).mono ?_); rintro x w2 ⟨rfl, hb2⟩; have hq2 := below_on hbx hb2; obtain ⟨l0, l1, _, _⟩ := hcells (HLr.out.below hq2 hLl); have heb2 := HEB.out.below hb2 HEB.out.lt; obtain ⟨t0, t1, t2, t3, t4, t5, t6, t7, t8, t9⟩ := evx heb2; have HEB2 := Lib.hid heb2; clear heb2 a0 a1 a2 a3 a4 a5 c0 c1 c2 c3 c4 c5 c6 c7 c8 c9 x0 x1 y0 y1 y2 y3 y4 y5 z0 z1)
                        | (go_at_call 14; (with_reducible refine (DC.out _ hq2).mono ?_); rintro x w3 ⟨V3, U3, rfl, hv3, hu3, hb3⟩; obtain ⟨A3, C3, rfl, hc3, _, _⟩ := own_arr hv3; obtain ⟨A4, C4, rfl, hc4, ha4, _⟩ := own_arr hu3; have hq3 := below_on hq2 hb3; have HV3 := Lib.hid hv3; have HA4 := Lib.hid ha4; have hn4 := own_len hu3; clear hv3 hu3 ha4; have hqa := hq3.alloc hq3.size (.cells #[Value.int .i64 fl3, .slice A3 L3.length C3] 25); have hqb := hqa.alloc hqa.size (.cells #[Value.int .i64 er3, .int .i64 ge3, .int .i64 fo3, .slice A4 F3.length C4, .slice none 0 0] 34); have hqc : Below w3.heap.size w3 ((w3.alloc (.cells #[Value.int .i64 fl3, .slice A3 L3.length C3] 25)).alloc (.cells #[Value.int .i64 er3, .int .i64 ge3, .int .i64 fo3, .slice A4 F3.length C4, .slice none 0 0] 34)) := ((Below.refl _ w3).alloc (Nat.le_refl _) _).alloc (by simp) _; have HEB3 := Lib.hid ((HEB2.out.below hb3 HEB2.out.lt).below hqc (Nat.lt_of_lt_of_le HEB2.out.lt hb3.size)); have HL7 := Lib.hid ((Blk.new w3 25 #[Value.int .i64 fl3, .slice A3 L3.length C3]).alloc (.cells #[Value.int .i64 er3, .int .i64 ge3, .int .i64 fo3, .slice A4 F3.length C4, .slice none 0 0] 34)); have HA8 := Lib.hid (Blk.new' (w := w3.alloc (.cells #[Value.int .i64 fl3, .slice A3 L3.length C3] 25)) (g := w3.heap.size + 1) (by simp) 34 #[Value.int .i64 er3, .int .i64 ge3, .int .i64 fo3, .slice A4 F3.length C4, .slice none 0 0]))
                        | (go_at_call 45; (with_reducible refine (ID.out _ hqb).mono ?_); rintro x w4 ⟨rfl, hb4⟩; have hq4 := below_on hqb hb4; have HEB4 := Lib.hid (HEB3.out.below hb4 HEB3.out.lt); have HL74 := Lib.hid (HL7.out.below hb4 HL7.out.lt); have HA84 := Lib.hid (HA8.out.below hb4 HA8.out.lt); obtain ⟨s0, s1, s2, s3, s4, s5, s6, s7, s8, s9⟩ := evx HEB4.out; obtain ⟨r0, r1, r2, r3, r4, _⟩ := acells HA84.out; obtain ⟨n0, n1, _, _⟩ := hcells HL74.out; clear t0 t1 t2 t3 t4 t5 t6 t7 t8 t9 l0 l1)
                        | (go_at_call 61; (with_reducible refine (CG.out _).mono ?_); rintro x w5 ⟨rfl, hb5⟩; have hq5 := below_on hq4 hb5; obtain ⟨r0', _, _, _, _, _⟩ := acells (HA84.out.below hb5 HA84.out.lt); clear s0 s1 s2 s3 s4 s5 s6 s7 s8 s9 r0 r1 r2 r3 r4 n0 n1)
                        | (fail))
                      (go_roundw; (case rel => unfold FRel; exact ⟨i + 1, lf, Ui, by omega, by go_num, HST, by omega, hlf1, Lib.hid (hfi.below hq5), Lib.hid (HKi.out.trans (Kf.of_below hq5)), Nat.le_trans hzi hq5.size⟩); (case measure => simp [intOf] <;> omega))
                | false =>
                  rw [hop] at ID hH
                  rw [if_neg Bool.false_ne_true] at hH
                  have SM := Lib.hid (fun A4 C4 X (hn4 : F3.length ≤ 9223372036854775807) (h4 : Arr X X.heap.size 3 A4 F3.length (fcells F3)) (hX : Below wr.heap.size wr X) => same_any ⟨er3, ge3, fo3, F3⟩ (ansOf e) A4 e.aA C4 e.aC (.slice none 0 0) (.slice e.mA e.mN e.mC) X hn4 (own_len has) h4 (own_slice (own_below has hX)) rfl rfl)
                  unfold TellsB ansOf at SM
                  simp only [] at SM
                  by_cases hsm : (⟨er3, ge3, fo3, F3⟩ : AnsD) = ansOf e
                  · have hT := hH
                    simp only [hsm, Bool.not_true, Bool.or_false, decide_true, Bool.false_eq_true, if_false] at hT
                    (obtain ⟨r, hr⟩ : ∃ r, r = findP n l ⟨fl3, L3⟩ (d.set i true) lf (o ++ [i]) := ⟨_, rfl⟩); (have ic := fun W U VL h1 h2 h3 => IH.out ⟨fl3, L3⟩ (d.set i true) lf (o ++ [i]) W U VL hun.out HGD.out hlf2.out hlf1 hon.out h1 h2 h3); (have hlv := find_leaves n l ⟨fl3, L3⟩ (d.set i true) lf (o ++ [i])); (have hl2 : -(B : Int) - (i + 1 : Nat) ≤ r.left := by (rw [hr]; by_cases hs : 0 ≤ lf; (have := L0.out ⟨fl3, L3⟩ (d.set i true) lf (o ++ [i]) hs; omega); (have := L1.out ⟨fl3, L3⟩ (d.set i true) lf (o ++ [i]) (by omega); omega))); (have hl3 : r.left ≤ lf := by (rw [hr]; exact find_le n l ⟨fl3, L3⟩ (d.set i true) lf (o ++ [i]))); rw [← hr] at hT ic hlv; (have IC := Lib.hid ic); clear ic hr; (have hol : (o ++ [i]).length = o.length + 1 := by simp)
                    have HSM := Lib.hid hsm
                    clear hsm hH hop
                    (cases hok : r.ok with | true => (have HR8 : Hid (r = R) := Lib.hid (by simpa [hok] using hT)); (clear hT); (go_wp2_with (first | (go_at_call 44; (with_reducible refine (FR.out _ hbx).mono ?_); rintro x w2 ⟨rfl, hb2⟩; have hq2 := below_on hbx hb2; obtain ⟨l0, l1, _, _⟩ := hcells (HLr.out.below hq2 hLl); have heb2 := HEB.out.below hb2 HEB.out.lt; obtain ⟨t0, t1, t2, t3, t4, t5, t6, t7, t8, t9⟩ := evx heb2; have HEB2 := Lib.hid heb2; clear heb2 a0 a1 a2 a3 a4 a5 c0 c1 c2 c3 c4 c5 c6 c7 c8 c9 x0 x1 y0 y1 y2 y3 y4 y5 z0 z1) | (go_at_call 14; (with_reducible refine (DC.out _ hq2).mono ?_); rintro x w3 ⟨V3, U3, rfl, hv3, hu3, hb3⟩; obtain ⟨A3, C3, rfl, hc3, _, _⟩ := own_arr hv3; obtain ⟨A4, C4, rfl, hc4, ha4, _⟩ := own_arr hu3; have hq3 := below_on hq2 hb3; have HV3 := Lib.hid hv3; have HA4 := Lib.hid ha4; have hn4 := own_len hu3; clear hv3 hu3 ha4; have hqa := hq3.alloc hq3.size (.cells #[Value.int .i64 fl3, .slice A3 L3.length C3] 25); have hqb := hqa.alloc hqa.size (.cells #[Value.int .i64 er3, .int .i64 ge3, .int .i64 fo3, .slice A4 F3.length C4, .slice none 0 0] 34); have hqc : Below w3.heap.size w3 ((w3.alloc (.cells #[Value.int .i64 fl3, .slice A3 L3.length C3] 25)).alloc (.cells #[Value.int .i64 er3, .int .i64 ge3, .int .i64 fo3, .slice A4 F3.length C4, .slice none 0 0] 34)) := ((Below.refl _ w3).alloc (Nat.le_refl _) _).alloc (by simp) _; have HEB3 := Lib.hid ((HEB2.out.below hb3 HEB2.out.lt).below hqc (Nat.lt_of_lt_of_le HEB2.out.lt hb3.size)); have HL7 := Lib.hid ((Blk.new w3 25 #[Value.int .i64 fl3, .slice A3 L3.length C3]).alloc (.cells #[Value.int .i64 er3, .int .i64 ge3, .int .i64 fo3, .slice A4 F3.length C4, .slice none 0 0] 34)); have HA8 := Lib.hid (Blk.new' (w := w3.alloc (.cells #[Value.int .i64 fl3, .slice A3 L3.length C3] 25)) (g := w3.heap.size + 1) (by simp) 34 #[Value.int .i64 er3, .int .i64 ge3, .int .i64 fo3, .slice A4 F3.length C4, .slice none 0 0])) | (go_at_call 45; (with_reducible refine (ID.out _ hqb).mono ?_); rintro x w4 ⟨rfl, hb4⟩; have hq4 := below_on hqb hb4; have HEB4 := Lib.hid (HEB3.out.below hb4 HEB3.out.lt); have HL74 := Lib.hid (HL7.out.below hb4 HL7.out.lt); have HA84 := Lib.hid (HA8.out.below hb4 HA8.out.lt); obtain ⟨s0, s1, s2, s3, s4, s5, s6, s7, s8, s9⟩ := evx HEB4.out; obtain ⟨r0, r1, r2, r3, r4, _⟩ := acells HA84.out; obtain ⟨n0, n1, _, _⟩ := hcells HL74.out; clear t0 t1 t2 t3 t4 t5 t6 t7 t8 t9 l0 l1) | ((go_at_call 46; (with_reducible refine (SM.out A4 C4 w4 hn4 ((HA4.out.below (hqc.trans (hb4.mono hqc.size))).more (Nat.le_trans hqc.size hb4.size)) hq4).mono ?_); rintro x w5 ⟨t, rfl, ht, hb5⟩; have hq5 := below_on hq4 hb5; obtain rfl : t = true := ht.2 HSM.out; clear ht s0 s1 s2 s3 s4 s5 s6 s7 s8 s9 r0 r1 r2 r3 r4 n0 n1); have hf5 := hfi.below hq5; obtain ⟨k0, k1, k2, k3, k4, k5⟩ := hf5.cells; obtain ⟨kd, kz⟩ := hf5.done HQ.out; have HD5 := Lib.hid (hf5.setDone i true); obtain ⟨j0, j1, j2, j3, j4, j5⟩ := HD5.out.cells; have HL5 := Lib.hid ((HL74.out.below hb5 HL74.out.lt).far (p := ⟨D, i, none⟩) (Blk.ne_ (HL74.out.below hb5 HL74.out.lt) hf5.row (by decide)) (.bool true)); have HV5 := Lib.hid (own_setbox (i := i) (u := .bool true) (own_below HV3.out ((hqc.trans (hb4.mono hqc.size)).trans (hb5.mono (Nat.le_trans hqc.size hb4.size)))) (own_blk_ne (own_below HV3.out ((hqc.trans (hb4.mono hqc.size)).trans (hb5.mono (Nat.le_trans hqc.size hb4.size)))) hf5.row (by decide))); have HK5 : Hid (Kf w0.heap.size F D wr (w5.setCell ⟨D, i, none⟩ (.bool true))) := Lib.hid ((Kf.of_below hq5).setD i (.bool true)); have hs5 : w0.heap.size ≤ (w5.setCell ⟨D, i, none⟩ (.bool true)).heap.size := by rw [World.size_setCell]; exact Nat.le_trans HBr.out.size hq5.size) | (at_builtin; refine wpList_push rfl _ _ _ rfl Tryd.underlying45 fi0 fz0 fz1 fz2 rfl (by decide) HD5.out.ord rfl (by rw [World.size_setCell]; rfl) rfl (int_one i) (by unfold maxLen; omega) (by omega) hs5 ?_; intro g6 cap6 w6 hown6 hgr6 hat6; obtain ⟨hG1, hG2, hG3⟩ := HD5.out.grown hgr6; have u3 := hG1.cell 3; have u4 := hG1.frozen 3; have u0 := hG1.cell 0; have HF7 := Lib.hid (HD5.out.pushed hgr6 (U' := .slice (some ⟨g6, 0, none⟩) (o.length + 1) cap6) (o' := o ++ [i]) (by rw [List.length_append, List.map_append]; exact hown6)); obtain ⟨v0, v1, v2, v3, v4, v5⟩ := HF7.out.cells; have hL7 := (HL5.out.grown hgr6 (fun e => own_blk_ne HD5.out.ord HL5.out (by decide) e.symm)).far (p := ⟨F, 3, none⟩) (Blk.ne_ (HL5.out.grown hgr6 (fun e => own_blk_ne HD5.out.ord HL5.out (by decide) e.symm)) hG1 (by decide)) (.slice (some ⟨g6, 0, none⟩) (o.length + 1) cap6); obtain ⟨n2, n3, _, _⟩ := hcells hL7; have HV7 := Lib.hid (own_setbox (i := 3) (u := .slice (some ⟨g6, 0, none⟩) (o.length + 1) cap6) (HV5.out.kept hgr6 (own_apart HV5.out HD5.out.ord (by decide))) (own_blk_ne (HV5.out.kept hgr6 (own_apart HV5.out HD5.out.ord (by decide))) hG1 (by decide))); have HK7 := Lib.hid ((HK5.out.push hgr6 HD5.out.ord).setF 3 (.slice (some ⟨g6, 0, none⟩) (o.length + 1) cap6)); clear hL7) | (go_at_call 41; (with_reducible refine (IC.out _ _ _ HF7.out (hB0.trans ((HKr.out.trans HK7.out).below hB0.size hfi.bF hfi.bD)) HV7.out).mono ?_); rintro x w8 ⟨hx8, U8, hf8, hk8⟩; rw [hok] at hx8; subst hx8) | (fail))); (try rw [Exit.noGoto_ret]); go_ret; unfold FindOut; rw [← HR8.out]; (exact ⟨by rw [hok]; rfl, U8, hf8, HKr.out.trans (HK7.out.trans hk8)⟩) | false => (obtain ⟨hlv1, hlv2⟩ := hlv hok); (have hR8 : triesP (findP n l) l g (i + 1) (l.drop (i + 1)) d r.left o = R := by (have hT2 := hT; rw [hok, hlv1, hlv2, HSB.out, List.dropLast_concat] at hT2; simpa using hT2)); (have HR8 := Lib.hid hR8); (clear hT hR8); (go_wp2_with (first | (go_at_call 44; (with_reducible refine (FR.out _ hbx).mono ?_); rintro x w2 ⟨rfl, hb2⟩; have hq2 := below_on hbx hb2; obtain ⟨l0, l1, _, _⟩ := hcells (HLr.out.below hq2 hLl); have heb2 := HEB.out.below hb2 HEB.out.lt; obtain ⟨t0, t1, t2, t3, t4, t5, t6, t7, t8, t9⟩ := evx heb2; have HEB2 := Lib.hid heb2; clear heb2 a0 a1 a2 a3 a4 a5 c0 c1 c2 c3 c4 c5 c6 c7 c8 c9 x0 x1 y0 y1 y2 y3 y4 y5 z0 z1) | (go_at_call 14; (with_reducible refine (DC.out _ hq2).mono ?_); rintro x w3 ⟨V3, U3, rfl, hv3, hu3, hb3⟩; obtain ⟨A3, C3, rfl, hc3, _, _⟩ := own_arr hv3; obtain ⟨A4, C4, rfl, hc4, ha4, _⟩ := own_arr hu3; have hq3 := below_on hq2 hb3; have HV3 := Lib.hid hv3; have HA4 := Lib.hid ha4; have hn4 := own_len hu3; clear hv3 hu3 ha4; have hqa := hq3.alloc hq3.size (.cells #[Value.int .i64 fl3, .slice A3 L3.length C3] 25); have hqb := hqa.alloc hqa.size (.cells #[Value.int .i64 er3, .int .i64 ge3, .int .i64 fo3, .slice A4 F3.length C4, .slice none 0 0] 34); have hqc : Below w3.heap.size w3 ((w3.alloc (.cells #[Value.int .i64 fl3, .slice A3 L3.length C3] 25)).alloc (.cells #[Value.int .i64 er3, .int .i64 ge3, .int .i64 fo3, .slice A4 F3.length C4, .slice none 0 0] 34)) := ((Below.refl _ w3).alloc (Nat.le_refl _) _).alloc (by simp) _; have HEB3 := Lib.hid ((HEB2.out.below hb3 HEB2.out.lt).below hqc (Nat.lt_of_lt_of_le HEB2.out.lt hb3.size)); have HL7 := Lib.hid ((Blk.new w3 25 #[Value.int .i64 fl3, .slice A3 L3.length C3]).alloc (.cells #[Value.int .i64 er3, .int .i64 ge3, .int .i64 fo3, .slice A4 F3.length C4, .slice none 0 0] 34)); have HA8 := Lib.hid (Blk.new' (w := w3.alloc (.cells #[Value.int .i64 fl3, .slice A3 L3.length C3] 25)) (g := w3.heap.size + 1) (by simp) 34 #[Value.int .i64 er3, .int .i64 ge3, .int .i64 fo3, .slice A4 F3.length C4, .slice none 0 0])) | (go_at_call 45; (with_reducible refine (ID.out _ hqb).mono ?_); rintro x w4 ⟨rfl, hb4⟩; have hq4 := below_on hqb hb4; have HEB4 := Lib.hid (HEB3.out.below hb4 HEB3.out.lt); have HL74 := Lib.hid (HL7.out.below hb4 HL7.out.lt); have HA84 := Lib.hid (HA8.out.below hb4 HA8.out.lt); obtain ⟨s0, s1, s2, s3, s4, s5, s6, s7, s8, s9⟩ := evx HEB4.out; obtain ⟨r0, r1, r2, r3, r4, _⟩ := acells HA84.out; obtain ⟨n0, n1, _, _⟩ := hcells HL74.out; clear t0 t1 t2 t3 t4 t5 t6 t7 t8 t9 l0 l1) | ((go_at_call 46; (with_reducible refine (SM.out A4 C4 w4 hn4 ((HA4.out.below (hqc.trans (hb4.mono hqc.size))).more (Nat.le_trans hqc.size hb4.size)) hq4).mono ?_); rintro x w5 ⟨t, rfl, ht, hb5⟩; have hq5 := below_on hq4 hb5; obtain rfl : t = true := ht.2 HSM.out; clear ht s0 s1 s2 s3 s4 s5 s6 s7 s8 s9 r0 r1 r2 r3 r4 n0 n1); have hf5 := hfi.below hq5; obtain ⟨k0, k1, k2, k3, k4, k5⟩ := hf5.cells; obtain ⟨kd, kz⟩ := hf5.done HQ.out; have HD5 := Lib.hid (hf5.setDone i true); obtain ⟨j0, j1, j2, j3, j4, j5⟩ := HD5.out.cells; have HL5 := Lib.hid ((HL74.out.below hb5 HL74.out.lt).far (p := ⟨D, i, none⟩) (Blk.ne_ (HL74.out.below hb5 HL74.out.lt) hf5.row (by decide)) (.bool true)); have HV5 := Lib.hid (own_setbox (i := i) (u := .bool true) (own_below HV3.out ((hqc.trans (hb4.mono hqc.size)).trans (hb5.mono (Nat.le_trans hqc.size hb4.size)))) (own_blk_ne (own_below HV3.out ((hqc.trans (hb4.mono hqc.size)).trans (hb5.mono (Nat.le_trans hqc.size hb4.size)))) hf5.row (by decide))); have HK5 : Hid (Kf w0.heap.size F D wr (w5.setCell ⟨D, i, none⟩ (.bool true))) := Lib.hid ((Kf.of_below hq5).setD i (.bool true)); have hs5 : w0.heap.size ≤ (w5.setCell ⟨D, i, none⟩ (.bool true)).heap.size := by rw [World.size_setCell]; exact Nat.le_trans HBr.out.size hq5.size) | (at_builtin; refine wpList_push rfl _ _ _ rfl Tryd.underlying45 fi0 fz0 fz1 fz2 rfl (by decide) HD5.out.ord rfl (by rw [World.size_setCell]; rfl) rfl (int_one i) (by unfold maxLen; omega) (by omega) hs5 ?_; intro g6 cap6 w6 hown6 hgr6 hat6; obtain ⟨hG1, hG2, hG3⟩ := HD5.out.grown hgr6; have u3 := hG1.cell 3; have u4 := hG1.frozen 3; have u0 := hG1.cell 0; have HF7 := Lib.hid (HD5.out.pushed hgr6 (U' := .slice (some ⟨g6, 0, none⟩) (o.length + 1) cap6) (o' := o ++ [i]) (by rw [List.length_append, List.map_append]; exact hown6)); obtain ⟨v0, v1, v2, v3, v4, v5⟩ := HF7.out.cells; have hL7 := (HL5.out.grown hgr6 (fun e => own_blk_ne HD5.out.ord HL5.out (by decide) e.symm)).far (p := ⟨F, 3, none⟩) (Blk.ne_ (HL5.out.grown hgr6 (fun e => own_blk_ne HD5.out.ord HL5.out (by decide) e.symm)) hG1 (by decide)) (.slice (some ⟨g6, 0, none⟩) (o.length + 1) cap6); obtain ⟨n2, n3, _, _⟩ := hcells hL7; have HV7 := Lib.hid (own_setbox (i := 3) (u := .slice (some ⟨g6, 0, none⟩) (o.length + 1) cap6) (HV5.out.kept hgr6 (own_apart HV5.out HD5.out.ord (by decide))) (own_blk_ne (HV5.out.kept hgr6 (own_apart HV5.out HD5.out.ord (by decide))) hG1 (by decide))); have HK7 := Lib.hid ((HK5.out.push hgr6 HD5.out.ord).setF 3 (.slice (some ⟨g6, 0, none⟩) (o.length + 1) cap6)); clear hL7) | (go_at_call 41; (with_reducible refine (IC.out _ _ _ HF7.out (hB0.trans ((HKr.out.trans HK7.out).below hB0.size hfi.bF hfi.bD)) HV7.out).mono ?_); rintro x w8 ⟨hx8, U8, hf8, hk8⟩; rw [hok] at hx8; subst hx8; rw [hlv1, hlv2] at hf8; obtain ⟨g8, C8, rfl, _, _⟩ := hf8.ord.form (by simp); have hor8 := hf8.ord; rw [hol] at hf8 hor8; have hor9 := pop_row hor8 hol; have hcp8 := own_cap hor8; obtain ⟨k0', k1', k2', k3', k4', k5'⟩ := hf8.cells; have HF8 := Lib.hid hf8; have HF9 := Lib.hid (hf8.setOrd hor9); obtain ⟨kd9, kz9⟩ := HF9.out.done HSET.out; obtain ⟨j0', j1', j2', j3', j4', j5'⟩ := HF9.out.cells; clear hor8 hor9 hf8) | (fail))); go_region; go_wp2; go_roundw; (case rel => (have hF := HF9.out.setDone i false); rw [HSB.out, List.dropLast_concat] at hF; (have hK := HKi.out.trans ((((HK7.out.trans hk8).setF 3 (.slice (some ⟨g8, 0, none⟩) o.length C8)).setD i (.bool false)).trans (Kf.of_below (dr_below _)))); (unfold FRel); (exact ⟨i + 1, r.left, _, by omega, by go_num, HR8, by omega, by omega, Lib.hid (hF.below (dr_below _)), Lib.hid hK, hK.size⟩)); (case measure => simp [intOf] <;> omega))
                  · have HST := Lib.hid (show triesP (findP n l) l g (i + 1) (l.drop (i + 1)) d lf o = R by simpa [hsm] using hH)
                    have HSM := Lib.hid hsm
                    clear hH hop hsm
                    go_wp2_with (first
                      | (go_at_call 44; (with_reducible refine (FR.out _ hbx).mono ?_); rintro x w2 ⟨rfl, hb2⟩; have hq2 := below_on hbx hb2; obtain ⟨l0, l1, _, _⟩ := hcells (HLr.out.below hq2 hLl); have heb2 := HEB.out.below hb2 HEB.out.lt; obtain ⟨t0, t1, t2, t3, t4, t5, t6, t7, t8, t9⟩ := evx heb2; have HEB2 := Lib.hid heb2; clear heb2 a0 a1 a2 a3 a4 a5 c0 c1 c2 c3 c4 c5 c6 c7 c8 c9 x0 x1 y0 y1 y2 y3 y4 y5 z0 z1)
                      | (go_at_call 14; (with_reducible refine (DC.out _ hq2).mono ?_); rintro x w3 ⟨V3, U3, rfl, hv3, hu3, hb3⟩; obtain ⟨A3, C3, rfl, hc3, _, _⟩ := own_arr hv3; obtain ⟨A4, C4, rfl, hc4, ha4, _⟩ := own_arr hu3; have hq3 := below_on hq2 hb3; have HV3 := Lib.hid hv3; have HA4 := Lib.hid ha4; have hn4 := own_len hu3; clear hv3 hu3 ha4; have hqa := hq3.alloc hq3.size (.cells #[Value.int .i64 fl3, .slice A3 L3.length C3] 25); have hqb := hqa.alloc hqa.size (.cells #[Value.int .i64 er3, .int .i64 ge3, .int .i64 fo3, .slice A4 F3.length C4, .slice none 0 0] 34); have hqc : Below w3.heap.size w3 ((w3.alloc (.cells #[Value.int .i64 fl3, .slice A3 L3.length C3] 25)).alloc (.cells #[Value.int .i64 er3, .int .i64 ge3, .int .i64 fo3, .slice A4 F3.length C4, .slice none 0 0] 34)) := ((Below.refl _ w3).alloc (Nat.le_refl _) _).alloc (by simp) _; have HEB3 := Lib.hid ((HEB2.out.below hb3 HEB2.out.lt).below hqc (Nat.lt_of_lt_of_le HEB2.out.lt hb3.size)); have HL7 := Lib.hid ((Blk.new w3 25 #[Value.int .i64 fl3, .slice A3 L3.length C3]).alloc (.cells #[Value.int .i64 er3, .int .i64 ge3, .int .i64 fo3, .slice A4 F3.length C4, .slice none 0 0] 34)); have HA8 := Lib.hid (Blk.new' (w := w3.alloc (.cells #[Value.int .i64 fl3, .slice A3 L3.length C3] 25)) (g := w3.heap.size + 1) (by simp) 34 #[Value.int .i64 er3, .int .i64 ge3, .int .i64 fo3, .slice A4 F3.length C4, .slice none 0 0]))
                      | (go_at_call 45; (with_reducible refine (ID.out _ hqb).mono ?_); rintro x w4 ⟨rfl, hb4⟩; have hq4 := below_on hqb hb4; have HEB4 := Lib.hid (HEB3.out.below hb4 HEB3.out.lt); have HL74 := Lib.hid (HL7.out.below hb4 HL7.out.lt); have HA84 := Lib.hid (HA8.out.below hb4 HA8.out.lt); obtain ⟨s0, s1, s2, s3, s4, s5, s6, s7, s8, s9⟩ := evx HEB4.out; obtain ⟨r0, r1, r2, r3, r4, _⟩ := acells HA84.out; obtain ⟨n0, n1, _, _⟩ := hcells HL74.out; clear t0 t1 t2 t3 t4 t5 t6 t7 t8 t9 l0 l1)
                      | (go_at_call 46; (with_reducible refine (SM.out A4 C4 w4 hn4 ((HA4.out.below (hqc.trans (hb4.mono hqc.size))).more (Nat.le_trans hqc.size hb4.size)) hq4).mono ?_); rintro x w5 ⟨t, rfl, ht, hb5⟩; have hq5 := below_on hq4 hb5; obtain rfl : t = false := t_false ht HSM.out; clear ht s0 s1 s2 s3 s4 s5 s6 s7 s8 s9 r0 r1 r2 r3 r4 n0 n1)
                      | (fail))
                    (go_roundw; (case rel => unfold FRel; exact ⟨i + 1, lf, Ui, by omega, by go_num, HST, by omega, hlf1, Lib.hid (hfi.below hq5), Lib.hid (HKi.out.trans (Kf.of_below hq5)), Nat.le_trans hzi hq5.size⟩); (case measure => simp [intOf] <;> omega))
          · have hH := HT.out
            rw [List.drop_eq_nil_of_le (by omega : l.length ≤ i)] at hH
            have HST := Lib.hid (show (⟨false, d, lf, o⟩ : FindR) = R by rw [← hH]; rfl)
            have il : ¬ (i : Int) < l.length := by omega
            clear hH
            go_wp2
            (try rw [Exit.noGoto_ret])
            go_ret
            unfold FindOut
            rw [← HST.out]
            exact ⟨rfl, Ui, hfi, HKr.out⟩
end Go.Proofs.YtakdngcgjahafaaDoor
