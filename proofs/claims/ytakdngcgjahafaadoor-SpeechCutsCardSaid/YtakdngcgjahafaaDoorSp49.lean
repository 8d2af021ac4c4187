/- The walk through SpeechCuts. -/
import Derived.Test.YtakdngcgjahafaaDoorSp47
import Derived.Test.YtakdngcgjahafaaDoorSp48
import Derived.Test.YtakdngcgjahafaaDoorSpG
import Derived.Test.YtakdngcgjahafaaDoorCls
import Derived.Test.YtakdngcgjahafaaDoorSpB
import Derived.Deep.CutRange
namespace Go.Proofs.YtakdngcgjahafaaDoor
open Go.RowKit
set_option linter.unusedVariables false

theorem cpos_snoc {t : Int} {l : List EvD} {k : Nat} {e : EvD} (h : l[k]? = some e) : cpos t l (k + 1) = cpos t l k + (if e.asked ≤ t then 1 else 0) := by
  unfold cpos
  rw [List.take_add_one, h, Option.toList_some, List.filter_append, List.length_append, List.filter_cons]
  unfold keepE
  by_cases ha : e.asked ≤ t
  · rw [if_pos ha, if_pos (by simpa using ha)]; rfl
  · rw [if_neg ha, if_neg (by simpa using ha)]; rfl
theorem cpos_le (t : Int) (l : List EvD) (k : Nat) : cpos t l k ≤ k := by
  unfold cpos
  refine Nat.le_trans (List.length_filter_le _ _) ?_
  rw [List.length_take]
  omega
theorem cut_elem {t : Int} {l l' : List EvD} (hce : l'.map coreE = (cutL t l).map coreE) {k : Nat} {e : EvD} (h : l[k]? = some e) (ha : e.asked ≤ t) : ∃ c', l'[cpos t l k]? = some c' ∧ coreE c' = coreE (cutE t e) := by
  have h1 := cut_at h ha
  have h2 : ((cutL t l).map coreE)[cpos t l k]? = some (coreE (cutE t e)) := by rw [List.getElem?_map, h1]; rfl
  rw [← hce, List.getElem?_map, Option.map_eq_some_iff] at h2
  exact h2
theorem cut_len {t : Int} {l l' : List EvD} (hce : l'.map coreE = (cutL t l).map coreE) : cpos t l l.length = l'.length := by
  have h := congrArg List.length hce
  rw [List.length_map, List.length_map] at h
  rw [h]
  unfold cpos cutL
  rw [List.take_length, List.length_map]
def CutsR (t : Int) (l : List EvD) (w : World) (v6 v7 v8 v9 v : Value) (wr : World) : Prop := ∃ k p a b d : Nat, k ≤ l.length ∧ v6 = .int .i64 p ∧ v7 = .int .i64 a ∧ v8 = .int .i64 b ∧ v9 = .int .i64 d ∧ v = .int .i64 k ∧ p ≤ k ∧ a ≤ k ∧ b ≤ k ∧ d ≤ k ∧ Hid (p = cpos t l k) ∧ Hid (a = cntL 0 (l.take k)) ∧ Hid (b = cntL 1 (l.take k)) ∧ Hid (d = cntL 2 (l.take k)) ∧ Below w.heap.size w wr
def CutsC (l : List EvD) (k : Nat) (v7 v8 v9 : Value) : Prop := ∃ a b d : Nat, v7 = .int .i64 a ∧ v8 = .int .i64 b ∧ v9 = .int .i64 d ∧ a ≤ k ∧ b ≤ k ∧ d ≤ k ∧ Hid (a = cntL 0 (l.take k)) ∧ Hid (b = cntL 1 (l.take k)) ∧ Hid (d = cntL 2 (l.take k))
def CutsB (w : World) (v : Value) (wx : World) : Prop := v = .bool false ∧ Below w.heap.size w wx
set_option maxHeartbeats 8000000 in
set_option maxRecDepth 100000 in
theorem law_cuts (A : Option Addr) (c : Nat) (l0 : List EvD) (t : Int) (w : World) (hz : l0.length ≤ 9223372036854775807) (ha : Arr w w.heap.size 10 A l0.length (ecells l0)) (hi : ∀ e ∈ l0, EvIn w e ∧ MarksIn w e.mA e.mN) (ht1 : -9223372036854775808 ≤ t) (ht2 : t ≤ 9223372036854775807) (hm : Ml w) :
    Calls Tryd.prog 10 #[.slice A l0.length c, .int .i64 t] w fun e w' => e = .returned (.bool true) ∧ Below w.heap.size w w' := by
  have AW := Lib.hid (fun X (h : Below w.heap.size w X) => awake22 X (hm.on h))
  have SH0 := short_anyP (fun A n => MarksIn w A n) A c l0 8 w hz (by omega) ha (fun e he => (hi e he).1) (fun e he => (hi e he).2)
  rw [show ((8 : Nat) : Int) = 8 from rfl] at SH0
  have SH := Lib.hid SH0
  clear SH0
  unfold ShortP at SH
  have HM := Lib.hid hm
  generalize l0.length = n0 at *
  clear ha hi hm hz ht1 ht2
  go_enter Tryd.func10, Tryd.ntmps10
  go_wp2_with (go_at_call 19; (with_reducible refine (SH.out).mono ?_); rintro x w1 ⟨V, l, rfl, hg, hl8, hmk, hb1⟩; have HGW := Lib.hid hg; have HMK := Lib.hid hmk; have HB1 := Lib.hid hb1; clear hg hmk hb1)
  have hh := HGW.out.hist
  have hE : ∀ e ∈ l, EFit e := fun e he => (HGW.out.fit e he).1
  have CU := Lib.hid (scut_any w1 hh hE (fun e he => (HMK.out e he).on HB1.out) (by omega) t)
  unfold CutOut at CU
  have OR := Lib.hid (fun X (h : Below w1.heap.size w1 X) => ord_any X (HM.out.on (HB1.out.trans (h.mono HB1.out.size))) (hh.below h) hE (by omega) (steps := 20000) (by omega))
  have CN := Lib.hid (fun X (h : Below w1.heap.size w1 X) => counts_any X (hh.below h) (by omega))
  unfold CntOut at CN
  have HH := Lib.hid hh
  have HO := Lib.hid (fun h => cut_order (t := t) (l := l) (s1 := 20000) (s2 := 2000000) h (by omega))
  obtain ⟨LA, LC, rfl, _, hla, _⟩ := own_arr hh.row
  have HLA := Lib.hid hla
  have HE := Lib.hid hE
  clear hh hla hE
  go_wp2_with (go_at_call 31; (with_reducible refine (CU.out).mono ?_); rintro x w2 ⟨V2, l', rfl, hg2, hce, hb2⟩; have HG2 := Lib.hid hg2; have HCE := Lib.hid hce; have HB2 := Lib.hid hb2; obtain ⟨LB, LD, rfl, _, hlb, _⟩ := own_arr hg2.row; have HLB := Lib.hid hlb; have hlen := cut_len hce; have HO2 := order_core hce 2000000; clear hg2 hce hb2 hlb)
  have OR2 := Lib.hid (fun X (h : Below w2.heap.size w2 X) => ord_any X (HM.out.on (HB1.out.trans ((HB2.out.trans (h.mono HB2.out.size)).mono HB1.out.size))) (HG2.out.hist.below h) HG2.out.fit (by rw [← hlen]; exact Nat.le_trans (cpos_le _ _ _) (by omega)) (steps := 2000000) (by omega))
  rw [← HO2] at HO
  have Hlen := Lib.hid hlen
  clear HO2 hlen
  generalize orderP l 20000 = P1 at *
  generalize orderP l' 2000000 = P2 at *
  obtain ⟨pe, po⟩ := P1
  obtain ⟨pf, pg⟩ := P2
  unfold OrderOut at OR OR2
  simp only [] at OR OR2 HO
  have hB2' : Below w2.heap.size w2 w2 := Below.refl _ _
  go_loopw [6, 7, 8, 9, 10] (fun v6 v7 v8 v9 v wr => CutsR t l w2 v6 v7 v8 v9 v wr) (fun _ _ _ _ v _ => l.length - (intOf v).toNat)
  case atStart => unfold CutsR; exact ⟨0, 0, 0, 0, 0, Nat.zero_le _, rfl, rfl, rfl, rfl, rfl, Nat.le_refl _, Nat.le_refl _, Nat.le_refl _, Nat.le_refl _, Lib.hid rfl, Lib.hid rfl, Lib.hid rfl, Lib.hid rfl, hB2'⟩
  case round =>
    unfold CutsR at hrel
    obtain ⟨k, p, a, b, d, hk, rfl, rfl, rfl, rfl, rfl, hp, ha, hb, hd, HP0, HA0, HB0, HD0, hB⟩ := hrel
    clear hB2'
    by_cases hlt : k < l.length
    · have kl : (k : Int) < l.length := by omega
      obtain ⟨e, he⟩ : ∃ e, l[k]? = some e := ⟨_, List.getElem?_eq_getElem hlt⟩
      obtain ⟨b1, o1, rfl, hb1, hcell⟩ := HLA.out.2 (by omega)
      have hBq := HB2.out.trans (hB.mono HB2.out.size)
      obtain ⟨c0, c1, c2', c3', c4, c5, c6, c7, c8, c9⟩ := ev_cells (fun i u h => (hBq.cell (p := ⟨b1, o1 + i, none⟩) hb1).trans (hcell i u h)) he
      have N0 := Lib.hid (cnt_snoc 0 he)
      have N1 := Lib.hid (cnt_snoc 1 he)
      have N2 := Lib.hid (cnt_snoc 2 he)
      have NP := Lib.hid (cpos_snoc (t := t) he)
      have HEL := Lib.hid (fun ha => cut_elem HCE.out he ha)
      have HME := Lib.hid (List.mem_of_getElem? he)
      have hB3 : Below w2.heap.size w2 (wr.alloc (.cells #[Value.int .i64 e.asked, .int .i64 e.told, .int .i64 e.kind, .int .i64 e.gen, .slice e.fA e.files.length e.fC, .int .i64 e.err, .int .i64 e.agen, .int .i64 e.floor, .slice e.aA e.afiles.length e.aC, .slice e.mA e.mN e.mC] 54)) := hB.alloc hB.size _
      have HEB := Lib.hid (Blk.new wr 54 #[Value.int .i64 e.asked, .int .i64 e.told, .int .i64 e.kind, .int .i64 e.gen, .slice e.fA e.files.length e.fC, .int .i64 e.err, .int .i64 e.agen, .int .i64 e.floor, .slice e.aA e.afiles.length e.aC, .slice e.mA e.mN e.mC])
      have OE := Lib.hid (fun W => open_any e.err W)
      have OPN := Lib.hid (fun W => open22 e W)
      clear hcell he hBq
      go_wp2
      go_cut [45] from 24 to 128 (fun v wx => CutsB (wr.alloc (.cells #[Value.int .i64 e.asked, .int .i64 e.told, .int .i64 e.kind, .int .i64 e.gen, .slice e.fA e.files.length e.fC, .int .i64 e.err, .int .i64 e.agen, .int .i64 e.floor, .slice e.aA e.afiles.length e.aC, .slice e.mA e.mN e.mC] 54)) v wx)
      case first =>
        obtain ⟨t0, t1, t2, t3, t4, t5, t6, t7, t8, t9⟩ := evx HEB.out
        have t0' := cell_cls t0
        have t1' := cell_cls t1
        have t2' := cell_cls t2
        have t3' := cell_cls t3
        have t4' := cell_cls t4
        have t5' := cell_cls t5
        have t6' := cell_cls t6
        have t7' := cell_cls t7
        have t8' := cell_cls t8
        have t9' := cell_cls t9
        clear t0 t1 t2 t3 t4 t5 t6 t7 t8 t9 c0 c1 c2' c3' c4 c5 c6 c7 c8 c9
        by_cases h0 : e.told = 0
        · have g0 : (e.told == 0) = true := by rw [h0]; rfl
          have OPB : Hid (∀ p : Cls (wr.alloc (.cells #[Value.int .i64 e.asked, .int .i64 e.told, .int .i64 e.kind, .int .i64 e.gen, .slice e.fA e.files.length e.fC, .int .i64 e.err, .int .i64 e.agen, .int .i64 e.floor, .slice e.aA e.afiles.length e.aC, .slice e.mA e.mN e.mC] 54)), Calls Tryd.prog 24 #[.agg #[.int .i64 e.asked, .int .i64 e.told, .int .i64 e.kind, .int .i64 e.gen, .slice e.fA e.files.length e.fC, .int .i64 e.err, .int .i64 e.agen, .int .i64 e.floor, .slice e.aA e.afiles.length e.aC, .slice e.mA e.mN e.mC]] p.n fun x w' => x = .returned (.bool true) ∧ Below p.n.heap.size p.n w') := Lib.hid fun p => by
            have h := OPN.out p.n
            rw [show openE e = true by unfold openE; rw [g0]; rfl] at h
            exact h
          clear h0
          (refine wp_region_cls (by kernel_rfl) (by kernel_rfl) ?_; (repeat (go_big_quiet_step ((first | (go_at_call 24; with_reducible exact cls_call (OPB.out _)) | (go_at_call 32; with_reducible exact cls_call (OB.out _)) | (fail))))); refine wpQuiet_nil ?_; intro w9 hw'; obtain ⟨⟨w9', hb9⟩, hw''⟩ := hw'; subst hw''; go_wp2_with fail; go_meet; unfold CutsB; exact ⟨rfl, hb9⟩)
        · have g0 : (e.told == 0) = false := by rw [beq_eq_false_iff_ne]; exact h0
          have hoe : openE e = openN e.err := by unfold openE; rw [g0]; rfl
          obtain ⟨q, hq⟩ : ∃ q, q = openN e.err := ⟨_, rfl⟩
          have OPB : Hid (∀ p : Cls (wr.alloc (.cells #[Value.int .i64 e.asked, .int .i64 e.told, .int .i64 e.kind, .int .i64 e.gen, .slice e.fA e.files.length e.fC, .int .i64 e.err, .int .i64 e.agen, .int .i64 e.floor, .slice e.aA e.afiles.length e.aC, .slice e.mA e.mN e.mC] 54)), Calls Tryd.prog 24 #[.agg #[.int .i64 e.asked, .int .i64 e.told, .int .i64 e.kind, .int .i64 e.gen, .slice e.fA e.files.length e.fC, .int .i64 e.err, .int .i64 e.agen, .int .i64 e.floor, .slice e.aA e.afiles.length e.aC, .slice e.mA e.mN e.mC]] p.n fun x w' => x = .returned (.bool q) ∧ Below p.n.heap.size p.n w') := Lib.hid fun p => by
            have h := OPN.out p.n
            rw [hoe, ← hq] at h
            exact h
          have OB : Hid (∀ p : Cls (wr.alloc (.cells #[Value.int .i64 e.asked, .int .i64 e.told, .int .i64 e.kind, .int .i64 e.gen, .slice e.fA e.files.length e.fC, .int .i64 e.err, .int .i64 e.agen, .int .i64 e.floor, .slice e.aA e.afiles.length e.aC, .slice e.mA e.mN e.mC] 54)), Calls Tryd.prog 32 #[.int .i64 e.err] p.n fun x w' => x = .returned (.bool q) ∧ Below p.n.heap.size p.n w') := Lib.hid fun p => (OE.out p.n).mono fun x w' h => ⟨by rw [hq]; exact h.1, by rw [h.2]; exact Below.refl _ _⟩
          clear h0 hoe hq
          cases q with
          | true => (refine wp_region_cls (by kernel_rfl) (by kernel_rfl) ?_; (repeat (go_big_quiet_step ((first | (go_at_call 24; with_reducible exact cls_call (OPB.out _)) | (go_at_call 32; with_reducible exact cls_call (OB.out _)) | (fail))))); refine wpQuiet_nil ?_; intro w9 hw'; obtain ⟨⟨w9', hb9⟩, hw''⟩ := hw'; subst hw''; go_wp2_with fail; go_meet; unfold CutsB; exact ⟨rfl, hb9⟩)
          | false => (refine wp_region_cls (by kernel_rfl) (by kernel_rfl) ?_; (repeat (go_big_quiet_step ((first | (go_at_call 24; with_reducible exact cls_call (OPB.out _)) | (go_at_call 32; with_reducible exact cls_call (OB.out _)) | (fail))))); refine wpQuiet_nil ?_; intro w9 hw'; obtain ⟨⟨w9', hb9⟩, hw''⟩ := hw'; subst hw''; go_wp2_with fail; go_meet; unfold CutsB; exact ⟨rfl, hb9⟩)
      case rest =>
        unfold CutsB at hcut
        obtain ⟨rfl, hbx⟩ := hcut
        have HEB4 := HEB.out.below hbx HEB.out.lt
        obtain ⟨t0, t1, t2, t3, t4, t5, t6, t7, t8, t9⟩ := evx HEB4
        have HBX := Lib.hid (below_on hB3 hbx)
        have HEBX := Lib.hid HEB4
        clear HEB4 hbx hB3
        obtain ⟨q, hq⟩ : ∃ q, q = openE e := ⟨_, rfl⟩
        rw [← hq] at OPN
        have HQ := Lib.hid hq
        clear hq
        go_upto_if 47 with (go_at_call 24; (with_reducible refine (OPN.out _).mono ?_); rintro x w4 ⟨rfl, hb4⟩; have HB4 := Lib.hid (below_on HBX.out hb4); have HEB5 := Lib.hid (HEBX.out.below hb4 HEBX.out.lt); clear t0 t1 t2 t3 t4 t5 t6 t7 t8 t9; obtain ⟨t0, t1, t2, t3, t4, t5, t6, t7, t8, t9⟩ := evx HEB5.out; clear hb4)
        go_cut [7, 8, 9] from 24 to 128 (fun v7 v8 v9 wx => wx = w4 ∧ CutsC l (k + 1) v7 v8 v9)
        case first =>
          cases q with
          | true =>
            have HK : Hid (kindE e = 2) := Lib.hid (by unfold kindE; rw [← HQ.out]; rfl)
            (go_wp2_with fail; go_meet; unfold CutsC; exact ⟨rfl, a + 0, b + 0, d + 1, by go_num, by go_num, by go_num, by omega, by omega, by omega, Lib.hid (by rw [N0.out, HK.out, HA0.out]; rfl), Lib.hid (by rw [N1.out, HK.out, HB0.out]; rfl), Lib.hid (by rw [N2.out, HK.out, HD0.out]; rfl)⟩)
          | false =>
            by_cases he0 : e.err = 0
            · have g5 : (e.err == 0) = true := by rw [he0]; rfl
              have HK : Hid (kindE e = 0) := Lib.hid (by unfold kindE; rw [← HQ.out, if_neg (by simp), if_pos he0])
              clear he0
              (go_wp2_with fail; go_meet; unfold CutsC; exact ⟨rfl, a + 1, b + 0, d + 0, by go_num, by go_num, by go_num, by omega, by omega, by omega, Lib.hid (by rw [N0.out, HK.out, HA0.out]; rfl), Lib.hid (by rw [N1.out, HK.out, HB0.out]; rfl), Lib.hid (by rw [N2.out, HK.out, HD0.out]; rfl)⟩)
            · have g5 : (e.err == 0) = false := by rw [beq_eq_false_iff_ne]; exact he0
              have HK : Hid (kindE e = 1) := Lib.hid (by unfold kindE; rw [← HQ.out, if_neg (by simp), if_neg he0])
              clear he0
              (go_wp2_with fail; go_meet; unfold CutsC; exact ⟨rfl, a + 0, b + 1, d + 0, by go_num, by go_num, by go_num, by omega, by omega, by omega, Lib.hid (by rw [N0.out, HK.out, HA0.out]; rfl), Lib.hid (by rw [N1.out, HK.out, HB0.out]; rfl), Lib.hid (by rw [N2.out, HK.out, HD0.out]; rfl)⟩)
        case rest =>
          unfold CutsC at hcut
          obtain ⟨rfl, a', b', d', rfl, rfl, rfl, ha', hb', hd', HA1, HB1', HD1⟩ := hcut
          clear c0 c1 c2' c3' c4 c5 c6 c7 c8 c9
          by_cases hask : t < e.asked
          · have HNP : Hid (p = cpos t l (k + 1)) := Lib.hid (by rw [NP.out, if_neg (by omega), HP0.out]; rfl)
            have dA : decide (t < e.asked) = true := decide_eq_true hask
            go_wp2
            go_roundw
            case rel => unfold CutsR; exact ⟨k + 1, p, a', b', d', by omega, rfl, rfl, rfl, rfl, by go_num, by omega, ha', hb', hd', HNP, HA1, HB1', HD1, HB4.out⟩
            case measure => simp [intOf] <;> omega
          · have HNP : Hid (p + 1 = cpos t l (k + 1)) := Lib.hid (by rw [NP.out, if_pos (by omega), HP0.out])
            have dA : decide (t < e.asked) = false := decide_eq_false hask
            have nA : (e.asked != e.asked) = false := by simp
            obtain ⟨c', hc', hcc⟩ := HEL.out (by omega)
            rw [← HP0.out] at hc'
            have hpl : p < l'.length := by
              rcases Nat.lt_or_ge p l'.length with h | h
              · exact h
              · rw [List.getElem?_eq_none h] at hc'; cases hc'
            have dP : decide ((l'.length : Int) ≤ p) = false := decide_eq_false (by omega)
            have dP' : decide (l'.length ≤ p) = false := decide_eq_false (by omega)
            obtain ⟨b2, o2, rfl, hb2', hcell2⟩ := HLB.out.2 (by omega)
            have HAN := Lib.hid (HG2.out.an c' (List.mem_of_getElem? hc'))
            have HDC := Lib.hid (fun X (h : Below w2.heap.size w2 X) => ev_cells (fun i u h' => (h.cell (p := ⟨b2, o2 + i, none⟩) hb2').trans (hcell2 i u h')) hc')
            have HAX := Lib.hid (HH.out.an e HME.out)
            clear hc' hcell2 hask HEL OE OPN HEB HEBX
            obtain ⟨ca, ct, ck, cg, cfA, cfC, cfs, cer, cag, cfl, caA, caC, cafs, cmA, cmN, cmC⟩ := c'
            simp only [] at HAN HDC
            by_cases htold : t < e.told
            · have hct : coreE (cutE t e) = ⟨e.asked, 0, e.kind, e.gen, none, 0, e.files, 0, 0, 0, none, 0, [], none, 0, 0⟩ := by unfold cutE; rw [if_pos htold]; rfl
              rw [hct] at hcc
              simp only [coreE, EvD.mk.injEq, true_and, and_true] at hcc
              obtain ⟨rfl, rfl, rfl, rfl, rfl, rfl, rfl, rfl, hfs⟩ := hcc
              have ANB : Hid (∀ X, Below w2.heap.size w2 X → Calls Tryd.prog 17 #[.agg #[.int .i64 0, .int .i64 0, .int .i64 0, .slice caA cafs.length caC, .slice cmA cmN cmC], .agg #[.int .i64 0, .int .i64 0, .int .i64 0, .slice none 0 0, .slice none 0 0]] X fun x w' => x = .returned (.bool true) ∧ Below X.heap.size X w') := Lib.hid fun X h =>
                (answers_any ⟨0, 0, 0, cafs⟩ ⟨0, 0, 0, []⟩ caA none caC 0 (.slice cmA cmN cmC) (.slice none 0 0) X (by rw [hfs]; simp) (by simp) (own_slice (own_below HAN.out h)) (Arr.nil _ _ _ _) rfl rfl).mono fun x w' ⟨b, h1, h2, h3⟩ => ⟨by rw [h1, h2.2 (by rw [hfs])], h3⟩
              have dT : decide (t < e.told) = true := decide_eq_true htold
              have dL : decide (e.told ≤ t) = false := decide_eq_false (by omega)
              obtain ⟨d0, d1, d2, d3, d4, d5, d6, d7, d8, d9⟩ := HDC.out wc HB4.out
              clear hct hfs htold
              (go_wp2; have ANC : Hid (∀ p : Cls wc, Calls Tryd.prog 17 _ p.n fun x w' => x = .returned (.bool true) ∧ Below p.n.heap.size p.n w') := Lib.hid fun p => ANB.out p.n (below_on HB4.out p.h); have t0' := cell_cls t0; have t1' := cell_cls t1; have t5' := cell_cls t5; have t6' := cell_cls t6; have t7' := cell_cls t7; have t8' := cell_cls t8; have t9' := cell_cls t9; have d0' := cell_cls d0; have d1' := cell_cls d1; have d5' := cell_cls d5; have d6' := cell_cls d6; have d7' := cell_cls d7; have d8' := cell_cls d8; have d9' := cell_cls d9; clear t0 t1 t2 t3 t4 t5 t6 t7 t8 t9 d0 d1 d2 d3 d4 d5 d6 d7 d8 d9; refine wp_region_cls (by kernel_rfl) (by kernel_rfl) ?_; (simp only [List.append]); (go_big_quiet_step ((first | (go_at_call 17; with_reducible exact cls_call (ANC.out _)) | (fail)))); (repeat (go_big_quiet_step ((first | (go_at_call 17; with_reducible exact cls_call (ANC.out _)) | (fail))))); refine wpQuiet_nil ?_; intro w9 hw'; obtain ⟨⟨w9', hb9⟩, hw''⟩ := hw'; subst hw''; go_wp2)
              (go_roundw; (case rel => unfold CutsR; exact ⟨k + 1, p + 1, a', b', d', by omega, by go_num, rfl, rfl, rfl, by go_num, by omega, ha', hb', hd', HNP, HA1, HB1', HD1, (below_on HB4.out hb9)⟩); (case measure => simp [intOf] <;> omega))
            · have hct : coreE (cutE t e) = ⟨e.asked, e.told, e.kind, e.gen, none, 0, e.files, e.err, e.agen, e.floor, none, 0, e.afiles, none, 0, 0⟩ := by unfold cutE; rw [if_neg htold]; rfl
              rw [hct] at hcc
              simp only [coreE, EvD.mk.injEq, true_and, and_true] at hcc
              obtain ⟨rfl, rfl, rfl, rfl, rfl, rfl, rfl, rfl, rfl⟩ := hcc
              have hfl := (HE.out e HME.out).2.2
              have ANB : Hid (∀ X, Below w2.heap.size w2 X → Calls Tryd.prog 17 #[.agg #[.int .i64 e.err, .int .i64 e.agen, .int .i64 e.floor, .slice caA e.afiles.length caC, .slice cmA cmN cmC], .agg #[.int .i64 e.err, .int .i64 e.agen, .int .i64 e.floor, .slice e.aA e.afiles.length e.aC, .slice e.mA e.mN e.mC]] X fun x w' => x = .returned (.bool true) ∧ Below X.heap.size X w') := Lib.hid fun X h =>
                (answers_any ⟨e.err, e.agen, e.floor, e.afiles⟩ ⟨e.err, e.agen, e.floor, e.afiles⟩ caA e.aA caC e.aC (.slice cmA cmN cmC) (.slice e.mA e.mN e.mC) X (Nat.le_trans hfl (by omega)) (Nat.le_trans hfl (by omega)) (own_slice (own_below HAN.out h)) (own_slice (own_below HAX.out (HB2.out.trans (h.mono HB2.out.size)))) rfl rfl).mono fun x w' ⟨b, h1, h2, h3⟩ => ⟨by rw [h1, h2.2 rfl], h3⟩
              have dT : decide (t < e.told) = false := decide_eq_false htold
              have dL : decide (e.told ≤ t) = true := decide_eq_true (by omega)
              have nT : (e.told != e.told) = false := by simp
              obtain ⟨d0, d1, d2, d3, d4, d5, d6, d7, d8, d9⟩ := HDC.out wc HB4.out
              clear hct htold hfl
              (go_wp2; have ANC : Hid (∀ p : Cls wc, Calls Tryd.prog 17 _ p.n fun x w' => x = .returned (.bool true) ∧ Below p.n.heap.size p.n w') := Lib.hid fun p => ANB.out p.n (below_on HB4.out p.h); have t0' := cell_cls t0; have t1' := cell_cls t1; have t5' := cell_cls t5; have t6' := cell_cls t6; have t7' := cell_cls t7; have t8' := cell_cls t8; have t9' := cell_cls t9; have d0' := cell_cls d0; have d1' := cell_cls d1; have d5' := cell_cls d5; have d6' := cell_cls d6; have d7' := cell_cls d7; have d8' := cell_cls d8; have d9' := cell_cls d9; clear t0 t1 t2 t3 t4 t5 t6 t7 t8 t9 d0 d1 d2 d3 d4 d5 d6 d7 d8 d9; refine wp_region_cls (by kernel_rfl) (by kernel_rfl) ?_; (simp only [List.append]); (go_big_quiet_step ((first | (go_at_call 17; with_reducible exact cls_call (ANC.out _)) | (fail)))); (repeat (go_big_quiet_step ((first | (go_at_call 17; with_reducible exact cls_call (ANC.out _)) | (fail))))); refine wpQuiet_nil ?_; intro w9 hw'; obtain ⟨⟨w9', hb9⟩, hw''⟩ := hw'; subst hw''; go_wp2)
              (go_roundw; (case rel => unfold CutsR; exact ⟨k + 1, p + 1, a', b', d', by omega, by go_num, rfl, rfl, rfl, by go_num, by omega, ha', hb', hd', HNP, HA1, HB1', HD1, (below_on HB4.out hb9)⟩); (case measure => simp [intOf] <;> omega))
    · have kl : ¬ (k : Int) < l.length := by omega
      have hkl : k = l.length := by omega
      have e0 : p = l'.length := by rw [HP0.out, hkl, Hlen.out]
      have ea := HA0.out
      have eb := HB0.out
      have ed := HD0.out
      rw [hkl, List.take_length] at ea eb ed
      have cn := CN.out wr (HB2.out.trans (hB.mono HB2.out.size))
      rw [← ea, ← eb, ← ed] at cn
      have CNX := Lib.hid cn
      clear cn HP0 HA0 HB0 HD0 ea eb ed hkl CN
      subst e0
      have nP : ((l'.length : Int) != l'.length) = false := by simp
      have n1 : ((a : Int) != a) = false := by simp
      have n2 : ((b : Int) != b) = false := by simp
      have n3 : ((d : Int) != d) = false := by simp
      clear hp ha hb hd hk hlt
      by_cases h0 : pe = 0
      · rcases HO.out h0 with h7 | h7
        · subst h0 h7
          (go_wp2_with (first | (go_at_call 33; (with_reducible refine (CNX.out).mono ?_); rintro x w3 ⟨rfl, hb3⟩; have HB3 := Lib.hid (below_on hB hb3); clear hb3) | (go_at_call 20; (with_reducible refine (OR.out _ (HB2.out.trans (HB3.out.mono HB2.out.size))).mono ?_); rintro x w5 ⟨U, rfl, _, hb5⟩; have HB5 := Lib.hid (below_on HB3.out hb5); clear hb5) | (go_at_call 20; (with_reducible refine (OR2.out _ HB5.out).mono ?_); rintro x w6 ⟨U2, rfl, _, hb6⟩; have hBW := HB1.out.trans ((HB2.out.trans ((below_on HB5.out hb6).mono HB2.out.size)).mono HB1.out.size); clear hb6) | (go_at_call 18; (with_reducible refine (AW.out _ hBW).mono ?_); rintro x w9 ⟨rfl, hb9⟩; have hB9 := below_on hBW hb9) | (fail))); go_ret; exact ⟨rfl, hB9⟩
        · subst h0 h7
          (go_wp2_with (first | (go_at_call 33; (with_reducible refine (CNX.out).mono ?_); rintro x w3 ⟨rfl, hb3⟩; have HB3 := Lib.hid (below_on hB hb3); clear hb3) | (go_at_call 20; (with_reducible refine (OR.out _ (HB2.out.trans (HB3.out.mono HB2.out.size))).mono ?_); rintro x w5 ⟨U, rfl, _, hb5⟩; have HB5 := Lib.hid (below_on HB3.out hb5); clear hb5) | (go_at_call 20; (with_reducible refine (OR2.out _ HB5.out).mono ?_); rintro x w6 ⟨U2, rfl, _, hb6⟩; have hBW := HB1.out.trans ((HB2.out.trans ((below_on HB5.out hb6).mono HB2.out.size)).mono HB1.out.size); clear hb6) | (go_at_call 18; (with_reducible refine (AW.out _ hBW).mono ?_); rintro x w9 ⟨rfl, hb9⟩; have hB9 := below_on hBW hb9) | (fail))); go_ret; exact ⟨rfl, hB9⟩
      · have n0 : (pe != 0) = true := by simp [h0]
        clear h0
        (go_wp2_with (first | (go_at_call 33; (with_reducible refine (CNX.out).mono ?_); rintro x w3 ⟨rfl, hb3⟩; have HB3 := Lib.hid (below_on hB hb3); clear hb3) | (go_at_call 20; (with_reducible refine (OR.out _ (HB2.out.trans (HB3.out.mono HB2.out.size))).mono ?_); rintro x w5 ⟨U, rfl, _, hb5⟩; have HB5 := Lib.hid (below_on HB3.out hb5); clear hb5) | (go_at_call 20; (with_reducible refine (OR2.out _ HB5.out).mono ?_); rintro x w6 ⟨U2, rfl, _, hb6⟩; have hBW := HB1.out.trans ((HB2.out.trans ((below_on HB5.out hb6).mono HB2.out.size)).mono HB1.out.size); clear hb6) | (go_at_call 18; (with_reducible refine (AW.out _ hBW).mono ?_); rintro x w9 ⟨rfl, hb9⟩; have hB9 := below_on hBW hb9) | (fail))); go_ret; exact ⟨rfl, hB9⟩
end Go.Proofs.YtakdngcgjahafaaDoor
