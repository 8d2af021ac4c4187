/- The walk through SpeechRestores. -/
import Derived.Test.YtakdngcgjahafaaDoorSp32
import Derived.Test.YtakdngcgjahafaaDoorSp27
import Derived.Test.YtakdngcgjahafaaDoorSpG
import Derived.Test.YtakdngcgjahafaaDoorCls
import Derived.IntWalk
namespace Go.Proofs.YtakdngcgjahafaaDoor
open Go.RowKit
set_option linter.unusedVariables false

set_option maxHeartbeats 8000000 in
set_option maxRecDepth 100000 in
theorem law_restores (A : Option Addr) (c : Nat) (l0 : List EvD) (w : World) (hz : l0.length ≤ 9223372036854775807) (ha : Arr w w.heap.size 10 A l0.length (ecells l0)) (hi : ∀ e ∈ l0, EvIn w e) (hm : Ml w) :
    Calls Tryd.prog 7 #[.slice A l0.length c] w fun e w' => e = .returned (.bool true) ∧ Below w.heap.size w w' := by
  have AW := Lib.hid (fun X (h : Below w.heap.size w X) => awake22 X (hm.on h))
  have SH0 := short_any A c l0 8 w hz (by omega) ha hi
  rw [show ((8 : Nat) : Int) = 8 from rfl] at SH0
  have SH := Lib.hid SH0
  clear SH0
  unfold ShortOut at SH
  have HM := Lib.hid hm
  generalize l0.length = n0 at *
  clear ha hi hm hz
  go_enter Tryd.func7, Tryd.ntmps7
  go_wp2_with (go_at_call 19; (with_reducible refine (SH.out).mono ?_); rintro x w1 ⟨V, l, rfl, hg, hl8, hb1⟩; have HGW := Lib.hid hg; have HB1 := Lib.hid hb1; clear hg hb1)
  have hh := HGW.out.hist
  have hE : ∀ e ∈ l, EFit e := fun e he => (HGW.out.fit e he).1
  obtain ⟨LA, LC, rfl, _, hla, _⟩ := own_arr hh.row
  have OR := Lib.hid (ord_any w1 (HM.out.on HB1.out) hh hE (by omega) (steps := 200000) (by omega))
  have HO := Lib.hid (fun h => rest_all (l := l) (steps := 200000) h)
  have HH := Lib.hid hh
  have HLA := Lib.hid hla
  generalize orderP l 200000 = P at *
  obtain ⟨pe, po⟩ := P
  unfold OrderOut at OR
  simp only [] at OR HO
  clear hh hla
  by_cases h0 : pe = 0
  · subst h0
    have HR := Lib.hid (HO.out rfl)
    clear HO
    go_wp2_with (go_at_call 20; (with_reducible refine (OR.out).mono ?_); rintro x w2 ⟨U, rfl, ho, hb2⟩; clear ho)
    go_loopw [5] (fun v wr => ∃ k : Nat, k ≤ l.length ∧ v = .int .i64 k ∧ Below w1.heap.size w1 wr) (fun v _ => l.length - (intOf v).toNat)
    case atStart => exact ⟨0, Nat.zero_le _, rfl, hb2⟩
    case round =>
      obtain ⟨k, hk, rfl, hB⟩ := hrel
      by_cases hlt : k < l.length
      · obtain ⟨e, he⟩ : ∃ e, l[k]? = some e := ⟨_, List.getElem?_eq_getElem hlt⟩
        have kl : (k : Int) < l.length := by omega
        have hie := HGW.out.fit e (List.mem_of_getElem? he)
        obtain ⟨b1, o1, rfl, hb1', hcell⟩ := HLA.out.2 (by omega)
        obtain ⟨c0, c1, c2, c3, c4, c5, c6, c7, c8, c9⟩ := ev_cells (fun i u h => (hB.cell (p := ⟨b1, o1 + i, none⟩) hb1').trans (hcell i u h)) he
        have heb := Blk.new wr 54 #[Value.int .i64 e.asked, .int .i64 e.told, .int .i64 e.kind, .int .i64 e.gen, .slice e.fA e.files.length e.fC, .int .i64 e.err, .int .i64 e.agen, .int .i64 e.floor, .slice e.aA e.afiles.length e.aC, .slice e.mA e.mN e.mC]
        have HEB := Lib.hid heb
        have hB3 : Below w1.heap.size w1 (wr.alloc (.cells #[Value.int .i64 e.asked, .int .i64 e.told, .int .i64 e.kind, .int .i64 e.gen, .slice e.fA e.files.length e.fC, .int .i64 e.err, .int .i64 e.agen, .int .i64 e.floor, .slice e.aA e.afiles.length e.aC, .slice e.mA e.mN e.mC] 54)) := hB.alloc hB.size _
        have OPN := Lib.hid (fun W => open22 e W)
        have HIE := Lib.hid hie
        have HME := Lib.hid (List.mem_of_getElem? he)
        clear hcell he heb hie
        by_cases g2 : e.kind = 2
        · have n2 : (e.kind != 2) = false := by simp [g2]
          cases hO : openE e with
          | true =>
            rw [hO] at OPN
            clear hO g2
            go_wp2_with (go_at_call 24; (with_reducible refine (OPN.out _).mono ?_); rintro x w4 ⟨rfl, hb4⟩; have hB4 := below_on hB3 hb4; obtain ⟨t0, t1, t2, t3, t4, t5, t6, t7, t8, t9⟩ := evx (HEB.out.below hb4 HEB.out.lt))
            (go_roundw; (case rel => exact ⟨k + 1, by omega, by go_num, hB4⟩); (case measure => simp [intOf] <;> omega))
          | false =>
            rw [hO] at OPN
            have HOO := Lib.hid hO
            clear hO
            by_cases g5 : e.err = 0
            · have n5 : (e.err != 0) = false := by simp [g5]
              by_cases g6 : 1152921504606846976 < e.told
              · clear g2 g5
                go_wp2_with (go_at_call 24; (with_reducible refine (OPN.out _).mono ?_); rintro x w4 ⟨rfl, hb4⟩; have hB4 := below_on hB3 hb4; obtain ⟨t0, t1, t2, t3, t4, t5, t6, t7, t8, t9⟩ := evx (HEB.out.below hb4 HEB.out.lt))
                (go_roundw; (case rel => exact ⟨k + 1, by omega, by go_num, hB4⟩); (case measure => simp [intOf] <;> omega))
              · obtain ⟨r1, r2, x, hx, r3, r4, r5, r6⟩ := HR.out e HME.out g2 HOO.out g5
                have hsb : Hid ((ofE e.afiles == 0 && subB e.afiles (e.told + 1) l) = true) := Lib.hid (by rw [r2, sub_of ⟨x, hx, r3, by omega, r5, r6.symm⟩]; rfl)
                obtain ⟨ak, hak⟩ : ∃ ak, ak = ackP l e.asked (-1) := ⟨_, rfl⟩
                rw [← hak] at r1
                have d1 : decide (e.agen < ak) = false := decide_eq_false (by omega)
                have HAK := Lib.hid hak
                have HT1 : Hid (IntKind.i64.wrap (e.told + 1) = e.told + 1) := Lib.hid (IntWalk.i64_in _ (by have := HIE.out.2.2.2.1; unfold Fit64 at this; omega))
                clear g2 g5 r2 r3 r4 r5 r6 hx hak
                go_wp2_with (go_at_call 24; (with_reducible refine (OPN.out _).mono ?_); rintro x w4 ⟨rfl, hb4⟩; have hB4 := below_on hB3 hb4; obtain ⟨t0, t1, t2, t3, t4, t5, t6, t7, t8, t9⟩ := evx (HEB.out.below hb4 HEB.out.lt))
                have hB5 : ∀ p : Cls w4, Below w1.heap.size w1 p.n := fun p => hB4.trans (p.h.mono hB4.size)
                have ACB : Hid (∀ p : Cls w4, Calls Tryd.prog 25 #[.slice (some ⟨b1, o1, none⟩) l.length LC, .int .i64 e.asked] p.n fun x w' => x = .returned (.int .i64 ak) ∧ Below p.n.heap.size p.n w') := Lib.hid fun p => by
                  rw [HAK.out]; exact acked_ref _ LC l e.asked p.n (by omega) ((HLA.out.below (hB5 p)).more (hB5 p).size)
                have SBB : Hid (∀ p : Cls w4, Calls Tryd.prog 26 #[.slice (some ⟨b1, o1, none⟩) l.length LC, .slice e.aA e.afiles.length e.aC, .int .i64 (e.told + 1)] p.n fun x w' => x = .returned (.bool true) ∧ Below p.n.heap.size p.n w') := Lib.hid fun p => by
                  have h := subm_any p.n (HH.out.below (hB5 p)) hE (by omega) e.aA e.aC e.afiles (Nat.le_trans HIE.out.1.2.2 (by omega)) HIE.out.2.1 (own_slice (own_below (HH.out.an e HME.out) (hB5 p))) (e.told + 1) (HM.out.on (HB1.out.trans ((hB5 p).mono HB1.out.size)))
                  rw [hsb.out] at h
                  exact h
                have t0' := cell_cls t0
                have t1' := cell_cls t1
                have t6' := cell_cls t6
                have t8' := cell_cls t8
                have wt := HT1.out
                clear t0 t1 t2 t3 t4 t5 t6 t7 t8 t9 hB5 hE
                refine wp_region_cls (by kernel_rfl) (by kernel_rfl) ?_
                repeat (go_big_quiet_step ((first | (go_at_call 25; with_reducible exact cls_call (ACB.out _)) | (go_at_call 26; with_reducible exact cls_call (SBB.out _)) | (fail))))
                refine wpQuiet_nil ?_
                intro _ hw'
                obtain ⟨⟨w9, hb9⟩, hw''⟩ := hw'
                subst hw''
                clear wt
                have hB9 := hB4.trans (hb9.mono hB4.size)
                go_wp2
                (go_roundw; (case rel => exact ⟨k + 1, by omega, by go_num, hB9⟩); (case measure => simp [intOf] <;> omega))
            · have n5 : (e.err != 0) = true := by simp [g5]
              clear g2 g5
              go_wp2_with (go_at_call 24; (with_reducible refine (OPN.out _).mono ?_); rintro x w4 ⟨rfl, hb4⟩; have hB4 := below_on hB3 hb4; obtain ⟨t0, t1, t2, t3, t4, t5, t6, t7, t8, t9⟩ := evx (HEB.out.below hb4 HEB.out.lt))
              (go_roundw; (case rel => exact ⟨k + 1, by omega, by go_num, hB4⟩); (case measure => simp [intOf] <;> omega))
        · have n2 : (e.kind != 2) = true := by simp [g2]
          clear g2
          go_wp2
          (go_roundw; (case rel => exact ⟨k + 1, by omega, by go_num, hB3⟩); (case measure => simp [intOf] <;> omega))
      · have kl : ¬ (k : Int) < l.length := by omega
        have hBW := HB1.out.trans (hB.mono HB1.out.size)
        go_wp2_with (go_at_call 18; (with_reducible refine (AW.out _ hBW).mono ?_); rintro x w9 ⟨rfl, hb9⟩; have hB9 := below_on hBW hb9)
        go_ret
        exact ⟨rfl, hB9⟩
  · have n0 : (pe != 0) = true := by simp [h0]
    clear h0
    go_wp2_with (first | (go_at_call 20; (with_reducible refine (OR.out).mono ?_); rintro x w2 ⟨U, rfl, ho, hb2⟩; have hBW := HB1.out.trans (hb2.mono HB1.out.size); clear ho) | (go_at_call 18; (with_reducible refine (AW.out _ hBW).mono ?_); rintro x w9 ⟨rfl, hb9⟩; have hB9 := below_on hBW hb9) | (fail))
    go_ret
    exact ⟨rfl, hB9⟩
end Go.Proofs.YtakdngcgjahafaaDoor
