/- The walk through SpeechDoes. -/
import Derived.Test.YtakdngcgjahafaaDoorSpG
namespace Go.Proofs.YtakdngcgjahafaaDoor
open Go.RowKit
set_option linter.unusedVariables false

/-- The law's two logs. -/
structure DoesS (W : World) (A0 B0 : Nat) (g : LogD) (m : Nat) : Prop where
  good : GoodL g m
  two : ∃ V1 V2, Blk W A0 25 #[.int .i64 g.floor, V1] ∧ Blk W B0 27 #[.int .i64 g.floor, V2] ∧ W.ownsRow 0 9 1 V1 g.trees.length (g.trees.map Value.string) ∧ W.ownsRow 0 9 1 V2 g.trees.length (g.trees.map Value.string)
def DoesR (w : World) (n : Nat) (v : Value) (wr : World) : Prop := ∃ (k : Nat) (g : LogD), k ≤ n ∧ k ≤ 60 ∧ v = .int .i64 k ∧ Hid (DoesS wr w.heap.size (w.heap.size + 1) g k) ∧ Below w.heap.size w wr
set_option maxHeartbeats 4000000 in
set_option maxRecDepth 100000 in
theorem law_does (A : Option Addr) (c : Nat) (l : List InC) (w : World) (hz : l.length ≤ 9223372036854775807) (ha : Arr w w.heap.size 3 A l.length (ccells l)) (hi : ∀ e ∈ l, CIn w e) (hm : Ml w) :
    Calls Tryd.prog 3 #[.slice A l.length c] w fun e w' => e = .returned (.bool true) ∧ Below w.heap.size w w' := by
  have AW := Lib.hid (fun X (h : Below w.heap.size w X) => awake22 X (hm.on h))
  have HM := Lib.hid hm
  have HA := Lib.hid ha
  have HI := Lib.hid hi
  obtain ⟨n, hn⟩ : ∃ n, n = l.length := ⟨_, rfl⟩
  have Hn := Lib.hid hn
  rw [← hn] at HA hz ⊢
  clear ha hi hn hm
  have hB0 : Below w.heap.size w ((w.alloc (.cells #[Value.int .i64 0, .slice none 0 0] 25)).alloc (.cells #[Value.int .i64 0, .slice none 0 0] 27)) := ((Below.refl _ w).alloc (Nat.le_refl _) _).alloc (by simp) _
  have HS0 : Hid (DoesS ((w.alloc (.cells #[Value.int .i64 0, .slice none 0 0] 25)).alloc (.cells #[Value.int .i64 0, .slice none 0 0] 27)) w.heap.size (w.heap.size + 1) ⟨0, []⟩ 0) :=
    Lib.hid ⟨⟨by decide, by decide, by decide, by simp⟩, _, _, (Blk.new w _ _).alloc _, Blk.new' (by simp) _ _, World.ownsRow_nil _ _ _ _, World.ownsRow_nil _ _ _ _⟩
  go_enter Tryd.func3, Tryd.ntmps3
  go_wp2
  go_loopw [5] (fun v wr => DoesR w n v wr) (fun v _ => n - (intOf v).toNat)
  case atStart => exact ⟨0, ⟨0, []⟩, Nat.zero_le _, Nat.zero_le _, rfl, HS0, hB0⟩
  case round =>
    obtain ⟨k, g, hk, hk6, rfl, HS, hB⟩ := hrel
    by_cases hlt : k < n
    · have kl : (k : Int) < n := by omega
      by_cases hln : k < 60
      · have kn : (k : Int) < 60 := by omega
        obtain ⟨e, he⟩ : ∃ e, l[k]? = some e := ⟨_, List.getElem?_eq_getElem (by have := Hn.out; omega)⟩
        have hie := HI.out e (List.mem_of_getElem? he)
        obtain ⟨b1, o1, rfl, hb1, hcell⟩ := HA.out.2 (by omega)
        obtain ⟨c0, c1, c2⟩ := c_cells (fun i u h => (hB.cell (p := ⟨b1, o1 + i, none⟩) hb1).trans (hcell i u h)) he
        obtain ⟨hg, V1, V2, x1, x2, x3, x4⟩ := HS.out
        obtain ⟨B1, D1, rfl, _, _, _⟩ := own_arr x3
        obtain ⟨B2, D2, rfl, _, _, _⟩ := own_arr x4
        have FE := Lib.hid (few22 e.kind e.gen e.fA e.fC e.files wr hie.1.1 (fun f hf => (hie.1.2.1 f hf).1) ((hie.1.on hB).2.2))
        have hfo := few8_ok (l := e.files) fun f hf => (hie.1.2.1 f hf).1
        have hfl := few8_len e.files
        have DC := Lib.hid (fun X (h : Below wr.heap.size wr X) FA FC (hf : Arr X X.heap.size 3 FA (few8 e.files).length (fcells (few8 e.files))) => do_any g.floor e.kind e.gen (.slice B1 g.trees.length D1) g.trees FA FC (few8 e.files) X (fun s hs => Nat.le_trans (hg.s s hs) (by omega)) (Nat.le_trans hg.n (by omega)) hg.f0 hg.f1 (Nat.le_trans hfl (by omega)) hfo (own_below x3 h) hf (HM.out.on (hB.trans (h.mono hB.size))))
        have DD := Lib.hid (fun X (h : Below wr.heap.size wr X) FA FC (hf : Arr X X.heap.size 3 FA (few8 e.files).length (fcells (few8 e.files))) => dp_any g.floor e.kind e.gen (.slice B2 g.trees.length D2) g.trees FA FC (few8 e.files) X (fun s hs => Nat.le_trans (hg.s s hs) (by omega)) (Nat.le_trans hg.n (by omega)) hg.f0 hg.f1 (Nat.le_trans hfl (by omega)) hfo (own_below x4 h) hf (HM.out.on (hB.trans (h.mono hB.size))))
        have hgd := Lib.hid (do_good hg ⟨e.kind, e.gen, few8 e.files⟩)
        have hgg : (⟨g.floor, g.trees⟩ : LogD) = g := rfl
        rw [hgg] at DC DD
        generalize doP g ⟨e.kind, e.gen, few8 e.files⟩ = DR at *
        obtain ⟨⟨fl3, L3⟩, ⟨er3, ge3, fo3, F3⟩⟩ := DR
        unfold DoOut at DC DD
        unfold CallOut at FE
        simp only [] at DC DD
        obtain ⟨y0, y1, _, _⟩ := hcells x1
        obtain ⟨y2, y3, _, _⟩ := hcells x2
        have X1 := Lib.hid x1
        have X2 := Lib.hid x2
        have X3 := Lib.hid x3
        have X4 := Lib.hid x4
        have HB := Lib.hid hB
        clear hcell he hie hg x1 x2 x3 x4 hfo hfl hgg
        go_wp2_with (first
          | (go_at_call 13; (with_reducible refine (FE.out).mono ?_); rintro x w1 ⟨V7, rfl, hv1, hb1'⟩; obtain ⟨A1, C1, rfl, _, _, _⟩ := own_arr hv1; have hq1 := hb1'.alloc hb1'.size (.cells #[Value.int .i64 e.kind, .int .i64 e.gen, .slice A1 (few8 e.files).length C1] 30); have hkb := Blk.new w1 30 #[Value.int .i64 e.kind, .int .i64 e.gen, .slice A1 (few8 e.files).length C1]; obtain ⟨k0, k1, k2, _, _, _⟩ := tcells hkb; obtain ⟨p0, p1, _, _⟩ := hcells (X1.out.below hq1 X1.out.lt); have HQ1 := Lib.hid hq1; have HKB := Lib.hid hkb; have HV1 := Lib.hid (own_below hv1 ((Below.refl _ w1).alloc (Nat.le_refl _) (.cells #[Value.int .i64 e.kind, .int .i64 e.gen, .slice A1 (few8 e.files).length C1] 30))); clear hv1 hq1 hkb hb1' c0 c1 c2)
          | (go_at_call 14; (with_reducible refine (DC.out _ HQ1.out A1 C1 (own_slice HV1.out)).mono ?_); rintro x w3 ⟨V3, U3, rfl, hv3, hu3, hb3⟩; obtain ⟨A3, C3, rfl, _, _, _⟩ := own_arr hv3; obtain ⟨A4, C4, rfl, _, _, _⟩ := own_arr hu3; have hqc : Below w3.heap.size w3 ((w3.alloc (.cells #[Value.int .i64 fl3, .slice A3 L3.length C3] 25)).alloc (.cells #[Value.int .i64 er3, .int .i64 ge3, .int .i64 fo3, .slice A4 F3.length C4, .slice none 0 0] 34)) := ((Below.refl _ w3).alloc (Nat.le_refl _) _).alloc (by simp) _; have hq2 := below_on (below_on HQ1.out hb3) hqc; obtain ⟨k0', k1', k2', _, _, _⟩ := tcells ((HKB.out.below hb3 HKB.out.lt).below hqc (Nat.lt_of_lt_of_le HKB.out.lt hb3.size)); obtain ⟨p2, p3, _, _⟩ := hcells (X2.out.below hq2 X2.out.lt); have HQ2 := Lib.hid hq2; have HQC := Lib.hid (below_on hb3 hqc); have HV3 := Lib.hid (own_below hv3 hqc); have HU3 := Lib.hid (own_below hu3 hqc); have HLB := Lib.hid ((Blk.new w3 25 #[Value.int .i64 fl3, .slice A3 L3.length C3]).alloc (.cells #[Value.int .i64 er3, .int .i64 ge3, .int .i64 fo3, .slice A4 F3.length C4, .slice none 0 0] 34)); have HAB := Lib.hid (Blk.new' (w := w3.alloc (.cells #[Value.int .i64 fl3, .slice A3 L3.length C3] 25)) (g := w3.heap.size + 1) (by simp) 34 #[Value.int .i64 er3, .int .i64 ge3, .int .i64 fo3, .slice A4 F3.length C4, .slice none 0 0]); clear hv3 hu3 hq2 hqc hb3 k0 k1 k2 p0 p1)
          | (go_at_call 15; (with_reducible refine (DD.out _ HQ2.out A1 C1 (own_slice (own_below HV1.out HQC.out))).mono ?_); rintro x w4 ⟨V5, U5, rfl, hv5, hu5, hb4⟩; obtain ⟨A5, C5, rfl, _, _, _⟩ := own_arr hv5; obtain ⟨A6, C6, rfl, _, _, _⟩ := own_arr hu5; have hqc : Below w4.heap.size w4 ((w4.alloc (.cells #[Value.int .i64 fl3, .slice A5 L3.length C5] 27)).alloc (.cells #[Value.int .i64 er3, .int .i64 ge3, .int .i64 fo3, .slice A6 F3.length C6, .slice none 0 0] 34)) := ((Below.refl _ w4).alloc (Nat.le_refl _) _).alloc (by simp) _; have hqd := below_on hb4 hqc; have hq3 := below_on HQ2.out hqd; have HV5 := Lib.hid (own_below hv5 hqc); have HU5 := Lib.hid (own_below hu5 hqc); have HLC := Lib.hid ((Blk.new w4 27 #[Value.int .i64 fl3, .slice A5 L3.length C5]).alloc (.cells #[Value.int .i64 er3, .int .i64 ge3, .int .i64 fo3, .slice A6 F3.length C6, .slice none 0 0] 34)); have HAC := Lib.hid (Blk.new' (w := w4.alloc (.cells #[Value.int .i64 fl3, .slice A5 L3.length C5] 27)) (g := w4.heap.size + 1) (by simp) 34 #[Value.int .i64 er3, .int .i64 ge3, .int .i64 fo3, .slice A6 F3.length C6, .slice none 0 0]); have HLB3 := Lib.hid (HLB.out.below hqd HLB.out.lt); have HAB3 := Lib.hid (HAB.out.below hqd HAB.out.lt); have HV33 := Lib.hid (own_below HV3.out hqd); have HU33 := Lib.hid (own_below HU3.out hqd); obtain ⟨q0, q1, _, _⟩ := hcells HLB3.out; obtain ⟨q2, q3, _, _⟩ := hcells HLC.out; have HQ3 := Lib.hid hq3; clear hv5 hu5 hqc hqd hb4 hq3 k0' k1' k2' p2 p3 y0 y1 y2 y3)
          | (go_at_call 16; (with_reducible refine (logs_any fl3 fl3 A3 A5 C3 C5 L3 L3 _ (own_len HV33.out) (own_len HV5.out) (own_slice HV33.out) (own_slice HV5.out)).mono ?_); rintro x w5 ⟨t5, rfl, ht5, hb5⟩; obtain rfl : t5 = true := ht5.2 ⟨rfl, rfl⟩; clear ht5; obtain ⟨r0, r1, r2, r3, r4, _⟩ := acells (HAB3.out.below hb5 HAB3.out.lt); obtain ⟨s0, s1, s2, s3, s4, _⟩ := acells (HAC.out.below hb5 HAC.out.lt); have HB5 := Lib.hid hb5; clear hb5 q0 q1 q2 q3)
          | (go_at_call 17; (with_reducible refine (answers_any ⟨er3, ge3, fo3, F3⟩ ⟨er3, ge3, fo3, F3⟩ A4 A6 C4 C6 (.slice none 0 0) (.slice none 0 0) _ (own_len HU33.out) (own_len HU5.out) (own_slice (own_below HU33.out HB5.out)) (own_slice (own_below HU5.out HB5.out)) rfl rfl).mono ?_); rintro x w6 ⟨t6, rfl, ht6, hb6⟩; obtain rfl : t6 = true := ht6.2 rfl; clear ht6; have hb56 := below_on HB5.out hb6; obtain ⟨r0, r1, r2, r3, r4', _⟩ := acells (HAB3.out.below hb56 HAB3.out.lt); have hq6 := below_on HQ3.out hb56; obtain ⟨y0, y1, _, _⟩ := hcells (X1.out.below hq6 X1.out.lt); obtain ⟨y2, y3, _, _⟩ := hcells (X2.out.below hq6 X2.out.lt); have HB6 := Lib.hid hb56; have HQ6 := Lib.hid hq6; clear hb6 hb56 hq6 s0 s1 s2 s3 s4 r4)
          | (go_at_call 16; (with_reducible refine (logs_any g.floor g.floor B1 B2 D1 D2 g.trees g.trees _ (own_len X3.out) (own_len X4.out) (own_slice (own_below X3.out HQ6.out)) (own_slice (own_below X4.out HQ6.out))).mono ?_); rintro x w7 ⟨t7, rfl, ht7, hb7⟩; obtain rfl : t7 = true := ht7.2 ⟨rfl, rfl⟩; clear ht7; have hb67 := below_on HB6.out hb7; have hq7 := below_on HQ6.out hb7; have hx1 := X1.out.below hq7 X1.out.lt; have hx2 := X2.out.below hq7 X2.out.lt; obtain ⟨j0, j1, jz0, jz1⟩ := hcells hx1; have hlb := HLB3.out.below hb67 HLB3.out.lt; obtain ⟨j2, j3, _, _⟩ := hcells hlb; have hlc := HLC.out.below hb67 HLC.out.lt; have hn1 := Blk.ne_ hx2 hx1 (by decide); have hn2 := Blk.ne_ hlc hx1 (by decide); obtain ⟨j4, j5, _, _⟩ := hcells ((hlc.far (p := ⟨w.heap.size, 0, none⟩) hn2 (.int .i64 fl3)).far (p := ⟨w.heap.size, 1, none⟩) hn2 (.slice A3 L3.length C3)); have hx2' := (hx2.far (p := ⟨w.heap.size, 0, none⟩) hn1 (.int .i64 fl3)).far (p := ⟨w.heap.size, 1, none⟩) hn1 (.slice A3 L3.length C3); obtain ⟨j6, j7, jz2, jz3⟩ := hcells hx2'; have HX1 := Lib.hid hx1; have HX2 := Lib.hid hx2; have HX2' := Lib.hid hx2'; have HN1 := Lib.hid hn1; have HB7 := Lib.hid hb67; have HQ7 := Lib.hid hq7; clear hb7 hb67 hq7 hx1 hx2 hlb hlc hn1 hn2 hx2' r0 r1 r2 r3 r4' y0 y1 y2 y3)
          | (fail))
        have hv3 := own_below HV33.out HB7.out
        have hv5 := own_below HV5.out HB7.out
        have n31 := own_blk_ne hv3 HX1.out (by decide)
        have n32 := own_blk_ne hv3 HX2.out (by decide)
        have n51 := own_blk_ne hv5 HX1.out (by decide)
        have n52 := own_blk_ne hv5 HX2.out (by decide)
        have hS : DoesS ((((w7.setCell ⟨w.heap.size, 0, none⟩ (.int .i64 fl3)).setCell ⟨w.heap.size, 1, none⟩ (.slice A3 L3.length C3)).setCell ⟨w.heap.size + 1, 0, none⟩ (.int .i64 fl3)).setCell ⟨w.heap.size + 1, 1, none⟩ (.slice A5 L3.length C5)) w.heap.size (w.heap.size + 1) ⟨fl3, L3⟩ (k + 1) :=
          ⟨hgd.out, _, _, (((HX1.out.set_ 0 (.int .i64 fl3)).set_ 1 (.slice A3 L3.length C3)).far (p := ⟨w.heap.size + 1, 0, none⟩) HN1.out.symm _).far (p := ⟨w.heap.size + 1, 1, none⟩) HN1.out.symm _, (HX2'.out.set_ 0 (.int .i64 fl3)).set_ 1 (.slice A5 L3.length C5),
            own_setbox (own_setbox (own_setbox (own_setbox hv3 n31) n31) n32) n32, own_setbox (own_setbox (own_setbox (own_setbox hv5 n51) n51) n52) n52⟩
        have hq := ((((below_on HB.out HQ7.out).setCell (p := ⟨w.heap.size, 0, none⟩) (Nat.le_refl _) (.int .i64 fl3)).setCell (p := ⟨w.heap.size, 1, none⟩) (Nat.le_refl _) (.slice A3 L3.length C3)).setCell (p := ⟨w.heap.size + 1, 0, none⟩) (Nat.le_succ _) (.int .i64 fl3)).setCell (p := ⟨w.heap.size + 1, 1, none⟩) (Nat.le_succ _) (.slice A5 L3.length C5)
        have HS9 := Lib.hid hS
        clear hS hv3 hv5 n31 n32 n51 n52
        go_roundw
        case rel => exact ⟨k + 1, ⟨fl3, L3⟩, by omega, by omega, by go_num, HS9, hq⟩
        case measure => simp [intOf] <;> omega
      · have kn : ¬ (k : Int) < 60 := by omega
        go_wp2_with (go_at_call 18; (with_reducible refine (AW.out _ hB).mono ?_); rintro e w1 ⟨rfl, hb1⟩)
        go_ret
        exact ⟨rfl, below_on hB hb1⟩
    · have kl : ¬ (k : Int) < n := by omega
      go_wp2_with (go_at_call 18; (with_reducible refine (AW.out _ hB).mono ?_); rintro e w1 ⟨rfl, hb1⟩)
      go_ret
      exact ⟨rfl, below_on hB hb1⟩
end Go.Proofs.YtakdngcgjahafaaDoor
