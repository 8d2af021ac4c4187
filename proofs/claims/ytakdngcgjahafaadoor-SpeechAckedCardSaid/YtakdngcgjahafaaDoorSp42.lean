/- The walk through SpeechAcked. -/
import Derived.Test.YtakdngcgjahafaaDoorSp38
import Derived.Test.YtakdngcgjahafaaDoorSpG
import Derived.Test.YtakdngcgjahafaaDoorCls
namespace Go.Proofs.YtakdngcgjahafaaDoor
open Go.RowKit
set_option linter.unusedVariables false

def condP (fs : List FileD) (b : Int) (x : EvD) : Bool := (x.kind == 1) && decide (x.asked < b) && (ofE fs == 0) && (ofE x.files == 0) && ((ofS fs).toList == (ofS x.files).toList)
theorem sub_any (fs : List FileD) (b : Int) : ∀ l : List EvD, (ofE fs == 0 && subB fs b l) = l.any (condP fs b)
  | [] => by simp [subB]
  | x :: l => by
    rw [List.any_cons, ← sub_any fs b l, subB]
    unfold condP
    have e : ((ofS fs).toList == (ofS x.files).toList) = ((ofS x.files).toList == (ofS fs).toList) := BEq.comm
    rw [e]
    generalize ((ofS x.files).toList == (ofS fs).toList) = S
    generalize subB fs b l = R
    generalize (ofE fs == 0) = E
    generalize (ofE x.files == 0) = F
    generalize (x.kind == 1) = K
    generalize decide (x.asked < b) = D
    cases S <;> cases R <;> cases E <;> cases F <;> cases K <;> cases D <;> rfl
theorem any_take {α : Type} (p : α → Bool) {l : List α} {k : Nat} {x : α} (h : l[k]? = some x) : (l.take (k + 1)).any p = ((l.take k).any p || p x) := by
  rw [List.take_add_one, h, Option.toList_some, List.any_append]
  simp
theorem fld_call (A : Option Addr) (n c : Nat) (w : World) : (Instr.field 30 (.agg #[.int .i64 0, .int .i64 0, .slice A n c]) 2).run Tryd.prog w = .ok (.slice A n c) w := by
  kernel_rfl
set_option maxHeartbeats 8000000 in
set_option maxRecDepth 100000 in
theorem law_acked (A : Option Addr) (c : Nat) (l0 : List EvD) (FA0 : Option Addr) (FC0 : Nat) (f0 : List FileD) (b : Int) (w : World) (hz : l0.length ≤ 9223372036854775807) (ha : Arr w w.heap.size 10 A l0.length (ecells l0)) (hi : ∀ e ∈ l0, EvIn w e)
    (zf : f0.length * 40 ≤ 140737488351232) (hcf : f0.length ≤ FC0) (hf0 : ∀ f ∈ f0, FFit f) (haf : Arr w w.heap.size 3 FA0 f0.length (fcells f0)) (hb1 : -9223372036854775808 ≤ b) (hb2 : b ≤ 9223372036854775807) (hm : Ml w) :
    Calls Tryd.prog 9 #[.slice A l0.length c, .slice FA0 f0.length FC0, .int .i64 b] w fun e w' => e = .returned (.bool true) ∧ Below w.heap.size w w' := by
  have AW := Lib.hid (fun X (h : Below w.heap.size w X) => awake22 X (hm.on h))
  have SH0 := short_any A c l0 20 w hz (by omega) ha hi
  rw [show ((20 : Nat) : Int) = 20 from rfl] at SH0
  have SH := Lib.hid SH0
  clear SH0
  unfold ShortOut at SH
  have FE := Lib.hid (fun X (h : Below w.heap.size w X) => few22 0 0 FA0 FC0 f0 X (by omega) (fun f hf => (hf0 f hf).1) ((haf.below h).more h.size))
  unfold CallOut at FE
  have hfo := few8_ok (l := f0) fun f hf => (hf0 f hf).1
  have hfl := few8_len f0
  have HM := Lib.hid hm
  generalize few8 f0 = fs at *
  generalize l0.length = n0 at *
  generalize f0.length = m0 at *
  have HFO := Lib.hid hfo
  clear ha hi hm hz haf hf0 zf hcf hb1 hb2 hfo
  go_enter Tryd.func9, Tryd.ntmps9
  go_wp2_with (first
    | (go_at_call 19; (with_reducible refine (SH.out).mono ?_); rintro x w1 ⟨V, l, rfl, hg, hl8, hb1⟩; have HGW := Lib.hid hg; have HB1 := Lib.hid hb1; clear hg hb1)
    | (go_at_call 13; (with_reducible refine (FE.out _ HB1.out).mono ?_); rintro x w2 ⟨V2, rfl, hv2, hb2⟩; obtain ⟨FA, FC, rfl, _, _, _⟩ := own_arr hv2; have HV2 := Lib.hid hv2; have HB2 := Lib.hid hb2; have hfld := fld_call FA fs.length FC; clear hv2 hb2)
    | (fail))
  have hh := HGW.out.hist
  have hE : ∀ e ∈ l, EFit e := fun e he => (HGW.out.fit e he).1
  obtain ⟨LA, LC, rfl, _, hla, _⟩ := own_arr hh.row
  have AK := Lib.hid (acked_any LA LC l w2 (by omega) ((hla.below HB2.out).more HB2.out.size))
  unfold AckOut at AK
  have HH := Lib.hid hh
  have HE := Lib.hid hE
  have HLA := Lib.hid hla
  clear hh hE hla
  go_wp2_with (first
    | (go_at_call 29; (with_reducible refine (AK.out).mono ?_); rintro x w3 ⟨U, rfl, hu, hb3⟩; obtain ⟨UA, UC, rfl, _, hua, _⟩ := own_arr hu; have HUA := Lib.hid hua; have hb23 := below_on HB2.out hb3; have OF0 := Lib.hid (of_ref FA FC fs w3 (by omega) HFO.out (own_slice (own_below HV2.out hb3))); unfold OfIs at OF0; clear hu hua)
    | (go_at_call 30; (with_reducible refine (OF0.out).mono ?_); rintro x w4 ⟨rfl, hb4⟩; have HB34 := Lib.hid hb4; have hb14 := below_on hb23 hb4)
    | (fail))
  have SB := Lib.hid (fun X (h : Below w1.heap.size w1 X) (h2 : Below w2.heap.size w2 X) => subm_any X (HH.out.below h) HE.out (by omega) FA FC fs (by omega) HFO.out (own_slice (own_below HV2.out h2)) b (HM.out.on (HB1.out.trans (h.mono HB1.out.size))))
  rw [sub_any] at SB
  have HLE := Lib.hid hl8
  generalize hS0 : ofS fs = S0 at *
  generalize hE0 : ofE fs = E0 at *
  have HS0 := Lib.hid hS0
  have HE0 := Lib.hid hE0
  clear hS0 hE0 hfld
  go_loopw [10, 11] (fun u v wr => ∃ (k : Nat) (r : Bool), k ≤ l.length ∧ v = .int .i64 k ∧ u = .bool r ∧ Hid ((l.take k).any (condP fs b) = r) ∧ Below w4.heap.size w4 wr) (fun _ v _ => l.length - (intOf v).toNat)
  case atStart => exact ⟨0, false, Nat.zero_le _, rfl, rfl, Lib.hid rfl, Below.refl _ _⟩
  case round =>
    obtain ⟨k, r, hk, rfl, rfl, HK, hB⟩ := hrel
    by_cases hlt : k < l.length
    · obtain ⟨e, he⟩ : ∃ e, l[k]? = some e := ⟨_, List.getElem?_eq_getElem hlt⟩
      have kl : (k : Int) < l.length := by omega
      have hBw1 := hb14.trans (hB.mono hb14.size)
      have hBw3 := HB34.out.trans (hB.mono HB34.out.size)
      obtain ⟨b1, o1, rfl, hb1', hcell⟩ := HLA.out.2 (by omega)
      obtain ⟨ab, ao, rfl, hab, hacell⟩ := HUA.out.2 (by omega)
      have CF := Lib.hid (fun X (h : Below wr.heap.size wr X) => ev_cells (fun i u h' => ((hBw1.trans (h.mono hBw1.size)).cell (p := ⟨b1, o1 + i, none⟩) hb1').trans (hcell i u h')) he)
      obtain ⟨ak, hak⟩ : ∃ ak, ak = ackP l e.asked (-1) := ⟨_, rfl⟩
      have y0 := cell_cls ((hBw3.cell (p := ⟨ab, ao + k, none⟩) hab).trans (hacell k (.int .i64 ak) (by rw [List.getElem?_map, he, hak]; rfl)))
      have y1 := cell_cls (CF.out _ (Below.refl _ _)).1
      have ACB : Hid (∀ p : Cls wr, Calls Tryd.prog 25 #[.slice (some ⟨b1, o1, none⟩) l.length LC, .int .i64 e.asked] p.n fun x w' => x = .returned (.int .i64 ak) ∧ Below p.n.heap.size p.n w') := Lib.hid fun p => by
        rw [hak]; exact acked_ref _ LC l e.asked p.n (by omega) ((HLA.out.below (hBw1.trans (p.h.mono hBw1.size))).more (hBw1.trans (p.h.mono hBw1.size)).size)
      have hne : (ak != ak) = false := by simp
      have hEe := HE.out e (List.mem_of_getElem? he)
      have hfs := HH.out.fs e (List.mem_of_getElem? he)
      have OX := Lib.hid (fun X (h : Below wr.heap.size wr X) => of_ref e.fA e.fC e.files X (Nat.le_trans hEe.2.1 (by omega)) hEe.1 (own_slice (own_below hfs (hBw1.trans (h.mono hBw1.size)))))
      unfold OfIs at OX
      have HAN : Hid ((l.take (k + 1)).any (condP fs b) = (r || condP fs b e)) := Lib.hid (by rw [any_take _ he, HK.out])
      have hcp : condP fs b e = ((e.kind == 1) && decide (e.asked < b) && (E0 == 0) && (ofE e.files == 0) && (S0.toList == (ofS e.files).toList)) := by unfold condP; rw [HS0.out, HE0.out]
      generalize hT : ofS e.files = T at *
      generalize hE : ofE e.files = E at *
      have H := HAN.out
      rw [hcp] at H
      clear hcell hacell he hak hEe hfs hBw1 hBw3 HAN hcp HK hT hE
      cases r with
      | true =>
        have HST := Lib.hid (show (l.take (k + 1)).any (condP fs b) = true by rw [H]; rfl)
        clear H
        go_wp2; (refine wp_region_cls (by kernel_rfl) (by kernel_rfl) ?_); (repeat (go_big_quiet_step ((go_at_call 25; with_reducible exact cls_call (ACB.out _))))); (refine wpQuiet_nil ?_); (intro w5 hw'); (obtain ⟨⟨w5', hb5⟩, hw''⟩ := hw'); (subst hw''); (obtain ⟨_, _, _, _, z4, _⟩ := CF.out _ hb5); (go_wp2_with (go_at_call 30; (with_reducible refine (OX.out _ hb5).mono ?_); rintro x w6 ⟨rfl, hb6⟩; have hb56 := below_on hb5 hb6; obtain ⟨z0, _, z2, _⟩ := CF.out _ hb56; have hB6 := below_on hB hb56)); go_roundw; (case rel => exact ⟨k + 1, _, by omega, by go_num, rfl, HST, hB6⟩); (case measure => simp [intOf] <;> omega)
      | false =>
        rw [Bool.false_or] at H
        by_cases g1 : e.kind = 1
        · have q1 : (e.kind == 1) = true := by rw [g1]; rfl
          by_cases g2 : e.asked < b
          · by_cases g3 : E0 = 0
            · have q3 : (E0 == 0) = true := by rw [g3]; rfl
              by_cases g4 : E = 0
              · have q4 : (E == 0) = true := by rw [g4]; rfl
                cases hst : (S0.toList == T.toList) with
                | true =>
                  have HST := Lib.hid (show (l.take (k + 1)).any (condP fs b) = true by rw [H, q1, q3, q4, hst, decide_eq_true g2]; rfl)
                  clear H g1 g3 g4
                  go_wp2; (refine wp_region_cls (by kernel_rfl) (by kernel_rfl) ?_); (repeat (go_big_quiet_step ((go_at_call 25; with_reducible exact cls_call (ACB.out _))))); (refine wpQuiet_nil ?_); (intro w5 hw'); (obtain ⟨⟨w5', hb5⟩, hw''⟩ := hw'); (subst hw''); (obtain ⟨_, _, _, _, z4, _⟩ := CF.out _ hb5); (go_wp2_with (go_at_call 30; (with_reducible refine (OX.out _ hb5).mono ?_); rintro x w6 ⟨rfl, hb6⟩; have hb56 := below_on hb5 hb6; obtain ⟨z0, _, z2, _⟩ := CF.out _ hb56; have hB6 := below_on hB hb56)); go_roundw; (case rel => exact ⟨k + 1, _, by omega, by go_num, rfl, HST, hB6⟩); (case measure => simp [intOf] <;> omega)
                | false =>
                  have HST := Lib.hid (show (l.take (k + 1)).any (condP fs b) = false by rw [H, hst, Bool.and_false])
                  clear H g1 g3 g4
                  go_wp2; (refine wp_region_cls (by kernel_rfl) (by kernel_rfl) ?_); (repeat (go_big_quiet_step ((go_at_call 25; with_reducible exact cls_call (ACB.out _))))); (refine wpQuiet_nil ?_); (intro w5 hw'); (obtain ⟨⟨w5', hb5⟩, hw''⟩ := hw'); (subst hw''); (obtain ⟨_, _, _, _, z4, _⟩ := CF.out _ hb5); (go_wp2_with (go_at_call 30; (with_reducible refine (OX.out _ hb5).mono ?_); rintro x w6 ⟨rfl, hb6⟩; have hb56 := below_on hb5 hb6; obtain ⟨z0, _, z2, _⟩ := CF.out _ hb56; have hB6 := below_on hB hb56)); go_roundw; (case rel => exact ⟨k + 1, _, by omega, by go_num, rfl, HST, hB6⟩); (case measure => simp [intOf] <;> omega)
              · have q4 : (E == 0) = false := by rw [beq_eq_false_iff_ne]; exact g4
                have HST := Lib.hid (show (l.take (k + 1)).any (condP fs b) = false by rw [H, q4]; simp)
                clear H g1 g3 g4
                go_wp2; (refine wp_region_cls (by kernel_rfl) (by kernel_rfl) ?_); (repeat (go_big_quiet_step ((go_at_call 25; with_reducible exact cls_call (ACB.out _))))); (refine wpQuiet_nil ?_); (intro w5 hw'); (obtain ⟨⟨w5', hb5⟩, hw''⟩ := hw'); (subst hw''); (obtain ⟨_, _, _, _, z4, _⟩ := CF.out _ hb5); (go_wp2_with (go_at_call 30; (with_reducible refine (OX.out _ hb5).mono ?_); rintro x w6 ⟨rfl, hb6⟩; have hb56 := below_on hb5 hb6; obtain ⟨z0, _, z2, _⟩ := CF.out _ hb56; have hB6 := below_on hB hb56)); go_roundw; (case rel => exact ⟨k + 1, _, by omega, by go_num, rfl, HST, hB6⟩); (case measure => simp [intOf] <;> omega)
            · have q3 : (E0 == 0) = false := by rw [beq_eq_false_iff_ne]; exact g3
              have HST := Lib.hid (show (l.take (k + 1)).any (condP fs b) = false by rw [H, q3]; simp)
              clear H g1 g3
              go_wp2; (refine wp_region_cls (by kernel_rfl) (by kernel_rfl) ?_); (repeat (go_big_quiet_step ((go_at_call 25; with_reducible exact cls_call (ACB.out _))))); (refine wpQuiet_nil ?_); (intro w5 hw'); (obtain ⟨⟨w5', hb5⟩, hw''⟩ := hw'); (subst hw''); (obtain ⟨_, _, _, _, z4, _⟩ := CF.out _ hb5); (go_wp2_with (go_at_call 30; (with_reducible refine (OX.out _ hb5).mono ?_); rintro x w6 ⟨rfl, hb6⟩; have hb56 := below_on hb5 hb6; obtain ⟨z0, _, z2, _⟩ := CF.out _ hb56; have hB6 := below_on hB hb56)); go_roundw; (case rel => exact ⟨k + 1, _, by omega, by go_num, rfl, HST, hB6⟩); (case measure => simp [intOf] <;> omega)
          · have HST := Lib.hid (show (l.take (k + 1)).any (condP fs b) = false by rw [H, decide_eq_false g2]; simp)
            clear H g1
            go_wp2; (refine wp_region_cls (by kernel_rfl) (by kernel_rfl) ?_); (repeat (go_big_quiet_step ((go_at_call 25; with_reducible exact cls_call (ACB.out _))))); (refine wpQuiet_nil ?_); (intro w5 hw'); (obtain ⟨⟨w5', hb5⟩, hw''⟩ := hw'); (subst hw''); (obtain ⟨_, _, _, _, z4, _⟩ := CF.out _ hb5); (go_wp2_with (go_at_call 30; (with_reducible refine (OX.out _ hb5).mono ?_); rintro x w6 ⟨rfl, hb6⟩; have hb56 := below_on hb5 hb6; obtain ⟨z0, _, z2, _⟩ := CF.out _ hb56; have hB6 := below_on hB hb56)); go_roundw; (case rel => exact ⟨k + 1, _, by omega, by go_num, rfl, HST, hB6⟩); (case measure => simp [intOf] <;> omega)
        · have q1 : (e.kind == 1) = false := by rw [beq_eq_false_iff_ne]; exact g1
          have HST := Lib.hid (show (l.take (k + 1)).any (condP fs b) = false by rw [H, q1]; simp)
          clear H g1
          go_wp2; (refine wp_region_cls (by kernel_rfl) (by kernel_rfl) ?_); (repeat (go_big_quiet_step ((go_at_call 25; with_reducible exact cls_call (ACB.out _))))); (refine wpQuiet_nil ?_); (intro w5 hw'); (obtain ⟨⟨w5', hb5⟩, hw''⟩ := hw'); (subst hw''); (obtain ⟨_, _, _, _, z4, _⟩ := CF.out _ hb5); (go_wp2_with (go_at_call 30; (with_reducible refine (OX.out _ hb5).mono ?_); rintro x w6 ⟨rfl, hb6⟩; have hb56 := below_on hb5 hb6; obtain ⟨z0, _, z2, _⟩ := CF.out _ hb56; have hB6 := below_on hB hb56)); go_roundw; (case rel => exact ⟨k + 1, _, by omega, by go_num, rfl, HST, hB6⟩); (case measure => simp [intOf] <;> omega)
    · have kl : ¬ (k : Int) < l.length := by omega
      have hkl : k = l.length := by omega
      have HF := HK.out
      rw [hkl, List.take_length] at HF
      rw [HF] at SB
      have hbw := hb14.trans (hB.mono hb14.size)
      have hb24 := below_on (below_on (Below.refl _ _) hb3) HB34.out
      have hbw2 := hb24.trans (hB.mono hb24.size)
      have hBW1 := HB1.out.trans (hbw.mono HB1.out.size)
      clear HF HK hkl
      cases r
      all_goals
        go_wp2_with (first
          | (go_at_call 26; (with_reducible refine (SB.out _ hbw hbw2).mono ?_); rintro x w8 ⟨rfl, hb8⟩; have hBW := below_on hBW1 hb8)
          | (go_at_call 18; (with_reducible refine (AW.out _ hBW).mono ?_); rintro x w9 ⟨rfl, hb9⟩; have hB9 := below_on hBW hb9)
          | (fail))
        go_ret
        exact ⟨rfl, hB9⟩
end Go.Proofs.YtakdngcgjahafaaDoor
