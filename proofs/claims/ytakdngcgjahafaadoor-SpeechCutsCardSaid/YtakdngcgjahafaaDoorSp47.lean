/- Chapter 22: the walk through Cut and Counts. -/
import Derived.Test.YtakdngcgjahafaaDoorSp43
import Derived.Test.YtakdngcgjahafaaDoorSp31
import Derived.Test.YtakdngcgjahafaaDoorSp40
namespace Go.Proofs.YtakdngcgjahafaaDoor
open Go.RowKit
set_option linter.unusedVariables false

def CutOut (w : World) (t : Int) (l : List EvD) (e : Ending) (w' : World) : Prop := ∃ V l', e = .returned V ∧ GrowH w' w.heap.size V l' ∧ l'.map coreE = (cutL t l).map coreE ∧ Below w.heap.size w w'
theorem cut_snoc {t : Int} {l : List EvD} {k : Nat} {e : EvD} (h : l[k]? = some e) : cutL t (l.take (k + 1)) = cutL t (l.take k) ++ (if keepE t e = true then [cutE t e] else []) := by
  unfold cutL
  rw [List.take_add_one, h, Option.toList_some, List.filter_append, List.map_append, List.filter_cons]
  split <;> rfl
def SliceOut (w : World) (e : Ending) (w' : World) : Prop := ∃ A n c, e = .returned (.slice A n c) ∧ Below w.heap.size w w'
def FileOut (w : World) (L : List FileD) (e : Ending) (w' : World) : Prop := ∃ V, e = .returned V ∧ w'.ownsRow w.heap.size 69 3 V L.length (fcells L) ∧ Below w.heap.size w w'
theorem clone_marks {A : Option Addr} {n c : Nat} {w : World} (h : MarksIn w A n) : Calls Tryd.prog 36 #[.slice A n c] w (SliceOut w) := by
  obtain ⟨L, rfl, h2, h3⟩ := h
  exact (clone_str A c L w (by omega) h3).mono fun e w' ⟨v, e1, hv, hb⟩ => by
    obtain ⟨A', c', rfl, _, _, _⟩ := own_arr hv
    exact ⟨_, _, _, e1, hb⟩
def CutQ (w : World) (t : Int) (l : List EvD) (vo v : Value) (wr : World) : Prop := ∃ (k : Nat) (l' : List EvD), k ≤ l.length ∧ v = .int .i64 k ∧ Hid (l'.length ≤ k) ∧ Hid (l'.map coreE = (cutL t (l.take k)).map coreE) ∧ Hid (GrowH wr w.heap.size vo l') ∧ Below w.heap.size w wr
theorem grow_len {W : World} {b : Nat} {V : Value} {l : List EvD} (h : GrowH W b V l) : GrowH W b V l := h
set_option maxHeartbeats 8000000 in
set_option maxRecDepth 100000 in
theorem scut_any (w : World) {V : Value} {l : List EvD} (hh : Hist w V l) (hE : ∀ e ∈ l, EFit e) (hM : ∀ e ∈ l, MarksIn w e.mA e.mN) (hl : l.length ≤ 1000) (t : Int) :
    Calls Tryd.prog 31 #[V, .int .i64 t] w (CutOut w t l) := by
  obtain ⟨i2, fi0, fz0, fz1, fz2⟩ := info_parts infoEv
  obtain ⟨A, c, rfl, hcap, ha, _⟩ := own_arr hh.row
  have HA := Lib.hid ha
  have HH := Lib.hid hh
  have HE := Lib.hid hE
  have HMM := Lib.hid hM
  clear ha hh hE hM
  go_enter Tryd.func31, Tryd.ntmps31
  go_wp2
  go_loopw [5, 10] (fun vo v wr => CutQ w t l vo v wr) (fun _ v _ => l.length - (intOf v).toNat)
  case atStart => unfold CutQ; exact ⟨0, [], Nat.zero_le _, rfl, Lib.hid (Nat.le_refl _), Lib.hid rfl, Lib.hid ⟨World.ownsRow_nil _ _ _ _, by simp, by simp, by simp⟩, Below.refl _ _⟩
  case round =>
    unfold CutQ at hrel
    obtain ⟨k, l', hk, rfl, HLN, HCE, HG, hB⟩ := hrel
    by_cases hlt : k < l.length
    · have kl : (k : Int) < l.length := by omega
      obtain ⟨e, he⟩ : ∃ e, l[k]? = some e := ⟨_, List.getElem?_eq_getElem hlt⟩
      obtain ⟨b1, o1, rfl, hb1, hcell⟩ := HA.out.2 (by omega)
      obtain ⟨c0, c1, c2', c3', c4, c5, c6, c7, c8, c9⟩ := ev_cells (fun i u h => (hB.cell (p := ⟨b1, o1 + i, none⟩) hb1).trans (hcell i u h)) he
      have hsn := cut_snoc (t := t) he
      have hef := HE.out e (List.mem_of_getElem? he)
      have hfs := HH.out.fs e (List.mem_of_getElem? he)
      have han := HH.out.an e (List.mem_of_getElem? he)
      have hmk := HMM.out e (List.mem_of_getElem? he)
      have HB := Lib.hid hB
      have CF : Hid (∀ X, Below wr.heap.size wr X → Calls Tryd.prog 51 #[.slice e.fA e.files.length e.fC] X (FileOut X e.files)) := Lib.hid fun X h => clone_file e.fA e.fC e.files X (Nat.le_trans hef.2.1 (by omega)) (own_slice (own_below hfs (hB.trans (h.mono hB.size))))
      by_cases hask : t < e.asked
      · have HSN : Hid (cutL t (l.take (k + 1)) = cutL t (l.take k)) := Lib.hid (by rw [hsn, if_neg (by unfold keepE; rw [decide_eq_true_iff]; omega), List.append_nil])
        have hbx : Below w.heap.size w (wr.alloc (.cells #[Value.int .i64 e.asked, .int .i64 e.told, .int .i64 e.kind, .int .i64 e.gen, .slice e.fA e.files.length e.fC, .int .i64 e.err, .int .i64 e.agen, .int .i64 e.floor, .slice e.aA e.afiles.length e.aC, .slice e.mA e.mN e.mC] 54)) := hB.alloc hB.size _
        have HGX := Lib.hid (HG.out.below ((Below.refl _ wr).alloc (Nat.le_refl _) (.cells #[Value.int .i64 e.asked, .int .i64 e.told, .int .i64 e.kind, .int .i64 e.gen, .slice e.fA e.files.length e.fC, .int .i64 e.err, .int .i64 e.agen, .int .i64 e.floor, .slice e.aA e.afiles.length e.aC, .slice e.mA e.mN e.mC] 54)))
        clear hcell he hsn hef hfs han hmk
        go_wp2
        go_roundw
        case rel => unfold CutQ; exact ⟨k + 1, l', by omega, by go_num, Lib.hid (Nat.le_succ_of_le HLN.out), Lib.hid (by rw [HSN.out]; exact HCE.out), HGX, hbx⟩
        case measure => simp [intOf] <;> omega
      · have HSN : Hid (cutL t (l.take (k + 1)) = cutL t (l.take k) ++ [cutE t e]) := Lib.hid (by rw [hsn, if_pos (by unfold keepE; rw [decide_eq_true_iff]; omega)])
        by_cases htold : t < e.told
        · obtain ⟨af, haf⟩ : ∃ af : List FileD, af = [] := ⟨_, rfl⟩
          have HAF := Lib.hid haf
          have CA : Hid (∀ X, Below wr.heap.size wr X → Calls Tryd.prog 51 #[.slice none 0 0] X (FileOut X af)) := Lib.hid fun X h => by rw [haf]; exact clone_file none 0 [] X (by simp) (Arr.nil _ _ _ _)
          have CM : Hid (∀ X, Below wr.heap.size wr X → Calls Tryd.prog 36 #[.slice none 0 0] X (SliceOut X)) := Lib.hid fun X h => clone_marks ⟨[], rfl, Nat.zero_le _, Arr.nil _ _ _ _⟩
          unfold FileOut at CF CA
          unfold SliceOut at CM
          clear hcell he hsn hfs han hmk hB haf
          (have HEF : Hid (∀ A2 c2 A3 c3 MA MN MC, EFit (⟨e.asked, 0, e.kind, e.gen, A2, c2, e.files, 0, 0, 0, A3, c3, af, MA, MN, MC⟩ : EvD)) := Lib.hid fun _ _ _ _ _ _ _ => ⟨hef.1, hef.2.1, (by rw [HAF.out]; simp)⟩); (have HCO : Hid (∀ A2 c2 A3 c3 MA MN MC, coreE (⟨e.asked, 0, e.kind, e.gen, A2, c2, e.files, 0, 0, 0, A3, c3, af, MA, MN, MC⟩ : EvD) = coreE (cutE t e)) := Lib.hid fun _ _ _ _ _ _ _ => (by unfold cutE; rw [if_pos htold, HAF.out]; rfl)); (have HEB := Lib.hid (Blk.new wr 54 #[Value.int .i64 e.asked, .int .i64 0, .int .i64 e.kind, .int .i64 e.gen, .slice e.fA e.files.length e.fC, .int .i64 0, .int .i64 0, .int .i64 0, (.slice none 0 0), (.slice none 0 0)])); (have hbx : Below wr.heap.size wr (wr.alloc (.cells #[Value.int .i64 e.asked, .int .i64 0, .int .i64 e.kind, .int .i64 e.gen, .slice e.fA e.files.length e.fC, .int .i64 0, .int .i64 0, .int .i64 0, (.slice none 0 0), (.slice none 0 0)] 54)) := (Below.refl _ _).alloc (Nat.le_refl _) _); (obtain ⟨t0, t1, t2, t3, t4, t5, t6, t7, t8, t9⟩ := evx HEB.out); clear hef; (go_wp2_with (first | (go_at_call 51; (with_reducible refine (CF.out _ hbx).mono ?_); rintro x w2 ⟨V2, rfl, hv2, hb2⟩; obtain ⟨A2, c2, rfl, _, _, _⟩ := own_arr hv2; have he2 := HEB.out.below hb2 HEB.out.lt; have z4 := he2.frozen 4; obtain ⟨p0, p1, p2, p3, p4, p5, p6, p7, p8, p9⟩ := evx he2; have he3 : Blk (w2.setCell ⟨wr.heap.size, 4, none⟩ (.slice A2 e.files.length c2)) wr.heap.size 54 #[Value.int .i64 e.asked, .int .i64 0, .int .i64 e.kind, .int .i64 e.gen, .slice A2 e.files.length c2, .int .i64 0, .int .i64 0, .int .i64 0, (.slice none 0 0), (.slice none 0 0)] := he2.set_ 4 (.slice A2 e.files.length c2); obtain ⟨s0, s1, s2, s3, s4, s5, s6, s7, s8, s9⟩ := evx he3; have HE3 := Lib.hid he3; have HW2 := Lib.hid ((below_on hbx hb2).setCell (p := ⟨wr.heap.size, 4, none⟩) (Nat.le_refl _) (.slice A2 e.files.length c2)); have HN2 := Lib.hid (own_ne hv2 HEB.out.lt); have HV2 := Lib.hid (own_setbox (i := 4) (u := .slice A2 e.files.length c2) hv2 HN2.out); clear he2 he3 hv2 t0 t1 t2 t3 t4 t5 t6 t7 t8 t9) | (go_at_call 51; (with_reducible refine (CA.out _ HW2.out).mono ?_); rintro x w3 ⟨V3, rfl, hv3, hb3⟩; obtain ⟨A3, c3, rfl, _, _, _⟩ := own_arr hv3; have he4 := HE3.out.below hb3 HE3.out.lt; have z8 := he4.frozen 8; obtain ⟨q0, q1, q2, q3, q4, q5, q6, q7, q8, q9⟩ := evx he4; have he5 : Blk (w3.setCell ⟨wr.heap.size, 8, none⟩ (.slice A3 (af).length c3)) wr.heap.size 54 #[Value.int .i64 e.asked, .int .i64 0, .int .i64 e.kind, .int .i64 e.gen, .slice A2 e.files.length c2, .int .i64 0, .int .i64 0, .int .i64 0, .slice A3 (af).length c3, (.slice none 0 0)] := he4.set_ 8 (.slice A3 (af).length c3); obtain ⟨r0, r1, r2, r3, r4, r5, r6, r7, r8, r9⟩ := evx he5; have HE5 := Lib.hid he5; have HW3 := Lib.hid ((below_on HW2.out hb3).setCell (p := ⟨wr.heap.size, 8, none⟩) (Nat.le_refl _) (.slice A3 (af).length c3)); have HN3 := Lib.hid (own_ne hv3 HE3.out.lt); have HV3 := Lib.hid (own_setbox (i := 8) (u := .slice A3 (af).length c3) hv3 HN3.out); have HV23 := Lib.hid (own_setbox (i := 8) (u := .slice A3 (af).length c3) (own_below HV2.out hb3) HN2.out); clear he4 he5 hv3 s0 s1 s2 s3 s4 s5 s6 s7 s8 s9 p0 p1 p2 p3 p4 p5 p6 p7 p8 p9) | (go_at_call 36; (with_reducible refine (CM.out _ HW3.out).mono ?_); rintro x w4 ⟨MA, MN, MC, rfl, hb4⟩; have he6 := HE5.out.below hb4 HE5.out.lt; have z9 := he6.frozen 9; obtain ⟨d0, d1, d2, d3, d4, d5, d6, d7, d8, d9⟩ := evx he6; have he7 : Blk (w4.setCell ⟨wr.heap.size, 9, none⟩ (.slice MA MN MC)) wr.heap.size 54 #[Value.int .i64 e.asked, .int .i64 0, .int .i64 e.kind, .int .i64 e.gen, .slice A2 e.files.length c2, .int .i64 0, .int .i64 0, .int .i64 0, .slice A3 (af).length c3, .slice MA MN MC] := he6.set_ 9 (.slice MA MN MC); obtain ⟨f0, f1, f2, f3, f4, f5, f6, f7, f8, f9⟩ := evx he7; have HW4 := Lib.hid ((below_on HW3.out hb4).setCell (p := ⟨wr.heap.size, 9, none⟩) (Nat.le_refl _) (.slice MA MN MC)); have HV34 := Lib.hid (own_setbox (i := 9) (u := .slice MA MN MC) (own_below HV3.out hb4) HN3.out); have HV24 := Lib.hid (own_setbox (i := 9) (u := .slice MA MN MC) (own_below HV23.out hb4) HN2.out); clear he6 he7 r0 r1 r2 r3 r4 r5 r6 r7 r8 r9 q0 q1 q2 q3 q4 q5 q6 q7 q8 q9) | (at_builtin; (have hg6 := HG.out.below HW4.out); refine wpList_push rfl _ _ _ rfl Tryd.underlying43 fi0 fz0 fz1 fz2 ev_zero (by decide) hg6.row rfl (by rw [World.size_setCell]; rfl) rfl (by intro u hu; simp at hu; rcases hu with rfl | rfl | rfl | rfl | rfl | rfl | rfl | rfl | rfl | rfl <;> rfl) (by have := HLN.out; unfold maxLen; omega) (by have := HLN.out; omega) (Nat.le_trans HB.out.size HW4.out.size) ?_; intro g7 cap7 w7 hown7 hgr7 hat7; have HG7 := Lib.hid (hg6.push (e := (⟨e.asked, 0, e.kind, e.gen, A2, c2, e.files, 0, 0, 0, A3, c3, af, MA, MN, MC⟩ : EvD)) hgr7 hown7 (own_mono HV24.out (Nat.zero_le _)) (own_mono HV34.out (Nat.zero_le _)) (HEF.out A2 c2 A3 c3 MA MN MC)); have hB7 := Lib.hid ((HB.out.trans (HW4.out.mono HB.out.size)).grown hgr7 (Nat.le_trans HB.out.size HW4.out.size) (fun j hj => (hg6.row.lt j hj).1))) | (fail))); go_roundw; (case rel => unfold CutQ; exact ⟨k + 1, l' ++ [(⟨e.asked, 0, e.kind, e.gen, A2, c2, e.files, 0, 0, 0, A3, c3, af, MA, MN, MC⟩ : EvD)], by omega, by go_num, Lib.hid (by have := HLN.out; rw [List.length_append]; simp; omega), Lib.hid (by rw [HSN.out, List.map_append, List.map_append, HCE.out, List.map_cons, HCO.out]; rfl), by have h7 := HG7.out; exact Lib.hid (grow_len h7), hB7.out⟩); (case measure => simp [intOf] <;> omega)
        · have CA : Hid (∀ X, Below wr.heap.size wr X → Calls Tryd.prog 51 #[.slice e.aA e.afiles.length e.aC] X (FileOut X e.afiles)) := Lib.hid fun X h => clone_file e.aA e.aC e.afiles X (Nat.le_trans hef.2.2 (by omega)) (own_slice (own_below han (hB.trans (h.mono hB.size))))
          have CM : Hid (∀ X, Below wr.heap.size wr X → Calls Tryd.prog 36 #[.slice e.mA e.mN e.mC] X (SliceOut X)) := Lib.hid fun X h => clone_marks (hmk.on (hB.trans (h.mono hB.size)))
          have hef3 := hef.2.2
          unfold FileOut at CF CA
          unfold SliceOut at CM
          clear hcell he hsn hfs han hmk hB
          (have HEF : Hid (∀ A2 c2 A3 c3 MA MN MC, EFit (⟨e.asked, e.told, e.kind, e.gen, A2, c2, e.files, e.err, e.agen, e.floor, A3, c3, e.afiles, MA, MN, MC⟩ : EvD)) := Lib.hid fun _ _ _ _ _ _ _ => ⟨hef.1, hef.2.1, hef3⟩); (have HCO : Hid (∀ A2 c2 A3 c3 MA MN MC, coreE (⟨e.asked, e.told, e.kind, e.gen, A2, c2, e.files, e.err, e.agen, e.floor, A3, c3, e.afiles, MA, MN, MC⟩ : EvD) = coreE (cutE t e)) := Lib.hid fun _ _ _ _ _ _ _ => (by unfold cutE; rw [if_neg htold]; rfl)); (have HEB := Lib.hid (Blk.new wr 54 #[Value.int .i64 e.asked, .int .i64 e.told, .int .i64 e.kind, .int .i64 e.gen, .slice e.fA e.files.length e.fC, .int .i64 e.err, .int .i64 e.agen, .int .i64 e.floor, (.slice e.aA e.afiles.length e.aC), (.slice e.mA e.mN e.mC)])); (have hbx : Below wr.heap.size wr (wr.alloc (.cells #[Value.int .i64 e.asked, .int .i64 e.told, .int .i64 e.kind, .int .i64 e.gen, .slice e.fA e.files.length e.fC, .int .i64 e.err, .int .i64 e.agen, .int .i64 e.floor, (.slice e.aA e.afiles.length e.aC), (.slice e.mA e.mN e.mC)] 54)) := (Below.refl _ _).alloc (Nat.le_refl _) _); (obtain ⟨t0, t1, t2, t3, t4, t5, t6, t7, t8, t9⟩ := evx HEB.out); clear hef; (go_wp2_with (first | (go_at_call 51; (with_reducible refine (CF.out _ hbx).mono ?_); rintro x w2 ⟨V2, rfl, hv2, hb2⟩; obtain ⟨A2, c2, rfl, _, _, _⟩ := own_arr hv2; have he2 := HEB.out.below hb2 HEB.out.lt; have z4 := he2.frozen 4; obtain ⟨p0, p1, p2, p3, p4, p5, p6, p7, p8, p9⟩ := evx he2; have he3 : Blk (w2.setCell ⟨wr.heap.size, 4, none⟩ (.slice A2 e.files.length c2)) wr.heap.size 54 #[Value.int .i64 e.asked, .int .i64 e.told, .int .i64 e.kind, .int .i64 e.gen, .slice A2 e.files.length c2, .int .i64 e.err, .int .i64 e.agen, .int .i64 e.floor, (.slice e.aA e.afiles.length e.aC), (.slice e.mA e.mN e.mC)] := he2.set_ 4 (.slice A2 e.files.length c2); obtain ⟨s0, s1, s2, s3, s4, s5, s6, s7, s8, s9⟩ := evx he3; have HE3 := Lib.hid he3; have HW2 := Lib.hid ((below_on hbx hb2).setCell (p := ⟨wr.heap.size, 4, none⟩) (Nat.le_refl _) (.slice A2 e.files.length c2)); have HN2 := Lib.hid (own_ne hv2 HEB.out.lt); have HV2 := Lib.hid (own_setbox (i := 4) (u := .slice A2 e.files.length c2) hv2 HN2.out); clear he2 he3 hv2 t0 t1 t2 t3 t4 t5 t6 t7 t8 t9) | (go_at_call 51; (with_reducible refine (CA.out _ HW2.out).mono ?_); rintro x w3 ⟨V3, rfl, hv3, hb3⟩; obtain ⟨A3, c3, rfl, _, _, _⟩ := own_arr hv3; have he4 := HE3.out.below hb3 HE3.out.lt; have z8 := he4.frozen 8; obtain ⟨q0, q1, q2, q3, q4, q5, q6, q7, q8, q9⟩ := evx he4; have he5 : Blk (w3.setCell ⟨wr.heap.size, 8, none⟩ (.slice A3 (e.afiles).length c3)) wr.heap.size 54 #[Value.int .i64 e.asked, .int .i64 e.told, .int .i64 e.kind, .int .i64 e.gen, .slice A2 e.files.length c2, .int .i64 e.err, .int .i64 e.agen, .int .i64 e.floor, .slice A3 (e.afiles).length c3, (.slice e.mA e.mN e.mC)] := he4.set_ 8 (.slice A3 (e.afiles).length c3); obtain ⟨r0, r1, r2, r3, r4, r5, r6, r7, r8, r9⟩ := evx he5; have HE5 := Lib.hid he5; have HW3 := Lib.hid ((below_on HW2.out hb3).setCell (p := ⟨wr.heap.size, 8, none⟩) (Nat.le_refl _) (.slice A3 (e.afiles).length c3)); have HN3 := Lib.hid (own_ne hv3 HE3.out.lt); have HV3 := Lib.hid (own_setbox (i := 8) (u := .slice A3 (e.afiles).length c3) hv3 HN3.out); have HV23 := Lib.hid (own_setbox (i := 8) (u := .slice A3 (e.afiles).length c3) (own_below HV2.out hb3) HN2.out); clear he4 he5 hv3 s0 s1 s2 s3 s4 s5 s6 s7 s8 s9 p0 p1 p2 p3 p4 p5 p6 p7 p8 p9) | (go_at_call 36; (with_reducible refine (CM.out _ HW3.out).mono ?_); rintro x w4 ⟨MA, MN, MC, rfl, hb4⟩; have he6 := HE5.out.below hb4 HE5.out.lt; have z9 := he6.frozen 9; obtain ⟨d0, d1, d2, d3, d4, d5, d6, d7, d8, d9⟩ := evx he6; have he7 : Blk (w4.setCell ⟨wr.heap.size, 9, none⟩ (.slice MA MN MC)) wr.heap.size 54 #[Value.int .i64 e.asked, .int .i64 e.told, .int .i64 e.kind, .int .i64 e.gen, .slice A2 e.files.length c2, .int .i64 e.err, .int .i64 e.agen, .int .i64 e.floor, .slice A3 (e.afiles).length c3, .slice MA MN MC] := he6.set_ 9 (.slice MA MN MC); obtain ⟨f0, f1, f2, f3, f4, f5, f6, f7, f8, f9⟩ := evx he7; have HW4 := Lib.hid ((below_on HW3.out hb4).setCell (p := ⟨wr.heap.size, 9, none⟩) (Nat.le_refl _) (.slice MA MN MC)); have HV34 := Lib.hid (own_setbox (i := 9) (u := .slice MA MN MC) (own_below HV3.out hb4) HN3.out); have HV24 := Lib.hid (own_setbox (i := 9) (u := .slice MA MN MC) (own_below HV23.out hb4) HN2.out); clear he6 he7 r0 r1 r2 r3 r4 r5 r6 r7 r8 r9 q0 q1 q2 q3 q4 q5 q6 q7 q8 q9) | (at_builtin; (have hg6 := HG.out.below HW4.out); refine wpList_push rfl _ _ _ rfl Tryd.underlying43 fi0 fz0 fz1 fz2 ev_zero (by decide) hg6.row rfl (by rw [World.size_setCell]; rfl) rfl (by intro u hu; simp at hu; rcases hu with rfl | rfl | rfl | rfl | rfl | rfl | rfl | rfl | rfl | rfl <;> rfl) (by have := HLN.out; unfold maxLen; omega) (by have := HLN.out; omega) (Nat.le_trans HB.out.size HW4.out.size) ?_; intro g7 cap7 w7 hown7 hgr7 hat7; have HG7 := Lib.hid (hg6.push (e := (⟨e.asked, e.told, e.kind, e.gen, A2, c2, e.files, e.err, e.agen, e.floor, A3, c3, e.afiles, MA, MN, MC⟩ : EvD)) hgr7 hown7 (own_mono HV24.out (Nat.zero_le _)) (own_mono HV34.out (Nat.zero_le _)) (HEF.out A2 c2 A3 c3 MA MN MC)); have hB7 := Lib.hid ((HB.out.trans (HW4.out.mono HB.out.size)).grown hgr7 (Nat.le_trans HB.out.size HW4.out.size) (fun j hj => (hg6.row.lt j hj).1))) | (fail))); go_roundw; (case rel => unfold CutQ; exact ⟨k + 1, l' ++ [(⟨e.asked, e.told, e.kind, e.gen, A2, c2, e.files, e.err, e.agen, e.floor, A3, c3, e.afiles, MA, MN, MC⟩ : EvD)], by omega, by go_num, Lib.hid (by have := HLN.out; rw [List.length_append]; simp; omega), Lib.hid (by rw [HSN.out, List.map_append, List.map_append, HCE.out, List.map_cons, HCO.out]; rfl), by have h7 := HG7.out; exact Lib.hid (grow_len h7), hB7.out⟩); (case measure => simp [intOf] <;> omega)
    · have kl : ¬ (k : Int) < l.length := by omega
      have hkl : k = l.length := by omega
      have hce := HCE.out
      rw [hkl, List.take_length] at hce
      have HCF := Lib.hid hce
      clear hce hkl
      go_wp2
      go_ret
      unfold CutOut
      exact ⟨_, l', rfl, HG.out, HCF.out, hB⟩
end Go.Proofs.YtakdngcgjahafaaDoor
