/- Chapter 22: the document's holds. -/
import Derived.Test.YtakdngcgjahafaaDoorSp28
namespace Go.Proofs.YtakdngcgjahafaaDoor
open Go.RowKit
set_option linter.unusedVariables false

def HrR (w : World) (D G : Nat) (l : List EvD) (s : List Int) (R : Bool) (v : Value) (wr : World) : Prop := ∃ (k : Nat) (d : List Bool) (g : LogD) (VG : Value), k ≤ s.length ∧ v = .int .i64 k ∧ d.length = l.length ∧
  Hid (holdsGo tells l (s.drop k) d g = R) ∧ Hid (Blk wr D 4 (drow d)) ∧ Hid (Blk wr G 27 #[.int .i64 g.floor, VG]) ∧ Hid (wr.ownsRow 0 9 1 VG g.trees.length (g.trees.map Value.string)) ∧
  Hid (GoodL g (300 - undone d)) ∧ Hid (Below w.heap.size w wr)
set_option maxHeartbeats 8000000 in
set_option maxRecDepth 100000 in
theorem holds_ref (w : World) (hm : Ml w) {V : Value} {l : List EvD} (hh : Hist w V l) (hE : ∀ e ∈ l, EFit e) (hl : l.length ≤ 1048576) (SA : Option Addr) (SC : Nat) (s : List Int) (hs : s.length ≤ 9223372036854775807) (hsa : Arr w w.heap.size 1 SA s.length (s.map fun (i : Int) => Value.int .i64 i)) :
    Calls Tryd.prog 22 #[V, .slice SA s.length SC] w fun e w' => e = .returned (.bool (holdsP l s)) ∧ Below w.heap.size w w' := by
  obtain ⟨A, c, rfl, hcap, ha, _⟩ := own_arr hh.row
  have RG := Lib.hid (evs_right_ref A c l w (by omega) ha)
  cases hrr : rightP l with
  | false =>
    rw [show holdsP l s = false by unfold holdsP; rw [hrr]; rfl]
    rw [hrr] at RG
    clear ha hrr hsa
    go_enter Tryd.func22, Tryd.ntmps22
    go_wp2_with (go_at_call 21; (with_reducible refine (RG.out).mono ?_); rintro x w1 ⟨rfl, hb1⟩)
    go_ret
    exact ⟨rfl, hb1⟩
  | true =>
    obtain ⟨R, hR⟩ : ∃ R, R = holdsGo tells l s (List.replicate l.length false) ⟨0, []⟩ := ⟨_, rfl⟩
    rw [show holdsP l s = R by unfold holdsP; rw [hrr, hR]; rfl]
    have hl2 := right_len hrr
    rw [hrr] at RG
    have HH := Lib.hid hh
    have HE := Lib.hid hE
    have HS := Lib.hid hsa
    have HM := Lib.hid hm
    have hmk := made_done l.length hl2
    have HR : Hid (holdsGo tells l (s.drop 0) (List.replicate l.length false) ⟨0, []⟩ = R) := Lib.hid (by rw [hR]; rfl)
    have hg0 : Hid (GoodL ⟨0, []⟩ (300 - undone (List.replicate l.length false))) := Lib.hid ⟨by decide, by decide, by simp, by simp⟩
    clear ha hrr hsa hR hh hE hm
    go_enter Tryd.func22, Tryd.ntmps22
    go_wp2_with (go_at_call 21; (with_reducible refine (RG.out).mono ?_); rintro x w1 ⟨rfl, hb1⟩; have hb3 := (hb1.alloc hb1.size (.cells (drow (List.replicate l.length false)) 4)).alloc (by simp; exact Nat.le_succ_of_le hb1.size) (.cells #[Value.int .i64 0, .slice none 0 0] 27); have hD0 := (Blk.new w1 4 (drow (List.replicate l.length false))).alloc (.cells #[Value.int .i64 0, .slice none 0 0] 27); have hG0 := Blk.new' (w := w1.alloc (.cells (drow (List.replicate l.length false)) 4)) (g := w1.heap.size + 1) (by simp) 27 #[Value.int .i64 0, .slice none 0 0])
    generalize hD : w1.heap.size = D at *
    generalize hG : D + 1 = G at *
    generalize (w1.alloc (.cells (drow (List.replicate l.length false)) 4)).alloc (.cells #[Value.int .i64 0, .slice none 0 0] 27) = w3 at *
    have hwD : w.heap.size ≤ D := by rw [← hD]; exact hb1.size
    have hDG : D ≠ G := by omega
    have HD0 := Lib.hid hD0
    have HG0 := Lib.hid hG0
    have HB3 := Lib.hid hb3
    clear hD0 hG0 hb3 hD hb1
    go_loopw [7] (fun v wr => HrR w D G l s R v wr) (fun v _ => s.length - (intOf v).toNat)
    case atStart => unfold HrR; exact ⟨0, List.replicate l.length false, ⟨0, []⟩, _, Nat.zero_le _, rfl, List.length_replicate, HR, HD0, HG0, Lib.hid (World.ownsRow_nil _ _ _ _), hg0, HB3⟩
    case round =>
      unfold HrR at hrel
      obtain ⟨k, d, g, VG, hk, rfl, hdl, HT, HDi, HGi, HVi, HGG, HBi⟩ := hrel
      by_cases hlt : k < s.length
      · obtain ⟨i, hi⟩ : ∃ i, s[k]? = some i := ⟨_, List.getElem?_eq_getElem hlt⟩
        obtain ⟨sb, so, rfl, hsb, hscell⟩ := HS.out.2 (by omega)
        have s0 : wr.cell? ⟨sb, so + k, none⟩ = some (.int .i64 i) := (HBi.out.cell (p := ⟨sb, so + k, none⟩) hsb).trans (hscell k _ (by rw [List.getElem?_map, hi]; rfl))
        have kl : (k : Int) < s.length := by omega
        have H := HT.out
        rw [drop_head hi, holdsGo] at H
        clear hi hscell
        by_cases hneg : i < 0
        · have HST := Lib.hid (show false = R by rw [← H]; unfold atI; rw [if_pos hneg])
          clear H
          go_wp2
          go_ret
          exact ⟨by rw [← HST.out]; rfl, HBi.out⟩
        · obtain ⟨j, rfl⟩ := Int.eq_ofNat_of_zero_le (show 0 ≤ i by omega)
          rw [at_nat] at H
          by_cases hjl : j < l.length
          · have jl : (j : Int) < l.length := by omega
            have jl2 : ¬ (l.length : Int) ≤ j := by omega
            obtain ⟨e, he⟩ : ∃ e, l[j]? = some e := ⟨_, List.getElem?_eq_getElem hjl⟩
            obtain ⟨q, hq⟩ : ∃ q, d[j]? = some q := ⟨_, List.getElem?_eq_getElem (by omega)⟩
            have x0 := drow_cell HDi.out hq
            rw [he, Int.toNat_natCast] at H
            simp only [] at H
            have hdd : d.getD j true = q := by rw [List.getD_eq_getElem?_getD, hq]; rfl
            rw [hdd] at H
            cases q with
            | true =>
              have HST := Lib.hid (show false = R by rw [← H]; rfl)
              clear H
              go_wp2
              go_ret
              exact ⟨by rw [← HST.out]; rfl, HBi.out⟩
            | false =>
              have hgl := HGG.out
              have hEe := HE.out e (List.mem_of_getElem? he)
              obtain ⟨VA, VC, rfl, _, _, _⟩ := own_arr HVi.out
              have hGi := HGi.out
              obtain ⟨z0, z1, _, _⟩ := hcells hGi
              have NX := Lib.hid (next_ref wr (HM.out.on HBi.out) (V := .slice A l.length c) (hh := HH.out.below HBi.out) (hD := own_blk HDi.out hdl hl2) hdl hl2 he hEe hgl (by omega) HVi.out)
              unfold NextOut at NX
              have hgd := Lib.hid (do_good hgl (callOf e))
              have hun := Lib.hid (undone_set hq)
              generalize doP g (callOf e) = DR at *
              obtain ⟨⟨fl3, L3⟩, AN⟩ := DR
              simp only [] at NX H
              cases hT9 : (freeGo j e.asked 0 l d && tells g e) with
              | false =>
                have HT9 := Lib.hid hT9
                have HST := Lib.hid (show false = R by rw [← H]; simp only [Bool.not_false, Bool.true_and]; rw [hT9]; rfl)
                clear H hT9 he hq hgl hEe hdd hGi
                go_wp2_with (go_at_call 42; (with_reducible refine (NX.out).mono ?_); rintro x w2 ⟨fl9, A9, n9, c9, t9, rfl, ht9, htt, hb2⟩; rw [HT9.out] at ht9; subst ht9)
                go_ret
                exact ⟨by rw [← HST.out]; rfl, (below_on HBi.out hb2).alloc (below_on HBi.out hb2).size _⟩
              | true =>
                have HT9 := Lib.hid hT9
                have HST := Lib.hid (show holdsGo tells l (s.drop (k + 1)) (d.set j true) ⟨fl3, L3⟩ = R by rw [← H]; simp only [Bool.not_false, Bool.true_and]; rw [hT9]; rfl)
                have HQ := Lib.hid hq
                clear H hT9 he hq hgl hEe hdd hGi
                go_wp2_with (first | ((go_at_call 42; (with_reducible refine (NX.out).mono ?_); rintro x w2 ⟨fl9, A9, n9, c9, t9, rfl, ht9, htt, hb2⟩; rw [HT9.out] at ht9; subst ht9); obtain ⟨e1, e2, hv9⟩ := htt rfl; have e1' := e1.symm; subst e1'; subst e2; have hD2 := HDi.out.below hb2 HDi.out.lt; have hG2 := HGi.out.below hb2 HGi.out.lt; have hlD := hD2.lt; have hlG := hG2.lt; have x1 := hD2.frozen j; have x2 := drow_cell hD2 HQ.out; have hG3 : Blk (w2.setCell ⟨D, j, none⟩ (.bool true)) G 27 _ := hG2.far (p := ⟨D, j, none⟩) hDG.symm _; obtain ⟨j0, j1, j2, j3⟩ := hcells hG2; obtain ⟨j4, j5, j6, j7⟩ := hcells hG3; have HD3 := Lib.hid (hD2.set_ j (.bool true)); have HG3 := Lib.hid hG3; have q1 : ¬ D = w2.heap.size := (by omega); have q2 : ¬ w2.heap.size = D := (by omega); have q3 : ¬ G = w2.heap.size := (by omega); have q4 : ¬ w2.heap.size = G := (by omega); have q5 : ¬ D = G := hDG; have q6 : ¬ G = D := hDG.symm; have HV9 := Lib.hid hv9; have HB2 := Lib.hid hb2; clear hD2 hG2 hG3 hv9 hb2 htt) | (fail))
                have HG4 : Blk ((((w2.setCell ⟨D, j, none⟩ (.bool true)).setCell ⟨G, 0, none⟩ (.int .i64 fl3)).setCell ⟨G, 1, none⟩ (.slice A9 L3.length c9)).alloc (.cells #[Value.int .i64 fl3, .slice A9 L3.length c9] 27)) G 27 #[.int .i64 fl3, .slice A9 L3.length c9] := ((HG3.out.set_ 0 _).set_ 1 _).alloc _
                have HD4 : Blk ((((w2.setCell ⟨D, j, none⟩ (.bool true)).setCell ⟨G, 0, none⟩ (.int .i64 fl3)).setCell ⟨G, 1, none⟩ (.slice A9 L3.length c9)).alloc (.cells #[Value.int .i64 fl3, .slice A9 L3.length c9] 27)) D 4 (drow (d.set j true)) := by rw [← drow_set]; exact ((HD3.out.far (p := ⟨G, 0, none⟩) hDG _).far (p := ⟨G, 1, none⟩) hDG _).alloc _
                have hvD := own_blk_ne HV9.out (HDi.out.below HB2.out HDi.out.lt) (by decide)
                have hvG := own_blk_ne HV9.out (HGi.out.below HB2.out HGi.out.lt) (by decide)
                have HV4 : ((((w2.setCell ⟨D, j, none⟩ (.bool true)).setCell ⟨G, 0, none⟩ (.int .i64 fl3)).setCell ⟨G, 1, none⟩ (.slice A9 L3.length c9)).alloc (.cells #[Value.int .i64 fl3, .slice A9 L3.length c9] 27)).ownsRow 0 9 1 (.slice A9 L3.length c9) L3.length (L3.map Value.string) := (own_setbox (own_setbox (own_setbox HV9.out hvD) hvG) hvG).alloc _
                have hGw : w.heap.size ≤ G := by omega
                have HB4 : Below w.heap.size w ((((w2.setCell ⟨D, j, none⟩ (.bool true)).setCell ⟨G, 0, none⟩ (.int .i64 fl3)).setCell ⟨G, 1, none⟩ (.slice A9 L3.length c9)).alloc (.cells #[Value.int .i64 fl3, .slice A9 L3.length c9] 27)) := ((((below_on HBi.out HB2.out).setCell (p := ⟨D, j, none⟩) hwD _).setCell (p := ⟨G, 0, none⟩) hGw _).setCell (p := ⟨G, 1, none⟩) hGw _).alloc (by simp only [World.size_setCell]; exact (below_on HBi.out HB2.out).size) _
                have HG5 : GoodL ⟨fl3, L3⟩ (300 - undone (d.set j true)) := by
                  have h1 := hgd.out
                  have h2 := hun.out
                  have h3 := undone_le d
                  exact ⟨h1.f0, h1.f1, Nat.le_trans h1.n (by omega), h1.s⟩
                go_roundw
                case rel => unfold HrR; exact ⟨k + 1, d.set j true, ⟨fl3, L3⟩, _, by omega, by go_num, by rw [List.length_set]; exact hdl, HST, Lib.hid HD4, Lib.hid HG4, Lib.hid HV4, Lib.hid HG5, Lib.hid HB4⟩
                case measure => simp [intOf] <;> omega
          · have jl2 : (l.length : Int) ≤ j := by omega
            have HST := Lib.hid (show false = R by rw [← H, List.getElem?_eq_none (by omega)])
            clear H
            go_wp2
            go_ret
            exact ⟨by rw [← HST.out]; rfl, HBi.out⟩
      · have kl : ¬ (k : Int) < s.length := by omega
        have H := HT.out
        rw [List.drop_eq_nil_of_le (by omega : s.length ≤ k), holdsGo] at H
        have OV := Lib.hid (over_ref wr (HH.out.below HBi.out) (own_blk HDi.out hdl hl2) hdl hl2)
        rw [H] at OV
        clear H HT
        go_wp2_with (go_at_call 43; (with_reducible refine (OV.out).mono ?_); rintro x w2 ⟨rfl, hb2⟩)
        go_ret
        exact ⟨rfl, below_on HBi.out hb2⟩
end Go.Proofs.YtakdngcgjahafaaDoor
