/- Chapter 11: the walk through BlobKeeps. -/
import Derived.Test.YtmcgaaihdjpdgaaDoorBlG
namespace Go.Proofs.YtmcgaaihdjpdgaaDoor
open Go.RowKit
set_option linter.unusedVariables false

theorem drop_E {b kb m n : Nat} {D : DataW Unit} {S : Nat → Prop} {l : List KpD} {R : List ByteArray} (s q : ByteArray) (w : World) (h : BS w b kb m n D S l R) (hn : n ≤ 65000) (hq : Marked D s q) :
    Calls Tryd.prog 20 #[.pointer (some ⟨b, 0, none⟩), .string q] w fun e w' => ∃ E, e = .returned (.int .i64 E) ∧ BS w' b kb m n D S (dropK l q) R ∧ Stp S S w w' := (drop_S s q w h hn hq).mono (fun e w' h => ⟨_, h⟩)
theorem need_zero {t : ByteArray} : ∀ {Rs : List RtD}, (∀ r ∈ Rs, occ t r.need = 0) → needT t Rs = 0
  | [], _ => rfl
  | r :: Rs, h => by rw [needT, h r (by simp), need_zero (fun r hr => h r (by simp [hr]))]
theorem keeps_push {w w4 w6 : World} {n : Nat} {D : DataW Unit} {S : Nat → Prop} {l : List KpD} {Rs : List RtD} {V T : Value} {P : List PE} {o : Obj} (h : LW w w4 n D S l Rs) (hp : PW w.heap.size w4 S T V P) (hg : (w4.alloc o).drew.grownBy w6 V.ownBlock) :
    w4.grownBy w6 V.ownBlock ∧ w6.cell? ⟨w.heap.size + 3, 1, none⟩ = some V ∧ w6.frozen? ⟨w.heap.size + 3, 1, none⟩ = false ∧ w6.cell? ⟨w.heap.size + 4, 2, none⟩ = some (.pointer (some ⟨w.heap.size + 3, 0, none⟩)) := by
  have h1 : w4.grownBy w6 V.ownBlock := only_trans (World.grownBy_alloc w4 o _) ⟨hg.os, hg.tape, hg.output, hg.size, hg.block⟩
  have hne : V.ownBlock ≠ some (w.heap.size + 3) := fun e => by have := (hp.off _ e).2; omega
  have h2 := hp.pb.grown h1 (fun e => hne e.symm)
  exact ⟨h1, h2.cell 1, h2.frozen 1, (h.wb.grown h1 (fun e => by have h5 := (hp.off _ e.symm).2; omega)).cell 2⟩
theorem keeps_push2 {w w4 w6 : World} {n : Nat} {D : DataW Unit} {S : Nat → Prop} {l : List KpD} {Rs : List RtD} {V T : Value} {P : List PE} {o : Obj} (h : LW w w4 n D S l Rs) (hp : PW w.heap.size w4 S T V P) (hg : (w4.alloc o).grownBy w6 V.ownBlock) :
    w4.grownBy w6 V.ownBlock ∧ w6.cell? ⟨w.heap.size + 3, 1, none⟩ = some V ∧ w6.frozen? ⟨w.heap.size + 3, 1, none⟩ = false ∧ w6.cell? ⟨w.heap.size + 4, 2, none⟩ = some (.pointer (some ⟨w.heap.size + 3, 0, none⟩)) :=
  keeps_push h hp (o := o) ⟨hg.os, hg.tape, hg.output, hg.size, hg.block⟩
set_option maxHeartbeats 4000000 in
set_option maxRecDepth 100000 in
theorem law_keeps (A0 : Option Addr) (c0 : Nat) (L0 : List FileD) (A1 : Option Addr) (c1 : Nat) (L1 : List InOp) (w : World)
    (hz0 : L0.length * 40 ≤ 140737488351232) (hcap0 : L0.length ≤ c0) (hx0 : ∀ f ∈ L0, FFit f) (ha0 : Arr w w.heap.size 3 A0 L0.length (fcells L0))
    (hz1 : L1.length * 56 ≤ 140737488351232) (hcap1 : L1.length ≤ c1) (hx1 : ∀ x ∈ L1, OpIn w x) (ha1 : Arr w w.heap.size 4 A1 L1.length (opcells L1)) (hm : Ml w) :
    Calls Tryd.prog 4 #[.slice A0 L0.length c0, .slice A1 L1.length c1] w fun e w' => e = .returned (.bool true) ∧ Below w.heap.size w w' := by
  obtain ⟨i2, fi0, fz0, fz1, fz2⟩ := info_parts infoRoot
  have HA := Lib.hid awake11
  have HM := Lib.hid hm
  have HF := Lib.hid (fresh_any w)
  unfold FreshOut at HF
  have HX1 := Lib.hid hx1
  have HA0 := Lib.hid ha0
  have HA1 := Lib.hid ha1
  have HFW := Lib.hid (fun (W : World) (hb : Below w.heap.size w W) => few11_any A0 c0 L0 W (by omega) (fun f hf => (hx0 f hf).1) ((ha0.below hb).more hb.size))
  unfold FewOut at HFW
  have hok := few12_ok (l := L0) (fun f hf => (hx0 f hf).1)
  have hda := few12_data L0
  have hln := few12_len L0
  generalize few12 L0 = fl at *
  have HOK := Lib.hid hok
  have HDA := Lib.hid hda
  clear hm hx0 ha0 hx1 ha1 hok hda
  by_cases hE : checkE fl = 0
  · have HE := Lib.hid hE
    clear hE
    go_enter Tryd.func4, Tryd.ntmps4
    go_upto_region 6 with (first
      | (go_at_call 11; (with_reducible refine (HF.out).mono ?_); rintro e w2 ⟨rfl, hw2, hp2, hbs2, hb2, hs2⟩; have HL2 := Lib.hid (LW.new hbs2 hw2 hb2); have HP2 := Lib.hid (PW.nil (S := SB0 w.heap.size) hp2); clear hp2 hbs2 hs2 hw2)
      | (go_at_call 15; (with_reducible refine (HFW.out _ hb2).mono ?_); rintro e w3 ⟨V3, rfl, ho3, hb3⟩; obtain ⟨AF, cF, rfl, _, haF, _⟩ := own_arr ho3; have HL3 := Lib.hid (HL2.out.below hb3); have HP3 := Lib.hid (HP2.out.below hb3); have HAF := Lib.hid haF; have HAD := Lib.hid (fun g o e => own_addr (g := g) (o := o) ho3 e); obtain ⟨k0, k1, k2, _, _, _⟩ := tcellsK HL3.out.wb; clear haF ho3 hb3 hb2)
      | (go_at_call 16; (with_reducible refine (save_ok AF cF fl HL3.out (by omega) (by omega) HOK.out HDA.out HAF.out (fun g o e hk => by have h1 := (HAD.out g o e).1; have h2 := HL2.out.bs.lt hk; omega) HM.out HE.out).mono ?_); rintro e w4 ⟨r, D4, S4, l4, rfl, hrf, hL4, hst4, hmo4, hc4⟩; have HL4 := Lib.hid hL4; have HST4 := Lib.hid hst4; have HC4 := Lib.hid hc4; have HRF := Lib.hid hrf; obtain ⟨k0, k1, k2, _, _, _⟩ := tcellsK hL4.wb; clear hL4 hst4 hmo4 hc4 hrf)
      | fail)
    have HP4 := Lib.hid (HP3.out.step HST4.out (fun hk => (HL3.out.lo _ hk).2.1 rfl))
    obtain ⟨p0, p1⟩ : w4.cell? ⟨w.heap.size + 3, 0, none⟩ = some (.slice none 0 0) ∧ w4.cell? ⟨w.heap.size + 3, 1, none⟩ = some (.slice none 0 0) := ⟨HP4.out.pb.cell 0, HP4.out.pb.cell 1⟩
    go_cut [54] from 39 to 56 (fun v wx => ∃ (D : DataW Unit) (S : Nat → Prop) (l : List KpD) (V : Value), Hid (KS w wx (0 + 2 * fl.length + 1) D S l [r] V [⟨AF, cF, fl, r.q, true⟩]))
    case first =>
      have HL5 := HL4.out.big
      have HK3 : Hid (KS w w3 0 (.map []) (SB0 w.heap.size) [] [] (.slice none 0 0) []) := Lib.hid ⟨HL3.out, HP3.out, fun t => Int.le_refl _, by simp, by simp, by simp⟩
      have HY : Hid (Arr w4 w4.heap.size 3 AF fl.length (fcells fl) ∧ ∀ g o, AF = some ⟨g, o, none⟩ → ¬ S4 g ∧ w.heap.size + 5 ≤ g ∧ g < w4.heap.size ∧ (Value.slice none 0 0).ownBlock ≠ some g) := Lib.hid ⟨HAF.out.fr HST4.out.1 (fun g o e hk => by have h1 := (HAD.out g o e).1; have h2 := HL2.out.bs.lt hk; omega), fun g o e => by
        obtain ⟨a, b⟩ := HAD.out g o e
        have h2 := HL2.out.big
        refine ⟨fun hk => ?_, by omega, Nat.lt_of_lt_of_le b HST4.out.1.size, fun h => by cases h⟩
        rcases HST4.out.2 g hk with h3 | h3
        · have := HL2.out.bs.lt h3
          omega
        · omega⟩
      obtain ⟨p1', k2'⟩ : (w4.alloc (.cells #[.slice AF fl.length cF, .string r.q, .bool true] 47)).cell? ⟨w.heap.size + 3, 1, none⟩ = some (.slice none 0 0) ∧ (w4.alloc (.cells #[.slice AF fl.length cF, .string r.q, .bool true] 47)).cell? ⟨w.heap.size + 4, 2, none⟩ = some (.pointer (some ⟨w.heap.size + 3, 0, none⟩)) := ⟨(HP4.out.pb.alloc _).cell 1, (HL4.out.wb.alloc _).cell 2⟩
      go_region_law (first
        | (refine step_append_lies _ rfl (.tmp 49) (.tmp 53) 42 rfl w.heap.size 47 i2 _ 3 48 Tryd.underlying42 fi0 fz0 fz1 fz2 root_zero (by decide) _ 0 _ rfl (World.ownsRow_nil _ _ _ _) ⟨w4.heap.size, 0, none⟩ 1 1 (pcell ⟨AF, cF, fl, r.q, true⟩) rfl rfl (World.news_of_block (t := 47) (fr := (0, 0)) (cs := #[.slice AF fl.length cF, .string r.q, .bool true]) (Blk.new w4 _ _)) (root_one _) (by decide) (by decide) (by decide) (Nat.le_trans (show w.heap.size ≤ w4.heap.size by omega) ((Below.refl w4.heap.size w4).alloc (Nat.le_refl _) _).size) _ rfl ?_; intro g6 cap6 w6 hown6 hgr6 hat6 hlt6; have HWR := Lib.hid (keeps_push (V := .slice none 0 0) HL4.out HP4.out hgr6); have HO6 := Lib.hid hown6; have HAT6 : Hid ((Value.slice none 0 0).ownBlock = some g6 ∨ w4.heap.size ≤ g6) := Lib.hid (hat6.imp id (fun e => by rw [e]; exact ((Below.refl w4.heap.size w4).alloc (Nat.le_refl _) _).size)); obtain ⟨p1, z1, k2⟩ := HWR.out.2; clear hown6 hgr6 hat6 hlt6)
        | (fail))
      all_goals (go_wp2_with fail; go_meet; exact ⟨D4, S4, l4, _, Lib.hid (KS.root ⟨AF, cF, fl, r.q, true⟩ HK3.out rfl HRF.out.symm rfl hln HL4.out HP4.out HC4.out HO6.out HWR.out.1 HAT6.out HY.out.1 HY.out.2).1⟩)
    case rest =>
      obtain ⟨D0, S0, l0, V0, HK0⟩ := hcut
      have HAD2 := Lib.hid (True.intro)
      clear k0 k1 k2 p0 p1 HP4 HL4 HST4 HC4 HL3 HP3 HL2 HP2 HAF HAD HAD2
      go_wp2
      go_loopw [8] (fun vi wr => ∃ (i n : Nat) (D : DataW Unit) (S : Nat → Prop) (l : List KpD) (Rs : List RtD) (V : Value) (P : List PE), i ≤ L1.length ∧ i ≤ 20 ∧ n ≤ 25 + 25 * i ∧ P.length ≤ i + 1 ∧ vi = .int .i64 i ∧ Hid (KS w wr n D S l Rs V P) ∧ Hid (r ∈ Rs ∧ (⟨AF, cF, fl, r.q, true⟩ : PE) ∈ P)) (fun vi _ => L1.length - (intOf vi).toNat)
      case atStart => exact ⟨0, _, _, _, _, _, _, _, Nat.zero_le _, by omega, by omega, by simp, rfl, HK0, Lib.hid ⟨by simp, by simp⟩⟩
      case round =>
        obtain ⟨i, n, D, S, l, Rs, V, P, hi, hi20, hn, hPl, rfl, HK, HR0⟩ := hrel
        obtain ⟨k0, k1, k2, _, _, _⟩ := tcellsK HK.out.lw.wb
        by_cases hend : i < L1.length ∧ i < 20
        · obtain ⟨hlt, h20⟩ := hend
          obtain ⟨x, hx⟩ : ∃ x, L1[i]? = some x := ⟨_, List.getElem?_eq_getElem hlt⟩
          obtain ⟨bA, oA, rfl, hbA, hcell⟩ := HA1.out.2 (by omega)
          obtain ⟨c0', c1', c2', c3'⟩ := op_cells (fun j u h => (HK.out.lw.bl.cell (p := ⟨bA, oA + j, none⟩) hbA).trans (hcell j u h)) hx
          have HXI := Lib.hid (HX1.out x (List.mem_of_getElem? hx))
          have i1 : (i : Int) < L1.length := by omega
          have i20 : (i : Int) < 20 := by omega
          clear hcell hx
          go_upto_region 10 with fail
          go_cut [9] from 57 to 138 (fun v9 wx => ∃ (g : Nat), v9 = .pointer (some ⟨g, 0, none⟩) ∧ Hid (KS w wx n D S l Rs V P) ∧ Hid (Blk wx g 49 #[.int .i64 x.kind, .int .i64 x.n, .string x.text, .slice x.fA x.files.length x.fC] ∧ ¬ S g ∧ w.heap.size + 5 ≤ g ∧ ∀ k, V.ownBlock = some k → k ≠ g))
          case first =>
            have hbig := HK.out.lw.big
            have hlt5 : ∀ k, S k → k < wr.heap.size := fun k hk => HK.out.lw.bs.lt hk
            go_wp2_with fail
            go_meet
            exact ⟨wr.heap.size, rfl, Lib.hid (HK.out.below ((Below.refl wr.heap.size wr).alloc (Nat.le_refl _) _)), Lib.hid ⟨Blk.new _ _ _, fun hk => by have := hlt5 _ hk; omega, hbig, fun k e => by have := (HK.out.pw.row.lt k e).2; omega⟩⟩
          case rest =>
          obtain ⟨g, rfl, HKc, HBc⟩ := hcut
          have hgl := HBc.out.1.lt
          have b0 := HBc.out.1.cell 0
          have b2 := HBc.out.1.cell 2
          have b3 := HBc.out.1.cell 3
          obtain ⟨k0, k1, k2, _, _, _⟩ := tcellsK HKc.out.lw.wb
          clear c0' c1' c2' c3'
          by_cases h3 : x.kind = 3
          · have hfi := HXI.out.1
            have hok := few12_ok (l := x.files) (fun f hf => (hfi.2.1 f hf).1)
            have hda := few12_data x.files
            have hln2 := few12_len x.files
            have HFW := Lib.hid (fun (W : World) (hb : Below w.heap.size w W) => few11_any x.fA x.fC x.files W hfi.1 (fun f hf => (hfi.2.1 f hf).1) ((hfi.2.2.below hb).more hb.size))
            unfold FewOut at HFW
            generalize few12 x.files = fx at *
            have HOK := Lib.hid hok
            have HDA := Lib.hid hda
            have HLD := Lib.hid (HKc.out.below (Below.drew (Below.refl wc.heap.size wc)))
            have HBOX := Lib.hid (show ∀ (W : World) (S' : Nat → Prop), Stp S S' wc W → W.cell? ⟨g, 3, none⟩ = some (.slice x.fA x.files.length x.fC) from fun W S' hs => (hs.1.blk HBc.out.1 HBc.out.2.1).cell 3)
            clear hfi hok hda
            by_cases hE2 : checkE fx = 0
            · have HE2 := Lib.hid hE2
              clear hE2
              go_upto_region 12 with fail
              go_cut [10, 11] from 57 to 138 (fun v10 v11 wx => ∃ (r2 : RtD) (D' : DataW Unit) (S' : Nat → Prop) (l' : List KpD), v10 = .string r2.q ∧ v11 = .int .i64 0 ∧ r2.fl = fx ∧ Hid (LW w wx (n + 2 * fx.length + 1) D' S' l' (Rs ++ [r2])) ∧ Hid (Stp S S' wc wx) ∧ Hid (∀ t, cntT l' t = cntT l t + occ t r2.need))
              case first =>
                go_region_held3 (fun w' => (w'.cell? ⟨w.heap.size + 4, 0, none⟩ = some (.pointer (some ⟨w.heap.size + 2, 0, none⟩))) ∧ w'.cell? ⟨g, 3, none⟩ = some (.slice x.fA x.files.length x.fC)) (first | exact ⟨k0, b3⟩ | exact kkA | exact kkB)
                  (first
                  | (go_at_call 15; (with_reducible refine (HFW.out _ HLD.out.lw.bl).mono ?_); rintro e wa ⟨Va, rfl, hoa, hba⟩; obtain ⟨AX, cX, rfl, _, haX, _⟩ := own_arr hoa; have HLA := Lib.hid (HLD.out.lw.below hba); have hstA : Stp S S wc wa := Stp.below ((Below.drew (Below.refl _ _)).trans (hba.mono (Below.drew (Below.refl wc.heap.size wc)).size)); have kkA := And.intro (HLA.out.wb.cell 0) (HBOX.out wa S hstA); have HSA := Lib.hid hstA; have HSV := Lib.hid (save_ok AX cX fx HLA.out (by omega) (by omega) HOK.out HDA.out haX (fun g o e hk => by have h1 := (own_addr hoa e).1; have h2 := HLD.out.lw.bs.lt hk; omega) HM.out HE2.out); clear haX hoa hba hstA)
                  | (go_at_call 16; (with_reducible refine (HSV.out).mono ?_); rintro e wb ⟨r2, D', S', l', rfl, hrf, hLb, hstb, hmob, hcb⟩; have HLB := Lib.hid hLb; have HCB := Lib.hid hcb; have HSB := Lib.hid (HSA.out.trans hstb); have HRF2 := Lib.hid hrf; have kkB := And.intro (hLb.wb.cell 0) (HBOX.out wb S' HSB.out); clear hLb hcb hstb hmob hrf)
                  | (fail))
                all_goals (go_wp2_with fail; go_meet; exact ⟨r2, D', S', l', rfl, rfl, HRF2.out, HLB, HSB, HCB⟩)
              case rest =>
                obtain ⟨r2, D', S', l', rfl, rfl, hrf2, HLB, HSB, HCB⟩ := hcut
                have HPn := Lib.hid (HKc.out.pw.step HSB.out (fun hk => (HKc.out.lw.lo _ hk).2.1 rfl))
                have b3 := HBOX.out wc S' HSB.out
                have HBN := Lib.hid (show ∀ W, Below wc.heap.size wc W → Blk W g 49 #[.int .i64 x.kind, .int .i64 x.n, .string x.text, .slice x.fA x.files.length x.fC] from fun W hb => (HSB.out.1.blk HBc.out.1 HBc.out.2.1).below hb (HSB.out.1.blk HBc.out.1 HBc.out.2.1).lt)
                have HVG := Lib.hid HBc.out.2.2.2
                have HHK := HKc
                clear HKc HLD k0 k1 k2 b0 b2 HBc hgl HBOX HK
                obtain ⟨k0, k1, k2, _, _, _⟩ := tcellsK HLB.out.wb
                obtain ⟨AV, cV, rfl, _, _, _⟩ := own_arr HPn.out.row
                have p1 := HPn.out.pb.cell 1
                have p1 : wc.cell? ⟨w.heap.size + 3, 1, none⟩ = some (.slice AV P.length cV) := p1
                have hbigc := HLB.out.big
                have HVL := Lib.hid (fun k e => (HPn.out.row.lt k e).2)
                have HSL := Lib.hid (fun k hk => HLB.out.bs.lt (k := k) hk)
                go_upto_region 14 with fail
                refine wp_region_tail (S := fun w' => w'.cell? ⟨w.heap.size + 4, 2, none⟩ = some (.pointer (some ⟨w.heap.size + 3, 0, none⟩)) ∧ w'.cell? ⟨w.heap.size + 3, 1, none⟩ = some (.slice AV P.length cV) ∧ w'.cell? ⟨g, 3, none⟩ = some (.slice x.fA x.files.length x.fC)) 18 (by kernel_rfl) (by kernel_rfl) ⟨k2, p1, b3⟩ (fun hHeld => ?_)
                simp only [List.take_succ_cons, List.take_zero, List.drop_succ_cons, List.drop_zero]
                (refine wpAnyH_take (i := 0) (v := ?_) rfl (by kernel_rfl) (by kernel_rfl) (by kernel_rfl) (fun _ _ _ h => h) (Or.inl ⟨by rfl, ?_⟩) (by assumption) ?_; rotate_left 1; focus (intro w hSw; (try dsimp only at hSw); go_simp; (try with_reducible rfl)); (try simp only [List.getElem_toArray, List.getElem_cons_succ, List.getElem_cons_zero, Act.put, List.setIfInBounds_toArray, List.set_cons_zero, List.set_cons_succ]))
                (refine wpAnyH_take (i := 1) (v := ?_) rfl (by kernel_rfl) (by kernel_rfl) (by kernel_rfl) (fun _ _ _ h => h) (Or.inl ⟨by rfl, ?_⟩) (by assumption) ?_; rotate_left 1; focus (intro w hSw; (try dsimp only at hSw); go_simp; (try with_reducible rfl)); (try simp only [List.getElem_toArray, List.getElem_cons_succ, List.getElem_cons_zero, Act.put, List.setIfInBounds_toArray, List.set_cons_zero, List.set_cons_succ]))
                (refine wpAnyH_take (i := 2) (v := ?_) rfl (by kernel_rfl) (by kernel_rfl) (by kernel_rfl) (fun _ _ _ h => h) (Or.inl ⟨by rfl, ?_⟩) (by assumption) ?_; rotate_left 1; focus (intro w hSw; (try dsimp only at hSw); go_simp; (try with_reducible rfl)); (try simp only [List.getElem_toArray, List.getElem_cons_succ, List.getElem_cons_zero, Act.put, List.setIfInBounds_toArray, List.set_cons_zero, List.set_cons_succ]))
                (refine wpAnyH_take (i := 3) (v := ?_) rfl (by kernel_rfl) (by kernel_rfl) (by kernel_rfl) (fun _ _ _ h => h) (Or.inl ⟨by rfl, ?_⟩) (by assumption) ?_; rotate_left 1; focus (intro w hSw; (try dsimp only at hSw); go_simp; (try with_reducible rfl)); (try simp only [List.getElem_toArray, List.getElem_cons_succ, List.getElem_cons_zero, Act.put, List.setIfInBounds_toArray, List.set_cons_zero, List.set_cons_succ]))
                (refine wpAnyH_take (i := 4) (v := ?_) rfl (by kernel_rfl) (by kernel_rfl) (by kernel_rfl) (fun _ _ _ h => h) (Or.inl ⟨by rfl, ?_⟩) (by assumption) ?_; rotate_left 1; focus (intro w hSw; (try dsimp only at hSw); go_simp; (try with_reducible rfl)); (try simp only [List.getElem_toArray, List.getElem_cons_succ, List.getElem_cons_zero, Act.put, List.setIfInBounds_toArray, List.set_cons_zero, List.set_cons_succ]))
                (refine wpAnyH_take (i := 5) (v := ?_) rfl (by kernel_rfl) (by kernel_rfl) (by kernel_rfl) (fun _ _ _ h => h) (Or.inl ⟨by rfl, ?_⟩) (by assumption) ?_; rotate_left 1; focus (intro w hSw; (try dsimp only at hSw); go_simp; (try with_reducible rfl)); (try simp only [List.getElem_toArray, List.getElem_cons_succ, List.getElem_cons_zero, Act.put, List.setIfInBounds_toArray, List.set_cons_zero, List.set_cons_succ]))
                (refine wpAnyH_take (i := 6) (v := ?_) rfl (by kernel_rfl) (by kernel_rfl) (by kernel_rfl) (fun _ _ _ h => h) (Or.inl ⟨by rfl, ?_⟩) (by assumption) ?_; rotate_left 1; focus (intro w hSw; (try dsimp only at hSw); go_simp; (try with_reducible rfl)); (try simp only [List.getElem_toArray, List.getElem_cons_succ, List.getElem_cons_zero, Act.put, List.setIfInBounds_toArray, List.set_cons_zero, List.set_cons_succ]))
                (refine wpAnyH_take (i := 7) (v := ?_) rfl (by kernel_rfl) (by kernel_rfl) (by kernel_rfl) (fun _ _ _ h => h) (Or.inl ⟨by rfl, ?_⟩) (by assumption) ?_; rotate_left 1; focus (intro w hSw; (try dsimp only at hSw); go_simp; (try with_reducible rfl)); (try simp only [List.getElem_toArray, List.getElem_cons_succ, List.getElem_cons_zero, Act.put, List.setIfInBounds_toArray, List.set_cons_zero, List.set_cons_succ]))
                (refine wpAnyH_take (i := 8) (v := ?_) rfl (by kernel_rfl) (by kernel_rfl) (by kernel_rfl) (fun _ _ _ h => h) (Or.inl ⟨by rfl, ?_⟩) (by assumption) ?_; rotate_left 1; focus (intro w hSw; (try dsimp only at hSw); go_simp; (try with_reducible rfl)); (try simp only [List.getElem_toArray, List.getElem_cons_succ, List.getElem_cons_zero, Act.put, List.setIfInBounds_toArray, List.set_cons_zero, List.set_cons_succ]))
                (refine wpAnyH_take (i := 9) (v := ?_) rfl (by kernel_rfl) (by kernel_rfl) (by kernel_rfl) (fun _ _ _ h => h) (Or.inl ⟨by rfl, ?_⟩) (by assumption) ?_; rotate_left 1; focus (intro w hSw; (try dsimp only at hSw); go_simp; (try with_reducible rfl)); (try simp only [List.getElem_toArray, List.getElem_cons_succ, List.getElem_cons_zero, Act.put, List.setIfInBounds_toArray, List.set_cons_zero, List.set_cons_succ]))
                (refine wpAnyH_take (i := 10) (v := ?_) rfl (by kernel_rfl) (by kernel_rfl) (by kernel_rfl) (fun _ _ _ h => h) (Or.inl ⟨by rfl, ?_⟩) (by assumption) ?_; rotate_left 1; focus (intro w hSw; (try dsimp only at hSw); go_simp; (try with_reducible rfl)); (try simp only [List.getElem_toArray, List.getElem_cons_succ, List.getElem_cons_zero, Act.put, List.setIfInBounds_toArray, List.set_cons_zero, List.set_cons_succ]))
                (refine wpAnyH_take (i := 11) (v := ?_) rfl (by kernel_rfl) (by kernel_rfl) (by kernel_rfl) (fun _ _ _ h => h) (Or.inl ⟨by rfl, ?_⟩) (by assumption) ?_; rotate_left 1; focus (intro w hSw; (try dsimp only at hSw); go_simp; (try with_reducible rfl)); (try simp only [List.getElem_toArray, List.getElem_cons_succ, List.getElem_cons_zero, Act.put, List.setIfInBounds_toArray, List.set_cons_zero, List.set_cons_succ]))
                (refine wpAnyH_take (i := 12) (v := ?_) rfl (by kernel_rfl) (by kernel_rfl) (by kernel_rfl) (fun _ _ _ h => h) (Or.inl ⟨by rfl, ?_⟩) (by assumption) ?_; rotate_left 1; focus (intro w hSw; (try dsimp only at hSw); go_simp; (try with_reducible rfl)); (try simp only [List.getElem_toArray, List.getElem_cons_succ, List.getElem_cons_zero, Act.put, List.setIfInBounds_toArray, List.set_cons_zero, List.set_cons_succ]))
                (refine wpAnyH_take (i := 14) (v := ?_) rfl (by kernel_rfl) (by kernel_rfl) (by kernel_rfl) (fun _ _ _ h => h) (Or.inl ⟨by rfl, ?_⟩) (by assumption) ?_; rotate_left 1; focus (intro w hSw; (try dsimp only at hSw); go_simp; (try with_reducible rfl)); (try simp only [List.getElem_toArray, List.getElem_cons_succ, List.getElem_cons_zero, Act.put, List.setIfInBounds_toArray, List.set_cons_zero, List.set_cons_succ]))
                (refine wpAnyH_ready (rs := [13]) (by kernel_rfl) (by simp) (AllReadyH.cons rfl (fun K hK => ?_) AllReadyH.nil); (try simp (config := { proj := false }) only [List.getElem_toArray, List.getElem_cons_succ, List.getElem_cons_zero]))
                go_simp
                (go_at_call 15; (with_reducible refine (HFW.out _ (Below.drew HLB.out.bl)).mono ?_); rintro e wa ⟨Va, rfl, hoa, hba⟩; obtain ⟨AX, cX, rfl, _, haX, _⟩ := own_arr hoa; have HBA : Hid (Below wc.heap.size wc wa) := Lib.hid ((Below.drew (Below.refl _ _)).trans (hba.mono (Below.drew (Below.refl wc.heap.size wc)).size)); have HLA := Lib.hid (HLB.out.below HBA.out); have HPA := Lib.hid (HPn.out.below HBA.out); have HAX := Lib.hid haX; have HAD := Lib.hid (fun g o e => own_addr (g := g) (o := o) hoa e); have hba2 := HBA.out.size; have k2a := HLA.out.wb.cell 2; have p1a : wa.cell? ⟨w.heap.size + 3, 1, none⟩ = some (.slice AV P.length cV) := HPA.out.pb.cell 1; have b3a := (HBN.out wa HBA.out).cell 3; clear haX hoa hba)
                go_simp
                (refine hK.out _ _ ?_ (fun hHeld => ?_); rotate_left; clear hK K; (try simp only [Act.put, List.setIfInBounds_toArray, List.set_cons_zero, List.set_cons_succ]); rotate_right)
                · exact ⟨k2a, p1a, b3a⟩
                (refine wpAnyH_take (i := 15) (v := ?_) rfl (by kernel_rfl) (by kernel_rfl) (by kernel_rfl) (fun _ _ _ h => h) (Or.inl ⟨by rfl, ?_⟩) (by assumption) ?_; rotate_left 1; focus (intro w hSw; (try dsimp only at hSw); go_simp; (try with_reducible rfl)); (try simp only [List.getElem_toArray, List.getElem_cons_succ, List.getElem_cons_zero, Act.put, List.setIfInBounds_toArray, List.set_cons_zero, List.set_cons_succ]))
                (refine wpAnyH_ready (rs := [16]) (by kernel_rfl) (by simp) (AllReadyH.cons rfl (fun K hK => ?_) AllReadyH.nil); (try simp (config := { proj := false }) only [List.getElem_toArray, List.getElem_cons_succ, List.getElem_cons_zero]))
                go_simp
                (refine hK.out _ _ ?_ (fun hHeld => ?_); rotate_left; clear hK K; (try simp only [Act.put, List.setIfInBounds_toArray, List.set_cons_zero, List.set_cons_succ]); rotate_right)
                · exact ⟨(HLA.out.wb.alloc _).cell 2, (HPA.out.pb.alloc _).cell 1, ((HBN.out wa HBA.out).alloc _).cell 3⟩
                (refine wpAnyH_ready (rs := [17]) (by kernel_rfl) (by simp) (AllReadyH.cons rfl (fun K hK => ?_) AllReadyH.nil); (try simp (config := { proj := false }) only [List.getElem_toArray, List.getElem_cons_succ, List.getElem_cons_zero]))
                (refine step_append_lies _ (by rfl) (.tmp 97) (.tmp 103) 42 (by rfl) w.heap.size 47 i2 _ 3 48 Tryd.underlying42 fi0 fz0 fz1 fz2 root_zero (by decide) (.slice AV P.length cV) P.length (pcells P) (by rfl) (HPA.out.row.alloc _) ⟨wa.heap.size, 0, none⟩ 1 1 (pcell ⟨AX, cX, fx, r2.q, true⟩) (by rfl) (by rfl) (World.news_of_block (t := 47) (fr := (0, 0)) (cs := #[.slice AX fx.length cX, .string r2.q, .bool true]) (Blk.new wa _ _)) (root_one _) (by decide) (by unfold maxLen; omega) (by omega) (Nat.le_trans (show w.heap.size ≤ wa.heap.size by omega) ((Below.refl wa.heap.size wa).alloc (Nat.le_refl _) _).size) _ rfl ?_; intro g6 cap6 w6 hown6 hgr6 hat6 hlt6; have HWR := Lib.hid (keeps_push2 (V := .slice AV P.length cV) HLA.out HPA.out hgr6); have HO6 := Lib.hid hown6; have HAT6 : Hid ((Value.slice AV P.length cV).ownBlock = some g6 ∨ wa.heap.size ≤ g6) := Lib.hid (hat6.imp id (fun e => by rw [e]; exact ((Below.refl wa.heap.size wa).alloc (Nat.le_refl _) _).size)); obtain ⟨p1c, z1c, k2c⟩ := HWR.out.2; have b3c := ((HBN.out wa HBA.out).grown HWR.out.1 (fun e => HVG.out _ e.symm rfl)).cell 3; clear hown6 hgr6 hat6 hlt6)
                (refine hK.out _ _ ?_ (fun hHeld => ?_); rotate_left; clear hK K; (try simp only [Act.put, List.setIfInBounds_toArray, List.set_cons_zero, List.set_cons_succ]); rotate_right)
                · exact ⟨k2c, p1c, b3c⟩
                refine wpAnyH_done (by kernel_rfl) ?_ _
                change wpList _ _ _ _ _ _
                go_wp2_with fail
                have HKN := Lib.hid (KS.root ⟨AX, cX, fx, r2.q, true⟩ HHK.out rfl hrf2.symm rfl hln2 HLA.out HPA.out HCB.out HO6.out HWR.out.1 HAT6.out HAX.out (fun g o e => by have h1 := HAD.out g o e; have h2 : wc.heap.size ≤ g := h1.1; exact ⟨fun hk => by have := HSL.out g hk; omega, by omega, h1.2, fun hv => by have := HVL.out g hv; omega⟩)).1
                go_roundw
                case rel => exact ⟨i + 1, n + 2 * fx.length + 1, D', S', l', Rs ++ [r2], _, P ++ [⟨AX, cX, fx, r2.q, true⟩], by omega, by omega, by omega, by rw [List.length_append]; simp; omega, by go_num, HKN, Lib.hid ⟨List.mem_append.2 (.inl HR0.out.1), List.mem_append.2 (.inl HR0.out.2)⟩⟩
                case measure => simp [intOf] <;> omega
            · have q1 : (checkE fx == 0) = false := by rw [beq_eq_false_iff_ne]; exact hE2
              have q2 : ¬ checkE fx = 0 := hE2
              have HSX := Lib.hid (fun (wa : World) (AX : Option Addr) (cX : Nat) (hL : LW w wa n D S l Rs) (ha : Arr wa wa.heap.size 3 AX fx.length (fcells fx)) (hA : ∀ g o, AX = some ⟨g, o, none⟩ → ¬ S g) => save_bad AX cX fx hL (by omega) (by omega) HOK.out HDA.out ha hA HM.out hE2)
              generalize checkE fx = E at *
              clear hE2
              go_upto_region 12 with fail
              go_cut [10, 11] from 57 to 138 (fun v10 v11 wx => v10 = .string ⟨#[]⟩ ∧ v11 = .int .i64 E ∧ Below wc.heap.size wc wx)
              case first =>
                go_region_held3 (fun w' => (w'.cell? ⟨w.heap.size + 4, 0, none⟩ = some (.pointer (some ⟨w.heap.size + 2, 0, none⟩))) ∧ w'.cell? ⟨g, 3, none⟩ = some (.slice x.fA x.files.length x.fC)) (first | exact ⟨k0, b3⟩ | exact kkA | exact kkB)
                  (first
                  | (go_at_call 15; (with_reducible refine (HFW.out _ HLD.out.lw.bl).mono ?_); rintro e wa ⟨Va, rfl, hoa, hba⟩; obtain ⟨AX, cX, rfl, _, haX, _⟩ := own_arr hoa; have HLA := Lib.hid (HLD.out.lw.below hba); have HBA : Hid (Below wc.heap.size wc wa) := Lib.hid ((Below.drew (Below.refl _ _)).trans (hba.mono (Below.drew (Below.refl wc.heap.size wc)).size)); have kkA := And.intro (HLA.out.wb.cell 0) (HBOX.out wa S (Stp.below HBA.out)); have HSV := Lib.hid (HSX.out wa AX cX HLA.out haX (fun g o e hk => by have h1 := (own_addr hoa e).1; have h2 := HLD.out.lw.bs.lt hk; omega)); clear haX hoa hba)
                  | (go_at_call 16; (with_reducible refine (HSV.out).mono ?_); rintro e wb ⟨rfl, hbb⟩; have HBB := Lib.hid (below_on HBA.out hbb); have kkB := And.intro ((HLA.out.below hbb).wb.cell 0) (HBOX.out wb S (Stp.below HBB.out)))
                  | (fail))
                all_goals (go_wp2_with fail; go_meet; exact ⟨rfl, rfl, HBB.out⟩)
              case rest =>
                obtain ⟨rfl, rfl, hbx⟩ := hcut
                go_wp2_with fail
                go_roundw
                case rel => exact ⟨i + 1, n, D, S, l, Rs, V, P, by omega, by omega, by omega, by omega, by go_num, Lib.hid (HKc.out.below hbx), HR0⟩
                case measure => simp [intOf] <;> omega
          · have HLD := Lib.hid (HKc.out.below (Below.drew (Below.refl wc.heap.size wc)))
            have HBOX := Lib.hid (show ∀ (W : World) (S' : Nat → Prop), Stp S S' wc W → W.cell? ⟨g, 2, none⟩ = some (.string x.text) from fun W S' hs => (hs.1.blk HBc.out.1 HBc.out.2.1).cell 2)
            have hq3 : (x.kind == 3) = false := by rw [beq_eq_false_iff_ne]; exact h3
            have HTX := Lib.hid HXI.out.2.2.2
            by_cases h0 : x.kind = 0
            · have hsz := cut500_size x.text
              have HCT := Lib.hid (fun W => cut_any11 x.text W HTX.out)
              generalize cut500 x.text = t at *
              have HPT := Lib.hid (put_S t _ HLD.out.lw.bs (by omega) (show t.size ≤ 65536 by omega))
              unfold PutOutS at HPT
              go_upto_region 16 with fail
              go_region_held3 (fun w' => (w'.cell? ⟨w.heap.size + 4, 0, none⟩ = some (.pointer (some ⟨w.heap.size + 2, 0, none⟩))) ∧ w'.cell? ⟨g, 2, none⟩ = some (.string x.text)) (first | exact ⟨k0, b2⟩ | exact kkB)
                (first
                | (go_at_call 18; (with_reducible refine (HCT.out _).mono ?_); rintro e wa ⟨rfl, hwa⟩; subst hwa)
                | (go_at_call 12; (with_reducible refine (HPT.out).mono ?_); rintro e wb ⟨q, D', S', rfl, _, hmb, hmob, hbsb, hstb⟩; have HLB := Lib.hid (HLD.out.lw.go hbsb hstb hmob); have HMB := Lib.hid hmb; have HMOB := Lib.hid hmob; have HSTB := Lib.hid ((Stp.below (S := S) (Below.drew (Below.refl wc.heap.size wc))).trans hstb); have kkB := And.intro (HLB.out.wb.cell 0) (HBOX.out wb S' HSTB.out); clear hmb hmob hbsb hstb)
                | (fail))
              all_goals
                go_wp2_with fail
                have HKN := Lib.hid (HKc.out.step HLB.out HSTB.out (fun u => by
                  rw [cnt_put HKc.out.lw.bs.srt HKc.out.lw.bs.ok HLB.out.bs.good HMB.out HMOB.out (show t.size ≤ 65536 by omega)]
                  have := HKc.out.need u
                  split <;> omega))
                go_roundw
                case rel => exact ⟨i + 1, n + 1, D', S', _, Rs, V, P, by omega, by omega, by omega, by omega, by go_num, HKN, HR0⟩
                case measure => simp [intOf] <;> omega
            · have hq0 : (x.kind == 0) = false := by rw [beq_eq_false_iff_ne]; exact h0
              by_cases h1 : x.kind = 1
              · have hfr := free_L x HKc.out.lw HKc.out.pw (by omega) (by omega) (fun y hy => Nat.le_trans (HKc.out.len y hy) (by decide)) HKc.out.has (fun r hr => by
                  have e1 := HKc.out.need r.man
                  have e2 := needT_mem (t := r.man) hr
                  have e3 : 0 < occ r.man r.need := occ_pos (List.mem_append.2 (.inr (by simp)))
                  omega) HTX.out
                unfold FreeOut opval at hfr
                rw [h1] at hfr
                have b1 := HBc.out.1.cell 1
                have b3 := HBc.out.1.cell 3
                have HFR := Lib.hid hfr
                have hsz := cut500_size x.text
                have HCT := Lib.hid (fun W => cut_any11 x.text W HTX.out)
                clear hfr
                obtain ⟨t, ht⟩ : ∃ t, cut500 x.text = t := ⟨_, rfl⟩
                rw [ht] at HFR HCT hsz
                go_upto_region 17 with fail
                go_cut [125] from 57 to 138 (fun v wx => ∃ b, v = .bool b ∧ Below wc.heap.size wc wx ∧ Hid (b = true → needT t Rs = 0))
                case first =>
                  go_wp2_with (first
                    | (go_at_call 19; (with_reducible refine (HFR.out).mono ?_); rintro e wa ⟨b, rfl, hba, hfb⟩; have HFB : Hid (b = true → needT t Rs = 0) := Lib.hid (fun hb => need_zero (fun r hr => by obtain ⟨y, hy, hyi, hyq⟩ := HKc.out.back r hr; exact hfb hb rfl y hy hyi r hr hyq.symm)))
                    | fail)
                  go_meet
                  exact ⟨b, rfl, hba, HFB⟩
                case rest =>
                  obtain ⟨b, rfl, hbx, HFB⟩ := hcut
                  cases b with
                  | false =>
                    go_wp2_with fail
                    go_roundw
                    case rel => exact ⟨i + 1, n, D, S, l, Rs, V, P, by omega, by omega, by omega, by omega, by go_num, Lib.hid (HKc.out.below hbx), HR0⟩
                    case measure => simp [intOf] <;> omega
                  | true =>
                    have HLX := Lib.hid ((HKc.out.lw.below hbx).below (Below.drew (Below.refl wc.heap.size wc)))
                    have HMX := Lib.hid (mark_S t _ HLX.out.bs (by omega) (by omega))
                    have HSX : Hid (Stp S S _ wc.drew) := Lib.hid ((Stp.below (S := S) hbx).trans (Stp.below (Below.drew (Below.refl wc.heap.size wc))))
                    have HN0 := Lib.hid (HFB.out rfl)
                    clear k0 k1 k2
                    obtain ⟨k0, k1, k2, _, _, _⟩ := tcellsK (HKc.out.lw.below hbx).wb
                    have c2 : wc.cell? ⟨g, 2, none⟩ = some (.string x.text) := HBOX.out _ S (Stp.below hbx)
                    go_upto_region 18 with fail
                    go_region_held3 (fun w' => (w'.cell? ⟨w.heap.size + 4, 0, none⟩ = some (.pointer (some ⟨w.heap.size + 2, 0, none⟩))) ∧ w'.cell? ⟨w.heap.size + 4, 1, none⟩ = some (.pointer (some ⟨w.heap.size + 1, 0, none⟩)) ∧ w'.cell? ⟨g, 2, none⟩ = some (.string x.text)) (first | exact ⟨k0, k1, c2⟩ | exact kkA | exact kkB)
                      (first
                      | (go_at_call 18; (with_reducible refine (HCT.out _).mono ?_); rintro e wa ⟨rfl, hwa⟩; subst hwa)
                      | (go_at_call 21; (with_reducible refine (HMX.out).mono ?_); rintro e wb ⟨q, D', rfl, hmb, hmob, hbsb, hstb⟩; have HLB := Lib.hid (HLX.out.go hbsb hstb hmob); have HMB := Lib.hid hmb; have HMOB := Lib.hid hmob; have HSB := Lib.hid (HSX.out.trans hstb); have kkA := And.intro (HLB.out.wb.cell 0) (And.intro (HLB.out.wb.cell 1) (HBOX.out wb S HSB.out)); have HDX := Lib.hid (drop_E t q wb HLB.out.bs (by omega) hmb); clear hmb hmob hbsb hstb)
                      | (go_at_call 20; (with_reducible refine (HDX.out).mono ?_); rintro e wd ⟨E, rfl, hbsd, hstd⟩; have HLE := Lib.hid (HLB.out.go hbsd hstd (fun _ _ h => h)); have HSE := Lib.hid (HSB.out.trans hstd); have kkB := And.intro (HLE.out.wb.cell 0) (And.intro (HLE.out.wb.cell 1) (HBOX.out wd S HSE.out)); clear hbsd hstd)
                      | (fail))
                    all_goals
                      go_wp2_with fail
                      have HKN := Lib.hid (HKc.out.step HLE.out HSE.out (fun u => by
                        rw [cnt_drop HLB.out.bs.srt HLB.out.bs.ok HLB.out.bs.good HMB.out]
                        have h5 := HKc.out.need u
                        split
                        · rename_i h6
                          have h7 := HN0.out
                          rw [h6.1] at h5 ⊢
                          have h8 := h6.2
                          omega
                        · omega))
                      go_roundw
                      case rel => exact ⟨i + 1, n + 1, D', S, _, Rs, V, P, by omega, by omega, by omega, by omega, by go_num, HKN, HR0⟩
                      case measure => simp [intOf] <;> omega
              · have hq1 : (x.kind == 1) = false := by rw [beq_eq_false_iff_ne]; exact h1
                go_wp2_with fail
                go_roundw
                case rel => exact ⟨i + 1, n, D, S, l, Rs, V, P, by omega, by omega, by omega, by omega, by go_num, HKc, HR0⟩
                case measure => simp [intOf] <;> omega
        · have g12 : ((i : Int) < L1.length ∧ ¬ (i : Int) < 20) ∨ ¬ (i : Int) < L1.length := by omega
          clear hend
          have hmem := HK.out.lw.rt r HR0.out.1
          have hall : HasAll l r.need := fun u hu => by
            have e1 := HK.out.need u
            have e2 := needT_mem (t := u) HR0.out.1
            have e3 := occ_pos hu
            omega
          have hfs := HK.out.pw.fs _ HR0.out.2
          have HYF : Hid (Arr wr wr.heap.size 3 AF fl.length (fcells fl)) := Lib.hid hfs.1
          have HLO : Hid (Calls Tryd.prog 22 #[.pointer (some ⟨w.heap.size + 2, 0, none⟩), .string r.q] wr fun e w' => ∃ V, e = .returned (.tuple #[V, .int .i64 0]) ∧ w'.ownsRow wr.heap.size 58 3 V fl.length (fcells fl) ∧ Below wr.heap.size wr w') := Lib.hid ((load_S r wr HK.out.lw.bs (by omega) hmem (HM.out.on HK.out.lw.bl)).mono (fun e w' h => by
            rcases h with ⟨_, h⟩ | ⟨h, _⟩
            · rw [HRF.out] at h
              exact h
            · exact absurd hall h))
          have HALL := Lib.hid hall
          have HCK := Lib.hid (fun W (h : Below wr.heap.size wr W) => check_R W (HK.out.lw.below h).bs (HK.out.lw.below h).rt (by omega) (HM.out.on (HK.out.lw.below h).bl))
          have HNE := Lib.hid HK.out.need
          have HK00 := Lib.hid (fun W (h : Below wr.heap.size wr W) => (tcellsK (HK.out.lw.below h).wb).1)
          have HAW := Lib.hid (fun W (h : Below wr.heap.size wr W) => HA.out W (HM.out.on (HK.out.lw.below h).bl))
          clear hall hmem hfs
          go_upto_region 8 with fail
          go_cut [64] from 57 to 64 (fun v wx => v = .bool false ∧ wr = wx)
          case first =>
            rcases g12 with ⟨g1, g2⟩ | g1
            all_goals (go_wp2_with fail; go_meet; exact ⟨by trivial, rfl⟩)
          case rest =>
          obtain ⟨rfl, rfl⟩ := hcut
          go_wp2_with (first
            | (go_at_call 22; (with_reducible refine (HLO.out).mono ?_); rintro e wa ⟨VA, rfl, hoa, hba⟩; obtain ⟨AX, cX, rfl, _, haX, _⟩ := own_arr hoa; have HAX := Lib.hid haX; have HYG := Lib.hid ((HYF.out.below hba).more hba.size); have hb1 := hba; have k0 := HK00.out _ hb1; clear haX hoa)
            | (go_at_call 23; (with_reducible refine (files_same AX cX AF cF fl wa (by omega) HAX.out HYG.out).mono ?_); rintro e w2 ⟨rfl, hbb⟩; have hb2 := below_on hb1 hbb; have k0 := HK00.out _ hb2)
            | (go_at_call 24; (with_reducible refine (HCK.out _ hb2).mono ?_); rintro e w3 ⟨v, rfl, hv, hbd⟩; obtain rfl : v = true := hv.2 HNE.out; have hb3 := below_on hb2 hbd)
            | (go_at_call 10; (with_reducible refine (HAW.out _ hb3).mono ?_); rintro e w9 ⟨rfl, hb9⟩)
            | fail)
          go_ret
          exact ⟨rfl, below_on HK.out.lw.bl (below_on hb3 hb9)⟩
  · have q1 : (checkE fl == 0) = false := by rw [beq_eq_false_iff_ne]; exact hE
    have q2 : ¬ checkE fl = 0 := hE
    have HSV := Lib.hid (fun (W : World) (hL : LW w W 0 (.map []) (SB0 w.heap.size) [] []) (AF : Option Addr) (cF : Nat) (ha : Arr W W.heap.size 3 AF fl.length (fcells fl)) (hA : ∀ g o, AF = some ⟨g, o, none⟩ → ¬ SB0 w.heap.size g) => save_bad AF cF fl hL (by omega) (by omega) HOK.out HDA.out ha hA HM.out hE)
    have HRC := Lib.hid (fun (W : World) (AF : Option Addr) (cF : Nat) (ha : Arr W W.heap.size 3 AF fl.length (fcells fl)) => check_ref AF cF fl W (by omega) HOK.out ha)
    generalize checkE fl = E at *
    clear hE
    go_enter Tryd.func4, Tryd.ntmps4
    go_wp2_with (first
      | (go_at_call 11; (with_reducible refine (HF.out).mono ?_); rintro e w2 ⟨rfl, hw2, hp2, hbs2, hb2, hs2⟩; have HL2 := Lib.hid (LW.new hbs2 hw2 hb2); have hB := hb2; clear hp2 hbs2 hs2 hw2)
      | (go_at_call 15; (with_reducible refine (HFW.out _ hb2).mono ?_); rintro e w3 ⟨V3, rfl, ho3, hb3⟩; obtain ⟨AF, cF, rfl, _, haF, _⟩ := own_arr ho3; have HL3 := Lib.hid (HL2.out.below hb3); have HAF := Lib.hid haF; have HAD := Lib.hid (fun g o e => own_addr (g := g) (o := o) ho3 e); obtain ⟨k0, k1, k2, _, _, _⟩ := tcellsK HL3.out.wb; clear haF ho3)
      | (go_at_call 16; (with_reducible refine (HSV.out _ HL3.out AF cF HAF.out (fun g o e hk => by have h1 := (HAD.out g o e).1; have h2 := HL2.out.bs.lt hk; omega)).mono ?_); rintro e w4 ⟨rfl, hb4⟩; have HAF4 := Lib.hid ((HAF.out.below hb4).more hb4.size))
      | (go_at_call 17; (with_reducible refine (HRC.out _ AF cF HAF4.out).mono ?_); rintro e w5 ⟨rfl, hb5⟩; have HB5 := Lib.hid (below_on (below_on (below_on hb2 hb3) hb4) hb5))
      | (go_at_call 10; (with_reducible refine (HA.out _ (HM.out.on HB5.out)).mono ?_); rintro e w9 ⟨rfl, hb9⟩)
      | fail)
    go_ret
    exact ⟨rfl, below_on HB5.out hb9⟩
end Go.Proofs.YtmcgaaihdjpdgaaDoor
