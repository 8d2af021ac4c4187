/- Chapter 11: the walk through BlobEmpties. -/
import Derived.Test.YtmcgaaihdjpdgaaDoorBlobU
namespace Go.Proofs.YtmcgaaihdjpdgaaDoor
open Go.RowKit
set_option linter.unusedVariables false

def EmS (w : World) (wr : World) (n : Nat) (D : DataW Unit) (S : Nat → Prop) (l : List KpD) (Rs : List RtD) (v : Value) (b : Nat) : Prop := LW w wr n D S l Rs ∧ wr.ownsRow b 9 1 v Rs.length ((Rs.map (·.q)).map Value.string) ∧ Off w.heap.size S v
set_option maxHeartbeats 4000000 in
set_option maxRecDepth 100000 in
theorem law_empties (A1 : Option Addr) (c1 : Nat) (L1 : List InOp) (A2 : Option Addr) (c2 : Nat) (L2 : List ByteArray) (w : World)
    (hz1 : L1.length * 56 ≤ 140737488351232) (hcap1 : L1.length ≤ c1) (hx1 : ∀ x ∈ L1, OpIn w x) (ha1 : Arr w w.heap.size 4 A1 L1.length (opcells L1))
    (hz2 : L2.length * 16 ≤ 140737488351232) (hcap2 : L2.length ≤ c2) (hx2 : ∀ x ∈ L2, x.size ≤ 9223372036854775807) (ha2 : Arr w w.heap.size 1 A2 L2.length (L2.map Value.string)) (hm : Ml w) :
    Calls Tryd.prog 6 #[.slice A1 L1.length c1, .slice A2 L2.length c2] w fun e w' => e = .returned (.bool true) ∧ Below w.heap.size w w' := by
  obtain ⟨i2, fi0, fz0, fz1, fz2⟩ := info_parts infoStrF
  have HA := Lib.hid awake11
  have HM := Lib.hid hm
  have HF := Lib.hid (fresh_any w)
  unfold FreshOut at HF
  have HX1 := Lib.hid hx1
  have HX2 := Lib.hid hx2
  have HA1 := Lib.hid ha1
  have HA2 := Lib.hid ha2
  clear hm hx1 hx2 ha1 ha2
  go_enter Tryd.func6, Tryd.ntmps6
  go_wp2_with (first
    | (go_at_call 11; (with_reducible refine (HF.out).mono ?_); rintro e w2 ⟨rfl, hw2, hp2, hbs2, hb2, hs2⟩; have HL2 := Lib.hid (LW.new hbs2 hw2 hb2); clear hp2 hbs2 hs2 hw2)
    | fail)
  go_loopw [6, 8] (fun vo vi wr => ∃ (i n : Nat) (D : DataW Unit) (S : Nat → Prop) (l : List KpD) (Rs : List RtD), i ≤ L1.length ∧ i ≤ 12 ∧ n ≤ 25 * i ∧ Rs.length ≤ i ∧ vi = .int .i64 i ∧ Hid (EmS w wr n D S l Rs vo w.heap.size) ∧ Hid (∀ t, cntT l t = needT t Rs)) (fun _ vi _ => L1.length - (intOf vi).toNat)
  case atStart => exact ⟨0, 0, _, _, _, [], Nat.zero_le _, by omega, by omega, Nat.le_refl _, rfl, Lib.hid ⟨HL2.out, World.ownsRow_nil _ _ _ _, Off.nil _ _⟩, Lib.hid (fun t => rfl)⟩
  case round =>
    obtain ⟨i, n, D, S, l, Rs, hi, hi12, hn, hRl, rfl, HE, HC⟩ := hrel
    obtain ⟨hL, hown, hoff⟩ := HE.out
    obtain ⟨AO, cO, rfl, _, _, _⟩ := own_arr hown
    have HL := Lib.hid hL
    have HOW := Lib.hid hown
    have HOF := Lib.hid hoff
    obtain ⟨k0, k1, k2, _, _, _⟩ := tcellsK hL.wb
    clear hL hown hoff HE
    by_cases hend : i < L1.length ∧ i < 12
    · obtain ⟨hlt, h12⟩ := hend
      obtain ⟨x, hx⟩ : ∃ x, L1[i]? = some x := ⟨_, List.getElem?_eq_getElem hlt⟩
      obtain ⟨bA, oA, rfl, hbA, hcell⟩ := HA1.out.2 (by omega)
      obtain ⟨c0, c1', c2', c3'⟩ := op_cells (fun j u h => (HL.out.bl.cell (p := ⟨bA, oA + j, none⟩) hbA).trans (hcell j u h)) hx
      have hxi := HX1.out x (List.mem_of_getElem? hx)
      have hfi := hxi.1
      have i1 : (i : Int) < L1.length := by omega
      have i12 : (i : Int) < 12 := by omega
      have hok := few12_ok (l := x.files) (fun f hf => (hfi.2.1 f hf).1)
      have hda := few12_data x.files
      have hln := few12_len x.files
      have HFW := Lib.hid (few11_any x.fA x.fC x.files wr.drew hfi.1 (fun f hf => (hfi.2.1 f hf).1) ((hfi.2.2.below (Below.drew HL.out.bl)).more (Below.drew HL.out.bl).size))
      unfold FewOut at HFW
      have HX3 := Lib.hid (show ∀ W : World, Below w.heap.size w W → W.cell? ⟨bA, oA + i * 4 + 3, none⟩ = some (.slice x.fA x.files.length x.fC) from fun W hb => (op_cells (fun j u h => (hb.cell (p := ⟨bA, oA + j, none⟩) hbA).trans (hcell j u h)) hx).2.2.2)
      generalize few12 x.files = fl at *
      have HOK := Lib.hid hok
      have HDA := Lib.hid hda
      have HLD := Lib.hid (HL.out.below (Below.drew (Below.refl wr.heap.size wr)))
      clear hcell hx hxi hfi hok hda
      by_cases hE : checkE fl = 0
      · have HE := Lib.hid hE
        clear hE
        go_upto_region 6 with fail
        go_cut [9, 10] from 27 to 40 (fun v9 v10 wx => ∃ (r : RtD) (D' : DataW Unit) (S' : Nat → Prop) (l' : List KpD), v9 = .string r.q ∧ v10 = .int .i64 0 ∧ Hid (LW w wx (n + 2 * fl.length + 1) D' S' l' (Rs ++ [r])) ∧ Hid (∀ t, cntT l' t = cntT l t + occ t r.need) ∧ Hid (wx.ownsRow w.heap.size 9 1 (.slice AO Rs.length cO) Rs.length ((Rs.map (·.q)).map Value.string) ∧ Off w.heap.size S' (.slice AO Rs.length cO)))
        case first =>
          go_region_held3 (fun w' => (w'.cell? ⟨w.heap.size + 4, 0, none⟩ = some (.pointer (some ⟨w.heap.size + 2, 0, none⟩))) ∧ w'.cell? ⟨bA, oA + i * 4 + 3, none⟩ = some (.slice x.fA x.files.length x.fC)) (first | exact ⟨k0, c3'⟩ | exact kkA | exact kkB)
            (first
            | (go_at_call 15; (with_reducible refine (HFW.out).mono ?_); rintro e wa ⟨Va, rfl, hoa, hba⟩; obtain ⟨AF, cF, rfl, _, haF, _⟩ := own_arr hoa; have HLA := Lib.hid (HLD.out.below hba); have kkA := And.intro (HLA.out.wb.cell 0) (HX3.out wa HLA.out.bl); have HAF := Lib.hid haF; have HOA := Lib.hid hoa; have HBA := Lib.hid hba; have HSV := Lib.hid (save_ok AF cF fl HLA.out (by omega) (by omega) HOK.out HDA.out haF (fun g o e hk => by have h1 := (own_addr HOA.out e).1; have h2 := HLD.out.bs.lt hk; omega) HM.out HE.out); clear haF hoa hba)
            | (go_at_call 16; (with_reducible refine (HSV.out).mono ?_); rintro e wb ⟨r, D', S', l', rfl, hrf, hLb, hstb, hmob, hcb⟩; have HLB := Lib.hid hLb; have HCB := Lib.hid hcb; have HSTB := Lib.hid hstb; have kkB := And.intro (hLb.wb.cell 0) (HX3.out wb hLb.bl); clear hLb hcb hstb hmob)
            | (fail))
          all_goals (go_wp2_with fail; go_meet; exact ⟨r, D', S', l', rfl, rfl, HLB, HCB, Lib.hid (HOF.out.step HOW.out ((Stp.below ((Below.drew (Below.refl _ _)).trans (HBA.out.mono (Below.drew (Below.refl wr.heap.size wr)).size))).trans HSTB.out))⟩)
        case rest =>
          obtain ⟨r, D', S', l', rfl, rfl, HLB, HCB, HOB⟩ := hcut
          have hzz := HLB.out.bl.size
          have HOB1 := Lib.hid HOB.out.1
          go_wp2_with (first
            | (at_builtin; refine wpList_push rfl _ _ _ rfl Tryd.underlying60 fi0 fz0 fz1 fz2 rfl (by decide) HOB1.out rfl rfl rfl (by simp [Value.oneCell']) (by unfold maxLen; omega) (by omega) hzz ?_; intro g6 cap6 w6 hown6 hgr6 hat6; have hf6 := Fr.of_grown (S := fun j => (Value.slice AO Rs.length cO).ownBlock = some j) hgr6 (fun k hk => hk); have HL6 := Lib.hid (HLB.out.aside hf6 (fun k hk => ⟨(HOB.out.2 k hk).2, (HOB.out.2 k hk).1⟩)); have HO6 := Lib.hid hown6; have HF6 := Lib.hid (Off.push (m := Rs.length + 1) (cap := cap6) HLB.out HOB.out.2 hat6); clear hown6 hgr6 hat6 hf6)
            | fail)
          go_roundw
          case rel => exact ⟨i + 1, n + 2 * fl.length + 1, D', S', l', Rs ++ [r], by omega, by omega, by omega, by rw [List.length_append]; simp; omega, by go_num, Lib.hid ⟨HL6.out, by rw [List.length_append, List.map_append, List.map_append]; exact HO6.out, HF6.out⟩, Lib.hid (fun t => by rw [HCB.out, HC.out, needT_app, needT, needT]; omega)⟩
          case measure => simp [intOf] <;> omega
      · have q1 : (checkE fl == 0) = false := by rw [beq_eq_false_iff_ne]; exact hE
        have HSB := Lib.hid (fun (wa : World) (AF : Option Addr) (cF : Nat) (hL : LW w wa n D S l Rs) (ha : Arr wa wa.heap.size 3 AF fl.length (fcells fl)) (hA : ∀ g o, AF = some ⟨g, o, none⟩ → ¬ S g) => save_bad AF cF fl hL (by omega) (by omega) HOK.out HDA.out ha hA HM.out hE)
        generalize checkE fl = E at *
        clear hE
        go_upto_region 6 with fail
        go_cut [9, 10] from 27 to 40 (fun v9 v10 wx => v9 = .string ⟨#[]⟩ ∧ v10 = .int .i64 E ∧ Below wr.heap.size wr wx)
        case first =>
          go_region_held3 (fun w' => (w'.cell? ⟨w.heap.size + 4, 0, none⟩ = some (.pointer (some ⟨w.heap.size + 2, 0, none⟩))) ∧ w'.cell? ⟨bA, oA + i * 4 + 3, none⟩ = some (.slice x.fA x.files.length x.fC)) (first | exact ⟨k0, c3'⟩ | exact kkA | exact kkB)
            (first
            | (go_at_call 15; (with_reducible refine (HFW.out).mono ?_); rintro e wa ⟨Va, rfl, hoa, hba⟩; obtain ⟨AF, cF, rfl, _, haF, _⟩ := own_arr hoa; have HLA := Lib.hid (HLD.out.below hba); have kkA := And.intro (HLA.out.wb.cell 0) (HX3.out wa HLA.out.bl); have HOA := Lib.hid hoa; have HBA := Lib.hid hba; have HSV := Lib.hid (HSB.out wa AF cF HLA.out haF (fun g o e hk => by have h1 := (own_addr HOA.out e).1; have h2 := HLD.out.bs.lt hk; omega)); clear haF hoa hba)
            | (go_at_call 16; (with_reducible refine (HSV.out).mono ?_); rintro e wb ⟨rfl, hbb⟩; have kkB := And.intro ((HLA.out.below hbb).wb.cell 0) (HX3.out wb (HLA.out.below hbb).bl))
            | (fail))
          all_goals (go_wp2_with fail; go_meet; exact ⟨rfl, rfl, below_on ((Below.drew (Below.refl _ _)).trans (HBA.out.mono (Below.drew (Below.refl wr.heap.size wr)).size)) hbb⟩)
        case rest =>
          obtain ⟨rfl, rfl, hbx⟩ := hcut
          go_wp2_with fail
          go_roundw
          case rel => exact ⟨i + 1, n, D, S, l, Rs, by omega, by omega, by omega, by omega, by go_num, Lib.hid ⟨HL.out.below hbx, own_below HOW.out hbx, HOF.out⟩, HC⟩
          case measure => simp [intOf] <;> omega
    · have g12 : ((i : Int) < L1.length ∧ ¬ (i : Int) < 12) ∨ ¬ (i : Int) < L1.length := by omega
      clear hend
      go_upto_region 4 with fail
      go_cut [24] from 17 to 24 (fun v wx => v = .bool false ∧ wr = wx)
      case first =>
        rcases g12 with ⟨g1, g2⟩ | g1
        all_goals (go_wp2_with fail; go_meet; exact ⟨by trivial, rfl⟩)
      case rest =>
      obtain ⟨rfl, rfl⟩ := hcut
      obtain ⟨wo, hwo⟩ : ∃ wo, wo = wr := ⟨_, rfl⟩
      subst hwo
      have hn300 : n ≤ 300 := by omega
      have HRB := Lib.hid (fun k (hk : (Value.slice AO Rs.length cO).ownBlock = some k) => (HOW.out.lt k hk).2)
      clear g12
      go_wp2
      go_loopw [7, 11] (fun vo vi wr => ∃ (j n2 : Nat) (D2 : DataW Unit) (S2 : Nat → Prop) (l2 : List KpD) (PM : List ByteArray), j ≤ L2.length ∧ j ≤ 20 ∧ n2 ≤ 300 + j ∧ PM.length = j ∧ vi = .int .i64 j ∧ Hid (LW w wr n2 D2 S2 l2 Rs ∧ wr.ownsRow wo.heap.size 9 1 vo PM.length (PM.map Value.string) ∧ Off w.heap.size S2 vo ∧ wo.heap.size ≤ wr.heap.size) ∧ Hid (wr.ownsRow w.heap.size 9 1 (.slice AO Rs.length cO) Rs.length ((Rs.map (·.q)).map Value.string) ∧ Off w.heap.size S2 (.slice AO Rs.length cO)) ∧ Hid (MksOf D2 (cuts (L2.take j)) PM) ∧ Hid (∀ t, cntT l2 t = needT t Rs + occ t (cuts (L2.take j)))) (fun _ vi _ => L2.length - (intOf vi).toNat)
      case atStart => exact ⟨0, n, D, S, l, [], Nat.zero_le _, by omega, by omega, rfl, rfl, Lib.hid ⟨HL.out, World.ownsRow_nil _ _ _ _, Off.nil _ _, Nat.le_refl _⟩, Lib.hid ⟨HOW.out, HOF.out⟩, Lib.hid ⟨rfl, fun j s q h => by simp [cuts] at h⟩, Lib.hid (fun t => by rw [HC.out, List.take_zero]; show _ = _ + ((0 : Nat) : Int); omega)⟩
      case round =>
        obtain ⟨j, n2, D2, S2, l2, PM, hj, hj20, hn2, hPl, rfl, HE, HR2, HMK, HC2⟩ := hrel
        obtain ⟨hL, hown, hoff, hwz⟩ := HE.out
        obtain ⟨AP, cP, rfl, _, _, _⟩ := own_arr hown
        rw [hPl] at hown hoff
        have HL2' := Lib.hid hL
        have HOP := Lib.hid hown
        have HFP := Lib.hid hoff
        obtain ⟨k0, k1, k2, _, _, _⟩ := tcellsK hL.wb
        clear hL hown hoff HE
        rw [hPl]
        by_cases hend : j < L2.length ∧ j < 20
        · obtain ⟨hlt, h20⟩ := hend
          obtain ⟨s, hs⟩ : ∃ s, L2[j]? = some s := ⟨_, List.getElem?_eq_getElem hlt⟩
          obtain ⟨bA, oA, rfl, hbA, hcell⟩ := HA2.out.2 (by omega)
          have HX3 := Lib.hid (show ∀ W : World, Below w.heap.size w W → W.cell? ⟨bA, oA + j, none⟩ = some (.string s) from fun W hb => (hb.cell (p := ⟨bA, oA + j, none⟩) hbA).trans (hcell j (.string s) (by rw [List.getElem?_map, hs]; rfl)))
          have c0 := HX3.out wr HL2'.out.bl
          have i1 : (j : Int) < L2.length := by omega
          have i20 : (j : Int) < 20 := by omega
          have HCT := Lib.hid (cut_any11 s wr.drew (HX2.out s (List.mem_of_getElem? hs)))
          have hct := cuts_take hs
          have hsz := cut500_size s
          generalize cut500 s = t at *
          have HCE := Lib.hid hct
          have HLD := Lib.hid (HL2'.out.below (Below.drew (Below.refl wr.heap.size wr)))
          have HPT := Lib.hid (put_S t _ HLD.out.bs (by omega) (show t.size ≤ 65536 by omega))
          unfold PutOutS at HPT
          clear hcell hs hct
          go_upto_region 12 with fail
          go_cut [12, 13] from 57 to 69 (fun v12 v13 wx => ∃ (q : ByteArray) (D' : DataW Unit) (S' : Nat → Prop), v12 = .string q ∧ v13 = .int .i64 0 ∧ Hid (LW w wx (n2 + 1) D' S' (putK l2 q t) Rs) ∧ Hid (Marked D' t q) ∧ Hid (∀ s q, Marked D2 s q → Marked D' s q) ∧ Hid (wx.ownsRow wo.heap.size 9 1 (.slice AP j cP) j (PM.map Value.string) ∧ Off w.heap.size S' (.slice AP j cP) ∧ wo.heap.size ≤ wx.heap.size) ∧ Hid (wx.ownsRow w.heap.size 9 1 (.slice AO Rs.length cO) Rs.length ((Rs.map (·.q)).map Value.string) ∧ Off w.heap.size S' (.slice AO Rs.length cO)))
          case first =>
            go_region_held3 (fun w' => (w'.cell? ⟨w.heap.size + 4, 0, none⟩ = some (.pointer (some ⟨w.heap.size + 2, 0, none⟩))) ∧ w'.cell? ⟨bA, oA + j, none⟩ = some (.string s)) (first | exact ⟨k0, c0⟩ | exact kkB)
              (first
              | (go_at_call 18; (with_reducible refine (HCT.out).mono ?_); rintro e wa ⟨rfl, hwa⟩; subst hwa)
              | (go_at_call 12; (with_reducible refine (HPT.out).mono ?_); rintro e wb ⟨q, D', S', rfl, _, hmb, hmob, hbsb, hstb⟩; have HLB := Lib.hid (HLD.out.go hbsb hstb hmob); have HMB := Lib.hid hmb; have HMOB := Lib.hid hmob; have HSTB := Lib.hid ((Stp.below (S := S2) (Below.drew (Below.refl wr.heap.size wr))).trans hstb); have kkB := And.intro (HLB.out.wb.cell 0) (HX3.out wb HLB.out.bl); clear hmb hmob hbsb hstb)
              | (fail))
            all_goals (go_wp2_with fail; go_meet; exact ⟨q, D', S', rfl, rfl, HLB, HMB, HMOB, Lib.hid ⟨(HFP.out.step HOP.out HSTB.out).1, (HFP.out.step HOP.out HSTB.out).2, Nat.le_trans hwz HSTB.out.1.size⟩, Lib.hid (HR2.out.2.step HR2.out.1 HSTB.out)⟩)
          case rest =>
            obtain ⟨q, D', S', rfl, rfl, HLB, HMB, HMOB, HPB, HRB2⟩ := hcut
            have hzz : wo.heap.size ≤ wc.heap.size := HPB.out.2.2
            have HPB1 := Lib.hid HPB.out.1
            go_wp2_with (first
              | (at_builtin; refine wpList_push rfl _ _ _ rfl Tryd.underlying60 fi0 fz0 fz1 fz2 rfl (by decide) HPB1.out rfl rfl rfl (by simp [Value.oneCell']) (by unfold maxLen; omega) (by omega) hzz ?_; intro g6 cap6 w6 hown6 hgr6 hat6; have hf6 := Fr.of_grown (S := fun k => (Value.slice AP j cP).ownBlock = some k) hgr6 (fun k hk => hk); have HL6 := Lib.hid (HLB.out.aside hf6 (fun k hk => ⟨(HPB.out.2.1 k hk).2, (HPB.out.2.1 k hk).1⟩)); have HO6 := Lib.hid hown6; have HF6 := Lib.hid (Off.push (m := j + 1) (cap := cap6) HLB.out HPB.out.2.1 hat6); have hw6 := hf6.size; have HR6 := Lib.hid (hf6.own HRB2.out.1 (fun k hk h2 => by have h3 := HRB.out k hk; have h4 := (HPB1.out.lt k h2).1; omega)); clear hown6 hgr6 hat6 hf6)
              | fail)
            go_roundw
            case rel => exact ⟨j + 1, n2 + 1, D', S', _, PM ++ [q], by omega, by omega, by omega, by rw [List.length_append, hPl]; rfl, by go_num, Lib.hid ⟨HL6.out, by rw [List.length_append, List.map_append, hPl]; exact HO6.out, HF6.out, Nat.le_trans hzz hw6⟩, Lib.hid ⟨HR6.out, HRB2.out.2⟩, Lib.hid (by rw [HCE.out]; exact (HMK.out.mono HMOB.out).snoc HMB.out), Lib.hid (fun u => by rw [cnt_put HL2'.out.bs.srt HL2'.out.bs.ok HLB.out.bs.good HMB.out HMOB.out (show t.size ≤ 65536 by omega), HC2.out, HCE.out, occ_app, occ_one]; split <;> split <;> first | omega | (rename_i h1 h2; exact absurd h1.symm h2) | (rename_i h1 h2; exact absurd h2.symm h1))⟩
            case measure => simp [intOf] <;> omega
        · have g12 : ((j : Int) < L2.length ∧ ¬ (j : Int) < 20) ∨ ¬ (j : Int) < L2.length := by omega
          clear hend
          go_upto_region 10 with fail
          go_cut [54] from 47 to 54 (fun v wx => v = .bool false ∧ wr = wx)
          case first =>
            rcases g12 with ⟨g1, g2⟩ | g1
            all_goals (go_wp2_with fail; go_meet; exact ⟨by trivial, rfl⟩)
          case rest =>
          obtain ⟨rfl, rfl⟩ := hcut
          obtain ⟨C, hCj⟩ : ∃ C, cuts (L2.take j) = C := ⟨_, rfl⟩
          rw [hCj] at HMK HC2
          have hCl : C.length = j := by rw [← hPl]; exact HMK.out.1.symm
          clear g12 hCj
          go_wp2
          go_loopw [14] (fun vi wr => ∃ (p : Nat) (l3 : List KpD) (R3 : List RtD), p ≤ Rs.length ∧ vi = .int .i64 ((p : Int) - 1) ∧ Hid (LW w wr n2 D2 S2 l3 R3) ∧ Hid (R3.Perm (Rs.take p)) ∧ Hid (∀ t, cntT l3 t = needT t R3 + occ t C) ∧ Hid (wr.ownsRow w.heap.size 9 1 (.slice AO Rs.length cO) Rs.length ((Rs.map (·.q)).map Value.string)) ∧ Hid (wr.ownsRow wo.heap.size 9 1 (.slice AP j cP) j (PM.map Value.string))) (fun vi _ => (intOf vi + 1).toNat)
          case atStart => exact ⟨Rs.length, l2, Rs, Nat.le_refl _, rfl, HL2', Lib.hid (by rw [List.take_length]), HC2, Lib.hid HR2.out.1, HOP⟩
          case round =>
            obtain ⟨p, l3, R3, hp, rfl, HL3, HPM, HC3, HRO, HPO⟩ := hrel
            obtain ⟨k0, k1, k2, _, _, _⟩ := tcellsK HL3.out.wb
            by_cases h0 : 0 < p
            · obtain ⟨r, hr⟩ : ∃ r, Rs[p - 1]? = some r := ⟨_, List.getElem?_eq_getElem (by omega)⟩
              have htk := take_snoc hr
              rw [show p - 1 + 1 = p by omega] at htk
              have hpm := HPM.out
              rw [htk] at hpm
              have hrm : r ∈ R3 := hpm.symm.subset (by simp)
              have HHP := Lib.hid hpm
              have haa := own_slice HRO.out
              obtain ⟨bR, oR, rfl, hbR, hcellR⟩ := haa.2 (by omega)
              have cR := hcellR (p - 1) (.string r.q) (by rw [List.getElem?_map, List.getElem?_map, hr]; rfl)
              have HLD := Lib.hid (HL3.out.below (Below.drew (Below.refl wr.heap.size wr)))
              have HFG := Lib.hid (forget_L r HLD.out (by omega) hrm (fun t => by rw [HC3.out]; have := needT_mem (t := t) hrm; omega) HM.out)
              have p0 : (0 : Int) ≤ (p : Int) - 1 := by omega
              have p1 : (p : Int) - 1 < Rs.length := by omega
              have pn : ((p : Int) - 1).toNat = p - 1 := by omega
              have hnSR := HR2.out.2
              have hRR : Hid (∀ W : World, Hid (Stp S2 S2 wr W) → W.cell? ⟨bR, oR + (p - 1), none⟩ = some (.string r.q)) := Lib.hid (fun W h => (h.out.1.cell (p := ⟨bR, oR + (p - 1), none⟩) hbR (hnSR bR rfl).1).trans cR)
              clear hr htk hpm hcellR haa
              go_upto_region 18 with fail
              go_cut [92] from 79 to 92 (fun v wx => v = .bool false ∧ ∃ (l4 : List KpD) (R4 : List RtD), Hid (LW w wx n2 D2 S2 l4 R4) ∧ Hid (R4.Perm (Rs.take (p - 1))) ∧ Hid (∀ t, cntT l4 t = needT t R4 + occ t C) ∧ Hid (wx.ownsRow w.heap.size 9 1 (.slice (some ⟨bR, oR, none⟩) Rs.length cO) Rs.length ((Rs.map (·.q)).map Value.string)) ∧ Hid (wx.ownsRow wo.heap.size 9 1 (.slice AP j cP) j (PM.map Value.string)))
              case first =>
                go_region_held3 (fun w' => (w'.cell? ⟨w.heap.size + 4, 0, none⟩ = some (.pointer (some ⟨w.heap.size + 2, 0, none⟩))) ∧ w'.cell? ⟨bR, oR + (p - 1), none⟩ = some (.string r.q)) (first | exact ⟨k0, cR⟩ | exact kkB)
                  (first
                  | (go_at_call 25; (with_reducible refine (HFG.out).mono ?_); rintro e wb ⟨l4, ix, rfl, hix, hL4, hst4, hc4⟩; have kkB := And.intro (hL4.wb.cell 0) (hRR.out wb (Lib.hid ((Stp.below (S := S2) (Below.drew (Below.refl wr.heap.size wr))).trans hst4))); have HL4 := Lib.hid hL4; have HST4 := Lib.hid ((Stp.below (S := S2) (Below.drew (Below.refl wr.heap.size wr))).trans hst4); have HC4 := Lib.hid hc4; have HIX := Lib.hid hix; clear hix hL4 hst4 hc4)
                  | (fail))
                all_goals (go_wp2_with fail; go_meet; exact ⟨by trivial, l4, R3.eraseIdx ix, HL4, Lib.hid (((erase_perm HIX.out).symm.trans (HHP.out.trans (List.perm_append_singleton _ _))).cons_inv), Lib.hid (fun t => by have h1 := needT_perm (t := t) (erase_perm HIX.out); rw [needT] at h1; rw [HC4.out, HC3.out]; omega), Lib.hid (HST4.out.1.own HRO.out (fun k hk => (hnSR k hk).1)), Lib.hid (HST4.out.1.own HPO.out (fun k hk => (HFP.out k hk).1))⟩)
              case rest =>
                obtain ⟨rfl, l4, R4, HL4, HP4, HC4, HRO4, HPO4⟩ := hcut
                go_wp2_with fail
                go_roundw
                case rel => exact ⟨p - 1, l4, R4, by omega, by congr 1; omega, HL4, HP4, HC4, HRO4, HPO4⟩
                case measure => simp [intOf] <;> omega
            · have p0 : ¬ (0 : Int) ≤ (p : Int) - 1 := by omega
              have hp0 : p = 0 := by omega
              have hR0 := HPM.out
              rw [hp0, List.take_zero] at hR0
              have hR00 := hR0.eq_nil
              subst hR00
              clear hR0
              go_wp2
              go_loopw [15] (fun vi wr => ∃ (m : Nat) (l4 : List KpD), m ≤ j ∧ vi = .int .i64 m ∧ Hid (LW w wr n2 D2 S2 l4 []) ∧ Hid (∀ t, cntT l4 t = occ t (C.drop m)) ∧ Hid (wr.ownsRow wo.heap.size 9 1 (.slice AP j cP) j (PM.map Value.string))) (fun vi _ => j - (intOf vi).toNat)
              case atStart => exact ⟨0, l3, Nat.zero_le _, rfl, HL3, Lib.hid (fun t => by rw [HC3.out, needT, List.drop_zero]; omega), HPO⟩
              case round =>
                obtain ⟨m, l4, hmj, rfl, HL4, HC4, HPO4⟩ := hrel
                obtain ⟨k0, k1, k2, _, _, _⟩ := tcellsK HL4.out.wb
                by_cases hm1 : m < j
                · obtain ⟨s, hs⟩ : ∃ s, C[m]? = some s := ⟨_, List.getElem?_eq_getElem (by omega)⟩
                  obtain ⟨q, hq⟩ : ∃ q, PM[m]? = some q := ⟨_, List.getElem?_eq_getElem (by omega)⟩
                  have hmk := HMK.out.2 m s q hs hq
                  have hdr := drop_head hs
                  have haa := own_slice HPO4.out
                  obtain ⟨bR, oR, rfl, hbR, hcellR⟩ := haa.2 (by omega)
                  have cR := hcellR m (.string q) (by rw [List.getElem?_map, hq]; rfl)
                  have HLD := Lib.hid (HL4.out.below (Below.drew (Below.refl wr.heap.size wr)))
                  have HDR := Lib.hid (drop_S s q _ HLD.out.bs (by omega) hmk)
                  have hpos : 0 < cntT l4 s := by rw [HC4.out, hdr, occ, if_pos rfl]; omega
                  unfold DropOutS at HDR
                  rw [if_pos hpos] at HDR
                  have HHC := Lib.hid (fun t => cnt_drop (t := t) HL4.out.bs.srt HL4.out.bs.ok HL4.out.bs.good hmk)
                  have HHD := Lib.hid hdr
                  have mj : (m : Int) < j := by omega
                  have hRR : Hid (∀ W : World, Hid (Stp S2 S2 wr W) → W.cell? ⟨bR, oR + m, none⟩ = some (.string q)) := Lib.hid (fun W h => (h.out.1.cell (p := ⟨bR, oR + m, none⟩) hbR (HFP.out bR rfl).1).trans cR)
                  clear hs hq hdr hmk haa hcellR
                  go_upto_region 23 with fail
                  go_cut [108] from 99 to 108 (fun v wx => v = .bool false ∧ ∃ (l5 : List KpD), Hid (LW w wx n2 D2 S2 l5 []) ∧ Hid (∀ t, cntT l5 t = occ t (C.drop (m + 1))) ∧ Hid (wx.ownsRow wo.heap.size 9 1 (.slice (some ⟨bR, oR, none⟩) j cP) j (PM.map Value.string)))
                  case first =>
                    go_region_held3 (fun w' => (w'.cell? ⟨w.heap.size + 4, 0, none⟩ = some (.pointer (some ⟨w.heap.size + 2, 0, none⟩))) ∧ w'.cell? ⟨bR, oR + m, none⟩ = some (.string q)) (first | exact ⟨k0, cR⟩ | exact kkB)
                      (first
                      | (go_at_call 20; (with_reducible refine (HDR.out).mono ?_); rintro e wb ⟨rfl, hbs5, hst5⟩; have kkB := And.intro ((HLD.out.go hbs5 hst5 (fun _ _ h => h)).wb.cell 0) (hRR.out wb (Lib.hid ((Stp.below (S := S2) (Below.drew (Below.refl wr.heap.size wr))).trans hst5))); have HL5 := Lib.hid (HLD.out.go hbs5 hst5 (fun _ _ h => h)); have HST5 := Lib.hid ((Stp.below (S := S2) (Below.drew (Below.refl wr.heap.size wr))).trans hst5); clear hbs5 hst5)
                      | (fail))
                    all_goals (go_wp2_with fail; go_meet; exact ⟨by trivial, _, HL5, Lib.hid (fun t => by rw [HHC.out, HC4.out, HC4.out, HHD.out, occ, occ, if_pos rfl]; split <;> split <;> first | omega | (rename_i h1 h2; exact absurd h1.symm h2.1) | (rename_i h1 h2; exact absurd h2.1.symm h1) | (rename_i h1 h2; exact absurd h1 (fun h => h2 ⟨h.symm, by omega⟩))), Lib.hid (HST5.out.1.own HPO4.out (fun k hk => (HFP.out k hk).1))⟩)
                  case rest =>
                    obtain ⟨rfl, l5, HL5, HC5, HPO5⟩ := hcut
                    go_wp2_with fail
                    go_roundw
                    case rel => exact ⟨m + 1, l5, by omega, by go_num, HL5, HC5, HPO5⟩
                    case measure => simp [intOf] <;> omega
                · have hmj2 : m = j := by omega
                  have hz := HC4.out
                  rw [show C.drop m = [] from List.drop_eq_nil_of_le (by omega)] at hz
                  obtain ⟨hz1, hz2⟩ := none_kept HL4.out.bs.srt HL4.out.bs.ok (fun t => by rw [hz]; rfl)
                  have mj : ¬ (m : Int) < j := by omega
                  have HCN := Lib.hid (count_S _ HL4.out.bs)
                  rw [hz1] at HCN
                  have HBL4 := Below.refl wr.heap.size wr
                  have HBY := Lib.hid (fun W (h : Below wr.heap.size wr W) => bytes_S W (HL4.out.below h).bs (by omega))
                  rw [hz2] at HBY
                  have HRT := Lib.hid (fun W (h : Below wr.heap.size wr W) => roots_S W (HL4.out.below h).bs (by omega))
                  have HCK := Lib.hid (fun W (h : Below wr.heap.size wr W) => check_R W (HL4.out.below h).bs (HL4.out.below h).rt (by omega) (HM.out.on (HL4.out.below h).bl))
                  have HK0 := Lib.hid (fun W (h : Below wr.heap.size wr W) => (tcellsK (HL4.out.below h).wb).1)
                  have HAW := Lib.hid (fun W (h : Below wr.heap.size wr W) => HA.out W (HM.out.on (HL4.out.below h).bl))
                  have HHZ := Lib.hid hz
                  clear hz hz1 hz2
                  go_wp2_with (first
                    | (go_at_call 13; (with_reducible refine (HCN.out).mono ?_); rintro e wa ⟨rfl, hba⟩; have hb1 := below_on HBL4 hba; have k0 := HK0.out _ hb1)
                    | (go_at_call 26; (with_reducible refine (HBY.out _ hb1).mono ?_); rintro e wb ⟨rfl, hbb⟩; have hb2 := below_on hb1 hbb; have k0 := HK0.out _ hb2)
                    | (go_at_call 27; (with_reducible refine (HRT.out _ hb2).mono ?_); rintro e w3 ⟨⟨AZ, cZ, rfl⟩, hbc⟩; have hb3 := below_on hb2 hbc; have k0 := HK0.out _ hb3)
                    | (go_at_call 24; (with_reducible refine (HCK.out _ hb3).mono ?_); rintro e w4 ⟨v, rfl, hv, hbd⟩; obtain rfl : v = true := hv.2 (fun t => by rw [HHZ.out]; exact Int.le_refl _); have hb4 := below_on hb3 hbd)
                    | (go_at_call 10; (with_reducible refine (HAW.out _ hb4).mono ?_); rintro e w9 ⟨rfl, hb9⟩)
                    | fail)
                  go_ret
                  exact ⟨rfl, below_on HL4.out.bl (below_on hb4 hb9)⟩
end Go.Proofs.YtmcgaaihdjpdgaaDoor
