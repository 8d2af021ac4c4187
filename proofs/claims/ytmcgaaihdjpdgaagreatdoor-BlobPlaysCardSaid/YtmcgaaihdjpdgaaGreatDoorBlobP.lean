/- Chapter 11: Mark, Is, Forget upon the state. -/
import Derived.Test.YtmcgaaihdjpdgaaGreatDoorBlobM
import Derived.Test.YtmcgaaihdjpdgaaGreatDoorDelStr
namespace Go.Proofs.YtmcgaaihdjpdgaaGreatDoor
open Go.RowKit
set_option linter.unusedVariables false

theorem BS.lt {w : World} {b kb m n : Nat} {D : DataW Unit} {S : Nat → Prop} {l : List KpD} {R : List ByteArray} (h : BS w b kb m n D S l R) {k : Nat} (hk : S k) : k < w.heap.size := by
  obtain ⟨VL, VR, g, _, _, hS⟩ := h
  rcases (hS k).1 hk with h | h | h | h | h
  · rw [h]; exact g.at_.blk.lt
  · rw [h]; exact Blk.lt (show Blk _ kb _ _ from g.bk)
  · rw [h]; exact g.mp.lt
  · exact (g.at_.row.lt _ h).2
  · exact (g.at_.roots.lt _ h).2
theorem BS.rn {w : World} {b kb m n : Nat} {D : DataW Unit} {S : Nat → Prop} {l : List KpD} {R : List ByteArray} (h : BS w b kb m n D S l R) : R.length ≤ n := by
  obtain ⟨_, _, _, _, hR, _⟩ := h
  exact hR
theorem own_some {w : World} {B sz n : Nat} {e : TypeId} {v : Value} {xs : List Value} (h : w.ownsRow B e sz v n xs) (h0 : 0 < n) : ∃ g cap, v = .slice (some ⟨g, 0, none⟩) n cap := by
  rcases h.2 with ⟨_, h2⟩ | ⟨g, cap, cur, hv, _⟩
  · omega
  · exact ⟨g, cap, hv⟩
/-- Mark. -/
theorem mark_S {b kb m n : Nat} {D : DataW Unit} {S : Nat → Prop} {l : List KpD} {R : List ByteArray} (s : ByteArray) (w : World) (h : BS w b kb m n D S l R) (hn : n ≤ 65000) (hs : s.size ≤ 9223372036854775807) :
    Calls Tryz.prog 28 #[.pointer (some ⟨kb, 0, none⟩), .string s] w fun e w' => ∃ q D', e = .returned (.string q) ∧ Marked D' s q ∧ (∀ s' q', Marked D s' q' → Marked D' s' q') ∧ BS w' b kb m (n + 1) D' S l R ∧ Stp S S w w' := by
  refine (mark_any kb m n D s w h.at_.bk h.at_.mp h.good hn hs).mono ?_
  rintro e w' ⟨q, D', rfl, _, hm, hD, h1, h2, h3, h4⟩
  obtain ⟨h5, h6⟩ := h.booked (Nat.le_succ n) h4 h1 h2 h3 hD
  exact ⟨q, D', rfl, hm, hD, h5, h6⟩
theorem is_S {b kb m n : Nat} {D : DataW Unit} {S : Nat → Prop} {l : List KpD} {R : List ByteArray} (s q : ByteArray) (w : World) (h : BS w b kb m n D S l R) (hs : s.size ≤ 9223372036854775807) (hq : Marked D s q) :
    Calls Tryz.prog 26 #[.pointer (some ⟨kb, 0, none⟩), .string s, .string q] w fun e w' => e = .returned (.bool true) ∧ Below w.heap.size w w' := is_any kb m n D s q w h.at_.bk h.at_.mp hs hq
theorem idx_at {l : List ByteArray} {q : ByteArray} (h : q ∈ l) : ∃ i, idxL l q = (i : Nat) ∧ l[i]? = some q ∧ i < l.length := by
  have h1 : (l.findIdx fun p => decide (p = q)) < l.length := List.findIdx_lt_length_of_exists ⟨q, h, decide_eq_true rfl⟩
  refine ⟨l.findIdx fun p => decide (p = q), by unfold idxL; rw [if_pos h1], ?_, h1⟩
  have h2 := List.findIdx_getElem (w := h1)
  rw [List.getElem?_eq_getElem h1]
  congr 1
  simpa using h2
theorem idx_no {l : List ByteArray} {q : ByteArray} (h : q ∉ l) : idxL l q = -1 := by
  unfold idxL
  rw [if_neg]
  intro h1
  have h2 := List.findIdx_getElem (w := h1)
  have h3 : l[l.findIdx fun p => decide (p = q)] = q := by simpa using h2
  exact h (h3 ▸ List.getElem_mem h1)
def ForgetOut (w : World) (b kb m n : Nat) (D : DataW Unit) (S : Nat → Prop) (l : List KpD) (R : List ByteArray) (r : RtD) (e : Ending) (w' : World) : Prop :=
  ∃ l' i, e = .returned (.int .i64 0) ∧ R[i]? = some r.q ∧ BS w' b kb m n D S l' (R.eraseIdx i) ∧ Stp S S w w' ∧ ∀ t, cntT l' t = cntT l t - occ t r.need
set_option maxHeartbeats 4000000 in
set_option maxRecDepth 100000 in
theorem forget_S {b kb m n : Nat} {D : DataW Unit} {S : Nat → Prop} {l : List KpD} {R : List ByteArray} (r : RtD) (w : World) (h : BS w b kb m n D S l R) (hn : n ≤ 65000) (hr : RtGood D r) (hq : r.q ∈ R) (hne : ∀ t, (occ t r.need : Int) ≤ cntT l t) (hm : Ml w) :
    Calls Tryz.prog 36 #[.pointer (some ⟨b, 0, none⟩), .string r.q] w (ForgetOut w b kb m n D S l R r) := by
  have H0 := Lib.hid h
  have hRn := h.rn
  obtain ⟨VL, VR, g, _, _, hS⟩ := h
  have HN := Lib.hid (nonB_any w g)
  have HBK := Lib.hid (fun W (hb : Below w.heap.size w W) => (g.below hb).at_.blk)
  obtain ⟨AR, cR, rfl, _, haR, _⟩ := own_arr g.at_.roots
  have HIX := Lib.hid (fun W (hb : Below w.heap.size w W) => index_any AR cR R r.q W (by omega) ((haR.below hb).more hb.size))
  obtain ⟨i, hi1, hi2, hi3⟩ := idx_at hq
  rw [hi1] at HIX
  have HI2 := Lib.hid hi2
  have HMN := Lib.hid (fun W (hb : Below w.heap.size w W) => manifest_S r.man r.q W (H0.out.below hb) hn hr.1 (hm.on hb))
  have hmn : (manOf r.man).1 = 0 ∧ (manOf r.man).2 = r.acc := by unfold RtD.man; rw [man_back hr.2.1]; exact ⟨rfl, rfl⟩
  have hc : 0 < cntT l r.man := by
    have h1 := hne r.man
    have h2 : 0 < occ r.man r.need := occ_pos (List.mem_append.2 (.inr (by simp)))
    omega
  have HMN2 := Lib.hid (fun W (hb : Below w.heap.size w W) => (HMN.out W hb).mono (fun e w' h => (show ItemsOut W r.acc 0 e w' by unfold ManOut at h; rw [if_pos hc, hmn.1, hmn.2] at h; exact h)))
  have HFIT := Lib.hid hr.2.2
  have hal := hr.2.2.1
  have h256 := (rightE_zero hr.2.1).1
  have HMK := Lib.hid hr.1
  have HNE := Lib.hid hne
  have i0 : ¬ (i : Int) < 0 := by omega
  have i1 : IntKind.i64.wrap ((i : Int) + 1) = (i : Int) + 1 := IntWalk.i64_in _ (by omega)
  obtain ⟨q, fl, acc⟩ := r
  have hnd : RtD.need ⟨q, fl, acc⟩ = datas fl ++ [bytesS acc] := rfl
  have HND := Lib.hid hnd
  have hmn2 : RtD.man ⟨q, fl, acc⟩ = bytesS acc := rfl
  simp only at HIX HMN2 HFIT hal h256 hi1 HI2 ⊢
  rw [hmn2] at HMK
  have HLT := Lib.hid (fun k (hk : S k) => H0.out.lt hk)
  clear g hS haR hi1 hi2 HMN hmn hc hr hne hq hm hnd hmn2
  go_enter Tryz.func36, Tryz.ntmps36
  go_wp2_with (first
    | (go_at_call 18; (with_reducible refine (HN.out).mono ?_); rintro e w1 ⟨rfl, hb1⟩; obtain ⟨k0, k1, k2, _, _, _⟩ := tcellsK (HBK.out _ hb1))
    | (go_at_call 56; (with_reducible refine (HIX.out _ hb1).mono ?_); rintro e w2 ⟨rfl, hb2⟩; have hB2 := below_on hb1 hb2)
    | (go_at_call 19; (with_reducible refine (HMN2.out _ hB2).mono ?_); rintro e w3 ⟨A3, c3, rfl, ha3, hf3, hc3, hb3⟩; have HA3 := Lib.hid ha3; have HF3 := Lib.hid hf3; have hB3 := below_on hB2 hb3; clear ha3 hf3)
    | fail)
  have HB3 := Lib.hid hB3
  have HS3 := Lib.hid (H0.out.below hB3)
  go_loopw [31] (fun vi wr => ∃ (k : Nat) (l3 : List KpD), k ≤ acc.length ∧ vi = .int .i64 k ∧ Hid (BS wr b kb m n D S l3 R) ∧ Hid (Stp S S w3 wr) ∧ Hid (∀ t, cntT l3 t = cntT l t - occ t (datas (fl.take k)))) (fun vi _ => acc.length - (intOf vi).toNat)
  case atStart => exact ⟨0, l, Nat.zero_le _, rfl, HS3, Lib.hid (Stp.refl _ _), Lib.hid (fun t => by rw [List.take_zero]; show _ = _ - ((0 : Nat) : Int); omega)⟩
  case round =>
    obtain ⟨k, l3, hk, rfl, HS, HST, HC⟩ := hrel
    by_cases hlt : k < acc.length
    · obtain ⟨x, hx⟩ : ∃ x, acc[k]? = some x := ⟨_, List.getElem?_eq_getElem hlt⟩
      obtain ⟨f, hf, hxf, hxs, hmk⟩ := fits_at HFIT.out hx
      obtain ⟨bI, oI, rfl, hbI, hcellI⟩ := HA3.out.2 (by omega)
      have hnS : ¬ S bI := fun h => by
        have h1 := HLT.out bI h
        have h2 := HF3.out bI oI rfl
        have h3 := hB2.size
        omega
      obtain ⟨c0, c1, c2, c3'⟩ := item_cells (fun i u h => (HST.out.1.cell (p := ⟨bI, oI + i, none⟩) hbI hnS).trans (hcellI i u h)) hx
      have k1 : (k : Int) < acc.length := by omega
      have hbox := Blk.new wr 58 #[.string x.path, .int .i64 x.mode, .int .i64 x.size, .string x.mark]
      obtain ⟨y0, y1, y2, y3⟩ := ibox4 hbox
      have hAL : Below wr.heap.size wr (wr.alloc (.cells #[.string x.path, .int .i64 x.mode, .int .i64 x.size, .string x.mark] 58)) := (Below.refl _ _).alloc (Nat.le_refl _) _
      have HSA := Lib.hid (HS.out.below hAL)
      have HSTA := Lib.hid (HST.out.trans (Stp.below hAL))
      have hst := take_snoc hf
      have hle : 0 < cntT l3 f.data := by
        rw [HC.out f.data]
        have h1 := HNE.out f.data
        rw [HND.out, occ_app] at h1
        have h2 : fl = fl.take k ++ f :: fl.drop (k + 1) := by rw [← drop_head hf, List.take_append_drop]
        have h3 : datas fl = datas (fl.take k) ++ f.data :: datas (fl.drop (k + 1)) := by
          conv => lhs; rw [h2]
          unfold datas
          rw [List.map_append, List.map_cons]
        rw [h3, occ_app, occ, if_pos rfl] at h1
        omega
      have HDR := Lib.hid (drop_S f.data x.mark _ HSA.out hn hmk)
      unfold DropOutS at HDR
      have HC2 : Hid (∀ t, cntT (dropK l3 x.mark) t = cntT l t - occ t (datas (fl.take (k + 1)))) := Lib.hid (fun t => by
        rw [cnt_drop HS.out.srt HS.out.ok HS.out.good hmk, HC.out, datas_take hf, occ_app, occ_one]
        by_cases e : t = f.data
        · rw [if_pos ⟨e, hle⟩, if_pos e.symm]; omega
        · rw [if_neg (fun h => e h.1), if_neg (fun h => e h.symm)]; omega)
      clear hx hf hxf hmk hcellI hbox hst
      go_wp2_with (first
        | (go_at_call 29; (with_reducible refine (HDR.out).mono ?_); rintro e w5 ⟨rfl, hbs5, hst5⟩; have HBS5 := Lib.hid hbs5; have HST5 := Lib.hid (HSTA.out.trans hst5); clear hbs5 hst5)
        | fail)
      go_roundw
      case rel => exact ⟨k + 1, _, by omega, by go_num, HBS5, HST5, HC2⟩
      case measure => simp [intOf] <;> omega
    · have hke : k = acc.length := by omega
      subst hke
      have hc2 := HC.out
      rw [hal, List.take_length] at hc2
      have HC2 := Lib.hid hc2
      have hle : 0 < cntT l3 (bytesS acc) := by
        rw [hc2]
        have h1 := HNE.out (bytesS acc)
        rw [HND.out, occ_app, occ_one, if_pos rfl] at h1
        omega
      have HLE := Lib.hid hle
      have HDR := Lib.hid (drop_S (bytesS acc) q _ HS.out hn HMK.out)
      unfold DropOutS at HDR
      clear HC hc2 hle
      go_wp2_with (first
        | (go_at_call 29; (with_reducible refine (HDR.out).mono ?_); rintro e w5 ⟨rfl, hbs5, hst5⟩; obtain ⟨VL5, VR5, g5, hk5, hR5, hS5⟩ := hbs5; obtain ⟨A5, c5, rfl, _, _, _⟩ := own_arr g5.at_.roots; obtain ⟨k0, k1, k2, _, _, _⟩ := tcellsK g5.at_.blk; have HG5 := Lib.hid g5; have HK5 := Lib.hid hk5; have HSS5 := Lib.hid hS5; have HST5 := Lib.hid hst5; clear g5 hk5 hS5 hst5)
        | (go_at_call 57; (with_reducible refine (del_str 0 _ R i _ HG5.out.at_.roots hi3).mono ?_); rintro e w6 ⟨V6, rfl, ho6, hoe6, hgr6⟩; obtain ⟨g6, hg6⟩ : ∃ g, (Value.slice A5 R.length c5).ownBlock = some g := (by obtain ⟨gg, cc, hv⟩ := own_some HG5.out.at_.roots (by omega); rw [hv]; exact ⟨gg, rfl⟩); obtain ⟨cap6, rfl⟩ := own_hd ho6 (hoe6.trans hg6); have hfin := HG5.out.rooted (R' := R.eraseIdx i) hgr6 ho6; have hb6 : Blk w6 b 52 #[.pointer (some ⟨kb, 0, none⟩), VL5, .slice A5 R.length c5] := (hgr6.block b HG5.out.at_.blk.lt (fun e => row_ne_blk HG5.out.at_.roots HG5.out.at_.blk (by decide) e.symm)).trans HG5.out.at_.blk; obtain ⟨k0, k1, k2, z0, z1, z2⟩ := tcellsK hb6; have HFIN := Lib.hid hfin; have HOE := Lib.hid hoe6; clear ho6 hgr6 hb6 hfin hoe6)
        | fail)
      go_ret
      unfold ForgetOut
      refine ⟨dropK l3 q, i, rfl, HI2.out, ⟨VL5, _, HFIN.out.1, HK5.out, ?_, fun k => by rw [HOE.out]; exact HSS5.out k⟩, ?_, fun t => ?_⟩
      · have := hR5
        rw [List.length_eraseIdx]
        split <;> omega
      · refine (((Stp.below HB3.out).trans HST.out).trans HST5.out).trans ⟨HFIN.out.2.mono ?_, fun k h => .inl h⟩
        rintro k _ (h | h)
        · exact (HSS5.out k).2 (.inl h)
        · exact (HSS5.out k).2 (.inr (.inr (.inr (.inr h))))
      · rw [cnt_drop HS.out.srt HS.out.ok HS.out.good HMK.out, HC2.out, HND.out, occ_app, occ_one]
        by_cases e : t = bytesS acc
        · rw [if_pos ⟨e, HLE.out⟩, if_pos e.symm]; omega
        · rw [if_neg (fun h => e h.1), if_neg (fun h => e h.symm)]; omega
/-- A mark that is no root's. -/
theorem forget_no {b kb m n : Nat} {D : DataW Unit} {S : Nat → Prop} {l : List KpD} {R : List ByteArray} (q : ByteArray) (w : World) (h : BS w b kb m n D S l R) (hn : n ≤ 65000) (hq : q ∉ R) :
    Calls Tryz.prog 36 #[.pointer (some ⟨b, 0, none⟩), .string q] w fun e w' => e = .returned (.int .i64 8) ∧ Below w.heap.size w w' := by
  have hRn := h.rn
  obtain ⟨VL, VR, g, _, _, hS⟩ := h
  have HN := Lib.hid (nonB_any w g)
  have HBK := Lib.hid (fun W (hb : Below w.heap.size w W) => (g.below hb).at_.blk)
  obtain ⟨AR, cR, rfl, _, haR, _⟩ := own_arr g.at_.roots
  have HIX := Lib.hid (fun W (hb : Below w.heap.size w W) => index_any AR cR R q W (by omega) ((haR.below hb).more hb.size))
  rw [idx_no hq] at HIX
  clear g hS haR hq
  go_enter Tryz.func36, Tryz.ntmps36
  go_wp2_with (first
    | (go_at_call 18; (with_reducible refine (HN.out).mono ?_); rintro e w1 ⟨rfl, hb1⟩; obtain ⟨k0, k1, k2, _, _, _⟩ := tcellsK (HBK.out _ hb1))
    | (go_at_call 56; (with_reducible refine (HIX.out _ hb1).mono ?_); rintro e w2 ⟨rfl, hb2⟩)
    | fail)
  go_ret
  exact ⟨rfl, below_on hb1 hb2⟩
end Go.Proofs.YtmcgaaihdjpdgaaGreatDoor
