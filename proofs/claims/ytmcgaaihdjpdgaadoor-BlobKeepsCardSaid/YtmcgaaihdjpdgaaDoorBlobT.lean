/- Chapter 11: BlobPacks. -/
import Derived.Test.YtmcgaaihdjpdgaaDoorBlobS
namespace Go.Proofs.YtmcgaaihdjpdgaaDoor
open Go.RowKit
set_option linter.unusedVariables false

theorem newT_none {l : List KpD} : ∀ (T : List ByteArray), (∀ t ∈ T, cntT l t ≠ 0) → newT l T = [] := by
  intro T h
  have hk : ∀ k, newT l (T.take k) = [] := by
    intro k
    induction k with
    | zero => simp [newT]
    | succ k ih =>
      by_cases hlt : k < T.length
      · rw [newT_snoc (List.getElem?_eq_getElem hlt), ih]
        unfold newStep
        rw [if_neg (fun hh => h _ (List.getElem_mem hlt) hh.1)]
      · rw [List.take_of_length_le (by omega)] at ih ⊢
        exact ih
  have := hk T.length
  rw [List.take_length] at this
  exact this
theorem newT_mem (L : List ByteArray) (t : ByteArray) : t ∈ newT [] L ↔ t ∈ L := by
  have h := newT_all L t
  constructor
  · intro h1
    refine Classical.byContradiction fun h2 => ?_
    have := occ_pos h1
    rw [h.2 h2] at this
    omega
  · intro h1
    exact occ_mem (by rw [h.1 h1]; omega)
/-- Texts that are kept, told by a list in which each may stand often. -/
theorem texts_of {D : DataW Unit} {l : List KpD} {n : Nat} {C : List ByteArray} (hs : KSrt l) (hk : KOk D l n) (hc : ∀ t, cntT l t = occ t C) : (newT [] C).length = (texts l).length ∧ (∀ t, t ∈ newT [] C ↔ t ∈ texts l) ∧ (texts l).Nodup ∧ (newT [] (texts l)).length = (texts l).length := by
  have hm : ∀ t, t ∈ texts l ↔ t ∈ C := fun t => by
    have h1 := mem_texts hk t
    unfold texts
    rw [h1, hc]
    exact ⟨fun h => occ_mem (by omega), fun h => by have := occ_pos h; omega⟩
  have hn := texts_nodup hs hk
  have h1 : ∀ t, t ∈ newT [] C ↔ t ∈ texts l := fun t => (newT_mem C t).trans (hm t).symm
  exact ⟨(nodup_perm (newT_nodup C) hn h1).length_eq, h1, hn, (nodup_perm (newT_nodup _) hn (fun t => newT_mem _ t)).length_eq⟩
/-- New blobs with a book that was there. -/
theorem bs_more {w : World} {kb m n : Nat} {D : DataW Unit} (h : Bk w kb m) (h2 : MapAt w m n D) (hg : GoodD D n) : BS (w.alloc (.cells #[.pointer (some ⟨kb, 0, none⟩), .slice none 0 0, .slice none 0 0] 75)) w.heap.size kb m n D (fun k => k = w.heap.size ∨ k = kb ∨ k = m) [] [] := by
  refine ⟨.slice none 0 0, .slice none 0 0, ⟨⟨Blk.new w _ _, World.ownsRow_nil _ _ _ _, World.ownsRow_nil _ _ _ _, List.Pairwise.nil⟩, Blk.alloc h _, World.ownsMap.alloc h2 _, hg⟩, ⟨Nat.zero_le _, by simp⟩, Nat.zero_le _, fun k => ⟨fun h => ?_, fun h => ?_⟩⟩
  · rcases h with h | h | h
    · exact .inl h
    · exact .inr (.inl h)
    · exact .inr (.inr (.inl h))
  · rcases h with h | h | h | h | h
    · exact .inl h
    · exact .inr (.inl h)
    · exact .inr (.inr h)
    · cases h
    · cases h
/-- The book has grown by other blobs' calls. -/
theorem BS.rebook {w w' : World} {b kb m n n' : Nat} {D D' : DataW Unit} {S T : Nat → Prop} {l : List KpD} {R : List ByteArray} (h : BS w b kb m n D S l R) (hf : Fr T w w') (hT : ∀ k, S k → T k → k = kb ∨ k = m) (hat : At w' kb m n' D') (hg : GoodD D' n') (hn : n ≤ n') (hD : ∀ s q, Marked D s q → Marked D' s q) : BS w' b kb m n' D' S l R := by
  obtain ⟨VL, VR, g, h1, h2, h3⟩ := h
  have hbk := bk_ne g.at_.blk g.bk
  have hbm := blk_ne_map g.at_.blk g.mp
  have nb : ¬ T b := fun ht => by rcases hT b ((h3 b).2 (.inl rfl)) ht with e | e; exact hbk e.symm; exact hbm e
  have nl : ∀ k, VL.ownBlock = some k → ¬ T k := fun k hk ht => by
    rcases hT k ((h3 k).2 (.inr (.inr (.inr (.inl hk))))) ht with e | e
    · exact row_ne_blk g.at_.row (show Blk w kb _ _ from g.bk) (by decide) (by rw [hk, e])
    · exact row_ne_map g.at_.row g.mp (by rw [hk, e])
  have nr : ∀ k, VR.ownBlock = some k → ¬ T k := fun k hk ht => by
    rcases hT k ((h3 k).2 (.inr (.inr (.inr (.inr hk))))) ht with e | e
    · exact row_ne_blk g.at_.roots (show Blk w kb _ _ from g.bk) (by decide) (by rw [hk, e])
    · exact row_ne_map g.at_.roots g.mp (by rw [hk, e])
  exact ⟨VL, VR, ⟨⟨hf.blk g.at_.blk nb, hf.own g.at_.row nl, hf.own g.at_.roots nr, g.at_.srt⟩, hat.bk, hat.mp, hg⟩, h1.mono hn hD, by omega, h3⟩
def cuts (l : List ByteArray) : List ByteArray := l.map cut500
theorem cuts_take {l : List ByteArray} {i : Nat} {s : ByteArray} (h : l[i]? = some s) : cuts (l.take (i + 1)) = cuts (l.take i) ++ [cut500 s] := by
  rw [take_snoc h]; unfold cuts; simp
theorem newT_app (C : List ByteArray) (t : ByteArray) : newT [] (C ++ [t]) = newStep [] (newT [] C) t := by unfold newT; rw [List.foldl_append]; rfl
/-- What the other blobs' calls may change. -/
def TT (B z : Nat) (k : Nat) : Prop := k = B + 1 ∨ k = B ∨ z ≤ k
theorem framesB_list (l : List ByteArray) : (framesB l).data.toList = framesL l := rfl
theorem scan_pack {l : List ByteArray} (h : ∀ p ∈ l, p.size ≤ 65536) : scanB (framesB l) 0 = l := scan_frames l _ 0 h (by rw [List.drop_zero]; rfl) (Nat.zero_le _)
theorem scan_noisy {l : List ByteArray} {s : ByteArray} (h : ∀ p ∈ l, p.size ≤ 65536) (hs : ∀ j, j < s.size → bt s.data.toList j ≠ 181) : scanB (s ++ framesB l) 0 = l := by
  have hz : s.size ≤ (s ++ framesB l).size := by rw [ByteArray.size_append]; omega
  rw [scan_noise (s ++ framesB l) s.size hz (fun i hi => ?_) s.size 0 (by omega) (Nat.zero_le _)]
  · refine scan_frames l _ _ h ?_ hz
    rw [fm_app, bt_size, List.drop_left]
    rfl
  · have := hs i hi
    unfold bt at this ⊢
    rw [fm_app, List.getD_eq_getElem?_getD, List.getElem?_append_left (by rw [← bt_size]; exact hi), ← List.getD_eq_getElem?_getD]
    exact this
theorem sum_texts (l : List KpD) : sumK l = ((texts l).map (·.size)).sum := by unfold sumK texts; rw [List.map_map]; rfl
set_option maxHeartbeats 4000000 in
set_option maxRecDepth 100000 in
theorem law_packs (A : Option Addr) (c : Nat) (L : List ByteArray) (noise : ByteArray) (w : World)
    (hz : L.length * 16 ≤ 140737488351232) (hcap : L.length ≤ c) (hx : ∀ x ∈ L, x.size ≤ 9223372036854775807) (ha : Arr w w.heap.size 1 A L.length (L.map Value.string)) (hs0 : noise.size ≤ 9223372036854775807) (hm : Ml w) :
    Calls Tryd.prog 8 #[.slice A L.length c, .string noise] w fun e w' => e = .returned (.bool true) ∧ Below w.heap.size w w' := by
  obtain ⟨i2, fi0, fz0, fz1, fz2⟩ := info_parts infoStrF
  have HA := Lib.hid awake11
  have HM := Lib.hid hm
  have HF := Lib.hid (fresh_any w)
  unfold FreshOut at HF
  have HX := Lib.hid hx
  have HAA := Lib.hid ha
  obtain ⟨s', hs', hcase⟩ : ∃ s' : ByteArray, s'.size ≤ 100 ∧ ((100 < noise.size ∧ noise.extract 0 100 = s' ∧ (100 : Int) < noise.size ∧ (100 : Int) ≤ noise.size ∧ ¬ noise.size < 100) ∨ (¬ (100 : Int) < noise.size ∧ s' = noise)) := by
    by_cases h : 100 < noise.size
    · exact ⟨noise.extract 0 100, by rw [ByteArray.size_extract]; omega, .inl ⟨h, rfl, by omega, by omega, by omega⟩⟩
    · exact ⟨noise, by omega, .inr ⟨by omega, rfl⟩⟩
  clear hm hx ha
  have HCASE := Lib.hid hcase
  clear hcase
  go_enter Tryd.func8, Tryd.ntmps8
  go_wp2_with (first
    | (go_at_call 11; (with_reducible refine (HF.out).mono ?_); rintro e w2 ⟨rfl, hw2, hp2, hbs2, hb2, hs2⟩; have HL2 := Lib.hid (LW.new hbs2 hw2 hb2); clear hp2 hbs2 hs2 hw2)
    | fail)
  go_loopw [6, 7] (fun vo vi wr => ∃ (i : Nat) (D : DataW Unit) (S : Nat → Prop) (l : List KpD), i ≤ L.length ∧ i ≤ 20 ∧ vi = .int .i64 i ∧ wr.ownsRow w.heap.size 9 1 vo (newT [] (cuts (L.take i))).length ((newT [] (cuts (L.take i))).map Value.string) ∧ Hid (LW w wr i D S l []) ∧ Hid (∀ t, cntT l t = occ t (cuts (L.take i))) ∧ Hid (∀ k, vo.ownBlock = some k → ¬ S k ∧ w.heap.size + 5 ≤ k)) (fun _ vi _ => L.length - (intOf vi).toNat)
  case atStart => exact ⟨0, _, _, _, Nat.zero_le _, by omega, rfl, by rw [List.take_zero]; exact World.ownsRow_nil _ _ _ _, HL2, Lib.hid (fun t => rfl), Lib.hid (fun k hk => by cases hk)⟩
  case round =>
    obtain ⟨i, D, S, l, hi, hi20, rfl, hown, HL, HC, HNS⟩ := hrel
    obtain ⟨k0, k1, k2, _, _, _⟩ := tcellsK HL.out.wb
    by_cases hend : i < L.length ∧ i < 20
    · obtain ⟨hlt, hl20⟩ := hend
      obtain ⟨s, hs⟩ : ∃ s, L[i]? = some s := ⟨_, List.getElem?_eq_getElem hlt⟩
      obtain ⟨bA, oA, rfl, hbA, hcell⟩ := HAA.out.2 (by omega)
      have c0 := (HL.out.bl.cell (p := ⟨bA, oA + i, none⟩) hbA).trans (hcell i (.string s) (by rw [List.getElem?_map, hs]; rfl))
      have i1 : (i : Int) < L.length := by omega
      have i20 : (i : Int) < 20 := by omega
      have HCT := Lib.hid (cut_any11 s wr (HX.out s (List.mem_of_getElem? hs)))
      have hct := cuts_take hs
      have hsz := cut500_size s
      generalize cut500 s = t at *
      obtain ⟨C, hC⟩ : ∃ C, cuts (L.take i) = C := ⟨_, rfl⟩
      rw [hC] at hct HC hown
      have HCE := Lib.hid hct
      have hnl : C.length ≤ 20 := by rw [← hC]; unfold cuts; rw [List.length_map, List.length_take]; omega
      have hocc := newT_all C t
      obtain ⟨acc, hacc⟩ : ∃ acc, newT [] C = acc := ⟨_, rfl⟩
      rw [hacc] at hown hocc
      have hal : acc.length ≤ 20 := by
        rw [← hacc]
        have := newT_len [] C C.length
        rw [List.take_length] at this
        omega
      have HACC := Lib.hid hacc
      obtain ⟨AO, cO, rfl, _, _, _⟩ := own_arr hown
      have HOW := Lib.hid hown
      have HPT := Lib.hid (put_S t wr HL.out.bs (by omega) (by omega))
      unfold PutOutS at HPT
      have hc1 := HC.out t
      clear hcell hs hC hct hacc hown
      by_cases hin : t ∈ C
      · have hcg : (cntT l t + 1 == 1) = false := by
          rw [beq_eq_false_iff_ne, hc1]
          have := occ_pos hin
          omega
        have hcg2 : ¬ cntT l t + 1 = 1 := by rw [hc1]; have := occ_pos hin; omega
        have HNT : Hid (newT [] (C ++ [t]) = acc) := Lib.hid (by rw [newT_app, HACC.out]; unfold newStep; rw [if_neg]; rintro ⟨_, h⟩; rw [hocc.1 hin] at h; omega)
        obtain ⟨Z, hZ⟩ : ∃ Z, cntT l t + 1 = Z := ⟨_, rfl⟩
        rw [hZ] at hcg hcg2
        have HZ := Lib.hid hZ
        clear hc1 hocc hin hZ
        go_wp2_with (first
          | (go_at_call 18; (with_reducible refine (HCT.out).mono ?_); rintro e wq ⟨rfl, hwq⟩; subst hwq)
          | (go_at_call 12; (with_reducible refine (HPT.out).mono ?_); rintro e w4 ⟨q4, D4, S4, rfl, _, hm4, hmo4, hbs4, hst4⟩; have HL4 := Lib.hid (HL.out.go hbs4 hst4 hmo4); obtain ⟨k0, k1, k2, _, _, _⟩ := tcellsK HL4.out.wb; have HCP := Lib.hid (cnt_put HL.out.bs.srt HL.out.bs.ok hbs4.good hm4 hmo4 (show t.size ≤ 65536 by omega)); have HRF := Lib.hid (refs_S q4 w4 HL4.out.bs (by omega)); rw [ref_T HL4.out.bs.ok HL4.out.bs.good hm4, HCP.out t, if_pos rfl, HZ.out] at HRF; have HST4 := Lib.hid hst4; clear hm4 hmo4 hbs4 hst4)
          | (go_at_call 14; (with_reducible refine (HRF.out).mono ?_); rintro e w5 ⟨rfl, hb5⟩)
          | fail)
        go_roundw
        case rel => exact ⟨i + 1, D4, S4, _, by omega, by omega, by go_num, by rw [HCE.out, HNT.out]; exact own_below (HST4.out.1.own HOW.out (fun k hk => (HNS.out k hk).1)) hb5, Lib.hid (HL4.out.below hb5), Lib.hid (fun u => by rw [HCP.out, HC.out, HCE.out, occ_app, occ_one]; split <;> split <;> first | omega | (rename_i h1 h2; exact absurd h1.symm h2) | (rename_i h1 h2; exact absurd h2.symm h1)), Lib.hid (fun k hk => ⟨fun hS => by rcases HST4.out.2 k hS with h | h; exact (HNS.out k hk).1 h; have := (HOW.out.lt k hk).2; omega, (HNS.out k hk).2⟩)⟩
        case measure => simp [intOf] <;> omega
      · have h0 : cntT l t = 0 := by rw [hc1, occ_zero hin]; rfl
        have H0 := Lib.hid h0
        have HNT : Hid (newT [] (C ++ [t]) = acc ++ [t]) := Lib.hid (by rw [newT_app, HACC.out]; unfold newStep; rw [if_pos ⟨cnt_nil t, hocc.2 hin⟩])
        clear hc1 hocc hin h0
        go_wp2_with (first
          | (go_at_call 18; (with_reducible refine (HCT.out).mono ?_); rintro e wq ⟨rfl, hwq⟩; subst hwq)
          | (go_at_call 12; (with_reducible refine (HPT.out).mono ?_); rintro e w4 ⟨q4, D4, S4, rfl, _, hm4, hmo4, hbs4, hst4⟩; have HL4 := Lib.hid (HL.out.go hbs4 hst4 hmo4); obtain ⟨k0, k1, k2, _, _, _⟩ := tcellsK HL4.out.wb; have HCP := Lib.hid (cnt_put HL.out.bs.srt HL.out.bs.ok hbs4.good hm4 hmo4 (show t.size ≤ 65536 by omega)); have HRF := Lib.hid (refs_S q4 w4 HL4.out.bs (by omega)); rw [ref_T HL4.out.bs.ok HL4.out.bs.good hm4, HCP.out t, if_pos rfl, H0.out] at HRF; have HST4 := Lib.hid hst4; clear hm4 hmo4 hbs4 hst4)
          | (go_at_call 14; (with_reducible refine (HRF.out).mono ?_); rintro e w5 ⟨rfl, hb5⟩; have HL5 := Lib.hid (HL4.out.below hb5); have HO5 := Lib.hid (own_below (HST4.out.1.own HOW.out (fun k hk => (HNS.out k hk).1)) hb5); have hzz := HL5.out.bl.size; have HNS4 : Hid (∀ k, (Value.slice AO acc.length cO).ownBlock = some k → ¬ S4 k ∧ w.heap.size + 5 ≤ k) := Lib.hid (fun k hk => ⟨fun hS => by rcases HST4.out.2 k hS with h | h; exact (HNS.out k hk).1 h; have := (HOW.out.lt k hk).2; omega, (HNS.out k hk).2⟩))
          | (at_builtin; refine wpList_push rfl _ _ _ rfl Tryd.underlying60 fi0 fz0 fz1 fz2 rfl (by decide) HO5.out rfl rfl rfl (by simp [Value.oneCell']) (by unfold maxLen; omega) (by omega) hzz ?_; intro g6 cap6 w6 hown6 hgr6 hat6; have hf6 := Fr.of_grown (S := fun j => (Value.slice AO acc.length cO).ownBlock = some j) hgr6 (fun k hk => hk); have HL6 := Lib.hid (HL5.out.aside hf6 (fun k hk => ⟨(HNS4.out k hk).2, (HNS4.out k hk).1⟩)); have HO6 := Lib.hid hown6; have HN6 : Hid (∀ k, (Value.slice (some ⟨g6, 0, none⟩) (acc.length + 1) cap6).ownBlock = some k → ¬ S4 k ∧ w.heap.size + 5 ≤ k) := Lib.hid (fun k hk => by injection hk with hk; change g6 = k at hk; subst hk; rcases hat6 with h | h; exact HNS4.out _ h; have h1 := HL5.out.big; exact ⟨fun hS => by have := HL5.out.bs.lt hS; omega, by omega⟩); clear hown6 hgr6 hat6 hf6)
          | fail)
        go_roundw
        case rel => exact ⟨i + 1, D4, S4, _, by omega, by omega, by go_num, by rw [HCE.out, HNT.out, List.length_append, List.map_append]; exact HO6.out, HL6, Lib.hid (fun u => by rw [HCP.out, HC.out, HCE.out, occ_app, occ_one]; split <;> split <;> first | omega | (rename_i h1 h2; exact absurd h1.symm h2) | (rename_i h1 h2; exact absurd h2.symm h1)), HN6⟩
        case measure => simp [intOf] <;> omega
    · obtain ⟨C, hC⟩ : ∃ C, cuts (L.take i) = C := ⟨_, rfl⟩
      rw [hC] at HC hown
      obtain ⟨N, hN⟩ : ∃ N, (texts l).length = N := ⟨_, rfl⟩
      obtain ⟨tx1, tx2, tx3, tx4⟩ := texts_of HL.out.bs.srt HL.out.bs.ok HC.out
      rw [hN] at tx1 tx4
      have hNi : N ≤ i := by rw [← hN]; unfold texts; rw [List.length_map]; exact HL.out.bs.ok.1
      have HAL := Lib.hid tx2
      have HNTX := Lib.hid tx4
      have HNE := Lib.hid hN
      have HTZ := Lib.hid (show ∀ p ∈ texts l, p.size ≤ 65536 from fun p hp => by obtain ⟨k, hkl, rfl⟩ := List.mem_map.1 hp; exact (HL.out.bs.ok.2 k hkl).2.2.2)
      obtain ⟨all, hall⟩ : ∃ all, newT [] C = all := ⟨_, rfl⟩
      rw [hall] at tx1 hown HAL
      obtain ⟨AO, cO, rfl, _, haO, _⟩ := own_arr hown
      rw [tx1] at haO
      have HAO := Lib.hid haO
      have HOA := Lib.hid (fun g o e => own_addr (g := g) (o := o) hown e)
      have HNS2 : Hid (∀ g o, AO = some ⟨g, o, none⟩ → 0 < N → w.heap.size + 5 ≤ g ∧ g < wr.heap.size) := Lib.hid (fun g o e hp => by
        obtain ⟨gg, cc, hv⟩ := own_some hown (by rw [tx1]; exact hp)
        have h1 := HNS.out gg (by rw [hv]; rfl)
        injection hv with hv1 _ _
        rw [hv1] at e
        injection e with e
        injection e with e _ _
        subst e
        exact ⟨h1.2, (own_addr hown hv1).2⟩)
      have HTX1 := Lib.hid tx1
      rw [tx1]
      have hFz : (framesB (texts l)).size ≤ 20 * 65546 := by
        rw [bt_size]
        have := framesL_len (texts l) HTZ.out
        rw [hN] at this
        exact Nat.le_trans this (Nat.mul_le_mul_right _ (Nat.le_trans hNi hi20))
      have HPK := Lib.hid (pack_S wr HL.out.bs (by omega))
      have HSC1 := Lib.hid (scan_pack HTZ.out)
      have HSC2 := Lib.hid (fun hs => scan_noisy (s := s') HTZ.out hs)
      generalize framesB (texts l) = F at *
      have hsF : (s' ++ F).size = s'.size + F.size := ByteArray.size_append
      clear hown haO tx1 tx2 tx3 tx4 hN hC hall HNS
      have hx20 : ¬ ((i : Int) < L.length ∧ (i : Int) < 20) := fun h => hend ⟨by omega, by omega⟩
      have g12 : ((i : Int) < L.length ∧ ¬ (i : Int) < 20) ∨ ¬ (i : Int) < L.length := by omega
      clear hend hx20
      go_upto_region 4 with fail
      go_cut [32] from 25 to 32 (fun v wx => v = .bool false ∧ wr = wx)
      case first =>
        rcases g12 with ⟨g1, g2⟩ | g1
        all_goals (go_wp2_with fail; go_meet; exact ⟨by trivial, rfl⟩)
      case rest =>
        obtain ⟨rfl, rfl⟩ := hcut
        go_upto_if 64 with fail
        go_cut [1] from 62 to 66 (fun v wx => v = .string s' ∧ wr = wx)
        case first =>
          rcases HCASE.out with ⟨h1, h2, j1, j2, j3⟩ | ⟨h1, h2⟩
          · go_wp2_with fail
            go_meet
            exact ⟨rfl, rfl⟩
          · subst h2
            go_wp2_with fail
            go_meet
            exact ⟨rfl, rfl⟩
        case rest =>
        obtain ⟨rfl, rfl⟩ := hcut
        go_wp2
        go_loopw [11] (fun vj wz => ∃ j : Nat, j ≤ s'.size ∧ vj = .int .i64 j ∧ Hid (∀ u, u < j → bt s'.data.toList u ≠ 181) ∧ wr = wz) (fun vj _ => s'.size - (intOf vj).toNat)
        case atStart => exact ⟨0, Nat.zero_le _, rfl, Lib.hid (fun u h => absurd h (by omega)), rfl⟩
        case round =>
          obtain ⟨j, hj, rfl, HJ, rfl⟩ := hrel
          by_cases hjl : j < s'.size
          · have gj := bt_get s' j hjl
            have j1 : (j : Int) < s'.size := by omega
            by_cases hb : bt s'.data.toList j = 181
            · rw [hb] at gj
              have t0 : ((181 : UInt8).toNat : Int) = 181 := rfl
              go_wp2_with (first
                | (go_at_call 10; (with_reducible refine (HA.out _ (HM.out.on HL.out.bl)).mono ?_); rintro e w9 ⟨rfl, hb9⟩)
                | fail)
              go_ret
              exact ⟨rfl, below_on HL.out.bl hb9⟩
            · have n1 : ¬ ((bt s'.data.toList j).toNat : Int) = 181 := fun e => hb (UInt8.toNat_inj.1 (by rw [show (181 : UInt8).toNat = 181 from rfl]; omega))
              have n2 : (((bt s'.data.toList j).toNat : Int) == 181) = false := by rw [beq_eq_false_iff_ne]; exact n1
              have HJ2 : Hid (∀ u, u < j + 1 → bt s'.data.toList u ≠ 181) := Lib.hid (fun u hu => by
                rcases Nat.lt_or_ge u j with h | h
                · exact HJ.out u h
                · rw [show u = j by omega]; exact hb)
              generalize bt s'.data.toList j = cc at *
              clear hb HJ
              go_wp2
              go_roundw
              case rel => exact ⟨j + 1, by omega, by go_num, HJ2, by trivial⟩
              case measure => simp [intOf] <;> omega
          · have hje : j = s'.size := by omega
            subst hje
            have hsc2 := HSC2.out HJ.out
            obtain ⟨k0, k1, k2, _, _, _⟩ := tcellsK HL.out.wb
            have hfb : ¬ 9223372036854775807 < s'.size + F.size := by omega
            have hfb2 : s'.size + F.size ≤ 9223372036854775807 := by omega
            have HS2 := Lib.hid hsc2
            clear hsc2 HJ
            go_wp2_with (first
              | (go_at_call 30; (with_reducible refine (HPK.out).mono ?_); rintro e w5 ⟨rfl, hb5⟩; have HL5 := Lib.hid (HL.out.below hb5); obtain ⟨k0, k1, k2, _, _, _⟩ := tcellsK HL5.out.wb; have HBM := Lib.hid (bs_more HL5.out.bs.at_.bk HL5.out.bs.at_.mp HL5.out.bs.good); have HB5 := Lib.hid hb5)
              | (go_at_call 31; (with_reducible refine (new_any _ _).mono ?_); rintro e w6 ⟨rfl, hw6⟩; rw [← hw6] at HBM; have h65 : Below w5.heap.size w5 w6 := (by rw [hw6]; exact (Below.refl _ _).alloc (Nat.le_refl _) _); have H65 := Lib.hid h65; have HUN := Lib.hid (unpack_S (s' ++ F) w6 HBM.out (by omega) (by rw [HS2.out, HNE.out]; omega)); rw [HS2.out] at HUN; unfold UnpOut at HUN; rw [HNE.out, HNTX.out] at HUN; have hz6 := h65.size; clear hw6 h65)
              | (go_at_call 29; (with_reducible refine (HUN.out).mono ?_); rintro e w7 ⟨D7, S7, l7, rfl, hmo7, hbs7, hst7, hc7, hmk7⟩; have HUN2 := Lib.hid (unpack_S F w7 hbs7 (by omega) (by rw [HSC1.out, HNE.out]; omega)); rw [HSC1.out] at HUN2; unfold UnpOut at HUN2; have h0 : newT l7 (texts l) = [] := newT_none _ (fun t ht => by rw [hc7 t, (newT_all _ t).1 ht]; show (0 : Int) + _ ≠ 0; omega); rw [h0, HNE.out] at HUN2; have HMO7 := Lib.hid hmo7; have HST7 := Lib.hid hst7; have HC7 := Lib.hid hc7; have HMK7 := Lib.hid hmk7; clear HUN hmo7 hbs7 hst7 hc7 hmk7 h0)
              | (go_at_call 29; (with_reducible refine (HUN2.out).mono ?_); rintro e w8 ⟨D8, S8, l8, rfl, hmo8, hbs8, hst8, hc8, hmk8⟩; have HBS8 := Lib.hid hbs8; have HMO8 := Lib.hid hmo8; have HST8 := Lib.hid hst8; have HC8 := Lib.hid (fun t => (hc8 t).trans (by show cntT l7 t + ((0 : Nat) : Int) = cntT l7 t; omega)); clear hmo8 hbs8 hst8 hc8 hmk8)
              | fail)
            have HTW : Hid (∀ k, S8 k → TT w.heap.size w5.heap.size k) := Lib.hid (fun k hk => by
              have hz7 := HST7.out.1.size
              rcases HST8.out.2 k hk with h | h
              · rcases HST7.out.2 k h with (h | h | h) | h
                · exact .inr (.inr (by omega))
                · exact .inl h
                · exact .inr (.inl h)
                · exact .inr (.inr (by omega))
              · exact .inr (.inr (by omega)))
            have HT7 : Hid (∀ k, S7 k → TT w.heap.size w5.heap.size k) := Lib.hid (fun k hk => by
              rcases HST7.out.2 k hk with (h | h | h) | h
              · exact .inr (.inr (by omega))
              · exact .inl h
              · exact .inr (.inl h)
              · exact .inr (.inr (by omega)))
            have HT6 : Hid (∀ k, (k = w5.heap.size ∨ k = w.heap.size + 1 ∨ k = w.heap.size) → TT w.heap.size w5.heap.size k) := Lib.hid (fun k hk => by
              rcases hk with h | h | h
              · exact .inr (.inr (by omega))
              · exact .inl h
              · exact .inr (.inl h))
            have HF8 : Hid (Fr (TT w.heap.size w5.heap.size) wr w8) := Lib.hid ((((Fr.of_below HB5.out _).next (Fr.of_below H65.out _)).next (HST7.out.1.mono (fun k _ hk => HT6.out k hk))).next (HST8.out.1.mono (fun k _ hk => HT7.out k hk)))
            have hbig := HL.out.big
            have hz5 := HB5.out.size
            have HB8 : Hid (BS w8 (w.heap.size + 2) (w.heap.size + 1) w.heap.size (i + 2 * N + 2 * N) D8 S l (([] : List RtD).map (·.q))) := Lib.hid (HL.out.bs.rebook HF8.out (fun k hk ht => by
              have h1 := HL.out.bs.lt hk
              rcases ht with h | h | h
              · exact .inl h
              · exact .inr h
              · omega) HBS8.out.at_ HBS8.out.good (by omega) (fun s q h => HMO8.out s q (HMO7.out s q h)))
            have HW8 : Hid (Blk w8 (w.heap.size + 4) 31 #[.pointer (some ⟨w.heap.size + 2, 0, none⟩), .pointer (some ⟨w.heap.size + 1, 0, none⟩), .pointer (some ⟨w.heap.size + 3, 0, none⟩)]) := Lib.hid (HF8.out.blk HL.out.wb (by rintro (h | h | h) <;> omega))
            have hc8 : ∀ t, cntT l8 t = occ t (newT [] (texts l)) := fun t => by rw [HC8.out, HC7.out]; show (0 : Int) + _ = _; omega
            have hn8 := new_count HBS8.out.srt HBS8.out.ok hc8
            have hsum : sumK l8 = sumK l := by
              rw [hn8.2, sum_texts l]
              exact ((nodup_perm (newT_nodup (texts l)) (texts_nodup HL.out.bs.srt HL.out.bs.ok) (fun t => newT_mem _ t)).map (·.size)).sum_nat
            have HC1 : Hid (∀ t ∈ all, cntT l8 t = 1) := Lib.hid (fun t ht => by rw [hc8, (newT_all _ t).1 ((HAL.out t).1 ht)]; rfl)
            have HCN := Lib.hid (fun W (hb : Below w8.heap.size w8 W) => count_S W (HBS8.out.below hb))
            rw [hn8.1, HNTX.out] at HCN
            have HBY1 := Lib.hid (fun W (hb : Below w8.heap.size w8 W) => bytes_S W (HBS8.out.below hb) (by omega))
            have HBY2 := Lib.hid (fun W (hb : Below w8.heap.size w8 W) => bytes_S W (HB8.out.below hb) (by omega))
            rw [hsum] at HBY1
            have kk0 := HW8.out.cell 0
            have HKW := Lib.hid (fun W (hb : Below w8.heap.size w8 W) => (show W.cell? ⟨w.heap.size + 4, 0, none⟩ = some (.pointer (some ⟨w.heap.size + 2, 0, none⟩)) from (Blk.below HW8.out hb HW8.out.lt).cell 0))
            clear hn8 hsum hc8
            generalize sumK l = Z at *
            go_cut [152] from 107 to 152 (fun v wx => v = .bool false ∧ Below w8.heap.size w8 wx)
            case first =>
              go_region_held3 (fun w' => w'.cell? ⟨w.heap.size + 4, 0, none⟩ = some (.pointer (some ⟨w.heap.size + 2, 0, none⟩))) (first | exact kk0 | exact kkA | exact kkB | exact kkC)
                (first
                | (go_at_call 13; (with_reducible refine (HCN.out _ (Below.drew (Below.refl _ _))).mono ?_); rintro e wa ⟨rfl, hba⟩; have hbA := below_on (Below.drew (Below.refl w8.heap.size w8)) hba; have kkA := HKW.out wa hbA)
                | (go_at_call 26; (with_reducible refine (HBY1.out _ hbA).mono ?_); rintro e wb ⟨rfl, hbb⟩; have hbB := below_on hbA hbb; have kkB := HKW.out wb hbB)
                | (go_at_call 26; (with_reducible refine (HBY2.out _ hbB).mono ?_); rintro e wc2 ⟨rfl, hbc⟩; have hbC := below_on hbB hbc; have kkC := HKW.out wc2 hbC)
                | (fail))
              all_goals (go_wp2_with fail; go_meet; exact ⟨by trivial, hbC⟩)
            case rest =>
              obtain ⟨rfl, hbx⟩ := hcut
              obtain ⟨wo, hwo⟩ : ∃ wo, wo = wr := ⟨_, rfl⟩
              subst hwo
              have HBX := Lib.hid (HBS8.out.below hbx)
              have HFX := Lib.hid (HF8.out.next (Fr.of_below hbx _))
              have HNT : Hid (∀ g o, AO = some ⟨g, o, none⟩ → 0 < N → ¬ TT w.heap.size w5.heap.size g) := Lib.hid (fun g o e hp h => by
                obtain ⟨h1, h2⟩ := HNS2.out g o e hp
                rcases h with h | h | h <;> omega)
              clear hbx
              go_wp2
              go_loopw [21] (fun vi wr => ∃ (k : Nat) (D9 : DataW Unit), k ≤ N ∧ vi = .int .i64 k ∧ Hid (BS wr w5.heap.size (w.heap.size + 1) w.heap.size (i + 2 * N + 2 * N + k) D9 S8 l8 []) ∧ Hid (Fr (TT w.heap.size w5.heap.size) wo wr)) (fun vi _ => N - (intOf vi).toNat)
              case atStart => exact ⟨0, D8, Nat.zero_le _, rfl, HBX, HFX⟩
              case round =>
                obtain ⟨k, D9, hk, rfl, HBZ, HFZ⟩ := hrel
                have HBLZ : Hid (Below w.heap.size w wr) := Lib.hid (HL.out.bl.trans (HFZ.out.below HL.out.bl.size (by rintro k (h | h | h) <;> omega)))
                by_cases hkn : k < N
                · obtain ⟨x, hx⟩ : ∃ x, all[k]? = some x := ⟨_, List.getElem?_eq_getElem (by rw [HTX1.out]; exact hkn)⟩
                  obtain ⟨bO, oO, rfl, hbO, hcellO⟩ := HAO.out.2 (by omega)
                  have nT := HNT.out bO oO rfl (by omega)
                  have cx := (HFZ.out.cell (p := ⟨bO, oO + k, none⟩) hbO nT).trans (hcellO k (.string x) (by rw [List.getElem?_map, hx]; rfl))
                  have hWZ := HFZ.out.blk HL.out.wb (by rintro (h | h | h) <;> omega)
                  have k1 : wr.cell? ⟨w.heap.size + 4, 1, none⟩ = some (.pointer (some ⟨w.heap.size + 1, 0, none⟩)) := hWZ.cell 1
                  have hxm := List.mem_of_getElem? hx
                  have hxz := HTZ.out x ((HAL.out x).1 hxm)
                  have HX1 := Lib.hid (HC1.out x hxm)
                  have kn : (k : Int) < N := by omega
                  have HBD := Lib.hid (HBZ.out.below (Below.drew (Below.refl _ _)))
                  have HFD := Lib.hid (HFZ.out.next (Fr.of_below (Below.drew (Below.refl _ _)) _))
                  have HMK := Lib.hid (mark_S x _ HBD.out (by omega) (by omega))
                  have HWW := Lib.hid (fun W (h : Fr (TT w.heap.size w5.heap.size) wo W) => (show W.cell? ⟨w.heap.size + 4, 1, none⟩ = some (.pointer (some ⟨w.heap.size + 1, 0, none⟩)) ∧ W.cell? ⟨bO, oO + k, none⟩ = some (.string x) from ⟨(h.blk HL.out.wb (by rintro (h | h | h) <;> omega)).cell 1, (h.cell (p := ⟨bO, oO + k, none⟩) hbO nT).trans (hcellO k (.string x) (by rw [List.getElem?_map, hx]; rfl))⟩))
                  clear hcellO hx hxm hWZ
                  go_upto_region 28 with fail
                  go_cut [22, 23] from 159 to 172 (fun v22 v23 wx => v22 = .string x ∧ v23 = .int .i64 0 ∧ ∃ D10, Hid (BS wx w5.heap.size (w.heap.size + 1) w.heap.size (i + 2 * N + 2 * N + (k + 1)) D10 S8 l8 []) ∧ Hid (Fr (TT w.heap.size w5.heap.size) wo wx))
                  case first =>
                    go_region_held3 (fun w' => w'.cell? ⟨w.heap.size + 4, 1, none⟩ = some (.pointer (some ⟨w.heap.size + 1, 0, none⟩)) ∧ w'.cell? ⟨bO, oO + k, none⟩ = some (.string x)) (first | exact ⟨k1, cx⟩ | exact kkA | exact kkB)
                      (first
                      | (go_at_call 21; (with_reducible refine (HMK.out).mono ?_); rintro e wa ⟨qa, Da, rfl, hma, hmoa, hbsa, hsta⟩; have HFA := Lib.hid (HFD.out.next (hsta.1.mono (fun k _ hk => HTW.out k hk))); have kkA := HWW.out wa HFA.out; have HGT := Lib.hid (get_S qa wa hbsa (by omega)); rw [get_T hbsa.ok hbsa.good hma, HX1.out, if_pos (show (0 : Int) < 1 by decide)] at HGT; have HBA := Lib.hid hbsa; clear hma hmoa hbsa hsta)
                      | (go_at_call 32; (with_reducible refine (HGT.out).mono ?_); rintro e wb ⟨rfl, hbb⟩; have HFB := Lib.hid (HFA.out.next (Fr.of_below hbb _)); have kkB := HWW.out wb HFB.out; have HBB := Lib.hid (HBA.out.below hbb))
                      | (fail))
                    all_goals (go_wp2_with fail; go_meet; exact ⟨rfl, rfl, Da, Lib.hid (by rw [show i + 2 * N + 2 * N + (k + 1) = i + 2 * N + 2 * N + k + 1 by omega]; exact HBB.out), HFB⟩)
                  case rest =>
                    obtain ⟨rfl, rfl, D10, HBn, HFn⟩ := hcut
                    obtain ⟨k1', cx'⟩ := HWW.out _ HFn.out
                    go_wp2
                    go_roundw
                    case rel => exact ⟨k + 1, D10, by omega, by go_num, HBn, HFn⟩
                    case measure => simp [intOf] <;> omega
                · have hkne : k = N := by omega
                  subst hkne
                  go_wp2_with (first
                    | (go_at_call 10; (with_reducible refine (HA.out _ (HM.out.on HBLZ.out)).mono ?_); rintro e w9 ⟨rfl, hb9⟩)
                    | fail)
                  go_ret
                  exact ⟨rfl, below_on HBLZ.out hb9⟩
end Go.Proofs.YtmcgaaihdjpdgaaDoor
