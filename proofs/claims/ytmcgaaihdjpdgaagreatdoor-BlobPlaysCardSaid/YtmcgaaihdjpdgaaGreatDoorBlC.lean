/- Chapter 11: Put.; Chapter 11: the walk through Put. -/
import Derived.Test.YtmcgaaihdjpdgaaGreatDoorBlB
import Derived.Test.YtmcgaaihdjpdgaaGreatDoorMarkA
import Derived.Test.YtmcgaaihdjpdgaaGreatDoorBlA
import Derived.BigRegion
/- Chapter 11: Put. -/
namespace Go.Proofs.YtmcgaaihdjpdgaaGreatDoor
open Go.RowKit
set_option linter.unusedVariables false

theorem blk_ne_map {w : World} {b m n : Nat} {D : DataW Unit} {t : TypeId} {xs : Array Value} (h : Blk w b t xs) (h' : MapAt w m n D) : b ≠ m := by
  rintro rfl
  obtain ⟨es, clock, hg, _⟩ := h'
  unfold Blk at h
  rw [hg] at h
  cases h
theorem row_ne_map {w : World} {B sz k m n : Nat} {D : DataW Unit} {t : TypeId} {v : Value} {xs : List Value} (h : w.ownsRow B t sz v k xs) (h' : MapAt w m n D) : v.ownBlock ≠ some m := by
  intro e
  obtain ⟨es, clock, hg, _⟩ := h'
  rcases h.2 with ⟨rfl, _⟩ | ⟨g, cap, cur, rfl, _, hgg, _⟩
  · cases e
  · injection e with e
    change g = m at e
    subst e
    rw [hg] at hgg
    cases hgg
theorem row_ne_blk {w : World} {B sz k b : Nat} {t u : TypeId} {v : Value} {xs : List Value} {cs : Array Value} (h : w.ownsRow B t sz v k xs) (h' : Blk w b u cs) (hne : t ≠ u) : v.ownBlock ≠ some b := by
  intro e
  rcases h.2 with ⟨rfl, _⟩ | ⟨g, cap, cur, rfl, _, hgg, _⟩
  · cases e
  · injection e with e
    change g = b at e
    subst e
    unfold Blk at h'
    rw [h'] at hgg
    injection hgg with hgg
    injection hgg with _ e2 _
    exact hne e2.symm
/-- Blobs with an ideal book. -/
structure GB (w : World) (B b kb m n : Nat) (D : DataW Unit) (VL VR : Value) (l : List KpD) (R : List ByteArray) : Prop where
  at_ : BlobAt w B b (.pointer (some ⟨kb, 0, none⟩)) VL VR l R
  bk : Bk w kb m
  mp : MapAt w m n D
  gd : GoodD D n
theorem GB.below {w w' : World} {B b kb m n : Nat} {D : DataW Unit} {VL VR : Value} {l : List KpD} {R : List ByteArray} (h : GB w B b kb m n D VL VR l R) (hb : Below w.heap.size w w') : GB w' B b kb m n D VL VR l R :=
  ⟨h.at_.below hb, Blk.below h.bk hb h.bk.lt, h.mp.below hb h.mp.lt, h.gd⟩
set_option maxRecDepth 100000 in
theorem rdy_any (b m : Nat) (w : World) (h : Bk w b m) : Calls Tryz.prog 38 #[.pointer (some ⟨b, 0, none⟩)] w fun e w' => e = .returned (.bool true) ∧ Below w.heap.size w w' := by
  have H := Lib.hid (none_any b m w h)
  clear h
  go_enter Tryz.func38, Tryz.ntmps38
  go_wp2_with (go_at_call 44; (with_reducible refine (H.out).mono ?_); rintro e w2 ⟨rfl, hb⟩)
  go_ret
  exact ⟨rfl, hb⟩
set_option maxRecDepth 100000 in
theorem nonB_any {B b kb m n : Nat} {D : DataW Unit} {VL VR : Value} {l : List KpD} {R : List ByteArray} (w : World) (h : GB w B b kb m n D VL VR l R) :
    Calls Tryz.prog 18 #[.pointer (some ⟨b, 0, none⟩)] w fun e w' => e = .returned (.bool false) ∧ Below w.heap.size w w' := by
  obtain ⟨k0, k1, k2, _, _, _⟩ := tcellsK h.at_.blk
  have H := Lib.hid (rdy_any kb m w h.bk)
  clear h
  go_enter Tryz.func18, Tryz.ntmps18
  go_wp2_with (go_at_call 38; (with_reducible refine (H.out).mono ?_); rintro e w2 ⟨rfl, hb⟩)
  go_ret
  exact ⟨rfl, hb⟩
/-- The texts with one more that leads to one. -/
def putK (l : List KpD) (q s : ByteArray) : List KpD := match lookK q l with
  | some k => l.set (placeK q l) ⟨k.mark, k.text, k.refs + 1⟩
  | none => insK l (placeK q l) ⟨q, s, 1⟩
theorem setK_cells : ∀ (l : List KpD) (i : Nat) (k : KpD) (r : Int), l[i]? = some k → (kcells l).set (i * 3 + 2) (.int .i64 r) = kcells (l.set i ⟨k.mark, k.text, r⟩)
  | [], i, k, r, h => by simp at h
  | x :: l, 0, k, r, h => by simp at h; subst h; rfl
  | x :: l, i + 1, k, r, h => by
    have e : (i + 1) * 3 = i * 3 + 3 := by omega
    rw [e, kcells_cons, show (x :: l).set (i + 1) ⟨k.mark, k.text, r⟩ = x :: l.set i ⟨k.mark, k.text, r⟩ from rfl, kcells_cons, ← setK_cells l i k r (by simpa using h)]
    rfl
end Go.Proofs.YtmcgaaihdjpdgaaGreatDoor
/- Chapter 11: the walk through Put. -/
namespace Go.Proofs.YtmcgaaihdjpdgaaGreatDoor
open Go.RowKit
set_option linter.unusedVariables false

theorem own_formK {w : World} {B n : Nat} {v : Value} {l : List KpD} (h : w.ownsRow B 60 3 v n (kcells l)) (h0 : 0 < n) : ∃ g cap, v = .slice (some ⟨g, 0, none⟩) n cap := by
  rcases h.2 with ⟨_, h2⟩ | ⟨g, cap, cur, hv, _⟩
  · omega
  · exact ⟨g, cap, hv⟩
theorem GB.marked {w w' : World} {B b kb m n : Nat} {D D' : DataW Unit} {VL VR : Value} {l : List KpD} {R : List ByteArray} (h : GB w B b kb m n D VL VR l R) (hg : w.grownBy w' (some m)) (h1 : Bk w' kb m) (h2 : MapAt w' m (n + 1) D') (h3 : GoodD D' (n + 1)) : GB w' B b kb m (n + 1) D' VL VR l R := by
  have hb := blk_ne_map h.at_.blk h.mp
  refine ⟨⟨?_, h.at_.row.kept hg (.inr (row_ne_map h.at_.row h.mp)), h.at_.roots.kept hg (.inr (row_ne_map h.at_.roots h.mp)), h.at_.srt⟩, h1, h2, h3⟩
  exact (hg.block b h.at_.blk.lt (fun e => by injection e with e; exact hb e)).trans h.at_.blk
theorem srt_same {l l' : List KpD} (h : KSrt l) (e : l'.map (·.mark) = l.map (·.mark)) : KSrt l' := by
  unfold KSrt at h ⊢
  have h1 : (l.map (·.mark)).Pairwise (fun a b => cmpB a b < 0) := List.pairwise_map.2 h
  rw [← e] at h1
  exact List.pairwise_map.1 h1
theorem set_marks : ∀ {l : List KpD} {p : Nat} {k x : KpD}, l[p]? = some k → x.mark = k.mark → (l.set p x).map (·.mark) = l.map (·.mark)
  | [], p, k, x, h, _ => by simp at h
  | y :: l, 0, k, x, h, hx => by simp at h; subst h; simp [hx]
  | y :: l, p + 1, k, x, h, hx => by
    rw [List.set_cons_succ, List.map_cons, List.map_cons, set_marks (by simpa using h) hx]
theorem MapAt.grown {w w' : World} {m n : Nat} {D : DataW Unit} {row : Option Nat} (h : MapAt w m n D) (hg : w.grownBy w' row) (hne : row ≠ some m) : MapAt w' m n D := by
  have hlt := h.lt
  obtain ⟨es, clock, hg2, F, hs, hD⟩ := h
  exact ⟨es, clock, (hg.block m hlt (fun e => hne e.symm)).trans hg2, F, hs, hD⟩
theorem own_apartB {w : World} {B B2 sz sz2 k k2 : Nat} {t u : TypeId} {v v2 : Value} {xs ys : List Value} (h : w.ownsRow B t sz v k xs) (h2 : w.ownsRow B2 u sz2 v2 k2 ys) (hne : t ≠ u) : v.ownBlock = none ∨ v.ownBlock ≠ v2.ownBlock := by
  rcases h2.2 with ⟨rfl, _⟩ | ⟨g, cap, cur, rfl, _, hgg, _⟩
  · cases hv : v.ownBlock with
    | none => exact .inl rfl
    | some g => exact .inr (by intro e; cases e)
  · exact .inr (row_ne_blk h (show Blk w g u cur from hgg) hne)
/-- A change in the row of texts alone. -/
theorem GB.rowed {w w' : World} {B b kb m n : Nat} {D : DataW Unit} {VL VR : Value} {l l' : List KpD} {R : List ByteArray} (h : GB w B b kb m n D VL VR l R) (hg : w.grownBy w' VL.ownBlock) (hr : w'.ownsRow B 60 3 VL l'.length (kcells l')) (hs : KSrt l') : GB w' B b kb m n D VL VR l' R := by
  have nb : VL.ownBlock ≠ some b := row_ne_blk h.at_.row h.at_.blk (by decide)
  have nk : VL.ownBlock ≠ some kb := row_ne_blk h.at_.row (show Blk w kb _ _ from h.bk) (by decide)
  have nm : VL.ownBlock ≠ some m := row_ne_map h.at_.row h.mp
  have nr : VR.ownBlock = none ∨ VR.ownBlock ≠ VL.ownBlock := own_apartB h.at_.roots h.at_.row (by decide)
  refine ⟨⟨?_, hr, h.at_.roots.kept hg nr, hs⟩, ?_, MapAt.grown h.mp hg nm, h.gd⟩
  · exact (hg.block b h.at_.blk.lt (fun e => nb e.symm)).trans h.at_.blk
  · exact (hg.block kb (Blk.lt (show Blk w kb _ _ from h.bk)) (fun e => nk e.symm)).trans h.bk
def PutOutK (w : World) (B b kb m n : Nat) (D : DataW Unit) (VL VR : Value) (l : List KpD) (R : List ByteArray) (s : ByteArray) (e : Ending) (w' : World) : Prop :=
  ∃ q D' VL', e = .returned (.tuple #[.string q, .int .i64 0]) ∧ q.size = 32 ∧ Marked D' s q ∧ (∀ s' q', Marked D s' q' → Marked D' s' q') ∧ GB w' B b kb m (n + 1) D' VL' VR (putK l q s) R ∧ Fr (fun k => k = b ∨ k = m ∨ VL.ownBlock = some k) w w' ∧ (VL'.ownBlock = VL.ownBlock ∨ ∃ g, VL'.ownBlock = some g ∧ w.heap.size ≤ g)
set_option maxHeartbeats 4000000 in
set_option maxRecDepth 100000 in
theorem put_kept {B b kb m n : Nat} {D : DataW Unit} {VL VR : Value} {l : List KpD} {R : List ByteArray} (s : ByteArray) (w : World) (h : GB w B b kb m n D VL VR l R) (hn : n ≤ 65000) (hl : l.length ≤ 90000) (hs : s.size ≤ 65536) (hbs : B ≤ w.heap.size)
    (hrf : ∀ k ∈ l, 0 ≤ k.refs ∧ k.refs ≤ 1000000000) :
    Calls Tryz.prog 24 #[.pointer (some ⟨b, 0, none⟩), .string s] w (PutOutK w B b kb m n D VL VR l R s) := by
  have H0 := Lib.hid h
  have HRF := Lib.hid hrf
  have ns : ¬ (65536 : Int) < s.size := by omega
  clear h hrf
  go_enter Tryz.func24, Tryz.ntmps24
  go_wp2_with (first
    | (go_at_call 18; (with_reducible refine (nonB_any w H0.out).mono ?_); rintro e w1 ⟨rfl, hb1⟩; have H1 := Lib.hid (H0.out.below hb1); have HB1 := Lib.hid hb1; obtain ⟨k0, k1, k2, _, _, _⟩ := tcellsK H1.out.at_.blk; clear hb1)
    | (go_at_call 28; (with_reducible refine (mark_any kb m n D s w1 H1.out.bk H1.out.mp H1.out.gd hn (by omega)).mono ?_); rintro e w2 ⟨q, D', rfl, hq, hmk, hmn, hbk2, hmp2, hgd2, hgr2⟩; have H2 := Lib.hid (H1.out.marked hgr2 hbk2 hmp2 hgd2); have HQ := Lib.hid hq; have HMK := Lib.hid hmk; have HMN := Lib.hid hmn; have HGR := Lib.hid hgr2; clear hq hmk hmn hbk2 hmp2 hgd2 hgr2 k0 k1 k2)
    | (fail))
  have PL := Lib.hid (place_any B b _ VL VR l R q w2 (by omega) H2.out.at_)
  unfold PlOut at PL
  have hfr2 : Fr (fun k => k = b ∨ k = m ∨ VL.ownBlock = some k) w w2 := (Fr.of_below HB1.out _).next (Fr.of_grown HGR.out (fun k hk => by injection hk with hk; exact .inr (.inl hk.symm)))
  have HF2 := Lib.hid hfr2
  clear hfr2
  rcases look_place (m := q) H2.out.at_.srt with ⟨k, hk, hkm, hlk⟩ | ⟨hno, hlk⟩
  · have hfd : foundK q l = true := by unfold foundK; rw [hlk]; rfl
    rw [hfd] at PL
    have HPK : Hid (putK l q s = l.set (placeK q l) ⟨k.mark, k.text, k.refs + 1⟩) := Lib.hid (by unfold putK; rw [hlk])
    obtain ⟨p, hp⟩ : ∃ p, p = placeK q l := ⟨_, rfl⟩
    rw [← hp] at PL hk HPK
    have hpl : p < l.length := by
      rcases Nat.lt_or_ge p l.length with h1 | h1
      · exact h1
      · rw [List.getElem?_eq_none h1] at hk; cases hk
    have HK := Lib.hid hk
    have hr := HRF.out k (List.mem_of_getElem? hk)
    obtain ⟨g, cap, rfl⟩ := own_formK H2.out.at_.row (by omega)
    have pl : (p : Int) < l.length := by omega
    have hwr : IntKind.i64.wrap (k.refs + 1) = k.refs + 1 := by rw [IntKind.wrap_i64]; omega
    clear hk hlk hfd hkm hp
    go_wp2_with (go_at_call 42; (with_reducible refine (PL.out).mono ?_); rintro e w3 ⟨rfl, hb3⟩; have H3 := Lib.hid (H2.out.below hb3); have HB3 := Lib.hid hb3; obtain ⟨k0, k1, k2, _, _, _⟩ := tcellsK H3.out.at_.blk; have x2 := (H3.out.at_.row.cellAt (p * 3 + 2) (by omega)).trans (kcell_at HK.out).2.2; have p2 := H3.out.at_.row.frozenAt (p * 3 + 2); clear hb3)
    have hst := H3.out.at_.row.stored (p * 3 + 2) (.int .i64 (k.refs + 1))
    rw [setK_cells l p k (k.refs + 1) HK.out] at hst
    have HST := Lib.hid hst
    clear hst
    go_ret2
    unfold PutOutK
    have hlen : (l.set p ⟨k.mark, k.text, k.refs + 1⟩).length = l.length := List.length_set
    refine ⟨q, D', .slice (some ⟨g, 0, none⟩) l.length cap, rfl, HQ.out, HMK.out, HMN.out, ?_, ?_, .inl rfl⟩
    · rw [HPK.out]
      exact H3.out.rowed HST.out.2 (by rw [hlen]; exact HST.out.1) (srt_same H3.out.at_.srt (set_marks HK.out rfl))
    · exact (HF2.out.next (Fr.of_below HB3.out _)).next ((Fr.refl _ w3).setCell (p := ⟨g, p * 3 + 2, none⟩) (.inl (.inr (.inr rfl))) _)
  · have hfd : foundK q l = false := by unfold foundK; rw [hlk]; rfl
    rw [hfd] at PL
    obtain ⟨p, hp⟩ : ∃ p, p = placeK q l := ⟨_, rfl⟩
    have HPK : Hid (putK l q s = insK l p ⟨q, s, 1⟩) := Lib.hid (by unfold putK; rw [hlk, hp])
    have hS := insK_srt (x := ⟨q, s, 1⟩) H2.out.at_.srt hno
    rw [show placeK (⟨q, s, 1⟩ : KpD).mark l = p from hp.symm] at hS
    have HSRT := Lib.hid hS
    rw [← hp] at PL
    have hpl : p ≤ l.length := by rw [hp]; exact placeK_le q l
    have hil := insK_len l p ⟨q, s, 0⟩ hpl
    have HIL := Lib.hid hil
    have pl : (p : Int) < (l.length : Int) + 1 := by omega
    clear hlk hfd hp hno hS hil
    go_wp2_with (first
      | (go_at_call 42; (with_reducible refine (PL.out).mono ?_); rintro e w3 ⟨rfl, hb3⟩; have H3 := Lib.hid (H2.out.below hb3); have HB3 := Lib.hid hb3; obtain ⟨k0, k1, k2, _, _, _⟩ := tcellsK H3.out.at_.blk; clear hb3)
      | (go_at_call 43; have hal : Below w3.heap.size w3 (w3.alloc (.cells #[.string q, .string s, .int .i64 0] 60)) := (Below.refl _ _).alloc (Nat.le_refl _) _; have H4 := Lib.hid (H3.out.below hal); have HAL := Lib.hid hal; (with_reducible refine (insert_any _ B VL l ⟨q, s, 0⟩ p w3.heap.size H4.out.at_.row (Blk.new _ _ _) (fun e => by have := (H3.out.at_.row.lt _ e).2; omega) hpl (by omega) (Nat.le_trans (Nat.le_trans hbs HF2.out.size) (Nat.le_trans HB3.out.size hal.size))).mono ?_); rintro e w4 ⟨V4, rfl, ho4, hgr4, hat4⟩; obtain ⟨g4, cap4, rfl⟩ := own_formK ho4 (by rw [HIL.out]; omega); have hb4 : Blk w4 b 52 #[.pointer (some ⟨kb, 0, none⟩), VL, VR] := (hgr4.block b H4.out.at_.blk.lt (fun e => row_ne_blk H4.out.at_.row H4.out.at_.blk (by decide) e.symm)).trans H4.out.at_.blk; have HB4 := Lib.hid hb4; have HO4 := Lib.hid ho4; have HGR4 := Lib.hid hgr4; have HAT4 := Lib.hid hat4; have hgb := row_ne_blk ho4 hb4 (by decide); have n1 : ¬ g4 = b := (fun e => hgb (by rw [e]; rfl)); have n2 : ¬ b = g4 := (fun e => n1 e.symm); have N1 := Lib.hid n1; obtain ⟨k0, k1, k2, z0, z1, z2⟩ := tcellsK hb4; have x2 := (ho4.cellAt (p * 3 + 2) (by rw [HIL.out]; omega)).trans (kcell_at (insK_get l p ⟨q, s, 0⟩ hpl)).2.2; have p2 := ho4.frozenAt (p * 3 + 2); have hil2 := HIL.out; clear ho4 hgr4 hb4 hgb hal hat4)
      | (fail))
    go_ret2
    unfold PutOutK
    have ho5 := HO4.out
    rw [HIL.out] at ho5
    have F1 := Fr.setCell (S := fun k => k = b) (Fr.refl (fun k => k = b) w4) (p := ⟨b, 1, none⟩) (.inl rfl) (.slice (some ⟨g4, 0, none⟩) (l.length + 1 : Nat) cap4)
    have G1 := F1.grown (row := some b) (fun k hk => by rw [hk])
    have r4 : w4.ownsRow B 9 1 VR R.length (R.map Value.string) := H4.out.at_.roots.kept HGR4.out (own_apartB H4.out.at_.roots H4.out.at_.row (by decide))
    have b4 : Bk w4 kb m := (HGR4.out.block kb (Blk.lt (show Blk _ kb _ _ from H4.out.bk)) (fun e => row_ne_blk H4.out.at_.row (show Blk _ kb _ _ from H4.out.bk) (by decide) e.symm)).trans H4.out.bk
    have m4 : MapAt w4 m (n + 1) D' := MapAt.grown H4.out.mp HGR4.out (row_ne_map H4.out.at_.row H4.out.mp)
    have kbb : kb ≠ b := by
      intro e
      have h1 : w4.heap[b]? = _ := HB4.out
      have h2 : w4.heap[kb]? = _ := b4
      rw [e, h1] at h2
      injection h2 with h2
      injection h2 with _ h3 _
      exact absurd h3 (by decide)
    have srt0 : KSrt (insK l p ⟨q, s, 0⟩) := srt_same HSRT.out (by unfold insK; simp)
    have gb1 : GB _ B b kb m (n + 1) D' (.slice (some ⟨g4, 0, none⟩) (l.length + 1 : Nat) cap4) VR (insK l p ⟨q, s, 0⟩) R :=
      ⟨⟨HB4.out.set_ 1 _, by rw [HIL.out]; exact F1.own ho5 (fun k hk => by injection hk with hk; intro e; exact N1.out (hk.trans e)), F1.own r4 (fun k hk e => row_ne_blk r4 HB4.out (by decide) (by rw [hk, e])), srt0⟩, F1.blk b4 kbb, MapAt.grown m4 G1 (fun e => blk_ne_map HB4.out m4 (by injection e)), H4.out.gd⟩
    have rw5 := gb1.at_.row
    rw [HIL.out] at rw5
    have st := rw5.stored (p * 3 + 2) (.int .i64 1)
    rw [setK_cells _ p ⟨q, s, 0⟩ 1 (insK_get l p ⟨q, s, 0⟩ hpl), insK_set l p _ _ hpl] at st
    have hl1 : (insK l p ⟨q, s, 1⟩).length = l.length + 1 := insK_len l p _ hpl
    refine ⟨q, D', .slice (some ⟨g4, 0, none⟩) (l.length + 1 : Nat) cap4, rfl, HQ.out, HMK.out, HMN.out, ?_, ?_, ?_⟩
    · rw [HPK.out]
      exact gb1.rowed st.2 (by rw [hl1]; exact st.1) HSRT.out
    · have f4 : Fr (fun k => k = b ∨ k = m ∨ VL.ownBlock = some k) w w4 := ((HF2.out.next (Fr.of_below HB3.out _)).next (Fr.of_below HAL.out _)).next (Fr.of_grown HGR4.out (fun k hk => .inr (.inr hk)))
      refine (f4.setCell (p := ⟨b, 1, none⟩) (.inl (.inl rfl)) _).setCell (p := ⟨g4, p * 3 + 2, none⟩) ?_ _
      rcases HAT4.out with h | h
      · exact .inl (.inr (.inr (by rw [← h]; rfl)))
      · injection h with h
        refine .inr ?_
        show w.heap.size ≤ g4
        have h5 : g4 = _ := h
        rw [h5]
        exact Nat.le_trans HF2.out.size (Nat.le_trans HB3.out.size HAL.out.size)
    · rcases HAT4.out with h | h
      · exact .inl h
      · exact .inr ⟨_, h, Nat.le_trans HF2.out.size (Nat.le_trans HB3.out.size HAL.out.size)⟩
end Go.Proofs.YtmcgaaihdjpdgaaGreatDoor
