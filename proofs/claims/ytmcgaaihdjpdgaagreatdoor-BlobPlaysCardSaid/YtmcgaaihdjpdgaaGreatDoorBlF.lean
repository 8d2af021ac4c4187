/- Chapter 11: Save upon the state.; Chapter 11: what the roots need, counted in a map (plain).; Chapter 11: Check upon the state.; Chapter 11: roots with their trees; Check, told by texts.; Chapter 11: the example (awake). -/
import Derived.Test.YtmcgaaihdjpdgaaGreatDoorBlE
import Derived.Test.YtmcgaaihdjpdgaaGreatDoorTreeMix
import Derived.Test.YtmcgaaihdjpdgaaGreatDoorImBackPl
/- Chapter 11: Save upon the state. -/
namespace Go.Proofs.YtmcgaaihdjpdgaaGreatDoor
open Go.RowKit
set_option linter.unusedVariables false

theorem itfits_mono {D D' : DataW Unit} {l : List FileD} {acc : List ItemD} (h : ItFits D l acc) (hD : ∀ s q, Marked D s q → Marked D' s q) : ItFits D' l acc :=
  ⟨h.1, fun i f hf => by obtain ⟨q, h1, h2, h3⟩ := h.2 i f hf; exact ⟨q, h1, h2, hD _ _ h3⟩⟩
theorem fits_iok {D : DataW Unit} {l : List FileD} {acc : List ItemD} (h : ItFits D l acc) (hc : checkE l = 0) : ∀ x ∈ acc, IOk x := good_ok (good_of (fits_right h hc))
theorem bytesS_small {l : List ItemD} (hl : l.length ≤ 60) : (bytesS l).size ≤ 65536 := by
  unfold bytesS
  split
  · rename_i h
    have h1 := bytesGo_len l [] (good_of h)
    have h2 := numL_len l.length (by omega)
    rw [bt_size]
    show ((bytesL l).toArray.toList).length ≤ _
    unfold bytesL
    simp only [List.length_append]
    omega
  · decide
def datas (l : List FileD) : List ByteArray := l.map (·.data)
theorem datas_take {l : List FileD} {k : Nat} {f : FileD} (h : l[k]? = some f) : datas (l.take (k + 1)) = datas (l.take k) ++ [f.data] := by
  rw [take_snoc h]; unfold datas; rw [List.map_append]; rfl
/-- What Save makes. -/
def SaveOk (w : World) (b kb m n : Nat) (D : DataW Unit) (S : Nat → Prop) (l : List KpD) (R : List ByteArray) (fl : List FileD) (e : Ending) (w' : World) : Prop :=
  ∃ q acc D' S' l', e = .returned (.tuple #[.string q, .int .i64 0]) ∧ rightE acc = 0 ∧ ItFits D' fl acc ∧ Marked D' (bytesS acc) q ∧ (∀ s q, Marked D s q → Marked D' s q) ∧
    BS w' b kb m (n + 2 * fl.length + 1) D' S' l' (R ++ [q]) ∧ Stp S S' w w' ∧ ∀ t, cntT l' t = cntT l t + occ t (datas fl ++ [bytesS acc])
def SaveOut (w : World) (b kb m n : Nat) (D : DataW Unit) (S : Nat → Prop) (l : List KpD) (R : List ByteArray) (fl : List FileD) (e : Ending) (w' : World) : Prop :=
  (checkE fl ≠ 0 ∧ e = .returned (.tuple #[.string ⟨#[]⟩, .int .i64 (checkE fl)]) ∧ Below w.heap.size w w') ∨ (checkE fl = 0 ∧ SaveOk w b kb m n D S l R fl e w')
set_option maxHeartbeats 4000000 in
set_option maxRecDepth 100000 in
theorem save_S {b kb m n : Nat} {D : DataW Unit} {S : Nat → Prop} {l : List KpD} {R : List ByteArray} (A : Option Addr) (c : Nat) (fl : List FileD) (w : World) (h : BS w b kb m n D S l R) (hn : n + 2 * fl.length ≤ 60000) (hz : fl.length ≤ 60) (hx : ∀ f ∈ fl, FOk f) (hd : ∀ f ∈ fl, f.data.size ≤ 65536)
    (ha : Arr w w.heap.size 3 A fl.length (fcells fl)) (hA : ∀ g o, A = some ⟨g, o, none⟩ → ¬ S g) (hm : Ml w) :
    Calls Tryz.prog 20 #[.pointer (some ⟨b, 0, none⟩), .slice A fl.length c] w (SaveOut w b kb m n D S l R fl) := by
  have hgb : ∃ VL VR, GB w 0 b kb m n D VL VR l R := by obtain ⟨VL, VR, g, _⟩ := h; exact ⟨VL, VR, g⟩
  obtain ⟨VL, VR, g⟩ := hgb
  obtain ⟨i2, fi0, fz0, fz1, fz2⟩ := info_parts infoStrF
  have HN := Lib.hid (nonB_any w g)
  have HBK := Lib.hid (fun W (hb : Below w.heap.size w W) => (g.below hb).at_.blk)
  have H0 := Lib.hid h
  have HIT := Lib.hid (fun W (hb : Below w.heap.size w W) => items_gen kb m n D A c fl W (by omega) hz hx ((ha.below hb).more hb.size) (hm.on hb) (h.below hb).at_ h.good)
  have HA := Lib.hid ha
  have HNA := Lib.hid hA
  have HX := Lib.hid hd
  have hmS : S m := by obtain ⟨VL, VR, _, _, _, hS⟩ := h; exact (hS m).2 (.inr (.inr (.inl rfl)))
  have HM := Lib.hid hm
  clear h g hA ha hx hd hm
  by_cases hE : checkE fl = 0
  · refine Calls.mono (show Calls Tryz.prog 20 #[.pointer (some ⟨b, 0, none⟩), .slice A fl.length c] w (SaveOk w b kb m n D S l R fl) from ?_) (fun e w' h => .inr ⟨hE, h⟩)
    have HIT2 := Lib.hid (fun W (hb : Below w.heap.size w W) => (HIT.out W hb).mono (fun e w' h => (show (∃ A' c' acc D', e = .returned (.tuple #[.slice A' fl.length c', .int .i64 0]) ∧ ItFits D' fl acc ∧ Arr w' w'.heap.size 4 A' fl.length (icells acc) ∧ At w' kb m (n + fl.length) D' ∧ GoodD D' (n + fl.length) ∧ (∀ s q, Marked D s q → Marked D' s q) ∧ W.grownBy w' (some m)) by rcases h with h | h; exact absurd hE h.1; exact h.2)))
    have HE := Lib.hid hE
    clear HIT hE
    go_enter Tryz.func20, Tryz.ntmps20
    go_wp2_with (first
      | (go_at_call 18; (with_reducible refine (HN.out).mono ?_); rintro e w1 ⟨rfl, hb1⟩; obtain ⟨k0, k1, k2, _, _, _⟩ := tcellsK (HBK.out _ hb1))
      | (go_at_call 40; (with_reducible refine (HIT2.out _ hb1).mono ?_); rintro e w2 ⟨A2, c2, acc, D2, rfl, hfit, ha2, hat2, hgd2, hmo2, hgr2⟩; have hbk2 := (H0.out.below hb1).booked (Nat.le_add_right n fl.length) hgr2 hat2.bk hat2.mp hgd2 hmo2; have hri := fits_right hfit HE.out; have hby := bytes_any A2 c2 acc w2 (by rw [hfit.1]; omega) (fits_iok hfit HE.out) (by rw [hfit.1]; exact ha2) (by
          obtain ⟨mm, hmm⟩ := HM.out
          have h1 := (hb1.cell (World.block_lt_of_cell? _ _ hmm)).trans hmm
          exact ⟨mm, (grown_cell hgr2 (World.block_lt_of_cell? _ _ h1) (cell_ne_map h1 (H0.out.below hb1).at_.mp)).trans h1⟩); rw [hri, hfit.1] at hby; have hsm := bytesS_small (l := acc) (by rw [hfit.1]; exact hz); have HFIT := Lib.hid hfit; have HRI := Lib.hid hri; have HBK2 := Lib.hid hbk2; have HBY := Lib.hid hby; have HMO := Lib.hid hmo2; obtain ⟨T, hT⟩ : ∃ T, bytesS acc = T := ⟨_, rfl⟩; rw [hT] at HBY hsm; have HT := Lib.hid hT; have nT : ¬ (65536 : Int) < T.size := (by omega); clear hT hfit ha2 hat2 hgd2 hmo2 hgr2 hbk2 hri hby)
      | (go_at_call 41; (with_reducible refine (HBY.out).mono ?_); rintro e w3 ⟨rfl, hb3⟩)
      | fail)
    have hB3 : Stp S S w w3 := ((Stp.below hb1).trans HBK2.out.2).trans (Stp.below hb3)
    have HB3 := Lib.hid hB3
    have HS3 := Lib.hid (HBK2.out.1.below hb3)
    clear hB3
    go_loopw [40] (fun vi wr => ∃ (k : Nat) (D3 : DataW Unit) (S3 : Nat → Prop) (l3 : List KpD), k ≤ fl.length ∧ vi = .int .i64 k ∧ Hid (BS wr b kb m (n + fl.length + k) D3 S3 l3 R) ∧ Hid (Stp S S3 w wr) ∧ Hid (∀ s q, Marked D2 s q → Marked D3 s q) ∧ Hid (∀ t, cntT l3 t = cntT l t + occ t (datas (fl.take k)))) (fun vi _ => fl.length - (intOf vi).toNat)
    case atStart => exact ⟨0, D2, S, l, Nat.zero_le _, rfl, HS3, HB3, Lib.hid (fun _ _ h => h), Lib.hid (fun t => by rw [List.take_zero]; show _ = _ + ((0 : Nat) : Int); omega)⟩
    case round =>
      obtain ⟨k, D3, S3, l3, hk, rfl, HS, HST, HM3, HC⟩ := hrel
      by_cases hlt : k < fl.length
      · obtain ⟨f, hf⟩ : ∃ f, fl[k]? = some f := ⟨_, List.getElem?_eq_getElem hlt⟩
        obtain ⟨bA, oA, rfl, hbA, hcell⟩ := HA.out.2 (by omega)
        have hnA := HNA.out bA oA rfl
        obtain ⟨c0, c1, c2⟩ := file_cells (fun i u h => (HST.out.1.cell (p := ⟨bA, oA + i, none⟩) hbA hnA).trans (hcell i u h)) hf
        have hbox := Blk.new wr 64 #[.string f.path, .int .i64 f.mode, .string f.data]
        obtain ⟨j0, j1, j2⟩ := fbox_c hbox
        have kl : (k : Int) < fl.length := by omega
        have HSA := Lib.hid (HS.out.below ((Below.refl _ wr).alloc (Nat.le_refl _) (.cells #[.string f.path, .int .i64 f.mode, .string f.data] 64)))
        have hdz := HX.out f (List.mem_of_getElem? hf)
        have HF := Lib.hid hf
        clear hf hcell hbox
        go_wp2_with (first
          | (go_at_call 24; (with_reducible refine (put_S f.data _ HSA.out (by omega) hdz).mono ?_); rintro e w5 ⟨q5, D5, S5, rfl, hq5, hm5, hmo5, hbs5, hst5⟩; have HQ5 := Lib.hid hm5; have HBS5 := Lib.hid hbs5; have HMO5 := Lib.hid hmo5; have HST5 := Lib.hid ((HST.out.trans (Stp.below ((Below.refl _ wr).alloc (Nat.le_refl _) (.cells #[.string f.path, .int .i64 f.mode, .string f.data] 64)))).trans hst5); clear hbs5 hm5 hmo5 hst5)
          | fail)
        go_roundw
        case rel => exact ⟨k + 1, D5, S5, _, by omega, by go_num, HBS5, HST5, Lib.hid (fun s q h => HMO5.out s q (HM3.out s q h)), Lib.hid (fun t => by rw [cnt_put HSA.out.srt HSA.out.ok HBS5.out.good HQ5.out HMO5.out hdz, HC.out, datas_take HF.out, occ_app, occ_one]; split <;> split <;> first | omega | (rename_i h1 h2; exact absurd h1.symm h2) | (rename_i h1 h2; exact absurd h2.symm h1))⟩
        case measure => simp [intOf] <;> omega
      · have hke : k = fl.length := by omega
        subst hke
        have hRn : R.length ≤ n := by obtain ⟨_, _, _, _, hR, _⟩ := H0.out; exact hR
        go_wp2_with (first
          | (go_at_call 24; (with_reducible refine (put_S T _ HS.out (by omega) hsm).mono ?_); rintro e w5 ⟨q5, D5, S5, rfl, hq5, hm5, hmo5, hbs5, hst5⟩; obtain ⟨VL5, VR5, g5, hk5, hR5, hS5⟩ := hbs5; obtain ⟨A5, c5, rfl, _, _, _⟩ := own_arr g5.at_.roots; obtain ⟨k0, k1, k2, _, _, _⟩ := tcellsK g5.at_.blk; have HG5 := Lib.hid g5; have HK5 := Lib.hid hk5; have HSS5 := Lib.hid hS5; have HM5 := Lib.hid hm5; have HMO5 := Lib.hid hmo5; have HST5 := Lib.hid hst5; clear g5 hk5 hS5 hm5 hmo5 hst5)
          | (at_builtin; refine wpList_push rfl _ _ _ rfl Tryz.underlying47 fi0 fz0 fz1 fz2 rfl (by decide) HG5.out.at_.roots rfl rfl rfl (by simp [Value.oneCell']) (by unfold maxLen; omega) (by omega) (Nat.zero_le _) ?_; intro g6 cap6 w6 hown6 hgr6 hat6; have hb6 : Blk w6 b 52 #[.pointer (some ⟨kb, 0, none⟩), VL5, .slice A5 R.length c5] := (hgr6.block b HG5.out.at_.blk.lt (fun e => row_ne_blk HG5.out.at_.roots HG5.out.at_.blk (by decide) e.symm)).trans HG5.out.at_.blk; obtain ⟨k0, k1, k2, z0, z1, z2⟩ := tcellsK hb6; have HO6 := Lib.hid hown6; have HGR6 := Lib.hid hgr6; have HAT6 := Lib.hid hat6; clear hown6 hgr6 hat6 hb6)
          | fail)
        go_ret2
        obtain ⟨S7, hbs7, hst7⟩ := BS.rooted (q := q5) (V := .slice (some ⟨g6, 0, none⟩) (R.length + 1) cap6) HG5.out HK5.out (by omega) HSS5.out HGR6.out (by rw [List.map_append]; exact HO6.out) (by
          rcases HAT6.out with h | h
          · exact .inl h.symm
          · exact .inr ⟨g6, rfl, h⟩)
        unfold SaveOk
        refine ⟨q5, acc, D5, S7, _, rfl, HRI.out, itfits_mono HFIT.out (fun s q h => HMO5.out s q (HM3.out s q h)), by rw [HT.out]; exact HM5.out, fun s q h => HMO5.out s q (HM3.out s q (HMO.out s q h)), by rw [show n + 2 * fl.length + 1 = n + fl.length + fl.length + 1 by omega]; exact hbs7, (HST.out.trans HST5.out).trans hst7, fun t => ?_⟩
        rw [cnt_put HS.out.srt HS.out.ok HG5.out.gd HM5.out HMO5.out hsm, HC.out, List.take_length, occ_app, occ_one, HT.out]
        split <;> split <;> first | omega | (rename_i h1 h2; exact absurd h1.symm h2) | (rename_i h1 h2; exact absurd h2.symm h1)
  · refine Calls.mono (show Calls Tryz.prog 20 #[.pointer (some ⟨b, 0, none⟩), .slice A fl.length c] w (fun e w' => e = .returned (.tuple #[.string ⟨#[]⟩, .int .i64 (checkE fl)]) ∧ Below w.heap.size w w') from ?_) (fun e w' h => .inl ⟨hE, h⟩)
    have HIT2 := Lib.hid (fun W (hb : Below w.heap.size w W) => (HIT.out W hb).mono (fun e w' h => (show (e = .returned (.tuple #[.slice none 0 0, .int .i64 (checkE fl)]) ∧ Below W.heap.size W w') by rcases h with h | h; exact h.2; exact absurd h.1 hE)))
    have e1 : (checkE fl != 0) = true := by rw [bne_iff_ne]; exact hE
    have e2 : (checkE fl == 0) = false := by rw [beq_eq_false_iff_ne]; exact hE
    generalize checkE fl = E at *
    clear HIT
    go_enter Tryz.func20, Tryz.ntmps20
    go_wp2_with (first
      | (go_at_call 18; (with_reducible refine (HN.out).mono ?_); rintro e w1 ⟨rfl, hb1⟩; obtain ⟨k0, k1, k2, _, _, _⟩ := tcellsK (HBK.out _ hb1))
      | (go_at_call 40; (with_reducible refine (HIT2.out _ hb1).mono ?_); rintro e w2 ⟨rfl, hb2⟩)
      | fail)
    go_ret2
    exact ⟨rfl, below_on hb1 hb2⟩
end Go.Proofs.YtmcgaaihdjpdgaaGreatDoor
/- Chapter 11: what the roots need, counted in a map (plain). -/
namespace Go.Proofs.YtmcgaaihdjpdgaaGreatDoor
open Go.RowKit
open Go.Maps (Keyed IsMap)
set_option linter.unusedVariables false

/-- All keys are texts. -/
def Strs (M : DataW Unit) : Prop := ∃ es, M = .map es ∧ ∀ p ∈ es, ∃ q, p.1 = kl q
theorem mem_ins {x y : Lit × DataW Unit} : ∀ {l : List (Lit × DataW Unit)}, y ∈ DataW.insert x l → y = x ∨ y ∈ l
  | [], h => by simp [DataW.insert] at h; exact .inl h
  | z :: l, h => by
    unfold DataW.insert at h
    split at h
    · rcases List.mem_cons.1 h with h | h
      · exact .inl h
      · exact .inr h
    · rcases List.mem_cons.1 h with h | h
      · exact .inr (by rw [h]; simp)
      · rcases mem_ins h with h | h
        · exact .inl h
        · exact .inr (by simp [h])
theorem Strs.put {M : DataW Unit} (h : Strs M) (q : ByteArray) (d : DataW Unit) : Strs (M.put (kl q) d) := by
  obtain ⟨es, rfl, h2⟩ := h
  refine ⟨_, rfl, fun p hp => ?_⟩
  rcases mem_ins hp with rfl | hp
  · exact ⟨q, rfl⟩
  · exact h2 p (List.mem_filter.1 hp).1
theorem Strs.del {M : DataW Unit} (h : Strs M) (k : Lit) : Strs (M.del k) := by
  obtain ⟨es, rfl, h2⟩ := h
  exact ⟨_, rfl, fun p hp => h2 p (List.mem_filter.1 hp).1⟩
theorem kl_same (q : ByteArray) : (kl q).sameKey (kl q) = true := by unfold kl Lit.sameKey; exact beq_self_eq_true _
theorem Strs.size {M : DataW Unit} (h : Strs M) : Maps.size M = 0 ↔ ∀ q, Maps.has M (kl q) = false := by
  obtain ⟨es, rfl, h2⟩ := h
  rw [Maps.size_eq]
  constructor
  · intro h q
    rw [List.length_eq_zero_iff] at h
    subst h
    rfl
  · intro h
    cases es with
    | nil => rfl
    | cons p es =>
      obtain ⟨q, hq⟩ := h2 p (by simp)
      have := h q
      rw [Maps.has_eq, List.any_cons, hq, kl_same, Bool.true_or] at this
      cases this
abbrev nz (c : Int) : DataW Unit := .lit (.int .i64 c)
/-- A map that counts. -/
structure NeedN (M : DataW Unit) (N : List ByteArray) : Prop where
  strs : Strs M
  has : ∀ q, Maps.has M (kl q) = true ↔ q ∈ N
  at_ : ∀ q, M.atKey (kl q) (nz 0) = nz (occ q N)
theorem need_nil : NeedN (.map []) [] := ⟨⟨[], rfl, by simp⟩, fun q => by simp [Maps.has], fun q => rfl⟩
theorem need_snoc {M : DataW Unit} {N : List ByteArray} (h : NeedN M N) (hm : IsMap M) (q : ByteArray) : NeedN (M.put (kl q) (nz ((occ q N : Nat) + 1))) (N ++ [q]) := by
  refine ⟨h.strs.put q _, fun x => ?_, fun x => ?_⟩
  · by_cases e : x = q
    · subst e
      rw [Maps.has_put_same hm (kl_key x)]
      simp
    · rw [Maps.has_put_other (fun e2 => e (kl_inj e2)), h.has x, List.mem_append]
      constructor
      · exact .inl
      · rintro (h | h)
        · exact h
        · exact absurd (by simpa using h) e
  · by_cases e : x = q
    · subst e
      rw [Maps.atKey_put_same hm (kl_key x), occ_app, occ_one, if_pos rfl]
      rfl
    · rw [Maps.atKey_put_other (fun e2 => e (kl_inj e2)), h.at_ x, occ_app, occ_one, if_neg (fun e2 => e e2.symm), Nat.add_zero]
/-- What is left of it, behind some texts that are kept. -/
structure LeftN (M : DataW Unit) (N : List ByteArray) (l : List KpD) : Prop where
  strs : Strs M
  has : ∀ q, Maps.has M (kl q) = true ↔ q ∈ N ∧ ¬ ∃ k ∈ l, k.mark = q ∧ (occ q N : Int) ≤ k.refs
  at_ : ∀ q, Maps.has M (kl q) = true → M.atKey (kl q) (nz 0) = nz (occ q N)
theorem left_nil {M : DataW Unit} {N : List ByteArray} (h : NeedN M N) : LeftN M N [] := ⟨h.strs, fun q => by rw [h.has q]; simp, fun q _ => h.at_ q⟩
theorem nz_inj {a b : Int} (h : nz a = nz b) : a = b := lit_inj h
theorem left_go {M : DataW Unit} {N : List ByteArray} {l : List KpD} {k : KpD} (h : LeftN M N l) {v : Int} (hv : M.atKey (kl k.mark) (nz 0) = nz v) (hle : v ≤ k.refs) : LeftN (M.del (kl k.mark)) N (l ++ [k]) := by
  refine ⟨h.strs.del _, fun q => ?_, fun q hq => ?_⟩
  · by_cases e : q = k.mark
    · subst e
      rw [Maps.has_del_same]
      constructor
      · intro h; cases h
      · rintro ⟨h1, h2⟩
        exfalso
        by_cases hh : Maps.has M (kl k.mark) = true
        · have := nz_inj ((h.at_ _ hh).symm.trans hv)
          exact h2 ⟨k, by simp, rfl, by omega⟩
        · refine hh ((h.has _).2 ⟨h1, ?_⟩)
          rintro ⟨x, hx, h3⟩
          exact h2 ⟨x, by simp [hx], h3⟩
    · rw [Maps.has_del_other (fun e2 => e (kl_inj e2)), h.has q]
      constructor
      · rintro ⟨h1, h2⟩
        refine ⟨h1, ?_⟩
        rintro ⟨x, hx, h3, h4⟩
        rcases List.mem_append.1 hx with hx | hx
        · exact h2 ⟨x, hx, h3, h4⟩
        · obtain rfl : x = k := by simpa using hx
          exact e h3.symm
      · rintro ⟨h1, h2⟩
        refine ⟨h1, ?_⟩
        rintro ⟨x, hx, h3⟩
        exact h2 ⟨x, by simp [hx], h3⟩
  · by_cases e : q = k.mark
    · subst e
      rw [Maps.has_del_same] at hq
      cases hq
    · rw [Maps.has_del_other (fun e2 => e (kl_inj e2))] at hq
      rw [Maps.atKey_del_other (fun e2 => e (kl_inj e2))]
      exact h.at_ q hq
theorem left_stay {M : DataW Unit} {N : List ByteArray} {l : List KpD} {k : KpD} (h : LeftN M N l) {v : Int} (hv : M.atKey (kl k.mark) (nz 0) = nz v) (hle : ¬ v ≤ k.refs) (h0 : 0 ≤ k.refs) : LeftN M N (l ++ [k]) := by
  have hh : Maps.has M (kl k.mark) = true := by
    cases h1 : Maps.has M (kl k.mark) with
    | true => rfl
    | false =>
      rw [Maps.atKey_of_not_has h1] at hv
      have := nz_inj hv
      omega
  have ho := nz_inj ((h.at_ _ hh).symm.trans hv)
  refine ⟨h.strs, fun q => ?_, h.at_⟩
  rw [h.has q]
  constructor
  · rintro ⟨h1, h2⟩
    refine ⟨h1, ?_⟩
    rintro ⟨x, hx, h3, h4⟩
    rcases List.mem_append.1 hx with hx | hx
    · exact h2 ⟨x, hx, h3, h4⟩
    · obtain rfl : x = k := by simpa using hx
      rw [← h3] at h4
      omega
  · rintro ⟨h1, h2⟩
    refine ⟨h1, ?_⟩
    rintro ⟨x, hx, h3⟩
    exact h2 ⟨x, by simp [hx], h3⟩
/-- All that is needed is there. -/
def Enough (N : List ByteArray) (l : List KpD) : Prop := ∀ q ∈ N, (occ q N : Int) ≤ refV (lookK q l)
theorem left_end {M : DataW Unit} {N : List ByteArray} {l : List KpD} (h : LeftN M N l) (hs : KSrt l) : Maps.size M = 0 ↔ Enough N l := by
  rw [h.strs.size]
  constructor
  · intro h1 q hq
    have h2 := h1 q
    have h3 : ∃ k ∈ l, k.mark = q ∧ (occ q N : Int) ≤ k.refs := by
      refine Classical.byContradiction fun hn => ?_
      have := (h.has q).2 ⟨hq, hn⟩
      rw [h2] at this
      cases this
    obtain ⟨k, hk, rfl, hr⟩ := h3
    rw [look_of_mem hs hk]
    exact hr
  · intro h1 q
    cases h2 : Maps.has M (kl q) with
    | false => rfl
    | true =>
      exfalso
      obtain ⟨h3, h4⟩ := (h.has q).1 h2
      have h5 := h1 q h3
      have h6 := occ_pos h3
      cases h7 : lookK q l with
      | none => rw [h7] at h5; simp only [refV] at h5; omega
      | some k =>
        rw [h7] at h5
        obtain ⟨h8, h9⟩ := look_mem h7
        exact h4 ⟨k, h8, h9, h5⟩
end Go.Proofs.YtmcgaaihdjpdgaaGreatDoor
/- Chapter 11: Check upon the state. -/
namespace Go.Proofs.YtmcgaaihdjpdgaaGreatDoor
open Go.RowKit
open Go.Maps (Keyed IsMap)
set_option linter.unusedVariables false

theorem wf_mid {c : Int} (h0 : 0 ≤ c) (h1 : c ≤ 1000000000000) : (Lit.int .i64 c).wf = true := by
  simp only [Lit.wf, IntKind.min, IntKind.max, IntKind.signed, IntKind.bits, Bool.and_eq_true, decide_eq_true_eq, if_true]
  omega
/-- What the roots need. -/
def needOf (mf : ByteArray → List ItemD) (R : List ByteArray) : List ByteArray := (R.map fun q => q :: (mf q).map (·.mark)).flatten
theorem needOf_snoc {mf : ByteArray → List ItemD} {R : List ByteArray} {i : Nat} {q : ByteArray} (h : R[i]? = some q) : needOf mf (R.take (i + 1)) = (needOf mf (R.take i) ++ [q]) ++ (mf q).map (·.mark) := by
  rw [take_snoc h]
  unfold needOf
  rw [List.map_append, List.flatten_append]
  simp
theorem needOf_mem {mf : ByteArray → List ItemD} {R : List ByteArray} {q : ByteArray} (h : q ∈ R) : q ∈ needOf mf R := by
  unfold needOf
  exact List.mem_flatten.2 ⟨_, List.mem_map.2 ⟨q, h, rfl⟩, by simp⟩
theorem needOf_len {mf : ByteArray → List ItemD} : ∀ {R : List ByteArray}, (∀ q ∈ R, (mf q).length ≤ 256) → (needOf mf R).length ≤ 257 * R.length
  | [], _ => by simp [needOf]
  | q :: R, h => by
    have ih := needOf_len (mf := mf) (R := R) (fun x hx => h x (by simp [hx]))
    have h1 := h q (by simp)
    unfold needOf at ih ⊢
    rw [List.map_cons, List.flatten_cons, List.length_append, List.length_cons, List.length_map, List.length_cons]
    omega
/-- Each root's text and items. -/
def RootsOk (D : DataW Unit) (tf : ByteArray → ByteArray) (mf : ByteArray → List ItemD) (R : List ByteArray) : Prop := ∀ q ∈ R, Marked D (tf q) q ∧ manOf (tf q) = (0, mf q)
theorem roots_items {D : DataW Unit} {tf : ByteArray → ByteArray} {mf : ByteArray → List ItemD} {R : List ByteArray} (h : RootsOk D tf mf R) {q : ByteArray} (hq : q ∈ R) : rightE (mf q) = 0 := by
  have h1 := (h q hq).2
  have h2 := man_right (tf q)
  rw [h1] at h2
  exact h2
theorem ibox4 {W : World} {g : Nat} {t : TypeId} {a b c d : Value} (h : Blk W g t #[a, b, c, d]) : W.cell? ⟨g, 0, none⟩ = some a ∧ W.cell? ⟨g, 1, none⟩ = some b ∧ W.cell? ⟨g, 2, none⟩ = some c ∧ W.cell? ⟨g, 3, none⟩ = some d := ⟨h.cell 0, h.cell 1, h.cell 2, h.cell 3⟩
theorem not_enough {D : DataW Unit} {l : List KpD} {n n' : Nat} {s q : ByteArray} {N : List ByteArray} (hk : KOk D l n) (hg : GoodD D n') (hq : Marked D s q) (hN : q ∈ N) (h : ¬ 0 < cntT l s) : ¬ Enough N l := by
  intro he
  have h1 := he q hN
  have h2 := occ_pos hN
  rw [ref_T hk hg hq] at h1
  omega
def ChkOut (w : World) (N : List ByteArray) (l : List KpD) (e : Ending) (w' : World) : Prop := ∃ v, e = .returned (.bool v) ∧ (v = true ↔ Enough N l) ∧ Below w.heap.size w w'
set_option maxHeartbeats 4000000 in
set_option maxRecDepth 100000 in
theorem check_S {b kb m n : Nat} {D : DataW Unit} {S : Nat → Prop} {l : List KpD} {R : List ByteArray} (tf : ByteArray → ByteArray) (mf : ByteArray → List ItemD) (w : World) (h : BS w b kb m n D S l R) (hn : n ≤ 65000) (hR : RootsOk D tf mf R) (hm : Ml w) :
    Calls Tryz.prog 7 #[.pointer (some ⟨b, 0, none⟩)] w (ChkOut w (needOf mf R) l) := by
  have H0 := Lib.hid h
  obtain ⟨VL, VR, g, hk, hRn, hS⟩ := h
  have HN := Lib.hid (nonB_any w g)
  have HBK := Lib.hid (fun W (hb : Below w.heap.size w W) => (g.below hb).at_.blk)
  obtain ⟨AL, cL, rfl, _, haL, _⟩ := own_arr g.at_.row
  obtain ⟨AR, cR, rfl, _, haR, _⟩ := own_arr g.at_.roots
  have HAL := Lib.hid haL
  have HAR := Lib.hid haR
  have HR := Lib.hid hR
  have HM := Lib.hid hm
  have HSRT := Lib.hid g.at_.srt
  have HK := Lib.hid hk
  have hln := hk.1
  have h256 : ∀ q ∈ R, (mf q).length ≤ 256 := fun q hq => (rightE_zero (roots_items hR hq)).1
  have H256 := Lib.hid h256
  have hmm := @run_makeMap Tryz.prog
  clear g hk hS haL haR hR hm h256
  go_enter Tryz.func7, Tryz.ntmps7
  go_wp2_with (first
    | (go_at_call 18; (with_reducible refine (HN.out).mono ?_); rintro e w1 ⟨rfl, hb1⟩; have hbm : Below w.heap.size w (w1.alloc (.map #[] 0)) := hb1.alloc hb1.size _; obtain ⟨k0, k1, k2, _, _, _⟩ := tcellsK (HBK.out _ hbm))
    | fail)
  have hma : MapAt (w1.alloc (.map #[] 0)) w1.heap.size 0 (.map []) := World.ownsMap_made (H := Unit) w1 Tryz.prog 9 (plainElem Tryz.prog 3)
  have hs1 := hb1.size
  obtain ⟨mb, hmb⟩ : ∃ mb, w1.heap.size = mb := ⟨_, rfl⟩
  rw [hmb] at hma hs1 ⊢
  generalize w1.alloc (.map #[] 0) = w2 at *
  go_loopw [20] (fun vi wr => ∃ (i nn : Nat) (M : DataW Unit), i ≤ R.length ∧ vi = .int .i64 i ∧ nn ≤ 257 * i ∧ Hid (MapAt wr mb nn M) ∧ Hid (NeedN M (needOf mf (R.take i))) ∧ Below w.heap.size w wr) (fun vi _ => R.length - (intOf vi).toNat)
  case atStart => exact ⟨0, 0, _, Nat.zero_le _, rfl, Nat.le_refl _, Lib.hid hma, Lib.hid (by rw [List.take_zero]; exact need_nil), hbm⟩
  case round =>
    obtain ⟨i, nn, M, hi, rfl, hnn, HMA, HND, hB⟩ := hrel
    by_cases hlt : i < R.length
    · obtain ⟨q, hq⟩ : ∃ q, R[i]? = some q := ⟨_, List.getElem?_eq_getElem hlt⟩
      have hqm := List.mem_of_getElem? hq
      obtain ⟨bA, oA, rfl, hbA, hcell⟩ := HAR.out.2 (by omega)
      have c0 := (hB.cell (p := ⟨bA, oA + i, none⟩) hbA).trans (hcell i (.string q) (by rw [List.getElem?_map, hq]; rfl))
      have i1 : (i : Int) < R.length := by omega
      obtain ⟨hq1, hq2⟩ := HR.out q hqm
      have HMN := Lib.hid (manifest_S (tf q) q wr (H0.out.below hB) hn hq1 (HM.out.on hB))
      rw [hq2] at HMN
      by_cases hc : 0 < cntT l (tf q)
      · have HMN2 := Lib.hid (HMN.out.mono (fun e w' h => (show ItemsOut wr (mf q) 0 e w' by unfold ManOut at h; rw [if_pos hc] at h; exact h)))
        have hkey := WideMaps.keyOf_string_mk (P := Tryz.prog) Tryz.underlying9 (s := q) (by rw [marked_size hq1]; unfold maxLen; omega)
        have hst := needOf_snoc (mf := mf) hq
        have HST := Lib.hid hst
        have hlm := H256.out q hqm
        have hgd := good_of (roots_items HR.out hqm)
        obtain ⟨N, hN⟩ : ∃ N, needOf mf (R.take i) = N := ⟨_, rfl⟩
        have hNl : N.length ≤ 257 * i := by
          rw [← hN]
          have := needOf_len (mf := mf) (R := R.take i) (fun x hx => H256.out x (List.mem_of_mem_take hx))
          rw [List.length_take] at this
          have h2 : min i R.length ≤ i := Nat.min_le_left _ _
          omega
        rw [hN] at HND HST
        have hol := occ_le q N
        have hat0 := HND.out.at_ q
        have hsn := need_snoc HND.out HMA.out.isMap q
        obtain ⟨O, hO⟩ : ∃ O : Nat, occ q N = O := ⟨_, rfl⟩
        rw [hO] at hat0 hsn hol
        have HAT := Lib.hid hat0
        have HSN := Lib.hid hsn
        have hwf : (Lit.int .i64 ((O : Int) + 1)).wf = true := wf_mid (by omega) (by omega)
        have HGD := Lib.hid hgd
        generalize mf q = L at *
        clear hq hqm hcell hq1 hq2 HMN hst hgd hsn hat0 hO hN hc
        go_wp2_with (first
          | (go_at_call 19; (with_reducible refine (HMN2.out).mono ?_); rintro e w3 ⟨A3, c3, rfl, ha3, hf3, hc3, hb3⟩; have HM3 := Lib.hid (MapAt.below HMA.out hb3 HMA.out.lt); have HA3 := Lib.hid ha3; have hB3 := below_on hB hb3; clear ha3 hf3)
          | (at_lookup; refine wpList_lookup_own_int _ rfl _ _ 49 rfl 9 3 .i64 key_law Tryz.underlying49 Tryz.underlying3 (zint _) mb nn M rfl HM3.out _ _ rfl hkey ?_; intro cL hat hwc; obtain rfl := lit_inj (hat.symm.trans HAT.out); clear hat)
          | (at_mapUpdate; refine wpList_mapUpdate_own _ rfl _ _ _ 49 rfl 9 3 key_law Tryz.underlying49 _ mb nn M rfl HM3.out (by unfold maxLen; omega) _ _ _ rfl rfl hkey _ [] (plainElem_int Tryz.underlying3 hwf) ?_; intro w4 hown4 hgrow4; have HM4 := Lib.hid hown4; clear hown4)
          | fail)
        have hB4 : Below w.heap.size w w4 := hB3.grown hgrow4 hB3.size (fun j hj => by injection hj with hj; omega)
        have HTK : Hid (NeedN (M.put (kl q) (nz ((O : Int) + 1))) ((N ++ [q]) ++ (L.map (·.mark)).take 0)) := Lib.hid (by rw [List.take_zero, List.append_nil]; exact HSN.out)
        go_loopw [38] (fun vj wr => ∃ (j n2 : Nat) (M2 : DataW Unit), j ≤ L.length ∧ vj = .int .i64 j ∧ n2 ≤ 257 * i + 1 + j ∧ Hid (MapAt wr mb n2 M2) ∧ Hid (NeedN M2 ((N ++ [q]) ++ (L.map (·.mark)).take j)) ∧ Hid (w3.grownBy wr (some mb)) ∧ Below w.heap.size w wr) (fun vj _ => L.length - (intOf vj).toNat)
        case atStart => exact ⟨0, nn + 1, _, Nat.zero_le _, rfl, by omega, HM4, HTK, Lib.hid hgrow4, hB4⟩
        case round =>
          obtain ⟨j, n2, M2, hj, rfl, hn2, HMA2, HND2, HGR2, hB2⟩ := hrel
          by_cases hlj : j < L.length
          · obtain ⟨x, hx⟩ : ∃ x, L[j]? = some x := ⟨_, List.getElem?_eq_getElem hlj⟩
            obtain ⟨bI, oI, rfl, hbI, hcellI⟩ := HA3.out.2 (by omega)
            have hAm : bI ≠ mb := by
              have h1 : ∃ u, (icells L)[j * 4]? = some u := ⟨_, (icell_at hx).1⟩
              obtain ⟨u, hu⟩ := h1
              exact cell_ne_map (hcellI _ u hu) HM3.out
            obtain ⟨c0, c1, c2, c3'⟩ := item_cells (fun i u h => (grown_cell HGR2.out hbI hAm).trans (hcellI i u h)) hx
            have hgx := HGD.out x (List.mem_of_getElem? hx)
            have j1 : (j : Int) < L.length := by omega
            have hbox := Blk.new wr 58 #[.string x.path, .int .i64 x.mode, .int .i64 x.size, .string x.mark]
            obtain ⟨y0, y1, y2, y3⟩ := ibox4 hbox
            have HMA3 := Lib.hid (World.ownsMap.alloc HMA2.out (.cells #[.string x.path, .int .i64 x.mode, .int .i64 x.size, .string x.mark] 58))
            have hkey2 := WideMaps.keyOf_string_mk (P := Tryz.prog) Tryz.underlying9 (s := x.mark) (by rw [hgx.2.2.2]; unfold maxLen; omega)
            have hat0 := HND2.out.at_ x.mark
            have hsn := need_snoc HND2.out HMA2.out.isMap x.mark
            have hol := occ_le x.mark ((N ++ [q]) ++ (L.map (·.mark)).take j)
            have hol2 : ((N ++ [q]) ++ (L.map (·.mark)).take j).length ≤ 257 * i + 1 + j := by
              rw [List.length_append, List.length_append, List.length_take]
              have h2 : min j (L.map (·.mark)).length ≤ j := Nat.min_le_left _ _
              simp only [List.length_cons, List.length_nil]
              omega
            obtain ⟨O2, hO2⟩ : ∃ O2 : Nat, occ x.mark ((N ++ [q]) ++ (L.map (·.mark)).take j) = O2 := ⟨_, rfl⟩
            rw [hO2] at hat0 hsn hol
            have HAT2 := Lib.hid hat0
            have HSN2 : Hid (NeedN (M2.put (kl x.mark) (nz ((O2 : Int) + 1))) ((N ++ [q]) ++ (L.map (·.mark)).take (j + 1))) := Lib.hid (by
              have : (L.map (·.mark)).take (j + 1) = (L.map (·.mark)).take j ++ [x.mark] := take_snoc (by rw [List.getElem?_map, hx]; rfl)
              rw [this, ← List.append_assoc]
              exact hsn)
            have hob : O2 ≤ 100000000 := by omega
            have hwf2 : (Lit.int .i64 ((O2 : Int) + 1)).wf = true := wf_mid (by omega) (by omega)
            have hGA : w3.grownBy (wr.alloc (.cells #[.string x.path, .int .i64 x.mode, .int .i64 x.size, .string x.mark] 58)) (some mb) := HGR2.out.trans (grown_of_below ((Below.refl _ wr).alloc (Nat.le_refl _) _))
            have HGA := Lib.hid hGA
            have hBA := hB2.alloc hB2.size (.cells #[.string x.path, .int .i64 x.mode, .int .i64 x.size, .string x.mark] 58)
            clear hx hcellI hbox hat0 hsn hO2 hol hol2 hgx hGA
            go_wp2_with (first
              | (at_lookup; refine wpList_lookup_own_int _ rfl _ _ 49 rfl 9 3 .i64 key_law Tryz.underlying49 Tryz.underlying3 (zint _) mb n2 M2 rfl HMA3.out _ _ rfl hkey2 ?_; intro cL hat hwc; obtain rfl := lit_inj (hat.symm.trans HAT2.out); clear hat)
              | (at_mapUpdate; refine wpList_mapUpdate_own _ rfl _ _ _ 49 rfl 9 3 key_law Tryz.underlying49 _ mb n2 M2 rfl HMA3.out (by unfold maxLen; omega) _ _ _ rfl rfl hkey2 _ [] (plainElem_int Tryz.underlying3 hwf2) ?_; intro w5 hown5 hgrow5; have HM5 := Lib.hid hown5; clear hown5)
              | fail)
            go_roundw
            case rel => exact ⟨j + 1, n2 + 1, _, by omega, by go_num, by omega, HM5, HSN2, Lib.hid (HGA.out.trans hgrow5), hBA.grown hgrow5 hBA.size (fun j hj => by injection hj with hj; omega)⟩
            case measure => simp [intOf] <;> omega
          · have hje : j = L.length := by omega
            subst hje
            have hnd := HND2.out
            rw [List.take_of_length_le (by rw [List.length_map]; exact Nat.le_refl _), ← HST.out] at hnd
            have HND3 := Lib.hid hnd
            clear hnd
            go_wp2
            go_roundw
            case rel => exact ⟨i + 1, n2, M2, by omega, by go_num, by omega, HMA2, HND3, hB2⟩
            case measure => simp [intOf] <;> omega
      · have HMN2 := Lib.hid (HMN.out.mono (fun e w' h => (show e = .returned (.tuple #[.slice none 0 0, .int .i64 8]) ∧ Below wr.heap.size wr w' by unfold ManOut at h; rw [if_neg hc] at h; exact h)))
        have HNE := Lib.hid (not_enough HK.out H0.out.good hq1 (needOf_mem (mf := mf) hqm) hc)
        clear hq hqm hcell hq1 hq2 HMN hc
        go_wp2_with (first
          | (go_at_call 19; (with_reducible refine (HMN2.out).mono ?_); rintro e w3 ⟨rfl, hb3⟩)
          | fail)
        go_ret
        unfold ChkOut
        exact ⟨false, rfl, ⟨fun h => (by cases h), fun h => absurd h HNE.out⟩, below_on hB hb3⟩
    · have hie : i = R.length := by omega
      subst hie
      have hnd := HND.out
      rw [List.take_length] at hnd
      have HLF := Lib.hid (left_nil hnd)
      obtain ⟨N, hN⟩ : ∃ N, needOf mf R = N := ⟨_, rfl⟩
      have HNN := Lib.hid hN
      rw [hN] at HLF
      obtain ⟨k0, k1, k2, _, _, _⟩ := tcellsK (HBK.out _ hB)
      clear HND hnd hN hbm
      have hB0 := hB
      have HMA0 := HMA
      go_wp2
      go_loopw [54] (fun vj wr => ∃ (j : Nat) (M : DataW Unit), j ≤ l.length ∧ vj = .int .i64 j ∧ Hid (MapAt wr mb nn M) ∧ Hid (LeftN M N (l.take j)) ∧ Below w.heap.size w wr) (fun vj _ => l.length - (intOf vj).toNat)
      case atStart => exact ⟨0, M, Nat.zero_le _, rfl, HMA0, Lib.hid (by rw [List.take_zero]; exact HLF.out), hB0⟩
      case round =>
        obtain ⟨j, M2, hj, rfl, HMA2, HL, hB2⟩ := hrel
        by_cases hlj : j < l.length
        · obtain ⟨k, hk⟩ : ∃ k, l[j]? = some k := ⟨_, List.getElem?_eq_getElem hlj⟩
          obtain ⟨bI, oI, rfl, hbI, hcellI⟩ := HAL.out.2 (by omega)
          obtain ⟨c0, c1, c2⟩ := kept_cells (fun i u h => (hB2.cell (p := ⟨bI, oI + i, none⟩) hbI).trans (hcellI i u h)) hk
          obtain ⟨hk1, hk2, hk3, hk4⟩ := HK.out.2 k (List.mem_of_getElem? hk)
          have hbox := Blk.new wr 60 #[.string k.mark, .string k.text, .int .i64 k.refs]
          obtain ⟨y0, y1, y2, _, _, _⟩ := tcellsK hbox
          have j1 : (j : Int) < l.length := by omega
          have hkey2 := WideMaps.keyOf_string_mk (P := Tryz.prog) Tryz.underlying9 (s := k.mark) (by rw [marked_size hk1]; unfold maxLen; omega)
          have HMA3 := Lib.hid (World.ownsMap.alloc HMA2.out (.cells #[.string k.mark, .string k.text, .int .i64 k.refs] 60))
          have hBA := hB2.alloc hB2.size (.cells #[.string k.mark, .string k.text, .int .i64 k.refs] 60)
          have htk := take_snoc hk
          obtain ⟨v, hv⟩ : ∃ v, M2.atKey (kl k.mark) (nz 0) = nz v := by
            cases h1 : Maps.has M2 (kl k.mark) with
            | true => exact ⟨_, HL.out.at_ _ h1⟩
            | false => exact ⟨0, Maps.atKey_of_not_has h1 _⟩
          have HV := Lib.hid hv
          by_cases hle : v ≤ k.refs
          · have hlg := left_go HL.out hv hle
            rw [← htk] at hlg
            have HLG := Lib.hid hlg
            clear hk hcellI hk1 hbox htk hv hlg
            go_wp2_with (first
              | (at_lookup; refine wpList_lookup_own_int _ rfl _ _ 49 rfl 9 3 .i64 key_law Tryz.underlying49 Tryz.underlying3 (zint _) mb nn M2 rfl HMA3.out _ _ rfl hkey2 ?_; intro cL hat hwc; obtain rfl := lit_inj (hat.symm.trans HV.out); clear hat)
              | (at_delete; refine wpList_delete_own _ rfl _ _ 49 9 rfl 3 key_law Tryz.underlying49 _ mb nn M2 rfl HMA3.out _ _ rfl hkey2 ?_; intro w5 hown5 hturn5; have HM5 := Lib.hid hown5; have hgrow5 := hturn5.grown; clear hown5)
              | fail)
            go_roundw
            case rel => exact ⟨j + 1, _, by omega, by go_num, HM5, HLG, hBA.grown hgrow5 hBA.size (fun j hj => by injection hj with hj; omega)⟩
            case measure => simp [intOf] <;> omega
          · have hlg := left_stay HL.out hv hle (by omega)
            rw [← htk] at hlg
            have HLG := Lib.hid hlg
            clear hk hcellI hk1 hbox htk hv hlg
            go_wp2_with (first
              | (at_lookup; refine wpList_lookup_own_int _ rfl _ _ 49 rfl 9 3 .i64 key_law Tryz.underlying49 Tryz.underlying3 (zint _) mb nn M2 rfl HMA3.out _ _ rfl hkey2 ?_; intro cL hat hwc; obtain rfl := lit_inj (hat.symm.trans HV.out); clear hat)
              | fail)
            go_roundw
            case rel => exact ⟨j + 1, _, by omega, by go_num, HMA3, HLG, hBA⟩
            case measure => simp [intOf] <;> omega
        · have hje : j = l.length := by omega
          subst hje
          have hl := HL.out
          rw [List.take_length] at hl
          have HEND := Lib.hid (left_end hl HSRT.out)
          obtain ⟨z, hz⟩ : ∃ z, Maps.size M2 = z := ⟨_, rfl⟩
          rw [hz] at HEND
          have HZ := Lib.hid hz
          clear HL hl hz
          by_cases h0 : z = 0
          · subst h0
            go_wp2_with (first
              | (at_len; refine wpList_len_own _ rfl _ 49 rfl 9 3 Tryz.underlying49 _ mb nn M2 rfl HMA2.out ?_; rw [HZ.out])
              | fail)
            go_ret
            unfold ChkOut
            rw [HNN.out]
            exact ⟨true, rfl, ⟨fun _ => HEND.out.1 (by trivial), fun _ => rfl⟩, hB2⟩
          · have hz0 : ((z : Int) == 0) = false := by rw [beq_eq_false_iff_ne]; omega
            have hz1 : ¬ (z : Int) = 0 := by omega
            go_wp2_with (first
              | (at_len; refine wpList_len_own _ rfl _ 49 rfl 9 3 Tryz.underlying49 _ mb nn M2 rfl HMA2.out ?_; rw [HZ.out])
              | fail)
            go_ret
            unfold ChkOut
            rw [HNN.out]
            exact ⟨false, rfl, ⟨fun h => (by cases h), fun h => absurd (HEND.out.2 h) h0⟩, hB2⟩
end Go.Proofs.YtmcgaaihdjpdgaaGreatDoor
/- Chapter 11: roots with their trees; Check, told by texts. -/
namespace Go.Proofs.YtmcgaaihdjpdgaaGreatDoor
open Go.RowKit
set_option linter.unusedVariables false

/-- A root: its mark, its files, its items. -/
structure RtD where
  q : ByteArray
  fl : List FileD
  acc : List ItemD
def RtD.man (r : RtD) : ByteArray := bytesS r.acc
def RtD.need (r : RtD) : List ByteArray := datas r.fl ++ [r.man]
def RtGood (D : DataW Unit) (r : RtD) : Prop := Marked D r.man r.q ∧ rightE r.acc = 0 ∧ ItFits D r.fl r.acc
theorem RtGood.mono {D D' : DataW Unit} {r : RtD} (h : RtGood D r) (hD : ∀ s q, Marked D s q → Marked D' s q) : RtGood D' r := ⟨hD _ _ h.1, h.2.1, itfits_mono h.2.2 hD⟩
/-- How often all roots need a text. -/
def needT (t : ByteArray) : List RtD → Nat
  | [] => 0
  | r :: l => occ t r.need + needT t l
theorem needT_app (t : ByteArray) : ∀ a b : List RtD, needT t (a ++ b) = needT t a + needT t b
  | [], b => by simp [needT]
  | x :: a, b => by rw [List.cons_append, needT, needT, needT_app t a b]; omega
theorem needT_pos {t : ByteArray} : ∀ {l : List RtD}, 0 < needT t l → ∃ r ∈ l, t ∈ r.need
  | r :: l, h => by
    rw [needT] at h
    by_cases h1 : 0 < occ t r.need
    · exact ⟨r, by simp, occ_mem h1⟩
    · obtain ⟨r2, h2, h3⟩ := needT_pos (t := t) (l := l) (by omega)
      exact ⟨r2, by simp [h2], h3⟩
theorem needT_mem {t : ByteArray} : ∀ {l : List RtD} {r : RtD}, r ∈ l → occ t r.need ≤ needT t l
  | x :: l, r, h => by
    rw [needT]
    rcases List.mem_cons.1 h with rfl | h
    · omega
    · exact Nat.le_trans (needT_mem (t := t) h) (Nat.le_add_left _ _)
theorem fits_at {D : DataW Unit} : ∀ {fl : List FileD} {acc : List ItemD}, ItFits D fl acc → ∀ {i : Nat} {x : ItemD}, acc[i]? = some x → ∃ f, fl[i]? = some f ∧ x = mkI f x.mark ∧ x.mark.size = 32 ∧ Marked D f.data x.mark := by
  intro fl acc h i x hx
  have hi : i < fl.length := by
    have := (List.getElem?_eq_some_iff.1 hx).1
    rw [h.1] at this; exact this
  obtain ⟨q, h1, h2, h3⟩ := h.2 i _ (List.getElem?_eq_getElem hi)
  rw [h1] at hx
  injection hx with hx
  subst hx
  exact ⟨_, List.getElem?_eq_getElem hi, rfl, h2, h3⟩
theorem fits_tail {D : DataW Unit} {f : FileD} {x : ItemD} {fl : List FileD} {acc : List ItemD} (h : ItFits D (f :: fl) (x :: acc)) : ItFits D fl acc :=
  ⟨by have := h.1; simpa using this, fun i g hg => h.2 (i + 1) g (by simpa using hg)⟩
theorem occ_fits {D : DataW Unit} {n : Nat} {t p : ByteArray} (hg : GoodD D n) (hp : Marked D t p) : ∀ {fl : List FileD} {acc : List ItemD}, ItFits D fl acc → occ p (acc.map (·.mark)) = occ t (datas fl)
  | [], [], _ => rfl
  | [], x :: acc, h => by have := h.1; simp at this
  | f :: fl, [], h => by have := h.1; simp at this
  | f :: fl, x :: acc, h => by
    have ih := occ_fits hg hp (fits_tail h)
    obtain ⟨f', h1, _, _, h4⟩ := fits_at h (i := 0) (x := x) rfl
    obtain rfl : f = f' := by simpa using h1
    show occ p (x.mark :: acc.map (·.mark)) = occ t (f.data :: datas fl)
    rw [occ, occ, ih]
    congr 1
    by_cases e : f.data = t
    · rw [if_pos e, if_pos (marked_fun (e ▸ h4) hp)]
    · rw [if_neg e, if_neg (fun e2 => e (marked_inj hg h4 (by rw [e2]; exact hp)))]
theorem rt_occ {D : DataW Unit} {n : Nat} {t p : ByteArray} {r : RtD} (hg : GoodD D n) (hp : Marked D t p) (h : RtGood D r) : occ p (r.q :: r.acc.map (·.mark)) = occ t r.need := by
  unfold RtD.need
  rw [occ, occ_fits hg hp h.2.2, occ_app, occ_one]
  by_cases e : r.man = t
  · rw [if_pos e, if_pos (marked_fun (e ▸ h.1) hp)]; omega
  · rw [if_neg e, if_neg (fun e2 => e (marked_inj hg h.1 (by rw [e2]; exact hp)))]; omega
/-- The text of a mark among roots. -/
def txtOf (Rs : List RtD) (q : ByteArray) : ByteArray := match Rs.find? (fun r => decide (r.q = q)) with
  | some r => r.man
  | none => ⟨#[]⟩
theorem txt_is {D : DataW Unit} {n : Nat} {Rs : List RtD} (hg : GoodD D n) (h : ∀ r ∈ Rs, RtGood D r) {r : RtD} (hr : r ∈ Rs) : txtOf Rs r.q = r.man := by
  unfold txtOf
  cases h1 : Rs.find? (fun x => decide (x.q = r.q)) with
  | none =>
    rw [List.find?_eq_none] at h1
    exact absurd (decide_eq_true rfl) (h1 r hr)
  | some x =>
    have h2 : x.q = r.q := by simpa using List.find?_some h1
    have h3 := (h x (List.mem_of_find?_eq_some h1)).1
    rw [h2] at h3
    exact marked_inj hg h3 (h r hr).1
theorem need_occ {D : DataW Unit} {n : Nat} {mf : ByteArray → List ItemD} {t p : ByteArray} (hg : GoodD D n) (hp : Marked D t p) : ∀ {Rs : List RtD}, (∀ r ∈ Rs, RtGood D r ∧ mf r.q = r.acc) → occ p (needOf mf (Rs.map (·.q))) = needT t Rs
  | [], _ => rfl
  | r :: Rs, h => by
    have ih := need_occ (mf := mf) hg hp (Rs := Rs) (fun x hx => h x (by simp [hx]))
    obtain ⟨h1, h2⟩ := h r (by simp)
    have e : needOf mf ((r :: Rs).map (·.q)) = (r.q :: (mf r.q).map (·.mark)) ++ needOf mf (Rs.map (·.q)) := by unfold needOf; simp
    rw [e, occ_app, ih, h2, rt_occ hg hp h1, needT]
theorem roots_plain {D : DataW Unit} {l : List KpD} {n n' : Nat} {Rs : List RtD} (hk : KOk D l n) (hg : GoodD D n') (h : ∀ r ∈ Rs, RtGood D r) :
    ∃ tf mf, RootsOk D tf mf (Rs.map (·.q)) ∧ (Enough (needOf mf (Rs.map (·.q))) l ↔ ∀ t, (needT t Rs : Int) ≤ cntT l t) := by
  have hmf : ∀ r ∈ Rs, RtGood D r ∧ (fun q => (manOf (txtOf Rs q)).2) r.q = r.acc := fun r hr => ⟨h r hr, by show (manOf (txtOf Rs r.q)).2 = r.acc; rw [txt_is hg h hr]; unfold RtD.man; rw [man_back (h r hr).2.1]⟩
  refine ⟨txtOf Rs, fun q => (manOf (txtOf Rs q)).2, fun q hq => ?_, ?_, ?_⟩
  · obtain ⟨r, hr, rfl⟩ := List.mem_map.1 hq
    show Marked D (txtOf Rs r.q) r.q ∧ manOf (txtOf Rs r.q) = (0, (manOf (txtOf Rs r.q)).2)
    rw [txt_is hg h hr]
    refine ⟨(h r hr).1, ?_⟩
    unfold RtD.man
    rw [man_back (h r hr).2.1]
  · intro he t
    by_cases h0 : 0 < needT t Rs
    · obtain ⟨r, hr, ht⟩ := needT_pos h0
      obtain ⟨p, hp⟩ : ∃ p, Marked D t p := by
        unfold RtD.need at ht
        rcases List.mem_append.1 ht with ht | ht
        · unfold datas at ht
          obtain ⟨f, hf, rfl⟩ := List.mem_map.1 ht
          obtain ⟨i, hi⟩ := List.getElem?_of_mem hf
          obtain ⟨q, _, _, h3⟩ := (h r hr).2.2.2 i f hi
          exact ⟨q, h3⟩
        · obtain rfl : t = r.man := by simpa using ht
          exact ⟨_, (h r hr).1⟩
      have h1 := need_occ (mf := fun q => (manOf (txtOf Rs q)).2) hg hp hmf
      have h2 := he p (occ_mem (by rw [h1]; exact h0))
      rw [h1, ref_T hk hg hp] at h2
      exact h2
    · have := (cnt_nonneg hk t).1
      omega
  · intro he p hp
    obtain ⟨t, ht⟩ : ∃ t, Marked D t p := by
      unfold needOf at hp
      obtain ⟨x, hx, hpx⟩ := List.mem_flatten.1 hp
      obtain ⟨q, hq, rfl⟩ := List.mem_map.1 hx
      obtain ⟨r, hr, rfl⟩ := List.mem_map.1 hq
      rw [(hmf r hr).2] at hpx
      rcases List.mem_cons.1 hpx with rfl | hpx
      · exact ⟨_, (h r hr).1⟩
      · obtain ⟨y, hy, rfl⟩ := List.mem_map.1 hpx
        obtain ⟨i, hi⟩ := List.getElem?_of_mem hy
        obtain ⟨f, _, _, _, h4⟩ := fits_at (h r hr).2.2 hi
        exact ⟨_, h4⟩
    rw [need_occ (mf := fun q => (manOf (txtOf Rs q)).2) hg ht hmf, ref_T hk hg ht]
    exact he t
/-- Check, told by texts. -/
theorem check_R {b kb m n : Nat} {D : DataW Unit} {S : Nat → Prop} {l : List KpD} {Rs : List RtD} (w : World) (h : BS w b kb m n D S l (Rs.map (·.q))) (hr : ∀ r ∈ Rs, RtGood D r) (hn : n ≤ 65000) (hm : Ml w) :
    Calls Tryz.prog 7 #[.pointer (some ⟨b, 0, none⟩)] w fun e w' => ∃ v, e = .returned (.bool v) ∧ (v = true ↔ ∀ t, (needT t Rs : Int) ≤ cntT l t) ∧ Below w.heap.size w w' := by
  obtain ⟨tf, mf, h1, h2⟩ := roots_plain h.ok h.good hr
  refine (check_S tf mf w h hn h1 hm).mono ?_
  rintro e w' ⟨v, rfl, hv, hb⟩
  exact ⟨v, rfl, hv.trans h2, hb⟩
/-- New blobs. -/
theorem bs_new (w : World) (kb m : Nat) (h : Bk w kb m) (h2 : MapAt w m 0 (.map [])) : BS (w.alloc (.cells #[.pointer (some ⟨kb, 0, none⟩), .slice none 0 0, .slice none 0 0] 52)) w.heap.size kb m 0 (.map []) (fun k => k = w.heap.size ∨ k = kb ∨ k = m) [] [] := by
  refine ⟨.slice none 0 0, .slice none 0 0, ⟨⟨Blk.new w _ _, World.ownsRow_nil _ _ _ _, World.ownsRow_nil _ _ _ _, List.Pairwise.nil⟩, Blk.alloc h _, World.ownsMap.alloc h2 _, good_nil⟩, ⟨Nat.le_refl _, by simp⟩, Nat.le_refl _, fun k => ⟨fun h => ?_, fun h => ?_⟩⟩
  · rcases h with h | h | h
    · exact .inl h
    · exact .inr (.inl h)
    · exact .inr (.inr (.inl h))
  · rcases h with h | h | h | h | h
    · exact .inl h
    · exact .inr (.inl h)
    · exact .inr (.inr h)
    · cases h
    · cases h
end Go.Proofs.YtmcgaaihdjpdgaaGreatDoor
/- Chapter 11: the example (awake). -/
namespace Go.Proofs.YtmcgaaihdjpdgaaGreatDoor
open Go.RowKit
set_option linter.unusedVariables false

def twoF : List FileD := [⟨⟨#[97]⟩, 0, ⟨#[120]⟩⟩, ⟨⟨#[98]⟩, 0, ⟨#[120]⟩⟩]
theorem two_check : checkE twoF = 0 := by kernel_rfl
theorem two_ok : ∀ f ∈ twoF, FOk f := by
  intro f hf
  simp [twoF] at hf
  rcases hf with rfl | rfl <;> exact ⟨by decide, by decide⟩
theorem two_data : ∀ f ∈ twoF, f.data.size ≤ 65536 := by
  intro f hf
  simp [twoF] at hf
  rcases hf with rfl | rfl <;> decide
theorem x_man : manOf ⟨#[120]⟩ ≠ (0, []) ∧ (manOf ⟨#[120]⟩).2 = [] := by
  constructor
  · intro h
    have h2 : (manOf ⟨#[120]⟩).1 = 0 := by rw [h]
    have h3 : (manOf ⟨#[120]⟩).1 ≠ 0 := by decide
    exact h3 h2
  · decide
theorem two_man {acc : List ItemD} (h : rightE acc = 0) (hl : acc.length = 2) : bytesS acc ≠ ⟨#[120]⟩ := by
  intro e
  have h1 := man_back h
  rw [e] at h1
  have h2 := x_man.2
  rw [h1] at h2
  change acc = [] at h2
  rw [h2] at hl
  cases hl
theorem Stp.lo {S S' : Nat → Prop} {w w' : World} {B : Nat} (h : Stp S S' w w') (hB : B ≤ w.heap.size) (hS : ∀ k, S k → B ≤ k) : (∀ k, S' k → B ≤ k) ∧ Below B w w' := by
  refine ⟨fun k hk => ?_, h.1.below hB hS⟩
  rcases h.2 k hk with h1 | h1
  · exact hS k h1
  · omega
theorem Blk.newAt {w : World} {g : Nat} (h : w.heap.size = g) (t : TypeId) (cs : Array Value) : Blk (w.alloc (.cells cs t)) g t cs := by subst h; exact Blk.new w t cs
theorem two_tell {D : DataW Unit} {l : List KpD} {n : Nat} {acc : List ItemD} (hs : KSrt l) (hk : KOk D l n) (hr : rightE acc = 0) (hl : acc.length = 2) (hc : ∀ t, cntT l t = 0 + occ t (datas twoF ++ [bytesS acc])) : l.length = 2 := by
  have hne := two_man hr hl
  have h := texts_tell hs hk (L := [⟨#[120]⟩, bytesS acc]) (by
    rw [List.nodup_cons]
    exact ⟨by simp; exact fun e => hne e.symm, by simp⟩) (fun t => by
    rw [hc t, Int.zero_add]
    constructor
    · intro h
      have : t ∈ datas twoF ++ [bytesS acc] := by
        rcases List.mem_cons.1 h with rfl | h
        · exact List.mem_append.2 (.inl (List.mem_map.2 ⟨⟨⟨#[97]⟩, 0, ⟨#[120]⟩⟩, by simp [twoF], rfl⟩))
        · exact List.mem_append.2 (.inr h)
      have := occ_pos this
      omega
    · intro h
      have h1 := occ_mem (t := t) (l := datas twoF ++ [bytesS acc]) (by omega)
      rcases List.mem_append.1 h1 with h1 | h1
      · obtain ⟨f, hf, rfl⟩ := List.mem_map.1 h1
        simp [twoF] at hf
        rcases hf with rfl | rfl <;> simp
      · rw [List.mem_cons]; exact .inr h1)
  exact h.1
set_option maxHeartbeats 2000000 in
set_option maxRecDepth 100000 in
theorem awake11 (w : World) (hm : Ml w) : Calls Tryz.prog 8 #[] w fun e w' => e = .returned (.bool true) ∧ Below w.heap.size w w' := by
  have HM := Lib.hid hm
  clear hm
  go_enter Tryz.func8, Tryz.ntmps8
  go_wp2_with (first
    | (go_at_call 9; go_loud ((with_reducible refine (ideal_any w).mono ?_); rintro e w1 ⟨rfl, hbk, hmp, hb1, hs1⟩; have hbs := bs_new w1 _ _ hbk hmp; rw [hs1] at hbs; have hbA := hb1.alloc hb1.size (.cells #[.pointer (some ⟨w.heap.size + 1, 0, none⟩), .slice none 0 0, .slice none 0 0] 52); have hbB := hbA.alloc hbA.size (.cells #[.string ⟨#[97]⟩, .int .i64 0, .string ⟨#[120]⟩, .string ⟨#[98]⟩, .int .i64 0, .string ⟨#[120]⟩] 64); have hblk : Blk ((w1.alloc (.cells #[.pointer (some ⟨w.heap.size + 1, 0, none⟩), .slice none 0 0, .slice none 0 0] 52)).alloc (.cells #[.string ⟨#[97]⟩, .int .i64 0, .string ⟨#[120]⟩, .string ⟨#[98]⟩, .int .i64 0, .string ⟨#[120]⟩] 64)) (w.heap.size + 2 + 1) 64 _ := Blk.newAt (by simp [hs1]) _ _; have HSV : Calls Tryz.prog 20 #[.pointer (some ⟨w.heap.size + 2, 0, none⟩), .slice (some ⟨w.heap.size + 2 + 1, 0, none⟩) 2 2] ((w1.alloc (.cells #[.pointer (some ⟨w.heap.size + 1, 0, none⟩), .slice none 0 0, .slice none 0 0] 52)).alloc (.cells #[.string ⟨#[97]⟩, .int .i64 0, .string ⟨#[120]⟩, .string ⟨#[98]⟩, .int .i64 0, .string ⟨#[120]⟩] 64)) (SaveOut ((w1.alloc (.cells #[.pointer (some ⟨w.heap.size + 1, 0, none⟩), .slice none 0 0, .slice none 0 0] 52)).alloc (.cells #[.string ⟨#[97]⟩, .int .i64 0, .string ⟨#[120]⟩, .string ⟨#[98]⟩, .int .i64 0, .string ⟨#[120]⟩] 64)) (w.heap.size + 2) (w.heap.size + 1) w.heap.size 0 (.map []) (fun k => k = w.heap.size + 2 ∨ k = w.heap.size + 1 ∨ k = w.heap.size) [] [] twoF) := (save_S (some ⟨w.heap.size + 2 + 1, 0, none⟩) 2 twoF _ (hbs.below ((Below.refl _ _).alloc (Nat.le_refl _) (.cells #[.string ⟨#[97]⟩, .int .i64 0, .string ⟨#[120]⟩, .string ⟨#[98]⟩, .int .i64 0, .string ⟨#[120]⟩] 64))) (by decide) (by decide) two_ok two_data ⟨rfl, fun _ => ⟨_, 0, rfl, by simp [hs1], fun i u h => by rw [Nat.zero_add]; exact (hblk.cell i).trans (by rw [← Array.getElem?_toList]; exact h)⟩⟩ (fun g o e => by injection e with e; injection e with e1 e2; omega) (HM.out.on hbB)); have HHS := Lib.hid HSV; have HBB := Lib.hid hbB; clear hbs hbk hmp hblk HSV))
    | (go_at_call 10; (with_reducible refine (new_any _ _).mono ?_); rintro e w2 ⟨rfl, rfl⟩)
    | (go_at_call 20; (with_reducible refine (HHS.out).mono ?_); rintro e w5 hso; obtain ⟨_, q, acc, D5, S5, l5, rfl, hri, hfit, hmk, _, hbs5, hst5, hc5⟩ := hso.resolve_left (fun h => h.1 two_check); have hl5 := two_tell hbs5.srt hbs5.ok hri hfit.1 hc5; have hlo := hst5.lo (B := w.heap.size) HBB.out.size (by rintro k (h | h | h) <;> omega); have hb5 : Below w.heap.size w w5 := HBB.out.trans hlo.2; have HCN := Lib.hid (fun W (hb : Below w5.heap.size w5 W) => count_S W (hbs5.below hb)); rw [hl5] at HCN; have HCK := Lib.hid (fun W (hb : Below w5.heap.size w5 W) => check_R (Rs := [⟨q, twoF, acc⟩]) W (hbs5.below hb) (by intro r hr; obtain rfl : r = ⟨q, twoF, acc⟩ := (by simpa using hr); exact ⟨hmk, hri, hfit⟩) (by decide) (HM.out.on (below_on hb5 hb))); have HC5 := Lib.hid hc5; have HB5 := Lib.hid hb5; clear hri hfit hmk hbs5 hst5 hc5 hl5 hlo hb5)
    | (go_at_call 15; (with_reducible refine (HCN.out _ (Below.refl _ _)).mono ?_); rintro e w6 ⟨rfl, hb6⟩)
    | (go_at_call 7; (with_reducible refine (HCK.out _ hb6).mono ?_); rintro e w7 ⟨v, rfl, hv, hb7⟩; obtain rfl : v = true := (hv.2 (fun t => by rw [HC5.out t, needT, needT]; show ((occ t (datas twoF ++ [bytesS acc]) + 0 : Nat) : Int) ≤ ((0 : Int) + _); omega)))
    | fail)
  go_ret
  exact ⟨rfl, below_on HB5.out (below_on hb6 hb7)⟩
end Go.Proofs.YtmcgaaihdjpdgaaGreatDoor
