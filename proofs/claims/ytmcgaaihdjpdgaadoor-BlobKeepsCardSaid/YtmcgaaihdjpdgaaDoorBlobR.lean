/- Chapter 11: Pack, Unpack upon the state. -/
import Derived.Test.YtmcgaaihdjpdgaaDoorBlobP
import Derived.Test.YtmcgaaihdjpdgaaDoorFrmC
namespace Go.Proofs.YtmcgaaihdjpdgaaDoor
open Go.RowKit
set_option linter.unusedVariables false

def texts (l : List KpD) : List ByteArray := l.map (·.text)
theorem texts_take {l : List KpD} {i : Nat} {k : KpD} (h : l[i]? = some k) : (texts (l.take (i + 1))).map Value.string = (texts (l.take i)).map Value.string ++ [.string k.text] := by
  rw [take_snoc h]; unfold texts; simp
set_option maxHeartbeats 2000000 in
set_option maxRecDepth 100000 in
theorem pack_S {b kb m n : Nat} {D : DataW Unit} {S : Nat → Prop} {l : List KpD} {R : List ByteArray} (w : World) (h : BS w b kb m n D S l R) (hn : n ≤ 65000) :
    Calls Tryd.prog 30 #[.pointer (some ⟨b, 0, none⟩)] w fun e w' => e = .returned (.tuple #[.string (framesB (texts l)), .int .i64 0]) ∧ Below w.heap.size w w' := by
  obtain ⟨i2, fi0, fz0, fz1, fz2⟩ := info_parts infoStrF
  obtain ⟨VL, VR, g, hk, hR, hS⟩ := h
  have HN := Lib.hid (nonB_any w g)
  have hln := hk.1
  obtain ⟨A, c, rfl, _, ha, _⟩ := own_arr g.at_.row
  have HA := Lib.hid ha
  have HG := Lib.hid (fun W (h : Below w.heap.size w W) => (g.below h).at_.blk)
  have HX := Lib.hid (show ∀ p ∈ texts l, p.size ≤ 65536 from fun p hp => by obtain ⟨k, hkl, rfl⟩ := List.mem_map.1 hp; exact (hk.2 k hkl).2.2.2)
  have hlt' : (texts l).length = l.length := by unfold texts; rw [List.length_map]
  clear g hk hR hS ha
  go_enter Tryd.func30, Tryd.ntmps30
  go_wp2_with (go_at_call 34; (with_reducible refine (HN.out).mono ?_); rintro e w2 ⟨rfl, hb⟩; obtain ⟨k0, k1, k2, _, _, _⟩ := tcellsK (HG.out _ hb))
  go_loopw [4, 14] (fun vo vi wr => ∃ i : Nat, i ≤ l.length ∧ vi = .int .i64 i ∧ wr.ownsRow w2.heap.size 9 1 vo i ((texts (l.take i)).map Value.string) ∧ Below w2.heap.size w2 wr) (fun _ vi _ => l.length - (intOf vi).toNat)
  case atStart => exact ⟨0, Nat.zero_le _, rfl, World.ownsRow_nil _ _ _ _, Below.refl _ _⟩
  case round =>
    obtain ⟨i, hi, rfl, hown, hB⟩ := hrel
    have hBs := hB.size
    have hBW := below_on hb hB
    by_cases hlt : i < l.length
    · obtain ⟨k, hk⟩ : ∃ k, l[i]? = some k := ⟨_, List.getElem?_eq_getElem hlt⟩
      obtain ⟨gA, oA, rfl, hbA, hcell⟩ := HA.out.2 (by omega)
      obtain ⟨c0, c1, c2⟩ := kept_cells (fun j u h => (hBW.cell (p := ⟨gA, oA + j, none⟩) hbA).trans (hcell j u h)) hk
      have hbox := Blk.new wr 80 #[.string k.mark, .string k.text, .int .i64 k.refs]
      obtain ⟨y0, y1, y2, _, _, _⟩ := tcellsK hbox
      have il : (i : Int) < l.length := by omega
      have hB2 : Below wr.heap.size wr (wr.alloc (.cells #[.string k.mark, .string k.text, .int .i64 k.refs] 80)) := (Below.refl _ wr).alloc (Nat.le_refl _) _
      have hown2 := own_below hown hB2
      have hBB2 := hB.trans (hB2.mono hBs)
      have hs2 := hBB2.size
      have HST := Lib.hid (texts_take hk)
      clear hcell hk hbox
      go_wp2_with (at_builtin; refine wpList_push rfl _ _ _ rfl Tryd.underlying60 fi0 fz0 fz1 fz2 rfl (by decide) hown2 rfl (by rw [World.size_alloc]; rfl) rfl (by simp [Value.oneCell']) (by unfold maxLen; omega) (by omega) hs2 ?_; intro g6 cap6 w6 hown6 hgr6 hat6; have hB6 := hBB2.grown hgr6 hs2 (fun j hj => (hown2.lt j hj).1))
      go_roundw
      case rel => exact ⟨i + 1, by omega, by go_num, by rw [HST.out]; exact hown6, hB6⟩
      case measure => simp [intOf] <;> omega
    · have hie : i = l.length := by omega
      subst hie
      rw [List.take_length] at hown
      obtain ⟨A', c', rfl, _, ha', _⟩ := own_arr hown
      rw [← hlt'] at ha'
      have HAL := Lib.hid (all_any A' c' (texts l) wr (by omega) HX.out ha')
      rw [hlt'] at HAL
      clear ha' hown
      go_wp2_with (go_at_call 51; (with_reducible refine (HAL.out).mono ?_); rintro e w3 ⟨rfl, hb3⟩)
      go_ret2
      exact ⟨rfl, below_on hBW hb3⟩
/-- A text that is met: new, or not. -/
def newStep (l : List KpD) (acc : List ByteArray) (t : ByteArray) : List ByteArray := if cntT l t = 0 ∧ occ t acc = 0 then acc ++ [t] else acc
/-- The new ones, each once. -/
def newT (l : List KpD) (L : List ByteArray) : List ByteArray := L.foldl (newStep l) []
theorem newT_snoc {l : List KpD} {L : List ByteArray} {k : Nat} {t : ByteArray} (h : L[k]? = some t) : newT l (L.take (k + 1)) = newStep l (newT l (L.take k)) t := by
  rw [take_snoc h]; unfold newT; rw [List.foldl_append]; rfl
theorem newStep_len (l : List KpD) (acc : List ByteArray) (t : ByteArray) : (newStep l acc t).length ≤ acc.length + 1 := by
  unfold newStep; split
  · simp
  · omega
theorem newT_len (l : List KpD) (L : List ByteArray) : ∀ k, (newT l (L.take k)).length ≤ k
  | 0 => by simp [newT]
  | k + 1 => by
    have ih := newT_len l L k
    by_cases h : k < L.length
    · rw [newT_snoc (List.getElem?_eq_getElem h)]
      have := newStep_len l (newT l (L.take k)) L[k]
      omega
    · rw [List.take_of_length_le (by omega)]
      rw [List.take_of_length_le (by omega)] at ih
      omega
theorem good_mono' {D : DataW Unit} {n n' : Nat} (h : GoodD D n) (hn : n ≤ n') : GoodD D n' := ⟨fun k hk => by obtain ⟨c, h1, h2⟩ := h.1 k hk; exact ⟨c, by omega, h2⟩, h.2⟩
def UnpOut (w : World) (b kb m n : Nat) (D : DataW Unit) (S : Nat → Prop) (l : List KpD) (R : List ByteArray) (L : List ByteArray) (e : Ending) (w' : World) : Prop :=
  ∃ D' S' l', e = .returned (.tuple #[.int .i64 L.length, .int .i64 (newT l L).length, .int .i64 0]) ∧ (∀ s q, Marked D s q → Marked D' s q) ∧ BS w' b kb m (n + 2 * L.length) D' S' l' R ∧ Stp S S' w w' ∧ (∀ t, cntT l' t = cntT l t + occ t (newT l L)) ∧ ∀ t ∈ L, ∃ q, Marked D' t q
set_option maxHeartbeats 4000000 in
set_option maxRecDepth 100000 in
theorem unpack_S {b kb m n : Nat} {D : DataW Unit} {S : Nat → Prop} {l : List KpD} {R : List ByteArray} (s : ByteArray) (w : World) (h : BS w b kb m n D S l R) (hs : s.size ≤ 1000000000) (hn : n + 2 * (scanB s 0).length ≤ 60000) :
    Calls Tryd.prog 29 #[.pointer (some ⟨b, 0, none⟩), .string s] w (UnpOut w b kb m n D S l R (scanB s 0)) := by
  have H0 := Lib.hid h
  obtain ⟨VL, VR, g, hk, hR, hS⟩ := h
  have HN := Lib.hid (nonB_any w g)
  have HSC := Lib.hid (fun W => scan_any s W hs)
  unfold ScanOut at HSC
  have HX := Lib.hid (scan_len s (s.size) 0 (by omega)).2
  generalize scanB s 0 = L at *
  have HLT := Lib.hid (fun k (hk : S k) => H0.out.lt hk)
  clear g hk hR hS
  go_enter Tryd.func29, Tryd.ntmps29
  go_wp2_with (first
    | (go_at_call 34; (with_reducible refine (HN.out).mono ?_); rintro e w1 ⟨rfl, hb1⟩)
    | (go_at_call 50; (with_reducible refine (HSC.out _).mono ?_); rintro e w2 ⟨V2, x2, y2, rfl, ho2, hb2⟩; obtain ⟨A2, c2, rfl, _, ha2, hf2⟩ := own_arr ho2; have HA2 := Lib.hid ha2; have HF2 := Lib.hid hf2; have hB2 := below_on hb1 hb2; clear ha2 ho2 hf2)
    | fail)
  have HS2 := Lib.hid (H0.out.below hB2)
  go_loopw [10, 23] (fun vf vi wr => ∃ (k : Nat) (D3 : DataW Unit) (S3 : Nat → Prop) (l3 : List KpD), k ≤ L.length ∧ vi = .int .i64 k ∧ vf = .int .i64 (newT l (L.take k)).length ∧ Hid (BS wr b kb m (n + 2 * k) D3 S3 l3 R) ∧ Hid (Stp S S3 w2 wr) ∧ Hid (∀ s q, Marked D s q → Marked D3 s q) ∧ Hid (∀ t, cntT l3 t = cntT l t + occ t (newT l (L.take k))) ∧ Hid (∀ t ∈ L.take k, ∃ q, Marked D3 t q)) (fun _ vi _ => L.length - (intOf vi).toNat)
  case atStart => exact ⟨0, D, S, l, Nat.zero_le _, rfl, rfl, HS2, Lib.hid (Stp.refl _ _), Lib.hid (fun _ _ h => h), Lib.hid (fun t => by rw [List.take_zero]; show _ = _ + ((0 : Nat) : Int); omega), Lib.hid (by simp)⟩
  case round =>
    obtain ⟨k, D3, S3, l3, hk, rfl, rfl, HS, HST, HMO, HC, HMA⟩ := hrel
    by_cases hlt : k < L.length
    · obtain ⟨t, ht⟩ : ∃ t, L[k]? = some t := ⟨_, List.getElem?_eq_getElem hlt⟩
      obtain ⟨bA, oA, rfl, hbA, hcell⟩ := HA2.out.2 (by omega)
      have hnA : ¬ S bA := fun h => by
        have h1 := HLT.out bA h
        have h2 := HF2.out bA oA rfl
        have h3 := hb1.size
        omega
      have c0 := (HST.out.1.cell (p := ⟨bA, oA + k, none⟩) hbA hnA).trans (hcell k (.string t) (by rw [List.getElem?_map, ht]; rfl))
      obtain ⟨VL3, VR3, g3, hk3, hR3, hS3⟩ := HS.out
      obtain ⟨k0, k1, k2, _, _, _⟩ := tcellsK g3.at_.blk
      have il : (k : Int) < L.length := by omega
      have htz := HX.out t (List.mem_of_getElem? ht)
      have HMK := Lib.hid (mark_S t wr HS.out (by omega) (by omega))
      have hsn := newT_snoc (l := l) ht
      have htk := take_snoc ht
      have HTK := Lib.hid htk
      have hlen := newT_len l L k
      have hc3 := HC.out t
      have hcn := (cnt_nonneg hk3 t)
      have hcl := (cnt_nonneg H0.out.ok t)
      by_cases hnew : cntT l t = 0 ∧ occ t (newT l (L.take k)) = 0
      · rw [newStep, if_pos hnew] at hsn
        have HSN := Lib.hid hsn
        have h00 : cntT l3 t = 0 := by rw [hc3, hnew.1, hnew.2]; rfl
        have H00 := Lib.hid h00
        clear ht hcell g3 hk3 hR3 hS3 hsn htk hc3 hcn hcl hnew h00
        go_wp2_with (first
          | (go_at_call 21; (with_reducible refine (HMK.out).mono ?_); rintro e w4 ⟨q4, D4, rfl, hm4, hmo4, hbs4, hst4⟩; have HRF := Lib.hid (refs_S q4 w4 hbs4 (by omega)); rw [ref_T hbs4.ok hbs4.good hm4, H00.out] at HRF; have HM4 := Lib.hid hm4; have HMO4 := Lib.hid hmo4; have HBS4 := Lib.hid hbs4; have HST4 := Lib.hid (HST.out.trans hst4); clear hm4 hmo4 hbs4 hst4)
          | (go_at_call 14; (with_reducible refine (HRF.out).mono ?_); rintro e w5 ⟨rfl, hb5⟩; have HBS5 := Lib.hid (HBS4.out.below hb5); have HST5 := Lib.hid (HST4.out.trans (Stp.below hb5)))
          | (go_at_call 12; (with_reducible refine (put_S t w5 HBS5.out (by omega) htz).mono ?_); rintro e w6 ⟨q6, D6, S6, rfl, _, hm6, hmo6, hbs6, hst6⟩; have HM6 := Lib.hid hm6; have HMO6 := Lib.hid hmo6; have HBS6 := Lib.hid hbs6; have HST6 := Lib.hid (HST5.out.trans hst6); clear hm6 hmo6 hbs6 hst6)
          | fail)
        go_roundw
        case rel => exact ⟨k + 1, D6, S6, _, by omega, by go_num, by rw [HSN.out, List.length_append]; go_num, by rw [show n + 2 * (k + 1) = n + 2 * k + 1 + 1 by omega]; exact HBS6, HST6, Lib.hid (fun s q h => HMO6.out s q (HMO4.out s q (HMO.out s q h))), Lib.hid (fun u => by rw [cnt_put HBS5.out.srt HBS5.out.ok HBS6.out.good HM6.out HMO6.out htz, HC.out, HSN.out, occ_app, occ_one]; split <;> split <;> first | omega | (rename_i h1 h2; exact absurd h1.symm h2) | (rename_i h1 h2; exact absurd h2.symm h1)), Lib.hid (by
          rw [HTK.out]
          intro u hu
          rcases List.mem_append.1 hu with hu | hu
          · obtain ⟨q, hq⟩ := HMA.out u hu
            exact ⟨q, HMO6.out _ _ (HMO4.out _ _ hq)⟩
          · obtain rfl : u = t := List.mem_singleton.1 hu
            exact ⟨_, HM6.out⟩)⟩
        case measure => simp [intOf] <;> omega
      · rw [newStep, if_neg hnew] at hsn
        have HSN := Lib.hid hsn
        have h00 : cntT l3 t ≠ 0 := by rw [hc3]; omega
        obtain ⟨Z, hZ⟩ : ∃ Z, cntT l3 t = Z := ⟨_, rfl⟩
        rw [hZ] at h00
        have hZ0 : (Z == 0) = false := by rw [beq_eq_false_iff_ne]; exact h00
        have HZ := Lib.hid hZ
        clear ht hcell g3 hk3 hR3 hS3 hsn htk hc3 hcn hcl hnew hZ
        go_wp2_with (first
          | (go_at_call 21; (with_reducible refine (HMK.out).mono ?_); rintro e w4 ⟨q4, D4, rfl, hm4, hmo4, hbs4, hst4⟩; have HRF := Lib.hid (refs_S q4 w4 hbs4 (by omega)); rw [ref_T hbs4.ok hbs4.good hm4, HZ.out] at HRF; have HM4 := Lib.hid hm4; have HMO4 := Lib.hid hmo4; have HBS4 := Lib.hid hbs4; have HST4 := Lib.hid (HST.out.trans hst4); clear hm4 hmo4 hbs4 hst4)
          | (go_at_call 14; (with_reducible refine (HRF.out).mono ?_); rintro e w5 ⟨rfl, hb5⟩; have HBS5 := Lib.hid (HBS4.out.below hb5); have HST5 := Lib.hid (HST4.out.trans (Stp.below hb5)))
          | fail)
        go_roundw
        case rel =>
          obtain ⟨VL5, VR5, g5, hk5, hR5, hS5⟩ := HBS5.out
          exact ⟨k + 1, D4, S3, l3, by omega, by go_num, by rw [HSN.out], Lib.hid ⟨VL5, VR5, ⟨g5.at_, g5.bk, g5.mp.mono (by omega), good_mono' g5.gd (by omega)⟩, hk5.mono (by omega) (fun _ _ h => h), by omega, hS5⟩, HST5, Lib.hid (fun s q h => HMO4.out s q (HMO.out s q h)), Lib.hid (fun u => by rw [HC.out, HSN.out]), Lib.hid (by
          rw [HTK.out]
          intro u hu
          rcases List.mem_append.1 hu with hu | hu
          · obtain ⟨q, hq⟩ := HMA.out u hu
            exact ⟨q, HMO4.out _ _ hq⟩
          · obtain rfl : u = t := List.mem_singleton.1 hu
            exact ⟨_, HM4.out⟩)⟩
        case measure => simp [intOf] <;> omega
    · have hke : k = L.length := by omega
      subst hke
      have hC := HC.out
      have hMA := HMA.out
      rw [List.take_length] at hC hMA ⊢
      have HC2 := Lib.hid hC
      have HMA2 := Lib.hid hMA
      clear HC HMA hC hMA
      go_wp2
      go_ret3
      unfold UnpOut
      exact ⟨D3, S3, l3, rfl, HMO.out, HS.out, (Stp.below hB2).trans HST.out, HC2.out, HMA2.out⟩
end Go.Proofs.YtmcgaaihdjpdgaaDoor
