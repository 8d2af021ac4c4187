/- Chapter 11: BlobUnpacks. -/
import Derived.Test.YtmcgaaihdjpdgaaDoorBlobQ
import Derived.Test.YtmcgaaihdjpdgaaDoorBlobR
import Derived.Test.YtmcgaaihdjpdgaaDoorFrm9
import Derived.Deep.CutRange
import Derived.Deep.RegionHeld3
namespace Go.Proofs.YtmcgaaihdjpdgaaDoor
open Go.RowKit
set_option linter.unusedVariables false

theorem cnt_nil (t : ByteArray) : cntT [] t = 0 := rfl
theorem nodup_of_occ : ∀ {l : List ByteArray}, (∀ t, occ t l ≤ 1) → l.Nodup
  | [], _ => List.nodup_nil
  | x :: l, h => by
    rw [List.nodup_cons]
    refine ⟨fun hx => ?_, nodup_of_occ fun t => ?_⟩
    · have h1 := h x
      have h2 := occ_pos hx
      rw [occ, if_pos rfl] at h1
      omega
    · have := h t
      rw [occ] at this
      omega
theorem newT_occ (L : List ByteArray) (t : ByteArray) : ∀ k, (t ∈ L.take k → occ t (newT [] (L.take k)) = 1) ∧ (t ∉ L.take k → occ t (newT [] (L.take k)) = 0)
  | 0 => by simp [newT, occ]
  | k + 1 => by
    have ih := newT_occ L t k
    by_cases h : k < L.length
    · have hk := List.getElem?_eq_getElem h
      rw [newT_snoc hk, take_snoc hk]
      generalize L[k] = x at *
      obtain ⟨acc, hacc⟩ : ∃ acc, newT [] (L.take k) = acc := ⟨_, rfl⟩
      rw [hacc] at ih ⊢
      unfold newStep
      by_cases e : t = x
      · subst e
        refine ⟨fun _ => ?_, fun hn => absurd (by simp) hn⟩
        by_cases h1 : t ∈ L.take k
        · rw [if_neg (by rw [ih.1 h1]; omega)]; exact ih.1 h1
        · rw [if_pos ⟨cnt_nil t, ih.2 h1⟩, occ_app, occ_one, if_pos rfl, ih.2 h1]
      · have hm : t ∈ L.take k ++ [x] ↔ t ∈ L.take k := by
          rw [List.mem_append]
          exact ⟨fun h => h.elim id (fun h => absurd (List.mem_singleton.1 h) e), .inl⟩
        have ho : occ t (if cntT [] x = 0 ∧ occ x acc = 0 then acc ++ [x] else acc) = occ t acc := by
          split
          · rw [occ_app, occ_one, if_neg (fun h => e h.symm), Nat.add_zero]
          · rfl
        rw [hm, ho]
        exact ih
    · rw [List.take_of_length_le (by omega)] at ih ⊢
      exact ih
theorem newT_all (L : List ByteArray) (t : ByteArray) : (t ∈ L → occ t (newT [] L) = 1) ∧ (t ∉ L → occ t (newT [] L) = 0) := by
  have := newT_occ L t L.length
  rw [List.take_length] at this
  exact this
theorem newT_nodup (L : List ByteArray) : (newT [] L).Nodup := nodup_of_occ fun t => by
  have h := newT_all L t
  by_cases h1 : t ∈ L
  · rw [h.1 h1]; exact Nat.le_refl _
  · rw [h.2 h1]; exact Nat.zero_le _
theorem new_count {D : DataW Unit} {l : List KpD} {n : Nat} {L : List ByteArray} (hs : KSrt l) (hk : KOk D l n) (hc : ∀ t, cntT l t = occ t (newT [] L)) : l.length = (newT [] L).length ∧ sumK l = ((newT [] L).map (·.size)).sum :=
  texts_tell hs hk (newT_nodup L) fun t => by
    rw [hc]
    constructor
    · intro h; have := occ_pos h; omega
    · intro h; exact occ_mem (by omega)
theorem LW.aside {w0 w w' : World} {n : Nat} {D : DataW Unit} {S T : Nat → Prop} {l : List KpD} {Rs : List RtD} (h : LW w0 w n D S l Rs) (hf : Fr T w w') (hT : ∀ k, T k → w0.heap.size + 5 ≤ k ∧ ¬ S k) : LW w0 w' n D S l Rs :=
  ⟨h.bs.aside hf (fun k hk ht => (hT k ht).2 hk), hf.blk h.wb (fun ht => by have := (hT _ ht).1; omega), h.bl.trans (hf.below h.bl.size (fun k hk => by have := (hT k hk).1; omega)), h.lo, h.rt⟩
theorem LW.big {w0 w : World} {n : Nat} {D : DataW Unit} {S : Nat → Prop} {l : List KpD} {Rs : List RtD} (h : LW w0 w n D S l Rs) : w0.heap.size + 5 ≤ w.heap.size := h.wb.lt
set_option maxHeartbeats 4000000 in
set_option maxRecDepth 100000 in
theorem law_unpacks (s : ByteArray) (w : World) (hs0 : s.size ≤ 9223372036854775807) (hm : Ml w) :
    Calls Tryd.prog 7 #[.string s] w fun e w' => e = .returned (.bool true) ∧ Below w.heap.size w w' := by
  obtain ⟨i2, fi0, fz0, fz1, fz2⟩ := info_parts infoStrF
  have HA := Lib.hid awake11
  have HM := Lib.hid hm
  have HF := Lib.hid (fresh_any w)
  unfold FreshOut at HF
  obtain ⟨s', hs', hcase⟩ : ∃ s' : ByteArray, s'.size ≤ 2000 ∧ ((2000 < s.size ∧ s.extract 0 2000 = s') ∨ (¬ 2000 < s.size ∧ s' = s)) := by
    by_cases h : 2000 < s.size
    · exact ⟨s.extract 0 2000, by rw [ByteArray.size_extract]; omega, .inl ⟨h, rfl⟩⟩
    · exact ⟨s, by omega, .inr ⟨h, rfl⟩⟩
  have HSC := Lib.hid (fun W => rscan_any s' W (by omega))
  unfold ScanOut at HSC
  have hLl := (scan_len s' s'.size 0 (by omega)).1
  have HLZ := Lib.hid (scan_len s' s'.size 0 (by omega)).2
  have HUN := Lib.hid (fun W (b : BS W (w.heap.size + 2) (w.heap.size + 1) w.heap.size 0 (.map []) (SB0 w.heap.size) [] (([] : List RtD).map (·.q))) => unpack_S s' W b (by omega) (by omega))
  unfold UnpOut at HUN
  generalize scanB s' 0 = L at *
  have HNA := Lib.hid (newT_all L)
  clear hm
  have hcase2 : (2000 < s.size ∧ s.extract 0 2000 = s' ∧ (2000 : Int) < s.size ∧ (2000 : Int) ≤ s.size ∧ ¬ s.size < 2000) ∨ (¬ (2000 : Int) < s.size ∧ s' = s) := by
    rcases hcase with ⟨h1, h2⟩ | ⟨h1, h2⟩
    · exact .inl ⟨h1, h2, by omega, by omega, by omega⟩
    · exact .inr ⟨by omega, h2⟩
  clear hcase
  rcases hcase2 with ⟨h1, h2, j1, j2, j3⟩ | ⟨h1, h2⟩
  case' inr => subst h2
  all_goals
    go_enter Tryd.func7, Tryd.ntmps7
    go_wp2_with (first
      | (go_at_call 11; (with_reducible refine (HF.out).mono ?_); rintro e w2 ⟨rfl, hw2, hp2, hbs2, hb2, hs2⟩; have HL2 := Lib.hid (LW.new hbs2 hw2 hb2); have HS2 := Lib.hid hs2; clear hp2 hbs2 hs2 hw2)
      | (go_at_call 28; (with_reducible refine (HSC.out _).mono ?_); rintro e w3 ⟨V3, x3, y3, rfl, ho3, hb3⟩; obtain ⟨A3, c3, rfl, _, ha3, hf3⟩ := own_arr ho3; have HA3 := Lib.hid ha3; have HO3 := Lib.hid ho3; have HL3 := Lib.hid (HL2.out.below hb3); obtain ⟨k0, k1, k2, _, _, _⟩ := tcellsK HL3.out.wb; clear ha3 ho3 hf3)
      | (go_at_call 29; (with_reducible refine (HUN.out w3 HL3.out.bs).mono ?_); rintro e w4 ⟨D4, S4, l4, rfl, hmo4, hbs4, hst4, hc4, hmk4⟩; have HL4 := Lib.hid (HL3.out.go hbs4 hst4 hmo4); have HST4 := Lib.hid hst4; have HC4 := Lib.hid hc4; have HMK4 := Lib.hid hmk4; clear hmo4 hbs4 hst4 hc4 hmk4)
      | fail)
    have HS4 := Lib.hid (fun k (hk : S4 k) => HL4.out.bs.lt hk)
    have HBG := Lib.hid HL4.out.big
    have HLN : Hid (∀ g o, A3 = some ⟨g, o, none⟩ → ¬ S4 g ∧ ¬ SB0 w.heap.size g ∧ g < w3.heap.size) := Lib.hid (fun g o e => by
      have h1 := own_addr HO3.out e
      have h2 := HS2.out
      have h3 : ¬ SB0 w.heap.size g := fun h => by
        have h4 : g = w.heap.size + 2 ∨ g = w.heap.size + 1 ∨ g = w.heap.size := h
        omega
      refine ⟨fun h => ?_, h3, h1.2⟩
      rcases HST4.out.2 g h with h4 | h4
      · exact h3 h4
      · omega)
    have HR4 : Hid (∀ t ∈ L, cntT l4 t = 1) := Lib.hid (fun t ht => by rw [HC4.out t, (HNA.out t).1 ht]; rfl)
    have hn4 : 0 + 2 * L.length ≤ 4000 := by omega
    obtain ⟨n4, hn4e⟩ : ∃ n4, 0 + 2 * L.length = n4 := ⟨_, rfl⟩
    rw [hn4e] at HL4 hn4
    obtain ⟨P, hP⟩ : ∃ P, (newT [] L).length = P := ⟨_, rfl⟩
    have hPl : P ≤ 2000 := by
      have := newT_len [] L L.length
      rw [List.take_length, hP] at this
      omega
    have HP := Lib.hid hP
    clear hn4e hP
    rw [HP.out]
    go_loopw [10, 11] (fun vo vi wr => ∃ (i : Nat) (D5 : DataW Unit), i ≤ L.length ∧ vi = .int .i64 i ∧ wr.ownsRow w4.heap.size 9 1 vo (newT [] (L.take i)).length ((newT [] (L.take i)).map Value.string) ∧ Hid (LW w wr (n4 + i) D5 S4 l4 []) ∧ Hid (Fr S4 w4 wr)) (fun _ vi _ => L.length - (intOf vi).toNat)
    case atStart => exact ⟨0, D4, Nat.zero_le _, rfl, by rw [List.take_zero]; exact World.ownsRow_nil _ _ _ _, HL4, Lib.hid (Fr.refl _ _)⟩
    case round =>
      obtain ⟨i, D5, hi, rfl, hown, HL5, HFR⟩ := hrel
      by_cases hlt : i < L.length
      · obtain ⟨t, ht⟩ : ∃ t, L[i]? = some t := ⟨_, List.getElem?_eq_getElem hlt⟩
        obtain ⟨bA, oA, rfl, hbA, hcell⟩ := HA3.out.2 (by omega)
        obtain ⟨nS, nB, hbA3⟩ := HLN.out bA oA rfl
        have c0 := (HFR.out.cell (p := ⟨bA, oA + i, none⟩) (Nat.lt_of_lt_of_le hbA HST4.out.1.size) nS).trans ((HST4.out.1.cell (p := ⟨bA, oA + i, none⟩) hbA nB).trans (hcell i (.string t) (by rw [List.getElem?_map, ht]; rfl)))
        have hbAr : bA < wr.heap.size := Nat.lt_of_lt_of_le hbA (Nat.le_trans HST4.out.1.size HFR.out.size)
        have HT1 := Lib.hid (HR4.out t (List.mem_of_getElem? ht))
        have HTM := Lib.hid (List.mem_of_getElem? ht)
        have hsn := newT_snoc (l := []) ht
        have hal := newT_len [] L i
        obtain ⟨acc, hacc⟩ : ∃ acc, newT [] (L.take i) = acc := ⟨_, rfl⟩
        rw [hacc] at hsn hal hown
        have HSN := Lib.hid hsn
        obtain ⟨AO, cO, rfl, _, haO, _⟩ := own_arr hown
        have HAO := Lib.hid haO
        have HOW := Lib.hid hown
        have il : (i : Int) < L.length := by omega
        obtain ⟨a, ha⟩ : ∃ a, acc.length = a := ⟨_, rfl⟩
        rw [ha] at hal
        clear ht hcell hsn hacc haO hown
        rw [ha]
        have HAE := Lib.hid ha
        clear ha
        go_wp2
        go_loopw [12, 13] (fun vb vk wz => ∃ (k : Nat) (bv : Bool), k ≤ a ∧ vk = .int .i64 k ∧ vb = .bool bv ∧ Hid (bv = true ↔ 0 < occ t (acc.take k)) ∧ Below wr.heap.size wr wz) (fun _ vk _ => a - (intOf vk).toNat)
        case atStart => exact ⟨0, false, Nat.zero_le _, rfl, rfl, Lib.hid (by simp [occ]), Below.refl _ _⟩
        case round =>
          obtain ⟨k, bv, hk, rfl, rfl, HBV, hBz⟩ := hrel
          have cz := (hBz.cell (p := ⟨bA, oA + i, none⟩) hbAr).trans c0
          by_cases hka : k < a
          · obtain ⟨x, hx⟩ : ∃ x, acc[k]? = some x := ⟨_, List.getElem?_eq_getElem (by rw [HAE.out]; exact hka)⟩
            obtain ⟨bO, oO, rfl, hbO, hcellO⟩ := HAO.out.2 (by rw [HAE.out]; omega)
            have cx := (hBz.cell (p := ⟨bO, oO + k, none⟩) hbO).trans (hcellO k (.string x) (by rw [List.getElem?_map, hx]; rfl))
            have kl : (k : Int) < a := by omega
            have htk : occ t (acc.take (k + 1)) = occ t (acc.take k) + if x = t then 1 else 0 := by rw [take_snoc hx, occ_app, occ_one]
            have HTK := Lib.hid htk
            clear hx hcellO htk
            cases bv with
            | true =>
              go_wp2
              go_quiet (fail)
              go_wp2
              go_roundw
              case rel => exact ⟨k + 1, true, by omega, by go_num, rfl, Lib.hid ⟨fun _ => by rw [HTK.out]; have := HBV.out.1 (by trivial); omega, fun _ => rfl⟩, below_on hBz (below_drewN (Below.refl _ _) _)⟩
              case measure => simp [intOf] <;> omega
            | false =>
              have hno : ¬ 0 < occ t (acc.take k) := fun h => by have := HBV.out.2 h; cases this
              have HNO := Lib.hid hno
              clear hno
              by_cases hxt : x = t
              · have HTK1 : Hid (0 < occ t (acc.take (k + 1))) := Lib.hid (by rw [HTK.out, if_pos hxt]; omega)
                subst hxt
                go_wp2
                go_quiet (fail)
                go_wp2
                go_roundw
                case rel => exact ⟨k + 1, true, by omega, by go_num, rfl, Lib.hid ⟨fun _ => HTK1.out, fun _ => rfl⟩, below_on hBz (below_drewN (Below.refl _ _) _)⟩
                case measure => simp [intOf] <;> omega
              · have e2 : ¬ x.toList = t.toList := fun h => hxt (by rw [ByteArray.toList_eq, ByteArray.toList_eq] at h; exact ba_ext h)
                have e3 : (x.toList == t.toList) = false := by rw [beq_eq_false_iff_ne]; exact e2
                have HXT := Lib.hid hxt
                clear hxt
                go_wp2
                go_quiet (fail)
                go_wp2
                go_roundw
                case rel => exact ⟨k + 1, false, by omega, by go_num, rfl, Lib.hid ⟨fun h => (by cases h), fun h => (by rw [HTK.out, if_neg HXT.out] at h; exact absurd (by omega) HNO.out)⟩, below_on hBz (below_drewN (Below.refl _ _) _)⟩
                case measure => simp [intOf] <;> omega
          · have hke : k = a := by omega
            subst hke
            have hbv := HBV.out
            rw [← HAE.out, List.take_length] at hbv
            have HBV2 := Lib.hid hbv
            clear HBV hbv
            have htz := HLZ.out t (HTM.out)
            have HLZ5 := Lib.hid (HL5.out.below hBz)
            have hox := own_below HOW.out hBz
            rw [HAE.out] at hox
            have HOX := Lib.hid hox
            have hbAz : bA < wr.heap.size := Nat.lt_of_lt_of_le hbAr hBz.size
            clear hox
            cases bv with
            | true =>
              have hn : Hid (newT [] (L.take (i + 1)) = acc) := Lib.hid (by rw [HSN.out]; unfold newStep; rw [if_neg]; rintro ⟨_, h⟩; have := HBV2.out.1 (by trivial); omega)
              obtain ⟨k0, k1, k2, _, _, _⟩ := tcellsK HLZ5.out.wb
              have HLX := Lib.hid (HLZ5.out.below (Below.drew (Below.refl _ _)))
              have HMKX := Lib.hid (mark_S t _ HLX.out.bs (by omega) (by omega))
              have hbX : bA < wr.drew.heap.size := hbAz
              have czX : wr.drew.cell? ⟨bA, oA + i, none⟩ = some (.string t) := cz
              go_wp2
              go_cut [83] from 69 to 83 (fun v wx => v = .bool false ∧ ∃ D7, Hid (wx.ownsRow w4.heap.size 9 1 (.slice AO k cO) (newT [] (L.take (i + 1))).length ((newT [] (L.take (i + 1))).map Value.string)) ∧ Hid (LW w wx (n4 + (i + 1)) D7 S4 l4 []) ∧ Hid (Fr S4 w4 wx))
              case first =>
                go_region_held3 (fun w' => (w'.cell? ⟨w.heap.size + 4, 0, none⟩ = some (.pointer (some ⟨w.heap.size + 2, 0, none⟩)) ∧ w'.cell? ⟨w.heap.size + 4, 1, none⟩ = some (.pointer (some ⟨w.heap.size + 1, 0, none⟩)) ∧ w'.cell? ⟨bA, oA + i, none⟩ = some (.string t))) (first | exact ⟨k0, k1, cz⟩ | exact kk7 | exact kk8) (first | (go_at_call 21; (with_reducible refine (HMKX.out).mono ?_); rintro e w7 ⟨q7, D7, rfl, hm7, hmo7, hbs7, hst7⟩; have HL7 := Lib.hid (HLX.out.go hbs7 hst7 hmo7); have kk7 : (w7.cell? ⟨w.heap.size + 4, 0, none⟩ = some (.pointer (some ⟨w.heap.size + 2, 0, none⟩)) ∧ w7.cell? ⟨w.heap.size + 4, 1, none⟩ = some (.pointer (some ⟨w.heap.size + 1, 0, none⟩)) ∧ w7.cell? ⟨bA, oA + i, none⟩ = some (.string t)) := ⟨HL7.out.wb.cell 0, HL7.out.wb.cell 1, (hst7.1.cell (p := ⟨bA, oA + i, none⟩) hbX nS).trans czX⟩; have HRF7 := Lib.hid (refs_S q7 w7 HL7.out.bs (by omega)); rw [ref_T HL7.out.bs.ok HL7.out.bs.good hm7, HT1.out] at HRF7; have HST7 := Lib.hid hst7; clear hm7 hmo7 hbs7 hst7) | (go_at_call 14; (with_reducible refine (HRF7.out).mono ?_); rintro e w8 ⟨rfl, hb8⟩; have HL8 := Lib.hid (HL7.out.below hb8); have kk8 : (w8.cell? ⟨w.heap.size + 4, 0, none⟩ = some (.pointer (some ⟨w.heap.size + 2, 0, none⟩)) ∧ w8.cell? ⟨w.heap.size + 4, 1, none⟩ = some (.pointer (some ⟨w.heap.size + 1, 0, none⟩)) ∧ w8.cell? ⟨bA, oA + i, none⟩ = some (.string t)) := ⟨HL8.out.wb.cell 0, HL8.out.wb.cell 1, (hb8.cell (p := ⟨bA, oA + i, none⟩) (Nat.lt_of_lt_of_le hbX HST7.out.1.size)).trans kk7.2.2⟩) | (fail))
                all_goals (go_wp2_with fail; go_meet; exact ⟨by trivial, D7, Lib.hid (by rw [hn.out, HAE.out]; exact own_below (HST7.out.1.own (own_below HOX.out (Below.drew (Below.refl _ _))) (fun k hk hS => by have h1 := (HOX.out.lt k hk).1; have h2 := HS4.out k hS; omega)) hb8), Lib.hid (by rw [show n4 + (i + 1) = n4 + i + 1 by omega]; exact HL8.out), Lib.hid ((((HFR.out.next (Fr.of_below hBz _)).next (Fr.of_below (Below.drew (Below.refl _ _)) _)).next HST7.out.1).next (Fr.of_below hb8 _))⟩)
              case rest =>
                obtain ⟨rfl, D7, HOn, HLn, HFn⟩ := hcut
                go_wp2_with fail
                go_roundw
                case rel => exact ⟨i + 1, D7, by omega, by go_num, HOn.out, HLn, HFn⟩
                case measure => simp [intOf] <;> omega
            | false =>
              have hn : Hid (newT [] (L.take (i + 1)) = acc ++ [t]) := Lib.hid (by rw [HSN.out]; unfold newStep; rw [if_pos]; refine ⟨cnt_nil t, ?_⟩; refine Classical.byContradiction fun h => ?_; have := HBV2.out.2 (by omega); cases this)
              have hzz : w4.heap.size ≤ wr.heap.size := Nat.le_trans HFR.out.size hBz.size
              have hb43 := HST4.out.1.size
              go_wp2_with (first
                | (at_builtin; refine wpList_push rfl _ _ _ rfl Tryd.underlying60 fi0 fz0 fz1 fz2 rfl (by decide) HOX.out rfl rfl rfl (by simp [Value.oneCell']) (by unfold maxLen; omega) (by omega) hzz ?_; intro g6 cap6 w6 hown6 hgr6 hat6; have hf6 := Fr.of_grown (S := fun j => (Value.slice AO k cO).ownBlock = some j) hgr6 (fun k hk => hk); have HL6 := Lib.hid (HLZ5.out.aside hf6 (fun k hk => by have h1 := (HOX.out.lt k hk).1; have h2 := HBG.out; exact ⟨by omega, fun hS => by have h3 := HS4.out k hS; omega⟩)); have cz6 := (hf6.cell (p := ⟨bA, oA + i, none⟩) hbAz (fun hk => by have h1 := (HOX.out.lt bA hk).1; omega)).trans cz; obtain ⟨k0, k1, k2, _, _, _⟩ := tcellsK HL6.out.wb; have HLX := Lib.hid (HL6.out.below (Below.drew (Below.refl _ _))); have HMKX := Lib.hid (mark_S t _ HLX.out.bs (by omega) (by omega)); have HO6 := Lib.hid hown6; have hbX : bA < w6.drew.heap.size := Nat.lt_of_lt_of_le hbAz hf6.size; have czX : w6.drew.cell? ⟨bA, oA + i, none⟩ = some (.string t) := cz6; have HF6 := Lib.hid ((HFR.out.next (Fr.of_below hBz _)).trans hf6 (fun k hk h => absurd (HOX.out.lt k h).1 (by omega))); clear hown6 hgr6 hat6 hf6)
                | fail)
              go_cut [83] from 69 to 83 (fun v wx => v = .bool false ∧ ∃ D7, Hid (wx.ownsRow w4.heap.size 9 1 (.slice (some ⟨g6, 0, none⟩) (k + 1 : Nat) cap6) (newT [] (L.take (i + 1))).length ((newT [] (L.take (i + 1))).map Value.string)) ∧ Hid (LW w wx (n4 + (i + 1)) D7 S4 l4 []) ∧ Hid (Fr S4 w4 wx))
              case first =>
                go_region_held3 (fun w' => (w'.cell? ⟨w.heap.size + 4, 0, none⟩ = some (.pointer (some ⟨w.heap.size + 2, 0, none⟩)) ∧ w'.cell? ⟨w.heap.size + 4, 1, none⟩ = some (.pointer (some ⟨w.heap.size + 1, 0, none⟩)) ∧ w'.cell? ⟨bA, oA + i, none⟩ = some (.string t))) (first | exact ⟨k0, k1, cz6⟩ | exact kk7 | exact kk8) (first | (go_at_call 21; (with_reducible refine (HMKX.out).mono ?_); rintro e w7 ⟨q7, D7, rfl, hm7, hmo7, hbs7, hst7⟩; have HL7 := Lib.hid (HLX.out.go hbs7 hst7 hmo7); have kk7 : (w7.cell? ⟨w.heap.size + 4, 0, none⟩ = some (.pointer (some ⟨w.heap.size + 2, 0, none⟩)) ∧ w7.cell? ⟨w.heap.size + 4, 1, none⟩ = some (.pointer (some ⟨w.heap.size + 1, 0, none⟩)) ∧ w7.cell? ⟨bA, oA + i, none⟩ = some (.string t)) := ⟨HL7.out.wb.cell 0, HL7.out.wb.cell 1, (hst7.1.cell (p := ⟨bA, oA + i, none⟩) hbX nS).trans czX⟩; have HRF7 := Lib.hid (refs_S q7 w7 HL7.out.bs (by omega)); rw [ref_T HL7.out.bs.ok HL7.out.bs.good hm7, HT1.out] at HRF7; have HST7 := Lib.hid hst7; clear hm7 hmo7 hbs7 hst7) | (go_at_call 14; (with_reducible refine (HRF7.out).mono ?_); rintro e w8 ⟨rfl, hb8⟩; have HL8 := Lib.hid (HL7.out.below hb8); have kk8 : (w8.cell? ⟨w.heap.size + 4, 0, none⟩ = some (.pointer (some ⟨w.heap.size + 2, 0, none⟩)) ∧ w8.cell? ⟨w.heap.size + 4, 1, none⟩ = some (.pointer (some ⟨w.heap.size + 1, 0, none⟩)) ∧ w8.cell? ⟨bA, oA + i, none⟩ = some (.string t)) := ⟨HL8.out.wb.cell 0, HL8.out.wb.cell 1, (hb8.cell (p := ⟨bA, oA + i, none⟩) (Nat.lt_of_lt_of_le hbX HST7.out.1.size)).trans kk7.2.2⟩) | (fail))
                all_goals (go_wp2_with fail; go_meet; exact ⟨by trivial, D7, Lib.hid (by rw [hn.out, List.length_append, List.map_append, HAE.out]; exact own_below (HST7.out.1.own (own_below HO6.out (Below.drew (Below.refl _ _))) (fun k hk hS => by have h1 := (HO6.out.lt k hk).1; have h2 := HS4.out k hS; omega)) hb8), Lib.hid (by rw [show n4 + (i + 1) = n4 + i + 1 by omega]; exact HL8.out), Lib.hid (((HF6.out.next (Fr.of_below (Below.drew (Below.refl _ _)) _)).next HST7.out.1).next (Fr.of_below hb8 _))⟩)
              case rest =>
                obtain ⟨rfl, D7, HOn, HLn, HFn⟩ := hcut
                go_wp2_with fail
                go_roundw
                case rel => exact ⟨i + 1, D7, by omega, by go_num, HOn.out, HLn, HFn⟩
                case measure => simp [intOf] <;> omega
      · have hie : i = L.length := by omega
        subst hie
        rw [List.take_length] at hown
        obtain ⟨AO, cO, rfl, _, _, _⟩ := own_arr hown
        rw [HP.out] at hown ⊢
        obtain ⟨k0, k1, k2, _, _, _⟩ := tcellsK HL5.out.wb
        have hnc := new_count HL5.out.bs.srt HL5.out.bs.ok (fun t => by rw [HC4.out t, cnt_nil, Int.zero_add])
        have HCN := Lib.hid (count_S wr HL5.out.bs)
        rw [hnc.1, HP.out] at HCN
        have hbw : Below w.heap.size w wr := HL5.out.bl
        clear hown hnc
        go_wp2_with (first
          | (go_at_call 13; (with_reducible refine (HCN.out).mono ?_); rintro e w6 ⟨rfl, hb6⟩; have hbw6 := below_on hbw hb6)
          | (go_at_call 10; (with_reducible refine (HA.out _ (HM.out.on hbw6)).mono ?_); rintro e w9 ⟨rfl, hb9⟩)
          | fail)
        go_ret
        exact ⟨rfl, below_on hbw6 hb9⟩
end Go.Proofs.YtmcgaaihdjpdgaaDoor
