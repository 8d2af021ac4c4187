/- Chapter 11: a law's world; BlobLacks. -/
import Derived.Test.YtmcgaaihdjpdgaaDoorBlobP
import Derived.Test.YtmcgaaihdjpdgaaDoorBlobO
import Derived.Deep.CutRange
namespace Go.Proofs.YtmcgaaihdjpdgaaDoor
open Go.RowKit
set_option linter.unusedVariables false

theorem own_addr {w : World} {B sz n n' c g o : Nat} {e : TypeId} {A : Option Addr} {xs : List Value} (h : w.ownsRow B e sz (.slice A n' c) n xs) (hA : A = some ⟨g, o, none⟩) : B ≤ g ∧ g < w.heap.size := by
  have hlt := h.lt
  rcases h.2 with ⟨h1, _⟩ | ⟨g2, cap, cur, h1, h2, h3, _⟩
  · subst hA; cases h1
  · subst hA
    injection h1 with h1 _ _
    injection h1 with h1
    injection h1 with h1 _ _
    subst h1
    exact ⟨h2, (Array.getElem?_eq_some_iff.1 h3).1⟩
theorem sb0_ge {B k : Nat} (h : SB0 B k) : B ≤ k := by rcases h with h | h | h <;> omega
/-- A law's world: made at w0. -/
structure LW (w0 w : World) (n : Nat) (D : DataW Unit) (S : Nat → Prop) (l : List KpD) (Rs : List RtD) : Prop where
  bs : BS w (w0.heap.size + 2) (w0.heap.size + 1) w0.heap.size n D S l (Rs.map (·.q))
  wb : Blk w (w0.heap.size + 4) 31 #[.pointer (some ⟨w0.heap.size + 2, 0, none⟩), .pointer (some ⟨w0.heap.size + 1, 0, none⟩), .pointer (some ⟨w0.heap.size + 3, 0, none⟩)]
  bl : Below w0.heap.size w0 w
  lo : ∀ k, S k → w0.heap.size ≤ k ∧ k ≠ w0.heap.size + 3 ∧ k ≠ w0.heap.size + 4
  rt : ∀ r ∈ Rs, RtGood D r
theorem LW.new {w0 w : World} (h1 : BS w (w0.heap.size + 2) (w0.heap.size + 1) w0.heap.size 0 (.map []) (SB0 w0.heap.size) [] []) (h2 : Blk w (w0.heap.size + 4) 31 #[.pointer (some ⟨w0.heap.size + 2, 0, none⟩), .pointer (some ⟨w0.heap.size + 1, 0, none⟩), .pointer (some ⟨w0.heap.size + 3, 0, none⟩)])
    (h3 : Below w0.heap.size w0 w) : LW w0 w 0 (.map []) (SB0 w0.heap.size) [] [] :=
  ⟨h1, h2, h3, by rintro k (h | h | h) <;> omega, by simp⟩
theorem LW.below {w0 w w' : World} {n : Nat} {D : DataW Unit} {S : Nat → Prop} {l : List KpD} {Rs : List RtD} (h : LW w0 w n D S l Rs) (hb : Below w.heap.size w w') : LW w0 w' n D S l Rs :=
  ⟨h.bs.below hb, h.wb.below hb h.wb.lt, h.bl.trans (hb.mono h.bl.size), h.lo, h.rt⟩
theorem LW.step {w0 w w' : World} {n n' : Nat} {D D' : DataW Unit} {S S' : Nat → Prop} {l l' : List KpD} {Rs Rs' : List RtD} (h : LW w0 w n D S l Rs) (hb : BS w' (w0.heap.size + 2) (w0.heap.size + 1) w0.heap.size n' D' S' l' (Rs'.map (·.q))) (hs : Stp S S' w w')
    (hr : ∀ r ∈ Rs', RtGood D' r) : LW w0 w' n' D' S' l' Rs' := by
  have hlt := h.wb.lt
  refine ⟨hb, hs.1.blk h.wb (fun hk => (h.lo _ hk).2.2 rfl), h.bl.trans (hs.1.below h.bl.size (fun k hk => (h.lo k hk).1)), fun k hk => ?_, hr⟩
  rcases hs.2 k hk with h1 | h1
  · exact h.lo k h1
  · omega
theorem LW.good {w0 w : World} {n n' : Nat} {D D' : DataW Unit} {S S' : Nat → Prop} {l l' : List KpD} {Rs : List RtD} (h : LW w0 w n D S l Rs) (hD : ∀ s q, Marked D s q → Marked D' s q) : ∀ r ∈ Rs, RtGood D' r := fun r hr => (h.rt r hr).mono hD
/-- A call that changes what is kept. -/
theorem LW.go {w0 w w' : World} {n n' : Nat} {D D' : DataW Unit} {S S' : Nat → Prop} {l l' : List KpD} {Rs : List RtD} (h : LW w0 w n D S l Rs) (hb : BS w' (w0.heap.size + 2) (w0.heap.size + 1) w0.heap.size n' D' S' l' (Rs.map (·.q))) (hs : Stp S S' w w') (hD : ∀ s q, Marked D s q → Marked D' s q) : LW w0 w' n' D' S' l' Rs :=
  h.step hb hs (fun r hr => (h.rt r hr).mono hD)
theorem save_L {w0 w : World} {n : Nat} {D : DataW Unit} {S : Nat → Prop} {l : List KpD} {Rs : List RtD} (A : Option Addr) (c : Nat) (fl : List FileD) (h : LW w0 w n D S l Rs) (hn : n + 2 * fl.length ≤ 60000) (hz : fl.length ≤ 60) (hx : ∀ f ∈ fl, FOk f) (hd : ∀ f ∈ fl, f.data.size ≤ 65536)
    (ha : Arr w w.heap.size 3 A fl.length (fcells fl)) (hA : ∀ g o, A = some ⟨g, o, none⟩ → ¬ S g) (hm : Ml w0) :
    Calls Tryd.prog 16 #[.pointer (some ⟨w0.heap.size + 2, 0, none⟩), .slice A fl.length c] w fun e w' =>
      (checkE fl ≠ 0 ∧ e = .returned (.tuple #[.string ⟨#[]⟩, .int .i64 (checkE fl)]) ∧ Below w.heap.size w w') ∨
      (checkE fl = 0 ∧ ∃ r D' S' l', e = .returned (.tuple #[.string r.q, .int .i64 0]) ∧ r.fl = fl ∧ LW w0 w' (n + 2 * fl.length + 1) D' S' l' (Rs ++ [r]) ∧ Stp S S' w w' ∧ (∀ s q, Marked D s q → Marked D' s q) ∧ ∀ t, cntT l' t = cntT l t + occ t r.need) := by
  refine (save_S A c fl w h.bs hn hz hx hd ha hA (hm.on h.bl)).mono ?_
  rintro e w' (⟨h1, h2, h3⟩ | ⟨h1, q, acc, D', S', l', h2, h3, h4, h5, h6, h7, h8, h9⟩)
  · exact .inl ⟨h1, h2, h3⟩
  · refine .inr ⟨h1, ⟨q, fl, acc⟩, D', S', l', h2, rfl, h.step (by rw [List.map_append]; exact h7) h8 ?_, h8, h6, h9⟩
    intro r hr
    rcases List.mem_append.1 hr with hr | hr
    · exact (h.rt r hr).mono h6
    · obtain rfl := List.mem_singleton.1 hr
      exact ⟨h5, h3, h4⟩
theorem save_bad {w0 w : World} {n : Nat} {D : DataW Unit} {S : Nat → Prop} {l : List KpD} {Rs : List RtD} (A : Option Addr) (c : Nat) (fl : List FileD) (h : LW w0 w n D S l Rs) (hn : n + 2 * fl.length ≤ 60000) (hz : fl.length ≤ 60) (hx : ∀ f ∈ fl, FOk f) (hd : ∀ f ∈ fl, f.data.size ≤ 300)
    (ha : Arr w w.heap.size 3 A fl.length (fcells fl)) (hA : ∀ g o, A = some ⟨g, o, none⟩ → ¬ S g) (hm : Ml w0) (hE : checkE fl ≠ 0) :
    Calls Tryd.prog 16 #[.pointer (some ⟨w0.heap.size + 2, 0, none⟩), .slice A fl.length c] w fun e w' => e = .returned (.tuple #[.string ⟨#[]⟩, .int .i64 (checkE fl)]) ∧ Below w.heap.size w w' :=
  (save_L A c fl h hn hz hx (fun f hf => Nat.le_trans (hd f hf) (by decide)) ha hA hm).mono (fun e w' hh => by rcases hh with hh | hh; exact hh.2; exact absurd hh.1 hE)
theorem save_ok {w0 w : World} {n : Nat} {D : DataW Unit} {S : Nat → Prop} {l : List KpD} {Rs : List RtD} (A : Option Addr) (c : Nat) (fl : List FileD) (h : LW w0 w n D S l Rs) (hn : n + 2 * fl.length ≤ 60000) (hz : fl.length ≤ 60) (hx : ∀ f ∈ fl, FOk f) (hd : ∀ f ∈ fl, f.data.size ≤ 300)
    (ha : Arr w w.heap.size 3 A fl.length (fcells fl)) (hA : ∀ g o, A = some ⟨g, o, none⟩ → ¬ S g) (hm : Ml w0) (hE : checkE fl = 0) :
    Calls Tryd.prog 16 #[.pointer (some ⟨w0.heap.size + 2, 0, none⟩), .slice A fl.length c] w fun e w' => ∃ r D' S' l', e = .returned (.tuple #[.string r.q, .int .i64 0]) ∧ r.fl = fl ∧ LW w0 w' (n + 2 * fl.length + 1) D' S' l' (Rs ++ [r]) ∧ Stp S S' w w' ∧ (∀ s q, Marked D s q → Marked D' s q) ∧ ∀ t, cntT l' t = cntT l t + occ t r.need :=
  (save_L A c fl h hn hz hx (fun f hf => Nat.le_trans (hd f hf) (by decide)) ha hA hm).mono (fun e w' hh => by rcases hh with hh | hh; exact absurd hE hh.1; exact hh.2)
set_option maxHeartbeats 4000000 in
set_option maxRecDepth 100000 in
theorem law_lacks (A : Option Addr) (c : Nat) (l : List FileD) (which : Int) (w : World)
    (hz : l.length * 40 ≤ 140737488351232) (hcap : l.length ≤ c) (hx : ∀ f ∈ l, FFit f) (ha : Arr w w.heap.size 3 A l.length (fcells l)) (h0 : -9223372036854775808 ≤ which) (h1 : which ≤ 9223372036854775807) (hm : Ml w) :
    Calls Tryd.prog 5 #[.slice A l.length c, .int .i64 which] w fun e w' => e = .returned (.bool true) ∧ Below w.heap.size w w' := by
  have HA := Lib.hid awake11
  have HM := Lib.hid hm
  have HF := Lib.hid fresh_any
  unfold FreshOut at HF
  have HFW := Lib.hid (few11_any A c l w (by omega) (fun f hf => (hx f hf).1) ha)
  unfold FewOut at HFW
  have hok := few12_ok (l := l) (fun f hf => (hx f hf).1)
  have hda := few12_data l
  have hln := few12_len l
  generalize few12 l = fl at *
  have HOK := Lib.hid hok
  have HDA := Lib.hid hda
  clear ha hx hm hok hda
  by_cases hE : checkE fl = 0
  · have HE := Lib.hid hE
    clear hE
    by_cases hbad : which < 0 ∨ (fl.length : Int) ≤ which
    · rcases hbad with hw0 | hw1
      · go_enter Tryd.func5, Tryd.ntmps5
        go_wp2_with (first
          | (go_at_call 15; (with_reducible refine (HFW.out).mono ?_); rintro e w1 ⟨V1, rfl, ho1, hb1⟩; obtain ⟨A1, c1, rfl, _, ha1, hf1⟩ := own_arr ho1; have HA1 := Lib.hid ha1; have HO1 := Lib.hid ho1; clear ha1 ho1)
          | (go_at_call 11; (with_reducible refine (HF.out w1).mono ?_); rintro e w2 ⟨rfl, hw2, hp2, hbs2, hb2, hs2⟩; have HL2 := Lib.hid (LW.new hbs2 hw2 hb2); obtain ⟨k0, k1, k2, _, _, _⟩ := tcellsK hw2; have HA2 := Lib.hid (HA1.out.below hb2); clear hp2 hbs2 hs2 hw2)
          | (go_at_call 16; (with_reducible refine (save_ok A1 c1 fl HL2.out (by omega) (by omega) HOK.out HDA.out (HA2.out.more hb2.size) (fun g o e hk => by have h1 := (own_addr HO1.out e).2; have h2 := sb0_ge hk; omega) (HM.out.on hb1) HE.out).mono ?_); rintro e w3 ⟨r, D3, S3, l3, rfl, hrf, hL3, hst3, hmo3, hc3⟩; have hbw : Below w.heap.size w w3 := hb1.trans (hL3.bl.mono hb1.size); clear hL3 hrf hst3 hc3 hmo3)
          | (go_at_call 10; (with_reducible refine (HA.out _ (HM.out.on hbw)).mono ?_); rintro e w9 ⟨rfl, hb9⟩)
          | fail)
        go_ret
        exact ⟨rfl, below_on hbw hb9⟩
      · have hw0 : ¬ which < 0 := by omega
        go_enter Tryd.func5, Tryd.ntmps5
        go_wp2_with (first
          | (go_at_call 15; (with_reducible refine (HFW.out).mono ?_); rintro e w1 ⟨V1, rfl, ho1, hb1⟩; obtain ⟨A1, c1, rfl, _, ha1, hf1⟩ := own_arr ho1; have HA1 := Lib.hid ha1; have HO1 := Lib.hid ho1; clear ha1 ho1)
          | (go_at_call 11; (with_reducible refine (HF.out w1).mono ?_); rintro e w2 ⟨rfl, hw2, hp2, hbs2, hb2, hs2⟩; have HL2 := Lib.hid (LW.new hbs2 hw2 hb2); obtain ⟨k0, k1, k2, _, _, _⟩ := tcellsK hw2; have HA2 := Lib.hid (HA1.out.below hb2); clear hp2 hbs2 hs2 hw2)
          | (go_at_call 16; (with_reducible refine (save_ok A1 c1 fl HL2.out (by omega) (by omega) HOK.out HDA.out (HA2.out.more hb2.size) (fun g o e hk => by have h1 := (own_addr HO1.out e).2; have h2 := sb0_ge hk; omega) (HM.out.on hb1) HE.out).mono ?_); rintro e w3 ⟨r, D3, S3, l3, rfl, hrf, hL3, hst3, hmo3, hc3⟩; have hbw : Below w.heap.size w w3 := hb1.trans (hL3.bl.mono hb1.size); clear hL3 hrf hst3 hc3 hmo3)
          | (go_at_call 10; (with_reducible refine (HA.out _ (HM.out.on hbw)).mono ?_); rintro e w9 ⟨rfl, hb9⟩)
          | fail)
        go_ret
        exact ⟨rfl, below_on hbw hb9⟩
    · obtain ⟨i, rfl⟩ : ∃ i : Nat, which = (i : Int) := ⟨which.toNat, by omega⟩
      have hil : i < fl.length := by omega
      have hw1 : ¬ (fl.length : Int) ≤ (i : Int) := by omega
      have hw2 : (i : Int) < fl.length := by omega
      obtain ⟨f, hf⟩ : ∃ f, fl[i]? = some f := ⟨_, List.getElem?_eq_getElem hil⟩
      have hfd := HDA.out f (List.mem_of_getElem? hf)
      have HFI := Lib.hid hf
      clear hf hbad
      go_enter Tryd.func5, Tryd.ntmps5
      go_wp2_with (first
        | (go_at_call 15; (with_reducible refine (HFW.out).mono ?_); rintro e w1 ⟨V1, rfl, ho1, hb1⟩; obtain ⟨A1, c1, rfl, _, ha1, hf1⟩ := own_arr ho1; have HA1 := Lib.hid ha1; have HO1 := Lib.hid ho1; clear ha1 ho1)
        | (go_at_call 11; (with_reducible refine (HF.out w1).mono ?_); rintro e w2 ⟨rfl, hw2, hp2, hbs2, hb2, hs2⟩; have HL2 := Lib.hid (LW.new hbs2 hw2 hb2); obtain ⟨k0, k1, k2, _, _, _⟩ := tcellsK hw2; have HA2 := Lib.hid (HA1.out.below hb2); clear hp2 hbs2 hs2 hw2)
        | (go_at_call 16; (with_reducible refine (save_ok A1 c1 fl HL2.out (by omega) (by omega) HOK.out HDA.out (HA2.out.more hb2.size) (fun g o e hk => by have h1 := (own_addr HO1.out e).2; have h2 := sb0_ge hk; omega) (HM.out.on hb1) HE.out).mono ?_); rintro e w3 ⟨r, D3, S3, l3, rfl, hrf, hL3, hst3, hmo3, hc3⟩; obtain ⟨k0, k1, k2, _, _, _⟩ := tcellsK hL3.wb; obtain ⟨bA, oA, rfl, hbA, hcell⟩ := (HA1.out.below hL3.bl).2 (by omega); obtain ⟨c0, c1', c2⟩ := file_cells hcell HFI.out; have HRF := Lib.hid hrf; have HC3 := Lib.hid hc3; have hL3d := hL3.below (Below.drew (Below.refl _ _)); have HMK := Lib.hid (mark_S f.data _ hL3d.bs (by omega) (by omega)); have HL3 := Lib.hid hL3d; clear hL3 hL3d hrf hst3 hc3 hmo3 hcell)
        | fail)
      have HFN : Hid (f.data ∈ r.need) := Lib.hid (List.mem_append.2 (.inl (by rw [HRF.out]; exact List.mem_map.2 ⟨f, List.mem_of_getElem? HFI.out, rfl⟩)))
      have hrl : r.need.length ≤ 13 := by
        unfold RtD.need datas
        rw [List.length_append, List.length_map, HRF.out]
        simp only [List.length_cons, List.length_nil]
        omega
      have HRL := Lib.hid hrl
      clear hrl
      obtain ⟨n3, hn3⟩ : ∃ n3, 0 + 2 * fl.length + 1 = n3 := ⟨_, rfl⟩
      rw [hn3] at HL3 HMK
      have hn4 : n3 ≤ 100 := by omega
      have hlen := HL3.out.bs.ok.1
      have HCL : Hid (cntT l3 f.data ≤ 26) := Lib.hid (by
        rw [HC3.out f.data]
        have := occ_le f.data r.need
        have h2 := HRL.out
        show (0 : Int) + _ ≤ 26
        omega)
      have HND : Hid (∀ t, (needT t ([] ++ [r]) : Int) = occ t r.need) := Lib.hid (fun t => by rw [List.nil_append, needT, needT, Nat.add_zero])
      go_cut [8, 34, 35] from 37 to 46 (fun v _ _ wx => ∃ q4 D4, v = .string q4 ∧ Hid (LW w1 wx (n3 + 1) D4 S3 l3 ([] ++ [r])) ∧ Hid (Marked D4 f.data q4))
      case first =>
        go_region_with (first
          | (go_at_call 21; (with_reducible refine (HMK.out).mono ?_); rintro e w4 ⟨q4, D4, rfl, hm4, hmo4, hbs4, hst4⟩; have HL4 := Lib.hid (HL3.out.go hbs4 hst4 hmo4); have HM4 := Lib.hid hm4; clear hm4 hmo4 hbs4 hst4)
          | (fail))
        all_goals (go_wp2_with fail; go_meet; exact ⟨q4, D4, rfl, HL4, HM4⟩)
      case rest =>
        obtain ⟨q4, D4, rfl, HL4, HM4⟩ := hcut
        obtain ⟨k0, k1, k2, _, _, _⟩ := tcellsK HL4.out.wb
        have HRF4 := Lib.hid (refs_S q4 wc HL4.out.bs (by omega))
        rw [ref_T HL4.out.bs.ok HL4.out.bs.good HM4.out] at HRF4
        go_wp2_with (first
          | (go_at_call 14; (with_reducible refine (HRF4.out).mono ?_); rintro e w5 ⟨rfl, hb5⟩; have HL5 := Lib.hid (HL4.out.below hb5))
          | (fail))
        go_loopw [9] (fun v wr => ∃ (c : Nat) (l5 : List KpD), v = .int .i64 c ∧ Hid (LW w1 wr (n3 + 1) D4 S3 l5 ([] ++ [r])) ∧ Hid (cntT l5 f.data = c) ∧ c ≤ 26) (fun v _ => (intOf v).toNat)
        case atStart =>
          have h1 := cnt_nonneg HL5.out.bs.ok f.data
          have h2 := HCL.out
          exact ⟨(cntT l3 f.data).toNat, l3, by rw [Int.toNat_of_nonneg h1.1], HL5, Lib.hid (by rw [Int.toNat_of_nonneg h1.1]), by omega⟩
        case round =>
          obtain ⟨c, l5, rfl, HL, HC, hc26⟩ := hrel
          obtain ⟨k0, k1, k2, _, _, _⟩ := tcellsK HL.out.wb
          by_cases h0 : 0 < c
          · have g1 : (0 : Int) < c := by omega
            have g2 : (c : Int) < 100 := by omega
            have HDR := Lib.hid (drop_S f.data q4 wr HL.out.bs (by omega) HM4.out)
            unfold DropOutS at HDR
            have hcd := cnt_drop HL.out.bs.srt HL.out.bs.ok HL.out.bs.good HM4.out f.data
            rw [HC.out, if_pos ⟨rfl, g1⟩] at hcd
            have HCD := Lib.hid hcd
            clear hcd
            go_wp2_with (first
              | (go_at_call 20; (with_reducible refine (HDR.out).mono ?_); rintro e w6 ⟨rfl, hbs6, hst6⟩; have HL6 := Lib.hid (HL.out.go hbs6 hst6 (fun _ _ h => h)); obtain ⟨k0, k1, k2, _, _, _⟩ := tcellsK HL6.out.wb; have HRF6 := Lib.hid (refs_S q4 w6 HL6.out.bs (by omega)); rw [ref_T HL6.out.bs.ok HL6.out.bs.good HM4.out, HCD.out] at HRF6; clear hbs6 hst6)
              | (go_at_call 14; (with_reducible refine (HRF6.out).mono ?_); rintro e w7 ⟨rfl, hb7⟩; have HL7 := Lib.hid (HL6.out.below hb7))
              | (fail))
            go_roundw
            case rel => exact ⟨c - 1, _, by congr 1; omega, HL7, Lib.hid (by rw [HCD.out]; omega), by omega⟩
            case measure => simp [intOf] <;> omega
          · have hc0 : c = 0 := by omega
            subst hc0
            have HNA : Hid (¬ HasAll l5 r.need) := Lib.hid (fun h => by have := h f.data HFN.out; rw [HC.out] at this; omega)
            have HLD := Lib.hid (load_S r wr HL.out.bs (by omega) (HL.out.rt r (by simp)) (HM.out.on (hb1.trans (HL.out.bl.mono hb1.size))))
            have HLD2 := Lib.hid (HLD.out.mono (fun e w' h => (show e = .returned (.tuple #[.slice none 0 0, .int .i64 8]) ∧ Below wr.heap.size wr w' by rcases h with h | h; exact absurd h.1 HNA.out; exact h.2)))
            have HNN : Hid (¬ ∀ t, (needT t ([] ++ [r]) : Int) ≤ cntT l5 t) := Lib.hid (fun h => by
              have h1 := h f.data
              rw [HND.out, HC.out] at h1
              have := occ_pos HFN.out
              omega)
            have HBW := Lib.hid (hb1.trans (HL.out.bl.mono hb1.size))
            clear HLD
            go_wp2_with (first
              | (go_at_call 22; (with_reducible refine (HLD2.out).mono ?_); rintro e w6 ⟨rfl, hb6⟩; have HL6 := Lib.hid (HL.out.below hb6); obtain ⟨k0, k1, k2, _, _, _⟩ := tcellsK HL6.out.wb; have HCK := Lib.hid (check_R w6 HL6.out.bs HL6.out.rt (by omega) (HM.out.on (below_on HBW.out hb6))); have HBW6 := Lib.hid (below_on HBW.out hb6))
              | (go_at_call 24; (with_reducible refine (HCK.out).mono ?_); rintro e w7 ⟨v, rfl, hv, hb7⟩; obtain rfl : v = false := (by cases v; rfl; exact absurd (hv.1 rfl) HNN.out); have hbw7 := below_on HBW6.out hb7)
              | (go_at_call 10; (with_reducible refine (HA.out _ (HM.out.on hbw7)).mono ?_); rintro e w9 ⟨rfl, hb9⟩)
              | (fail))
            go_ret
            exact ⟨rfl, below_on hbw7 hb9⟩
  · have HE := Lib.hid hE
    have q1 : (checkE fl != 0) = true := by rw [bne_iff_ne]; exact hE
    have q2 : (checkE fl == 0) = false := by rw [beq_eq_false_iff_ne]; exact hE
    have HSB := Lib.hid (fun (w1 w2 : World) (A1 : Option Addr) (c1 : Nat) (hL : LW w1 w2 0 (.map []) (SB0 w1.heap.size) [] []) (ha : Arr w2 w2.heap.size 3 A1 fl.length (fcells fl)) (hA : ∀ g o, A1 = some ⟨g, o, none⟩ → ¬ SB0 w1.heap.size g) (hm : Ml w1) => save_bad A1 c1 fl hL (by omega) (by omega) HOK.out HDA.out ha hA hm hE)
    generalize checkE fl = E at *
    clear hE
    go_enter Tryd.func5, Tryd.ntmps5
    go_wp2_with (first
      | (go_at_call 15; (with_reducible refine (HFW.out).mono ?_); rintro e w1 ⟨V1, rfl, ho1, hb1⟩; obtain ⟨A1, c1, rfl, _, ha1, hf1⟩ := own_arr ho1; have HA1 := Lib.hid ha1; have HO1 := Lib.hid ho1; clear ha1 ho1)
      | (go_at_call 11; (with_reducible refine (HF.out w1).mono ?_); rintro e w2 ⟨rfl, hw2, hp2, hbs2, hb2, hs2⟩; have HL2 := Lib.hid (LW.new hbs2 hw2 hb2); obtain ⟨k0, k1, k2, _, _, _⟩ := tcellsK hw2; have HA2 := Lib.hid (HA1.out.below hb2); clear hp2 hbs2 hs2 hw2)
      | (go_at_call 16; (with_reducible refine (HSB.out w1 _ A1 c1 HL2.out (HA2.out.more hb2.size) (fun g o e hk => by have h1 := (own_addr HO1.out e).2; have h2 := sb0_ge hk; omega) (HM.out.on hb1)).mono ?_); rintro e w3 ⟨rfl, hb3⟩; have hbw := below_on hb1 (below_on hb2 hb3))
      | (go_at_call 10; (with_reducible refine (HA.out _ (HM.out.on hbw)).mono ?_); rintro e w9 ⟨rfl, hb9⟩)
      | fail)
    go_ret
    exact ⟨rfl, below_on hbw hb9⟩
end Go.Proofs.YtmcgaaihdjpdgaaDoor
