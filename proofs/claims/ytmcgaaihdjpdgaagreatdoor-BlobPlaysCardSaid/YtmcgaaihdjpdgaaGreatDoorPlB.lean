/- Chapter 11: BlobPlays: a Save.; Chapter 11: BlobPlays: Forget and Load of a root.; Chapter 11: BlobPlays: a call; the law. -/
import Derived.Test.YtmcgaaihdjpdgaaGreatDoorPlA
import Derived.Test.YtmcgaaihdjpdgaaGreatDoorTreeOf3
/- Chapter 11: BlobPlays: a Save. -/
namespace Go.Proofs.YtmcgaaihdjpdgaaGreatDoor
open Go.RowKit
set_option linter.unusedVariables false

/-- Files of the call's own. -/
structure FilA (w0 w : World) (S : Nat → Prop) (VT VP : Value) (A : Option Addr) (fl : List FileD) : Prop where
  arr : Arr w w.heap.size 3 A fl.length (fcells fl)
  off : ∀ g o, A = some ⟨g, o, none⟩ → ¬ US w0.heap.size S VT VP g ∧ w0.heap.size + 5 ≤ g ∧ g < w.heap.size
theorem FilA.step {w0 w w' : World} {S S' : Nat → Prop} {VT VP VT' VP' : Value} {A : Option Addr} {fl : List FileD} (h : FilA w0 w S VT VP A fl) (hs : Stp (US w0.heap.size S VT VP) (US w0.heap.size S' VT' VP') w w') : FilA w0 w' S' VT' VP' A fl :=
  ⟨h.arr.fr hs.1 (fun g o e => (h.off g o e).1), fun g o e => by
    obtain ⟨a, b, c⟩ := h.off g o e
    refine ⟨fun hk => ?_, b, Nat.lt_of_lt_of_le c hs.1.size⟩
    rcases hs.2 g hk with h1 | h1
    · exact a h1
    · omega⟩
theorem FilA.noS {w0 w : World} {S : Nat → Prop} {VT VP : Value} {A : Option Addr} {fl : List FileD} (h : FilA w0 w S VT VP A fl) : ∀ g o, A = some ⟨g, o, none⟩ → ¬ S g := fun g o e hk => (h.off g o e).1 (.inl hk)
theorem PL.pushed {w0 w w6 : World} {n : Nat} {D : DataW Unit} {S : Nat → Prop} {l : List KpD} {Rs : List RtD} {VT VP : Value} {T : List TxD} {P : List PE} {o : Obj} (h : PL w0 w n D S l Rs VT VP T P) (hg : (w.alloc o).grownBy w6 VP.ownBlock) :
    w.grownBy w6 VP.ownBlock ∧ w6.cell? ⟨w0.heap.size + 3, 1, none⟩ = some VP ∧ w6.frozen? ⟨w0.heap.size + 3, 1, none⟩ = false ∧ w6.cell? ⟨w0.heap.size + 4, 2, none⟩ = some (.pointer (some ⟨w0.heap.size + 3, 0, none⟩)) := by
  have h1 : w.grownBy w6 VP.ownBlock := only_trans (World.grownBy_alloc w o _) hg
  have hne : VP.ownBlock ≠ some (w0.heap.size + 3) := fun e => by have := (h.pw.off _ e).2; omega
  have h2 := h.pw.pb.grown h1 (fun e => hne e.symm)
  exact ⟨h1, h2.cell 1, h2.frozen 1, (h.lw.wb.grown h1 (fun e => by have h5 := (h.pw.off _ e.symm).2; omega)).cell 2⟩
theorem FilA.new {w0 W w : World} {n c : Nat} {D : DataW Unit} {S : Nat → Prop} {l : List KpD} {Rs : List RtD} {VT VP : Value} {T : List TxD} {P : List PE} {A : Option Addr} {fl : List FileD} (h : PL w0 W n D S l Rs VT VP T P) (ho : w.ownsRow W.heap.size 64 3 (.slice A fl.length c) fl.length (fcells fl)) (hb : Below W.heap.size W w)
    (ha : Arr w w.heap.size 3 A fl.length (fcells fl)) : FilA w0 w S VT VP A fl :=
  ⟨ha, fun g o e => by
    obtain ⟨a, b⟩ := own_addr ho e
    have hbig := h.lw.big
    exact ⟨fun hk => by have := (h.lt hk).2.2; omega, by omega, b⟩⟩
theorem FilA.below {w0 w w' : World} {S : Nat → Prop} {VT VP : Value} {A : Option Addr} {fl : List FileD} (h : FilA w0 w S VT VP A fl) (hb : Below w.heap.size w w') : FilA w0 w' S VT VP A fl := h.step (Stp.below hb)
theorem FilA.cell {w0 w : World} {S : Nat → Prop} {VT VP : Value} {b o : Nat} {fl : List FileD} (h : FilA w0 w S VT VP (some ⟨b, o, none⟩) fl) {i : Nat} {f : FileD} (hf : fl[i]? = some f) : w.cell? ⟨b, o + i * 3 + 2, none⟩ = some (.string f.data) := by
  obtain ⟨b', o', e, _, hc⟩ := h.arr.2 (by have := (List.getElem?_eq_some_iff.1 hf).1; omega)
  injection e with e
  injection e with e1 e2
  subst e1
  subst e2
  exact (file_cells hc hf).2.2
/-- The plain model behind a Save. -/
theorem PI.saved {D D' : DataW Unit} {l l' : List KpD} {Rs : List RtD} {T T' : List TxD} {P : List PE} {r : RtD} (y : PE) (h : PI D l Rs T P) (hD : ∀ s q, Marked D s q → Marked D' s q) (hr : RtGood D' r) (hyq : y.q = r.q) (hyf : y.fl = r.fl) (hyi : y.is = true) (hyl : y.fl.length ≤ 12)
    (hn : (T'.map (·.1)).Nodup) (hT : ∀ t, refsT T' t = refsT T t + occ t r.need) (hc : ∀ t, cntT l' t = cntT l t + occ t r.need) : PI D' l' (Rs ++ [r]) T' (P ++ [y]) := by
  refine ⟨hn, fun s => by rw [hT, hc, h.cnt], ?_, fun z hz => ?_, fun t => ?_, fun z hz => ?_⟩
  · have e : live (P ++ [y]) = live P ++ [y] := by unfold live; rw [List.filter_append]; simp [hyi]
    rw [e, List.map_append, List.map_append, List.map_singleton, List.map_singleton, hyq]
    exact h.perm.append_right _
  · rcases List.mem_append.1 hz with hz | hz
    · obtain ⟨r2, h1, h2⟩ := h.rt z hz
      exact ⟨r2, h1.mono hD, h2⟩
    · obtain rfl := List.mem_singleton.1 hz
      exact ⟨r, hr, hyq.symm, hyf.symm⟩
  · rw [hc, needT_app, needT, needT]
    have := h.need t
    omega
  · rcases List.mem_append.1 hz with hz | hz
    · exact h.len z hz
    · obtain rfl := List.mem_singleton.1 hz
      exact hyl
/-- The plain model while files are told. -/
def Told (T Ti : List TxD) (m i : Nat) (fl : List FileD) : Prop := (Ti.map (·.1)).Nodup ∧ TB Ti (m + i) ∧ ∀ t, refsT Ti t = refsT T t + occ t (datas (fl.take i))
theorem Told.next {T Ti : List TxD} {m i : Nat} {fl : List FileD} {f : FileD} (h : Told T Ti m i fl) (hf : fl[i]? = some f) : Told T (addT Ti f.data 1) m (i + 1) fl := by
  refine ⟨add_nodup h.1 _ _, h.2.1.add (by decide) (by decide), fun t => ?_⟩
  rw [refs_add, h.2.2, datas_take hf, occ_app, occ_one]
  split <;> omega
theorem FilesInB.few {w0 W : World} {A : Option Addr} {c : Nat} {l : List FileD} (h : FilesInB w0 A l) (hb : Below w0.heap.size w0 W) :
    Calls Tryz.prog 31 #[.slice A l.length c] W fun e w' => ∃ V, e = .returned V ∧ w'.ownsRow W.heap.size 64 3 V (few12 l).length (fcells (few12 l)) ∧ Below W.heap.size W w' := by
  have := few11_any A c l W h.1 (fun f hf => (h.2.1 f hf).1) ((h.2.2.below hb).more hb.size)
  unfold FewOut at this
  exact this
set_option maxHeartbeats 8000000 in
set_option maxRecDepth 100000 in
theorem psave_any {w0 w : World} {n m : Nat} {D : DataW Unit} {S : Nat → Prop} {l : List KpD} {Rs : List RtD} {VT VP : Value} {T : List TxD} {P : List PE} (x : InOp) (h : PL w0 w n D S l Rs VT VP T P) (hI : PI D l Rs T P) (hn : n ≤ 50000) (hT : TB T m) (hm : m ≤ 900000) (hP : P.length ≤ 100000)
    (hx : FilesInB w0 x.fA x.files) (hml : Ml w0) :
    Calls Tryz.prog 13 #[.pointer (some ⟨w0.heap.size + 4, 0, none⟩), opval x] w (PyOut w0 n m P.length) := by
  obtain ⟨i2, fi0, fz0, fz1, fz2⟩ := info_parts infoRoot
  obtain ⟨AP, cP, rfl, _, _, _⟩ := own_arr h.pw.row
  obtain ⟨kind, xn, text, fA, fC, files⟩ := x
  replace hx : FilesInB w0 fA files := hx
  unfold opval
  dsimp only
  have hb0 := Blk.new w 28 #[.int .i64 kind, .int .i64 xn, .string text, .slice fA files.length fC]
  have c3 := hb0.cell 3
  replace c3 : _ = some (Value.slice fA files.length fC) := c3
  have HP1 := Lib.hid (h.below (w' := w.alloc (.cells #[.int .i64 kind, .int .i64 xn, .string text, .slice fA files.length fC] 28)) ((Below.refl w.heap.size w).alloc (Nat.le_refl _) _))
  have HI := Lib.hid hI
  have HT := Lib.hid hT
  have HM := Lib.hid hml
  have HFW := Lib.hid (FilesInB.few (c := fC) hx HP1.out.lw.bl)
  have hok := few12_ok (l := files) (fun f hf => (hx.2.1 f hf).1)
  have hda := few12_data files
  have hln := few12_len files
  clear h hI hT hb0 hx hml
  generalize few12 files = fl at *
  have HOK := Lib.hid hok
  have HDA := Lib.hid hda
  clear hok hda
  by_cases hE : checkE fl = 0
  · have HE := Lib.hid hE
    clear hE
    go_enter Tryz.func13, Tryz.ntmps13
    go_wp2_with (first
      | (go_at_call 31; (with_reducible refine (HFW.out).mono ?_); rintro e w3 ⟨V3, rfl, ho3, hb3⟩; obtain ⟨AF, cF, rfl, _, haF, _⟩ := own_arr ho3; have HP3 := Lib.hid (HP1.out.below hb3); have HF3 := Lib.hid (FilA.new HP1.out ho3 hb3 haF); obtain ⟨k0, k1, k2, _, _, _⟩ := tcellsK HP3.out.lw.wb; clear haF ho3 hb3)
      | (go_at_call 20; (with_reducible refine (save_ok AF cF fl HP3.out.lw (by omega) (by omega) HOK.out HDA.out HF3.out.arr HF3.out.noS HM.out HE.out).mono ?_); rintro e w4 ⟨r, D4, S4, l4, rfl, hrf, hL4, hst4, hmo4, hc4⟩; have hpb := HP3.out.blob hL4 hst4; have HP4 := Lib.hid hpb.1; have HF4 := Lib.hid (HF3.out.step hpb.2); have HC4 := Lib.hid hc4; have HRF := Lib.hid hrf; have HMO := Lib.hid hmo4; have HRC := Lib.hid (check_ref AF cF fl _ (by omega) HOK.out HF4.out.arr); rw [HE.out] at HRC; clear hL4 hst4 hmo4 hc4 hrf hpb)
      | (go_at_call 32; (with_reducible refine (HRC.out).mono ?_); rintro e w5 ⟨rfl, hb5⟩; have HP5 := Lib.hid (HP4.out.below hb5); have HF5 := Lib.hid (HF4.out.below hb5))
      | fail)
    have hrl : r.acc.length = fl.length := by rw [← HRF.out]; exact (HP5.out.lw.rt r (by simp)).2.2.1
    have hrz : r.man.size ≤ 65536 := bytesS_small (by omega)
    have hpos : 0 < cntT l4 r.man := by
      rw [HC4.out]
      have h1 : 0 < occ r.man r.need := occ_pos (List.mem_append.2 (.inr (by simp)))
      have h2 := (cnt_nonneg HP1.out.lw.bs.ok r.man).1
      omega
    have HOF := Lib.hid (fun W => of_ref r.man W (by omega))
    have hmb : manOf r.man = (0, r.acc) := man_back (HP5.out.lw.rt r (by simp)).2.1
    rw [hmb] at HOF
    unfold ItemsOut at HOF
    dsimp only at HOF
    rw [hrl] at HOF
    have HMA := Lib.hid (fun (W : World) (VT' VP' : Value) (T' : List TxD) (P' : List PE) (hp : PL w0 W (n + 2 * fl.length + 1) D4 S4 l4 (Rs ++ [r]) VT' VP' T' P') => (by
      have h1 := mani_L r.man r.q hp.lw (by omega) (hp.lw.rt r (by simp)).1
      rw [if_pos hpos] at h1
      exact h1 : Calls Tryz.prog 22 #[.pointer (some ⟨w0.heap.size + 4, 0, none⟩), .string r.q] W fun e w' => e = .returned (.string r.man) ∧ Below W.heap.size W w'))
    have HIS := Lib.hid (fun (W : World) (VT' VP' : Value) (T' : List TxD) (P' : List PE) (hp : PL w0 W (n + 2 * fl.length + 1) D4 S4 l4 (Rs ++ [r]) VT' VP' T' P') => is_S r.man r.q W hp.lw.bs (by omega) (hp.lw.rt r (by simp)).1)
    have HRG := Lib.hid (HP5.out.lw.rt r (by simp))
    have HMZ := Lib.hid hrz
    clear hrl hrz hpos hmb
    generalize hman : r.man = man at *
    have HMAN := Lib.hid hman
    clear hman
    go_loopw [9] (fun vi wr => ∃ (i : Nat) (VTi : Value) (Ti : List TxD), i ≤ fl.length ∧ vi = .int .i64 i ∧ Hid (PL w0 wr (n + 2 * fl.length + 1) D4 S4 l4 (Rs ++ [r]) VTi (.slice AP P.length cP) Ti P) ∧ Hid (FilA w0 wr S4 VTi (.slice AP P.length cP) AF fl) ∧ Hid (Told T Ti m i fl)) (fun vi _ => fl.length - (intOf vi).toNat)
    case atStart => exact ⟨0, VT, T, Nat.zero_le _, rfl, HP5, HF5, Lib.hid ⟨HI.out.nod, HT.out.mono (by omega), fun t => by simp [datas, occ]⟩⟩
    case round =>
      obtain ⟨i, VTi, Ti, hi, rfl, HPi, HFi, HTi⟩ := hrel
      obtain ⟨k0, k1, k2, _, _, _⟩ := tcellsK HPi.out.lw.wb
      by_cases hlt : i < fl.length
      · have i1 : (i : Int) < fl.length := by omega
        obtain ⟨f, hf⟩ : ∃ f, fl[i]? = some f := ⟨_, List.getElem?_eq_getElem hlt⟩
        obtain ⟨bA, oA, rfl, hbA, _⟩ := HFi.out.arr.2 (by omega)
        have e2 := HFi.out.cell hf
        have HX := Lib.hid hf
        have HPd := Lib.hid HPi.out.drew
        have HFd := Lib.hid (HFi.out.below (Below.drew (Below.refl _ _)))
        have HAD := Lib.hid (padd_any f.data 1 HPd.out HTi.out.2.1 (by omega) (by decide) (by decide))
        clear hf
        go_upto_region 11 with fail
        go_region_held3 (fun w' => (w'.cell? ⟨w0.heap.size + 4, 2, none⟩ = some (.pointer (some ⟨w0.heap.size + 3, 0, none⟩))) ∧ w'.cell? ⟨bA, oA + i * 3 + 2, none⟩ = some (.string f.data)) (first | exact ⟨k2, e2⟩ | exact kkA)
          ((go_at_call 25; (with_reducible refine (HAD.out).mono ?_); rintro e wa ⟨VTa, rfl, hpa, hsa⟩; have HPa := Lib.hid hpa; have HFa := Lib.hid (HFd.out.step hsa); have kkA := And.intro (hpa.lw.wb.cell 2) (HFa.out.cell HX.out); clear hpa hsa))
        all_goals
          go_wp2_with fail
          go_roundw
          case rel => exact ⟨i + 1, VTa, _, by omega, by go_num, HPa, HFa, Lib.hid (HTi.out.next HX.out)⟩
          case measure => simp [intOf] <;> omega
      · have i1 : ¬ (i : Int) < fl.length := by omega
        obtain rfl : i = fl.length := by omega
        have HPd := Lib.hid HPi.out.drew
        have HFd := Lib.hid (HFi.out.below (Below.drew (Below.refl _ _)))
        have HM1 := Lib.hid (HMA.out _ _ _ _ _ HPd.out)
        clear hi hlt
        go_upto_region 12 with fail
        go_region_held3 (fun w' => (w'.cell? ⟨w0.heap.size + 4, 2, none⟩ = some (.pointer (some ⟨w0.heap.size + 3, 0, none⟩)))) (first | exact k2 | exact kkM | exact kkA)
          (first
          | (go_at_call 22; (with_reducible refine (HM1.out).mono ?_); rintro e wm ⟨rfl, hbm⟩; have HPm := Lib.hid (HPd.out.below hbm); have HFm := Lib.hid (HFd.out.below hbm); have kkM := HPm.out.lw.wb.cell 2; have HAD := Lib.hid (padd_any man 1 HPm.out HTi.out.2.1 (by omega) (by decide) (by decide)); clear hbm)
          | (go_at_call 25; (with_reducible refine (HAD.out).mono ?_); rintro e wa ⟨VTa, rfl, hpa, hsa⟩; have HPa := Lib.hid hpa; have HFa := Lib.hid (HFm.out.step hsa); have kkA := hpa.lw.wb.cell 2; clear hpa hsa)
          | (fail))
        go_upto_region 13 with fail
        have p1 : wa.cell? ⟨w0.heap.size + 3, 1, none⟩ = some (.slice AP P.length cP) := HPa.out.pw.pb.cell 1
        have k2 := HPa.out.lw.wb.cell 2
        have HPe := Lib.hid HPa.out.drew
        have HFe := Lib.hid (HFa.out.below (Below.drew (Below.refl _ _)))
        have hbe := HPe.out.lw.big
        refine wp_region_tail (S := fun w' => (w'.cell? ⟨w0.heap.size + 4, 2, none⟩ = some (.pointer (some ⟨w0.heap.size + 3, 0, none⟩))) ∧ w'.cell? ⟨w0.heap.size + 3, 1, none⟩ = some (.slice AP P.length cP)) 16 (by kernel_rfl) (by kernel_rfl) ⟨k2, p1⟩ (fun hHeld => ?_)
        simp only [List.take_succ_cons, List.take_zero, List.drop_succ_cons, List.drop_zero]
        (refine wpAnyH_take (i := 0) (v := ?_) rfl (by kernel_rfl) (by kernel_rfl) (by kernel_rfl) (fun _ _ _ h => h) (Or.inl ⟨by rfl, ?_⟩) (by assumption) ?_; rotate_left 1; focus (intro w hSw; (try dsimp only at hSw); go_simp; (try with_reducible rfl)); (try simp only [List.getElem_toArray, List.getElem_cons_succ, List.getElem_cons_zero, Act.put, List.setIfInBounds_toArray, List.set_cons_zero, List.set_cons_succ]))
        (refine wpAnyH_take (i := 1) (v := ?_) rfl (by kernel_rfl) (by kernel_rfl) (by kernel_rfl) (fun _ _ _ h => h) (Or.inl ⟨by rfl, ?_⟩) (by assumption) ?_; rotate_left 1; focus (intro w hSw; (try dsimp only at hSw); go_simp; (try with_reducible rfl)); (try simp only [List.getElem_toArray, List.getElem_cons_succ, List.getElem_cons_zero, Act.put, List.setIfInBounds_toArray, List.set_cons_zero, List.set_cons_succ]))
        (refine wpAnyH_take (i := 2) (v := ?_) rfl (by kernel_rfl) (by kernel_rfl) (by kernel_rfl) (fun _ _ _ h => h) (Or.inl ⟨by rfl, ?_⟩) (by assumption) ?_; rotate_left 1; focus (intro w hSw; (try dsimp only at hSw); go_simp; (try with_reducible rfl)); (try simp only [List.getElem_toArray, List.getElem_cons_succ, List.getElem_cons_zero, Act.put, List.setIfInBounds_toArray, List.set_cons_zero, List.set_cons_succ]))
        (refine wpAnyH_take (i := 3) (v := ?_) rfl (by kernel_rfl) (by kernel_rfl) (by kernel_rfl) (fun _ _ _ h => h) (Or.inl ⟨by rfl, ?_⟩) (by assumption) ?_; rotate_left 1; focus (intro w hSw; (try dsimp only at hSw); go_simp; (try with_reducible rfl)); (try simp only [List.getElem_toArray, List.getElem_cons_succ, List.getElem_cons_zero, Act.put, List.setIfInBounds_toArray, List.set_cons_zero, List.set_cons_succ]))
        (refine wpAnyH_take (i := 4) (v := ?_) rfl (by kernel_rfl) (by kernel_rfl) (by kernel_rfl) (fun _ _ _ h => h) (Or.inl ⟨by rfl, ?_⟩) (by assumption) ?_; rotate_left 1; focus (intro w hSw; (try dsimp only at hSw); go_simp; (try with_reducible rfl)); (try simp only [List.getElem_toArray, List.getElem_cons_succ, List.getElem_cons_zero, Act.put, List.setIfInBounds_toArray, List.set_cons_zero, List.set_cons_succ]))
        (refine wpAnyH_take (i := 5) (v := ?_) rfl (by kernel_rfl) (by kernel_rfl) (by kernel_rfl) (fun _ _ _ h => h) (Or.inl ⟨by rfl, ?_⟩) (by assumption) ?_; rotate_left 1; focus (intro w hSw; (try dsimp only at hSw); go_simp; (try with_reducible rfl)); (try simp only [List.getElem_toArray, List.getElem_cons_succ, List.getElem_cons_zero, Act.put, List.setIfInBounds_toArray, List.set_cons_zero, List.set_cons_succ]))
        (refine wpAnyH_take (i := 6) (v := ?_) rfl (by kernel_rfl) (by kernel_rfl) (by kernel_rfl) (fun _ _ _ h => h) (Or.inl ⟨by rfl, ?_⟩) (by assumption) ?_; rotate_left 1; focus (intro w hSw; (try dsimp only at hSw); go_simp; (try with_reducible rfl)); (try simp only [List.getElem_toArray, List.getElem_cons_succ, List.getElem_cons_zero, Act.put, List.setIfInBounds_toArray, List.set_cons_zero, List.set_cons_succ]))
        (refine wpAnyH_take (i := 7) (v := ?_) rfl (by kernel_rfl) (by kernel_rfl) (by kernel_rfl) (fun _ _ _ h => h) (Or.inl ⟨by rfl, ?_⟩) (by assumption) ?_; rotate_left 1; focus (intro w hSw; (try dsimp only at hSw); go_simp; (try with_reducible rfl)); (try simp only [List.getElem_toArray, List.getElem_cons_succ, List.getElem_cons_zero, Act.put, List.setIfInBounds_toArray, List.set_cons_zero, List.set_cons_succ]))
        (refine wpAnyH_take (i := 8) (v := ?_) rfl (by kernel_rfl) (by kernel_rfl) (by kernel_rfl) (fun _ _ _ h => h) (Or.inl ⟨by rfl, ?_⟩) (by assumption) ?_; rotate_left 1; focus (intro w hSw; (try dsimp only at hSw); go_simp; (try with_reducible rfl)); (try simp only [List.getElem_toArray, List.getElem_cons_succ, List.getElem_cons_zero, Act.put, List.setIfInBounds_toArray, List.set_cons_zero, List.set_cons_succ]))
        (refine wpAnyH_take (i := 9) (v := ?_) rfl (by kernel_rfl) (by kernel_rfl) (by kernel_rfl) (fun _ _ _ h => h) (Or.inl ⟨by rfl, ?_⟩) (by assumption) ?_; rotate_left 1; focus (intro w hSw; (try dsimp only at hSw); go_simp; (try with_reducible rfl)); (try simp only [List.getElem_toArray, List.getElem_cons_succ, List.getElem_cons_zero, Act.put, List.setIfInBounds_toArray, List.set_cons_zero, List.set_cons_succ]))
        (refine wpAnyH_take (i := 10) (v := ?_) rfl (by kernel_rfl) (by kernel_rfl) (by kernel_rfl) (fun _ _ _ h => h) (Or.inl ⟨by rfl, ?_⟩) (by assumption) ?_; rotate_left 1; focus (intro w hSw; (try dsimp only at hSw); go_simp; (try with_reducible rfl)); (try simp only [List.getElem_toArray, List.getElem_cons_succ, List.getElem_cons_zero, Act.put, List.setIfInBounds_toArray, List.set_cons_zero, List.set_cons_succ]))
        (refine wpAnyH_take (i := 11) (v := ?_) rfl (by kernel_rfl) (by kernel_rfl) (by kernel_rfl) (fun _ _ _ h => h) (Or.inl ⟨by rfl, ?_⟩) (by assumption) ?_; rotate_left 1; focus (intro w hSw; (try dsimp only at hSw); go_simp; (try with_reducible rfl)); (try simp only [List.getElem_toArray, List.getElem_cons_succ, List.getElem_cons_zero, Act.put, List.setIfInBounds_toArray, List.set_cons_zero, List.set_cons_succ]))
        (refine wpAnyH_take (i := 12) (v := ?_) rfl (by kernel_rfl) (by kernel_rfl) (by kernel_rfl) (fun _ _ _ h => h) (Or.inl ⟨by rfl, ?_⟩) (by assumption) ?_; rotate_left 1; focus (intro w hSw; (try dsimp only at hSw); go_simp; (try with_reducible rfl)); (try simp only [List.getElem_toArray, List.getElem_cons_succ, List.getElem_cons_zero, Act.put, List.setIfInBounds_toArray, List.set_cons_zero, List.set_cons_succ]))
        (refine wpAnyH_take (i := 13) (v := ?_) rfl (by kernel_rfl) (by kernel_rfl) (by kernel_rfl) (fun _ _ _ h => h) (Or.inl ⟨by rfl, ?_⟩) (by assumption) ?_; rotate_left 1; focus (intro w hSw; (try dsimp only at hSw); go_simp; (try with_reducible rfl)); (try simp only [List.getElem_toArray, List.getElem_cons_succ, List.getElem_cons_zero, Act.put, List.setIfInBounds_toArray, List.set_cons_zero, List.set_cons_succ]))
        (refine wpAnyH_ready (rs := [14]) (by kernel_rfl) (by simp) (AllReadyH.cons rfl (fun K hK => ?_) AllReadyH.nil); (try simp (config := { proj := false }) only [List.getElem_toArray, List.getElem_cons_succ, List.getElem_cons_zero]))
        go_simp
        (refine hK.out _ _ ?_ (fun hHeld => ?_); rotate_left; clear hK K; (try simp only [Act.put, List.setIfInBounds_toArray, List.set_cons_zero, List.set_cons_succ]); rotate_right)
        · exact ⟨(HPe.out.lw.wb.alloc _).cell 2, (HPe.out.pw.pb.alloc _).cell 1⟩
        (refine wpAnyH_ready (rs := [15]) (by kernel_rfl) (by simp) (AllReadyH.cons rfl (fun K hK => ?_) AllReadyH.nil); (try simp (config := { proj := false }) only [List.getElem_toArray, List.getElem_cons_succ, List.getElem_cons_zero]))
        (refine step_append_lies _ (by rfl) (.tmp 71) (.tmp 75) 39 (by rfl) w0.heap.size 45 i2 _ 3 48 Tryz.underlying39 fi0 fz0 fz1 fz2 root_zero (by decide) (.slice AP P.length cP) P.length (pcells P) (by rfl) (HPe.out.pw.row.alloc _) ⟨wa.drew.heap.size, 0, none⟩ 1 1 (pcell ⟨AF, cF, fl, r.q, true⟩) (by rfl) (by rfl) (World.news_of_block (t := 45) (fr := (0, 0)) (cs := #[.slice AF fl.length cF, .string r.q, .bool true]) (Blk.new wa.drew _ _)) (root_one _) (by decide) (by unfold maxLen; omega) (by omega) (Nat.le_trans (show w0.heap.size ≤ wa.drew.heap.size by omega) ((Below.refl wa.drew.heap.size wa.drew).alloc (Nat.le_refl _) _).size) _ rfl ?_; intro g6 cap6 w6 hown6 hgr6 hat6 hlt6; have HWR := Lib.hid (HPe.out.pushed hgr6); obtain ⟨p1, z1, k2⟩ := HWR.out.2; have hat7 : (Value.slice AP P.length cP).ownBlock = some g6 ∨ wa.drew.heap.size ≤ g6 := hat6.imp id (fun e => by rw [e]; exact ((Below.refl wa.drew.heap.size wa.drew).alloc (Nat.le_refl _) _).size); have HST := Lib.hid (HPe.out.rpush ⟨AF, cF, fl, r.q, true⟩ hown6 HWR.out.1 hat7 HFe.out.arr HFe.out.off); clear hown6 hgr6 hat6 hat7 hlt6)
        (refine hK.out _ _ ?_ (fun hHeld => ?_); rotate_left; clear hK K; (try simp only [Act.put, List.setIfInBounds_toArray, List.set_cons_zero, List.set_cons_succ]); rotate_right)
        · exact ⟨k2, p1⟩
        refine wpAnyH_done (by kernel_rfl) ?_ _
        change wpList _ _ _ _ _ _
        have HP7 := Lib.hid HST.out.1
        have HM2 := Lib.hid (HMA.out _ _ _ _ _ HP7.out)
        go_upto_region 15 with (first
          | (go_at_call 22; (with_reducible refine (HM2.out).mono ?_); rintro e wm2 ⟨rfl, hbm2⟩; have HP8 := Lib.hid (HP7.out.below hbm2))
          | (go_at_call 33; (with_reducible refine (HOF.out _).mono ?_); rintro e w8 ⟨A8, c8, rfl, _, _, _, hb8⟩; have HP9 := Lib.hid (HP8.out.below hb8); have k1 := HP9.out.lw.wb.cell 1; have HP9d := Lib.hid HP9.out.drew; have HM3 := Lib.hid (HMA.out _ _ _ _ _ HP9d.out))
          | fail)
        go_region_held3 (fun w' => (w'.cell? ⟨w0.heap.size + 4, 1, none⟩ = some (.pointer (some ⟨w0.heap.size + 1, 0, none⟩)))) (first | exact k1 | exact kkM3 | exact kkI)
          (first
          | (go_at_call 22; (with_reducible refine (HM3.out).mono ?_); rintro e wm3 ⟨rfl, hbm3⟩; have HP10 := Lib.hid (HP9d.out.below hbm3); have kkM3 := HP10.out.lw.wb.cell 1; have HI3 := Lib.hid (HIS.out _ _ _ _ _ HP10.out))
          | (go_at_call 26; (with_reducible refine (HI3.out).mono ?_); rintro e wi ⟨rfl, hbi⟩; have HP11 := Lib.hid (HP10.out.below hbi); have kkI := HP11.out.lw.wb.cell 1)
          | (fail))
        all_goals
          go_wp2_with fail
          go_ret
          refine ⟨_, D4, S4, l4, Rs ++ [r], VTa, _, _, P ++ [⟨AF, cF, fl, r.q, true⟩], rfl, HP11.out, HI.out.saved ⟨AF, cF, fl, r.q, true⟩ HMO.out HRG.out rfl HRF.out.symm rfl hln (add_nodup HTi.out.1 _ _) (fun t => ?_) HC4.out, (HTi.out.2.1.add (by decide) (by decide)).mono (by omega), by omega, by simp⟩
          rw [refs_add, HTi.out.2.2, List.take_length]
          unfold RtD.need
          rw [occ_app, occ_one, HMAN.out, HRF.out]
          split <;> omega
  · have q1 : (checkE fl == 0) = false := by rw [beq_eq_false_iff_ne]; exact hE
    have q2 : ¬ checkE fl = 0 := hE
    have HSX := Lib.hid (fun (W : World) (hL : LW w0 W n D S l Rs) (AF : Option Addr) (cF : Nat) (ha : Arr W W.heap.size 3 AF fl.length (fcells fl)) (hA : ∀ g o, AF = some ⟨g, o, none⟩ → ¬ S g) => save_bad AF cF fl hL (by omega) (by omega) HOK.out HDA.out ha hA HM.out hE)
    have HRC := Lib.hid (fun (W : World) (AF : Option Addr) (cF : Nat) (ha : Arr W W.heap.size 3 AF fl.length (fcells fl)) => check_ref AF cF fl W (by omega) HOK.out ha)
    generalize checkE fl = E at *
    clear hE
    go_enter Tryz.func13, Tryz.ntmps13
    go_wp2_with (first
      | (go_at_call 31; (with_reducible refine (HFW.out).mono ?_); rintro e w3 ⟨V3, rfl, ho3, hb3⟩; obtain ⟨AF, cF, rfl, _, haF, _⟩ := own_arr ho3; have HP3 := Lib.hid (HP1.out.below hb3); have HF3 := Lib.hid (FilA.new HP1.out ho3 hb3 haF); obtain ⟨k0, k1, k2, _, _, _⟩ := tcellsK HP3.out.lw.wb; clear haF ho3 hb3)
      | (go_at_call 20; (with_reducible refine (HSX.out _ HP3.out.lw AF cF HF3.out.arr HF3.out.noS).mono ?_); rintro e w4 ⟨rfl, hb4⟩; have HP4 := Lib.hid (HP3.out.below hb4); have HF4 := Lib.hid (HF3.out.below hb4))
      | (go_at_call 32; (with_reducible refine (HRC.out _ AF cF HF4.out.arr).mono ?_); rintro e w5 ⟨rfl, hb5⟩)
      | fail)
    go_ret
    exact ⟨n, D, S, l, Rs, VT, _, T, P, rfl, HP4.out.below hb5, HI.out, HT.out.mono (by omega), by omega, by omega⟩
end Go.Proofs.YtmcgaaihdjpdgaaGreatDoor
/- Chapter 11: BlobPlays: Forget and Load of a root. -/
namespace Go.Proofs.YtmcgaaihdjpdgaaGreatDoor
open Go.RowKit
set_option linter.unusedVariables false

theorem live_perm {P : List PE} {j : Nat} {z : PE} (h : P[j]? = some z) (hz : z.is = true) : (live P).Perm (z :: live (P.set j { z with is := false })) := by
  have h1 : P = P.take j ++ z :: P.drop (j + 1) := by rw [← drop_head h, List.take_append_drop]
  have hl : j < P.length := (List.getElem?_eq_some_iff.1 h).1
  have h2 : P.set j { z with is := false } = P.take j ++ { z with is := false } :: P.drop (j + 1) := by rw [List.set_eq_take_append_cons_drop, if_pos hl]
  rw [h2]
  conv => lhs; rw [h1]
  unfold live
  rw [List.filter_append, List.filter_append, List.filter_cons, List.filter_cons]
  simp only [hz, if_true, Bool.false_eq_true, if_false]
  exact List.perm_middle
theorem mem_live {P : List PE} {z : PE} (h : z ∈ P) (hz : z.is = true) : z.q ∈ (live P).map (·.q) := List.mem_map.2 ⟨z, List.mem_filter.2 ⟨h, hz⟩, rfl⟩
theorem live_mem {P : List PE} {q : ByteArray} (h : q ∈ (live P).map (·.q)) : ∃ z ∈ P, z.is = true ∧ z.q = q := by
  obtain ⟨z, hz, rfl⟩ := List.mem_map.1 h
  obtain ⟨a, b⟩ := List.mem_filter.1 hz
  exact ⟨z, a, b, rfl⟩
/-- The plain model behind a Forget. -/
theorem PI.forgot {D : DataW Unit} {l l' : List KpD} {Rs : List RtD} {T T' : List TxD} {P : List PE} {j i : Nat} {z : PE} {r : RtD} (h : PI D l Rs T P) (hz : P[j]? = some z) (hzi : z.is = true) (hzq : z.q = r.q) (hr : Rs[i]? = some r)
    (hn : (T'.map (·.1)).Nodup) (hT : ∀ t, refsT T' t = refsT T t - occ t r.need) (hc : ∀ t, cntT l' t = cntT l t - occ t r.need) : PI D l' (Rs.eraseIdx i) T' (P.set j { z with is := false }) := by
  have hmem : ∀ y ∈ P.set j { z with is := false }, ∃ y' ∈ P, y.q = y'.q ∧ y.fl = y'.fl := by
    intro y hy
    rcases List.mem_or_eq_of_mem_set hy with hy | rfl
    · exact ⟨y, hy, rfl, rfl⟩
    · exact ⟨z, List.mem_of_getElem? hz, rfl, rfl⟩
  refine ⟨hn, fun s => by rw [hT, hc, h.cnt], ?_, fun y hy => ?_, fun t => ?_, fun y hy => ?_⟩
  · have h1 := (live_perm hz hzi).map (·.q)
    have h2 := (erase_perm hr).map (·.q)
    rw [List.map_cons] at h1
    rw [List.map_cons] at h2
    rw [← hzq] at h2
    have h3 := h1.symm.trans (h.perm.trans h2)
    exact h3.cons_inv
  · obtain ⟨y', hy', e1, e2⟩ := hmem y hy
    rw [e1, e2]
    exact h.rt y' hy'
  · rw [hc]
    have h1 := h.need t
    rw [needT_perm (erase_perm hr), needT] at h1
    omega
  · obtain ⟨y', hy', e1, e2⟩ := hmem y hy
    rw [e2]
    exact h.len y' hy'
/-- A box of the call's own. -/
structure BoxA (w0 w : World) (S : Nat → Prop) (VT VP : Value) (g : Nat) (t : TypeId) (cs : Array Value) : Prop where
  blk : Blk w g t cs
  off : ¬ US w0.heap.size S VT VP g
theorem BoxA.step {w0 w w' : World} {S S' : Nat → Prop} {VT VP VT' VP' : Value} {g : Nat} {t : TypeId} {cs : Array Value} (h : BoxA w0 w S VT VP g t cs) (hs : Stp (US w0.heap.size S VT VP) (US w0.heap.size S' VT' VP') w w') : BoxA w0 w' S' VT' VP' g t cs :=
  ⟨hs.1.blk h.blk h.off, fun hk => by
    rcases hs.2 g hk with h1 | h1
    · exact h.off h1
    · have := h.blk.lt; omega⟩
theorem BoxA.below {w0 w w' : World} {S : Nat → Prop} {VT VP : Value} {g : Nat} {t : TypeId} {cs : Array Value} (h : BoxA w0 w S VT VP g t cs) (hb : Below w.heap.size w w') : BoxA w0 w' S VT VP g t cs := h.step (Stp.below hb)
theorem PL.fil {w0 w : World} {n : Nat} {D : DataW Unit} {S : Nat → Prop} {l : List KpD} {Rs : List RtD} {VT VP : Value} {T : List TxD} {P : List PE} (h : PL w0 w n D S l Rs VT VP T P) {y : PE} (hy : y ∈ P) : FilA w0 w S VT VP y.A y.fl :=
  ⟨(h.pw.fs y hy).1, fun g o e => by
    obtain ⟨a, b, c, d⟩ := (h.pw.fs y hy).2 g o e
    refine ⟨?_, b, c⟩
    rintro (hk | hk | hk | hk)
    · exact a hk
    · omega
    · exact h.fap y hy g o e hk
    · exact d hk⟩
theorem PL.box {w0 w : World} {n : Nat} {D : DataW Unit} {S : Nat → Prop} {l : List KpD} {Rs : List RtD} {VT VP : Value} {T : List TxD} {P : List PE} (h : PL w0 w n D S l Rs VT VP T P) (t : TypeId) (cs : Array Value) : BoxA w0 (w.alloc (.cells cs t)) S VT VP w.heap.size t cs :=
  ⟨Blk.new w t cs, fun hk => by have := (h.lt hk).2.2; omega⟩
theorem PL.drewN {w0 w : World} {n : Nat} {D : DataW Unit} {S : Nat → Prop} {l : List KpD} {Rs : List RtD} {VT VP : Value} {T : List TxD} {P : List PE} (h : PL w0 w n D S l Rs VT VP T P) (k : Nat) : PL w0 (w.drewN k) n D S l Rs VT VP T P := h.below (below_drewN (Below.refl _ _) k)
theorem pcs_at {P : List PE} {i : Nat} {y : PE} (h : P[i]? = some y) : (pcells P)[i * 3]? = some (.slice y.A y.fl.length y.c) ∧ (pcells P)[i * 3 + 1]? = some (.string y.q) ∧ (pcells P)[i * 3 + 2]? = some (.bool y.is) := by
  have f : ∀ j u, j < 3 → (pcell y)[j]? = some u → (pcells P)[i * 3 + j]? = some u := fun j u hj hu => by
    rw [show (pcells P)[i * 3 + j]? = (pcell y)[j]? from flat_at (c := 3) _ i j (pcell y) (by intro r hr; obtain ⟨f, _, rfl⟩ := List.mem_map.1 hr; rfl) (by rw [List.getElem?_map, h]; rfl) hj, hu]
  exact ⟨f 0 _ (by omega) rfl, f 1 _ (by omega) rfl, f 2 _ (by omega) rfl⟩
/-- The plain model while files are untold. -/
def ToldM (T Ti : List TxD) (m i : Nat) (fl : List FileD) : Prop := (Ti.map (·.1)).Nodup ∧ TB Ti (m + i) ∧ ∀ t, refsT Ti t = refsT T t - occ t (datas (fl.take i))
theorem ToldM.next {T Ti : List TxD} {m i : Nat} {fl : List FileD} {f : FileD} (h : ToldM T Ti m i fl) (hf : fl[i]? = some f) : ToldM T (addT Ti f.data (-1)) m (i + 1) fl := by
  refine ⟨add_nodup h.1 _ _, h.2.1.add (by decide) (by decide), fun t => ?_⟩
  rw [refs_add, h.2.2, datas_take hf, occ_app, occ_one]
  split <;> omega
/-- How far the search for a root has come. -/
def Sought (P P' : List PE) (q : ByteArray) (i : Nat) (b : Bool) : Prop := P'.length = P.length ∧ ((b = false ∧ P' = P ∧ ∀ z ∈ P.take i, z.is = true → z.q ≠ q) ∨ (b = true ∧ ∃ j z, P[j]? = some z ∧ z.is = true ∧ z.q = q ∧ P' = P.set j { z with is := false }))
theorem sought_next {P : List PE} {q : ByteArray} {i : Nat} {z : PE} (h : P[i]? = some z) (hz : z.is = true → z.q ≠ q) (hn : ∀ z ∈ P.take i, z.is = true → z.q ≠ q) : ∀ z ∈ P.take (i + 1), z.is = true → z.q ≠ q := by
  intro x hx
  rw [take_snoc h] at hx
  rcases List.mem_append.1 hx with hx | hx
  · exact hn x hx
  · rw [List.mem_singleton.1 hx]; exact hz
/-- What Forget does. -/
def FgOut (w0 w : World) (n : Nat) (D : DataW Unit) (S : Nat → Prop) (l : List KpD) (Rs : List RtD) (r : RtD) (E : Int) (e : Ending) (w' : World) : Prop :=
  ∃ l' Rs', e = .returned (.int .i64 E) ∧ LW w0 w' n D S l' Rs' ∧ Stp S S w w' ∧ ((E = 8 ∧ l' = l ∧ Rs' = Rs) ∨ (E = 0 ∧ (∃ i, Rs[i]? = some r ∧ Rs' = Rs.eraseIdx i) ∧ ∀ t, cntT l' t = cntT l t - occ t r.need))
theorem forget_yes {w0 w : World} {n : Nat} {D : DataW Unit} {S : Nat → Prop} {l : List KpD} {Rs : List RtD} {r : RtD} (h : LW w0 w n D S l Rs) (hn : n ≤ 65000) (hg : RtGood D r) (hr : r.q ∈ Rs.map (·.q)) (hne : ∀ t, (needT t Rs : Int) ≤ cntT l t) (hm : Ml w0) :
    Calls Tryz.prog 36 #[.pointer (some ⟨w0.heap.size + 2, 0, none⟩), .string r.q] w (FgOut w0 w n D S l Rs r 0) := by
  obtain ⟨r2, hr2, he⟩ := List.mem_map.1 hr
  obtain rfl := rt_uniq h.bs.good (h.rt r2 hr2) hg he
  refine (forget_L r2 h hn hr2 (fun t => Int.le_trans (by have := needT_mem (t := t) hr2; omega) (hne t)) hm).mono ?_
  rintro e w' ⟨l', i, rfl, h1, h2, h3, h4⟩
  exact ⟨l', _, rfl, h2, h3, .inr ⟨rfl, ⟨i, h1, rfl⟩, h4⟩⟩
theorem forget_not {w0 w : World} {n : Nat} {D : DataW Unit} {S : Nat → Prop} {l : List KpD} {Rs : List RtD} {r : RtD} (h : LW w0 w n D S l Rs) (hn : n ≤ 65000) (hr : r.q ∉ Rs.map (·.q)) :
    Calls Tryz.prog 36 #[.pointer (some ⟨w0.heap.size + 2, 0, none⟩), .string r.q] w (FgOut w0 w n D S l Rs r 8) := by
  refine (forget_no r.q w h.bs hn hr).mono ?_
  rintro e w' ⟨rfl, hb⟩
  exact ⟨l, Rs, rfl, h.below hb, Stp.below hb, .inl ⟨rfl, rfl, rfl⟩⟩
/-- What a Forget answers: by whether the root is there. -/
theorem forget_both {w0 : World} {n : Nat} {D : DataW Unit} {S : Nat → Prop} {l : List KpD} {Rs : List RtD} {r : RtD} (hn : n ≤ 65000) (hg : RtGood D r) (hne : ∀ t, (needT t Rs : Int) ≤ cntT l t) (hm : Ml w0) :
    ∃ E : Int, (r.q ∈ Rs.map (·.q) ↔ E = 0) ∧ (E = 0 ∨ E = 8) ∧ ∀ W, LW w0 W n D S l Rs → Calls Tryz.prog 36 #[.pointer (some ⟨w0.heap.size + 2, 0, none⟩), .string r.q] W (FgOut w0 W n D S l Rs r E) := by
  by_cases hr : r.q ∈ Rs.map (·.q)
  · exact ⟨0, ⟨fun _ => rfl, fun _ => hr⟩, .inl rfl, fun W h => forget_yes h hn hg hr hne hm⟩
  · exact ⟨8, ⟨fun h => absurd h hr, fun h => by cases h⟩, .inr rfl, fun W h => forget_not h hn hr⟩
set_option maxHeartbeats 8000000 in
set_option maxRecDepth 100000 in
theorem psaved_any {w0 w : World} {n m : Nat} {D : DataW Unit} {S : Nat → Prop} {l : List KpD} {Rs : List RtD} {VT VP : Value} {T : List TxD} {P : List PE} (x : InOp) (h : PL w0 w n D S l Rs VT VP T P) (hI : PI D l Rs T P) (hn : n ≤ 50000) (hT : TB T m) (hm : m ≤ 900000) (hP : P.length ≤ 100000)
    (hx : Fit64B x.n) (hml : Ml w0) :
    Calls Tryz.prog 14 #[.pointer (some ⟨w0.heap.size + 4, 0, none⟩), opval x] w (PyOut w0 n m P.length) := by
  obtain ⟨AP, cP, rfl, _, haP, _⟩ := own_arr h.pw.row
  obtain ⟨kind, xn, text, fA, fC, files⟩ := x
  replace hx : Fit64B xn := hx
  unfold opval
  dsimp only
  have hb0 := Blk.new w 28 #[.int .i64 kind, .int .i64 xn, .string text, .slice fA files.length fC]
  have c0 := hb0.cell 0
  have c1 := hb0.cell 1
  replace c0 : _ = some (Value.int .i64 kind) := c0
  replace c1 : _ = some (Value.int .i64 xn) := c1
  have hBelow := (Below.refl w.heap.size w).alloc (Nat.le_refl _) (.cells #[.int .i64 kind, .int .i64 xn, .string text, .slice fA files.length fC] 28)
  have HP1 := Lib.hid (h.below hBelow)
  have HI := Lib.hid hI
  have HT := Lib.hid hT
  have HM := Lib.hid hml
  obtain ⟨k0, k1, k2, _, _, _⟩ := tcellsK HP1.out.lw.wb
  have p1 : (w.alloc (.cells #[.int .i64 kind, .int .i64 xn, .string text, .slice fA files.length fC] 28)).cell? ⟨w0.heap.size + 3, 1, none⟩ = some (.slice AP P.length cP) := HP1.out.pw.pb.cell 1
  have HAP := Lib.hid ((haP.below hBelow).more hBelow.size)
  clear h hI hT hb0 hml haP hBelow
  by_cases hN : xn < 0
  · go_enter Tryz.func14, Tryz.ntmps14
    go_upto_region 1 with fail
    go_quiet (fail)
    go_wp2
    go_ret
    exact ⟨n, D, S, l, Rs, VT, _, T, P, rfl, HP1.out.drewN _, HI.out, HT.out.mono (by omega), by omega, by omega⟩
  · by_cases hN2 : (P.length : Int) ≤ xn
    · go_enter Tryz.func14, Tryz.ntmps14
      go_upto_region 1 with fail
      go_quiet (fail)
      go_wp2
      go_ret
      exact ⟨n, D, S, l, Rs, VT, _, T, P, rfl, HP1.out.drewN _, HI.out, HT.out.mono (by omega), by omega, by omega⟩
    · obtain ⟨N, rfl⟩ : ∃ N : Nat, xn = (N : Int) := ⟨xn.toNat, by omega⟩
      have hNl : N < P.length := by omega
      have i0 : ¬ ((N : Int) < 0) := by omega
      have i1 : (N : Int) < P.length := by omega
      have i2 : ¬ ((P.length : Int) ≤ N) := by omega
      obtain ⟨y, hy⟩ : ∃ y, P[N]? = some y := ⟨_, List.getElem?_eq_getElem hNl⟩
      obtain ⟨bP, oP, rfl, hbP, hcell⟩ := HAP.out.2 (by omega)
      obtain ⟨e0, e1, e2⟩ := pe_cells hcell hy
      have hym := List.mem_of_getElem? hy
      obtain ⟨ry, hry, hrq, hrf⟩ := HI.out.rt y hym
      have hlen := HI.out.len y hym
      have HFY := Lib.hid (HP1.out.fil hym)
      have HRY := Lib.hid hry
      clear hcell hy
      obtain ⟨yA, yc, fl, yq, yis⟩ := y
      replace hrq : ry.q = yq := hrq
      replace hrf : ry.fl = fl := hrf
      replace hlen : fl.length ≤ 12 := hlen
      subst hrq
      subst hrf
      generalize HW0 : w.alloc (.cells #[.int .i64 kind, .int .i64 (N : Int), .string text, .slice fA files.length fC] 28) = W1 at *
      replace e0 : W1.cell? ⟨bP, oP + N * 3, none⟩ = some (.slice yA ry.fl.length yc) := e0
      replace e1 : W1.cell? ⟨bP, oP + N * 3 + 1, none⟩ = some (.string ry.q) := e1
      replace e2 : W1.cell? ⟨bP, oP + N * 3 + 2, none⟩ = some (.bool yis) := e2
      replace HFY : Hid (FilA w0 W1 S VT (.slice (some ⟨bP, oP, none⟩) P.length cP) yA ry.fl) := HFY
      have HWH := Lib.hid HW0
      clear HW0
      go_enter Tryz.func14, Tryz.ntmps14
      go_upto_region 1 with fail
      rw [HWH.out]
      go_quiet (fail)
      go_upto_region 3 with fail
      obtain ⟨W2, hW2⟩ : ∃ W2, W2 = W1.drewN nq := ⟨_, rfl⟩
      rw [← hW2]
      have HP2 : Hid (PL w0 W2 n D S l Rs VT (.slice (some ⟨bP, oP, none⟩) P.length cP) T P) := Lib.hid (by rw [hW2]; exact HP1.out.drewN nq)
      have HF2 : Hid (FilA w0 W2 S VT (.slice (some ⟨bP, oP, none⟩) P.length cP) yA ry.fl) := Lib.hid (by rw [hW2]; exact HFY.out.below (below_drewN (Below.refl _ _) nq))
      replace c0 : W2.cell? ⟨w.heap.size, 0, none⟩ = some (.int .i64 kind) := by rw [hW2]; exact c0
      replace c1 : W2.cell? ⟨w.heap.size, 1, none⟩ = some (.int .i64 (N : Int)) := by rw [hW2]; exact c1
      replace k2 : W2.cell? ⟨w0.heap.size + 4, 2, none⟩ = some (.pointer (some ⟨w0.heap.size + 3, 0, none⟩)) := by rw [hW2]; exact k2
      replace p1 : W2.cell? ⟨w0.heap.size + 3, 1, none⟩ = some (.slice (some ⟨bP, oP, none⟩) P.length cP) := by rw [hW2]; exact p1
      replace e0 : W2.cell? ⟨bP, oP + N * 3, none⟩ = some (.slice yA ry.fl.length yc) := by rw [hW2]; exact e0
      replace e1 : W2.cell? ⟨bP, oP + N * 3 + 1, none⟩ = some (.string ry.q) := by rw [hW2]; exact e1
      replace e2 : W2.cell? ⟨bP, oP + N * 3 + 2, none⟩ = some (.bool yis) := by rw [hW2]; exact e2
      clear hW2 k0 k1 hbP HAP HWH HFY
      go_cut [5] from 14 to 160 (fun v5 wx => ∃ g, v5 = .pointer (some ⟨g, 0, none⟩) ∧ Hid (PL w0 wx n D S l Rs VT (.slice (some ⟨bP, oP, none⟩) P.length cP) T P) ∧ Hid (BoxA w0 wx S VT (.slice (some ⟨bP, oP, none⟩) P.length cP) g 45 #[.slice yA ry.fl.length yc, .string ry.q, .bool yis]) ∧ Hid (FilA w0 wx S VT (.slice (some ⟨bP, oP, none⟩) P.length cP) yA ry.fl) ∧ wx.cell? ⟨w.heap.size, 0, none⟩ = some (.int .i64 kind))
      case first =>
        have m1 := World.new_ne _ _ c1
        have m2 := World.new_ne _ _ k2
        have m3 := World.new_ne _ _ p1
        have m4 := World.new_ne _ _ e0
        go_region_held3 (fun w' => w'.cell? ⟨w.heap.size, 1, none⟩ = some (.int .i64 (N : Int)) ∧ (w'.cell? ⟨w0.heap.size + 4, 2, none⟩ = some (.pointer (some ⟨w0.heap.size + 3, 0, none⟩))) ∧ w'.cell? ⟨w0.heap.size + 3, 1, none⟩ = some (.slice (some ⟨bP, oP, none⟩) P.length cP) ∧ w'.cell? ⟨bP, oP + N * 3, none⟩ = some (.slice yA ry.fl.length yc) ∧ w'.cell? ⟨bP, oP + N * 3 + 1, none⟩ = some (.string ry.q) ∧ w'.cell? ⟨bP, oP + N * 3 + 2, none⟩ = some (.bool yis)) (go_keep) (fail)
        all_goals
          go_wp2_with fail
          go_meet
          have hbx := (Below.drew (Below.refl W2.heap.size W2)).alloc (Nat.le_refl _) (.cells #[.slice yA ry.fl.length yc, .string ry.q, .bool yis] 45)
          exact ⟨_, rfl, Lib.hid (HP2.out.below hbx), Lib.hid (HP2.out.drew.box _ _), Lib.hid (HF2.out.below hbx), (hbx.cell (p := ⟨w.heap.size, 0, none⟩) (World.block_lt_of_cell? _ _ c0)).trans c0⟩
      case rest =>
        obtain ⟨g, rfl, HPc, HBc, HFc, cb0⟩ := hcut
        obtain ⟨k0, k1, k2, _, _, _⟩ := tcellsK HPc.out.lw.wb
        have b0 := HBc.out.blk.cell 0
        have b1 := HBc.out.blk.cell 1
        have b2 := HBc.out.blk.cell 2
        have HPd := Lib.hid HPc.out.drew
        have HBd := Lib.hid (HBc.out.below (Below.drew (Below.refl _ _)))
        have HFd := Lib.hid (HFc.out.below (Below.drew (Below.refl _ _)))
        clear c0 c1 p1 e0 e1 e2 HP2 HF2 HP1
        by_cases h5 : kind = 5
        · subst h5
          have HLO := Lib.hid (load_S ry wc.drew HPd.out.lw.bs (by omega) HRY.out (HM.out.on HPd.out.lw.bl))
          cases yis with
          | true =>
            have hlv : ry.q ∈ Rs.map (·.q) := HI.out.perm.mem_iff.1 (mem_live hym rfl)
            obtain ⟨r2, hr2, he2⟩ := List.mem_map.1 hlv
            obtain rfl := rt_uniq HPd.out.lw.bs.good (HPd.out.lw.rt r2 hr2) HRY.out he2
            have hall : HasAll l r2.need := fun u hu => by
              have x1 := HI.out.need u
              have x2 := needT_mem (t := u) hr2
              have x3 := occ_pos hu
              omega
            have HLV : Hid (Calls Tryz.prog 34 #[.pointer (some ⟨w0.heap.size + 2, 0, none⟩), .string r2.q] wc.drew fun e w' => ∃ V, e = .returned (.tuple #[V, .int .i64 0]) ∧ w'.ownsRow wc.drew.heap.size 64 3 V r2.fl.length (fcells r2.fl) ∧ Below wc.drew.heap.size wc.drew w') := Lib.hid (HLO.out.mono (fun e w' h => by
              rcases h with ⟨_, h⟩ | ⟨h, _⟩
              · exact h
              · exact absurd hall h))
            clear hall hlv hr2 he2 HLO
            go_upto_region 5 with fail
            go_region_held3 (fun w' => (w'.cell? ⟨w0.heap.size + 4, 0, none⟩ = some (.pointer (some ⟨w0.heap.size + 2, 0, none⟩))) ∧ w'.cell? ⟨g, 1, none⟩ = some (.string r2.q)) (first | exact ⟨k0, b1⟩ | exact kkA)
              ((go_at_call 34; (with_reducible refine (HLV.out).mono ?_); rintro e wa ⟨VA, rfl, hoa, hba⟩; obtain ⟨AX, cX, rfl, _, haX, _⟩ := own_arr hoa; have HAX := Lib.hid haX; have HPa := Lib.hid (HPd.out.below hba); have HBa := Lib.hid (HBd.out.below hba); have HFa := Lib.hid (HFd.out.below hba); have kkA := And.intro (HPa.out.lw.wb.cell 0) (HBa.out.blk.cell 1); clear haX hoa hba))
            all_goals
              have b0 := HBa.out.blk.cell 0
              have b2 := HBa.out.blk.cell 2
              have HFS := Lib.hid (files_same AX cX yA yc r2.fl wa (by omega) HAX.out HFa.out.arr)
              go_wp2_with (go_at_call 35; (with_reducible refine (HFS.out).mono ?_); rintro e wb ⟨rfl, hbb⟩)
              go_ret
              exact ⟨n, D, S, l, Rs, VT, _, T, P, rfl, HPa.out.below hbb, HI.out, HT.out.mono (by omega), by omega, by omega⟩
          | false =>
            have HLV : Hid (Calls Tryz.prog 34 #[.pointer (some ⟨w0.heap.size + 2, 0, none⟩), .string ry.q] wc.drew fun e w' => ∃ V, ∃ E : Int, e = .returned (.tuple #[V, .int .i64 E]) ∧ Below wc.drew.heap.size wc.drew w') := Lib.hid (HLO.out.mono (fun e w' h => by
              rcases h with ⟨_, V, h1, _, h2⟩ | ⟨_, h1, h2⟩
              · exact ⟨V, 0, h1, h2⟩
              · exact ⟨_, 8, h1, h2⟩))
            clear HLO
            go_upto_region 5 with fail
            go_region_held3 (fun w' => (w'.cell? ⟨w0.heap.size + 4, 0, none⟩ = some (.pointer (some ⟨w0.heap.size + 2, 0, none⟩))) ∧ w'.cell? ⟨g, 1, none⟩ = some (.string ry.q)) (first | exact ⟨k0, b1⟩ | exact kkA)
              ((go_at_call 34; (with_reducible refine (HLV.out).mono ?_); rintro e wa ⟨VA, EA, rfl, hba⟩; have HPa := Lib.hid (HPd.out.below hba); have HBa := Lib.hid (HBd.out.below hba); have kkA := And.intro (HPa.out.lw.wb.cell 0) (HBa.out.blk.cell 1); clear hba))
            all_goals
              have b2 := HBa.out.blk.cell 2
              go_wp2_with fail
              go_ret
              exact ⟨n, D, S, l, Rs, VT, _, T, P, rfl, HPa.out, HI.out, HT.out.mono (by omega), by omega, by omega⟩
        · have q5 : (kind == 5) = false := by rw [beq_eq_false_iff_ne]; exact h5
          obtain ⟨gP, capP, hsl⟩ := own_some HPc.out.pw.row (by omega)
          injection hsl with hsl _ hcap
          injection hsl with hsl
          injection hsl with hs1 hs2 _
          subst hs1
          subst hs2
          subst hcap
          have HMA := Lib.hid (mani_L ry.man ry.q HPc.out.lw (by omega) HRY.out.1)
          obtain ⟨sm, hsm⟩ : ∃ sm, (if 0 < cntT l ry.man then ry.man else ⟨#[]⟩ : ByteArray) = sm := ⟨_, rfl⟩
          rw [hsm] at HMA
          have HSM : Hid (ry.q ∈ Rs.map (·.q) → sm = ry.man) := Lib.hid (fun hlv => by
            obtain ⟨r2, hr2, he2⟩ := List.mem_map.1 hlv
            obtain rfl := rt_uniq HPc.out.lw.bs.good (HPc.out.lw.rt r2 hr2) HRY.out he2
            rw [← hsm, if_pos]
            have x1 := HI.out.need r2.man
            have x2 := needT_mem (t := r2.man) hr2
            have x3 : 0 < occ r2.man r2.need := occ_pos (List.mem_append.2 (.inr (by simp)))
            omega)
          obtain ⟨E, hEl, hE08, hFG⟩ := forget_both (w0 := w0) (n := n) (S := S) (l := l) (Rs := Rs) (by omega) HRY.out HI.out.need HM.out
          have HEL := Lib.hid hEl
          have HFG := Lib.hid hFG
          clear hsm hEl hFG HPd HBd HFd
          go_upto_region 8 with (first
            | (go_at_call 22; (with_reducible refine (HMA.out).mono ?_); rintro e wm ⟨rfl, hbm⟩; have HPm := Lib.hid (HPc.out.below hbm); have HBm := Lib.hid (HBc.out.below hbm); have HFm := Lib.hid (HFc.out.below hbm); have b0 := HBm.out.blk.cell 0; have b1 := HBm.out.blk.cell 1; have k0 := HPm.out.lw.wb.cell 0; clear hbm)
            | fail)
          have HPd := Lib.hid HPm.out.drew
          have HBd := Lib.hid (HBm.out.below (Below.drew (Below.refl _ _)))
          have HFd := Lib.hid (HFm.out.below (Below.drew (Below.refl _ _)))
          have HFG1 := Lib.hid (HFG.out _ HPd.out.lw)
          unfold FgOut at HFG1
          go_region_held3 (fun w' => (w'.cell? ⟨w0.heap.size + 4, 0, none⟩ = some (.pointer (some ⟨w0.heap.size + 2, 0, none⟩))) ∧ w'.cell? ⟨g, 1, none⟩ = some (.string ry.q)) (first | exact ⟨k0, b1⟩ | exact kkA)
            ((go_at_call 36; (with_reducible refine (HFG1.out).mono ?_); rintro e wf ⟨l', Rs', rfl, hLf, hsf, hcf⟩; have hpb := HPd.out.blob hLf hsf; have HPf := Lib.hid hpb.1; have HBf := Lib.hid (HBd.out.step hpb.2); have HFf := Lib.hid (HFd.out.step hpb.2); have HCF := Lib.hid hcf; have kkA := And.intro (HPf.out.lw.wb.cell 0) (HBf.out.blk.cell 1); clear hLf hsf hcf hpb))
          all_goals
            clear k0 k1 k2 b0 b1 b2 HPm HBm HFm HPd HBd HFd HPc HBc HFc HFG HFG1 HMA
            go_wp2_with fail
            go_loopw [10, 11] (fun v10 v11 wr => ∃ (i : Nat) (b : Bool) (P' : List PE), i ≤ P.length ∧ v10 = .bool b ∧ v11 = .int .i64 i ∧ Hid (PL w0 wr n D S l' Rs' VT (.slice (some ⟨bP, 0, none⟩) P.length cP) T P') ∧ Hid (BoxA w0 wr S VT (.slice (some ⟨bP, 0, none⟩) P.length cP) g 45 #[.slice yA ry.fl.length yc, .string ry.q, .bool yis]) ∧ Hid (FilA w0 wr S VT (.slice (some ⟨bP, 0, none⟩) P.length cP) yA ry.fl) ∧ Hid (Sought P P' ry.q i b)) (fun _ vi _ => P.length - (intOf vi).toNat)
            case atStart => exact ⟨0, false, P, Nat.zero_le _, rfl, rfl, HPf, HBf, HFf, Lib.hid ⟨rfl, .inl ⟨rfl, rfl, by simp⟩⟩⟩
            case round =>
              obtain ⟨i, b, P', hi, rfl, rfl, HPi, HBi, HFi, HSi⟩ := hrel
              obtain ⟨k0, k1, k2, _, _, _⟩ := tcellsK HPi.out.lw.wb
              have p1 : wr.cell? ⟨w0.heap.size + 3, 1, none⟩ = some (.slice (some ⟨bP, 0, none⟩) P.length cP) := HPi.out.pw.pb.cell 1
              have b0 := HBi.out.blk.cell 0
              have b1 := HBi.out.blk.cell 1
              by_cases hlt : i < P.length
              · have j1 : (i : Int) < P.length := by omega
                cases b with
                | true =>
                  go_upto_region 13 with fail
                  go_quiet (fail)
                  go_wp2_with fail
                  go_roundw
                  case rel => exact ⟨i + 1, true, P', by omega, rfl, by go_num, Lib.hid (HPi.out.drewN _), Lib.hid (HBi.out.below (below_drewN (Below.refl _ _) _)), Lib.hid (HFi.out.below (below_drewN (Below.refl _ _) _)), Lib.hid ⟨HSi.out.1, .inr (by rcases HSi.out.2 with h | h; exact absurd h.1 (by decide); exact h)⟩⟩
                  case measure => simp [intOf] <;> omega
                | false =>
                  obtain ⟨rfl, HN⟩ : P' = P ∧ Hid (∀ z ∈ P.take i, z.is = true → z.q ≠ ry.q) := by
                    rcases HSi.out.2 with h | h
                    · exact ⟨h.2.1, Lib.hid h.2.2⟩
                    · exact absurd h.1 (by decide)
                  obtain ⟨z, hz⟩ : ∃ z, P'[i]? = some z := ⟨_, List.getElem?_eq_getElem hlt⟩
                  have e0 := (HPi.out.pw.row.cellAt (i * 3) (by omega)).trans (pcs_at hz).1
                  have e1 := (HPi.out.pw.row.cellAt (i * 3 + 1) (by omega)).trans (pcs_at hz).2.1
                  have e2 := (HPi.out.pw.row.cellAt (i * 3 + 2) (by omega)).trans (pcs_at hz).2.2
                  have f2 := HPi.out.pw.row.frozenAt (i * 3 + 2)
                  have HZ := Lib.hid hz
                  clear hz
                  obtain ⟨zA, zc, zf, zq, zis⟩ := z
                  replace e1 : _ = some (Value.string zq) := e1
                  replace e2 : _ = some (Value.bool zis) := e2
                  cases zis with
                  | false =>
                    go_upto_region 13 with fail
                    go_quiet (fail)
                    go_wp2_with fail
                    go_roundw
                    case rel => exact ⟨i + 1, false, P', by omega, rfl, by go_num, Lib.hid (HPi.out.drewN _), Lib.hid (HBi.out.below (below_drewN (Below.refl _ _) _)), Lib.hid (HFi.out.below (below_drewN (Below.refl _ _) _)), Lib.hid ⟨rfl, .inl ⟨rfl, rfl, sought_next HZ.out (fun h => by cases h) HN.out⟩⟩⟩
                    case measure => simp [intOf] <;> omega
                  | true =>
                    by_cases hq : zq = ry.q
                    · subst hq
                      go_upto_region 13 with fail
                      go_quiet (fail)
                      go_wp2_with fail
                      go_roundw
                      case rel =>
                        have hrs := (HPi.out.drewN nq).rset HZ.out false
                        exact ⟨i + 1, true, _, by omega, rfl, by go_num, Lib.hid hrs.1, Lib.hid ((HBi.out.below (below_drewN (Below.refl _ _) _)).step hrs.2), Lib.hid ((HFi.out.below (below_drewN (Below.refl _ _) _)).step hrs.2), Lib.hid ⟨by rw [List.length_set], .inr ⟨rfl, i, _, HZ.out, rfl, rfl, rfl⟩⟩⟩
                      case measure => simp [intOf] <;> omega
                    · have q0 : ¬ zq.toList = ry.q.toList := ne_list hq
                      have q1 : (zq.toList == ry.q.toList) = false := by rw [beq_eq_false_iff_ne]; exact q0
                      have HQ := Lib.hid hq
                      go_upto_region 13 with fail
                      go_quiet (fail)
                      go_wp2_with fail
                      go_roundw
                      case rel => exact ⟨i + 1, false, P', by omega, rfl, by go_num, Lib.hid (HPi.out.drewN _), Lib.hid (HBi.out.below (below_drewN (Below.refl _ _) _)), Lib.hid (HFi.out.below (below_drewN (Below.refl _ _) _)), Lib.hid ⟨rfl, .inl ⟨rfl, rfl, sought_next HZ.out (fun _ => HQ.out) HN.out⟩⟩⟩
                      case measure => simp [intOf] <;> omega
              · have j1 : ¬ (i : Int) < P.length := by omega
                obtain rfl : i = P.length := by omega
                cases b with
                | false =>
                  obtain ⟨rfl, hnn⟩ : P' = P ∧ (∀ z ∈ P.take P.length, z.is = true → z.q ≠ ry.q) := by
                    rcases HSi.out.2 with h | h
                    · exact h.2
                    · exact absurd h.1 (by decide)
                  rw [List.take_length] at hnn
                  have hE : E = 8 := by
                    rcases hE08 with h | h
                    · have h2 := HI.out.perm.mem_iff.2 (HEL.out.2 h)
                      obtain ⟨z, hz, hzi, hzq⟩ := live_mem h2
                      exact absurd hzq (hnn z hz hzi)
                    · exact h
                  subst hE
                  obtain ⟨rfl, rfl⟩ : l' = l ∧ Rs' = Rs := by
                    rcases HCF.out with h | h
                    · exact h.2
                    · exact absurd h.1 (by decide)
                  clear hnn hi hlt
                  go_wp2_with fail
                  go_ret
                  exact ⟨n, D, S, l', Rs', VT, _, T, P', rfl, HPi.out, HI.out, HT.out.mono (by omega), by omega, by omega⟩
                | true =>
                  obtain ⟨j, z, hz, hzi, hzq, rfl⟩ : ∃ j z, P[j]? = some z ∧ z.is = true ∧ z.q = ry.q ∧ P' = P.set j { z with is := false } := by
                    rcases HSi.out.2 with h | h
                    · exact absurd h.1 (by decide)
                    · exact h.2
                  have hlv : ry.q ∈ Rs.map (·.q) := HI.out.perm.mem_iff.1 (hzq ▸ mem_live (List.mem_of_getElem? hz) hzi)
                  have hE : E = 0 := HEL.out.1 hlv
                  subst hE
                  obtain ⟨ir, hir, hRs'⟩ : ∃ i, Rs[i]? = some ry ∧ Rs' = Rs.eraseIdx i := by
                    rcases HCF.out with h | h
                    · exact absurd h.1 (by decide)
                    · exact h.2.1
                  have HCC : Hid (∀ t, cntT l' t = cntT l t - occ t ry.need) := Lib.hid (by
                    rcases HCF.out with h | h
                    · exact absurd h.1 (by decide)
                    · exact h.2.2)
                  obtain rfl := HSM.out hlv
                  have HZ := Lib.hid (And.intro hz (And.intro hzi (And.intro hzq (And.intro hir hRs'))))
                  clear hz hzi hzq hir hRs' hlv hi hlt
                  generalize hP' : P.set j { z with is := false } = P' at *
                  have HPP := Lib.hid hP'
                  clear hP'
                  generalize hman : ry.man = man at *
                  have HMAN := Lib.hid hman
                  clear hman
                  go_wp2_with fail
                  go_loopw [12] (fun vi wr' => ∃ (i : Nat) (VTi : Value) (Ti : List TxD), i ≤ ry.fl.length ∧ vi = .int .i64 i ∧ Hid (PL w0 wr' n D S l' Rs' VTi (.slice (some ⟨bP, 0, none⟩) P.length cP) Ti P') ∧ Hid (BoxA w0 wr' S VTi (.slice (some ⟨bP, 0, none⟩) P.length cP) g 45 #[.slice yA ry.fl.length yc, .string ry.q, .bool yis]) ∧ Hid (FilA w0 wr' S VTi (.slice (some ⟨bP, 0, none⟩) P.length cP) yA ry.fl) ∧ Hid (ToldM T Ti m i ry.fl)) (fun vi _ => ry.fl.length - (intOf vi).toNat)
                  case atStart => exact ⟨0, VT, T, Nat.zero_le _, rfl, HPi, HBi, HFi, Lib.hid ⟨HI.out.nod, HT.out.mono (by omega), fun t => by simp [datas, occ]⟩⟩
                  case round =>
                    obtain ⟨i, VTi, Ti, hi, rfl, HPj, HBj, HFj, HTj⟩ := hrel
                    clear k0 k1 k2 p1 b0 b1
                    obtain ⟨k0, k1, k2, _, _, _⟩ := tcellsK HPj.out.lw.wb
                    have b0 := HBj.out.blk.cell 0
                    by_cases hlt : i < ry.fl.length
                    · have j2 : (i : Int) < ry.fl.length := by omega
                      obtain ⟨f, hf⟩ : ∃ f, ry.fl[i]? = some f := ⟨_, List.getElem?_eq_getElem hlt⟩
                      obtain ⟨bA, oA, rfl, hbA, _⟩ := HFj.out.arr.2 (by omega)
                      have e2 := HFj.out.cell hf
                      have HX := Lib.hid hf
                      have HPd := Lib.hid HPj.out.drew
                      have HBd := Lib.hid (HBj.out.below (Below.drew (Below.refl _ _)))
                      have HFd := Lib.hid (HFj.out.below (Below.drew (Below.refl _ _)))
                      have HAD := Lib.hid (padd_any f.data (-1) HPd.out HTj.out.2.1 (by omega) (by decide) (by decide))
                      clear hf
                      go_upto_region 21 with fail
                      go_region_held3 (fun w' => (w'.cell? ⟨w0.heap.size + 4, 2, none⟩ = some (.pointer (some ⟨w0.heap.size + 3, 0, none⟩))) ∧ w'.cell? ⟨g, 0, none⟩ = some (.slice (some ⟨bA, oA, none⟩) ry.fl.length yc) ∧ w'.cell? ⟨bA, oA + i * 3 + 2, none⟩ = some (.string f.data)) (first | exact ⟨k2, b0, e2⟩ | exact kkA)
                        ((go_at_call 25; (with_reducible refine (HAD.out).mono ?_); rintro e wa ⟨VTa, rfl, hpa, hsa⟩; have HPa := Lib.hid hpa; have HBa := Lib.hid (HBd.out.step hsa); have HFa := Lib.hid (HFd.out.step hsa); have kkA := And.intro (hpa.lw.wb.cell 2) (And.intro (HBa.out.blk.cell 0) (HFa.out.cell HX.out)); clear hpa hsa))
                      all_goals
                        go_wp2_with fail
                        go_roundw
                        case rel => exact ⟨i + 1, VTa, _, by omega, by go_num, HPa, HBa, HFa, Lib.hid (HTj.out.next HX.out)⟩
                        case measure => simp [intOf] <;> omega
                    · have j2 : ¬ (i : Int) < ry.fl.length := by omega
                      obtain rfl : i = ry.fl.length := by omega
                      have HAD := Lib.hid (padd_any man (-1) HPj.out HTj.out.2.1 (by omega) (by decide) (by decide))
                      clear hi hlt
                      go_wp2_with (first
                        | (go_at_call 25; (with_reducible refine (HAD.out).mono ?_); rintro e wa ⟨VTa, rfl, hpa, hsa⟩; have HPa := Lib.hid hpa; clear hpa hsa)
                        | fail)
                      go_ret
                      obtain ⟨hz, hzi, hzq, hir, hRs'⟩ := HZ.out
                      have hfin := HI.out.forgot (l' := l') (T' := addT Ti man (-1)) hz hzi hzq hir (add_nodup HTj.out.1 _ _) (fun t => by
                        rw [refs_add, HTj.out.2.2, List.take_length]
                        unfold RtD.need
                        rw [occ_app, occ_one, HMAN.out]
                        split <;> omega) HCC.out
                      rw [HPP.out, ← hRs'] at hfin
                      refine ⟨n, D, S, l', Rs', VTa, _, _, P', rfl, HPa.out, hfin, (HTj.out.2.1.add (by decide) (by decide)).mono (by omega), by omega, ?_⟩
                      rw [← HPP.out, List.length_set]
                      omega
end Go.Proofs.YtmcgaaihdjpdgaaGreatDoor
/- Chapter 11: BlobPlays: a call; the law. -/
namespace Go.Proofs.YtmcgaaihdjpdgaaGreatDoor
open Go.RowKit
set_option linter.unusedVariables false

theorem need_zeroP {t : ByteArray} : ∀ {Rs : List RtD}, (∀ r ∈ Rs, occ t r.need = 0) → needT t Rs = 0
  | [], _ => rfl
  | r :: Rs, h => by rw [needT, h r (by simp), need_zeroP (fun r hr => h r (by simp [hr]))]
theorem PI.same {w0 w : World} {n m np : Nat} {D : DataW Unit} {S : Nat → Prop} {l : List KpD} {Rs : List RtD} {VT VP : Value} {T : List TxD} {P : List PE} (h : PL w0 w n D S l Rs VT VP T P) (hI : PI D l Rs T P) (hT : TB T m) (hp : P.length ≤ np) : PyOut w0 n m np (.returned (.bool true)) w :=
  ⟨n, D, S, l, Rs, VT, VP, T, P, rfl, h, hI, hT.mono (by omega), by omega, by omega⟩
set_option maxHeartbeats 8000000 in
set_option maxRecDepth 100000 in
theorem pstep_any {w0 w : World} {n m : Nat} {D : DataW Unit} {S : Nat → Prop} {l : List KpD} {Rs : List RtD} {VT VP : Value} {T : List TxD} {P : List PE} (x : InOp) (h : PL w0 w n D S l Rs VT VP T P) (hI : PI D l Rs T P) (hn : n ≤ 50000) (hT : TB T m) (hm : m ≤ 900000) (hP : P.length ≤ 1000)
    (hx : OpIn w0 x) (hml : Ml w0) :
    Calls Tryz.prog 5 #[.pointer (some ⟨w0.heap.size + 4, 0, none⟩), opval x] w (PyOut w0 n m P.length) := by
  have hBelow := (Below.refl w.heap.size w).alloc (Nat.le_refl _) (.cells #[.int .i64 x.kind, .int .i64 x.n, .string x.text, .slice x.fA x.files.length x.fC] 28)
  have HP1 := Lib.hid (h.below hBelow)
  have HB1 := Lib.hid (h.box 28 #[.int .i64 x.kind, .int .i64 x.n, .string x.text, .slice x.fA x.files.length x.fC])
  have HI := Lib.hid hI
  have HT := Lib.hid hT
  have HPL := Lib.hid (Nat.le_refl P.length)
  have hfr := free_L x HP1.out.lw HP1.out.pw (by omega) hP (fun y hy => Nat.le_trans (hI.len y hy) (by decide)) (fun y hy hyi => by
      have h1 := hI.perm.mem_iff.1 (mem_live hy hyi)
      obtain ⟨r, hr, hq⟩ := List.mem_map.1 h1
      obtain ⟨ry, hry, hrq, hrf⟩ := hI.rt y hy
      refine ⟨r, hr, hq, ?_⟩
      rw [rt_uniq HP1.out.lw.bs.good (HP1.out.lw.rt r hr) hry (hq.trans hrq.symm), hrf])
    (fun r hr => by
      have e1 := hI.need r.man
      have e2 := needT_mem (t := r.man) hr
      have e3 : 0 < occ r.man r.need := occ_pos (List.mem_append.2 (.inr (by simp)))
      omega) hx.2.2.2
  unfold FreeOut at hfr
  have HFR := Lib.hid hfr
  have HTX := Lib.hid (fun (W : World) (hW : PL w0 W n D S l Rs VT VP T P) (hf : x.kind = 1 → needT (cut500 x.text) Rs = 0) => ptext_any x hW hI (by omega) hT hm hx.2.2.2 hf)
  have HSV := Lib.hid (fun (W : World) (hW : PL w0 W n D S l Rs VT VP T P) => psave_any x hW hI hn hT hm (by omega) hx.1 hml)
  have HSD := Lib.hid (fun (W : World) (hW : PL w0 W n D S l Rs VT VP T P) => psaved_any x hW hI hn hT hm (by omega) hx.2.2.1 hml)
  have HZR := Lib.hid (fun (b : Bool) (hf : b = true → x.kind = 1 → ∀ y ∈ P, y.is = true → ∀ r ∈ Rs, r.q = y.q → occ (cut500 x.text) r.need = 0) => (fun hb hk => need_zeroP (fun r hr => by
      obtain ⟨y, hy, hyi, hyq⟩ := live_mem (hI.perm.mem_iff.2 (List.mem_map.2 ⟨r, hr, rfl⟩))
      exact hf hb hk y hy hyi r hr hyq.symm) : b = true → x.kind = 1 → needT (cut500 x.text) Rs = 0))
  have c0 := HB1.out.blk.cell 0
  have c1 := HB1.out.blk.cell 1
  have c2 := HB1.out.blk.cell 2
  have c3 := HB1.out.blk.cell 3
  unfold opval at *
  clear h hI hT hfr hx hml hBelow
  obtain ⟨kind, xn, text, fA, fC, files⟩ := x
  dsimp only at *
  go_enter Tryz.func5, Tryz.ntmps5
  go_upto_region 1 with fail
  go_cut [8] from 5 to 29 (fun v wx => ∃ b : Bool, v = .bool (!b) ∧ Hid (PL w0 wx n D S l Rs VT VP T P) ∧ Hid (BoxA w0 wx S VT VP w.heap.size 28 #[.int .i64 kind, .int .i64 xn, .string text, .slice fA files.length fC]) ∧ Hid (b = true → kind = 1 → needT (cut500 text) Rs = 0))
  case first =>
    go_wp2_with (first
      | (go_at_call 11; (with_reducible refine (HFR.out).mono ?_); rintro e wa ⟨b, rfl, hba, hfb⟩; have HFB := Lib.hid (HZR.out b hfb); clear hfb)
      | fail)
    go_meet
    exact ⟨b, rfl, Lib.hid (HP1.out.below hba), Lib.hid (HB1.out.below hba), HFB⟩
  case rest =>
    obtain ⟨b, rfl, HPa, HBa, HFB⟩ := hcut
    clear c0 c1 c2 c3 HP1 HB1 HFR HZR
    cases b with
    | false =>
      go_wp2_with fail
      go_ret
      exact HI.out.same HPa.out HT.out HPL.out
    | true =>
      have hfb := HFB.out rfl
      have HFB := Lib.hid hfb
      have c0 := HBa.out.blk.cell 0
      have c1 := HBa.out.blk.cell 1
      have c2 := HBa.out.blk.cell 2
      have c3 := HBa.out.blk.cell 3
      clear hfb
      by_cases h012 : kind = 0 ∨ kind = 1 ∨ kind = 2
      · have HTX := Lib.hid (HTX.out _ HPa.out HFB.out)
        clear HSV HSD HFB
        rcases h012 with rfl | rfl | rfl
        all_goals
          go_wp2_with (first
            | (go_at_call 12; (with_reducible refine (HTX.out).mono ?_); rintro e wz ⟨n', D', S', l', Rs', VT', VP', T', P', rfl, h1, h2, h3, h4, h5⟩; have HZ := Lib.hid (show PyOut w0 n m P.length (.returned (.bool true)) wz from ⟨n', D', S', l', Rs', VT', VP', T', P', rfl, h1, h2, h3, h4, h5⟩); clear h1 h2 h3 h4 h5)
            | fail)
          go_ret
          exact HZ.out
      · have q0 : (kind == 0) = false := by rw [beq_eq_false_iff_ne]; exact fun e => h012 (.inl e)
        have q1 : (kind == 1) = false := by rw [beq_eq_false_iff_ne]; exact fun e => h012 (.inr (.inl e))
        have q2 : (kind == 2) = false := by rw [beq_eq_false_iff_ne]; exact fun e => h012 (.inr (.inr e))
        clear h012 HTX HFB
        by_cases h3 : kind = 3
        · subst h3
          have HSV := Lib.hid (HSV.out _ HPa.out)
          go_wp2_with (first
            | (go_at_call 13; (with_reducible refine (HSV.out).mono ?_); rintro e wz ⟨n', D', S', l', Rs', VT', VP', T', P', rfl, h1, h2, h3, h4, h5⟩; have HZ := Lib.hid (show PyOut w0 n m P.length (.returned (.bool true)) wz from ⟨n', D', S', l', Rs', VT', VP', T', P', rfl, h1, h2, h3, h4, h5⟩); clear h1 h2 h3 h4 h5)
            | fail)
          go_ret
          exact HZ.out
        · have q3 : (kind == 3) = false := by rw [beq_eq_false_iff_ne]; exact h3
          by_cases h45 : kind = 4 ∨ kind = 5
          · have HSD := Lib.hid (HSD.out _ HPa.out)
            rcases h45 with rfl | rfl
            all_goals
              go_wp2_with (first
                | (go_at_call 14; (with_reducible refine (HSD.out).mono ?_); rintro e wz ⟨n', D', S', l', Rs', VT', VP', T', P', rfl, h1, h2, h3, h4, h5⟩; have HZ := Lib.hid (show PyOut w0 n m P.length (.returned (.bool true)) wz from ⟨n', D', S', l', Rs', VT', VP', T', P', rfl, h1, h2, h3, h4, h5⟩); clear h1 h2 h3 h4 h5)
                | fail)
              go_ret
              exact HZ.out
          · have q4 : (kind == 4) = false := by rw [beq_eq_false_iff_ne]; exact fun e => h45 (.inl e)
            have q5 : (kind == 5) = false := by rw [beq_eq_false_iff_ne]; exact fun e => h45 (.inr e)
            clear h45
            go_wp2_with fail
            go_ret
            exact HI.out.same HPa.out HT.out HPL.out
set_option maxHeartbeats 8000000 in
set_option maxRecDepth 100000 in
theorem law_plays (A : Option Addr) (c : Nat) (L : List InOp) (w : World)
    (hz : L.length * 56 ≤ 140737488351232) (hcap : L.length ≤ c) (hx : ∀ x ∈ L, OpIn w x) (ha : Arr w w.heap.size 4 A L.length (opcells L)) (hm : Ml w) :
    Calls Tryz.prog 3 #[.slice A L.length c] w fun e w' => e = .returned (.bool true) ∧ Below w.heap.size w w' := by
  have HA := Lib.hid awake11
  have HM := Lib.hid hm
  have HF := Lib.hid (fresh_any w)
  unfold FreshOut at HF
  have HX := Lib.hid hx
  have HAR := Lib.hid ha
  clear hm hx ha
  go_enter Tryz.func3, Tryz.ntmps3
  go_wp2_with (first
    | (go_at_call 4; (with_reducible refine (HF.out).mono ?_); rintro e w2 ⟨rfl, hw2, hp2, hbs2, hb2, hs2⟩; have HL2 := Lib.hid (LW.new hbs2 hw2 hb2); have HP2 := Lib.hid (PW.nil (S := SB0 w.heap.size) hp2); clear hp2 hbs2 hs2 hw2 hb2)
    | fail)
  go_loopw [4] (fun vi wr => ∃ (i n : Nat) (D : DataW Unit) (S : Nat → Prop) (l : List KpD) (Rs : List RtD) (VT VP : Value) (T : List TxD) (P : List PE), i ≤ L.length ∧ i ≤ 40 ∧ n ≤ 26 * i ∧ P.length ≤ i ∧ vi = .int .i64 i ∧ Hid (PL w wr n D S l Rs VT VP T P) ∧ Hid (PI D l Rs T P) ∧ Hid (TB T (26 * i))) (fun vi _ => L.length - (intOf vi).toNat)
  case atStart =>
    exact ⟨0, 0, _, _, [], [], _, _, [], [], Nat.zero_le _, by omega, by omega, by simp, rfl, Lib.hid ⟨HL2.out, HP2.out, World.ownsRow_nil _ _ _ _, Off.nil _ _, by simp⟩,
      Lib.hid ⟨by simp, fun s => rfl, by simp [live], by simp, fun t => Int.le_refl _, by simp⟩, Lib.hid ⟨by simp, by simp⟩⟩
  case round =>
    obtain ⟨i, n, D, S, l, Rs, VT, VP, T, P, hi, hi40, hn, hPl, rfl, HP, HI, HT⟩ := hrel
    obtain ⟨k0, k1, k2, _, _, _⟩ := tcellsK HP.out.lw.wb
    by_cases hend : i < L.length ∧ i < 40
    · obtain ⟨hlt, h40⟩ := hend
      obtain ⟨x, hx⟩ : ∃ x, L[i]? = some x := ⟨_, List.getElem?_eq_getElem hlt⟩
      obtain ⟨bA, oA, rfl, hbA, hcell⟩ := HAR.out.2 (by omega)
      obtain ⟨c0', c1', c2', c3'⟩ := op_cells (fun j u h => (HP.out.lw.bl.cell (p := ⟨bA, oA + j, none⟩) hbA).trans (hcell j u h)) hx
      have hst := pstep_any x HP.out HI.out (by omega) HT.out (by omega) (by omega) (HX.out x (List.mem_of_getElem? hx)) HM.out
      unfold opval PyOut at hst
      have HST := Lib.hid hst
      have i1 : (i : Int) < L.length := by omega
      have i40 : (i : Int) < 40 := by omega
      clear hst hcell hx
      go_wp2_with (first
        | (go_at_call 5; (with_reducible refine (HST.out).mono ?_); rintro e wa ⟨n', D', S', l', Rs', VT', VP', T', P', rfl, h1, h2, h3, h4, h5⟩; have HP' := Lib.hid h1; have HI' := Lib.hid h2; have HT' := Lib.hid h3; have HSD := Lib.hid (stands_any h1 h2 (by omega) (Nat.le_trans h3.1 (by omega)) (by omega)); clear h1 h2 h3)
        | (go_at_call 6; (with_reducible refine (HSD.out).mono ?_); rintro e wb ⟨rfl, hbb⟩)
        | fail)
      go_roundw
      case rel => exact ⟨i + 1, n', D', S', l', Rs', VT', VP', T', P', by omega, by omega, by omega, by omega, by go_num, Lib.hid (HP'.out.below hbb), HI', Lib.hid (HT'.out.mono (by omega))⟩
      case measure => simp [intOf] <;> omega
    · have g12 : ((i : Int) < L.length ∧ ¬ (i : Int) < 40) ∨ ¬ (i : Int) < L.length := by omega
      clear hend
      have HCK := Lib.hid (check_R wr HP.out.lw.bs HP.out.lw.rt (by omega) (HM.out.on HP.out.lw.bl))
      have HBL := Lib.hid HP.out.lw.bl
      rcases g12 with ⟨g1, g2⟩ | g1
      all_goals
        go_wp2_with (first
          | (go_at_call 7; (with_reducible refine (HCK.out).mono ?_); rintro e w3 ⟨v, rfl, hv, hbd⟩; obtain rfl : v = true := hv.2 HI.out.need; have hb3 := below_on HBL.out hbd)
          | (go_at_call 8; (with_reducible refine (HA.out _ (HM.out.on hb3)).mono ?_); rintro e w9 ⟨rfl, hb9⟩)
          | fail)
        go_ret
        exact ⟨rfl, below_on hb3 hb9⟩
end Go.Proofs.YtmcgaaihdjpdgaaGreatDoor
