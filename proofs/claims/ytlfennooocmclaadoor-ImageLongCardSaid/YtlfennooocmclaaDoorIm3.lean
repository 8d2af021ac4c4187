/- Chapter 10: the walks through image.Size, the reference's Of, few, awake. -/
import Derived.Test.YtlfennooocmclaaDoorIm2
import Derived.Test.YtlfennooocmclaaDoorRefMore
namespace Go.Proofs.YtlfennooocmclaaDoor
open Go.RowKit
set_option linter.unusedVariables false

/-! ### Size -/
def szGo : List FileD → Nat
  | [] => 0
  | f :: r => ((numL f.path.size).length + f.path.size + (numL f.mode.toNat).length + (numL f.data.size).length + f.data.size) + szGo r
theorem sz_step {l : List FileD} {k : Nat} {f : FileD} (h : l[k]? = some f) : szGo (l.drop k) = ((numL f.path.size).length + f.path.size + (numL f.mode.toNat).length + (numL f.data.size).length + f.data.size) + szGo (l.drop (k + 1)) := by rw [drop_head h, szGo]
theorem sz_end {l : List FileD} {k : Nat} (h : l.length ≤ k) : szGo (l.drop k) = 0 := by rw [List.drop_eq_nil_of_le h, szGo]
theorem sz_len : ∀ l : List FileD, szGo l = (hdGo l).length + (datGo l).length
  | [] => rfl
  | f :: r => by
    rw [szGo, hdGo, datGo, fileHd, sz_len r]
    simp only [List.length_append]
    rw [← bt_size, ← bt_size]
    omega
theorem img_len (l : List FileD) : (imgL l).length = (numL l.length).length + szGo l := by
  unfold imgL imgH
  rw [List.length_append, List.length_append, sz_len]
  omega
def SzOut (w : World) (N : Nat) (e : Ending) (w' : World) : Prop := e = .returned (.tuple #[.int .i64 (if 524288 < N then 0 else (N : Int)), .int .i64 (if 524288 < N then 4 else 0)]) ∧ Below w.heap.size w w'
set_option maxHeartbeats 4000000 in
set_option maxRecDepth 100000 in
theorem size_ok (A : Option Addr) (c : Nat) (l : List FileD) (w : World) (hz : l.length ≤ 8796093022208) (hx : ∀ f ∈ l, FOk f)
    (hc : Arr w w.heap.size 3 A l.length (fcells l)) (hm : Ml w) (h0 : checkE l = 0) :
    Calls Tryd.prog 14 #[.slice A l.length c] w (SzOut w (imgL l).length) := by
  obtain ⟨h256, hall⟩ := check_good h0
  have hr := check_any A c l w hz hx hc hm
  rw [h0] at hr
  have HR := Lib.hid hr
  have HALL := Lib.hid hall
  have HC := Lib.hid hc
  have hwd := wid_any l.length
  have hw9 := numL_len l.length (by omega)
  rw [img_len]
  have HS : Hid ((numL l.length).length + szGo (l.drop 0) = (numL l.length).length + szGo l) := Lib.hid rfl
  generalize (numL l.length).length + szGo l = S at *
  generalize (numL l.length).length = N0 at *
  have HW0 := Lib.hid fun W => hwd W (by omega)
  clear hr hall hx hc h0 hwd
  go_enter Tryd.func14, Tryd.ntmps14
  go_wp2_with (first
    | (go_at_call 27; (with_reducible refine HR.out.mono ?_); rintro e w1 ⟨rfl, hb1⟩)
    | (go_at_call 36; (with_reducible refine (HW0.out _).mono ?_); rintro e w2 ⟨rfl, hb2⟩))
  have hB2 := below_on hb1 hb2
  go_loopw [6, 20] (fun vn v wr => ∃ (k n : Nat), k ≤ l.length ∧ v = .int .i64 k ∧ vn = .int .i64 n ∧ n ≤ 9 + k * 66000 ∧ Hid (n + szGo (l.drop k) = S) ∧ Below w.heap.size w wr) (fun _ v _ => l.length - (intOf v).toNat)
  case atStart => exact ⟨0, N0, Nat.zero_le _, rfl, rfl, by omega, HS, hB2⟩
  case round =>
    obtain ⟨k, n, hk, rfl, rfl, hn, HK, hBB⟩ := hrel
    have hBs := hBB.size
    by_cases hlt : k < l.length
    · obtain ⟨f, hf⟩ : ∃ f, l[k]? = some f := ⟨_, List.getElem?_eq_getElem hlt⟩
      obtain ⟨b, o, rfl, hb, hcell⟩ := HC.out.2 (by omega)
      obtain ⟨c0, c1, c2⟩ := file_cells (fun i u h => (hBB.cell (p := ⟨b, o + i, none⟩) hb).trans (hcell i u h)) hf
      obtain ⟨hpe, hp2, hmo, hda⟩ := HALL.out f (List.mem_of_getElem? hf)
      obtain ⟨m, hmm, hm5⟩ := fnat_of hmo
      have hst := HK.out
      rw [sz_step hf, hmm, Int.toNat_natCast] at hst
      have a9 := numL_len f.path.size (by omega)
      have b9 := numL_len m (by omega)
      have d9 := numL_len f.data.size (by omega)
      have ha := fun W => wid_any f.path.size W (by omega)
      have hbm := fun W => wid_any m W (by omega)
      have hd := fun W => wid_any f.data.size W (by omega)
      rw [hmm] at c1
      generalize (numL f.path.size).length = a at *
      generalize (numL m).length = bm at *
      generalize (numL f.data.size).length = dd at *
      have HST : Hid ((n + (a + f.path.size + bm + dd + f.data.size)) + szGo (l.drop (k + 1)) = S) := Lib.hid (by omega)
      have WA := Lib.hid ha
      have WM := Lib.hid hbm
      have WD := Lib.hid hd
      have hbox := Blk.new wr 33 #[.string f.path, .int .i64 (m : Int), .string f.data]
      have hBB := hBB.alloc hBs (.cells #[.string f.path, .int .i64 (m : Int), .string f.data] 33)
      obtain ⟨k0, k1, k2⟩ := fbox_cells hbox
      clear hcell hf hmm hmo hpe HK hst ha hbm hd hbox
      have s1 : IntKind.i64.wrap ((a : Int) + f.path.size) = a + f.path.size := IntWalk.i64_in _ (by omega)
      have s2 : IntKind.i64.wrap ((a : Int) + f.path.size + bm) = a + f.path.size + bm := IntWalk.i64_in _ (by omega)
      have s3 : IntKind.i64.wrap ((a : Int) + f.path.size + bm + dd) = a + f.path.size + bm + dd := IntWalk.i64_in _ (by omega)
      have s4 : IntKind.i64.wrap ((a : Int) + f.path.size + bm + dd + f.data.size) = a + f.path.size + bm + dd + f.data.size := IntWalk.i64_in _ (by omega)
      have s5 : IntKind.i64.wrap ((n : Int) + ((a : Int) + f.path.size + bm + dd + f.data.size)) = n + (a + f.path.size + bm + dd + f.data.size) := IntWalk.i64_in _ (by omega)
      go_wp2
      have c0' := cell_cls k0
      have c1' := cell_cls k1
      have c2' := cell_cls k2
      refine wp_region_cls (by kernel_rfl) (by kernel_rfl) ?_
      repeat (go_big_quiet_step ((go_at_call 36; first | with_reducible exact cls_call (WA.out _) | with_reducible exact cls_call (WM.out _) | with_reducible exact cls_call (WD.out _))))
      refine wpQuiet_nil ?_
      intro _ hw'
      obtain ⟨⟨w9, hb9⟩, hw''⟩ := hw'
      subst hw''
      have hB9 := hBB.trans (hb9.mono hBB.size)
      clear c0' c1' c2' s1 s2 s3 s4 s5
      go_wp2
      go_roundw
      case rel => exact ⟨k + 1, n + (a + f.path.size + bm + dd + f.data.size), by omega, by go_num, by go_num, by omega, HST, hB9⟩
      case measure => simp [intOf] <;> omega
    · have hS := HK.out
      rw [sz_end (by omega), Nat.add_zero] at hS
      subst hS
      clear HK
      by_cases hbig : 524288 < n
      · have HbS := Lib.hid hbig
        have hbi : (524288 : Int) < n := by omega
        go_wp2
        go_ret2
        unfold SzOut
        rw [if_pos HbS.out, if_pos HbS.out]
        exact ⟨rfl, hBB⟩
      · have HbS := Lib.hid hbig
        have hbi : ¬ (524288 : Int) < n := by omega
        go_wp2
        go_ret2
        unfold SzOut
        rw [if_neg HbS.out, if_neg HbS.out]
        exact ⟨rfl, hBB⟩
def SzIs (w : World) (l : List FileD) (e : Ending) (w' : World) : Prop := e = .returned (.tuple #[.int .i64 (ofN l), .int .i64 (ofE l)]) ∧ Below w.heap.size w w'
theorem size_any (A : Option Addr) (c : Nat) (l : List FileD) (w : World) (hz : l.length ≤ 8796093022208) (hx : ∀ f ∈ l, FOk f)
    (hc : Arr w w.heap.size 3 A l.length (fcells l)) (hm : Ml w) :
    Calls Tryd.prog 14 #[.slice A l.length c] w (SzIs w l) := by
  by_cases h0 : checkE l = 0
  · refine (size_ok A c l w hz hx hc hm h0).mono fun e w' h => ?_
    unfold SzOut at h
    unfold SzIs ofN ofE
    rw [if_pos h0]
    by_cases hb : 524288 < (imgL l).length
    · rw [if_pos hb, if_pos hb] at h
      rw [if_pos hb, if_neg (by decide)]
      exact h
    · rw [if_neg hb, if_neg hb] at h
      rw [if_neg hb, if_pos rfl]
      exact h
  · have e1 : ofE l = checkE l := by unfold ofE; rw [if_neg h0]
    have e2 : ofN l = 0 := by unfold ofN; rw [if_neg (by rw [e1]; exact h0)]
    unfold SzIs
    rw [e1, e2]
    have HR := Lib.hid (check_any A c l w hz hx hc hm)
    have e0 : (checkE l == 0) = false := by rw [beq_eq_false_iff_ne]; exact h0
    clear e1 e2
    generalize checkE l = E at *
    go_enter Tryd.func14, Tryd.ntmps14
    go_wp2_with (go_at_call 27; (with_reducible refine HR.out.mono ?_); rintro e w1 ⟨rfl, hb1⟩)
    go_ret2
    exact ⟨rfl, hb1⟩
end Go.Proofs.YtlfennooocmclaaDoor
