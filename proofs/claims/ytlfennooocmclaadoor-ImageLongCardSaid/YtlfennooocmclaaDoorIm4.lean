/- Chapter 10: the walks through the reference's Of, few, awake. -/
import Derived.Test.YtlfennooocmclaaDoorIm3
import Derived.Test.YtlfennooocmclaaDoorTreeMix
namespace Go.Proofs.YtlfennooocmclaaDoor
open Go.RowKit
set_option linter.unusedVariables false

def ORel (w1 : World) (l : List FileD) (S : List UInt8) (vo v : Value) (wr : World) : Prop := ∃ (k : Nat) (O : ByteArray), k ≤ l.length ∧ v = .int .i64 k ∧ vo = .string O ∧ O.size ≤ 524288 ∧ Hid (S = O.data.toList ++ datGo (l.drop k)) ∧ Below w1.heap.size w1 wr
set_option maxHeartbeats 4000000 in
set_option maxRecDepth 100000 in
theorem of_ref_ok (A : Option Addr) (c : Nat) (l : List FileD) (w : World) (hz : l.length ≤ 8796093022208) (hx : ∀ f ∈ l, FOk f)
    (hc : Arr w w.heap.size 3 A l.length (fcells l)) (h0 : checkE l = 0) :
    Calls Tryd.prog 13 #[.slice A l.length c] w (OfOut w (imgL l)) := by
  obtain ⟨h256, hall⟩ := check_good h0
  have hr := check_ref A c l w hz hx hc
  rw [h0] at hr
  have HR := Lib.hid hr
  have HALL := Lib.hid hall
  have HC := Lib.hid hc
  obtain ⟨B0, hB0, hB0l, hB0s⟩ := numS_facts (l.length : Int) (by omega) (by omega)
  have HB0 := Lib.hid hB0
  obtain ⟨H, hH⟩ : ∃ H, H = imgH l := ⟨_, rfl⟩
  obtain ⟨S, hS⟩ : ∃ S, S = imgL l := ⟨_, rfl⟩
  have HS : Hid (S = H ++ datGo (l.drop 0)) := Lib.hid (by rw [hS, hH]; rfl)
  have HH : Hid (H = B0.data.toList ++ hdGo (l.drop 0)) := Lib.hid (by rw [hH, hB0l]; rfl)
  rw [← hS]
  clear hr hall hx hc hS hH h0 hB0 hB0l
  go_enter Tryd.func13, Tryd.ntmps13
  go_wp2_with (first
    | (go_at_call 33; (with_reducible refine HR.out.mono ?_); rintro e w1 ⟨rfl, hb1⟩)
    | (go_at_call 34; (with_reducible refine (HB0.out _).mono ?_); rintro e w2 ⟨rfl, hb2⟩; have hB2 := below_on hb1 hb2))
  go_loopw [5, 6] (fun vo v wr => ∃ (k : Nat) (O : ByteArray), k ≤ l.length ∧ v = .int .i64 k ∧ vo = .string O ∧ O.size ≤ 9 + k * 227 ∧ Hid (H = O.data.toList ++ hdGo (l.drop k)) ∧ Below w.heap.size w wr) (fun _ v _ => l.length - (intOf v).toNat)
  case atStart => exact ⟨0, B0, Nat.zero_le _, rfl, rfl, by omega, HH, hB2⟩
  case round =>
    obtain ⟨k, O, hk, rfl, rfl, hO, HK, hB⟩ := hrel
    by_cases hlt : k < l.length
    · obtain ⟨f, hf⟩ : ∃ f, l[k]? = some f := ⟨_, List.getElem?_eq_getElem hlt⟩
      obtain ⟨b, o, rfl, hb, hcell⟩ := HC.out.2 (by omega)
      have HCC := Lib.hid (fun (W : World) (hW : Below w.heap.size w W) => file_cells (fun i u h => (hW.cell (p := ⟨b, o + i, none⟩) hb).trans (hcell i u h)) hf)
      obtain ⟨hpe, hp2, hmo, hda⟩ := HALL.out f (List.mem_of_getElem? hf)
      obtain ⟨T, ET, hT, hTl, hTs⟩ := txtS_facts f.path (by omega)
      obtain ⟨Bm, hBm, hBml, hBms⟩ := numS_facts f.mode hmo.1 (by omega)
      obtain ⟨Bz, hBz, hBzl, hBzs⟩ := numS_facts (f.data.size : Int) (by omega) (by omega)
      have HT := Lib.hid hT
      have HBm := Lib.hid hBm
      have HBz := Lib.hid hBz
      have HFIN : Hid (H = (((O ++ T) ++ Bm) ++ Bz).data.toList ++ hdGo (l.drop (k + 1))) := Lib.hid (by
        rw [HK.out, hd_step hf, fileHd, cat_list, cat_list, cat_list, hTl, hBml, hBzl]
        simp only [List.append_assoc, Int.toNat_natCast])
      have i1 : (k : Int) < l.length := by omega
      have i0 : 0 ≤ (k : Int) := by omega
      have s1 : ¬ 9223372036854775807 < O.size + T.size := by omega
      have s2 : ¬ 9223372036854775807 < O.size + T.size + Bm.size := by omega
      have s3 : ¬ 9223372036854775807 < O.size + T.size + Bm.size + Bz.size := by omega
      clear hcell hpe hmo hf HK hT hTl hBm hBml hBz hBzl
      obtain ⟨c0, c1, c2⟩ := HCC.out _ hB
      go_wp2_with (go_at_call 35; (with_reducible refine (HT.out _).mono ?_); rintro e w4 ⟨rfl, hb4⟩; have hB := below_on hB hb4; obtain ⟨c0, c1, c2⟩ := HCC.out _ hB)
      have c0' := cell_cls c0
      have c1' := cell_cls c1
      have c2' := cell_cls c2
      refine wp_region_cls (by kernel_rfl) (by kernel_rfl) ?_
      repeat (go_big_quiet_step ((go_at_call 34; first | with_reducible exact cls_call (HBm.out _) | with_reducible exact cls_call (HBz.out _))))
      refine wpQuiet_nil ?_
      intro _ hw'
      obtain ⟨⟨w9, hb9⟩, hw''⟩ := hw'
      subst hw''
      have hB := below_on hB hb9
      clear c0' c1' c2' c0 c1 c2
      go_wp2
      go_roundw
      case rel => exact ⟨k + 1, _, by omega, by go_num, rfl, by simp; omega, HFIN, hB⟩
      case measure => simp [intOf] <;> omega
    · have hh := HK.out
      rw [hd_end (by omega), List.append_nil] at hh
      subst hh
      have hkl : k ≤ 256 := by omega
      clear HK
      go_wp2
      obtain ⟨w3, rfl⟩ : ∃ w3, w3 = wr := ⟨_, rfl⟩
      go_loopw [5, 9] (fun vo v wr => ORel w l S vo v wr) (fun _ v _ => l.length - (intOf v).toNat)
      case atStart => unfold ORel; exact ⟨0, O, Nat.zero_le _, rfl, rfl, by omega, HS, hB⟩
      case round =>
        clear HS hB hO
        unfold ORel at hrel
        obtain ⟨k, O, hk, rfl, rfl, hO, HK, hB⟩ := hrel
        by_cases hlt : k < l.length
        · obtain ⟨f, hf⟩ : ∃ f, l[k]? = some f := ⟨_, List.getElem?_eq_getElem hlt⟩
          obtain ⟨b, o, rfl, hb, hcell⟩ := HC.out.2 (by omega)
          obtain ⟨c0, c1, c2⟩ := file_cells (fun i u h => (hB.cell (p := ⟨b, o + i, none⟩) hb).trans (hcell i u h)) hf
          obtain ⟨hpe, hp2, hmo, hda⟩ := HALL.out f (List.mem_of_getElem? hf)
          have HK2 := Lib.hid (show S = (O ++ f.data).data.toList ++ datGo (l.drop (k + 1)) by rw [cat_list]; exact dat_cat hf HK.out)
          have hlen : O.size + f.data.size ≤ S.length := by
            have e := congrArg List.length HK2.out
            rw [cat_list] at e
            simp only [List.length_append] at e
            rw [bt_size, bt_size]
            omega
          have i1 : (k : Int) < l.length := by omega
          have s1 : ¬ 9223372036854775807 < O.size + f.data.size := by omega
          clear hcell hf hmo hpe HK
          by_cases hbig : 524288 < O.size + f.data.size
          · have hd : (524288 : Int) < (O.size : Int) + f.data.size := by omega
            have hbS : 524288 < S.length := by omega
            have HbS := Lib.hid hbS
            clear hbS
            go_wp2
            go_ret2
            unfold OfOut
            rw [if_pos HbS.out, if_pos HbS.out]
            exact ⟨rfl, hB⟩
          · have hd : ¬ (524288 : Int) < (O.size : Int) + f.data.size := by omega
            go_wp2
            go_roundw
            case rel => unfold ORel; exact ⟨k + 1, _, by omega, by go_num, rfl, by simp; omega, HK2, hB⟩
            case measure => simp [intOf] <;> omega
        · have hS := HK.out
          rw [dat_end (by omega), List.append_nil] at hS
          have HS3 := Lib.hid hS
          clear HK hS
          go_wp2
          go_ret2
          have hS := HS3.out
          subst hS
          unfold OfOut
          rw [if_neg (by rw [← bt_size]; omega), if_neg (by rw [← bt_size]; omega)]
          exact ⟨rfl, hB⟩
theorem of_ref (A : Option Addr) (c : Nat) (l : List FileD) (w : World) (hz : l.length ≤ 8796093022208) (hx : ∀ f ∈ l, FOk f)
    (hc : Arr w w.heap.size 3 A l.length (fcells l)) :
    Calls Tryd.prog 13 #[.slice A l.length c] w (OfIs w l) := by
  by_cases h0 : checkE l = 0
  · exact (of_ref_ok A c l w hz hx hc h0).mono fun e w' h => of_is h0 h
  · have e1 : ofE l = checkE l := by unfold ofE; rw [if_neg h0]
    have e2 : ofS l = ⟨#[]⟩ := by unfold ofS; rw [if_neg (by rw [e1]; exact h0)]
    unfold OfIs
    rw [e1, e2]
    have HR := Lib.hid (check_ref A c l w hz hx hc)
    have e0 : (checkE l == 0) = false := by rw [beq_eq_false_iff_ne]; exact h0
    clear e1 e2
    generalize checkE l = E at *
    go_enter Tryd.func13, Tryd.ntmps13
    go_wp2_with (go_at_call 33; (with_reducible refine HR.out.mono ?_); rintro e w1 ⟨rfl, hb1⟩)
    go_ret2
    exact ⟨rfl, hb1⟩

/-! ### few -/
def fewGo : Nat → Nat → List FileD → List FileD
  | 0, _, _ => []
  | _ + 1, _, [] => []
  | c + 1, n, f :: r => if 20000 < n + f.data.size then ⟨f.path, f.mode, ⟨#[]⟩⟩ :: fewGo c n r else f :: fewGo c (n + f.data.size) r
def fewF (l : List FileD) : List FileD := fewGo 60 0 l
section
variable {l : List FileD} {k n c d : Nat} {f : FileD}
theorem few_cut (h : l[k]? = some f) (hc : c = d + 1) (hn : 20000 < n + f.data.size) : fewGo c n (l.drop k) = ⟨f.path, f.mode, ⟨#[]⟩⟩ :: fewGo d n (l.drop (k + 1)) := by rw [drop_head h, hc, fewGo, if_pos hn]
theorem few_all (h : l[k]? = some f) (hc : c = d + 1) (hn : ¬ 20000 < n + f.data.size) : fewGo c n (l.drop k) = f :: fewGo d (n + f.data.size) (l.drop (k + 1)) := by rw [drop_head h, hc, fewGo, if_neg hn]
theorem few_end (h : l.length ≤ k ∨ c = 0) : fewGo c n (l.drop k) = [] := by
  rcases h with h | h
  · rw [List.drop_eq_nil_of_le h]
    cases c <;> rw [fewGo]
  · rw [h, fewGo]
end
theorem few_ok : ∀ (c n : Nat) (l : List FileD), (∀ f ∈ l, FOk f) → (fewGo c n l).length ≤ c ∧ ∀ f ∈ fewGo c n l, FOk f
  | 0, _, _, _ => by simp [fewGo]
  | c + 1, n, [], _ => by simp [fewGo]
  | c + 1, n, f :: r, h => by
    have hf := h f (by simp)
    rw [fewGo]
    split
    · obtain ⟨h1, h2⟩ := few_ok c n r fun x hx => h x (by simp [hx])
      refine ⟨by simp; exact h1, fun x hx => ?_⟩
      rcases List.mem_cons.1 hx with rfl | hx
      · exact ⟨hf.1, by show (0 : Nat) ≤ _; omega⟩
      · exact h2 x hx
    · obtain ⟨h1, h2⟩ := few_ok c (n + f.data.size) r fun x hx => h x (by simp [hx])
      refine ⟨by simp; exact h1, fun x hx => ?_⟩
      rcases List.mem_cons.1 hx with rfl | hx
      · exact hf
      · exact h2 x hx
def LsOut (w : World) (R : List FileD) (e : Ending) (w' : World) : Prop := ∃ A' c', e = .returned (.slice A' R.length c') ∧ Arr w' w'.heap.size 3 A' R.length (fcells R) ∧ Below w.heap.size w w'
def FewRel (w : World) (l R : List FileD) (vo vn v : Value) (wr : World) : Prop := ∃ (k n : Nat) (out : List FileD), k ≤ l.length ∧ k ≤ 60 ∧ v = .int .i64 k ∧ vn = .int .i64 n ∧ n ≤ 20000 ∧ wr.ownsRow w.heap.size 33 3 vo out.length (fcells out) ∧ out.length ≤ k ∧ Hid (out ++ fewGo (60 - k) n (l.drop k) = R) ∧ Below w.heap.size w wr
set_option maxHeartbeats 4000000 in
set_option maxRecDepth 100000 in
theorem fewI_any (A : Option Addr) (c : Nat) (l : List FileD) (w : World) (hz : l.length ≤ 8796093022208) (hx : ∀ f ∈ l, FOk f) (hc : Arr w w.heap.size 3 A l.length (fcells l)) :
    Calls Tryd.prog 11 #[.slice A l.length c] w (LsOut w (fewF l)) := by
  obtain ⟨i2, fi0, fz0, fz1, fz2⟩ := info_parts infoFile
  have HC := Lib.hid hc
  have HX := Lib.hid hx
  obtain ⟨R, hR⟩ : ∃ R, R = fewF l := ⟨_, rfl⟩
  have HR : Hid ([] ++ fewGo (60 - 0) 0 (l.drop 0) = R) := Lib.hid (by rw [hR]; rfl)
  rw [← hR]
  clear hc hx hR
  go_enter Tryd.func11, Tryd.ntmps11
  go_wp2
  go_loopw [3, 4, 5] (fun vo vn v wr => FewRel w l R vo vn v wr) (fun _ _ v _ => l.length - (intOf v).toNat)
  case atStart => unfold FewRel; exact ⟨0, 0, [], Nat.zero_le _, by omega, rfl, rfl, by omega, World.ownsRow_nil _ _ _ _, Nat.le_refl _, HR, Below.refl _ _⟩
  case round =>
    unfold FewRel at hrel
    obtain ⟨k, n, out, hk, hk2, rfl, rfl, hn, hown, hol, HK, hB⟩ := hrel
    have hBs := hB.size
    by_cases hlt : k < l.length
    · by_cases h60 : k < 60
      · obtain ⟨f, hf⟩ : ∃ f, l[k]? = some f := ⟨_, List.getElem?_eq_getElem hlt⟩
        obtain ⟨b, o, rfl, hb, hcell⟩ := HC.out.2 (by omega)
        obtain ⟨c0, c1, c2⟩ := file_cells (fun i u h => (hB.cell (p := ⟨b, o + i, none⟩) hb).trans (hcell i u h)) hf
        have hfx := (HX.out f (List.mem_of_getElem? hf)).2
        have kl : (k : Int) < l.length := by omega
        have k6 : (k : Int) < 60 := by omega
        have hbox := Blk.new wr 33 #[.string f.path, .int .i64 f.mode, .string f.data]
        have hB1 : Below wr.heap.size wr (wr.alloc (.cells #[.string f.path, .int .i64 f.mode, .string f.data] 33)) := (Below.refl _ wr).alloc (Nat.le_refl _) _
        obtain ⟨k0, k1, k2⟩ := fbox_cells hbox
        have kf := hbox.frozen 2
        by_cases hbig : 20000 < n + f.data.size
        · have hd : 20000 - (n : Int) < f.data.size := by omega
          have HST := Lib.hid (show (out ++ [⟨f.path, f.mode, ⟨#[]⟩⟩]) ++ fewGo (60 - (k + 1)) n (l.drop (k + 1)) = R by
            have := HK.out
            rw [few_cut hf (d := 60 - (k + 1)) (by omega) hbig] at this
            simpa using this)
          have hB2 : Below wr.heap.size wr (wr.alloc (.cells #[.string f.path, .int .i64 f.mode, .string ⟨#[]⟩] 33)) := (Below.refl _ wr).alloc (Nat.le_refl _) _
          have hbox2 := Blk.new wr 33 #[.string f.path, .int .i64 f.mode, .string ⟨#[]⟩]
          obtain ⟨j0, j1, j2⟩ := fbox_cells hbox2
          have hown2 := own_below hown hB2
          have hBB2 := hB.trans (hB2.mono hBs)
          have hs2 := hBB2.size
          clear hf hcell HK hbox2 hbox
          go_wp2_with (at_builtin; refine wpList_push rfl _ _ _ rfl Tryd.underlying22 fi0 fz0 fz1 fz2 file_zero (by decide) hown2 rfl (by rw [World.size_alloc]; rfl) rfl (file_one ⟨f.path, f.mode, ⟨#[]⟩⟩) (by unfold maxLen; omega) (by omega) hs2 ?_; intro g6 cap6 w6 hown6 hgr6 hat6; have hB6 := hBB2.grown hgr6 hs2 (fun j hj => (hown2.lt j hj).1))
          go_roundw
          case rel => unfold FewRel; exact ⟨k + 1, n, out ++ [⟨f.path, f.mode, ⟨#[]⟩⟩], by omega, by omega, by go_num, rfl, by omega, by rw [List.length_append, fcells_snoc]; exact hown6, by simp; omega, HST, hB6⟩
          case measure => simp [intOf] <;> omega
        · have hd : ¬ 20000 - (n : Int) < f.data.size := by omega
          have HST := Lib.hid (show (out ++ [f]) ++ fewGo (60 - (k + 1)) (n + f.data.size) (l.drop (k + 1)) = R by
            have := HK.out
            rw [few_all hf (d := 60 - (k + 1)) (by omega) hbig] at this
            simpa using this)
          have hown2 := own_below hown hB1
          have hBB2 := hB.trans (hB1.mono hBs)
          have hs2 := hBB2.size
          clear hf hcell HK hbox
          go_wp2_with (at_builtin; refine wpList_push rfl _ _ _ rfl Tryd.underlying22 fi0 fz0 fz1 fz2 file_zero (by decide) hown2 rfl (by rw [World.size_alloc]; rfl) rfl (file_one f) (by unfold maxLen; omega) (by omega) hs2 ?_; intro g6 cap6 w6 hown6 hgr6 hat6; have hB6 := hBB2.grown hgr6 hs2 (fun j hj => (hown2.lt j hj).1))
          go_roundw
          case rel => unfold FewRel; exact ⟨k + 1, n + f.data.size, out ++ [f], by omega, by omega, by go_num, by go_num, by omega, by rw [List.length_append, fcells_snoc]; exact hown6, by simp; omega, HST, hB6⟩
          case measure => simp [intOf] <;> omega
      · have kl : (k : Int) < l.length := by omega
        have k6 : ¬ (k : Int) < 60 := by omega
        have hr := HK.out
        rw [few_end (.inr (by omega)), List.append_nil] at hr
        subst hr
        obtain ⟨A', c', rfl, hcap, ha', hfr⟩ := own_arr hown
        have HA' := Lib.hid ha'
        clear HK ha'
        go_wp2
        go_ret
        unfold LsOut
        exact ⟨A', c', rfl, HA'.out, hB⟩
    · have kl : ¬ (k : Int) < l.length := by omega
      have hr := HK.out
      rw [few_end (.inl (by omega)), List.append_nil] at hr
      subst hr
      obtain ⟨A', c', rfl, hcap, ha', hfr⟩ := own_arr hown
      have HA' := Lib.hid ha'
      clear HK ha'
      go_wp2
      go_ret
      unfold LsOut
      exact ⟨A', c', rfl, HA'.out, hB⟩

/-! ### chapter 10's example -/
def oneFile : List FileD := [⟨⟨#[97]⟩, 0, ⟨#[104, 105]⟩⟩]
theorem one_img : imgL oneFile = [1, 1, 97, 0, 2, 104, 105] := by
  have e1 : (⟨#[97]⟩ : ByteArray).size = 1 := rfl
  have e2 : (⟨#[104, 105]⟩ : ByteArray).size = 2 := rfl
  unfold imgL imgH oneFile hdGo hdGo datGo datGo fileHd
  simp only [e1, e2]
  rw [numL_lt (by decide), numL_lt (by decide), numL_lt (by decide), numL_lt (by decide)]
  rfl
theorem one_of : ofS oneFile = ⟨#[1, 1, 97, 0, 2, 104, 105]⟩ ∧ ofE oneFile = 0 := by
  have h0 : checkE oneFile = 0 := by kernel_rfl
  have h1 : ofE oneFile = 0 := by unfold ofE; rw [if_pos h0, one_img]; rfl
  refine ⟨?_, h1⟩
  unfold ofS
  rw [if_pos h1, one_img]
theorem of_one (w : World) (hm : Ml w) (b : Nat) (hk : Blk w b 33 (fcells oneFile).toArray) : Calls Tryd.prog 12 #[.slice (some ⟨b, 0, none⟩) 1 1] w fun e w' => e = .returned (.tuple #[.string ⟨#[1, 1, 97, 0, 2, 104, 105]⟩, .int .i64 0]) ∧ Below w.heap.size w w' := by
  have := of_any (some ⟨b, 0, none⟩) 1 oneFile w (by decide) (by intro f hf; simp [oneFile] at hf; subst hf; exact ⟨by decide, by decide⟩)
    ⟨by decide, fun _ => ⟨b, 0, rfl, hk.lt, fun i u hu => by rw [Nat.zero_add, hk.cell]; simpa using hu⟩⟩ hm
  unfold OfIs at this
  rwa [one_of.1, one_of.2] at this
set_option maxHeartbeats 1000000 in
set_option maxRecDepth 100000 in
theorem awakeI_any (w : World) (hm : Ml w) : Calls Tryd.prog 15 #[] w fun e w' => e = .returned (.bool true) ∧ Below w.heap.size w w' := by
  have HC : Hid (∀ (w : World), Ml w → ∀ b, Blk w b 33 #[.string ⟨#[97]⟩, .int .i64 0, .string ⟨#[104, 105]⟩] → Calls Tryd.prog 12 #[.slice (some ⟨b, 0, none⟩) 1 1] w fun e w' => e = .returned (.tuple #[.string ⟨#[1, 1, 97, 0, 2, 104, 105]⟩, .int .i64 0]) ∧ Below w.heap.size w w') := Lib.hid of_one
  have hB3 := (Below.refl w.heap.size w).alloc (Nat.le_refl _) (.cells #[.string ⟨#[97]⟩, .int .i64 0, .string ⟨#[104, 105]⟩] 33)
  have hm3 := hm.on hB3
  have hk3 := Blk.new w 33 #[.string ⟨#[97]⟩, .int .i64 0, .string ⟨#[104, 105]⟩]
  go_enter Tryd.func15, Tryd.ntmps15
  go_wp2_with (go_at_call 12; with_reducible refine (HC.out _ hm3 _ hk3).mono ?_; rintro e w4 ⟨rfl, hb4⟩)
  go_ret
  exact ⟨rfl, below_on hB3 hb4⟩
end Go.Proofs.YtlfennooocmclaaDoor
