/- Chapter 10: the walks through Drop, the program's and the reference's; ImageDrops. -/
import Derived.Test.YtlfennooocmclaaDoorImBackW
namespace Go.Proofs.YtlfennooocmclaaDoor
open Go.RowKit
set_option linter.unusedVariables false

def dropB (p : ByteArray) (f : FileD) : Bool := decide (f.path ≠ p) && !within f.path.data.toList p.data.toList
def dropF (l : List FileD) (p : ByteArray) : List FileD := l.filter (dropB p)
def dropO (T : Int × List FileD) (p : ByteArray) : Int × ByteArray :=
  if T.1 = 0 then if (dropF T.2 p).length = T.2.length then (8, ⟨#[]⟩) else (ofE (dropF T.2 p), ofS (dropF T.2 p)) else (T.1, ⟨#[]⟩)
section
variable {l : List FileD} {k : Nat} {f : FileD} {p : ByteArray}
theorem drop_same (h : l[k]? = some f) (hp : f.path = p) : (l.drop k).filter (dropB p) = (l.drop (k + 1)).filter (dropB p) := by
  rw [drop_head h, List.filter_cons_of_neg (by unfold dropB; simp [hp])]
theorem drop_in (h : l[k]? = some f) (hp : within f.path.data.toList p.data.toList = true) : (l.drop k).filter (dropB p) = (l.drop (k + 1)).filter (dropB p) := by
  rw [drop_head h, List.filter_cons_of_neg (by unfold dropB; simp [hp])]
theorem drop_keep (h : l[k]? = some f) (hp : f.path ≠ p) (hw : within f.path.data.toList p.data.toList = false) : (l.drop k).filter (dropB p) = f :: (l.drop (k + 1)).filter (dropB p) := by
  rw [drop_head h, List.filter_cons_of_pos (by unfold dropB; simp [hp, hw])]
theorem drop_end (h : l.length ≤ k) : (l.drop k).filter (dropB p) = [] := by rw [List.drop_eq_nil_of_le h]; rfl
end
theorem drop_ok {l : List FileD} {p : ByteArray} (h : ∀ f ∈ l, FOk f) : ∀ f ∈ dropF l p, FOk f := fun f hf => h f (List.mem_filter.1 hf).1
def DropOut (w : World) (D : Int × ByteArray) (e : Ending) (w' : World) : Prop := e = .returned (.tuple #[.string D.2, .int .i64 D.1]) ∧ Below w.heap.size w w'
def DRel (w2 : World) (l R : List FileD) (p : ByteArray) (vo v : Value) (wr : World) : Prop := ∃ (k : Nat) (out : List FileD), k ≤ l.length ∧ v = .int .i64 k ∧ wr.ownsRow w2.heap.size 33 3 vo out.length (fcells out) ∧ out.length ≤ k ∧ Hid (out ++ (l.drop k).filter (dropB p) = R) ∧ Below w2.heap.size w2 wr
set_option maxHeartbeats 4000000 in
set_option maxRecDepth 100000 in
theorem drop_any (s p : ByteArray) (w : World) (hs : s.size ≤ 524288) (hp : p.size ≤ 9223372036854775807) (hm : Ml w) :
    Calls Tryd.prog 20 #[.string s, .string p] w (DropOut w (dropO (treeOf s) p)) := by
  obtain ⟨i2, fi0, fz0, fz1, fz2⟩ := info_parts infoFile
  have hT := tree_any s w (by omega) hm
  have hgo := fun E n h => tree_good s (by omega) (l := n) (E := E) h
  have hle := tree_len s (by omega)
  obtain ⟨E, l, hn⟩ : ∃ E l, treeOf s = (E, l) := ⟨_, _, rfl⟩
  have hgo := hgo E l hn
  rw [hn] at hT hle ⊢
  unfold TreeOut at hT
  simp only [] at hT hle
  have HT := Lib.hid hT
  have HG := Lib.hid hgo
  clear hT hn
  by_cases hE : E = 0
  · have hD : dropO (E, l) p = if (dropF l p).length = l.length then (8, ⟨#[]⟩) else (ofE (dropF l p), ofS (dropF l p)) := if_pos hE
    rw [hD]
    subst hE
    have hro := drop_ok (p := p) hgo
    have hrl : (dropF l p).length ≤ 256 := Nat.le_trans (List.length_filter_le _ _) hle
    obtain ⟨R, hR⟩ : ∃ R, R = dropF l p := ⟨_, rfl⟩
    have HR : Hid ([] ++ (l.drop 0).filter (dropB p) = R) := Lib.hid (by rw [hR]; rfl)
    rw [← hR] at hro hrl ⊢
    have HO := Lib.hid (fun A c W h hm' => of_any A c R W (by omega) hro h hm')
    unfold OfIs at HO
    generalize ofS R = S at *
    generalize ofE R = F at *
    obtain ⟨D, hDD⟩ : ∃ D : Int × ByteArray, D = if R.length = l.length then (8, ⟨#[]⟩) else (F, S) := ⟨_, rfl⟩
    rw [← hDD]
    have HD := Lib.hid hDD
    clear hDD
    clear hR hro hD hgo
    go_enter Tryd.func20, Tryd.ntmps20
    go_wp2_with (go_at_call 17; (with_reducible refine HT.out.mono ?_); rintro e w2 ⟨vf, rfl, hown, hB⟩; obtain ⟨A, c, rfl, hcap, ha, hfr⟩ := own_arr hown; have HA := Lib.hid ha; clear ha hown hfr)
    go_loopw [8, 21] (fun vo v wr => DRel w2 l R p vo v wr) (fun _ v _ => l.length - (intOf v).toNat)
    case atStart => unfold DRel; exact ⟨0, [], Nat.zero_le _, rfl, World.ownsRow_nil _ _ _ _, Nat.le_refl _, HR, Below.refl _ _⟩
    case round =>
      unfold DRel at hrel
      clear HR
      obtain ⟨k, out, hk, rfl, hown, hol, HK, hBB⟩ := hrel
      have hbse := hBB.size
      by_cases hlt : k < l.length
      · obtain ⟨f, hf⟩ : ∃ f, l[k]? = some f := ⟨_, List.getElem?_eq_getElem hlt⟩
        obtain ⟨b, o, rfl, hb, hcell⟩ := HA.out.2 (by omega)
        obtain ⟨c0, c1, c2⟩ := file_cells (fun i u h => (hBB.cell (p := ⟨b, o + i, none⟩) hb).trans (hcell i u h)) hf
        have hfx := HG.out f (List.mem_of_getElem? hf)
        have HW := Lib.hid (fun W => within_any f.path p W hfx.1 hp)
        have hBx := hBB.alloc hbse (.cells #[.string f.path, .int .i64 f.mode, .string f.data] 33)
        have hownX := hown.alloc (.cells #[.string f.path, .int .i64 f.mode, .string f.data] 33)
        have hsX := hBx.size
        have hbox := Blk.new wr 33 #[.string f.path, .int .i64 f.mode, .string f.data]
        obtain ⟨k0, k1, k2⟩ := fbox_cells hbox
        have f1 := fun h => (congrArg (out ++ ·) (drop_same hf h)).symm.trans HK.out
        have f2 := fun h => (congrArg (out ++ ·) (drop_in hf h)).symm.trans HK.out
        have f3 := fun h h2 => (congrArg (out ++ ·) (drop_keep hf h h2)).symm.trans HK.out
        generalize within f.path.data.toList p.data.toList = B at *
        clear hf hcell HK
        by_cases hpe : f.path = p
        · have HST := Lib.hid (f1 hpe)
          have g1 : (f.path.toList == p.toList) = true := by rw [hpe]; exact beq_self_eq_true _
          have g2 : (f.path.toList != p.toList) = false := by rw [hpe]; simp
          clear f1 f2 f3 hpe
          go_wp2
          go_roundw
          case rel => unfold DRel; exact ⟨k + 1, out, by omega, by go_num, hownX, by omega, HST, hBx⟩
          case measure => simp [intOf] <;> omega
        · have g1 := str_ne hpe
          have g2 : (f.path.toList != p.toList) = true := by rw [bne, g1]; rfl
          cases B
          · have HST := Lib.hid (show (out ++ [f]) ++ (l.drop (k + 1)).filter (dropB p) = R by have := f3 hpe rfl; simpa using this)
            clear f1 f2 f3
            go_wp2_with (first
              | (go_at_call 39; (with_reducible refine (HW.out _).mono ?_); rintro e w3 ⟨rfl, hb3⟩; have hBx := hBx.trans (hb3.mono hBx.size); have hown3 := own_below hownX hb3; have hs3 := hBx.size; have hbox3 := hbox.below hb3 hbox.lt; obtain ⟨m0, m1, m2⟩ := fbox_cells hbox3)
              | (at_builtin; refine wpList_push rfl _ _ _ rfl Tryd.underlying22 fi0 fz0 fz1 fz2 file_zero (by decide) hown3 rfl rfl rfl (file_one f) (by unfold maxLen; omega) (by omega) hs3 ?_; intro g6 cap6 w6 hown6 hgr6 hat6; have hB6 := hBx.grown hgr6 hs3 (fun j hj => (hown3.lt j hj).1)))
            go_roundw
            case rel => unfold DRel; exact ⟨k + 1, out ++ [f], by omega, by go_num, by rw [List.length_append, fcells_snoc]; exact hown6, by simp; omega, HST, hB6⟩
            case measure => simp [intOf] <;> omega
          · have HST := Lib.hid (f2 rfl)
            clear f1 f2 f3
            go_wp2_with (go_at_call 39; (with_reducible refine (HW.out _).mono ?_); rintro e w3 ⟨rfl, hb3⟩; have hBx := hBx.trans (hb3.mono hBx.size); have hown3 := own_below hownX hb3)
            go_roundw
            case rel => unfold DRel; exact ⟨k + 1, out, by omega, by go_num, hown3, by omega, HST, hBx⟩
            case measure => simp [intOf] <;> omega
      · have hH := HK.out
        rw [drop_end (by omega), List.append_nil] at hH
        subst hH
        obtain ⟨A4, c4, rfl, hcap4, ha4, hfr4⟩ := own_arr hown
        have HA4 := Lib.hid ha4
        have hB4 := below_on hB hBB
        clear HK ha4
        by_cases hl : out.length = l.length
        · have hd := HD.out
          rw [if_pos hl] at hd
          subst hd
          have g1 : ((out.length : Int) == (l.length : Int)) = true := by rw [hl]; exact beq_self_eq_true _
          have HL := Lib.hid hl
          clear hl HD
          go_wp2
          go_ret2
          unfold DropOut
          exact ⟨rfl, hB4⟩
        · have hd := HD.out
          rw [if_neg hl] at hd
          subst hd
          have g1 : ((out.length : Int) == (l.length : Int)) = false := by rw [beq_eq_false_iff_ne]; omega
          clear hl HD
          go_wp2_with (go_at_call 12; (with_reducible refine (HO.out _ _ _ HA4.out (hm.on hB4)).mono ?_); rintro e w5 ⟨rfl, hb5⟩)
          go_ret2
          unfold DropOut
          exact ⟨rfl, below_on hB4 hb5⟩
  · have hD : dropO (E, l) p = (E, ⟨#[]⟩) := if_neg hE
    rw [hD]
    have e0 : (E == 0) = false := by rw [beq_eq_false_iff_ne]; exact hE
    go_enter Tryd.func20, Tryd.ntmps20
    go_wp2_with (go_at_call 17; (with_reducible refine HT.out.mono ?_); rintro e w2 ⟨vf, rfl, hown, hB⟩; obtain ⟨A, c, rfl, hcap, ha, hfr⟩ := own_arr hown)
    go_ret2
    unfold DropOut
    exact ⟨rfl, hB⟩
set_option maxHeartbeats 4000000 in
set_option maxRecDepth 100000 in
theorem drop_ref (s p : ByteArray) (w : World) (hs : s.size ≤ 524288) (hp : p.size ≤ 9223372036854775807) :
    Calls Tryd.prog 21 #[.string s, .string p] w (DropOut w (dropO (treeOf s) p)) := by
  obtain ⟨i2, fi0, fz0, fz1, fz2⟩ := info_parts infoFile
  have hT := tree_ref s w (by omega)
  have hgo := fun E n h => tree_good s (by omega) (l := n) (E := E) h
  have hgs := fun n h => tree_canon (s := s) (l := n) (by omega) h
  have hle := tree_len s (by omega)
  obtain ⟨E, l, hn⟩ : ∃ E l, treeOf s = (E, l) := ⟨_, _, rfl⟩
  have hgo := hgo E l hn
  have hgs := hgs l
  rw [hn] at hT hle hgs ⊢
  unfold TreeOut at hT
  simp only [] at hT hle
  have HT := Lib.hid hT
  clear hT hn
  by_cases hE : E = 0
  · have hD : dropO (E, l) p = if (dropF l p).length = l.length then (8, ⟨#[]⟩) else (ofE (dropF l p), ofS (dropF l p)) := if_pos hE
    rw [hD]
    subst hE
    have HP : Hid (∀ f ∈ l, f.path.size ≤ 200) := Lib.hid (fun f hf => ((check_good (of_zero (hgs rfl).1).1).2 f hf).long)
    have hro := drop_ok (p := p) hgo
    have hrl : (dropF l p).length ≤ 256 := Nat.le_trans (List.length_filter_le _ _) hle
    obtain ⟨R, hR⟩ : ∃ R, R = dropF l p := ⟨_, rfl⟩
    have HR : Hid ([] ++ (l.drop 0).filter (dropB p) = R) := Lib.hid (by rw [hR]; rfl)
    rw [← hR] at hro hrl ⊢
    have HO := Lib.hid (fun A c W h => of_ref A c R W (by omega) hro h)
    unfold OfIs at HO
    generalize ofS R = S at *
    generalize ofE R = F at *
    obtain ⟨D, hDD⟩ : ∃ D : Int × ByteArray, D = if R.length = l.length then (8, ⟨#[]⟩) else (F, S) := ⟨_, rfl⟩
    rw [← hDD]
    have HD := Lib.hid hDD
    clear hDD
    clear hR hro hD hgo hgs
    go_enter Tryd.func21, Tryd.ntmps21
    go_wp2_with (go_at_call 18; (with_reducible refine HT.out.mono ?_); rintro e w2 ⟨vf, rfl, hown, hB⟩; obtain ⟨A, c, rfl, hcap, ha, hfr⟩ := own_arr hown; have HA := Lib.hid ha; clear ha hown hfr)
    go_loopw [8, 9] (fun vo v wr => DRel w2 l R p vo v wr) (fun _ v _ => l.length - (intOf v).toNat)
    case atStart => unfold DRel; exact ⟨0, [], Nat.zero_le _, rfl, World.ownsRow_nil _ _ _ _, Nat.le_refl _, HR, Below.refl _ _⟩
    case round =>
      unfold DRel at hrel
      clear HR
      obtain ⟨k, out, hk, rfl, hown, hol, HK, hBB⟩ := hrel
      have hbse := hBB.size
      by_cases hlt : k < l.length
      · obtain ⟨f, hf⟩ : ∃ f, l[k]? = some f := ⟨_, List.getElem?_eq_getElem hlt⟩
        obtain ⟨b, o, rfl, hb, hcell⟩ := HA.out.2 (by omega)
        obtain ⟨c0, c1, c2⟩ := file_cells (fun i u h => (hBB.cell (p := ⟨b, o + i, none⟩) hb).trans (hcell i u h)) hf
        have hfx := HP.out f (List.mem_of_getElem? hf)
        have HW := Lib.hid (fun W => within_ref f.path p W (by omega) hp)
        have kl : (k : Int) < l.length := by omega
        have f1 := fun h => (congrArg (out ++ ·) (drop_same hf h)).symm.trans HK.out
        have f2 := fun h => (congrArg (out ++ ·) (drop_in hf h)).symm.trans HK.out
        have f3 := fun h h2 => (congrArg (out ++ ·) (drop_keep hf h h2)).symm.trans HK.out
        generalize within f.path.data.toList p.data.toList = B at *
        clear hf hcell HK
        by_cases hpe : f.path = p
        · have HST := Lib.hid (f1 hpe)
          have g1 : (f.path.toList == p.toList) = true := by rw [hpe]; exact beq_self_eq_true _
          have g2 : (f.path.toList != p.toList) = false := by rw [hpe]; simp
          obtain ⟨A7, c7, rfl, hcap7, ha7, hfr7⟩ := own_arr hown
          clear f1 f2 f3 ha7 hfr7 hpe
          go_wp2
          go_roundw
          case rel => unfold DRel; exact ⟨k + 1, out, by omega, by go_num, hown, by omega, HST, hBB⟩
          case measure => simp [intOf] <;> omega
        · have g1 := str_ne hpe
          have g2 : (f.path.toList != p.toList) = true := by rw [bne, g1]; rfl
          cases B
          · have HST := Lib.hid (show (out ++ [f]) ++ (l.drop (k + 1)).filter (dropB p) = R by have := f3 hpe rfl; simpa using this)
            clear f1 f2 f3
            go_wp2_with (first
              | (go_at_call 40; (with_reducible refine (HW.out _).mono ?_); rintro e w3 ⟨rfl, rfl⟩)
              | (at_builtin; refine wpList_push rfl _ _ _ rfl Tryd.underlying22 fi0 fz0 fz1 fz2 file_zero (by decide) hown rfl rfl rfl (file_one f) (by unfold maxLen; omega) (by omega) hbse ?_; intro g6 cap6 w6 hown6 hgr6 hat6; have hB6 := hBB.grown hgr6 hbse (fun j hj => (hown.lt j hj).1)))
            go_roundw
            case rel => unfold DRel; exact ⟨k + 1, out ++ [f], by omega, by go_num, by rw [List.length_append, fcells_snoc]; exact hown6, by simp; omega, HST, hB6⟩
            case measure => simp [intOf] <;> omega
          · have HST := Lib.hid (f2 rfl)
            obtain ⟨A7, c7, rfl, hcap7, ha7, hfr7⟩ := own_arr hown
            clear f1 f2 f3 ha7 hfr7
            go_wp2_with (go_at_call 40; (with_reducible refine (HW.out _).mono ?_); rintro e w3 ⟨rfl, rfl⟩)
            go_roundw
            case rel => unfold DRel; exact ⟨k + 1, out, by omega, by go_num, hown, by omega, HST, hBB⟩
            case measure => simp [intOf] <;> omega
      · have hH := HK.out
        rw [drop_end (by omega), List.append_nil] at hH
        subst hH
        obtain ⟨A4, c4, rfl, hcap4, ha4, hfr4⟩ := own_arr hown
        have HA4 := Lib.hid ha4
        have hB4 := below_on hB hBB
        clear HK ha4
        by_cases hl : out.length = l.length
        · have hd := HD.out
          rw [if_pos hl] at hd
          subst hd
          have g1 : ((out.length : Int) == (l.length : Int)) = true := by rw [hl]; exact beq_self_eq_true _
          have HL := Lib.hid hl
          clear hl HD
          go_wp2
          go_ret2
          unfold DropOut
          exact ⟨rfl, hB4⟩
        · have hd := HD.out
          rw [if_neg hl] at hd
          subst hd
          have g1 : ((out.length : Int) == (l.length : Int)) = false := by rw [beq_eq_false_iff_ne]; omega
          clear hl HD
          go_wp2_with (go_at_call 13; (with_reducible refine (HO.out _ _ _ HA4.out).mono ?_); rintro e w5 ⟨rfl, hb5⟩)
          go_ret2
          unfold DropOut
          exact ⟨rfl, below_on hB4 hb5⟩
  · have hD : dropO (E, l) p = (E, ⟨#[]⟩) := if_neg hE
    rw [hD]
    have e0 : (E == 0) = false := by rw [beq_eq_false_iff_ne]; exact hE
    go_enter Tryd.func21, Tryd.ntmps21
    go_wp2_with (go_at_call 18; (with_reducible refine HT.out.mono ?_); rintro e w2 ⟨vf, rfl, hown, hB⟩; obtain ⟨A, c, rfl, hcap, ha, hfr⟩ := own_arr hown)
    go_ret2
    unfold DropOut
    exact ⟨rfl, hB⟩
set_option maxHeartbeats 1000000 in
set_option maxRecDepth 100000 in
theorem law_drops (s p : ByteArray) (w : World) (hs : s.size ≤ 9223372036854775807) (hp : p.size ≤ 9223372036854775807) (hm : Ml w) :
    Calls Tryd.prog 7 #[.string s, .string p] w fun e w' => e = .returned (.bool true) ∧ Below w.heap.size w w' := by
  have HA := Lib.hid awakeI_any
  have HC := Lib.hid (cut_any s w hs)
  have h2 := cut_size s
  generalize cutS s = t at *
  have F1 := Lib.hid (fun W hm' => drop_any t p W (by omega) hp hm')
  have F2 := Lib.hid (fun W => drop_ref t p W (by omega) hp)
  generalize dropO (treeOf t) p = D at *
  obtain ⟨E, S⟩ := D
  unfold DropOut at F1 F2
  simp only [] at F1 F2
  have hB : Below w.heap.size w w := Below.refl _ _
  go_enter Tryd.func7, Tryd.ntmps7
  go_wp2_with (first
    | (go_at_call 16; (with_reducible refine HC.out.mono ?_); rintro e w0 ⟨rfl, rfl⟩)
    | (go_at_call 20; (with_reducible refine (F1.out _ (hm.on hB)).mono ?_); rintro e w1 ⟨rfl, hb1⟩; have hB := below_on hB hb1)
    | (go_at_call 21; (with_reducible refine (F2.out _).mono ?_); rintro e w2 ⟨rfl, hb2⟩; have hB := below_on hB hb2)
    | (go_at_call 15; (with_reducible refine (HA.out _ (hm.on hB)).mono ?_); rintro e w5 ⟨rfl, hb5⟩; have hB := below_on hB hb5))
  go_ret
  exact ⟨rfl, hB⟩
end Go.Proofs.YtlfennooocmclaaDoor
