/- Chapter 10: the walk through the reference's Merge. -/
import Derived.Test.YtlfennooocmclaaDoorIm14
namespace Go.Proofs.YtlfennooocmclaaDoor
open Go.RowKit
set_option linter.unusedVariables false

theorem ifold_len : ∀ (l acc : List FileD), (l.foldl (fun out f => insGo f false out) acc).length = l.length + acc.length
  | [], acc => by simp
  | f :: l, acc => by rw [List.foldl_cons, ifold_len l, insGo_len, List.length_cons]; simp; omega
theorem isort_len (l : List FileD) : (sortS l).length = l.length := by unfold sortS; rw [ifold_len]; simp
theorem rlike_at {N : Nat} {A B : Option Addr} {c d : Nat} {a b : List FileD} {p : ByteArray} {w5 w : World} {t : Bool} (ht : likeO (lookF p a) (lookF p b) = t) (hl : a.length ≤ 1000) (hl2 : b.length ≤ 1000) (ha : Arr w5 w5.heap.size 3 A a.length (fcells a)) (hb : Arr w5 w5.heap.size 3 B b.length (fcells b)) (hB : Below w5.heap.size w5 w) :
    Calls Tryd.prog 46 #[.slice A a.length c, .slice B b.length d, .string p] w fun e w' => e = .returned (.bool t) ∧ Below w.heap.size w w' := by
  have := like_ref A B c d a b p w hl hl2 ((ha.below hB).more hB.size) ((hb.below hB).more hB.size)
  unfold LikeOut at this
  rw [ht] at this
  exact this
section
variable {l : List FileD} {acc : List FileD} {k : Nat} {f : FileD}
theorem g_none (h : l[k]? = some f) (hn : lookF f.path acc = none) : (l.drop k).foldl gstep acc = (l.drop (k + 1)).foldl gstep (acc ++ [pfile f.path]) := by rw [drop_head h, List.foldl_cons, show gstep acc f = acc ++ [pfile f.path] from if_pos hn]
theorem g_some {g : FileD} (h : l[k]? = some f) (hn : lookF f.path acc = some g) : (l.drop k).foldl gstep acc = (l.drop (k + 1)).foldl gstep acc := by rw [drop_head h, List.foldl_cons, show gstep acc f = acc from if_neg (by rw [hn]; simp)]
end
def G3Rel (w3 : World) (L G : List FileD) (va v : Value) (wr : World) : Prop := ∃ (k : Nat) (acc : List FileD), k ≤ L.length ∧ v = .int .i64 k ∧ wr.ownsRow w3.heap.size 33 3 va acc.length (fcells acc) ∧ acc.length ≤ k ∧ Hid ((L.drop k).foldl gstep acc = G) ∧ Below w3.heap.size w3 wr
def RRel (w5 : World) (x y z : List FileD) (U : List ByteArray) (R : List FileD) (T : List ByteArray) (vo vt v : Value) (wr : World) : Prop := ∃ (k : Nat) (out : List FileD) (told : List ByteArray), k ≤ U.length ∧ v = .int .i64 k ∧ wr.ownsRow w5.heap.size 33 3 vo out.length (fcells out) ∧ wr.ownsRow w5.heap.size 9 1 vt told.length (told.map Value.string) ∧ out.length ≤ k ∧ told.length ≤ k ∧
  Hid (out ++ mOut x y z (U.drop k) = R) ∧ Hid (told ++ mTold x y z (U.drop k) = T) ∧ Below w5.heap.size w5 wr
/-- One of three lists, by one number. -/
theorem xyz_get {x y z : List FileD} {k : Nat} {f : FileD} (h : ((x ++ y) ++ z)[k]? = some f) :
    (k < x.length ∧ x[k]? = some f) ∨ (x.length ≤ k ∧ k < x.length + y.length ∧ y[k - x.length]? = some f) ∨ (x.length + y.length ≤ k ∧ z[k - x.length - y.length]? = some f) := by
  by_cases h1 : k < x.length
  · left
    rw [List.getElem?_append_left (by rw [List.length_append]; omega), List.getElem?_append_left h1] at h
    exact ⟨h1, h⟩
  · by_cases h2 : k < x.length + y.length
    · right; left
      rw [List.getElem?_append_left (by rw [List.length_append]; omega), List.getElem?_append_right (by omega)] at h
      exact ⟨by omega, h2, h⟩
    · right; right
      rw [List.getElem?_append_right (by rw [List.length_append]; omega), List.length_append] at h
      exact ⟨by omega, by rw [Nat.sub_sub]; exact h⟩
set_option maxHeartbeats 8000000 in
set_option maxRecDepth 100000 in
theorem merge_ref_ok (s1 s2 s3 : ByteArray) (x y z : List FileD) (w : World) (h1 : s1.size ≤ 524288) (h2 : s2.size ≤ 524288) (h3 : s3.size ≤ 524288) (e1 : treeOf s1 = (0, x)) (e2 : treeOf s2 = (0, y)) (e3 : treeOf s3 = (0, z)) :
    Calls Tryd.prog 23 #[.string s1, .string s2, .string s3] w (MrOut w (mergeT (0, x) (0, y) (0, z))) := by
  obtain ⟨i1, fi0, fz0, fz1, fz2⟩ := info_parts infoFile
  obtain ⟨i2, si0, sz0, sz1, sz2⟩ := info_parts infoStr
  have T1 := fun W => tree_ref s1 W (by omega)
  have T2 := fun W => tree_ref s2 W (by omega)
  have T3 := fun W => tree_ref s3 W (by omega)
  rw [e1] at T1
  rw [e2] at T2
  rw [e3] at T3
  unfold TreeOut at T1 T2 T3
  simp only [] at T1 T2 T3
  have T1 := Lib.hid T1
  have T2 := Lib.hid T2
  have T3 := Lib.hid T3
  have x1 := tree_good s1 (by omega) e1
  have x2 := tree_good s2 (by omega) e2
  have x3 := tree_good s3 (by omega) e3
  obtain ⟨q1, k1⟩ := check_good (of_zero (tree_canon (by omega) e1).1).1
  obtain ⟨q2, k2⟩ := check_good (of_zero (tree_canon (by omega) e2).1).1
  obtain ⟨q3, k3⟩ := check_good (of_zero (tree_canon (by omega) e3).1).1
  have p1 := check_pw (of_zero (tree_canon (by omega) e1).1).1
  have p2 := check_pw (of_zero (tree_canon (by omega) e2).1).1
  have p3 := check_pw (of_zero (tree_canon (by omega) e3).1).1
  have hne : PNe x ∧ PNe y ∧ PNe z := ⟨fun f hf => good_ne (k1 f hf), fun f hf => good_ne (k2 f hf), fun f hf => good_ne (k3 f hf)⟩
  have hsg := sort_gath hne.1 hne.2.1 hne.2.2 p1 p2 p3
  have hUl : (uni3 x y z).length ≤ 768 := Nat.le_trans (p3_len _ x y z) (by omega)
  obtain ⟨_, gf2, gf3, gf4⟩ := gath_fold ((x ++ y) ++ z) [] List.Pairwise.nil (by simp)
  have hgl : (gath3 x y z).length ≤ 768 := by
    have : (gath3 x y z).length ≤ 0 + ((x ++ y) ++ z).length := gf4
    simp only [List.length_append] at this
    omega
  have hgx : ∀ f ∈ gath3 x y z, FOk f := by
    intro f hf
    obtain ⟨p, rfl⟩ := gf2 f hf
    refine ⟨?_, by show (0 : Nat) ≤ _; omega⟩
    rcases (gf3 p).1 ⟨_, hf, rfl⟩ with ⟨g, hg, _⟩ | ⟨g, hg, he⟩
    · simp at hg
    · show p.size ≤ _
      rw [← he]
      rcases List.mem_append.1 hg with hg | hg
      · rcases List.mem_append.1 hg with hg | hg
        · exact (x1 g hg).1
        · exact (x2 g hg).1
      · exact (x3 g hg).1
  have HG0 : Hid (((((x ++ y) ++ z)).drop 0).foldl gstep [] = gath3 x y z) := Lib.hid rfl
  have hRok := mOut_ok (x := x) x2 x3 (uni3 x y z)
  have hRl : (mOut x y z (uni3 x y z)).length ≤ 768 := Nat.le_trans (by unfold mOut; exact List.length_filterMap_le _ _) hUl
  have hD : mergeT (0, x) (0, y) (0, z) = if ofE (mOut x y z (uni3 x y z)) ≠ 0 then ⟨⟨#[]⟩, [], ofE (mOut x y z (uni3 x y z))⟩ else ⟨ofS (mOut x y z (uni3 x y z)), mTold x y z (uni3 x y z), 0⟩ := by
    unfold mergeT
    simp only []
    rw [if_neg (by decide), if_neg (by decide), if_neg (by decide)]
  have HST0 : Hid ([] ++ mOut x y z ((uni3 x y z).drop 0) = mOut x y z (uni3 x y z)) := Lib.hid rfl
  have HTT0 : Hid ([] ++ mTold x y z ((uni3 x y z).drop 0) = mTold x y z (uni3 x y z)) := Lib.hid rfl
  rw [hD]
  clear hD e1 e2 e3 k1 k2 k3 hne gf2 gf3 gf4 x1 x2 x3 p1 p2 p3
  have hsl := isort_len (gath3 x y z)
  generalize uni3 x y z = U at *
  generalize gath3 x y z = G at *
  have hUG : U.length = G.length := by rw [hsg, List.length_map] at hsl; exact hsl
  have HSG := Lib.hid hsg
  have HGX := Lib.hid hgx
  clear hsg hsl hgx
  generalize mOut x y z U = R at *
  generalize mTold x y z U = T at *
  have HO := Lib.hid (fun A c W h => of_ref A c R W (by omega) hRok h)
  unfold OfIs at HO
  generalize ofS R = S at *
  generalize ofE R = F at *
  obtain ⟨D, hDD⟩ : ∃ D : MrD, D = if F ≠ 0 then ⟨⟨#[]⟩, [], F⟩ else ⟨S, T, 0⟩ := ⟨_, rfl⟩
  rw [← hDD]
  have HD := Lib.hid hDD
  clear hDD hRok
  obtain ⟨L, hL⟩ : ∃ L, L = (x ++ y) ++ z := ⟨_, rfl⟩
  rw [← hL] at HG0
  have hLl : L.length = x.length + y.length + z.length := by rw [hL]; simp; omega
  have HL := Lib.hid hL
  clear hL
  go_enter Tryd.func23, Tryd.ntmps23
  go_wp2_with (first
    | (go_at_call 18; (with_reducible refine (T1.out _).mono ?_); rintro e w1 ⟨v1, rfl, hown1, hb1⟩; obtain ⟨A1, c1, rfl, hcap1, ha1, hfr1⟩ := own_arr hown1; have HA1 := Lib.hid ha1; clear ha1 hown1 hfr1)
    | (go_at_call 18; (with_reducible refine (T2.out _).mono ?_); rintro e w2 ⟨v2, rfl, hown2, hb2⟩; obtain ⟨A2, c2, rfl, hcap2, ha2, hfr2⟩ := own_arr hown2; have HA2 := Lib.hid ha2; clear ha2 hown2 hfr2; have hB2 := below_on hb1 hb2; have HA1 := Lib.hid (Arr.on3 HA1.out hb2))
    | (go_at_call 18; (with_reducible refine (T3.out _).mono ?_); rintro e w3 ⟨v3, rfl, hown3, hb3⟩; obtain ⟨A3, c3, rfl, hcap3, ha3, hfr3⟩ := own_arr hown3; have HA3 := Lib.hid ha3; clear ha3 hown3 hfr3; have hB3 := below_on hB2 hb3; have HA1 := Lib.hid (Arr.on3 HA1.out hb3); have HA2 := Lib.hid (Arr.on3 HA2.out hb3)))
  have hLz := hLl
  go_loopw [15, 16] (fun va v wr => G3Rel w3 L G va v wr) (fun _ v _ => L.length - (intOf v).toNat)
  case atStart => unfold G3Rel; exact ⟨0, [], Nat.zero_le _, rfl, World.ownsRow_nil _ _ _ _, Nat.le_refl _, HG0, Below.refl _ _⟩
  case round =>
    clear HG0
    unfold G3Rel at hrel
    obtain ⟨k, acc, hk, rfl, hown, hal, HK, hB⟩ := hrel
    have hbse := hB.size
    by_cases hlt : k < L.length
    · obtain ⟨f, hf⟩ : ∃ f, L[k]? = some f := ⟨_, List.getElem?_eq_getElem hlt⟩
      have hxyz := hf
      rw [HL.out] at hxyz
      have hxyz := xyz_get hxyz
      have hac : acc.length ≤ 1000 := by omega
      have k3 : (k : Int) < (x.length : Int) + y.length + z.length := by omega
      obtain ⟨A7, c7, rfl, hcap7, ha7, hfr7⟩ := own_arr hown
      have HF := Lib.hid (find_ref A7 c7 acc f.path wr (by omega) ha7)
      have f1 := fun h => (g_none (acc := acc) hf h).symm.trans HK.out
      have f2 := fun (g : FileD) h => (g_some (acc := acc) (g := g) hf h).symm.trans HK.out
      have hLe : Hid (L.length = x.length + y.length + z.length) := Lib.hid hLl
      clear hf HK ha7 hfr7 hLl hLz
      have hlt' : k < x.length + y.length + z.length := by rw [← hLe.out]; exact hlt
      cases hlk : lookF f.path acc with
      | none =>
        have HST := Lib.hid (f1 hlk)
        rw [placeF_none hlk] at HF
        clear f1 f2 hlk
        rcases hxyz with ⟨hh, hx⟩ | ⟨hh1, hh2, hx⟩ | ⟨hh1, hx⟩
        · obtain ⟨b, o, rfl, hb, hcell⟩ := HA1.out.2 (by have := (List.getElem?_eq_some_iff.1 hx).1; omega)
          obtain ⟨J, hJ⟩ : ∃ J, J = k := ⟨_, rfl⟩
          rw [← hJ] at hx
          have hJl := (List.getElem?_eq_some_iff.1 hx).1
          obtain ⟨c0, _, _⟩ := file_cells (fun i u h => (hB.cell (p := ⟨b, o + i, none⟩) hb).trans (hcell i u h)) hx
          subst hJ
          have g1 : (J : Int) < x.length := by omega
          clear hx hcell
          go_wp2_with (first
            | (go_at_call 44; (with_reducible refine HF.out.mono ?_); rintro e w4 ⟨rfl, hb4⟩; have hown4 := own_below hown hb4; have hB4 := below_on hB hb4; have hs4 := hB4.size)
            | (at_builtin; refine wpList_push rfl _ _ _ rfl Tryd.underlying22 fi0 fz0 fz1 fz2 file_zero (by decide) hown4 rfl rfl rfl (file_one (pfile f.path)) (by unfold maxLen; omega) (by omega) hs4 ?_; intro g6 cap6 w6 hown6 hgr6 hat6; have hB6 := hB4.grown hgr6 hs4 (fun j hj => (hown4.lt j hj).1)))
          go_roundw
          case rel => unfold G3Rel; exact ⟨_, acc ++ [pfile f.path], hlt, by go_num, by rw [List.length_append, fcells_snoc]; exact hown6, by simp; omega, HST, hB6⟩
          case measure => simp [intOf] <;> omega
        · obtain ⟨b, o, rfl, hb, hcell⟩ := HA2.out.2 (by have := (List.getElem?_eq_some_iff.1 hx).1; omega)
          obtain ⟨J, hJ⟩ : ∃ J, J = k - x.length := ⟨_, rfl⟩
          rw [← hJ] at hx
          have hJl := (List.getElem?_eq_some_iff.1 hx).1
          obtain ⟨c0, _, _⟩ := file_cells (fun i u h => (hB.cell (p := ⟨b, o + i, none⟩) hb).trans (hcell i u h)) hx
          have hJk : k = x.length + J := by omega
          subst hJk
          have g1 : ¬ ((x.length + J : Nat) : Int) < x.length := by omega
          have g1' : ¬ (x.length : Int) + J < x.length := by omega
          have g2 : ((x.length + J : Nat) : Int) < (x.length : Int) + y.length := by omega
          have g2' : (x.length : Int) + J < (x.length : Int) + y.length := by omega
          have g3 : (x.length : Int) + J - x.length = J := by omega
          have g4 : (J : Int) < y.length := by omega
          have g5 : 0 ≤ (J : Int) := by omega
          have g6 : (x.length : Int) + J < (x.length : Int) + y.length + z.length := by omega
          clear hx hcell hJ
          go_wp2_with (first
            | (go_at_call 44; (with_reducible refine HF.out.mono ?_); rintro e w4 ⟨rfl, hb4⟩; have hown4 := own_below hown hb4; have hB4 := below_on hB hb4; have hs4 := hB4.size)
            | (at_builtin; refine wpList_push rfl _ _ _ rfl Tryd.underlying22 fi0 fz0 fz1 fz2 file_zero (by decide) hown4 rfl rfl rfl (file_one (pfile f.path)) (by unfold maxLen; omega) (by omega) hs4 ?_; intro g6 cap6 w6 hown6 hgr6 hat6; have hB6 := hB4.grown hgr6 hs4 (fun j hj => (hown4.lt j hj).1)))
          go_roundw
          case rel => unfold G3Rel; exact ⟨_, acc ++ [pfile f.path], hlt, by go_num, by rw [List.length_append, fcells_snoc]; exact hown6, by simp; omega, HST, hB6⟩
          case measure => simp [intOf] <;> omega
        · obtain ⟨b, o, rfl, hb, hcell⟩ := HA3.out.2 (by have := (List.getElem?_eq_some_iff.1 hx).1; omega)
          obtain ⟨J, hJ⟩ : ∃ J, J = k - x.length - y.length := ⟨_, rfl⟩
          rw [← hJ] at hx
          have hJl := (List.getElem?_eq_some_iff.1 hx).1
          obtain ⟨c0, _, _⟩ := file_cells (fun i u h => (hB.cell (p := ⟨b, o + i, none⟩) hb).trans (hcell i u h)) hx
          have hJk : k = x.length + y.length + J := by omega
          subst hJk
          have g1 : ¬ (x.length : Int) + y.length + J < x.length := by omega
          have g2 : ¬ (x.length : Int) + y.length + J < (x.length : Int) + y.length := by omega
          have g3 : (x.length : Int) + y.length + J - x.length - y.length = J := by omega
          have g3' : (x.length : Int) + y.length + J - x.length = y.length + J := by omega
          have g3'' : (y.length : Int) + J - y.length = J := by omega
          have g4 : (J : Int) < z.length := by omega
          have g5 : 0 ≤ (J : Int) := by omega
          have g6 : (x.length : Int) + y.length + J < (x.length : Int) + y.length + z.length := by omega
          clear hx hcell hJ
          go_wp2_with (first
            | (go_at_call 44; (with_reducible refine HF.out.mono ?_); rintro e w4 ⟨rfl, hb4⟩; have hown4 := own_below hown hb4; have hB4 := below_on hB hb4; have hs4 := hB4.size)
            | (at_builtin; refine wpList_push rfl _ _ _ rfl Tryd.underlying22 fi0 fz0 fz1 fz2 file_zero (by decide) hown4 rfl rfl rfl (file_one (pfile f.path)) (by unfold maxLen; omega) (by omega) hs4 ?_; intro g6 cap6 w6 hown6 hgr6 hat6; have hB6 := hB4.grown hgr6 hs4 (fun j hj => (hown4.lt j hj).1)))
          go_roundw
          case rel => unfold G3Rel; exact ⟨_, acc ++ [pfile f.path], hlt, by go_num, by rw [List.length_append, fcells_snoc]; exact hown6, by simp; omega, HST, hB6⟩
          case measure => simp [intOf] <;> omega
      | some g =>
        have HST := Lib.hid (f2 g hlk)
        obtain ⟨i, hi, hg⟩ := placeF_some (k := 0) hlk
        rw [hi] at HF
        rw [Nat.zero_add] at HF
        have i0 : ¬ (i : Int) < 0 := by omega
        clear f1 f2 hlk hi hg
        rcases hxyz with ⟨hh, hx⟩ | ⟨hh1, hh2, hx⟩ | ⟨hh1, hx⟩
        · obtain ⟨b, o, rfl, hb, hcell⟩ := HA1.out.2 (by have := (List.getElem?_eq_some_iff.1 hx).1; omega)
          obtain ⟨J, hJ⟩ : ∃ J, J = k := ⟨_, rfl⟩
          rw [← hJ] at hx
          have hJl := (List.getElem?_eq_some_iff.1 hx).1
          obtain ⟨c0, _, _⟩ := file_cells (fun i u h => (hB.cell (p := ⟨b, o + i, none⟩) hb).trans (hcell i u h)) hx
          subst hJ
          have g1 : (J : Int) < x.length := by omega
          clear hx hcell
          go_wp2_with (go_at_call 44; (with_reducible refine HF.out.mono ?_); rintro e w4 ⟨rfl, hb4⟩; have hown4 := own_below hown hb4; have hB4 := below_on hB hb4; have hs4 := hB4.size)
          go_roundw
          case rel => unfold G3Rel; exact ⟨_, acc, hlt, by go_num, hown4, by omega, HST, hB4⟩
          case measure => simp [intOf] <;> omega
        · obtain ⟨b, o, rfl, hb, hcell⟩ := HA2.out.2 (by have := (List.getElem?_eq_some_iff.1 hx).1; omega)
          obtain ⟨J, hJ⟩ : ∃ J, J = k - x.length := ⟨_, rfl⟩
          rw [← hJ] at hx
          have hJl := (List.getElem?_eq_some_iff.1 hx).1
          obtain ⟨c0, _, _⟩ := file_cells (fun i u h => (hB.cell (p := ⟨b, o + i, none⟩) hb).trans (hcell i u h)) hx
          have hJk : k = x.length + J := by omega
          subst hJk
          have g1 : ¬ ((x.length + J : Nat) : Int) < x.length := by omega
          have g1' : ¬ (x.length : Int) + J < x.length := by omega
          have g2 : ((x.length + J : Nat) : Int) < (x.length : Int) + y.length := by omega
          have g2' : (x.length : Int) + J < (x.length : Int) + y.length := by omega
          have g3 : (x.length : Int) + J - x.length = J := by omega
          have g4 : (J : Int) < y.length := by omega
          have g5 : 0 ≤ (J : Int) := by omega
          have g6 : (x.length : Int) + J < (x.length : Int) + y.length + z.length := by omega
          clear hx hcell hJ
          go_wp2_with (go_at_call 44; (with_reducible refine HF.out.mono ?_); rintro e w4 ⟨rfl, hb4⟩; have hown4 := own_below hown hb4; have hB4 := below_on hB hb4; have hs4 := hB4.size)
          go_roundw
          case rel => unfold G3Rel; exact ⟨_, acc, hlt, by go_num, hown4, by omega, HST, hB4⟩
          case measure => simp [intOf] <;> omega
        · obtain ⟨b, o, rfl, hb, hcell⟩ := HA3.out.2 (by have := (List.getElem?_eq_some_iff.1 hx).1; omega)
          obtain ⟨J, hJ⟩ : ∃ J, J = k - x.length - y.length := ⟨_, rfl⟩
          rw [← hJ] at hx
          have hJl := (List.getElem?_eq_some_iff.1 hx).1
          obtain ⟨c0, _, _⟩ := file_cells (fun i u h => (hB.cell (p := ⟨b, o + i, none⟩) hb).trans (hcell i u h)) hx
          have hJk : k = x.length + y.length + J := by omega
          subst hJk
          have g1 : ¬ (x.length : Int) + y.length + J < x.length := by omega
          have g2 : ¬ (x.length : Int) + y.length + J < (x.length : Int) + y.length := by omega
          have g3 : (x.length : Int) + y.length + J - x.length - y.length = J := by omega
          have g3' : (x.length : Int) + y.length + J - x.length = y.length + J := by omega
          have g3'' : (y.length : Int) + J - y.length = J := by omega
          have g4 : (J : Int) < z.length := by omega
          have g5 : 0 ≤ (J : Int) := by omega
          have g6 : (x.length : Int) + y.length + J < (x.length : Int) + y.length + z.length := by omega
          clear hx hcell hJ
          go_wp2_with (go_at_call 44; (with_reducible refine HF.out.mono ?_); rintro e w4 ⟨rfl, hb4⟩; have hown4 := own_below hown hb4; have hB4 := below_on hB hb4; have hs4 := hB4.size)
          go_roundw
          case rel => unfold G3Rel; exact ⟨_, acc, hlt, by go_num, hown4, by omega, HST, hB4⟩
          case measure => simp [intOf] <;> omega
    · have hke : L.drop k = [] := List.drop_eq_nil_of_le (by omega)
      have hH := HK.out
      rw [hke, List.foldl_nil] at hH
      subst hH
      have k3 : ¬ (k : Int) < (x.length : Int) + y.length + z.length := by omega
      obtain ⟨A4, c4, rfl, hcap4, ha4, hfr4⟩ := own_arr hown
      have SR := Lib.hid (sort_ref A4 c4 acc wr (by omega) HGX.out ha4)
      rw [HSG.out, ← hUG] at SR
      rw [← hUG]
      have HAw1 := Lib.hid ((HA1.out.below hB).more hB.size)
      have HAw2 := Lib.hid ((HA2.out.below hB).more hB.size)
      have HAw3 := Lib.hid ((HA3.out.below hB).more hB.size)
      have hBw := below_on hB3 hB
      clear HK ha4 hfr4 hke HGX HSG HA1 HA2 HA3 hUG hLl hLz
      go_wp2_with (go_at_call 45; (with_reducible refine SR.out.mono ?_); rintro e w5 ⟨A5, c5, rfl, ha5, hb5⟩; have HA5 := Lib.hid ha5; clear ha5)
      have HA1 := Lib.hid (Arr.on3 HAw1.out hb5)
      have HA2 := Lib.hid (Arr.on3 HAw2.out hb5)
      have HA3 := Lib.hid (Arr.on3 HAw3.out hb5)
      have hB5 := below_on hBw hb5
      clear SR HAw1 HAw2 HAw3 hB hB3 hBw hown
      obtain ⟨w3', rfl⟩ : ∃ w3', w3' = wr := ⟨_, rfl⟩
      go_loopw [18, 19, 20] (fun vo vt v wr => RRel w5 x y z U R T vo vt v wr) (fun _ _ v _ => U.length - (intOf v).toNat)
      case atStart => unfold RRel; exact ⟨0, [], [], Nat.zero_le _, rfl, World.ownsRow_nil _ _ _ _, World.ownsRow_nil _ _ _ _, Nat.le_refl _, Nat.le_refl _, HST0, HTT0, Below.refl _ _⟩
      case round =>
        clear HST0 HTT0
        unfold RRel at hrel
        obtain ⟨k, out, told, hk, rfl, hown, hownT, hol, htl, HK, HT, hB⟩ := hrel
        have hbse := hB.size
        by_cases hlt2 : k < U.length
        · obtain ⟨p, hp⟩ : ∃ p, U[k]? = some p := ⟨_, List.getElem?_eq_getElem hlt2⟩
          obtain ⟨b, o, rfl, hb, hcell⟩ := HA5.out.2 (by omega)
          obtain ⟨u9, u1, u2⟩ := file_cells (fun i u h => (hB.cell (p := ⟨b, o + i, none⟩) hb).trans (hcell i u h)) (show (U.map pfile)[k]? = some (pfile p) by rw [List.getElem?_map, hp]; rfl)
          have u0 : wr.cell? ⟨b, o + k * 3, none⟩ = some (.string p) := u9
          have kU : (k : Int) < U.length := by omega
          have f1 := fun h => mrg1 (x := x) (y := y) (z := z) (p := p) h
          have f2 := fun h h' => mrg2 (x := x) (y := y) (z := z) (p := p) h h'
          have f3 := fun h h' h'' => mrg3 (x := x) (y := y) (z := z) (p := p) h h' h''
          have f4 := fun h h' h'' => mrg4 (x := x) (y := y) (z := z) (p := p) h h' h''
          have s1 := fun (f : FileD) (t : Bool) (h : mrg x y z p = (some f, t)) => mOut_some hp h
          have s2 := fun (t : Bool) (h : mrg x y z p = (none, t)) => mOut_none hp h
          have s3 := fun (o : Option FileD) (h : mrg x y z p = (o, true)) => mTold_yes hp h
          have s4 := fun (o : Option FileD) (h : mrg x y z p = (o, false)) => mTold_no hp h
          clear hp hcell u1 u2 u9
          cases b1 : likeO (lookF p y) (lookF p z) with
          | true =>
            cases hg : lookF p y with
            | none =>
              have hM := f1 b1
              rw [hg] at hM
              have HST := Lib.hid (show out ++ mOut x y z (U.drop (k + 1)) = R by have := HK.out; rw [s2 _ hM] at this; exact this)
              have HTT := Lib.hid (show told ++ mTold x y z (U.drop (k + 1)) = T by have := HT.out; rw [s4 _ hM] at this; exact this)
              have L23 := Lib.hid (fun W (hh : Below w5.heap.size w5 W) => rlike_at (N := 0) (c := c2) (d := c3) b1 (by omega) (by omega) HA2.out HA3.out hh)
              have hFD := fun W (hh : Below w5.heap.size w5 W) => find_ref A2 c2 y p W (by omega) ((HA2.out.below hh).more hh.size)
              rw [placeF_none hg] at hFD
              have HFD := Lib.hid hFD
              obtain ⟨A8, c8, rfl, hcap8, ha8, hfr8⟩ := own_arr hownT
              clear ha8 hfr8
              obtain ⟨A7, c7, rfl, hcap7, ha7, hfr7⟩ := own_arr hown
              clear ha7 hfr7
              clear f1 f2 f3 f4 s1 s2 s3 s4 hM HK HT hFD hg b1
              go_wp2_with (first
                | (go_at_call 46; (with_reducible refine (L23.out _ hB).mono ?_); rintro e w8 ⟨rfl, hb8⟩; have hown := own_below hown hb8; have hownT := own_below hownT hb8; have hB := hB.trans (hb8.mono hB.size); have hbse := hB.size)
                | (go_at_call 44; (with_reducible refine (HFD.out _ hB).mono ?_); rintro e w11 ⟨rfl, hb11⟩; have hown := own_below hown hb11; have hownT := own_below hownT hb11; have hB := hB.trans (hb11.mono hB.size); have hbse := hB.size))
              go_roundw
              case rel => unfold RRel; exact ⟨k + 1, out, told, by omega, by go_num, hown, hownT, by omega, by omega, HST, HTT, hB⟩
              case measure => simp [intOf] <;> omega
            | some g =>
              have hM := f1 b1
              rw [hg] at hM
              have HST := Lib.hid (show (out ++ [g]) ++ mOut x y z (U.drop (k + 1)) = R by have := HK.out; rw [s1 _ _ hM] at this; simpa using this)
              have HTT := Lib.hid (show told ++ mTold x y z (U.drop (k + 1)) = T by have := HT.out; rw [s4 _ hM] at this; exact this)
              have L23 := Lib.hid (fun W (hh : Below w5.heap.size w5 W) => rlike_at (N := 0) (c := c2) (d := c3) b1 (by omega) (by omega) HA2.out HA3.out hh)
              have hFD := fun W (hh : Below w5.heap.size w5 W) => find_ref A2 c2 y p W (by omega) ((HA2.out.below hh).more hh.size)
              obtain ⟨j, hj, hjg⟩ := placeF_some (k := 0) hg
              rw [hj] at hFD
              rw [Nat.zero_add] at hFD
              have j0 : ¬ (j : Int) < 0 := by omega
              have j0' : (0 : Int) ≤ j := by omega
              have hjl := (List.getElem?_eq_some_iff.1 hjg).1
              have jl : (j : Int) < y.length := by omega
              obtain ⟨bg, og, rfl, hbg, hcg⟩ := HA2.out.2 (by omega)
              have CG := Lib.hid (fun W (hh : Below w5.heap.size w5 W) => file_cells (w := W) (fun i u h => (hh.cell (p := ⟨bg, og + i, none⟩) hbg).trans (hcg i u h)) hjg)
              clear hcg hj hjg
              have HFD := Lib.hid hFD
              obtain ⟨A8, c8, rfl, hcap8, ha8, hfr8⟩ := own_arr hownT
              clear ha8 hfr8
              clear f1 f2 f3 f4 s1 s2 s3 s4 hM HK HT hFD hg b1
              go_wp2_with (first
                | (go_at_call 46; (with_reducible refine (L23.out _ hB).mono ?_); rintro e w8 ⟨rfl, hb8⟩; have hown := own_below hown hb8; have hownT := own_below hownT hb8; have hB := hB.trans (hb8.mono hB.size); have hbse := hB.size)
                | (go_at_call 44; (with_reducible refine (HFD.out _ hB).mono ?_); rintro e w11 ⟨rfl, hb11⟩; have hown := own_below hown hb11; have hownT := own_below hownT hb11; have hB := hB.trans (hb11.mono hB.size); have hbse := hB.size; obtain ⟨l0, l1, l2⟩ := CG.out _ hB)
                | (at_builtin; refine wpList_push rfl _ _ _ rfl Tryd.underlying22 fi0 fz0 fz1 fz2 file_zero (by decide) hown rfl rfl rfl (file_one g) (by unfold maxLen; omega) (by omega) hbse ?_; intro g7 cap7 w14 hown7 hgr7 hat7; have hownT7 := hownT.kept hgr7 (own_apart hownT hown (by decide)); have hB := hB.grown hgr7 hbse (fun j hj => (hown.lt j hj).1)))
              go_roundw
              case rel => unfold RRel; exact ⟨k + 1, out ++ [g], told, by omega, by go_num, by rw [List.length_append, fcells_snoc]; exact hown7, hownT7, by simp; omega, by omega, HST, HTT, hB⟩
              case measure => simp [intOf] <;> omega
          | false =>
            cases b2 : likeO (lookF p x) (lookF p z) with
            | true =>
              cases hg : lookF p y with
              | none =>
                have hM := f2 b1 b2
                rw [hg] at hM
                have HST := Lib.hid (show out ++ mOut x y z (U.drop (k + 1)) = R by have := HK.out; rw [s2 _ hM] at this; exact this)
                have HTT := Lib.hid (show told ++ mTold x y z (U.drop (k + 1)) = T by have := HT.out; rw [s4 _ hM] at this; exact this)
                have L23 := Lib.hid (fun W (hh : Below w5.heap.size w5 W) => rlike_at (N := 0) (c := c2) (d := c3) b1 (by omega) (by omega) HA2.out HA3.out hh)
                have L13 := Lib.hid (fun W (hh : Below w5.heap.size w5 W) => rlike_at (N := 0) (c := c1) (d := c3) b2 (by omega) (by omega) HA1.out HA3.out hh)
                have hFD := fun W (hh : Below w5.heap.size w5 W) => find_ref A2 c2 y p W (by omega) ((HA2.out.below hh).more hh.size)
                rw [placeF_none hg] at hFD
                have HFD := Lib.hid hFD
                obtain ⟨A8, c8, rfl, hcap8, ha8, hfr8⟩ := own_arr hownT
                clear ha8 hfr8
                obtain ⟨A7, c7, rfl, hcap7, ha7, hfr7⟩ := own_arr hown
                clear ha7 hfr7
                clear f1 f2 f3 f4 s1 s2 s3 s4 hM HK HT hFD hg b1 b2
                go_wp2_with (first
                  | (go_at_call 46; (with_reducible refine (L23.out _ hB).mono ?_); rintro e w8 ⟨rfl, hb8⟩; have hown := own_below hown hb8; have hownT := own_below hownT hb8; have hB := hB.trans (hb8.mono hB.size); have hbse := hB.size)
                  | (go_at_call 46; (with_reducible refine (L13.out _ hB).mono ?_); rintro e w9 ⟨rfl, hb9⟩; have hown := own_below hown hb9; have hownT := own_below hownT hb9; have hB := hB.trans (hb9.mono hB.size); have hbse := hB.size)
                  | (go_at_call 44; (with_reducible refine (HFD.out _ hB).mono ?_); rintro e w11 ⟨rfl, hb11⟩; have hown := own_below hown hb11; have hownT := own_below hownT hb11; have hB := hB.trans (hb11.mono hB.size); have hbse := hB.size))
                go_roundw
                case rel => unfold RRel; exact ⟨k + 1, out, told, by omega, by go_num, hown, hownT, by omega, by omega, HST, HTT, hB⟩
                case measure => simp [intOf] <;> omega
              | some g =>
                have hM := f2 b1 b2
                rw [hg] at hM
                have HST := Lib.hid (show (out ++ [g]) ++ mOut x y z (U.drop (k + 1)) = R by have := HK.out; rw [s1 _ _ hM] at this; simpa using this)
                have HTT := Lib.hid (show told ++ mTold x y z (U.drop (k + 1)) = T by have := HT.out; rw [s4 _ hM] at this; exact this)
                have L23 := Lib.hid (fun W (hh : Below w5.heap.size w5 W) => rlike_at (N := 0) (c := c2) (d := c3) b1 (by omega) (by omega) HA2.out HA3.out hh)
                have L13 := Lib.hid (fun W (hh : Below w5.heap.size w5 W) => rlike_at (N := 0) (c := c1) (d := c3) b2 (by omega) (by omega) HA1.out HA3.out hh)
                have hFD := fun W (hh : Below w5.heap.size w5 W) => find_ref A2 c2 y p W (by omega) ((HA2.out.below hh).more hh.size)
                obtain ⟨j, hj, hjg⟩ := placeF_some (k := 0) hg
                rw [hj] at hFD
                rw [Nat.zero_add] at hFD
                have j0 : ¬ (j : Int) < 0 := by omega
                have j0' : (0 : Int) ≤ j := by omega
                have hjl := (List.getElem?_eq_some_iff.1 hjg).1
                have jl : (j : Int) < y.length := by omega
                obtain ⟨bg, og, rfl, hbg, hcg⟩ := HA2.out.2 (by omega)
                have CG := Lib.hid (fun W (hh : Below w5.heap.size w5 W) => file_cells (w := W) (fun i u h => (hh.cell (p := ⟨bg, og + i, none⟩) hbg).trans (hcg i u h)) hjg)
                clear hcg hj hjg
                have HFD := Lib.hid hFD
                obtain ⟨A8, c8, rfl, hcap8, ha8, hfr8⟩ := own_arr hownT
                clear ha8 hfr8
                clear f1 f2 f3 f4 s1 s2 s3 s4 hM HK HT hFD hg b1 b2
                go_wp2_with (first
                  | (go_at_call 46; (with_reducible refine (L23.out _ hB).mono ?_); rintro e w8 ⟨rfl, hb8⟩; have hown := own_below hown hb8; have hownT := own_below hownT hb8; have hB := hB.trans (hb8.mono hB.size); have hbse := hB.size)
                  | (go_at_call 46; (with_reducible refine (L13.out _ hB).mono ?_); rintro e w9 ⟨rfl, hb9⟩; have hown := own_below hown hb9; have hownT := own_below hownT hb9; have hB := hB.trans (hb9.mono hB.size); have hbse := hB.size)
                  | (go_at_call 44; (with_reducible refine (HFD.out _ hB).mono ?_); rintro e w11 ⟨rfl, hb11⟩; have hown := own_below hown hb11; have hownT := own_below hownT hb11; have hB := hB.trans (hb11.mono hB.size); have hbse := hB.size; obtain ⟨l0, l1, l2⟩ := CG.out _ hB)
                  | (at_builtin; refine wpList_push rfl _ _ _ rfl Tryd.underlying22 fi0 fz0 fz1 fz2 file_zero (by decide) hown rfl rfl rfl (file_one g) (by unfold maxLen; omega) (by omega) hbse ?_; intro g7 cap7 w14 hown7 hgr7 hat7; have hownT7 := hownT.kept hgr7 (own_apart hownT hown (by decide)); have hB := hB.grown hgr7 hbse (fun j hj => (hown.lt j hj).1)))
                go_roundw
                case rel => unfold RRel; exact ⟨k + 1, out ++ [g], told, by omega, by go_num, by rw [List.length_append, fcells_snoc]; exact hown7, hownT7, by simp; omega, by omega, HST, HTT, hB⟩
                case measure => simp [intOf] <;> omega
            | false =>
              cases b3 : likeO (lookF p x) (lookF p y) with
              | true =>
                cases hg : lookF p z with
                | none =>
                  have hM := f3 b1 b2 b3
                  rw [hg] at hM
                  have HST := Lib.hid (show out ++ mOut x y z (U.drop (k + 1)) = R by have := HK.out; rw [s2 _ hM] at this; exact this)
                  have HTT := Lib.hid (show told ++ mTold x y z (U.drop (k + 1)) = T by have := HT.out; rw [s4 _ hM] at this; exact this)
                  have L23 := Lib.hid (fun W (hh : Below w5.heap.size w5 W) => rlike_at (N := 0) (c := c2) (d := c3) b1 (by omega) (by omega) HA2.out HA3.out hh)
                  have L13 := Lib.hid (fun W (hh : Below w5.heap.size w5 W) => rlike_at (N := 0) (c := c1) (d := c3) b2 (by omega) (by omega) HA1.out HA3.out hh)
                  have L12 := Lib.hid (fun W (hh : Below w5.heap.size w5 W) => rlike_at (N := 0) (c := c1) (d := c2) b3 (by omega) (by omega) HA1.out HA2.out hh)
                  have hFD := fun W (hh : Below w5.heap.size w5 W) => find_ref A3 c3 z p W (by omega) ((HA3.out.below hh).more hh.size)
                  rw [placeF_none hg] at hFD
                  have HFD := Lib.hid hFD
                  obtain ⟨A8, c8, rfl, hcap8, ha8, hfr8⟩ := own_arr hownT
                  clear ha8 hfr8
                  obtain ⟨A7, c7, rfl, hcap7, ha7, hfr7⟩ := own_arr hown
                  clear ha7 hfr7
                  clear f1 f2 f3 f4 s1 s2 s3 s4 hM HK HT hFD hg b1 b2 b3
                  go_wp2_with (first
                    | (go_at_call 46; (with_reducible refine (L23.out _ hB).mono ?_); rintro e w8 ⟨rfl, hb8⟩; have hown := own_below hown hb8; have hownT := own_below hownT hb8; have hB := hB.trans (hb8.mono hB.size); have hbse := hB.size)
                    | (go_at_call 46; (with_reducible refine (L13.out _ hB).mono ?_); rintro e w9 ⟨rfl, hb9⟩; have hown := own_below hown hb9; have hownT := own_below hownT hb9; have hB := hB.trans (hb9.mono hB.size); have hbse := hB.size)
                    | (go_at_call 46; (with_reducible refine (L12.out _ hB).mono ?_); rintro e w10 ⟨rfl, hb10⟩; have hown := own_below hown hb10; have hownT := own_below hownT hb10; have hB := hB.trans (hb10.mono hB.size); have hbse := hB.size)
                    | (go_at_call 44; (with_reducible refine (HFD.out _ hB).mono ?_); rintro e w11 ⟨rfl, hb11⟩; have hown := own_below hown hb11; have hownT := own_below hownT hb11; have hB := hB.trans (hb11.mono hB.size); have hbse := hB.size))
                  go_roundw
                  case rel => unfold RRel; exact ⟨k + 1, out, told, by omega, by go_num, hown, hownT, by omega, by omega, HST, HTT, hB⟩
                  case measure => simp [intOf] <;> omega
                | some g =>
                  have hM := f3 b1 b2 b3
                  rw [hg] at hM
                  have HST := Lib.hid (show (out ++ [g]) ++ mOut x y z (U.drop (k + 1)) = R by have := HK.out; rw [s1 _ _ hM] at this; simpa using this)
                  have HTT := Lib.hid (show told ++ mTold x y z (U.drop (k + 1)) = T by have := HT.out; rw [s4 _ hM] at this; exact this)
                  have L23 := Lib.hid (fun W (hh : Below w5.heap.size w5 W) => rlike_at (N := 0) (c := c2) (d := c3) b1 (by omega) (by omega) HA2.out HA3.out hh)
                  have L13 := Lib.hid (fun W (hh : Below w5.heap.size w5 W) => rlike_at (N := 0) (c := c1) (d := c3) b2 (by omega) (by omega) HA1.out HA3.out hh)
                  have L12 := Lib.hid (fun W (hh : Below w5.heap.size w5 W) => rlike_at (N := 0) (c := c1) (d := c2) b3 (by omega) (by omega) HA1.out HA2.out hh)
                  have hFD := fun W (hh : Below w5.heap.size w5 W) => find_ref A3 c3 z p W (by omega) ((HA3.out.below hh).more hh.size)
                  obtain ⟨j, hj, hjg⟩ := placeF_some (k := 0) hg
                  rw [hj] at hFD
                  rw [Nat.zero_add] at hFD
                  have j0 : ¬ (j : Int) < 0 := by omega
                  have j0' : (0 : Int) ≤ j := by omega
                  have hjl := (List.getElem?_eq_some_iff.1 hjg).1
                  have jl : (j : Int) < z.length := by omega
                  obtain ⟨bg, og, rfl, hbg, hcg⟩ := HA3.out.2 (by omega)
                  have CG := Lib.hid (fun W (hh : Below w5.heap.size w5 W) => file_cells (w := W) (fun i u h => (hh.cell (p := ⟨bg, og + i, none⟩) hbg).trans (hcg i u h)) hjg)
                  clear hcg hj hjg
                  have HFD := Lib.hid hFD
                  obtain ⟨A8, c8, rfl, hcap8, ha8, hfr8⟩ := own_arr hownT
                  clear ha8 hfr8
                  clear f1 f2 f3 f4 s1 s2 s3 s4 hM HK HT hFD hg b1 b2 b3
                  go_wp2_with (first
                    | (go_at_call 46; (with_reducible refine (L23.out _ hB).mono ?_); rintro e w8 ⟨rfl, hb8⟩; have hown := own_below hown hb8; have hownT := own_below hownT hb8; have hB := hB.trans (hb8.mono hB.size); have hbse := hB.size)
                    | (go_at_call 46; (with_reducible refine (L13.out _ hB).mono ?_); rintro e w9 ⟨rfl, hb9⟩; have hown := own_below hown hb9; have hownT := own_below hownT hb9; have hB := hB.trans (hb9.mono hB.size); have hbse := hB.size)
                    | (go_at_call 46; (with_reducible refine (L12.out _ hB).mono ?_); rintro e w10 ⟨rfl, hb10⟩; have hown := own_below hown hb10; have hownT := own_below hownT hb10; have hB := hB.trans (hb10.mono hB.size); have hbse := hB.size)
                    | (go_at_call 44; (with_reducible refine (HFD.out _ hB).mono ?_); rintro e w11 ⟨rfl, hb11⟩; have hown := own_below hown hb11; have hownT := own_below hownT hb11; have hB := hB.trans (hb11.mono hB.size); have hbse := hB.size; obtain ⟨l0, l1, l2⟩ := CG.out _ hB)
                    | (at_builtin; refine wpList_push rfl _ _ _ rfl Tryd.underlying22 fi0 fz0 fz1 fz2 file_zero (by decide) hown rfl rfl rfl (file_one g) (by unfold maxLen; omega) (by omega) hbse ?_; intro g7 cap7 w14 hown7 hgr7 hat7; have hownT7 := hownT.kept hgr7 (own_apart hownT hown (by decide)); have hB := hB.grown hgr7 hbse (fun j hj => (hown.lt j hj).1)))
                  go_roundw
                  case rel => unfold RRel; exact ⟨k + 1, out ++ [g], told, by omega, by go_num, by rw [List.length_append, fcells_snoc]; exact hown7, hownT7, by simp; omega, by omega, HST, HTT, hB⟩
                  case measure => simp [intOf] <;> omega
              | false =>
                cases hg : lookF p y with
                | none =>
                  have hM := f4 b1 b2 b3
                  rw [hg] at hM
                  have HST := Lib.hid (show out ++ mOut x y z (U.drop (k + 1)) = R by have := HK.out; rw [s2 _ hM] at this; exact this)
                  have HTT := Lib.hid (show (told ++ [p]) ++ mTold x y z (U.drop (k + 1)) = T by have := HT.out; rw [s3 _ hM] at this; simpa using this)
                  have L23 := Lib.hid (fun W (hh : Below w5.heap.size w5 W) => rlike_at (N := 0) (c := c2) (d := c3) b1 (by omega) (by omega) HA2.out HA3.out hh)
                  have L13 := Lib.hid (fun W (hh : Below w5.heap.size w5 W) => rlike_at (N := 0) (c := c1) (d := c3) b2 (by omega) (by omega) HA1.out HA3.out hh)
                  have L12 := Lib.hid (fun W (hh : Below w5.heap.size w5 W) => rlike_at (N := 0) (c := c1) (d := c2) b3 (by omega) (by omega) HA1.out HA2.out hh)
                  have hFD := fun W (hh : Below w5.heap.size w5 W) => find_ref A2 c2 y p W (by omega) ((HA2.out.below hh).more hh.size)
                  rw [placeF_none hg] at hFD
                  have HFD := Lib.hid hFD
                  obtain ⟨A7, c7, rfl, hcap7, ha7, hfr7⟩ := own_arr hown
                  clear ha7 hfr7
                  clear f1 f2 f3 f4 s1 s2 s3 s4 hM HK HT hFD hg b1 b2 b3
                  go_wp2_with (first
                    | (go_at_call 46; (with_reducible refine (L23.out _ hB).mono ?_); rintro e w8 ⟨rfl, hb8⟩; have hown := own_below hown hb8; have hownT := own_below hownT hb8; have hB := hB.trans (hb8.mono hB.size); have hbse := hB.size)
                    | (go_at_call 46; (with_reducible refine (L13.out _ hB).mono ?_); rintro e w9 ⟨rfl, hb9⟩; have hown := own_below hown hb9; have hownT := own_below hownT hb9; have hB := hB.trans (hb9.mono hB.size); have hbse := hB.size)
                    | (go_at_call 46; (with_reducible refine (L12.out _ hB).mono ?_); rintro e w10 ⟨rfl, hb10⟩; have hown := own_below hown hb10; have hownT := own_below hownT hb10; have hB := hB.trans (hb10.mono hB.size); have hbse := hB.size)
                    | (at_builtin; refine wpList_push rfl _ _ _ rfl Tryd.underlying43 si0 sz0 sz1 sz2 rfl (by decide) hownT rfl rfl rfl (str_one p) (by unfold maxLen; omega) (by omega) hbse ?_; intro g6 cap6 w13 hownT6 hgr6 hat6; have hown := hown.kept hgr6 (own_apart hown hownT (by decide)); have hB := hB.grown hgr6 hbse (fun j hj => (hownT.lt j hj).1); have hbse := hB.size; clear hownT; have hownT := hownT6)
                    | (go_at_call 44; (with_reducible refine (HFD.out _ hB).mono ?_); rintro e w11 ⟨rfl, hb11⟩; have hown := own_below hown hb11; have hownT := own_below hownT hb11; have hB := hB.trans (hb11.mono hB.size); have hbse := hB.size))
                  go_roundw
                  case rel => unfold RRel; exact ⟨k + 1, out, told ++ [p], by omega, by go_num, hown, by rw [List.length_append, List.map_append]; exact hownT, by omega, by simp; omega, HST, HTT, hB⟩
                  case measure => simp [intOf] <;> omega
                | some g =>
                  have hM := f4 b1 b2 b3
                  rw [hg] at hM
                  have HST := Lib.hid (show (out ++ [g]) ++ mOut x y z (U.drop (k + 1)) = R by have := HK.out; rw [s1 _ _ hM] at this; simpa using this)
                  have HTT := Lib.hid (show (told ++ [p]) ++ mTold x y z (U.drop (k + 1)) = T by have := HT.out; rw [s3 _ hM] at this; simpa using this)
                  have L23 := Lib.hid (fun W (hh : Below w5.heap.size w5 W) => rlike_at (N := 0) (c := c2) (d := c3) b1 (by omega) (by omega) HA2.out HA3.out hh)
                  have L13 := Lib.hid (fun W (hh : Below w5.heap.size w5 W) => rlike_at (N := 0) (c := c1) (d := c3) b2 (by omega) (by omega) HA1.out HA3.out hh)
                  have L12 := Lib.hid (fun W (hh : Below w5.heap.size w5 W) => rlike_at (N := 0) (c := c1) (d := c2) b3 (by omega) (by omega) HA1.out HA2.out hh)
                  have hFD := fun W (hh : Below w5.heap.size w5 W) => find_ref A2 c2 y p W (by omega) ((HA2.out.below hh).more hh.size)
                  obtain ⟨j, hj, hjg⟩ := placeF_some (k := 0) hg
                  rw [hj] at hFD
                  rw [Nat.zero_add] at hFD
                  have j0 : ¬ (j : Int) < 0 := by omega
                  have j0' : (0 : Int) ≤ j := by omega
                  have hjl := (List.getElem?_eq_some_iff.1 hjg).1
                  have jl : (j : Int) < y.length := by omega
                  obtain ⟨bg, og, rfl, hbg, hcg⟩ := HA2.out.2 (by omega)
                  have CG := Lib.hid (fun W (hh : Below w5.heap.size w5 W) => file_cells (w := W) (fun i u h => (hh.cell (p := ⟨bg, og + i, none⟩) hbg).trans (hcg i u h)) hjg)
                  clear hcg hj hjg
                  have HFD := Lib.hid hFD
                  clear f1 f2 f3 f4 s1 s2 s3 s4 hM HK HT hFD hg b1 b2 b3
                  go_wp2_with (first
                    | (go_at_call 46; (with_reducible refine (L23.out _ hB).mono ?_); rintro e w8 ⟨rfl, hb8⟩; have hown := own_below hown hb8; have hownT := own_below hownT hb8; have hB := hB.trans (hb8.mono hB.size); have hbse := hB.size)
                    | (go_at_call 46; (with_reducible refine (L13.out _ hB).mono ?_); rintro e w9 ⟨rfl, hb9⟩; have hown := own_below hown hb9; have hownT := own_below hownT hb9; have hB := hB.trans (hb9.mono hB.size); have hbse := hB.size)
                    | (go_at_call 46; (with_reducible refine (L12.out _ hB).mono ?_); rintro e w10 ⟨rfl, hb10⟩; have hown := own_below hown hb10; have hownT := own_below hownT hb10; have hB := hB.trans (hb10.mono hB.size); have hbse := hB.size)
                    | (at_builtin; refine wpList_push rfl _ _ _ rfl Tryd.underlying43 si0 sz0 sz1 sz2 rfl (by decide) hownT rfl rfl rfl (str_one p) (by unfold maxLen; omega) (by omega) hbse ?_; intro g6 cap6 w13 hownT6 hgr6 hat6; have hown := hown.kept hgr6 (own_apart hown hownT (by decide)); have hB := hB.grown hgr6 hbse (fun j hj => (hownT.lt j hj).1); have hbse := hB.size; clear hownT; have hownT := hownT6)
                    | (go_at_call 44; (with_reducible refine (HFD.out _ hB).mono ?_); rintro e w11 ⟨rfl, hb11⟩; have hown := own_below hown hb11; have hownT := own_below hownT hb11; have hB := hB.trans (hb11.mono hB.size); have hbse := hB.size; obtain ⟨l0, l1, l2⟩ := CG.out _ hB)
                    | (at_builtin; refine wpList_push rfl _ _ _ rfl Tryd.underlying22 fi0 fz0 fz1 fz2 file_zero (by decide) hown rfl rfl rfl (file_one g) (by unfold maxLen; omega) (by omega) hbse ?_; intro g7 cap7 w14 hown7 hgr7 hat7; have hownT7 := hownT.kept hgr7 (own_apart hownT hown (by decide)); have hB := hB.grown hgr7 hbse (fun j hj => (hown.lt j hj).1)))
                  go_roundw
                  case rel => unfold RRel; exact ⟨k + 1, out ++ [g], told ++ [p], by omega, by go_num, by rw [List.length_append, fcells_snoc]; exact hown7, by rw [List.length_append, List.map_append]; exact hownT7, by simp; omega, by simp; omega, HST, HTT, hB⟩
                  case measure => simp [intOf] <;> omega
        · obtain ⟨d1, d2⟩ := m_end (x := x) (y := y) (z := z) (U := U) (k := k) (by omega)
          have hH := HK.out
          rw [d1, List.append_nil] at hH
          subst hH
          have hT := HT.out
          rw [d2, List.append_nil] at hT
          subst hT
          obtain ⟨A7, c7, rfl, hcap7, ha7, hfr7⟩ := own_arr hown
          obtain ⟨A8, c8, rfl, hcap8, ha8, hfr8⟩ := own_arr hownT
          have HA7 := Lib.hid ha7
          have HA8 := Lib.hid ha8
          have hB9 := below_on hB5 hB
          have kU : ¬ (k : Int) < U.length := by omega
          clear HK HT ha7 ha8 d1 d2 hown hownT hfr7 hfr8
          by_cases hF : F = 0
          · subst hF
            have hd := HD.out
            rw [if_neg (by decide)] at hd
            subst hd
            clear HD
            go_wp2_with (go_at_call 13; (with_reducible refine (HO.out _ _ _ HA7.out).mono ?_); rintro e w9 ⟨rfl, hb9⟩)
            go_ret3
            unfold MrOut
            exact ⟨_, _, rfl, Arr.on3 HA8.out hb9, below_on hB9 hb9⟩
          · have hd := HD.out
            rw [if_pos hF] at hd
            subst hd
            have g0 : (F == 0) = false := by rw [beq_eq_false_iff_ne]; exact hF
            clear HD
            go_wp2_with (go_at_call 13; (with_reducible refine (HO.out _ _ _ HA7.out).mono ?_); rintro e w9 ⟨rfl, hb9⟩)
            go_ret3
            unfold MrOut
            exact ⟨_, _, rfl, Arr.nil _ _ _ _, below_on hB9 hb9⟩
end Go.Proofs.YtlfennooocmclaaDoor
