/- Chapter 10: the walk through image.Merge. -/
import Derived.Test.YtlfennooocmclaaDoorImFind
namespace Go.Proofs.YtlfennooocmclaaDoor
open Go.RowKit
set_option linter.unusedVariables false

theorem good_ne {f : FileD} (h : FGood f) : f.path ≠ ⟨#[]⟩ := by
  intro he
  have hp := h.path
  rw [he] at hp
  exact absurd hp (by decide)
theorem PtrF.up {w w' : World} {B C : Nat} {v : Value} {o : Option FileD} (h : PtrF w' B v o) (hb : Below C w w') (hC : B ≤ C) : PtrF w B v o := by
  unfold PtrF at h ⊢
  cases o with
  | none => exact h
  | some f =>
    obtain ⟨b, off, e, hlt, c0, c1, c2⟩ := h
    exact ⟨b, off, e, hlt, (hb.cell (p := ⟨b, off, none⟩) (by show b < _; omega)).symm.trans c0, (hb.cell (p := ⟨b, off + 1, none⟩) (by show b < _; omega)).symm.trans c1, (hb.cell (p := ⟨b, off + 2, none⟩) (by show b < _; omega)).symm.trans c2⟩
theorem like_at {N : Nat} {va vb : Value} {oa ob : Option FileD} {w : World} {B : Bool} (hB : likeO oa ob = B) (ha : PtrF w N va oa) (hb : PtrF w N vb ob) (hp : ∀ f g, oa = some f → ob = some g → f.path = g.path) :
    Calls Tryd.prog 43 #[va, vb] w fun e w' => e = .returned (.bool B) ∧ Below w.heap.size w w' := by
  have := like_any N N va vb oa ob w ha hb hp
  unfold LikeOut at this
  rw [hB] at this
  exact this
theorem at_at {A : Option Addr} {c : Nat} {l : List FileD} {p : ByteArray} {w5 w : World} (hl : l.length ≤ 1000) (hx : ∀ f ∈ l, FOk f) (hpw : l.Pairwise FR) (hp : p.size ≤ 9223372036854775807) (ha : Arr w5 w5.heap.size 3 A l.length (fcells l)) (hB : Below w5.heap.size w5 w) :
    Calls Tryd.prog 42 #[.slice A l.length c, .string p] w fun e w' => ∃ v, e = .returned v ∧ PtrF w5 w5.heap.size v (lookF p l) ∧ Below w.heap.size w w' := by
  refine (at_any A c w5.heap.size l p w hl hx hpw hp (ha.below hB) hB.size).mono ?_
  rintro e w' ⟨v, he, hp, hb⟩
  exact ⟨v, he, PtrF.up hp hB (Nat.le_refl _), hb⟩
theorem p3_len : ∀ (n : Nat) (a b c : List FileD), (p3Go n a b c).length ≤ n
  | 0, _, _, _ => by simp [p3Go]
  | n + 1, a, b, c => by
    rw [p3Go]
    split
    · simp
    · rw [List.length_cons]
      have := p3_len n (nxt (least3 a b c) a) (nxt (least3 a b c) b) (nxt (least3 a b c) c)
      omega
section
variable {x y z : List FileD} {p : ByteArray} {U : List ByteArray} {k : Nat}
theorem mrg1 (h : likeO (lookF p y) (lookF p z) = true) : mrg x y z p = (lookF p y, false) := by unfold mrg; rw [if_pos h]
theorem mrg2 (h : likeO (lookF p y) (lookF p z) = false) (h2 : likeO (lookF p x) (lookF p z) = true) : mrg x y z p = (lookF p y, false) := by unfold mrg; rw [if_neg (by rw [h]; decide), if_pos h2]
theorem mrg3 (h : likeO (lookF p y) (lookF p z) = false) (h2 : likeO (lookF p x) (lookF p z) = false) (h3 : likeO (lookF p x) (lookF p y) = true) : mrg x y z p = (lookF p z, false) := by unfold mrg; rw [if_neg (by rw [h]; decide), if_neg (by rw [h2]; decide), if_pos h3]
theorem mrg4 (h : likeO (lookF p y) (lookF p z) = false) (h2 : likeO (lookF p x) (lookF p z) = false) (h3 : likeO (lookF p x) (lookF p y) = false) : mrg x y z p = (lookF p y, true) := by unfold mrg; rw [if_neg (by rw [h]; decide), if_neg (by rw [h2]; decide), if_neg (by rw [h3]; decide)]
theorem mOut_some {f : FileD} {b : Bool} (h : U[k]? = some p) (hm : mrg x y z p = (some f, b)) : mOut x y z (U.drop k) = f :: mOut x y z (U.drop (k + 1)) := by unfold mOut; rw [drop_head h, List.filterMap_cons, hm]
theorem mOut_none {b : Bool} (h : U[k]? = some p) (hm : mrg x y z p = (none, b)) : mOut x y z (U.drop k) = mOut x y z (U.drop (k + 1)) := by unfold mOut; rw [drop_head h, List.filterMap_cons, hm]
theorem mTold_yes {o : Option FileD} (h : U[k]? = some p) (hm : mrg x y z p = (o, true)) : mTold x y z (U.drop k) = p :: mTold x y z (U.drop (k + 1)) := by unfold mTold; rw [drop_head h, List.filter_cons_of_pos (by rw [hm])]
theorem mTold_no {o : Option FileD} (h : U[k]? = some p) (hm : mrg x y z p = (o, false)) : mTold x y z (U.drop k) = mTold x y z (U.drop (k + 1)) := by unfold mTold; rw [drop_head h, List.filter_cons_of_neg (by rw [hm]; simp)]
theorem m_end (h : U.length ≤ k) : mOut x y z (U.drop k) = [] ∧ mTold x y z (U.drop k) = [] := by rw [List.drop_eq_nil_of_le h]; exact ⟨rfl, rfl⟩
end
theorem mOut_ok {x y z : List FileD} (hy : ∀ f ∈ y, FOk f) (hz : ∀ f ∈ z, FOk f) (U : List ByteArray) : ∀ f ∈ mOut x y z U, FOk f := by
  intro f hf
  unfold mOut at hf
  obtain ⟨p, _, hm⟩ := List.mem_filterMap.1 hf
  unfold mrg at hm
  split at hm
  · exact hy f (lookF_some hm).1
  · split at hm
    · exact hy f (lookF_some hm).1
    · split at hm
      · exact hz f (lookF_some hm).1
      · exact hy f (lookF_some hm).1
def MrOut (w : World) (D : MrD) (e : Ending) (w' : World) : Prop := ∃ A c, e = .returned (.tuple #[.string D.s, .slice A D.l.length c, .int .i64 D.e]) ∧ Arr w' w'.heap.size 1 A D.l.length (D.l.map Value.string) ∧ Below w.heap.size w w'
def MRel (w5 : World) (x y z : List FileD) (U : List ByteArray) (R : List FileD) (T : List ByteArray) (vo vt v : Value) (wr : World) : Prop := ∃ (k : Nat) (out : List FileD) (told : List ByteArray), k ≤ U.length ∧ v = .int .i64 k ∧ wr.ownsRow w5.heap.size 33 3 vo out.length (fcells out) ∧ wr.ownsRow w5.heap.size 9 1 vt told.length (told.map Value.string) ∧ out.length ≤ k ∧ told.length ≤ k ∧
  Hid (out ++ mOut x y z (U.drop k) = R) ∧ Hid (told ++ mTold x y z (U.drop k) = T) ∧ Below w5.heap.size w5 wr
set_option maxHeartbeats 8000000 in
set_option maxRecDepth 100000 in
theorem merge_ok (s1 s2 s3 : ByteArray) (x y z : List FileD) (w : World) (hm : Ml w) (h1 : s1.size ≤ 524288) (h2 : s2.size ≤ 524288) (h3 : s3.size ≤ 524288) (e1 : treeOf s1 = (0, x)) (e2 : treeOf s2 = (0, y)) (e3 : treeOf s3 = (0, z)) :
    Calls Tryd.prog 22 #[.string s1, .string s2, .string s3] w (MrOut w (mergeT (0, x) (0, y) (0, z))) := by
  obtain ⟨i1, fi0, fz0, fz1, fz2⟩ := info_parts infoFile
  obtain ⟨i2, si0, sz0, sz1, sz2⟩ := info_parts infoStr
  have T1 := fun W hm' => tree_any s1 W (by omega) hm'
  have T2 := fun W hm' => tree_any s2 W (by omega) hm'
  have T3 := fun W hm' => tree_any s3 W (by omega) hm'
  rw [e1] at T1
  rw [e2] at T2
  rw [e3] at T3
  unfold TreeOut at T1 T2 T3
  simp only [] at T1 T2 T3
  have T1 := Lib.hid T1
  have T2 := Lib.hid T2
  have T3 := Lib.hid T3
  have x1 := tree_good s1 (by omega) e1
  have x2 := tree_good s2 (by omega) e2
  have x3 := tree_good s3 (by omega) e3
  obtain ⟨q1, k1⟩ := check_good (of_zero (tree_canon (by omega) e1).1).1
  obtain ⟨q2, k2⟩ := check_good (of_zero (tree_canon (by omega) e2).1).1
  obtain ⟨q3, k3⟩ := check_good (of_zero (tree_canon (by omega) e3).1).1
  have p1 := check_pw (of_zero (tree_canon (by omega) e1).1).1
  have p2 := check_pw (of_zero (tree_canon (by omega) e2).1).1
  have p3 := check_pw (of_zero (tree_canon (by omega) e3).1).1
  have hne : PNe x ∧ PNe y ∧ PNe z := ⟨fun f hf => good_ne (k1 f hf), fun f hf => good_ne (k2 f hf), fun f hf => good_ne (k3 f hf)⟩
  have hx3 : ∀ f ∈ (x ++ y) ++ z, FOk f := by
    intro f hf
    rcases List.mem_append.1 hf with hf | hf
    · rcases List.mem_append.1 hf with hf | hf
      · exact x1 f hf
      · exact x2 f hf
    · exact x3 f hf
  have hUl : (uni3 x y z).length ≤ 768 := Nat.le_trans (p3_len _ x y z) (by omega)
  have hUp : ∀ p ∈ uni3 x y z, p.size ≤ 9223372036854775807 := by
    intro p hp
    rcases ((p3_all _ x y z (Nat.le_refl _) hne.1 hne.2.1 hne.2.2 p1 p2 p3).2 p).1 hp with ⟨f, hf, rfl⟩ | ⟨f, hf, rfl⟩ | ⟨f, hf, rfl⟩
    · exact (x1 f hf).1
    · exact (x2 f hf).1
    · exact (x3 f hf).1
  have HP := Lib.hid (fun A B C p q r W hp hq hr ha hb hc => paths3_any A B C p q r x y z W (by omega) (by omega) (by omega) hp hq hr hx3 hne ha hb hc)
  unfold StrsOut at HP
  have hRok := mOut_ok (x := x) x2 x3 (uni3 x y z)
  have hRl : (mOut x y z (uni3 x y z)).length ≤ 768 := Nat.le_trans (by unfold mOut; exact List.length_filterMap_le _ _) hUl
  have hD : mergeT (0, x) (0, y) (0, z) = if ofE (mOut x y z (uni3 x y z)) ≠ 0 then ⟨⟨#[]⟩, [], ofE (mOut x y z (uni3 x y z))⟩ else ⟨ofS (mOut x y z (uni3 x y z)), mTold x y z (uni3 x y z), 0⟩ := by
    unfold mergeT
    simp only []
    rw [if_neg (by decide), if_neg (by decide), if_neg (by decide)]
  have HST0 : Hid ([] ++ mOut x y z ((uni3 x y z).drop 0) = mOut x y z (uni3 x y z)) := Lib.hid rfl
  have HTT0 : Hid ([] ++ mTold x y z ((uni3 x y z).drop 0) = mTold x y z (uni3 x y z)) := Lib.hid rfl
  rw [hD]
  clear hD e1 e2 e3 k1 k2 k3 hne hx3
  have HUP := Lib.hid hUp
  have HX1 := Lib.hid x1
  have HX2 := Lib.hid x2
  have HX3 := Lib.hid x3
  have HP1 := Lib.hid p1
  have HP2 := Lib.hid p2
  have HP3 := Lib.hid p3
  clear hUp x1 x2 x3 p1 p2 p3
  generalize uni3 x y z = U at *
  generalize mOut x y z U = R at *
  generalize mTold x y z U = T at *
  have HO := Lib.hid (fun A c W h hm' => of_any A c R W (by omega) hRok h hm')
  unfold OfIs at HO
  generalize ofS R = S at *
  generalize ofE R = F at *
  obtain ⟨D, hDD⟩ : ∃ D : MrD, D = if F ≠ 0 then ⟨⟨#[]⟩, [], F⟩ else ⟨S, T, 0⟩ := ⟨_, rfl⟩
  rw [← hDD]
  have HD := Lib.hid hDD
  clear hDD hRok
  have hB0 : Below w.heap.size w w := Below.refl _ _
  go_enter Tryd.func22, Tryd.ntmps22
  go_wp2_with (first
    | (go_at_call 17; (with_reducible refine (T1.out _ hm).mono ?_); rintro e w1 ⟨v1, rfl, hown1, hb1⟩; obtain ⟨A1, c1, rfl, hcap1, ha1, hfr1⟩ := own_arr hown1; have HA1 := Lib.hid ha1; clear ha1 hown1 hfr1)
    | (go_at_call 17; (with_reducible refine (T2.out _ (hm.on hb1)).mono ?_); rintro e w2 ⟨v2, rfl, hown2, hb2⟩; obtain ⟨A2, c2, rfl, hcap2, ha2, hfr2⟩ := own_arr hown2; have HA2 := Lib.hid ha2; clear ha2 hown2 hfr2; have hB2 := below_on hb1 hb2; have HA1 := Lib.hid (Arr.on3 HA1.out hb2))
    | (go_at_call 17; (with_reducible refine (T3.out _ (hm.on hB2)).mono ?_); rintro e w3 ⟨v3, rfl, hown3, hb3⟩; obtain ⟨A3, c3, rfl, hcap3, ha3, hfr3⟩ := own_arr hown3; have HA3 := Lib.hid ha3; clear ha3 hown3 hfr3; have hB3 := below_on hB2 hb3; have HA1 := Lib.hid (Arr.on3 HA1.out hb3); have HA2 := Lib.hid (Arr.on3 HA2.out hb3))
    | (go_at_call 41; (with_reducible refine (HP.out _ _ _ _ _ _ _ hcap1 hcap2 hcap3 HA1.out HA2.out HA3.out).mono ?_); rintro e w5 ⟨A5, c5, rfl, ha5, hfr5, hb5⟩; have HA5 := Lib.hid ha5; clear ha5 hfr5; have hB5 := below_on hB3 hb5; have HA1 := Lib.hid (Arr.on3 HA1.out hb5); have HA2 := Lib.hid (Arr.on3 HA2.out hb5); have HA3 := Lib.hid (Arr.on3 HA3.out hb5)))
  go_loopw [13, 14, 51] (fun vo vt v wr => MRel w5 x y z U R T vo vt v wr) (fun _ _ v _ => U.length - (intOf v).toNat)
  case atStart => unfold MRel; exact ⟨0, [], [], Nat.zero_le _, rfl, World.ownsRow_nil _ _ _ _, World.ownsRow_nil _ _ _ _, Nat.le_refl _, Nat.le_refl _, HST0, HTT0, Below.refl _ _⟩
  case round =>
    clear HST0 HTT0 hb1 hb2 hb3 hb5 hB2 hB3 hB0
    unfold MRel at hrel
    obtain ⟨k, out, told, hk, rfl, hown, hownT, hol, htl, HK, HT, hB⟩ := hrel
    have hbse := hB.size
    by_cases hlt : k < U.length
    · obtain ⟨p, hp⟩ : ∃ p, U[k]? = some p := ⟨_, List.getElem?_eq_getElem hlt⟩
      obtain ⟨b, o, rfl, hb, hcell⟩ := HA5.out.2 (by omega)
      have u0 := (hB.cell (p := ⟨b, o + k, none⟩) hb).trans (hcell k (.string p) (by rw [List.getElem?_map, hp]; rfl))
      have hps := HUP.out p (List.mem_of_getElem? hp)
      have C1 := Lib.hid (fun W (hh : Below w5.heap.size w5 W) => at_at (c := c1) (by omega) HX1.out HP1.out hps HA1.out hh)
      have C2 := Lib.hid (fun W (hh : Below w5.heap.size w5 W) => at_at (c := c2) (by omega) HX2.out HP2.out hps HA2.out hh)
      have C3 := Lib.hid (fun W (hh : Below w5.heap.size w5 W) => at_at (c := c3) (by omega) HX3.out HP3.out hps HA3.out hh)
      have z12 : Hid (∀ f g, lookF p x = some f → lookF p y = some g → f.path = g.path) := Lib.hid fun f g h h' => by rw [(lookF_some h).2, (lookF_some h').2]
      have z13 : Hid (∀ f g, lookF p x = some f → lookF p z = some g → f.path = g.path) := Lib.hid fun f g h h' => by rw [(lookF_some h).2, (lookF_some h').2]
      have z23 : Hid (∀ f g, lookF p y = some f → lookF p z = some g → f.path = g.path) := Lib.hid fun f g h h' => by rw [(lookF_some h).2, (lookF_some h').2]
      have f1 := fun h => mrg1 (x := x) (y := y) (z := z) (p := p) h
      have f2 := fun h h' => mrg2 (x := x) (y := y) (z := z) (p := p) h h'
      have f3 := fun h h' h'' => mrg3 (x := x) (y := y) (z := z) (p := p) h h' h''
      have f4 := fun h h' h'' => mrg4 (x := x) (y := y) (z := z) (p := p) h h' h''
      have s1 := fun (f : FileD) (t : Bool) (h : mrg x y z p = (some f, t)) => mOut_some hp h
      have s2 := fun (t : Bool) (h : mrg x y z p = (none, t)) => mOut_none hp h
      have s3 := fun (o : Option FileD) (h : mrg x y z p = (o, true)) => mTold_yes hp h
      have s4 := fun (o : Option FileD) (h : mrg x y z p = (o, false)) => mTold_no hp h
      clear hp hcell
      generalize lookF p x = ox at *
      generalize lookF p y = oy at *
      generalize lookF p z = oz at *
      have hB1 : True := trivial
      cases b1 : likeO oy oz with
      | true =>
        cases oy with
        | none =>
          have hM := f1 b1
          have HST := Lib.hid (show out ++ mOut x y z (U.drop (k + 1)) = R by have := HK.out; rw [s2 _ hM] at this; exact this)
          have HTT := Lib.hid (show told ++ mTold x y z (U.drop (k + 1)) = T by have := HT.out; rw [s4 _ hM] at this; exact this)
          have HB1 := Lib.hid b1
          clear f1 f2 f3 f4 s1 s2 s3 s4 hM HK HT hB1 b1
          go_wp2_with (first
            | (go_at_call 42; (with_reducible refine (C1.out _ hB).mono ?_); rintro e w6 ⟨v1, rfl, hp1, hb1⟩; have hown := own_below hown hb1; have hownT := own_below hownT hb1; have hB := hB.trans (hb1.mono hB.size); have P1 := Lib.hid hp1; clear hp1)
            | (go_at_call 42; (with_reducible refine (C2.out _ hB).mono ?_); rintro e w7 ⟨v2, rfl, hp2, hb2⟩; have hown := own_below hown hb2; have hownT := own_below hownT hb2; have hB := hB.trans (hb2.mono hB.size); have P2 := Lib.hid hp2; obtain rfl : v2 = .pointer none := hp2)
            | (go_at_call 42; (with_reducible refine (C3.out _ hB).mono ?_); rintro e w8 ⟨v3, rfl, hp3, hb3⟩; have hown := own_below hown hb3; have hownT := own_below hownT hb3; have hB := hB.trans (hb3.mono hB.size); have P3 := Lib.hid hp3; clear hp3)
            | (go_at_call 43; (with_reducible refine (like_at HB1.out (P2.out.below hB (Nat.le_refl _)) (P3.out.below hB (Nat.le_refl _)) z23.out).mono ?_); rintro e w10 ⟨rfl, hb10⟩; have hown := own_below hown hb10; have hownT := own_below hownT hb10; have hB := hB.trans (hb10.mono hB.size); have hbse := hB.size))
          go_roundw
          case rel => unfold MRel; exact ⟨k + 1, out, told, by omega, by go_num, hown, hownT, by omega, by omega, HST, HTT, hB⟩
          case measure => simp [intOf] <;> omega
        | some g =>
          have hM := f1 b1
          have HST := Lib.hid (show (out ++ [g]) ++ mOut x y z (U.drop (k + 1)) = R by have := HK.out; rw [s1 _ _ hM] at this; simpa using this)
          have HTT := Lib.hid (show told ++ mTold x y z (U.drop (k + 1)) = T by have := HT.out; rw [s4 _ hM] at this; exact this)
          have HB1 := Lib.hid b1
          clear f1 f2 f3 f4 s1 s2 s3 s4 hM HK HT hB1 b1
          go_wp2_with (first
            | (go_at_call 42; (with_reducible refine (C1.out _ hB).mono ?_); rintro e w6 ⟨v1, rfl, hp1, hb1⟩; have hown := own_below hown hb1; have hownT := own_below hownT hb1; have hB := hB.trans (hb1.mono hB.size); have P1 := Lib.hid hp1; clear hp1)
            | (go_at_call 42; (with_reducible refine (C2.out _ hB).mono ?_); rintro e w7 ⟨v2, rfl, hp2, hb2⟩; have hown := own_below hown hb2; have hownT := own_below hownT hb2; have hB := hB.trans (hb2.mono hB.size); have P2 := Lib.hid hp2; obtain ⟨bg, og, rfl, hlg, m0, m1, m2⟩ := hp2)
            | (go_at_call 42; (with_reducible refine (C3.out _ hB).mono ?_); rintro e w8 ⟨v3, rfl, hp3, hb3⟩; have hown := own_below hown hb3; have hownT := own_below hownT hb3; have hB := hB.trans (hb3.mono hB.size); have P3 := Lib.hid hp3; clear hp3)
            | (go_at_call 43; (with_reducible refine (like_at HB1.out (P2.out.below hB (Nat.le_refl _)) (P3.out.below hB (Nat.le_refl _)) z23.out).mono ?_); rintro e w10 ⟨rfl, hb10⟩; have hown := own_below hown hb10; have hownT := own_below hownT hb10; have hB := hB.trans (hb10.mono hB.size); have hbse := hB.size; have l0 := (hB.cell (p := ⟨bg, og, none⟩) hlg).trans m0; have l1 := (hB.cell (p := ⟨bg, og + 1, none⟩) hlg).trans m1; have l2 := (hB.cell (p := ⟨bg, og + 2, none⟩) hlg).trans m2)
            | (at_builtin; refine wpList_push rfl _ _ _ rfl Tryd.underlying22 fi0 fz0 fz1 fz2 file_zero (by decide) hown rfl rfl rfl (file_one g) (by unfold maxLen; omega) (by omega) hbse ?_; intro g7 cap7 w14 hown7 hgr7 hat7; have hownT7 := hownT.kept hgr7 (own_apart hownT hown (by decide)); have hB := hB.grown hgr7 hbse (fun j hj => (hown.lt j hj).1)))
          go_roundw
          case rel => unfold MRel; exact ⟨k + 1, out ++ [g], told, by omega, by go_num, by rw [List.length_append, fcells_snoc]; exact hown7, hownT7, by simp; omega, by omega, HST, HTT, hB⟩
          case measure => simp [intOf] <;> omega
      | false =>
        cases b2 : likeO ox oz with
        | true =>
          cases oy with
          | none =>
            have hM := f2 b1 b2
            have HST := Lib.hid (show out ++ mOut x y z (U.drop (k + 1)) = R by have := HK.out; rw [s2 _ hM] at this; exact this)
            have HTT := Lib.hid (show told ++ mTold x y z (U.drop (k + 1)) = T by have := HT.out; rw [s4 _ hM] at this; exact this)
            have HB1 := Lib.hid b1
            have HB2 := Lib.hid b2
            clear f1 f2 f3 f4 s1 s2 s3 s4 hM HK HT hB1 b1 b2
            go_wp2_with (first
              | (go_at_call 42; (with_reducible refine (C1.out _ hB).mono ?_); rintro e w6 ⟨v1, rfl, hp1, hb1⟩; have hown := own_below hown hb1; have hownT := own_below hownT hb1; have hB := hB.trans (hb1.mono hB.size); have P1 := Lib.hid hp1; clear hp1)
              | (go_at_call 42; (with_reducible refine (C2.out _ hB).mono ?_); rintro e w7 ⟨v2, rfl, hp2, hb2⟩; have hown := own_below hown hb2; have hownT := own_below hownT hb2; have hB := hB.trans (hb2.mono hB.size); have P2 := Lib.hid hp2; obtain rfl : v2 = .pointer none := hp2)
              | (go_at_call 42; (with_reducible refine (C3.out _ hB).mono ?_); rintro e w8 ⟨v3, rfl, hp3, hb3⟩; have hown := own_below hown hb3; have hownT := own_below hownT hb3; have hB := hB.trans (hb3.mono hB.size); have P3 := Lib.hid hp3; clear hp3)
              | (go_at_call 43; (with_reducible refine (like_at HB1.out (P2.out.below hB (Nat.le_refl _)) (P3.out.below hB (Nat.le_refl _)) z23.out).mono ?_); rintro e w10 ⟨rfl, hb10⟩; have hown := own_below hown hb10; have hownT := own_below hownT hb10; have hB := hB.trans (hb10.mono hB.size); have hbse := hB.size)
              | (go_at_call 43; (with_reducible refine (like_at HB2.out (P1.out.below hB (Nat.le_refl _)) (P3.out.below hB (Nat.le_refl _)) z13.out).mono ?_); rintro e w11 ⟨rfl, hb11⟩; have hown := own_below hown hb11; have hownT := own_below hownT hb11; have hB := hB.trans (hb11.mono hB.size); have hbse := hB.size))
            go_roundw
            case rel => unfold MRel; exact ⟨k + 1, out, told, by omega, by go_num, hown, hownT, by omega, by omega, HST, HTT, hB⟩
            case measure => simp [intOf] <;> omega
          | some g =>
            have hM := f2 b1 b2
            have HST := Lib.hid (show (out ++ [g]) ++ mOut x y z (U.drop (k + 1)) = R by have := HK.out; rw [s1 _ _ hM] at this; simpa using this)
            have HTT := Lib.hid (show told ++ mTold x y z (U.drop (k + 1)) = T by have := HT.out; rw [s4 _ hM] at this; exact this)
            have HB1 := Lib.hid b1
            have HB2 := Lib.hid b2
            clear f1 f2 f3 f4 s1 s2 s3 s4 hM HK HT hB1 b1 b2
            go_wp2_with (first
              | (go_at_call 42; (with_reducible refine (C1.out _ hB).mono ?_); rintro e w6 ⟨v1, rfl, hp1, hb1⟩; have hown := own_below hown hb1; have hownT := own_below hownT hb1; have hB := hB.trans (hb1.mono hB.size); have P1 := Lib.hid hp1; clear hp1)
              | (go_at_call 42; (with_reducible refine (C2.out _ hB).mono ?_); rintro e w7 ⟨v2, rfl, hp2, hb2⟩; have hown := own_below hown hb2; have hownT := own_below hownT hb2; have hB := hB.trans (hb2.mono hB.size); have P2 := Lib.hid hp2; obtain ⟨bg, og, rfl, hlg, m0, m1, m2⟩ := hp2)
              | (go_at_call 42; (with_reducible refine (C3.out _ hB).mono ?_); rintro e w8 ⟨v3, rfl, hp3, hb3⟩; have hown := own_below hown hb3; have hownT := own_below hownT hb3; have hB := hB.trans (hb3.mono hB.size); have P3 := Lib.hid hp3; clear hp3)
              | (go_at_call 43; (with_reducible refine (like_at HB1.out (P2.out.below hB (Nat.le_refl _)) (P3.out.below hB (Nat.le_refl _)) z23.out).mono ?_); rintro e w10 ⟨rfl, hb10⟩; have hown := own_below hown hb10; have hownT := own_below hownT hb10; have hB := hB.trans (hb10.mono hB.size); have hbse := hB.size)
              | (go_at_call 43; (with_reducible refine (like_at HB2.out (P1.out.below hB (Nat.le_refl _)) (P3.out.below hB (Nat.le_refl _)) z13.out).mono ?_); rintro e w11 ⟨rfl, hb11⟩; have hown := own_below hown hb11; have hownT := own_below hownT hb11; have hB := hB.trans (hb11.mono hB.size); have hbse := hB.size; have l0 := (hB.cell (p := ⟨bg, og, none⟩) hlg).trans m0; have l1 := (hB.cell (p := ⟨bg, og + 1, none⟩) hlg).trans m1; have l2 := (hB.cell (p := ⟨bg, og + 2, none⟩) hlg).trans m2)
              | (at_builtin; refine wpList_push rfl _ _ _ rfl Tryd.underlying22 fi0 fz0 fz1 fz2 file_zero (by decide) hown rfl rfl rfl (file_one g) (by unfold maxLen; omega) (by omega) hbse ?_; intro g7 cap7 w14 hown7 hgr7 hat7; have hownT7 := hownT.kept hgr7 (own_apart hownT hown (by decide)); have hB := hB.grown hgr7 hbse (fun j hj => (hown.lt j hj).1)))
            go_roundw
            case rel => unfold MRel; exact ⟨k + 1, out ++ [g], told, by omega, by go_num, by rw [List.length_append, fcells_snoc]; exact hown7, hownT7, by simp; omega, by omega, HST, HTT, hB⟩
            case measure => simp [intOf] <;> omega
        | false =>
          cases b3 : likeO ox oy with
          | true =>
            cases oz with
            | none =>
              have hM := f3 b1 b2 b3
              have HST := Lib.hid (show out ++ mOut x y z (U.drop (k + 1)) = R by have := HK.out; rw [s2 _ hM] at this; exact this)
              have HTT := Lib.hid (show told ++ mTold x y z (U.drop (k + 1)) = T by have := HT.out; rw [s4 _ hM] at this; exact this)
              have HB1 := Lib.hid b1
              have HB2 := Lib.hid b2
              have HB3 := Lib.hid b3
              clear f1 f2 f3 f4 s1 s2 s3 s4 hM HK HT hB1 b1 b2 b3
              go_wp2_with (first
                | (go_at_call 42; (with_reducible refine (C1.out _ hB).mono ?_); rintro e w6 ⟨v1, rfl, hp1, hb1⟩; have hown := own_below hown hb1; have hownT := own_below hownT hb1; have hB := hB.trans (hb1.mono hB.size); have P1 := Lib.hid hp1; clear hp1)
                | (go_at_call 42; (with_reducible refine (C2.out _ hB).mono ?_); rintro e w7 ⟨v2, rfl, hp2, hb2⟩; have hown := own_below hown hb2; have hownT := own_below hownT hb2; have hB := hB.trans (hb2.mono hB.size); have P2 := Lib.hid hp2; clear hp2)
                | (go_at_call 42; (with_reducible refine (C3.out _ hB).mono ?_); rintro e w8 ⟨v3, rfl, hp3, hb3⟩; have hown := own_below hown hb3; have hownT := own_below hownT hb3; have hB := hB.trans (hb3.mono hB.size); have P3 := Lib.hid hp3; obtain rfl : v3 = .pointer none := hp3)
                | (go_at_call 43; (with_reducible refine (like_at HB1.out (P2.out.below hB (Nat.le_refl _)) (P3.out.below hB (Nat.le_refl _)) z23.out).mono ?_); rintro e w10 ⟨rfl, hb10⟩; have hown := own_below hown hb10; have hownT := own_below hownT hb10; have hB := hB.trans (hb10.mono hB.size); have hbse := hB.size)
                | (go_at_call 43; (with_reducible refine (like_at HB2.out (P1.out.below hB (Nat.le_refl _)) (P3.out.below hB (Nat.le_refl _)) z13.out).mono ?_); rintro e w11 ⟨rfl, hb11⟩; have hown := own_below hown hb11; have hownT := own_below hownT hb11; have hB := hB.trans (hb11.mono hB.size); have hbse := hB.size)
                | (go_at_call 43; (with_reducible refine (like_at HB3.out (P1.out.below hB (Nat.le_refl _)) (P2.out.below hB (Nat.le_refl _)) z12.out).mono ?_); rintro e w12 ⟨rfl, hb12⟩; have hown := own_below hown hb12; have hownT := own_below hownT hb12; have hB := hB.trans (hb12.mono hB.size); have hbse := hB.size))
              go_roundw
              case rel => unfold MRel; exact ⟨k + 1, out, told, by omega, by go_num, hown, hownT, by omega, by omega, HST, HTT, hB⟩
              case measure => simp [intOf] <;> omega
            | some g =>
              have hM := f3 b1 b2 b3
              have HST := Lib.hid (show (out ++ [g]) ++ mOut x y z (U.drop (k + 1)) = R by have := HK.out; rw [s1 _ _ hM] at this; simpa using this)
              have HTT := Lib.hid (show told ++ mTold x y z (U.drop (k + 1)) = T by have := HT.out; rw [s4 _ hM] at this; exact this)
              have HB1 := Lib.hid b1
              have HB2 := Lib.hid b2
              have HB3 := Lib.hid b3
              clear f1 f2 f3 f4 s1 s2 s3 s4 hM HK HT hB1 b1 b2 b3
              go_wp2_with (first
                | (go_at_call 42; (with_reducible refine (C1.out _ hB).mono ?_); rintro e w6 ⟨v1, rfl, hp1, hb1⟩; have hown := own_below hown hb1; have hownT := own_below hownT hb1; have hB := hB.trans (hb1.mono hB.size); have P1 := Lib.hid hp1; clear hp1)
                | (go_at_call 42; (with_reducible refine (C2.out _ hB).mono ?_); rintro e w7 ⟨v2, rfl, hp2, hb2⟩; have hown := own_below hown hb2; have hownT := own_below hownT hb2; have hB := hB.trans (hb2.mono hB.size); have P2 := Lib.hid hp2; clear hp2)
                | (go_at_call 42; (with_reducible refine (C3.out _ hB).mono ?_); rintro e w8 ⟨v3, rfl, hp3, hb3⟩; have hown := own_below hown hb3; have hownT := own_below hownT hb3; have hB := hB.trans (hb3.mono hB.size); have P3 := Lib.hid hp3; obtain ⟨bg, og, rfl, hlg, m0, m1, m2⟩ := hp3)
                | (go_at_call 43; (with_reducible refine (like_at HB1.out (P2.out.below hB (Nat.le_refl _)) (P3.out.below hB (Nat.le_refl _)) z23.out).mono ?_); rintro e w10 ⟨rfl, hb10⟩; have hown := own_below hown hb10; have hownT := own_below hownT hb10; have hB := hB.trans (hb10.mono hB.size); have hbse := hB.size)
                | (go_at_call 43; (with_reducible refine (like_at HB2.out (P1.out.below hB (Nat.le_refl _)) (P3.out.below hB (Nat.le_refl _)) z13.out).mono ?_); rintro e w11 ⟨rfl, hb11⟩; have hown := own_below hown hb11; have hownT := own_below hownT hb11; have hB := hB.trans (hb11.mono hB.size); have hbse := hB.size)
                | (go_at_call 43; (with_reducible refine (like_at HB3.out (P1.out.below hB (Nat.le_refl _)) (P2.out.below hB (Nat.le_refl _)) z12.out).mono ?_); rintro e w12 ⟨rfl, hb12⟩; have hown := own_below hown hb12; have hownT := own_below hownT hb12; have hB := hB.trans (hb12.mono hB.size); have hbse := hB.size; have l0 := (hB.cell (p := ⟨bg, og, none⟩) hlg).trans m0; have l1 := (hB.cell (p := ⟨bg, og + 1, none⟩) hlg).trans m1; have l2 := (hB.cell (p := ⟨bg, og + 2, none⟩) hlg).trans m2)
                | (at_builtin; refine wpList_push rfl _ _ _ rfl Tryd.underlying22 fi0 fz0 fz1 fz2 file_zero (by decide) hown rfl rfl rfl (file_one g) (by unfold maxLen; omega) (by omega) hbse ?_; intro g7 cap7 w14 hown7 hgr7 hat7; have hownT7 := hownT.kept hgr7 (own_apart hownT hown (by decide)); have hB := hB.grown hgr7 hbse (fun j hj => (hown.lt j hj).1)))
              go_roundw
              case rel => unfold MRel; exact ⟨k + 1, out ++ [g], told, by omega, by go_num, by rw [List.length_append, fcells_snoc]; exact hown7, hownT7, by simp; omega, by omega, HST, HTT, hB⟩
              case measure => simp [intOf] <;> omega
          | false =>
            cases oy with
            | none =>
              have hM := f4 b1 b2 b3
              have HST := Lib.hid (show out ++ mOut x y z (U.drop (k + 1)) = R by have := HK.out; rw [s2 _ hM] at this; exact this)
              have HTT := Lib.hid (show (told ++ [p]) ++ mTold x y z (U.drop (k + 1)) = T by have := HT.out; rw [s3 _ hM] at this; simpa using this)
              have HB1 := Lib.hid b1
              have HB2 := Lib.hid b2
              have HB3 := Lib.hid b3
              clear f1 f2 f3 f4 s1 s2 s3 s4 hM HK HT hB1 b1 b2 b3
              go_wp2_with (first
                | (go_at_call 42; (with_reducible refine (C1.out _ hB).mono ?_); rintro e w6 ⟨v1, rfl, hp1, hb1⟩; have hown := own_below hown hb1; have hownT := own_below hownT hb1; have hB := hB.trans (hb1.mono hB.size); have P1 := Lib.hid hp1; clear hp1)
                | (go_at_call 42; (with_reducible refine (C2.out _ hB).mono ?_); rintro e w7 ⟨v2, rfl, hp2, hb2⟩; have hown := own_below hown hb2; have hownT := own_below hownT hb2; have hB := hB.trans (hb2.mono hB.size); have P2 := Lib.hid hp2; obtain rfl : v2 = .pointer none := hp2)
                | (go_at_call 42; (with_reducible refine (C3.out _ hB).mono ?_); rintro e w8 ⟨v3, rfl, hp3, hb3⟩; have hown := own_below hown hb3; have hownT := own_below hownT hb3; have hB := hB.trans (hb3.mono hB.size); have P3 := Lib.hid hp3; clear hp3)
                | (go_at_call 43; (with_reducible refine (like_at HB1.out (P2.out.below hB (Nat.le_refl _)) (P3.out.below hB (Nat.le_refl _)) z23.out).mono ?_); rintro e w10 ⟨rfl, hb10⟩; have hown := own_below hown hb10; have hownT := own_below hownT hb10; have hB := hB.trans (hb10.mono hB.size); have hbse := hB.size)
                | (go_at_call 43; (with_reducible refine (like_at HB2.out (P1.out.below hB (Nat.le_refl _)) (P3.out.below hB (Nat.le_refl _)) z13.out).mono ?_); rintro e w11 ⟨rfl, hb11⟩; have hown := own_below hown hb11; have hownT := own_below hownT hb11; have hB := hB.trans (hb11.mono hB.size); have hbse := hB.size)
                | (go_at_call 43; (with_reducible refine (like_at HB3.out (P1.out.below hB (Nat.le_refl _)) (P2.out.below hB (Nat.le_refl _)) z12.out).mono ?_); rintro e w12 ⟨rfl, hb12⟩; have hown := own_below hown hb12; have hownT := own_below hownT hb12; have hB := hB.trans (hb12.mono hB.size); have hbse := hB.size)
                | (at_builtin; refine wpList_push rfl _ _ _ rfl Tryd.underlying43 si0 sz0 sz1 sz2 rfl (by decide) hownT rfl rfl rfl (str_one p) (by unfold maxLen; omega) (by omega) hbse ?_; intro g6 cap6 w13 hownT6 hgr6 hat6; have hown := hown.kept hgr6 (own_apart hown hownT (by decide)); have hB := hB.grown hgr6 hbse (fun j hj => (hownT.lt j hj).1); have hbse := hB.size))
              go_roundw
              case rel => unfold MRel; exact ⟨k + 1, out, told ++ [p], by omega, by go_num, hown, by rw [List.length_append, List.map_append]; exact hownT6, by omega, by simp; omega, HST, HTT, hB⟩
              case measure => simp [intOf] <;> omega
            | some g =>
              have hM := f4 b1 b2 b3
              have HST := Lib.hid (show (out ++ [g]) ++ mOut x y z (U.drop (k + 1)) = R by have := HK.out; rw [s1 _ _ hM] at this; simpa using this)
              have HTT := Lib.hid (show (told ++ [p]) ++ mTold x y z (U.drop (k + 1)) = T by have := HT.out; rw [s3 _ hM] at this; simpa using this)
              have HB1 := Lib.hid b1
              have HB2 := Lib.hid b2
              have HB3 := Lib.hid b3
              clear f1 f2 f3 f4 s1 s2 s3 s4 hM HK HT hB1 b1 b2 b3
              go_wp2_with (first
                | (go_at_call 42; (with_reducible refine (C1.out _ hB).mono ?_); rintro e w6 ⟨v1, rfl, hp1, hb1⟩; have hown := own_below hown hb1; have hownT := own_below hownT hb1; have hB := hB.trans (hb1.mono hB.size); have P1 := Lib.hid hp1; clear hp1)
                | (go_at_call 42; (with_reducible refine (C2.out _ hB).mono ?_); rintro e w7 ⟨v2, rfl, hp2, hb2⟩; have hown := own_below hown hb2; have hownT := own_below hownT hb2; have hB := hB.trans (hb2.mono hB.size); have P2 := Lib.hid hp2; obtain ⟨bg, og, rfl, hlg, m0, m1, m2⟩ := hp2)
                | (go_at_call 42; (with_reducible refine (C3.out _ hB).mono ?_); rintro e w8 ⟨v3, rfl, hp3, hb3⟩; have hown := own_below hown hb3; have hownT := own_below hownT hb3; have hB := hB.trans (hb3.mono hB.size); have P3 := Lib.hid hp3; clear hp3)
                | (go_at_call 43; (with_reducible refine (like_at HB1.out (P2.out.below hB (Nat.le_refl _)) (P3.out.below hB (Nat.le_refl _)) z23.out).mono ?_); rintro e w10 ⟨rfl, hb10⟩; have hown := own_below hown hb10; have hownT := own_below hownT hb10; have hB := hB.trans (hb10.mono hB.size); have hbse := hB.size)
                | (go_at_call 43; (with_reducible refine (like_at HB2.out (P1.out.below hB (Nat.le_refl _)) (P3.out.below hB (Nat.le_refl _)) z13.out).mono ?_); rintro e w11 ⟨rfl, hb11⟩; have hown := own_below hown hb11; have hownT := own_below hownT hb11; have hB := hB.trans (hb11.mono hB.size); have hbse := hB.size)
                | (go_at_call 43; (with_reducible refine (like_at HB3.out (P1.out.below hB (Nat.le_refl _)) (P2.out.below hB (Nat.le_refl _)) z12.out).mono ?_); rintro e w12 ⟨rfl, hb12⟩; have hown := own_below hown hb12; have hownT := own_below hownT hb12; have hB := hB.trans (hb12.mono hB.size); have hbse := hB.size; have l0 := (hB.cell (p := ⟨bg, og, none⟩) hlg).trans m0; have l1 := (hB.cell (p := ⟨bg, og + 1, none⟩) hlg).trans m1; have l2 := (hB.cell (p := ⟨bg, og + 2, none⟩) hlg).trans m2)
                | (at_builtin; refine wpList_push rfl _ _ _ rfl Tryd.underlying43 si0 sz0 sz1 sz2 rfl (by decide) hownT rfl rfl rfl (str_one p) (by unfold maxLen; omega) (by omega) hbse ?_; intro g6 cap6 w13 hownT6 hgr6 hat6; have hown := hown.kept hgr6 (own_apart hown hownT (by decide)); have hB := hB.grown hgr6 hbse (fun j hj => (hownT.lt j hj).1); have hbse := hB.size; have l0 := (hB.cell (p := ⟨bg, og, none⟩) hlg).trans m0; have l1 := (hB.cell (p := ⟨bg, og + 1, none⟩) hlg).trans m1; have l2 := (hB.cell (p := ⟨bg, og + 2, none⟩) hlg).trans m2)
                | (at_builtin; refine wpList_push rfl _ _ _ rfl Tryd.underlying22 fi0 fz0 fz1 fz2 file_zero (by decide) hown rfl rfl rfl (file_one g) (by unfold maxLen; omega) (by omega) hbse ?_; intro g7 cap7 w14 hown7 hgr7 hat7; have hownT7 := hownT6.kept hgr7 (own_apart hownT6 hown (by decide)); have hB := hB.grown hgr7 hbse (fun j hj => (hown.lt j hj).1)))
              go_roundw
              case rel => unfold MRel; exact ⟨k + 1, out ++ [g], told ++ [p], by omega, by go_num, by rw [List.length_append, fcells_snoc]; exact hown7, by rw [List.length_append, List.map_append]; exact hownT7, by simp; omega, by simp; omega, HST, HTT, hB⟩
              case measure => simp [intOf] <;> omega
    · obtain ⟨d1, d2⟩ := m_end (x := x) (y := y) (z := z) (U := U) (k := k) (by omega)
      have hH := HK.out
      rw [d1, List.append_nil] at hH
      subst hH
      have hT := HT.out
      rw [d2, List.append_nil] at hT
      subst hT
      obtain ⟨A7, c7, rfl, hcap7, ha7, hfr7⟩ := own_arr hown
      obtain ⟨A8, c8, rfl, hcap8, ha8, hfr8⟩ := own_arr hownT
      have HA7 := Lib.hid ha7
      have HA8 := Lib.hid ha8
      have hB9 := below_on hB5 hB
      clear HK HT ha7 ha8 d1 d2 hown hownT hfr7 hfr8
      by_cases hF : F = 0
      · subst hF
        have hd := HD.out
        rw [if_neg (by decide)] at hd
        subst hd
        clear HD
        go_wp2_with (go_at_call 12; (with_reducible refine (HO.out _ _ _ HA7.out (hm.on hB9)).mono ?_); rintro e w9 ⟨rfl, hb9⟩)
        go_ret3
        unfold MrOut
        exact ⟨_, _, rfl, Arr.on3 HA8.out hb9, below_on hB9 hb9⟩
      · have hd := HD.out
        rw [if_pos hF] at hd
        subst hd
        have g0 : (F == 0) = false := by rw [beq_eq_false_iff_ne]; exact hF
        clear HD
        go_wp2_with (go_at_call 12; (with_reducible refine (HO.out _ _ _ HA7.out (hm.on hB9)).mono ?_); rintro e w9 ⟨rfl, hb9⟩)
        go_ret3
        unfold MrOut
        exact ⟨_, _, rfl, Arr.nil _ _ _ _, below_on hB9 hb9⟩
end Go.Proofs.YtlfennooocmclaaDoor
