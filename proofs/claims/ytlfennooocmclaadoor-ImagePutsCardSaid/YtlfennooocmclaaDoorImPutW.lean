/- Chapter 10: the walks through Put, the program's and the reference's; ImagePuts. -/
import Derived.Test.YtlfennooocmclaaDoorImBackW
import Derived.Test.YtlfennooocmclaaDoorImFind
import Derived.Test.YtlfennooocmclaaDoorSortB
import Derived.BigRegion
namespace Go.Proofs.YtlfennooocmclaaDoor
open Go.RowKit
set_option linter.unusedVariables false

def oth (f : FileD) (l : List FileD) : List FileD := l.filter fun g => decide (g.path ≠ f.path)
def putF (l : List FileD) (f : FileD) : List FileD := sortS (oth f l ++ [f])
def putO (T : Int × List FileD) (f : FileD) : Int × ByteArray := if T.1 = 0 then (ofE (putF T.2 f), ofS (putF T.2 f)) else (T.1, ⟨#[]⟩)
theorem oth_all {l : List FileD} {f : FileD} (h : ∀ g ∈ l, g.path ≠ f.path) : oth f l = l := by
  unfold oth
  exact List.filter_eq_self.2 fun g hg => decide_eq_true (h g hg)
theorem put_old {l : List FileD} {f g : FileD} {i : Nat} (hpw : l.Pairwise FR) (h : l[i]? = some g) (hp : g.path = f.path) : l.set i f = putF l f := by
  have hi : i < l.length := by
    rcases Nat.lt_or_ge i l.length with h1 | h1
    · exact h1
    · rw [List.getElem?_eq_none h1] at h; cases h
  have e1 : l = l.take i ++ g :: l.drop (i + 1) := by rw [← drop_head h, List.take_append_drop]
  have e2 : l.set i f = l.take i ++ f :: l.drop (i + 1) := by
    conv => lhs; rw [e1]
    have : (l.take i).length = i := by rw [List.length_take]; omega
    conv => lhs; rw [← this]
    rw [this]
    have := set_mid (l.take i) (l.drop (i + 1)) g f
    rw [show (l.take i).length = i by rw [List.length_take]; omega] at this
    exact this
  rw [e1] at hpw
  obtain ⟨hA, hB, hAB⟩ := List.pairwise_append.1 hpw
  obtain ⟨hg, hC⟩ := List.pairwise_cons.1 hB
  have fr : ∀ {x y : FileD}, FR x y → flt x y := fun h => h
  have lt1 : ∀ x ∈ l.take i, flt x f := fun x hx => by
    have h1 : flt x g := fr (hAB x hx g (by simp))
    unfold flt fk at h1 ⊢
    rw [← hp]; exact h1
  have lt2 : ∀ x ∈ l.drop (i + 1), flt f x := fun x hx => by
    have h1 : flt g x := fr (hg x hx)
    unfold flt fk at h1 ⊢
    rw [← hp]; exact h1
  have hS : Srt (l.take i ++ l.drop (i + 1)) := srt_app.2 ⟨hA.imp (fun h => flt_le (fr h)), hC.imp (fun h => flt_le (fr h)), fun x hx y hy => flt_le (fr (hAB x hx y (by simp [hy])))⟩
  have ho : oth f l = l.take i ++ l.drop (i + 1) := by
    unfold oth
    conv => lhs; rw [e1]
    rw [List.filter_append, List.filter_cons, if_neg (by simpa using hp)]
    congr 1
    · exact List.filter_eq_self.2 fun x hx => decide_eq_true (flt_ne (lt1 x hx))
    · exact List.filter_eq_self.2 fun x hx => decide_eq_true fun e => flt_ne (lt2 x hx) e.symm
  have hi2 := ins_stb hS (fun u hu => flt_le (lt1 u hu)) lt2
  unfold putF
  rw [ho, e2]
  refine sort_is ?_ ?_
  · have := hi2.1
    rw [List.append_assoc] at this
    exact this
  · have := hi2.2
    rw [List.append_assoc (l.take i) [f]] at this
    exact this
theorem putF_len (l : List FileD) (f : FileD) : (putF l f).length ≤ l.length + 1 := by
  unfold putF
  rw [← (sortS_srt _).2.1, List.length_append, List.length_cons, List.length_nil]
  exact Nat.add_le_add_right (List.length_filter_le _ _) 1
theorem putF_ok {l : List FileD} {f : FileD} (hl : ∀ g ∈ l, FOk g) (hf : FOk f) : ∀ g ∈ putF l f, FOk g := by
  intro g hg
  unfold putF at hg
  have := (sortS_srt _).2.mem.2 hg
  rcases List.mem_append.1 this with h | h
  · exact hl g (List.mem_filter.1 h).1
  · rw [List.mem_singleton] at h; rw [h]; exact hf
theorem ofx {R : List FileD} {S : ByteArray} {F : Int} (h : ∀ A c W, Arr W W.heap.size 3 A R.length (fcells R) → Ml W → Calls Tryd.prog 12 #[.slice A R.length c] W fun e w' => e = .returned (.tuple #[.string S, .int .i64 F]) ∧ Below W.heap.size W w')
    {A : Option Addr} {c n : Nat} {W : World} (hn : R.length = n) (ha : Arr W W.heap.size 3 A n (fcells R)) (hm : Ml W) : Calls Tryd.prog 12 #[.slice A n c] W fun e w' => e = .returned (.tuple #[.string S, .int .i64 F]) ∧ Below W.heap.size W w' := by
  subst hn; exact h A c W ha hm
theorem rofx {R : List FileD} {S : ByteArray} {F : Int} (h : ∀ A c W, Arr W W.heap.size 3 A R.length (fcells R) → Calls Tryd.prog 13 #[.slice A R.length c] W fun e w' => e = .returned (.tuple #[.string S, .int .i64 F]) ∧ Below W.heap.size W w')
    {A : Option Addr} {c n : Nat} {W : World} (hn : R.length = n) (ha : Arr W W.heap.size 3 A n (fcells R)) : Calls Tryd.prog 13 #[.slice A n c] W fun e w' => e = .returned (.tuple #[.string S, .int .i64 F]) ∧ Below W.heap.size W w' := by
  subst hn; exact h A c W ha
def PutOut (w : World) (D : Int × ByteArray) (e : Ending) (w' : World) : Prop := e = .returned (.tuple #[.string D.2, .int .i64 D.1]) ∧ Below w.heap.size w w'
set_option maxHeartbeats 4000000 in
set_option maxRecDepth 100000 in
theorem put_any (s : ByteArray) (f : FileD) (w : World) (hs : s.size ≤ 524288) (hf : FOk f) (hm : Ml w) :
    Calls Tryd.prog 25 #[.string s, .agg #[.string f.path, .int .i64 f.mode, .string f.data]] w (PutOut w (putO (treeOf s) f)) := by
  obtain ⟨i2, fi0, fz0, fz1, fz2⟩ := info_parts infoFile
  have hT := Lib.hid (fun X hm' => tree_any s X (by omega) hm')
  have hgo := fun E n h => tree_good s (by omega) (l := n) (E := E) h
  have hgs := fun n h => tree_canon (s := s) (l := n) (by omega) h
  have hle := tree_len s (by omega)
  obtain ⟨E, l, hn⟩ : ∃ E l, treeOf s = (E, l) := ⟨_, _, rfl⟩
  have hgo := hgo E l hn
  have hgs := hgs l
  rw [hn] at hT hle hgs ⊢
  unfold TreeOut at hT
  simp only [] at hT hle
  have HT := Lib.hid hT.out
  have hbf : Below w.heap.size w (w.alloc (.cells #[.string f.path, .int .i64 f.mode, .string f.data] 33)) := (Below.refl _ _).alloc (Nat.le_refl _) _
  have HBX := Lib.hid (Blk.new w 33 #[.string f.path, .int .i64 f.mode, .string f.data])
  have HM := Lib.hid hm
  clear hT hn
  by_cases hE : E = 0
  · have hD : putO (E, l) f = (ofE (putF l f), ofS (putF l f)) := if_pos hE
    rw [hD]
    subst hE
    have hpw := check_pw (of_zero (hgs rfl).1).1
    have HPW := Lib.hid hpw
    have hro := putF_ok hgo hf
    have hrl := putF_len l f
    have HG := Lib.hid hgo
    obtain ⟨R, hR⟩ : ∃ R, R = putF l f := ⟨_, rfl⟩
    have HR := Lib.hid hR
    rw [← hR] at hro hrl ⊢
    have HO := Lib.hid (fun A c W h hm' => of_any A c R W (by omega) hro h hm')
    unfold OfIs at HO
    have hle' : l.length ≤ 256 := hle
    have HFD := Lib.hid (fun A c W h => find_any A c l f.path W (by omega) hgo hpw hf.1 h)
    have HF := Lib.hid hf
    have hpl : (∃ i g, placeF f.path 0 l = ((i : Nat) : Int) ∧ l[i]? = some g ∧ g.path = f.path) ∨ (placeF f.path 0 l = -1 ∧ ∀ g ∈ l, g.path ≠ f.path) := by
      cases hk : lookF f.path l with
      | none => exact .inr ⟨placeF_none hk, lookF_none.1 hk⟩
      | some g =>
        obtain ⟨i, h1, h2⟩ := placeF_some (k := 0) hk
        rw [Nat.zero_add] at h1
        exact .inl ⟨i, g, h1, h2, (lookF_some hk).2⟩
    clear hR hro hD hgo hgs hpw hf hle
    rcases hpl with ⟨i, g, hp1, hg, hgp⟩ | ⟨hp1, hno⟩
    · rw [hp1] at HFD
      have hil : i < l.length := by
        rcases Nat.lt_or_ge i l.length with h1 | h1
        · exact h1
        · rw [List.getElem?_eq_none h1] at hg; cases hg
      have HSET : Hid (l.set i f = R) := Lib.hid (by rw [HR.out]; exact put_old HPW.out hg hgp)
      have HGI := Lib.hid hg
      clear hp1 hg hgp
      generalize ofS R = S at *
      generalize ofE R = F at *
      go_enter Tryd.func25, Tryd.ntmps25
      go_wp2_with (first
        | (go_at_call 17; (with_reducible refine (HT.out _ (HM.out.on hbf)).mono ?_); rintro e w2 ⟨vf, rfl, hown, hB⟩; have hB2 := below_on hbf hB; obtain ⟨g1, cap1, rfl, hr1⟩ := own_form hown rfl (by omega); have HA := Lib.hid (own_slice hown); have HR1 := Lib.hid hr1; have HBK := Lib.hid (HBX.out.below hB HBX.out.lt); obtain ⟨k0, k1, k2⟩ := fbox_cells HBK.out; clear hown hr1)
        | (go_at_call 47; (with_reducible refine (HFD.out _ _ _ HA.out).mono ?_); rintro e w3 ⟨rfl, hb3⟩; have HB3 := Lib.hid (below_on hB2 hb3); have HR3 := Lib.hid (HR1.out.below hb3); obtain ⟨k0, k1, k2⟩ := fbox_cells (HBK.out.below hb3 HBK.out.lt); obtain ⟨x0, x1, x2⟩ := HR3.out.get HGI.out; have p0 := HR3.out.fz (i * 3); have p1 := HR3.out.fz (i * 3 + 1); have p2 := HR3.out.fz (i * 3 + 2); have il : (i : Int) < l.length := (by omega); have hgb := HR1.out.lt.1; have hgs := hbf.size)
        | (go_at_call 12; have hrp := HR3.out.put i f; rw [HSET.out] at hrp; have hpb := put_below HB3.out (Nat.le_trans hgs hgb) i f; have hlr := hrp.len; (with_reducible refine (ofx HO.out hlr (own_slice hrp.own) (HM.out.on hpb)).mono ?_); rintro e w5 ⟨rfl, hb5⟩; have HB5 := Lib.hid (below_on hpb hb5))
        | (fail))
      go_ret2
      unfold PutOut
      exact ⟨rfl, HB5.out⟩
    · have HL2 : Hid (R = sortS (l ++ [f])) := Lib.hid (by rw [HR.out]; unfold putF; rw [oth_all hno])
      rw [hp1] at HFD
      have hRl : R.length = l.length + 1 := by rw [HL2.out, ← (sortS_srt _).2.1, List.length_append]; rfl
      have HSO : Hid (∀ A c W, Arr W W.heap.size 3 A (l.length + 1) (fcells (l ++ [f])) → Calls Tryd.prog 48 #[.slice A (l.length + 1) c] W fun e w' => ∃ v, e = .returned v ∧ w'.ownsRow W.heap.size 33 3 v (l.length + 1) (fcells R) ∧ Below W.heap.size W w') := Lib.hid fun A c W h => by
        have := sort_any A c (l ++ [f]) W (by simp; omega) (by
          intro g hg
          rcases List.mem_append.1 hg with h | h
          · exact HG.out g h
          · rw [List.mem_singleton] at h; rw [h]; exact HF.out) (by rw [List.length_append]; exact h)
        rw [List.length_append, ← HL2.out] at this
        exact this
      have HRL := Lib.hid hRl
      clear hp1 hno hRl
      generalize ofS R = S at *
      generalize ofE R = F at *
      go_enter Tryd.func25, Tryd.ntmps25
      go_wp2_with (first
        | (go_at_call 17; (with_reducible refine (HT.out _ (HM.out.on hbf)).mono ?_); rintro e w2 ⟨vf, rfl, hown, hB⟩; have hB2 := below_on hbf hB; have HOW := Lib.hid hown; obtain ⟨A1, c1, rfl, _, _, _⟩ := own_arr hown; have HA := Lib.hid (own_slice hown); have HBK := Lib.hid (HBX.out.below hB HBX.out.lt); obtain ⟨k0, k1, k2⟩ := fbox_cells HBK.out; clear hown)
        | (go_at_call 47; (with_reducible refine (HFD.out _ _ _ HA.out).mono ?_); rintro e w3 ⟨rfl, hb3⟩; have HB3 := Lib.hid (below_on hB2 hb3); have how3 := own_below HOW.out hb3; have HOW3 := Lib.hid how3; have hs3 : (w.alloc (.cells #[.string f.path, .int .i64 f.mode, .string f.data] 33)).heap.size ≤ w3.heap.size := (Nat.le_trans hB.size hb3.size); obtain ⟨k0, k1, k2⟩ := fbox_cells (HBK.out.below hb3 HBK.out.lt))
        | (at_builtin; refine wpList_push rfl _ _ _ rfl Tryd.underlying22 fi0 fz0 fz1 fz2 file_zero (by decide) HOW3.out rfl rfl rfl (file_one f) (by unfold maxLen; omega) (by omega) hs3 ?_; intro g6 cap6 w6 hown6 hgr6 hat6; have HB6 := Lib.hid (HB3.out.grown hgr6 HB3.out.size (fun j hj => Nat.le_trans hbf.size ((HOW3.out.lt j hj).1))); have HO6 := Lib.hid (own_slice hown6); clear hown6)
        | (go_at_call 48; (with_reducible refine (HSO.out _ _ _ (by have := HO6.out; rw [fcells_snoc]; exact this)).mono ?_); rintro e w7 ⟨v7, rfl, hv7, hb7⟩; have HA7 := Lib.hid hv7; obtain ⟨A7, c7, rfl, _, _, _⟩ := own_arr hv7; have HB7 := Lib.hid (below_on HB6.out hb7); clear hv7 hb7)
        | (go_at_call 12; (with_reducible refine (ofx HO.out HRL.out (own_slice HA7.out) (HM.out.on HB7.out)).mono ?_); rintro e w8 ⟨rfl, hb8⟩; have HB8 := Lib.hid (below_on HB7.out hb8))
        | (fail))
      go_ret2
      unfold PutOut
      exact ⟨rfl, HB8.out⟩
  · have hD : putO (E, l) f = (E, ⟨#[]⟩) := if_neg hE
    rw [hD]
    have e0 : (E == 0) = false := by rw [beq_eq_false_iff_ne]; exact hE
    go_enter Tryd.func25, Tryd.ntmps25
    go_wp2_with (go_at_call 17; (with_reducible refine (HT.out _ (HM.out.on hbf)).mono ?_); rintro e w2 ⟨vf, rfl, hown, hB⟩; obtain ⟨A, c, rfl, hcap, ha, hfr⟩ := own_arr hown)
    go_ret2
    unfold PutOut
    exact ⟨rfl, below_on hbf hB⟩
section
variable {l : List FileD} {k : Nat} {f g : FileD}
theorem oth_same (h : l[k]? = some g) (hp : g.path = f.path) : oth f (l.drop k) = oth f (l.drop (k + 1)) := by unfold oth; rw [drop_head h, List.filter_cons_of_neg (by simp [hp])]
theorem oth_keep (h : l[k]? = some g) (hp : g.path ≠ f.path) : oth f (l.drop k) = g :: oth f (l.drop (k + 1)) := by unfold oth; rw [drop_head h, List.filter_cons_of_pos (by simp [hp])]
theorem oth_end (h : l.length ≤ k) : oth f (l.drop k) = [] := by rw [List.drop_eq_nil_of_le h]; rfl
end
def PutR (w2 : World) (l R : List FileD) (f : FileD) (vo v : Value) (wr : World) : Prop := ∃ (k : Nat) (out : List FileD), k ≤ l.length ∧ v = .int .i64 k ∧ Hid (wr.ownsRow w2.heap.size 33 3 vo out.length (fcells out)) ∧ out.length ≤ k ∧ Hid (out ++ oth f (l.drop k) = R) ∧ Below w2.heap.size w2 wr
set_option maxHeartbeats 4000000 in
set_option maxRecDepth 100000 in
theorem put_ref (s : ByteArray) (f : FileD) (w : World) (hs : s.size ≤ 524288) (hf : FOk f) :
    Calls Tryd.prog 26 #[.string s, .agg #[.string f.path, .int .i64 f.mode, .string f.data]] w (PutOut w (putO (treeOf s) f)) := by
  obtain ⟨i2, fi0, fz0, fz1, fz2⟩ := info_parts infoFile
  have hT := Lib.hid (fun X => tree_ref s X (by omega))
  have hgo := fun E n h => tree_good s (by omega) (l := n) (E := E) h
  have hle := tree_len s (by omega)
  obtain ⟨E, l, hn⟩ : ∃ E l, treeOf s = (E, l) := ⟨_, _, rfl⟩
  have hgo := hgo E l hn
  rw [hn] at hT hle ⊢
  unfold TreeOut at hT
  simp only [] at hT hle
  have HT := Lib.hid hT.out
  have hbf : Below w.heap.size w (w.alloc (.cells #[.string f.path, .int .i64 f.mode, .string f.data] 33)) := (Below.refl _ _).alloc (Nat.le_refl _) _
  have HBX := Lib.hid (Blk.new w 33 #[.string f.path, .int .i64 f.mode, .string f.data])
  clear hT hn
  by_cases hE : E = 0
  · have hD : putO (E, l) f = (ofE (putF l f), ofS (putF l f)) := if_pos hE
    rw [hD]
    subst hE
    have hro := putF_ok hgo hf
    have hrl := putF_len l f
    have HG := Lib.hid hgo
    obtain ⟨Q, hQ⟩ : ∃ Q, Q = oth f l := ⟨_, rfl⟩
    have HQ : Hid ([] ++ oth f (l.drop 0) = Q) := Lib.hid (by rw [hQ]; rfl)
    have hql : Q.length ≤ l.length := by rw [hQ]; exact List.length_filter_le _ _
    obtain ⟨R, hR⟩ : ∃ R, R = putF l f := ⟨_, rfl⟩
    have HRQ : Hid (R = sortS (Q ++ [f])) := Lib.hid (by rw [hR, hQ]; rfl)
    rw [← hR] at hro hrl ⊢
    have HO := Lib.hid (fun A c W h => of_ref A c R W (by omega) hro h)
    unfold OfIs at HO
    have hle' : l.length ≤ 256 := hle
    have hRl : R.length = Q.length + 1 := by rw [HRQ.out, ← (sortS_srt _).2.1, List.length_append]; rfl
    have HRL := Lib.hid hRl
    have HSO : Hid (∀ A c W, Arr W W.heap.size 3 A (Q.length + 1) (fcells (Q ++ [f])) → Calls Tryd.prog 45 #[.slice A (Q.length + 1) c] W fun e w' => ∃ A' c', e = .returned (.slice A' (Q.length + 1) c') ∧ Arr w' w'.heap.size 3 A' (Q.length + 1) (fcells R) ∧ Below W.heap.size W w') := Lib.hid fun A c W h => by
      have := sort_ref A c (Q ++ [f]) W (by simp; omega) (by
        intro g hg
        rcases List.mem_append.1 hg with h | h
        · rw [hQ] at h; exact HG.out g (List.mem_filter.1 h).1
        · rw [List.mem_singleton] at h; rw [h]; exact hf) (by rw [List.length_append]; exact h)
      rw [List.length_append, ← HRQ.out] at this
      exact this
    clear hR hro hD hgo hQ hRl hf hle
    generalize ofS R = S at *
    generalize ofE R = F at *
    go_enter Tryd.func26, Tryd.ntmps26
    go_wp2_with (go_at_call 18; (with_reducible refine (HT.out _).mono ?_); rintro e w2 ⟨vf, rfl, hown, hB⟩; obtain ⟨A, c, rfl, hcap, ha, hfr⟩ := own_arr hown; have HA := Lib.hid ha; have HBK := Lib.hid (HBX.out.below hB HBX.out.lt); have HB2 := Lib.hid (below_on hbf hB); clear ha hown hfr)
    go_loopw [8, 9] (fun vo v wr => PutR w2 l Q f vo v wr) (fun _ v _ => l.length - (intOf v).toNat)
    case atStart => unfold PutR; exact ⟨0, [], Nat.zero_le _, rfl, Lib.hid (World.ownsRow_nil _ _ _ _), Nat.le_refl _, HQ, Below.refl _ _⟩
    case round =>
      unfold PutR at hrel
      clear HQ
      obtain ⟨k, out, hk, rfl, HOW, hol, HK, hBB⟩ := hrel
      have hbse := hBB.size
      obtain ⟨k0, k1, k2⟩ := fbox_cells (HBK.out.below hBB HBK.out.lt)
      by_cases hlt : k < l.length
      · obtain ⟨g, hg⟩ : ∃ g, l[k]? = some g := ⟨_, List.getElem?_eq_getElem hlt⟩
        obtain ⟨b, o, rfl, hb, hcell⟩ := HA.out.2 (by omega)
        obtain ⟨c0, c1, c2⟩ := file_cells (fun i u h => (hBB.cell (p := ⟨b, o + i, none⟩) hb).trans (hcell i u h)) hg
        have kl : (k : Int) < l.length := by omega
        have f1 := fun h => (congrArg (out ++ ·) (oth_same (f := f) hg h)).symm.trans HK.out
        have f2 := fun h => (congrArg (out ++ ·) (oth_keep (f := f) hg h)).symm.trans HK.out
        clear hg hcell HK
        by_cases hpe : g.path = f.path
        · have HST := Lib.hid (f1 hpe)
          have g1 : (g.path.toList == f.path.toList) = true := by rw [hpe]; exact beq_self_eq_true _
          have g2 : (g.path.toList != f.path.toList) = false := by rw [hpe]; simp
          clear f1 f2 hpe
          go_wp2
          go_region
          go_wp2
          go_roundw
          case rel => unfold PutR; exact ⟨k + 1, out, by omega, by go_num, HOW, by omega, HST, hBB.drew⟩
          case measure => simp [intOf] <;> omega
        · have g1 := str_ne hpe
          have g2 : (g.path.toList != f.path.toList) = true := by rw [bne, g1]; rfl
          have HST := Lib.hid (show (out ++ [g]) ++ oth f (l.drop (k + 1)) = Q by have := f2 hpe; simpa using this)
          have how : wr.drew.ownsRow w2.heap.size 33 3 _ out.length (fcells out) := HOW.out
          have HOD := Lib.hid how
          have HBD := Lib.hid hBB.drew
          clear f1 f2 hpe how
          go_wp2
          go_region
          go_wp2_with (at_builtin; refine wpList_push rfl _ _ _ rfl Tryd.underlying22 fi0 fz0 fz1 fz2 file_zero (by decide) HOD.out rfl rfl rfl (file_one g) (by unfold maxLen; omega) (by omega) hbse ?_; intro g6 cap6 w6 hown6 hgr6 hat6; have HB6 := Lib.hid (HBD.out.grown hgr6 hbse (fun j hj => (HOD.out.lt j hj).1)); have HO6 := Lib.hid hown6; clear hown6)
          go_roundw
          case rel => unfold PutR; exact ⟨k + 1, out ++ [g], by omega, by go_num, Lib.hid (by rw [List.length_append, fcells_snoc]; exact HO6.out), by simp; omega, HST, HB6.out⟩
          case measure => simp [intOf] <;> omega
      · have hH := HK.out
        rw [oth_end (by omega), List.append_nil] at hH
        subst hH
        have kl : ¬ (k : Int) < l.length := by omega
        have HB4 := Lib.hid (HB2.out.trans (hBB.mono HB2.out.size))
        clear HK
        go_wp2_with (first
          | (at_builtin; refine wpList_push rfl _ _ _ rfl Tryd.underlying22 fi0 fz0 fz1 fz2 file_zero (by decide) HOW.out rfl rfl rfl (file_one f) (by unfold maxLen; omega) (by omega) hbse ?_; intro g6 cap6 w6 hown6 hgr6 hat6; have HB6 := Lib.hid (HB4.out.grown hgr6 HB4.out.size (fun j hj => Nat.le_trans HB2.out.size ((HOW.out.lt j hj).1))); have HO6 := Lib.hid (own_slice hown6); clear hown6)
          | (go_at_call 45; (with_reducible refine (HSO.out _ _ _ (by have := HO6.out; rw [fcells_snoc]; exact this)).mono ?_); rintro e w7 ⟨A7, c7, rfl, hv7, hb7⟩; have HA7 := Lib.hid hv7; have HB7 := Lib.hid (below_on HB6.out hb7); clear hv7 hb7)
          | (go_at_call 13; (with_reducible refine (rofx HO.out HRL.out HA7.out).mono ?_); rintro e w8 ⟨rfl, hb8⟩; have HB8 := Lib.hid (below_on HB7.out hb8))
          | (fail))
        go_ret2
        unfold PutOut
        exact ⟨rfl, HB8.out⟩
  · have hD : putO (E, l) f = (E, ⟨#[]⟩) := if_neg hE
    rw [hD]
    have e0 : (E == 0) = false := by rw [beq_eq_false_iff_ne]; exact hE
    go_enter Tryd.func26, Tryd.ntmps26
    go_wp2_with (go_at_call 18; (with_reducible refine (HT.out _).mono ?_); rintro e w2 ⟨vf, rfl, hown, hB⟩; obtain ⟨A, c, rfl, hcap, ha, hfr⟩ := own_arr hown)
    go_ret2
    unfold PutOut
    exact ⟨rfl, below_on hbf hB⟩
set_option maxHeartbeats 1000000 in
set_option maxRecDepth 100000 in
theorem law_puts (s : ByteArray) (f : FileD) (w : World) (hs : s.size ≤ 9223372036854775807) (hf : FFit f) (hm : Ml w) :
    Calls Tryd.prog 10 #[.string s, .agg #[.string f.path, .int .i64 f.mode, .string f.data]] w fun e w' => e = .returned (.bool true) ∧ Below w.heap.size w w' := by
  have HA := Lib.hid awakeI_any
  have HC := Lib.hid (fun W => cut_any s W hs)
  have h2 := cut_size s
  generalize cutS s = t at *
  have F1 := Lib.hid (fun W hm' => put_any t f W (by omega) hf.1 hm')
  have F2 := Lib.hid (fun W => put_ref t f W (by omega) hf.1)
  generalize putO (treeOf t) f = D at *
  obtain ⟨E, S⟩ := D
  unfold PutOut at F1 F2
  simp only [] at F1 F2
  have hbf : Below w.heap.size w (w.alloc (.cells #[.string f.path, .int .i64 f.mode, .string f.data] 33)) := (Below.refl _ _).alloc (Nat.le_refl _) _
  have HBX := Lib.hid (Blk.new w 33 #[.string f.path, .int .i64 f.mode, .string f.data])
  obtain ⟨k0, k1, k2⟩ := fbox_cells HBX.out
  have hM := hm
  clear hf
  by_cases hbig : 70000 < f.data.size
  · have hb1 : (70000 : Int) < f.data.size := by omega
    go_enter Tryd.func10, Tryd.ntmps10
    go_wp2_with (first
      | (go_at_call 16; (with_reducible refine (HC.out _).mono ?_); rintro e w0 ⟨rfl, rfl⟩)
      | (go_at_call 15; (with_reducible refine (HA.out _ (hm.on hbf)).mono ?_); rintro e w5 ⟨rfl, hb5⟩; have hB := below_on hbf hb5))
    go_ret
    exact ⟨rfl, hB⟩
  · have hb1 : ¬ (70000 : Int) < f.data.size := by omega
    go_enter Tryd.func10, Tryd.ntmps10
    go_wp2_with (first
      | (go_at_call 16; (with_reducible refine (HC.out _).mono ?_); rintro e w0 ⟨rfl, rfl⟩; have hB := hbf)
      | (go_at_call 25; (with_reducible refine (F1.out _ (hm.on hB)).mono ?_); rintro e w1 ⟨rfl, hb1⟩; have hB := below_on hB hb1; obtain ⟨k0, k1, k2⟩ := fbox_cells (HBX.out.below hb1 HBX.out.lt))
      | (go_at_call 26; (with_reducible refine (F2.out _).mono ?_); rintro e w2 ⟨rfl, hb2⟩; have hB := below_on hB hb2)
      | (go_at_call 15; (with_reducible refine (HA.out _ (hm.on hB)).mono ?_); rintro e w5 ⟨rfl, hb5⟩; have hB := below_on hB hb5))
    go_ret
    exact ⟨rfl, hB⟩
end Go.Proofs.YtlfennooocmclaaDoor
