/- Chapter 10: what one side alone changed is taken: plain; the walk through ImageSides. -/
import Derived.Test.YtlfennooocmclaaDoorImMergeW
namespace Go.Proofs.YtlfennooocmclaaDoor
open Go.RowKit
set_option linter.unusedVariables false

theorem look_self {l : List FileD} (h : l.Pairwise FR) {f : FileD} (hf : f ∈ l) : lookF f.path l = some f := by
  induction l with
  | nil => simp at hf
  | cons g l ih =>
    rw [List.pairwise_cons] at h
    rw [lookF]
    rcases List.mem_cons.1 hf with rfl | hf
    · rw [if_pos rfl]
    · have := h.1 f hf
      unfold FR at this
      rw [if_neg (pord_ne this)]
      exact ih h.2 hf
theorem fm_self {U : List ByteArray} {y : List FileD} (hU : U.Pairwise (fun p q => pord p q < 0)) (hy : y.Pairwise FR) (hin : ∀ f ∈ y, f.path ∈ U) : U.filterMap (fun p => lookF p y) = y := by
  refine pw_ext (R := FR) (fun x => pord_irr _) (fun x y z => pord_trans) _ _ ?_ hy ?_
  · rw [List.pairwise_filterMap]
    refine hU.imp fun {p q} h f hf g hg => ?_
    unfold FR
    rw [(lookF_some hf).2, (lookF_some hg).2]
    exact h
  · intro f
    rw [List.mem_filterMap]
    constructor
    · rintro ⟨p, _, hp⟩
      exact (lookF_some hp).1
    · intro hf
      exact ⟨f.path, hin f hf, look_self hy hf⟩
theorem mrg_left (x y : List FileD) (p : ByteArray) : mrg x x y p = (lookF p y, false) := by
  unfold mrg
  by_cases h : likeO (lookF p x) (lookF p y) = true
  · rw [if_pos h, (likeO_iff _ _).1 h]
  · rw [if_neg h, if_neg h, if_pos ((likeO_iff _ _).2 rfl)]
theorem mrg_right (x y : List FileD) (p : ByteArray) : mrg x y x p = (lookF p y, false) := by
  unfold mrg
  by_cases h : likeO (lookF p y) (lookF p x) = true
  · rw [if_pos h]
  · rw [if_neg h, if_pos ((likeO_iff _ _).2 rfl)]
theorem like_comm (a b : Option FileD) : likeO a b = likeO b a := by
  rw [Bool.eq_iff_iff, likeO_iff, likeO_iff]
  exact eq_comm
theorem mrg_told (x y z : List FileD) (p : ByteArray) : (mrg x y z p).2 = (mrg x z y p).2 := by
  unfold mrg
  rw [like_comm (lookF p z) (lookF p y)]
  by_cases h1 : likeO (lookF p y) (lookF p z) = true
  · rw [if_pos h1, if_pos h1]
  · rw [if_neg h1, if_neg h1]
    by_cases h2 : likeO (lookF p x) (lookF p z) = true <;> by_cases h3 : likeO (lookF p x) (lookF p y) = true <;> simp [h2, h3]
theorem mrg_same {x y z : List FileD} {p : ByteArray} (h : (mrg x y z p).2 = false) : (mrg x y z p).1 = (mrg x z y p).1 := by
  unfold mrg at h ⊢
  rw [like_comm (lookF p z) (lookF p y)]
  by_cases h1 : likeO (lookF p y) (lookF p z) = true
  · rw [if_pos h1, if_pos h1]
    exact (likeO_iff _ _).1 h1
  · rw [if_neg h1] at h ⊢
    rw [if_neg h1]
    by_cases h2 : likeO (lookF p x) (lookF p z) = true
    · rw [if_pos h2]
      by_cases h3 : likeO (lookF p x) (lookF p y) = true
      · have e1 := (likeO_iff _ _).1 h2
        have e2 := (likeO_iff _ _).1 h3
        exact absurd ((likeO_iff _ _).2 (e2.symm.trans e1)) h1
      · rw [if_neg h3, if_pos h2]
    · rw [if_neg h2] at h ⊢
      by_cases h3 : likeO (lookF p x) (lookF p y) = true
      · rw [if_pos h3, if_pos h3]
      · rw [if_neg h3] at h
        cases h
structure GoodT (l : List FileD) : Prop where
  ne : PNe l
  pw : l.Pairwise FR
theorem goodT {l : List FileD} (h : ofE l = 0) : GoodT l := ⟨fun f hf => good_ne ((check_good (of_zero h).1).2 f hf), check_pw (of_zero h).1⟩
theorem uni_swap {x y z : List FileD} (hx : GoodT x) (hy : GoodT y) (hz : GoodT z) : uni3 x y z = uni3 x z y := by
  obtain ⟨a1, a2⟩ := p3_all _ x y z (Nat.le_refl _) hx.ne hy.ne hz.ne hx.pw hy.pw hz.pw
  obtain ⟨b1, b2⟩ := p3_all _ x z y (Nat.le_refl _) hx.ne hz.ne hy.ne hx.pw hz.pw hy.pw
  refine pw_ext (R := fun p q => pord p q < 0) (fun x => pord_irr _) (fun x y z => pord_trans) _ _ a1 b1 fun p => ?_
  rw [show p ∈ uni3 x y z ↔ In3 p x y z from a2 p, show p ∈ uni3 x z y ↔ In3 p x z y from b2 p]
  unfold In3
  constructor
  · rintro (h | h | h)
    · exact .inl h
    · exact .inr (.inr h)
    · exact .inr (.inl h)
  · rintro (h | h | h)
    · exact .inl h
    · exact .inr (.inr h)
    · exact .inr (.inl h)
theorem merge_left {x y : List FileD} (hx : ofE x = 0) (hy : ofE y = 0) : mergeT (0, x) (0, x) (0, y) = ⟨ofS y, [], 0⟩ := by
  obtain ⟨a1, a2⟩ := p3_all _ x x y (Nat.le_refl _) (goodT hx).ne (goodT hx).ne (goodT hy).ne (goodT hx).pw (goodT hx).pw (goodT hy).pw
  have ho : mOut x x y (uni3 x x y) = y := by
    unfold mOut
    simp only [mrg_left]
    exact fm_self a1 (goodT hy).pw fun f hf => (a2 f.path).2 (.inr (.inr ⟨f, hf, rfl⟩))
  have ht : mTold x x y (uni3 x x y) = [] := by
    unfold mTold
    simp [mrg_left]
  unfold mergeT
  simp only []
  rw [if_neg (by decide), if_neg (by decide), if_neg (by decide), ho, ht, if_neg (by rw [hy]; decide)]
theorem merge_right {x y : List FileD} (hx : ofE x = 0) (hy : ofE y = 0) : mergeT (0, x) (0, y) (0, x) = ⟨ofS y, [], 0⟩ := by
  obtain ⟨a1, a2⟩ := p3_all _ x y x (Nat.le_refl _) (goodT hx).ne (goodT hy).ne (goodT hx).ne (goodT hx).pw (goodT hy).pw (goodT hx).pw
  have ho : mOut x y x (uni3 x y x) = y := by
    unfold mOut
    simp only [mrg_right]
    exact fm_self a1 (goodT hy).pw fun f hf => (a2 f.path).2 (.inr (.inl ⟨f, hf, rfl⟩))
  have ht : mTold x y x (uni3 x y x) = [] := by
    unfold mTold
    simp [mrg_right]
  unfold mergeT
  simp only []
  rw [if_neg (by decide), if_neg (by decide), if_neg (by decide), ho, ht, if_neg (by rw [hy]; decide)]
theorem fm_congr {α β : Type} {f g : α → Option β} : ∀ {l : List α}, (∀ a ∈ l, f a = g a) → l.filterMap f = l.filterMap g
  | [], _ => rfl
  | a :: l, h => by
    rw [List.filterMap_cons, List.filterMap_cons, h a (by simp), fm_congr (l := l) fun b hb => h b (by simp [hb])]
theorem mergeT_ok (x y z : List FileD) : mergeT (0, x) (0, y) (0, z) = if ofE (mOut x y z (uni3 x y z)) ≠ 0 then ⟨⟨#[]⟩, [], ofE (mOut x y z (uni3 x y z))⟩ else ⟨ofS (mOut x y z (uni3 x y z)), mTold x y z (uni3 x y z), 0⟩ := by
  unfold mergeT
  simp only []
  rw [if_neg (by decide), if_neg (by decide), if_neg (by decide)]
theorem merge_swap {x y z : List FileD} (hx : ofE x = 0) (hy : ofE y = 0) (hz : ofE z = 0) :
    ∃ (u v : ByteArray) (n o : List ByteArray) (j k : Int), mergeT (0, x) (0, y) (0, z) = ⟨u, n, j⟩ ∧ mergeT (0, x) (0, z) (0, y) = ⟨v, o, k⟩ ∧ (j ≠ 0 → u = ⟨#[]⟩ ∧ n = []) ∧ (k ≠ 0 → v = ⟨#[]⟩ ∧ o = []) ∧ (j = 0 → k = 0 → n = o ∧ (n = [] → u = v)) := by
  have hu := uni_swap (goodT hx) (goodT hy) (goodT hz)
  have ht : mTold x z y (uni3 x z y) = mTold x y z (uni3 x y z) := by
    rw [← hu]
    unfold mTold
    exact List.filter_congr fun p _ => (mrg_told x y z p).symm
  have ho : mTold x y z (uni3 x y z) = [] → mOut x y z (uni3 x y z) = mOut x z y (uni3 x z y) := by
    intro h0
    rw [← hu]
    unfold mTold at h0
    rw [List.filter_eq_nil_iff] at h0
    unfold mOut
    exact fm_congr fun p hp => mrg_same (by have := h0 p hp; simpa using this)
  rw [mergeT_ok x y z, mergeT_ok x z y, ht]
  generalize mTold x y z (uni3 x y z) = T at *
  generalize mOut x y z (uni3 x y z) = P at *
  generalize mOut x z y (uni3 x z y) = Q at *
  by_cases h1 : ofE P = 0 <;> by_cases h2 : ofE Q = 0
  · rw [if_neg (by simp [h1]), if_neg (by simp [h2])]
    exact ⟨_, _, _, _, _, _, rfl, rfl, fun h => absurd rfl h, fun h => absurd rfl h, fun _ _ => ⟨rfl, fun h => by rw [ho h]⟩⟩
  · rw [if_neg (by simp [h1]), if_pos h2]
    exact ⟨_, _, _, _, _, _, rfl, rfl, fun h => absurd rfl h, fun _ => ⟨rfl, rfl⟩, fun _ h => absurd h h2⟩
  · rw [if_pos h1, if_neg (by simp [h2])]
    exact ⟨_, _, _, _, _, _, rfl, rfl, fun _ => ⟨rfl, rfl⟩, fun h => absurd rfl h, fun h => absurd h h1⟩
  · rw [if_pos h1, if_pos h2]
    exact ⟨_, _, _, _, _, _, rfl, rfl, fun _ => ⟨rfl, rfl⟩, fun _ => ⟨rfl, rfl⟩, fun h => absurd h h1⟩
theorem ofS_size (l : List FileD) : (ofS l).size ≤ 524288 := by
  unfold ofS
  by_cases h : ofE l = 0
  · rw [if_pos h, ba_size]; exact (of_zero h).2
  · rw [if_neg h]; show (0 : Nat) ≤ _; omega
set_option maxHeartbeats 8000000 in
set_option maxRecDepth 100000 in
theorem law_sides (A : Option Addr) (c : Nat) (l : List FileD) (A' : Option Addr) (c' : Nat) (l' : List FileD) (A'' : Option Addr) (c'' : Nat) (l'' : List FileD) (w : World)
    (hz : l.length * 40 ≤ 140737488351232) (hcap : l.length ≤ c) (hxf : ∀ f ∈ l, FFit f) (ha : Arr w w.heap.size 3 A l.length (fcells l))
    (hz' : l'.length * 40 ≤ 140737488351232) (hcap' : l'.length ≤ c') (hxf' : ∀ f ∈ l', FFit f) (ha' : Arr w w.heap.size 3 A' l'.length (fcells l'))
    (hz'' : l''.length * 40 ≤ 140737488351232) (hcap'' : l''.length ≤ c'') (hxf'' : ∀ f ∈ l'', FFit f) (ha'' : Arr w w.heap.size 3 A'' l''.length (fcells l'')) (hm : Ml w) :
    Calls Tryd.prog 9 #[.slice A l.length c, .slice A' l'.length c', .slice A'' l''.length c''] w fun e w' => e = .returned (.bool true) ∧ Below w.heap.size w w' := by
  have HA := Lib.hid awakeI_any
  have G1 := fun W (hh : Below w.heap.size w W) => fewI_any A c l W (by omega) (fun f hf => (hxf f hf).1) ((ha.below hh).more hh.size)
  have G2 := fun W (hh : Below w.heap.size w W) => fewI_any A' c' l' W (by omega) (fun f hf => (hxf' f hf).1) ((ha'.below hh).more hh.size)
  have G3 := fun W (hh : Below w.heap.size w W) => fewI_any A'' c'' l'' W (by omega) (fun f hf => (hxf'' f hf).1) ((ha''.below hh).more hh.size)
  obtain ⟨q1, x1⟩ := few_ok 60 0 l (fun f hf => (hxf f hf).1)
  obtain ⟨q2, x2⟩ := few_ok 60 0 l' (fun f hf => (hxf' f hf).1)
  obtain ⟨q3, x3⟩ := few_ok 60 0 l'' (fun f hf => (hxf'' f hf).1)
  have q1 : (fewF l).length ≤ 60 := q1
  have q2 : (fewF l').length ≤ 60 := q2
  have q3 : (fewF l'').length ≤ 60 := q3
  have O1 := fun A c W (h : Arr W W.heap.size 3 A (fewF l).length (fcells (fewF l))) hm' => of_any A c (fewF l) W (by omega) x1 h hm'
  have O2 := fun A c W (h : Arr W W.heap.size 3 A (fewF l').length (fcells (fewF l'))) hm' => of_any A c (fewF l') W (by omega) x2 h hm'
  have O3 := fun A c W (h : Arr W W.heap.size 3 A (fewF l'').length (fcells (fewF l''))) hm' => of_any A c (fewF l'') W (by omega) x3 h hm'
  clear ha ha' ha'' hxf hxf' hxf'' x1 x2 x3
  unfold LsOut at G1 G2 G3
  unfold OfIs at O1 O2 O3
  generalize fewF l = x at *
  generalize fewF l' = y at *
  generalize fewF l'' = z at *
  have G1 := Lib.hid G1
  have G2 := Lib.hid G2
  have G3 := Lib.hid G3
  have z1 := ofS_size x
  have z2 := ofS_size y
  have z3 := ofS_size z
  have M1 := fun W hm' => merge_any (ofS x) (ofS x) (ofS y) W hm' z1 z1 z2
  have M2 := fun W hm' => merge_any (ofS x) (ofS y) (ofS x) W hm' z1 z2 z1
  have M3 := fun W hm' => merge_any (ofS x) (ofS y) (ofS z) W hm' z1 z2 z3
  have M4 := fun W hm' => merge_any (ofS x) (ofS z) (ofS y) W hm' z1 z3 z2
  have b1 := fun h => tree_back (l := x) h
  have b2 := fun h => tree_back (l := y) h
  have b3 := fun h => tree_back (l := z) h
  have r1 := fun h h' => merge_left (x := x) (y := y) h h'
  have r2 := fun h h' => merge_right (x := x) (y := y) h h'
  have r3 := fun h h' h'' => merge_swap (x := x) (y := y) (z := z) h h' h''
  generalize hE1 : ofE x = E1 at *
  generalize hE2 : ofE y = E2 at *
  generalize hE3 : ofE z = E3 at *
  clear hE1 hE2 hE3
  have hB : Below w.heap.size w w := Below.refl _ _
  by_cases h1 : E1 = 0
  · subst h1
    by_cases h2 : E2 = 0
    · subst h2
      by_cases h3 : E3 = 0
      · subst h3
        rw [b1 rfl, b2 rfl, r1 rfl rfl] at M1
        rw [b1 rfl, b2 rfl, r2 rfl rfl] at M2
        rw [b1 rfl, b2 rfl, b3 rfl] at M3 M4
        obtain ⟨u, v, n, o, j, k, e1, e2, e3, e4, e5⟩ := r3 rfl rfl rfl
        have hnl := mergeT_len (0, x) (0, y) (0, z)
        rw [e1] at M3 hnl
        rw [e2] at M4
        simp only [] at hnl
        unfold MrOut at M1 M2 M3 M4
        simp only [List.length_nil, List.map_nil] at M1 M2 M3 M4
        have M1 := Lib.hid M1
        have M2 := Lib.hid M2
        have O1 := Lib.hid O1
        have O2 := Lib.hid O2
        have O3 := Lib.hid O3
        clear b1 b2 b3 r1 r2 r3 e1 e2
        generalize ofS x = a at *
        generalize ofS y = b at *
        generalize ofS z = d at *
        by_cases hj : j = 0
        · subst hj
          by_cases hk : k = 0
          · subst hk
            obtain ⟨e6, e7⟩ := e5 rfl rfl
            subst e6
            have TX := Lib.hid (fun A c B d W ha hb => texts_same A c B d n W (by omega) ha hb)
            clear e3 e4 e5
            generalize hnk : n.length = nk at *
            cases n with
            | nil =>
              obtain rfl := e7 rfl
              clear e7
              have g0 : decide ((0 : Int) < (nk : Int)) = false := by rw [← hnk]; rfl
              have g1 : ¬ (0 : Int) < (nk : Int) := by rw [← hnk]; decide
              clear hnk
              have M3 := Lib.hid M3
              have M4 := Lib.hid M4
              go_enter Tryd.func9, Tryd.ntmps9
              go_wp2_with (first | (go_at_call 11; (with_reducible refine (G1.out _ hB).mono ?_); rintro e w1 ⟨A1, c1, rfl, ha1, hb1⟩; have HA1 := Lib.hid ha1; clear ha1; have hB := below_on hB hb1) | (go_at_call 12; (with_reducible refine (O1.out _ _ _ HA1.out (hm.on hB)).mono ?_); rintro e w2 ⟨rfl, hb2⟩; have hB := below_on hB hb2) | (go_at_call 11; (with_reducible refine (G2.out _ hB).mono ?_); rintro e w3 ⟨A2, c2, rfl, ha2, hb3⟩; have HA2 := Lib.hid ha2; clear ha2; have hB := below_on hB hb3) | (go_at_call 12; (with_reducible refine (O2.out _ _ _ HA2.out (hm.on hB)).mono ?_); rintro e w4 ⟨rfl, hb4⟩; have hB := below_on hB hb4) | (go_at_call 11; (with_reducible refine (G3.out _ hB).mono ?_); rintro e w5 ⟨A3, c3, rfl, ha3, hb5⟩; have HA3 := Lib.hid ha3; clear ha3; have hB := below_on hB hb5) | (go_at_call 12; (with_reducible refine (O3.out _ _ _ HA3.out (hm.on hB)).mono ?_); rintro e w6 ⟨rfl, hb6⟩; have hB := below_on hB hb6) | (go_at_call 15; (with_reducible refine (HA.out _ (hm.on hB)).mono ?_); rintro e w7 ⟨rfl, hb7⟩; have hB := below_on hB hb7) | (go_at_call 22; (with_reducible refine (M1.out _ (hm.on hB)).mono ?_); rintro e w8 ⟨B1, d1, rfl, hd1, hb8⟩; clear hd1; have hB := below_on hB hb8) | (go_at_call 22; (with_reducible refine (M2.out _ (hm.on hB)).mono ?_); rintro e w9 ⟨B2, d2, rfl, hd2, hb9⟩; clear hd2; have hB := below_on hB hb9) | (go_at_call 22; (with_reducible refine (M3.out _ (hm.on hB)).mono ?_); rintro e w10 ⟨B3, d3, rfl, hd3, hb10⟩; have HD3 := Lib.hid hd3; clear hd3; have hB := below_on hB hb10) | (go_at_call 22; (with_reducible refine (M4.out _ (hm.on hB)).mono ?_); rintro e w11 ⟨B4, d4, rfl, hd4, hb11⟩; have HD4 := Lib.hid hd4; clear hd4; have hB := below_on hB hb11; have HD3 := Lib.hid (Arr.on3 HD3.out hb11)) | (go_at_call 24; (with_reducible refine (TX.out _ _ _ _ _ HD3.out HD4.out).mono ?_); rintro e w12 ⟨rfl, hb12⟩; have hB := below_on hB hb12))
              go_ret
              exact ⟨rfl, hB⟩
            | cons s n =>
              clear e7
              have M3 := Lib.hid M3
              have M4 := Lib.hid M4
              have g1 : (0 : Int) < (nk : Int) := by rw [← hnk, List.length_cons]; omega
              clear hnk
              go_enter Tryd.func9, Tryd.ntmps9
              go_wp2_with (first | (go_at_call 11; (with_reducible refine (G1.out _ hB).mono ?_); rintro e w1 ⟨A1, c1, rfl, ha1, hb1⟩; have HA1 := Lib.hid ha1; clear ha1; have hB := below_on hB hb1) | (go_at_call 12; (with_reducible refine (O1.out _ _ _ HA1.out (hm.on hB)).mono ?_); rintro e w2 ⟨rfl, hb2⟩; have hB := below_on hB hb2) | (go_at_call 11; (with_reducible refine (G2.out _ hB).mono ?_); rintro e w3 ⟨A2, c2, rfl, ha2, hb3⟩; have HA2 := Lib.hid ha2; clear ha2; have hB := below_on hB hb3) | (go_at_call 12; (with_reducible refine (O2.out _ _ _ HA2.out (hm.on hB)).mono ?_); rintro e w4 ⟨rfl, hb4⟩; have hB := below_on hB hb4) | (go_at_call 11; (with_reducible refine (G3.out _ hB).mono ?_); rintro e w5 ⟨A3, c3, rfl, ha3, hb5⟩; have HA3 := Lib.hid ha3; clear ha3; have hB := below_on hB hb5) | (go_at_call 12; (with_reducible refine (O3.out _ _ _ HA3.out (hm.on hB)).mono ?_); rintro e w6 ⟨rfl, hb6⟩; have hB := below_on hB hb6) | (go_at_call 15; (with_reducible refine (HA.out _ (hm.on hB)).mono ?_); rintro e w7 ⟨rfl, hb7⟩; have hB := below_on hB hb7) | (go_at_call 22; (with_reducible refine (M1.out _ (hm.on hB)).mono ?_); rintro e w8 ⟨B1, d1, rfl, hd1, hb8⟩; clear hd1; have hB := below_on hB hb8) | (go_at_call 22; (with_reducible refine (M2.out _ (hm.on hB)).mono ?_); rintro e w9 ⟨B2, d2, rfl, hd2, hb9⟩; clear hd2; have hB := below_on hB hb9) | (go_at_call 22; (with_reducible refine (M3.out _ (hm.on hB)).mono ?_); rintro e w10 ⟨B3, d3, rfl, hd3, hb10⟩; have HD3 := Lib.hid hd3; clear hd3; have hB := below_on hB hb10) | (go_at_call 22; (with_reducible refine (M4.out _ (hm.on hB)).mono ?_); rintro e w11 ⟨B4, d4, rfl, hd4, hb11⟩; have HD4 := Lib.hid hd4; clear hd4; have hB := below_on hB hb11; have HD3 := Lib.hid (Arr.on3 HD3.out hb11)) | (go_at_call 24; (with_reducible refine (TX.out _ _ _ _ _ HD3.out HD4.out).mono ?_); rintro e w12 ⟨rfl, hb12⟩; have hB := below_on hB hb12))
              go_ret
              exact ⟨rfl, hB⟩
          · obtain ⟨e6, e7⟩ := e4 hk
            subst e6 e7
            have g0 : (k == 0) = false := by rw [beq_eq_false_iff_ne]; exact hk
            have g2 : (k != 0) = true := by simp [hk]
            clear e3 e4 e5 hk
            have M3 := Lib.hid M3
            have M4 := Lib.hid M4
            have TX : Hid True := Lib.hid trivial
            go_enter Tryd.func9, Tryd.ntmps9
            go_wp2_with (first | (go_at_call 11; (with_reducible refine (G1.out _ hB).mono ?_); rintro e w1 ⟨A1, c1, rfl, ha1, hb1⟩; have HA1 := Lib.hid ha1; clear ha1; have hB := below_on hB hb1) | (go_at_call 12; (with_reducible refine (O1.out _ _ _ HA1.out (hm.on hB)).mono ?_); rintro e w2 ⟨rfl, hb2⟩; have hB := below_on hB hb2) | (go_at_call 11; (with_reducible refine (G2.out _ hB).mono ?_); rintro e w3 ⟨A2, c2, rfl, ha2, hb3⟩; have HA2 := Lib.hid ha2; clear ha2; have hB := below_on hB hb3) | (go_at_call 12; (with_reducible refine (O2.out _ _ _ HA2.out (hm.on hB)).mono ?_); rintro e w4 ⟨rfl, hb4⟩; have hB := below_on hB hb4) | (go_at_call 11; (with_reducible refine (G3.out _ hB).mono ?_); rintro e w5 ⟨A3, c3, rfl, ha3, hb5⟩; have HA3 := Lib.hid ha3; clear ha3; have hB := below_on hB hb5) | (go_at_call 12; (with_reducible refine (O3.out _ _ _ HA3.out (hm.on hB)).mono ?_); rintro e w6 ⟨rfl, hb6⟩; have hB := below_on hB hb6) | (go_at_call 15; (with_reducible refine (HA.out _ (hm.on hB)).mono ?_); rintro e w7 ⟨rfl, hb7⟩; have hB := below_on hB hb7) | (go_at_call 22; (with_reducible refine (M1.out _ (hm.on hB)).mono ?_); rintro e w8 ⟨B1, d1, rfl, hd1, hb8⟩; clear hd1; have hB := below_on hB hb8) | (go_at_call 22; (with_reducible refine (M2.out _ (hm.on hB)).mono ?_); rintro e w9 ⟨B2, d2, rfl, hd2, hb9⟩; clear hd2; have hB := below_on hB hb9) | (go_at_call 22; (with_reducible refine (M3.out _ (hm.on hB)).mono ?_); rintro e w10 ⟨B3, d3, rfl, hd3, hb10⟩; have HD3 := Lib.hid hd3; clear hd3; have hB := below_on hB hb10) | (go_at_call 22; (with_reducible refine (M4.out _ (hm.on hB)).mono ?_); rintro e w11 ⟨B4, d4, rfl, hd4, hb11⟩; have HD4 := Lib.hid hd4; clear hd4; have hB := below_on hB hb11; have HD3 := Lib.hid (Arr.on3 HD3.out hb11)) | (go_at_call 24; (with_reducible refine (TX.out _ _ _ _ _ HD3.out HD4.out).mono ?_); rintro e w12 ⟨rfl, hb12⟩; have hB := below_on hB hb12))
            go_ret
            exact ⟨rfl, hB⟩
        · obtain ⟨e6, e7⟩ := e3 hj
          subst e6 e7
          have g0 : (j == 0) = false := by rw [beq_eq_false_iff_ne]; exact hj
          have g2 : (j != 0) = true := by simp [hj]
          by_cases hk : k = 0
          · subst hk
            clear e3 e4 e5 hj
            have M3 := Lib.hid M3
            have M4 := Lib.hid M4
            have TX : Hid True := Lib.hid trivial
            go_enter Tryd.func9, Tryd.ntmps9
            go_wp2_with (first | (go_at_call 11; (with_reducible refine (G1.out _ hB).mono ?_); rintro e w1 ⟨A1, c1, rfl, ha1, hb1⟩; have HA1 := Lib.hid ha1; clear ha1; have hB := below_on hB hb1) | (go_at_call 12; (with_reducible refine (O1.out _ _ _ HA1.out (hm.on hB)).mono ?_); rintro e w2 ⟨rfl, hb2⟩; have hB := below_on hB hb2) | (go_at_call 11; (with_reducible refine (G2.out _ hB).mono ?_); rintro e w3 ⟨A2, c2, rfl, ha2, hb3⟩; have HA2 := Lib.hid ha2; clear ha2; have hB := below_on hB hb3) | (go_at_call 12; (with_reducible refine (O2.out _ _ _ HA2.out (hm.on hB)).mono ?_); rintro e w4 ⟨rfl, hb4⟩; have hB := below_on hB hb4) | (go_at_call 11; (with_reducible refine (G3.out _ hB).mono ?_); rintro e w5 ⟨A3, c3, rfl, ha3, hb5⟩; have HA3 := Lib.hid ha3; clear ha3; have hB := below_on hB hb5) | (go_at_call 12; (with_reducible refine (O3.out _ _ _ HA3.out (hm.on hB)).mono ?_); rintro e w6 ⟨rfl, hb6⟩; have hB := below_on hB hb6) | (go_at_call 15; (with_reducible refine (HA.out _ (hm.on hB)).mono ?_); rintro e w7 ⟨rfl, hb7⟩; have hB := below_on hB hb7) | (go_at_call 22; (with_reducible refine (M1.out _ (hm.on hB)).mono ?_); rintro e w8 ⟨B1, d1, rfl, hd1, hb8⟩; clear hd1; have hB := below_on hB hb8) | (go_at_call 22; (with_reducible refine (M2.out _ (hm.on hB)).mono ?_); rintro e w9 ⟨B2, d2, rfl, hd2, hb9⟩; clear hd2; have hB := below_on hB hb9) | (go_at_call 22; (with_reducible refine (M3.out _ (hm.on hB)).mono ?_); rintro e w10 ⟨B3, d3, rfl, hd3, hb10⟩; have HD3 := Lib.hid hd3; clear hd3; have hB := below_on hB hb10) | (go_at_call 22; (with_reducible refine (M4.out _ (hm.on hB)).mono ?_); rintro e w11 ⟨B4, d4, rfl, hd4, hb11⟩; have HD4 := Lib.hid hd4; clear hd4; have hB := below_on hB hb11; have HD3 := Lib.hid (Arr.on3 HD3.out hb11)) | (go_at_call 24; (with_reducible refine (TX.out _ _ _ _ _ HD3.out HD4.out).mono ?_); rintro e w12 ⟨rfl, hb12⟩; have hB := below_on hB hb12))
            go_ret
            exact ⟨rfl, hB⟩
          · obtain ⟨e6, e7⟩ := e4 hk
            subst e6 e7
            have g1 : (k == 0) = false := by rw [beq_eq_false_iff_ne]; exact hk
            have g3 : (k != 0) = true := by simp [hk]
            clear e3 e4 e5 hj hk
            have M3 := Lib.hid M3
            have M4 := Lib.hid M4
            have TX : Hid True := Lib.hid trivial
            go_enter Tryd.func9, Tryd.ntmps9
            go_wp2_with (first | (go_at_call 11; (with_reducible refine (G1.out _ hB).mono ?_); rintro e w1 ⟨A1, c1, rfl, ha1, hb1⟩; have HA1 := Lib.hid ha1; clear ha1; have hB := below_on hB hb1) | (go_at_call 12; (with_reducible refine (O1.out _ _ _ HA1.out (hm.on hB)).mono ?_); rintro e w2 ⟨rfl, hb2⟩; have hB := below_on hB hb2) | (go_at_call 11; (with_reducible refine (G2.out _ hB).mono ?_); rintro e w3 ⟨A2, c2, rfl, ha2, hb3⟩; have HA2 := Lib.hid ha2; clear ha2; have hB := below_on hB hb3) | (go_at_call 12; (with_reducible refine (O2.out _ _ _ HA2.out (hm.on hB)).mono ?_); rintro e w4 ⟨rfl, hb4⟩; have hB := below_on hB hb4) | (go_at_call 11; (with_reducible refine (G3.out _ hB).mono ?_); rintro e w5 ⟨A3, c3, rfl, ha3, hb5⟩; have HA3 := Lib.hid ha3; clear ha3; have hB := below_on hB hb5) | (go_at_call 12; (with_reducible refine (O3.out _ _ _ HA3.out (hm.on hB)).mono ?_); rintro e w6 ⟨rfl, hb6⟩; have hB := below_on hB hb6) | (go_at_call 15; (with_reducible refine (HA.out _ (hm.on hB)).mono ?_); rintro e w7 ⟨rfl, hb7⟩; have hB := below_on hB hb7) | (go_at_call 22; (with_reducible refine (M1.out _ (hm.on hB)).mono ?_); rintro e w8 ⟨B1, d1, rfl, hd1, hb8⟩; clear hd1; have hB := below_on hB hb8) | (go_at_call 22; (with_reducible refine (M2.out _ (hm.on hB)).mono ?_); rintro e w9 ⟨B2, d2, rfl, hd2, hb9⟩; clear hd2; have hB := below_on hB hb9) | (go_at_call 22; (with_reducible refine (M3.out _ (hm.on hB)).mono ?_); rintro e w10 ⟨B3, d3, rfl, hd3, hb10⟩; have HD3 := Lib.hid hd3; clear hd3; have hB := below_on hB hb10) | (go_at_call 22; (with_reducible refine (M4.out _ (hm.on hB)).mono ?_); rintro e w11 ⟨B4, d4, rfl, hd4, hb11⟩; have HD4 := Lib.hid hd4; clear hd4; have hB := below_on hB hb11; have HD3 := Lib.hid (Arr.on3 HD3.out hb11)) | (go_at_call 24; (with_reducible refine (TX.out _ _ _ _ _ HD3.out HD4.out).mono ?_); rintro e w12 ⟨rfl, hb12⟩; have hB := below_on hB hb12))
            go_ret
            exact ⟨rfl, hB⟩
      · have g0 : (E3 != 0) = true := by simp [h3]
        have O1 := Lib.hid O1
        have O2 := Lib.hid O2
        have O3 := Lib.hid O3
        clear M1 M2 M3 M4 b1 b2 b3 r1 r2 r3 h3
        go_enter Tryd.func9, Tryd.ntmps9
        go_wp2_with (first | (go_at_call 11; (with_reducible refine (G1.out _ hB).mono ?_); rintro e w1 ⟨A1, c1, rfl, ha1, hb1⟩; have HA1 := Lib.hid ha1; clear ha1; have hB := below_on hB hb1) | (go_at_call 12; (with_reducible refine (O1.out _ _ _ HA1.out (hm.on hB)).mono ?_); rintro e w2 ⟨rfl, hb2⟩; have hB := below_on hB hb2) | (go_at_call 11; (with_reducible refine (G2.out _ hB).mono ?_); rintro e w3 ⟨A2, c2, rfl, ha2, hb3⟩; have HA2 := Lib.hid ha2; clear ha2; have hB := below_on hB hb3) | (go_at_call 12; (with_reducible refine (O2.out _ _ _ HA2.out (hm.on hB)).mono ?_); rintro e w4 ⟨rfl, hb4⟩; have hB := below_on hB hb4) | (go_at_call 11; (with_reducible refine (G3.out _ hB).mono ?_); rintro e w5 ⟨A3, c3, rfl, ha3, hb5⟩; have HA3 := Lib.hid ha3; clear ha3; have hB := below_on hB hb5) | (go_at_call 12; (with_reducible refine (O3.out _ _ _ HA3.out (hm.on hB)).mono ?_); rintro e w6 ⟨rfl, hb6⟩; have hB := below_on hB hb6) | (go_at_call 15; (with_reducible refine (HA.out _ (hm.on hB)).mono ?_); rintro e w7 ⟨rfl, hb7⟩; have hB := below_on hB hb7))
        go_ret
        exact ⟨rfl, hB⟩
    · have g0 : (E2 != 0) = true := by simp [h2]
      have O1 := Lib.hid O1
      have O2 := Lib.hid O2
      have O3 := Lib.hid O3
      clear M1 M2 M3 M4 b1 b2 b3 r1 r2 r3 h2
      go_enter Tryd.func9, Tryd.ntmps9
      go_wp2_with (first | (go_at_call 11; (with_reducible refine (G1.out _ hB).mono ?_); rintro e w1 ⟨A1, c1, rfl, ha1, hb1⟩; have HA1 := Lib.hid ha1; clear ha1; have hB := below_on hB hb1) | (go_at_call 12; (with_reducible refine (O1.out _ _ _ HA1.out (hm.on hB)).mono ?_); rintro e w2 ⟨rfl, hb2⟩; have hB := below_on hB hb2) | (go_at_call 11; (with_reducible refine (G2.out _ hB).mono ?_); rintro e w3 ⟨A2, c2, rfl, ha2, hb3⟩; have HA2 := Lib.hid ha2; clear ha2; have hB := below_on hB hb3) | (go_at_call 12; (with_reducible refine (O2.out _ _ _ HA2.out (hm.on hB)).mono ?_); rintro e w4 ⟨rfl, hb4⟩; have hB := below_on hB hb4) | (go_at_call 11; (with_reducible refine (G3.out _ hB).mono ?_); rintro e w5 ⟨A3, c3, rfl, ha3, hb5⟩; have HA3 := Lib.hid ha3; clear ha3; have hB := below_on hB hb5) | (go_at_call 12; (with_reducible refine (O3.out _ _ _ HA3.out (hm.on hB)).mono ?_); rintro e w6 ⟨rfl, hb6⟩; have hB := below_on hB hb6) | (go_at_call 15; (with_reducible refine (HA.out _ (hm.on hB)).mono ?_); rintro e w7 ⟨rfl, hb7⟩; have hB := below_on hB hb7))
      go_ret
      exact ⟨rfl, hB⟩
  · have g0 : (E1 != 0) = true := by simp [h1]
    have O1 := Lib.hid O1
    have O2 := Lib.hid O2
    have O3 := Lib.hid O3
    clear M1 M2 M3 M4 b1 b2 b3 r1 r2 r3 h1
    go_enter Tryd.func9, Tryd.ntmps9
    go_wp2_with (first | (go_at_call 11; (with_reducible refine (G1.out _ hB).mono ?_); rintro e w1 ⟨A1, c1, rfl, ha1, hb1⟩; have HA1 := Lib.hid ha1; clear ha1; have hB := below_on hB hb1) | (go_at_call 12; (with_reducible refine (O1.out _ _ _ HA1.out (hm.on hB)).mono ?_); rintro e w2 ⟨rfl, hb2⟩; have hB := below_on hB hb2) | (go_at_call 11; (with_reducible refine (G2.out _ hB).mono ?_); rintro e w3 ⟨A2, c2, rfl, ha2, hb3⟩; have HA2 := Lib.hid ha2; clear ha2; have hB := below_on hB hb3) | (go_at_call 12; (with_reducible refine (O2.out _ _ _ HA2.out (hm.on hB)).mono ?_); rintro e w4 ⟨rfl, hb4⟩; have hB := below_on hB hb4) | (go_at_call 11; (with_reducible refine (G3.out _ hB).mono ?_); rintro e w5 ⟨A3, c3, rfl, ha3, hb5⟩; have HA3 := Lib.hid ha3; clear ha3; have hB := below_on hB hb5) | (go_at_call 12; (with_reducible refine (O3.out _ _ _ HA3.out (hm.on hB)).mono ?_); rintro e w6 ⟨rfl, hb6⟩; have hB := below_on hB hb6) | (go_at_call 15; (with_reducible refine (HA.out _ (hm.on hB)).mono ?_); rintro e w7 ⟨rfl, hb7⟩; have hB := below_on hB hb7))
    go_ret
    exact ⟨rfl, hB⟩
end Go.Proofs.YtlfennooocmclaaDoor
