/- Chapter 22: the walk through speech.Do. -/
import Derived.Test.YtakdngcgjahafaaDoorSp1
import Derived.Deep.RegionWith
import Derived.Deep.RegionLaw
namespace Go.Proofs.YtakdngcgjahafaaDoor
open Go.RowKit
set_option linter.unusedVariables false

/-- What a call does, as it comes back. -/
def DoOut (w : World) (D : LogD × AnsD) (e : Ending) (w' : World) : Prop := ∃ V U, e = .returned (.tuple #[.agg #[.int .i64 D.1.floor, V], .agg #[.int .i64 D.2.err, .int .i64 D.2.gen, .int .i64 D.2.floor, U, .slice none 0 0]]) ∧
  w'.ownsRow 0 9 1 V D.1.trees.length (D.1.trees.map Value.string) ∧ w'.ownsRow w.heap.size 69 3 U D.2.files.length (fcells D.2.files) ∧ Below w.heap.size w w'
/-- The same, the trees' row from a base on. -/
def DoOutB (b0 : Nat) (w : World) (D : LogD × AnsD) (e : Ending) (w' : World) : Prop := ∃ V U, e = .returned (.tuple #[.agg #[.int .i64 D.1.floor, V], .agg #[.int .i64 D.2.err, .int .i64 D.2.gen, .int .i64 D.2.floor, U, .slice none 0 0]]) ∧
  w'.ownsRow b0 9 1 V D.1.trees.length (D.1.trees.map Value.string) ∧ w'.ownsRow w.heap.size 69 3 U D.2.files.length (fcells D.2.files) ∧ Below w.heap.size w w'
set_option maxHeartbeats 1000000 in
set_option maxRecDepth 100000 in
theorem clone_str (A : Option Addr) (c : Nat) (L : List ByteArray) (w : World) (hl : L.length ≤ 8796093022208) (ha : Arr w w.heap.size 1 A L.length (L.map Value.string)) :
    Calls Tryd.prog 36 #[.slice A L.length c] w fun e w' => ∃ v, e = .returned v ∧ w'.ownsRow w.heap.size 9 1 v L.length (L.map Value.string) ∧ Below w.heap.size w w' := by
  obtain ⟨i0, hi0, hz0, hz1, hz2⟩ := info_parts infoStr
  have HA := Lib.hid ha
  have q23 : ∀ (w : World) (a : Option Addr) (n c n' c' : Nat), (binOp .eql 23 (.slice a n c) (.slice none n' c')).run Tryd.prog w = .ok (.bool a.isNone) w := fun w a n c n' c' => Lib.run_eql_slice_nil w _ _ a n c n' c' Tryd.underlying23
  have hown : (w.alloc (.cells #[] 9)).ownsRow w.heap.size 9 1 (.slice (some ⟨w.heap.size, 0, none⟩) 0 0) 0 [] := World.ownsRow_lit w #[] 0 (Nat.le_refl _) (by simp [maxLen]) (by simp)
  have hB : Below w.heap.size w (w.alloc (.cells #[] 9)) := (Below.refl _ _).alloc (Nat.le_refl _) _
  clear ha
  cases A with
  | none =>
    have hl0 : L = [] := by
      have h := HA.out.2
      rcases Nat.eq_zero_or_pos L.length with h0 | h0
      · exact List.eq_nil_of_length_eq_zero h0
      · obtain ⟨b, o, e, _⟩ := h h0
        cases e
    subst hl0
    clear HA
    go_enter Tryd.func36, Tryd.ntmps36
    go_wp2
    go_ret
    exact ⟨_, rfl, World.ownsRow_nil _ _ _ _, Below.refl _ _⟩
  | some ad =>
    go_enter Tryd.func36, Tryd.ntmps36
    go_wp2_with (at_builtin; refine wpList_append_arr _ rfl _ _ 23 rfl Tryd.underlying23 hi0 hz0 hz1 hz2 rfl (by decide) hown rfl rfl (HA.out.below hB) (by intro u hu; obtain ⟨x, _, rfl⟩ := List.mem_map.1 hu; rfl) (by rw [Nat.zero_add]; unfold maxLen; omega) (by rw [Nat.zero_add]; omega) hB.size ?_; intro v' w' hown' hgr' hat')
    go_ret
    exact ⟨_, rfl, by simpa using hown', hB.grown hgr' (by simp) (fun k hk => by simp [Value.ownBlock] at hk; omega)⟩
/-- The four boxes of Do: the result's log and the answer as given. -/
structure DoBx (w W : World) (L R : TypeId) (fl : Value) (x : Value) (u v : Value) (a b c d e : Value) : Prop where
  b2 : Blk W w.heap.size L #[fl, x]
  b4 : Blk W (w.heap.size + 1 + 1) L #[u, v]
  b5 : Blk W (w.heap.size + 1 + 1 + 1) R #[a, b, c, d, e]
  lt : w.heap.size + 1 + 1 + 1 < W.heap.size
  be : Below w.heap.size w W
theorem DoBx.mk0 (w : World) (L R C : TypeId) (fl x k g f u v a b c d e : Value) :
    DoBx w ((((w.alloc (.cells #[fl, x] L)).alloc (.cells #[k, g, f] C)).alloc (.cells #[u, v] L)).alloc (.cells #[a, b, c, d, e] R)) L R fl x u v a b c d e := by
  refine ⟨(((Blk.new w _ _).alloc _).alloc _).alloc _, ?_, ?_, by simp, (((((Below.refl _ w).alloc (Nat.le_refl _) _).alloc (by simp) _).alloc (by simp; omega) _).alloc (by simp; omega) _)⟩
  · exact (Blk.new' (w := (w.alloc (.cells #[fl, x] L)).alloc (.cells #[k, g, f] C)) (by simp) _ _).alloc _
  · exact Blk.new' (w := ((w.alloc (.cells #[fl, x] L)).alloc (.cells #[k, g, f] C)).alloc (.cells #[u, v] L)) (by simp) _ _
section
variable {w W W' : World} {L R : TypeId} {fl x u v a b c d e : Value}
theorem DoBx.drew (h : DoBx w W L R fl x u v a b c d e) : DoBx w W.drew L R fl x u v a b c d e := ⟨h.b2, h.b4, h.b5, h.lt, Below.drew h.be⟩
theorem DoBx.on (h : DoBx w W L R fl x u v a b c d e) (hb : Below W.heap.size W W') : DoBx w W' L R fl x u v a b c d e :=
  ⟨h.b2.below hb (by have := h.lt; omega), h.b4.below hb (by have := h.lt; omega), h.b5.below hb h.lt, Nat.lt_of_lt_of_le h.lt hb.size, below_on h.be hb⟩
theorem DoBx.set4 (h : DoBx w W L R fl x u v a b c d e) (u' v' : Value) : DoBx w ((W.setCell ⟨w.heap.size + 1 + 1, 0, none⟩ u').setCell ⟨w.heap.size + 1 + 1, 1, none⟩ v') L R fl x u' v' a b c d e :=
  ⟨(h.b2.far (by show w.heap.size ≠ w.heap.size + 1 + 1; omega) _).far (by show w.heap.size ≠ w.heap.size + 1 + 1; omega) _, (h.b4.set_ 0 _).set_ 1 _,
    (h.b5.far (by show w.heap.size + 1 + 1 + 1 ≠ w.heap.size + 1 + 1; omega) _).far (by show w.heap.size + 1 + 1 + 1 ≠ w.heap.size + 1 + 1; omega) _, by rw [World.size_setCell, World.size_setCell]; exact h.lt,
    (h.be.setCell (by show w.heap.size ≤ w.heap.size + 1 + 1; omega) _).setCell (by show w.heap.size ≤ w.heap.size + 1 + 1; omega) _⟩
theorem DoBx.set5 (h : DoBx w W L R fl x u v a b c d e) (i : Nat) (y : Value) : Blk (W.setCell ⟨w.heap.size + 1 + 1 + 1, i, none⟩ y) (w.heap.size + 1 + 1) L #[u, v] := h.b4.far (by show w.heap.size + 1 + 1 ≠ w.heap.size + 1 + 1 + 1; omega) _
theorem DoBx.all5 (h : DoBx w W L R fl x u v a b c d e) (a' b' c' d' e' : Value) : DoBx w (((((W.setCell ⟨w.heap.size + 1 + 1 + 1, 0, none⟩ a').setCell ⟨w.heap.size + 1 + 1 + 1, 1, none⟩ b').setCell ⟨w.heap.size + 1 + 1 + 1, 2, none⟩ c').setCell ⟨w.heap.size + 1 + 1 + 1, 3, none⟩ d').setCell ⟨w.heap.size + 1 + 1 + 1, 4, none⟩ e') L R fl x u v a' b' c' d' e' :=
  ⟨((((h.b2.far (by show w.heap.size ≠ w.heap.size + 1 + 1 + 1; omega) _).far (by show w.heap.size ≠ w.heap.size + 1 + 1 + 1; omega) _).far (by show w.heap.size ≠ w.heap.size + 1 + 1 + 1; omega) _).far (by show w.heap.size ≠ w.heap.size + 1 + 1 + 1; omega) _).far (by show w.heap.size ≠ w.heap.size + 1 + 1 + 1; omega) _,
    ((((h.b4.far (by show w.heap.size + 1 + 1 ≠ w.heap.size + 1 + 1 + 1; omega) _).far (by show w.heap.size + 1 + 1 ≠ w.heap.size + 1 + 1 + 1; omega) _).far (by show w.heap.size + 1 + 1 ≠ w.heap.size + 1 + 1 + 1; omega) _).far (by show w.heap.size + 1 + 1 ≠ w.heap.size + 1 + 1 + 1; omega) _).far (by show w.heap.size + 1 + 1 ≠ w.heap.size + 1 + 1 + 1; omega) _,
    ((((h.b5.set_ 0 _).set_ 1 _).set_ 2 _).set_ 3 _).set_ 4 _, by simp only [World.size_setCell]; exact h.lt,
    ((((h.be.setCell (by show w.heap.size ≤ w.heap.size + 1 + 1 + 1; omega) _).setCell (by show w.heap.size ≤ w.heap.size + 1 + 1 + 1; omega) _).setCell (by show w.heap.size ≤ w.heap.size + 1 + 1 + 1; omega) _).setCell (by show w.heap.size ≤ w.heap.size + 1 + 1 + 1; omega) _).setCell (by show w.heap.size ≤ w.heap.size + 1 + 1 + 1; omega) _⟩
end
theorem own_set4 {W : World} {base : Nat} {e : TypeId} {size n : Nat} {V : Value} {xs : List Value} (h : W.ownsRow base e size V n xs) {g : Nat} (hne : V.ownBlock ≠ some g) (u v : Value) : ((W.setCell ⟨g, 0, none⟩ u).setCell ⟨g, 1, none⟩ v).ownsRow base e size V n xs := own_setbox (own_setbox h hne) hne
theorem own_set5 {W : World} {base : Nat} {e : TypeId} {size n : Nat} {V : Value} {xs : List Value} (h : W.ownsRow base e size V n xs) {g : Nat} (hne : V.ownBlock ≠ some g) (a b c d f : Value) : (((((W.setCell ⟨g, 0, none⟩ a).setCell ⟨g, 1, none⟩ b).setCell ⟨g, 2, none⟩ c).setCell ⟨g, 3, none⟩ d).setCell ⟨g, 4, none⟩ f).ownsRow base e size V n xs :=
  own_setbox (own_setbox (own_setbox (own_setbox (own_setbox h hne) hne) hne) hne) hne
set_option maxHeartbeats 2000000 in
set_option maxRecDepth 100000 in
theorem do_rest (fl kind gen : Int) (V : Value) (L : List ByteArray) (FA : Option Addr) (FC : Nat) (F : List FileD) (w : World) (hs : ∀ s ∈ L, s.size ≤ 9223372036854775807) (hl : L.length ≤ 1048575) (hf0 : 0 ≤ fl) (hf1 : fl ≤ L.length) (hF : F.length ≤ 8796093022208) (hx : ∀ f ∈ F, FOk f) (k1 : kind ≠ 1) (k5 : kind ≠ 5)
    {b0 : Nat} (hv : w.ownsRow b0 9 1 V L.length (L.map Value.string)) (hb : Arr w w.heap.size 3 FA F.length (fcells F)) (hm : Ml w) (hb0 : b0 ≤ w.heap.size) :
    Calls Tryd.prog 14 #[.agg #[.int .i64 fl, V], .agg #[.int .i64 kind, .int .i64 gen, .slice FA F.length FC]] w (DoOutB b0 w (doP ⟨fl, L⟩ ⟨kind, gen, F⟩)) := by
  obtain ⟨A, c, rfl, hcap, ha, _⟩ := own_arr hv
  have HV := Lib.hid hv
  have hn0 : Hid True := Lib.hid trivial
  have HA := Lib.hid ha
  have HB := Lib.hid hb
  ·
    by_cases k2 : kind = 2
    · subst k2
      rw [show doP ⟨fl, L⟩ ⟨2, gen, F⟩ = (⟨fl, L⟩, hasP ⟨fl, L⟩ ((L.length : Int) - 1)) from rfl]
      have RS := Lib.hid (fun W h hm' => restore_any fl A c L ((L.length : Int) - 1) W hs h hm')
      have hwr : IntKind.i64.wrap ((L.length : Int) - 1) = (L.length : Int) - 1 := IntWalk.i64_in _ (by omega)
      generalize hasP ⟨fl, L⟩ ((L.length : Int) - 1) = R at *
      unfold AnsOut at RS
      have X0 := Lib.hid (DoBx.mk0 w 25 34 30 (.int .i64 fl) (.slice A L.length c) (.int .i64 2) (.int .i64 gen) (.slice FA F.length FC) (.int .i64 0) (.slice none 0 0) (.int .i64 0) (.int .i64 0) (.int .i64 0) (.slice none 0 0) (.slice none 0 0)).drew
      have X1 := Lib.hid (DoBx.mk0 w 25 34 30 (.int .i64 fl) (.slice A L.length c) (.int .i64 2) (.int .i64 gen) (.slice FA F.length FC) (.int .i64 fl) (.slice A L.length c) (.int .i64 0) (.int .i64 0) (.int .i64 0) (.slice none 0 0) (.slice none 0 0)).drew
      clear ha hb hv hcap
      go_enter Tryd.func14, Tryd.ntmps14
      go_wp2
      go_region_with (first
        | (go_at_call 37; (with_reducible refine (RS.out _ ((HA.out.below X0.out.be).more X0.out.be.size) (hm.on X0.out.be)).mono ?_); rintro e w5 ⟨A5, c5, rfl, hown5, hb5⟩; have HO5 := Lib.hid (own_mono hown5 X0.out.be.size); have HN5 := Lib.hid (own_ne hown5 X0.out.lt); have HN6 := Lib.hid (own_ne (b := w.heap.size + 1 + 1) hown5 (Nat.lt_of_succ_lt X0.out.lt)); clear hown5; have hbx := X0.out.on hb5; have HBX := Lib.hid hbx; obtain ⟨p0, p1, _, _⟩ := hcells hbx.b2; obtain ⟨m0, m1, m2, m3⟩ := hcells hbx.b4; obtain ⟨q0, q1, q2, q3, q4, q5, q6, q7, q8, q9⟩ := acells hbx.b5; clear hbx)
        | (go_at_call 37; (with_reducible refine (RS.out _ ((HA.out.below X1.out.be).more X1.out.be.size) (hm.on X1.out.be)).mono ?_); rintro e w5 ⟨A5, c5, rfl, hown5, hb5⟩; have HO5 := Lib.hid (own_mono hown5 X1.out.be.size); have HN5 := Lib.hid (own_ne hown5 X1.out.lt); have HN6 := Lib.hid (own_ne (b := w.heap.size + 1 + 1) hown5 (Nat.lt_of_succ_lt X1.out.lt)); clear hown5; have hbx := X1.out.on hb5; have HBX := Lib.hid hbx; obtain ⟨p0, p1, _, _⟩ := hcells hbx.b2; obtain ⟨m0, m1, m2, m3⟩ := hcells hbx.b4; obtain ⟨q0, q1, q2, q3, q4, q5, q6, q7, q8, q9⟩ := acells hbx.b5; clear hbx))
      all_goals
        go_wp2
        have hX := (HBX.out.set4 (.int .i64 fl) (.slice A L.length c)).all5 (.int .i64 R.err) (.int .i64 R.gen) (.int .i64 R.floor) (.slice A5 R.files.length c5) (.slice none 0 0)
        obtain ⟨t0, t1, _⟩ := hcells hX.b4; obtain ⟨s0, s1, s2, s3, s4, _⟩ := acells hX.b5
        have ho := own_set5 (own_set4 HO5.out HN6.out (.int .i64 fl) (.slice A L.length c)) HN5.out (.int .i64 R.err) (.int .i64 R.gen) (.int .i64 R.floor) (.slice A5 R.files.length c5) (.slice none 0 0)
        have hbe := hX.be
        have hv := own_below HV.out hbe
        refine bodyPost_ret (v := .tuple #[.agg #[.int .i64 fl, .slice A L.length c], .agg #[.int .i64 R.err, .int .i64 R.gen, .int .i64 R.floor, .slice A5 R.files.length c5, .slice none 0 0]]) (by simp [results, Tryd.results14, go_sem, t0, t1, s0, s1, s2, s3, s4]) rfl ?_
        unfold DoOutB
        exact ⟨_, _, rfl, hv, ho, hbe⟩
    · by_cases k3 : kind = 3
      · subst k3
        by_cases g0 : gen < 0
        · rw [show doP ⟨fl, L⟩ ⟨3, gen, F⟩ = (⟨fl, L⟩, ⟨2, 0, 0, []⟩) by unfold doP; simp [g0]]
          have hX := DoBx.mk0 w 25 34 30 (.int .i64 fl) (.slice A L.length c) (.int .i64 3) (.int .i64 gen) (.slice FA F.length FC) (.int .i64 fl) (.slice A L.length c) (.int .i64 2) (.int .i64 0) (.int .i64 0) (.slice none 0 0) (.slice none 0 0)
          clear ha hb hv hcap
          go_enter Tryd.func14, Tryd.ntmps14
          go_wp2
          obtain ⟨t0, t1, _⟩ := hcells hX.b4; obtain ⟨s0, s1, s2, s3, s4, _⟩ := acells hX.b5; have hbe := hX.be; have hv := own_below HV.out hbe; refine bodyPost_ret (v := .tuple #[.agg #[.int .i64 fl, .slice A L.length c], .agg #[.int .i64 2, .int .i64 0, .int .i64 0, .slice none 0 0, .slice none 0 0]]) (by simp [results, Tryd.results14, go_sem, t0, t1, s0, s1, s2, s3, s4]) rfl ?_; unfold DoOutB; exact ⟨_, _, rfl, hv, World.ownsRow_nil _ _ _ _, hbe⟩
        · rw [show doP ⟨fl, L⟩ ⟨3, gen, F⟩ = (⟨fl, L⟩, hasP ⟨fl, L⟩ gen) by unfold doP; simp [g0]]
          have RS := Lib.hid (fun W h hm' => restore_any fl A c L gen W hs h hm')
          generalize hasP ⟨fl, L⟩ gen = R at *
          unfold AnsOut at RS
          have X0 := Lib.hid (DoBx.mk0 w 25 34 30 (.int .i64 fl) (.slice A L.length c) (.int .i64 3) (.int .i64 gen) (.slice FA F.length FC) (.int .i64 0) (.slice none 0 0) (.int .i64 0) (.int .i64 0) (.int .i64 0) (.slice none 0 0) (.slice none 0 0)).drew
          have X1 := Lib.hid (DoBx.mk0 w 25 34 30 (.int .i64 fl) (.slice A L.length c) (.int .i64 3) (.int .i64 gen) (.slice FA F.length FC) (.int .i64 fl) (.slice A L.length c) (.int .i64 0) (.int .i64 0) (.int .i64 0) (.slice none 0 0) (.slice none 0 0)).drew
          clear ha hb hv hcap
          go_enter Tryd.func14, Tryd.ntmps14
          go_wp2
          go_region_with (first
            | (go_at_call 37; (with_reducible refine (RS.out _ ((HA.out.below X0.out.be).more X0.out.be.size) (hm.on X0.out.be)).mono ?_); rintro e w5 ⟨A5, c5, rfl, hown5, hb5⟩; have HO5 := Lib.hid (own_mono hown5 X0.out.be.size); have HN5 := Lib.hid (own_ne hown5 X0.out.lt); have HN6 := Lib.hid (own_ne (b := w.heap.size + 1 + 1) hown5 (Nat.lt_of_succ_lt X0.out.lt)); clear hown5; have hbx := X0.out.on hb5; have HBX := Lib.hid hbx; obtain ⟨p0, p1, _, _⟩ := hcells hbx.b2; obtain ⟨m0, m1, m2, m3⟩ := hcells hbx.b4; obtain ⟨q0, q1, q2, q3, q4, q5, q6, q7, q8, q9⟩ := acells hbx.b5; clear hbx)
            | (go_at_call 37; (with_reducible refine (RS.out _ ((HA.out.below X1.out.be).more X1.out.be.size) (hm.on X1.out.be)).mono ?_); rintro e w5 ⟨A5, c5, rfl, hown5, hb5⟩; have HO5 := Lib.hid (own_mono hown5 X1.out.be.size); have HN5 := Lib.hid (own_ne hown5 X1.out.lt); have HN6 := Lib.hid (own_ne (b := w.heap.size + 1 + 1) hown5 (Nat.lt_of_succ_lt X1.out.lt)); clear hown5; have hbx := X1.out.on hb5; have HBX := Lib.hid hbx; obtain ⟨p0, p1, _, _⟩ := hcells hbx.b2; obtain ⟨m0, m1, m2, m3⟩ := hcells hbx.b4; obtain ⟨q0, q1, q2, q3, q4, q5, q6, q7, q8, q9⟩ := acells hbx.b5; clear hbx))
          all_goals
            go_wp2
            have hX := (HBX.out.set4 (.int .i64 fl) (.slice A L.length c)).all5 (.int .i64 R.err) (.int .i64 R.gen) (.int .i64 R.floor) (.slice A5 R.files.length c5) (.slice none 0 0)
            obtain ⟨t0, t1, _⟩ := hcells hX.b4; obtain ⟨s0, s1, s2, s3, s4, _⟩ := acells hX.b5
            have ho := own_set5 (own_set4 HO5.out HN6.out (.int .i64 fl) (.slice A L.length c)) HN5.out (.int .i64 R.err) (.int .i64 R.gen) (.int .i64 R.floor) (.slice A5 R.files.length c5) (.slice none 0 0)
            have hbe := hX.be
            have hv := own_below HV.out hbe
            refine bodyPost_ret (v := .tuple #[.agg #[.int .i64 fl, .slice A L.length c], .agg #[.int .i64 R.err, .int .i64 R.gen, .int .i64 R.floor, .slice A5 R.files.length c5, .slice none 0 0]]) (by simp [results, Tryd.results14, go_sem, t0, t1, s0, s1, s2, s3, s4]) rfl ?_
            unfold DoOutB
            exact ⟨_, _, rfl, hv, ho, hbe⟩
      · by_cases k4 : kind = 4 ∨ kind = 6
        · rw [show doP ⟨fl, L⟩ ⟨kind, gen, F⟩ = (⟨fl, L⟩, ⟨0, L.length, fl, []⟩) by unfold doP; rw [if_neg k1, if_neg k2, if_neg k3, if_pos k4]]
          have hX := DoBx.mk0 w 25 34 30 (.int .i64 fl) (.slice A L.length c) (.int .i64 kind) (.int .i64 gen) (.slice FA F.length FC) (.int .i64 fl) (.slice A L.length c) (.int .i64 0) (.int .i64 L.length) (.int .i64 fl) (.slice none 0 0) (.slice none 0 0)
          clear ha hb hv hcap
          rcases k4 with rfl | rfl
          · go_enter Tryd.func14, Tryd.ntmps14
            go_wp2
            go_region
            all_goals
              go_wp2
              have hX := hX.drew
              obtain ⟨t0, t1, _⟩ := hcells hX.b4; obtain ⟨s0, s1, s2, s3, s4, _⟩ := acells hX.b5; have hbe := hX.be; have hv := own_below HV.out hbe; refine bodyPost_ret (v := .tuple #[.agg #[.int .i64 fl, .slice A L.length c], .agg #[.int .i64 0, .int .i64 L.length, .int .i64 fl, .slice none 0 0, .slice none 0 0]]) (by simp [results, Tryd.results14, go_sem, t0, t1, s0, s1, s2, s3, s4]) rfl ?_; unfold DoOutB; exact ⟨_, _, rfl, hv, World.ownsRow_nil _ _ _ _, hbe⟩
          · go_enter Tryd.func14, Tryd.ntmps14
            go_wp2
            go_region
            all_goals
              go_wp2
              have hX := hX.drew
              obtain ⟨t0, t1, _⟩ := hcells hX.b4; obtain ⟨s0, s1, s2, s3, s4, _⟩ := acells hX.b5; have hbe := hX.be; have hv := own_below HV.out hbe; refine bodyPost_ret (v := .tuple #[.agg #[.int .i64 fl, .slice A L.length c], .agg #[.int .i64 0, .int .i64 L.length, .int .i64 fl, .slice none 0 0, .slice none 0 0]]) (by simp [results, Tryd.results14, go_sem, t0, t1, s0, s1, s2, s3, s4]) rfl ?_; unfold DoOutB; exact ⟨_, _, rfl, hv, World.ownsRow_nil _ _ _ _, hbe⟩
        ·
          · rw [show doP ⟨fl, L⟩ ⟨kind, gen, F⟩ = (⟨fl, L⟩, ⟨1, 0, 0, []⟩) by unfold doP; rw [if_neg k1, if_neg k2, if_neg k3, if_neg k4, if_neg k5]]
            have g1 : (kind == 1) = false := by rw [beq_eq_false_iff_ne]; exact k1
            have g2 : (kind == 2) = false := by rw [beq_eq_false_iff_ne]; exact k2
            have g3 : (kind == 3) = false := by rw [beq_eq_false_iff_ne]; exact k3
            have g4 : (kind == 4) = false := by rw [beq_eq_false_iff_ne]; exact fun h => k4 (.inl h)
            have g6 : (kind == 6) = false := by rw [beq_eq_false_iff_ne]; exact fun h => k4 (.inr h)
            have g5 : (kind == 5) = false := by rw [beq_eq_false_iff_ne]; exact k5
            have hX := DoBx.mk0 w 25 34 30 (.int .i64 fl) (.slice A L.length c) (.int .i64 kind) (.int .i64 gen) (.slice FA F.length FC) (.int .i64 fl) (.slice A L.length c) (.int .i64 1) (.int .i64 0) (.int .i64 0) (.slice none 0 0) (.slice none 0 0)
            clear ha hb hv hcap
            go_enter Tryd.func14, Tryd.ntmps14
            go_wp2
            obtain ⟨t0, t1, _⟩ := hcells hX.b4; obtain ⟨s0, s1, s2, s3, s4, _⟩ := acells hX.b5; have hbe := hX.be; have hv := own_below HV.out hbe; refine bodyPost_ret (v := .tuple #[.agg #[.int .i64 fl, .slice A L.length c], .agg #[.int .i64 1, .int .i64 0, .int .i64 0, .slice none 0 0, .slice none 0 0]]) (by simp [results, Tryd.results14, go_sem, t0, t1, s0, s1, s2, s3, s4]) rfl ?_; unfold DoOutB; exact ⟨_, _, rfl, hv, World.ownsRow_nil _ _ _ _, hbe⟩
end Go.Proofs.YtakdngcgjahafaaDoor
