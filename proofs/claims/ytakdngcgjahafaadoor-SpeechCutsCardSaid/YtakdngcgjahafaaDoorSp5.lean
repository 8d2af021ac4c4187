/- Chapter 22: the walk through the law's do. -/
import Derived.Test.YtakdngcgjahafaaDoorSpD
namespace Go.Proofs.YtakdngcgjahafaaDoor
open Go.RowKit
set_option linter.unusedVariables false

/-- The five boxes of do. -/
structure DpBx (w W : World) (L R : TypeId) (fl x u v a b c d e : Value) (z : Array Value) : Prop where
  b2 : Blk W w.heap.size L #[fl, x]
  b4 : Blk W (w.heap.size + 1 + 1) L #[u, v]
  b5 : Blk W (w.heap.size + 1 + 1 + 1) R #[a, b, c, d, e]
  b7 : Blk W (w.heap.size + 1 + 1 + 1 + 1) R z
  lt : w.heap.size + 1 + 1 + 1 + 1 < W.heap.size
  be : Below w.heap.size w W
theorem DpBx.mk0 (w : World) (L R C : TypeId) (fl x k g f u v a b c d e : Value) (z : Array Value) :
    DpBx w (((((w.alloc (.cells #[fl, x] L)).alloc (.cells #[k, g, f] C)).alloc (.cells #[u, v] L)).alloc (.cells #[a, b, c, d, e] R)).alloc (.cells z R)) L R fl x u v a b c d e z := by
  refine ⟨((((Blk.new w _ _).alloc _).alloc _).alloc _).alloc _, ?_, ?_, ?_, by simp, (((((Below.refl _ w).alloc (Nat.le_refl _) _).alloc (by simp) _).alloc (by simp; omega) _).alloc (by simp; omega) _).alloc (by simp; omega) _⟩
  · exact ((Blk.new' (w := (w.alloc (.cells #[fl, x] L)).alloc (.cells #[k, g, f] C)) (by simp) _ _).alloc _).alloc _
  · exact (Blk.new' (w := ((w.alloc (.cells #[fl, x] L)).alloc (.cells #[k, g, f] C)).alloc (.cells #[u, v] L)) (by simp) _ _).alloc _
  · exact Blk.new' (w := (((w.alloc (.cells #[fl, x] L)).alloc (.cells #[k, g, f] C)).alloc (.cells #[u, v] L)).alloc (.cells #[a, b, c, d, e] R)) (by simp) _ _
section
variable {w W W' : World} {L R : TypeId} {fl x u v a b c d e : Value} {z : Array Value}
theorem DpBx.drew (h : DpBx w W L R fl x u v a b c d e z) : DpBx w W.drew L R fl x u v a b c d e z := ⟨h.b2, h.b4, h.b5, h.b7, h.lt, Below.drew h.be⟩
theorem DpBx.on (h : DpBx w W L R fl x u v a b c d e z) (hb : Below W.heap.size W W') : DpBx w W' L R fl x u v a b c d e z :=
  ⟨h.b2.below hb (by have := h.lt; omega), h.b4.below hb (by have := h.lt; omega), h.b5.below hb (by have := h.lt; omega), h.b7.below hb h.lt, Nat.lt_of_lt_of_le h.lt hb.size, below_on h.be hb⟩
theorem DpBx.set4 (h : DpBx w W L R fl x u v a b c d e z) (u' v' : Value) : DpBx w ((W.setCell ⟨w.heap.size + 1 + 1, 0, none⟩ u').setCell ⟨w.heap.size + 1 + 1, 1, none⟩ v') L R fl x u' v' a b c d e z :=
  ⟨(h.b2.far (by show w.heap.size ≠ w.heap.size + 1 + 1; omega) _).far (by show w.heap.size ≠ w.heap.size + 1 + 1; omega) _, (h.b4.set_ 0 _).set_ 1 _,
    (h.b5.far (by show w.heap.size + 1 + 1 + 1 ≠ w.heap.size + 1 + 1; omega) _).far (by show w.heap.size + 1 + 1 + 1 ≠ w.heap.size + 1 + 1; omega) _,
    (h.b7.far (by show w.heap.size + 1 + 1 + 1 + 1 ≠ w.heap.size + 1 + 1; omega) _).far (by show w.heap.size + 1 + 1 + 1 + 1 ≠ w.heap.size + 1 + 1; omega) _, by rw [World.size_setCell, World.size_setCell]; exact h.lt,
    (h.be.setCell (by show w.heap.size ≤ w.heap.size + 1 + 1; omega) _).setCell (by show w.heap.size ≤ w.heap.size + 1 + 1; omega) _⟩
theorem DpBx.one5 (h : DpBx w W L R fl x u v a b c d e z) (i : Nat) (y : Value) : Blk (W.setCell ⟨w.heap.size + 1 + 1 + 1, i, none⟩ y) w.heap.size L #[fl, x] ∧ Blk (W.setCell ⟨w.heap.size + 1 + 1 + 1, i, none⟩ y) (w.heap.size + 1 + 1) L #[u, v] ∧ Blk (W.setCell ⟨w.heap.size + 1 + 1 + 1, i, none⟩ y) (w.heap.size + 1 + 1 + 1 + 1) R z :=
  ⟨h.b2.far (by show w.heap.size ≠ w.heap.size + 1 + 1 + 1; omega) _, h.b4.far (by show w.heap.size + 1 + 1 ≠ w.heap.size + 1 + 1 + 1; omega) _, h.b7.far (by show w.heap.size + 1 + 1 + 1 + 1 ≠ w.heap.size + 1 + 1 + 1; omega) _⟩
theorem DpBx.all5 (h : DpBx w W L R fl x u v a b c d e z) (a' b' c' d' e' : Value) : DpBx w (((((W.setCell ⟨w.heap.size + 1 + 1 + 1, 0, none⟩ a').setCell ⟨w.heap.size + 1 + 1 + 1, 1, none⟩ b').setCell ⟨w.heap.size + 1 + 1 + 1, 2, none⟩ c').setCell ⟨w.heap.size + 1 + 1 + 1, 3, none⟩ d').setCell ⟨w.heap.size + 1 + 1 + 1, 4, none⟩ e') L R fl x u v a' b' c' d' e' z :=
  have q : w.heap.size ≤ w.heap.size + 1 + 1 + 1 := by omega
  have n2 : w.heap.size ≠ w.heap.size + 1 + 1 + 1 := by omega
  have n4 : w.heap.size + 1 + 1 ≠ w.heap.size + 1 + 1 + 1 := by omega
  have n7 : w.heap.size + 1 + 1 + 1 + 1 ≠ w.heap.size + 1 + 1 + 1 := by omega
  ⟨((((h.b2.far (p := ⟨w.heap.size + 1 + 1 + 1, 0, none⟩) n2 _).far (p := ⟨w.heap.size + 1 + 1 + 1, 1, none⟩) n2 _).far (p := ⟨w.heap.size + 1 + 1 + 1, 2, none⟩) n2 _).far (p := ⟨w.heap.size + 1 + 1 + 1, 3, none⟩) n2 _).far (p := ⟨w.heap.size + 1 + 1 + 1, 4, none⟩) n2 _,
    ((((h.b4.far (p := ⟨w.heap.size + 1 + 1 + 1, 0, none⟩) n4 _).far (p := ⟨w.heap.size + 1 + 1 + 1, 1, none⟩) n4 _).far (p := ⟨w.heap.size + 1 + 1 + 1, 2, none⟩) n4 _).far (p := ⟨w.heap.size + 1 + 1 + 1, 3, none⟩) n4 _).far (p := ⟨w.heap.size + 1 + 1 + 1, 4, none⟩) n4 _,
    ((((h.b5.set_ 0 _).set_ 1 _).set_ 2 _).set_ 3 _).set_ 4 _,
    ((((h.b7.far (p := ⟨w.heap.size + 1 + 1 + 1, 0, none⟩) n7 _).far (p := ⟨w.heap.size + 1 + 1 + 1, 1, none⟩) n7 _).far (p := ⟨w.heap.size + 1 + 1 + 1, 2, none⟩) n7 _).far (p := ⟨w.heap.size + 1 + 1 + 1, 3, none⟩) n7 _).far (p := ⟨w.heap.size + 1 + 1 + 1, 4, none⟩) n7 _,
    by simp only [World.size_setCell]; exact h.lt,
    ((((h.be.setCell (p := ⟨w.heap.size + 1 + 1 + 1, 0, none⟩) q _).setCell (p := ⟨w.heap.size + 1 + 1 + 1, 1, none⟩) q _).setCell (p := ⟨w.heap.size + 1 + 1 + 1, 2, none⟩) q _).setCell (p := ⟨w.heap.size + 1 + 1 + 1, 3, none⟩) q _).setCell (p := ⟨w.heap.size + 1 + 1 + 1, 4, none⟩) q _⟩
end
set_option maxHeartbeats 2000000 in
set_option maxRecDepth 100000 in
theorem dp_rest (fl kind gen : Int) (V : Value) (L : List ByteArray) (FA : Option Addr) (FC : Nat) (F : List FileD) (w : World) (hs : ∀ s ∈ L, s.size ≤ 9223372036854775807) (hl : L.length ≤ 1048575) (hf0 : 0 ≤ fl) (hf1 : fl ≤ L.length) (hF : F.length ≤ 8796093022208) (hx : ∀ f ∈ F, FOk f) (k1 : kind ≠ 1) (k5 : kind ≠ 5)
    (hv : w.ownsRow 0 9 1 V L.length (L.map Value.string)) (hb : Arr w w.heap.size 3 FA F.length (fcells F)) (hm : Ml w) :
    Calls Tryd.prog 15 #[.agg #[.int .i64 fl, V], .agg #[.int .i64 kind, .int .i64 gen, .slice FA F.length FC]] w (DoOut w (doP ⟨fl, L⟩ ⟨kind, gen, F⟩)) := by
  obtain ⟨A, c, rfl, hcap, ha, _⟩ := own_arr hv
  have HV := Lib.hid hv
  have hn0 : Hid True := Lib.hid trivial
  have HA := Lib.hid ha
  have HB := Lib.hid hb
  ·
    by_cases k2 : kind = 2
    · subst k2
      rw [show doP ⟨fl, L⟩ ⟨2, gen, F⟩ = (⟨fl, L⟩, hasP ⟨fl, L⟩ ((L.length : Int) - 1)) from rfl]
      have RS := Lib.hid (fun W h => has_any fl A c L ((L.length : Int) - 1) W hs h)
      have hwr : IntKind.i64.wrap ((L.length : Int) - 1) = (L.length : Int) - 1 := IntWalk.i64_in _ (by omega)
      generalize hasP ⟨fl, L⟩ ((L.length : Int) - 1) = R at *
      unfold AnsOut at RS
      have X0 := Lib.hid (DpBx.mk0 w 27 34 30 (.int .i64 fl) (.slice A L.length c) (.int .i64 2) (.int .i64 gen) (.slice FA F.length FC) (.int .i64 0) (.slice none 0 0) (.int .i64 0) (.int .i64 0) (.int .i64 0) (.slice none 0 0) (.slice none 0 0) #[.int .i64 0, .int .i64 L.length, .int .i64 fl, .slice none 0 0, .slice none 0 0]).drew
      have X1 := Lib.hid (DpBx.mk0 w 27 34 30 (.int .i64 fl) (.slice A L.length c) (.int .i64 2) (.int .i64 gen) (.slice FA F.length FC) (.int .i64 fl) (.slice A L.length c) (.int .i64 0) (.int .i64 0) (.int .i64 0) (.slice none 0 0) (.slice none 0 0) #[.int .i64 0, .int .i64 L.length, .int .i64 fl, .slice none 0 0, .slice none 0 0]).drew
      clear ha hb hv hcap
      go_enter Tryd.func15, Tryd.ntmps15
      go_wp2
      go_region_with (first
        | (go_at_call 38; (with_reducible refine (RS.out _ ((HA.out.below X0.out.be).more X0.out.be.size)).mono ?_); rintro e w5 ⟨A5, c5, rfl, hown5, hb5⟩; have HO5 := Lib.hid (own_mono hown5 X0.out.be.size); have HN5 := Lib.hid (own_ne (b := w.heap.size + 1 + 1 + 1) hown5 (Nat.lt_of_succ_lt X0.out.lt)); have HN6 := Lib.hid (own_ne (b := w.heap.size + 1 + 1) hown5 (Nat.lt_of_succ_lt (Nat.lt_of_succ_lt X0.out.lt))); clear hown5; have hbx := X0.out.on hb5; have HBX := Lib.hid hbx; obtain ⟨p0, p1, _, _⟩ := hcells hbx.b2; obtain ⟨m0, m1, m2, m3⟩ := hcells hbx.b4; obtain ⟨q0, q1, q2, q3, q4, q5, q6, q7, q8, q9⟩ := acells hbx.b5; clear hbx)
        | (go_at_call 38; (with_reducible refine (RS.out _ ((HA.out.below X1.out.be).more X1.out.be.size)).mono ?_); rintro e w5 ⟨A5, c5, rfl, hown5, hb5⟩; have HO5 := Lib.hid (own_mono hown5 X1.out.be.size); have HN5 := Lib.hid (own_ne (b := w.heap.size + 1 + 1 + 1) hown5 (Nat.lt_of_succ_lt X1.out.lt)); have HN6 := Lib.hid (own_ne (b := w.heap.size + 1 + 1) hown5 (Nat.lt_of_succ_lt (Nat.lt_of_succ_lt X1.out.lt))); clear hown5; have hbx := X1.out.on hb5; have HBX := Lib.hid hbx; obtain ⟨p0, p1, _, _⟩ := hcells hbx.b2; obtain ⟨m0, m1, m2, m3⟩ := hcells hbx.b4; obtain ⟨q0, q1, q2, q3, q4, q5, q6, q7, q8, q9⟩ := acells hbx.b5; clear hbx))
      all_goals
        go_wp2
        have hX := (HBX.out.set4 (.int .i64 fl) (.slice A L.length c)).all5 (.int .i64 R.err) (.int .i64 R.gen) (.int .i64 R.floor) (.slice A5 R.files.length c5) (.slice none 0 0)
        obtain ⟨t0, t1, _⟩ := hcells hX.b4; obtain ⟨s0, s1, s2, s3, s4, _⟩ := acells hX.b5
        have ho := own_set5 (own_set4 HO5.out HN6.out (.int .i64 fl) (.slice A L.length c)) HN5.out (.int .i64 R.err) (.int .i64 R.gen) (.int .i64 R.floor) (.slice A5 R.files.length c5) (.slice none 0 0)
        have hbe := hX.be
        have hv := own_below HV.out hbe
        refine bodyPost_ret (v := .tuple #[.agg #[.int .i64 fl, .slice A L.length c], .agg #[.int .i64 R.err, .int .i64 R.gen, .int .i64 R.floor, .slice A5 R.files.length c5, .slice none 0 0]]) (by simp [results, Tryd.results15, go_sem, t0, t1, s0, s1, s2, s3, s4]) rfl ?_
        unfold DoOut
        exact ⟨_, _, rfl, hv, ho, hbe⟩
    · by_cases k3 : kind = 3
      · subst k3
        by_cases g0 : gen < 0
        · rw [show doP ⟨fl, L⟩ ⟨3, gen, F⟩ = (⟨fl, L⟩, ⟨2, 0, 0, []⟩) by unfold doP; simp [g0]]
          have hX := DpBx.mk0 w 27 34 30 (.int .i64 fl) (.slice A L.length c) (.int .i64 3) (.int .i64 gen) (.slice FA F.length FC) (.int .i64 fl) (.slice A L.length c) (.int .i64 2) (.int .i64 0) (.int .i64 0) (.slice none 0 0) (.slice none 0 0) #[.int .i64 0, .int .i64 L.length, .int .i64 fl, .slice none 0 0, .slice none 0 0]
          clear ha hb hv hcap
          go_enter Tryd.func15, Tryd.ntmps15
          go_wp2
          obtain ⟨t0, t1, _⟩ := hcells hX.b4; obtain ⟨s0, s1, s2, s3, s4, _⟩ := acells hX.b5; have hbe := hX.be; have hv := own_below HV.out hbe; refine bodyPost_ret (v := .tuple #[.agg #[.int .i64 fl, .slice A L.length c], .agg #[.int .i64 2, .int .i64 0, .int .i64 0, .slice none 0 0, .slice none 0 0]]) (by simp [results, Tryd.results15, go_sem, t0, t1, s0, s1, s2, s3, s4]) rfl ?_; unfold DoOut; exact ⟨_, _, rfl, hv, World.ownsRow_nil _ _ _ _, hbe⟩
        · rw [show doP ⟨fl, L⟩ ⟨3, gen, F⟩ = (⟨fl, L⟩, hasP ⟨fl, L⟩ gen) by unfold doP; simp [g0]]
          have RS := Lib.hid (fun W h => has_any fl A c L gen W hs h)
          generalize hasP ⟨fl, L⟩ gen = R at *
          unfold AnsOut at RS
          have X0 := Lib.hid (DpBx.mk0 w 27 34 30 (.int .i64 fl) (.slice A L.length c) (.int .i64 3) (.int .i64 gen) (.slice FA F.length FC) (.int .i64 0) (.slice none 0 0) (.int .i64 0) (.int .i64 0) (.int .i64 0) (.slice none 0 0) (.slice none 0 0) #[.int .i64 0, .int .i64 L.length, .int .i64 fl, .slice none 0 0, .slice none 0 0]).drew
          have X1 := Lib.hid (DpBx.mk0 w 27 34 30 (.int .i64 fl) (.slice A L.length c) (.int .i64 3) (.int .i64 gen) (.slice FA F.length FC) (.int .i64 fl) (.slice A L.length c) (.int .i64 0) (.int .i64 0) (.int .i64 0) (.slice none 0 0) (.slice none 0 0) #[.int .i64 0, .int .i64 L.length, .int .i64 fl, .slice none 0 0, .slice none 0 0]).drew
          clear ha hb hv hcap
          go_enter Tryd.func15, Tryd.ntmps15
          go_wp2
          go_region_with (first
            | (go_at_call 38; (with_reducible refine (RS.out _ ((HA.out.below X0.out.be).more X0.out.be.size)).mono ?_); rintro e w5 ⟨A5, c5, rfl, hown5, hb5⟩; have HO5 := Lib.hid (own_mono hown5 X0.out.be.size); have HN5 := Lib.hid (own_ne (b := w.heap.size + 1 + 1 + 1) hown5 (Nat.lt_of_succ_lt X0.out.lt)); have HN6 := Lib.hid (own_ne (b := w.heap.size + 1 + 1) hown5 (Nat.lt_of_succ_lt (Nat.lt_of_succ_lt X0.out.lt))); clear hown5; have hbx := X0.out.on hb5; have HBX := Lib.hid hbx; obtain ⟨p0, p1, _, _⟩ := hcells hbx.b2; obtain ⟨m0, m1, m2, m3⟩ := hcells hbx.b4; obtain ⟨q0, q1, q2, q3, q4, q5, q6, q7, q8, q9⟩ := acells hbx.b5; clear hbx)
            | (go_at_call 38; (with_reducible refine (RS.out _ ((HA.out.below X1.out.be).more X1.out.be.size)).mono ?_); rintro e w5 ⟨A5, c5, rfl, hown5, hb5⟩; have HO5 := Lib.hid (own_mono hown5 X1.out.be.size); have HN5 := Lib.hid (own_ne (b := w.heap.size + 1 + 1 + 1) hown5 (Nat.lt_of_succ_lt X1.out.lt)); have HN6 := Lib.hid (own_ne (b := w.heap.size + 1 + 1) hown5 (Nat.lt_of_succ_lt (Nat.lt_of_succ_lt X1.out.lt))); clear hown5; have hbx := X1.out.on hb5; have HBX := Lib.hid hbx; obtain ⟨p0, p1, _, _⟩ := hcells hbx.b2; obtain ⟨m0, m1, m2, m3⟩ := hcells hbx.b4; obtain ⟨q0, q1, q2, q3, q4, q5, q6, q7, q8, q9⟩ := acells hbx.b5; clear hbx))
          all_goals
            go_wp2
            have hX := (HBX.out.set4 (.int .i64 fl) (.slice A L.length c)).all5 (.int .i64 R.err) (.int .i64 R.gen) (.int .i64 R.floor) (.slice A5 R.files.length c5) (.slice none 0 0)
            obtain ⟨t0, t1, _⟩ := hcells hX.b4; obtain ⟨s0, s1, s2, s3, s4, _⟩ := acells hX.b5
            have ho := own_set5 (own_set4 HO5.out HN6.out (.int .i64 fl) (.slice A L.length c)) HN5.out (.int .i64 R.err) (.int .i64 R.gen) (.int .i64 R.floor) (.slice A5 R.files.length c5) (.slice none 0 0)
            have hbe := hX.be
            have hv := own_below HV.out hbe
            refine bodyPost_ret (v := .tuple #[.agg #[.int .i64 fl, .slice A L.length c], .agg #[.int .i64 R.err, .int .i64 R.gen, .int .i64 R.floor, .slice A5 R.files.length c5, .slice none 0 0]]) (by simp [results, Tryd.results15, go_sem, t0, t1, s0, s1, s2, s3, s4]) rfl ?_
            unfold DoOut
            exact ⟨_, _, rfl, hv, ho, hbe⟩
      · by_cases k4 : kind = 4 ∨ kind = 6
        · rw [show doP ⟨fl, L⟩ ⟨kind, gen, F⟩ = (⟨fl, L⟩, ⟨0, L.length, fl, []⟩) by unfold doP; rw [if_neg k1, if_neg k2, if_neg k3, if_pos k4]]
          have hX := DpBx.mk0 w 27 34 30 (.int .i64 fl) (.slice A L.length c) (.int .i64 kind) (.int .i64 gen) (.slice FA F.length FC) (.int .i64 fl) (.slice A L.length c) (.int .i64 0) (.int .i64 L.length) (.int .i64 fl) (.slice none 0 0) (.slice none 0 0) #[.int .i64 0, .int .i64 L.length, .int .i64 fl, .slice none 0 0, .slice none 0 0]
          clear ha hb hv hcap
          rcases k4 with rfl | rfl
          · go_enter Tryd.func15, Tryd.ntmps15
            go_wp2
            go_region
            all_goals
              go_wp2
              have hX := hX.drew
              obtain ⟨t0, t1, _⟩ := hcells hX.b4; obtain ⟨s0, s1, s2, s3, s4, _⟩ := acells hX.b5; have hbe := hX.be; have hv := own_below HV.out hbe; refine bodyPost_ret (v := .tuple #[.agg #[.int .i64 fl, .slice A L.length c], .agg #[.int .i64 0, .int .i64 L.length, .int .i64 fl, .slice none 0 0, .slice none 0 0]]) (by simp [results, Tryd.results15, go_sem, t0, t1, s0, s1, s2, s3, s4]) rfl ?_; unfold DoOut; exact ⟨_, _, rfl, hv, World.ownsRow_nil _ _ _ _, hbe⟩
          · go_enter Tryd.func15, Tryd.ntmps15
            go_wp2
            go_region
            all_goals
              go_wp2
              have hX := hX.drew
              obtain ⟨t0, t1, _⟩ := hcells hX.b4; obtain ⟨s0, s1, s2, s3, s4, _⟩ := acells hX.b5; have hbe := hX.be; have hv := own_below HV.out hbe; refine bodyPost_ret (v := .tuple #[.agg #[.int .i64 fl, .slice A L.length c], .agg #[.int .i64 0, .int .i64 L.length, .int .i64 fl, .slice none 0 0, .slice none 0 0]]) (by simp [results, Tryd.results15, go_sem, t0, t1, s0, s1, s2, s3, s4]) rfl ?_; unfold DoOut; exact ⟨_, _, rfl, hv, World.ownsRow_nil _ _ _ _, hbe⟩
        ·
          · rw [show doP ⟨fl, L⟩ ⟨kind, gen, F⟩ = (⟨fl, L⟩, ⟨1, 0, 0, []⟩) by unfold doP; rw [if_neg k1, if_neg k2, if_neg k3, if_neg k4, if_neg k5]]
            have g1 : (kind == 1) = false := by rw [beq_eq_false_iff_ne]; exact k1
            have g2 : (kind == 2) = false := by rw [beq_eq_false_iff_ne]; exact k2
            have g3 : (kind == 3) = false := by rw [beq_eq_false_iff_ne]; exact k3
            have g4 : (kind == 4) = false := by rw [beq_eq_false_iff_ne]; exact fun h => k4 (.inl h)
            have g6 : (kind == 6) = false := by rw [beq_eq_false_iff_ne]; exact fun h => k4 (.inr h)
            have g5 : (kind == 5) = false := by rw [beq_eq_false_iff_ne]; exact k5
            have hX := DpBx.mk0 w 27 34 30 (.int .i64 fl) (.slice A L.length c) (.int .i64 kind) (.int .i64 gen) (.slice FA F.length FC) (.int .i64 fl) (.slice A L.length c) (.int .i64 1) (.int .i64 0) (.int .i64 0) (.slice none 0 0) (.slice none 0 0) #[.int .i64 0, .int .i64 L.length, .int .i64 fl, .slice none 0 0, .slice none 0 0]
            clear ha hb hv hcap
            go_enter Tryd.func15, Tryd.ntmps15
            go_wp2
            obtain ⟨t0, t1, _⟩ := hcells hX.b4; obtain ⟨s0, s1, s2, s3, s4, _⟩ := acells hX.b5; have hbe := hX.be; have hv := own_below HV.out hbe; refine bodyPost_ret (v := .tuple #[.agg #[.int .i64 fl, .slice A L.length c], .agg #[.int .i64 1, .int .i64 0, .int .i64 0, .slice none 0 0, .slice none 0 0]]) (by simp [results, Tryd.results15, go_sem, t0, t1, s0, s1, s2, s3, s4]) rfl ?_; unfold DoOut; exact ⟨_, _, rfl, hv, World.ownsRow_nil _ _ _ _, hbe⟩
end Go.Proofs.YtakdngcgjahafaaDoor
