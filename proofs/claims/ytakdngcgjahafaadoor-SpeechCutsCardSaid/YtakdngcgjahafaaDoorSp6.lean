/- Chapter 22: the law's do: prunes and backups. -/
import Derived.Test.YtakdngcgjahafaaDoorSp5
namespace Go.Proofs.YtakdngcgjahafaaDoor
open Go.RowKit
set_option linter.unusedVariables false

set_option maxHeartbeats 2000000 in
set_option maxRecDepth 100000 in
theorem dp_prune (fl gen : Int) (V : Value) (L : List ByteArray) (FA : Option Addr) (FC : Nat) (F : List FileD) (w : World) (hs : ∀ s ∈ L, s.size ≤ 9223372036854775807) (hl : L.length ≤ 1048575) (hf0 : 0 ≤ fl) (hf1 : fl ≤ L.length) (hF : F.length ≤ 8796093022208) (hx : ∀ f ∈ F, FOk f) (hv : w.ownsRow 0 9 1 V L.length (L.map Value.string)) (hb : Arr w w.heap.size 3 FA F.length (fcells F)) (hm : Ml w) :
    Calls Tryd.prog 15 #[.agg #[.int .i64 fl, V], .agg #[.int .i64 5, .int .i64 gen, .slice FA F.length FC]] w (DoOut w (doP ⟨fl, L⟩ ⟨5, gen, F⟩)) := by
  obtain ⟨A, c, rfl, hcap, ha, _⟩ := own_arr hv
  have HV := Lib.hid hv
  clear ha hb hv hcap
  by_cases g0 : gen < 0
  · rw [show doP ⟨fl, L⟩ ⟨5, gen, F⟩ = (⟨fl, L⟩, ⟨2, 0, 0, []⟩) by unfold doP; simp [g0]]
    have hX := DpBx.mk0 w 27 34 30 (.int .i64 fl) (.slice A L.length c) (.int .i64 5) (.int .i64 gen) (.slice FA F.length FC) (.int .i64 fl) (.slice A L.length c) (.int .i64 2) (.int .i64 0) (.int .i64 0) (.slice none 0 0) (.slice none 0 0) #[.int .i64 0, .int .i64 L.length, .int .i64 fl, .slice none 0 0, .slice none 0 0]
    go_enter Tryd.func15, Tryd.ntmps15
    go_wp2
    obtain ⟨t0, t1, _⟩ := hcells hX.b4; obtain ⟨s0, s1, s2, s3, s4, _⟩ := acells hX.b5; have hbe := hX.be; have hv := own_below HV.out hbe; refine bodyPost_ret (v := .tuple #[.agg #[.int .i64 fl, .slice A L.length c], .agg #[.int .i64 2, .int .i64 0, .int .i64 0, .slice none 0 0, .slice none 0 0]]) (by simp [results, Tryd.results15, go_sem, t0, t1, s0, s1, s2, s3, s4]) rfl ?_; unfold DoOut; exact ⟨_, _, rfl, hv, World.ownsRow_nil _ _ _ _, hbe⟩
  · by_cases g1 : gen ≤ fl
    · rw [show doP ⟨fl, L⟩ ⟨5, gen, F⟩ = (⟨fl, L⟩, ⟨0, L.length, fl, []⟩) by unfold doP; simp [g0, g1]]
      have g1' : ¬ fl < gen := by omega
      have hX := DpBx.mk0 w 27 34 30 (.int .i64 fl) (.slice A L.length c) (.int .i64 5) (.int .i64 gen) (.slice FA F.length FC) (.int .i64 fl) (.slice A L.length c) (.int .i64 0) (.int .i64 L.length) (.int .i64 fl) (.slice none 0 0) (.slice none 0 0) #[.int .i64 0, .int .i64 L.length, .int .i64 fl, .slice none 0 0, .slice none 0 0]
      go_enter Tryd.func15, Tryd.ntmps15
      go_wp2
      go_region
      all_goals
        go_wp2
        have hX := hX.drew
        obtain ⟨t0, t1, _⟩ := hcells hX.b4; obtain ⟨s0, s1, s2, s3, s4, _⟩ := acells hX.b5; have hbe := hX.be; have hv := own_below HV.out hbe; refine bodyPost_ret (v := .tuple #[.agg #[.int .i64 fl, .slice A L.length c], .agg #[.int .i64 0, .int .i64 L.length, .int .i64 fl, .slice none 0 0, .slice none 0 0]]) (by simp [results, Tryd.results15, go_sem, t0, t1, s0, s1, s2, s3, s4]) rfl ?_; unfold DoOut; exact ⟨_, _, rfl, hv, World.ownsRow_nil _ _ _ _, hbe⟩
    · have g1' : fl < gen := by omega
      by_cases g2 : (L.length : Int) ≤ gen
      · rw [show doP ⟨fl, L⟩ ⟨5, gen, F⟩ = (⟨fl, L⟩, ⟨2, 0, 0, []⟩) by unfold doP; simp [g0, g1, g2]]
        have hX := DpBx.mk0 w 27 34 30 (.int .i64 fl) (.slice A L.length c) (.int .i64 5) (.int .i64 gen) (.slice FA F.length FC) (.int .i64 fl) (.slice A L.length c) (.int .i64 2) (.int .i64 0) (.int .i64 0) (.slice none 0 0) (.slice none 0 0) #[.int .i64 0, .int .i64 L.length, .int .i64 fl, .slice none 0 0, .slice none 0 0]
        go_enter Tryd.func15, Tryd.ntmps15
        go_wp2
        obtain ⟨t0, t1, _⟩ := hcells hX.b4; obtain ⟨s0, s1, s2, s3, s4, _⟩ := acells hX.b5; have hbe := hX.be; have hv := own_below HV.out hbe; refine bodyPost_ret (v := .tuple #[.agg #[.int .i64 fl, .slice A L.length c], .agg #[.int .i64 2, .int .i64 0, .int .i64 0, .slice none 0 0, .slice none 0 0]]) (by simp [results, Tryd.results15, go_sem, t0, t1, s0, s1, s2, s3, s4]) rfl ?_; unfold DoOut; exact ⟨_, _, rfl, hv, World.ownsRow_nil _ _ _ _, hbe⟩
      · rw [show doP ⟨fl, L⟩ ⟨5, gen, F⟩ = (⟨gen, L⟩, ⟨0, L.length, gen, []⟩) by unfold doP; simp [g0, g1, g2]]
        have hX := DpBx.mk0 w 27 34 30 (.int .i64 gen) (.slice A L.length c) (.int .i64 5) (.int .i64 gen) (.slice FA F.length FC) (.int .i64 gen) (.slice A L.length c) (.int .i64 0) (.int .i64 L.length) (.int .i64 gen) (.slice none 0 0) (.slice none 0 0) #[.int .i64 0, .int .i64 L.length, .int .i64 gen, .slice none 0 0, .slice none 0 0]
        go_enter Tryd.func15, Tryd.ntmps15
        go_wp2
        go_region
        all_goals
          go_wp2
          have hX := hX.drew
          obtain ⟨t0, t1, _⟩ := hcells hX.b4; obtain ⟨s0, s1, s2, s3, s4, _⟩ := acells hX.b5; have hbe := hX.be; have hv := own_below HV.out hbe; refine bodyPost_ret (v := .tuple #[.agg #[.int .i64 gen, .slice A L.length c], .agg #[.int .i64 0, .int .i64 L.length, .int .i64 gen, .slice none 0 0, .slice none 0 0]]) (by simp [results, Tryd.results15, go_sem, t0, t1, s0, s1, s2, s3, s4]) rfl ?_; unfold DoOut; exact ⟨_, _, rfl, hv, World.ownsRow_nil _ _ _ _, hbe⟩
theorem DpBx.alloc {w W : World} {L R : TypeId} {fl x u v a b c d e : Value} {z : Array Value} (h : DpBx w W L R fl x u v a b c d e z) (o : Obj) : DpBx w (W.alloc o) L R fl x u v a b c d e z := h.on ((Below.refl _ _).alloc (Nat.le_refl _) _)
theorem DpBx.grown {w W W' : World} {L R : TypeId} {fl x u v a b c d e : Value} {z : Array Value} {row : Option Nat} (h : DpBx w W L R fl x u v a b c d e z) (g : W.grownBy W' row) (hr : ∀ k, row = some k → w.heap.size + 1 + 1 + 1 + 1 < k) : DpBx w W' L R fl x u v a b c d e z :=
  ⟨h.b2.grown g (fun e => by have := hr _ e.symm; omega), h.b4.grown g (fun e => by have := hr _ e.symm; omega), h.b5.grown g (fun e => by have := hr _ e.symm; omega), h.b7.grown g (fun e => by have := hr _ e.symm; omega), Nat.lt_of_lt_of_le h.lt g.size, h.be.grown g h.be.size (fun j hj => by have := hr _ hj; omega)⟩
theorem at_p {P : Program} {ops : Array Oper} {o : Oper} {a : Act} {w W : World} {K : Act → World → Prop} {Q : Exit → Act → World → Prop} {E : Prop} {L R : TypeId} {fl x u v y b c d e : Value} {z : Array Value} (_ : DpBx w W L R fl x u v y b c d e z)
    (h : if Region.wanted o (yielded ops a.tmps) = true then Oper.wp P o a W K Q else E) : if Region.wanted o (yielded ops a.tmps) = true then Oper.wp P o a W K Q else E := h
theorem DpBx.s {w W : World} {L R : TypeId} {fl x u v a b c d e z0 z1 z2 z3 z4 : Value} (h : DpBx w W L R fl x u v a b c d e #[z0, z1, z2, z3, z4]) : W.cell? ⟨w.heap.size, 0, none⟩ = some fl ∧ W.cell? ⟨w.heap.size, 1, none⟩ = some x ∧
    W.cell? ⟨w.heap.size + 1 + 1 + 1 + 1, 0, none⟩ = some z0 ∧ W.cell? ⟨w.heap.size + 1 + 1 + 1 + 1, 1, none⟩ = some z1 ∧ W.cell? ⟨w.heap.size + 1 + 1 + 1 + 1, 2, none⟩ = some z2 ∧ W.cell? ⟨w.heap.size + 1 + 1 + 1 + 1, 3, none⟩ = some z3 ∧ W.cell? ⟨w.heap.size + 1 + 1 + 1 + 1, 4, none⟩ = some z4 :=
  ⟨h.b2.cell 0, h.b2.cell 1, h.b7.cell 0, h.b7.cell 1, h.b7.cell 2, h.b7.cell 3, h.b7.cell 4⟩
theorem own_one' {w : World} {k : Nat} (hk : w.heap.size = k) (e : TypeId) (u : Value) : (w.alloc (.cells #[u] e)).ownsRow k e 1 (.slice (some ⟨k, 0, none⟩) 1 1) 1 [u] := by
  subst hk
  exact own_one w e u
theorem own_empty' {w : World} {k : Nat} (hk : w.heap.size = k) (e : TypeId) (base : Nat) (hb : base ≤ w.heap.size) : (w.alloc (.cells #[] e)).ownsRow base e 1 (.slice (some ⟨k, 0, none⟩) 0 0) 0 [] := by
  subst hk
  exact own_empty w e 1 base hb
theorem str_ones {L : List ByteArray} : ∀ u ∈ L.map Value.string, u.oneCell' = true := by
  intro u hu
  obtain ⟨x, _, rfl⟩ := List.mem_map.1 hu
  rfl
set_option maxHeartbeats 16000000 in
set_option maxRecDepth 100000 in
theorem dp_backup (fl gen : Int) (V : Value) (L : List ByteArray) (FA : Option Addr) (FC : Nat) (F : List FileD) (w : World) (hs : ∀ s ∈ L, s.size ≤ 9223372036854775807) (hl : L.length ≤ 1048575) (hf0 : 0 ≤ fl) (hf1 : fl ≤ L.length) (hF : F.length ≤ 8796093022208) (hx : ∀ f ∈ F, FOk f) (hv : w.ownsRow 0 9 1 V L.length (L.map Value.string)) (hb : Arr w w.heap.size 3 FA F.length (fcells F)) (hm : Ml w) :
    Calls Tryd.prog 15 #[.agg #[.int .i64 fl, V], .agg #[.int .i64 1, .int .i64 gen, .slice FA F.length FC]] w (DoOut w (doP ⟨fl, L⟩ ⟨1, gen, F⟩)) := by
  obtain ⟨A, c, rfl, hcap, ha, _⟩ := own_arr hv
  have HV := Lib.hid hv
  have HA := Lib.hid ha
  have HB := Lib.hid hb
  have hR : doP ⟨fl, L⟩ ⟨1, gen, F⟩ = if ofE F ≠ 0 then (⟨fl, L⟩, ⟨ofE F, 0, 0, []⟩) else if 32 ≤ (L.length : Int) - fl then (⟨fl, L⟩, ⟨7, 0, 0, []⟩) else (⟨fl, L ++ [ofS F]⟩, ⟨0, L.length, fl, []⟩) := rfl
  rw [hR]
  have OS := Lib.hid (fun W h => of_ref FA FC F W hF hx h)
  unfold OfIs at OS
  have X0 := Lib.hid (DpBx.mk0 w 27 34 30 (.int .i64 fl) (.slice A L.length c) (.int .i64 1) (.int .i64 gen) (.slice FA F.length FC) (.int .i64 0) (.slice none 0 0) (.int .i64 0) (.int .i64 0) (.int .i64 0) (.slice none 0 0) (.slice none 0 0) #[.int .i64 0, .int .i64 L.length, .int .i64 fl, .slice none 0 0, .slice none 0 0])
  have hwr : IntKind.i64.wrap ((L.length : Int) - fl) = (L.length : Int) - fl := IntWalk.i64_in _ (by omega)
  generalize ofE F = E at *
  generalize ofS F = s at *
  clear ha hb hv hcap hR
  by_cases hE : E = 0
  · subst hE
    rw [if_neg (by simp)]
    by_cases h32 : 32 ≤ (L.length : Int) - fl
    · rw [if_pos h32]
      go_enter Tryd.func15, Tryd.ntmps15
      go_wp2_with (go_at_call 30; (with_reducible refine (OS.out _ ((HB.out.below X0.out.be).more X0.out.be.size)).mono ?_); rintro e w5 ⟨rfl, hb5⟩; have hbx := X0.out.on hb5; have HBX := Lib.hid hbx; obtain ⟨p0, p1, _, _⟩ := hcells hbx.b2; obtain ⟨m0, m1, m2, m3⟩ := hcells hbx.b4; obtain ⟨q0, q1, q2, q3, q4, q5, q6, q7, q8, q9⟩ := acells hbx.b5; obtain ⟨r0, r1, r2, r3, r4, _⟩ := acells hbx.b7; clear hbx)
      have hX := (HBX.out.set4 (.int .i64 fl) (.slice A L.length c)).all5 (.int .i64 7) (.int .i64 0) (.int .i64 0) (.slice none 0 0) (.slice none 0 0)
      obtain ⟨t0, t1, _⟩ := hcells hX.b4; obtain ⟨s0, s1, s2, s3, s4, _⟩ := acells hX.b5; have hbe := hX.be; have hv := own_below HV.out hbe; refine bodyPost_ret (v := .tuple #[.agg #[.int .i64 fl, .slice A L.length c], .agg #[.int .i64 7, .int .i64 0, .int .i64 0, .slice none 0 0, .slice none 0 0]]) (by simp [results, Tryd.results15, go_sem, t0, t1, s0, s1, s2, s3, s4]) rfl ?_; unfold DoOut; exact ⟨_, _, rfl, hv, World.ownsRow_nil _ _ _ _, hbe⟩
    · rw [if_neg h32]
      obtain ⟨i0, hi0, hz0, hz1, hz2⟩ := info_parts infoStr
      have hm0 : 0 + L.length ≤ maxLen := by unfold maxLen; omega
      have hm3 : (0 + L.length) * 16 ≤ 140737488355328 := by omega
      have hm1 : 0 + L.length + 1 ≤ maxLen := by unfold maxLen; omega
      have hm2 : (0 + L.length + 1) * 16 ≤ 140737488355328 := by omega
      go_enter Tryd.func15, Tryd.ntmps15
      go_wp2_with (go_at_call 30; (with_reducible refine (OS.out _ ((HB.out.below X0.out.be).more X0.out.be.size)).mono ?_); rintro e w5 ⟨rfl, hb5⟩; have hbx := X0.out.on hb5; have HBX := Lib.hid hbx; obtain ⟨p0, p1, _, _⟩ := hcells hbx.b2; obtain ⟨m0, m1, m2, m3⟩ := hcells hbx.b4; obtain ⟨q0, q1, q2, q3, q4, q5, q6, q7, q8, q9⟩ := acells hbx.b5; obtain ⟨r0, r1, r2, r3, r4, _⟩ := acells hbx.b7; clear hbx)
      have OS2 := Lib.hid (own_one' (show (w5.alloc (.cells #[] 9)).heap.size = w5.heap.size + 1 by simp) 9 (.string s))
      have OE3 := Lib.hid (own_empty' (show (w5.alloc (.cells #[.string s] 9)).heap.size = w5.heap.size + 1 by simp) 9 (w.heap.size + 1 + 1 + 1 + 1 + 1) (HBX.out.alloc (.cells #[.string s] 9)).lt)
      go_region_held3 (fun w' => w'.cell? ⟨w.heap.size, 0, none⟩ = some (.int .i64 fl) ∧ w'.cell? ⟨w.heap.size, 1, none⟩ = some (.slice A L.length c) ∧ w'.cell? ⟨w.heap.size + 1 + 1 + 1 + 1, 0, none⟩ = some (.int .i64 0) ∧ w'.cell? ⟨w.heap.size + 1 + 1 + 1 + 1, 1, none⟩ = some (.int .i64 L.length) ∧ w'.cell? ⟨w.heap.size + 1 + 1 + 1 + 1, 2, none⟩ = some (.int .i64 fl) ∧ w'.cell? ⟨w.heap.size + 1 + 1 + 1 + 1, 3, none⟩ = some (.slice none 0 0) ∧ w'.cell? ⟨w.heap.size + 1 + 1 + 1 + 1, 4, none⟩ = some (.slice none 0 0))
        (first | (with_reducible exact HBX.out.drew.s) | (with_reducible exact (HBX.out.alloc (.cells #[.string s] 9)).drew.s) | (with_reducible exact (HBX.out.alloc (.cells #[] 9)).drew.s) | (with_reducible exact ((HBX.out.alloc (.cells #[] 9)).alloc (.cells #[.string s] 9)).drew.s) | (with_reducible exact ((HBX.out.alloc (.cells #[.string s] 9)).alloc (.cells #[] 9)).drew.s) | (with_reducible exact HBX.out.s) | (with_reducible exact (HBX.out.alloc (.cells #[.string s] 9)).s) | (with_reducible exact (HBX.out.alloc (.cells #[] 9)).s) | (with_reducible exact HX6.out.s) | (with_reducible exact (HX6.out.alloc (.cells #[.string s] 9)).s) | (with_reducible exact HX7.out.s) | (with_reducible exact (HX7.out.set4 (.int .i64 fl) (.slice A7 (L.length + 1) c7)).s) | (with_reducible exact (HX7.out.all5 (.int .i64 0) (.int .i64 L.length) (.int .i64 fl) (.slice none 0 0) (.slice none 0 0)).s) | (with_reducible exact ((HX7.out.set4 (.int .i64 fl) (.slice A7 (L.length + 1) c7)).all5 (.int .i64 0) (.int .i64 L.length) (.int .i64 fl) (.slice none 0 0) (.slice none 0 0)).s) | (with_reducible exact ((HX7.out.all5 (.int .i64 0) (.int .i64 L.length) (.int .i64 fl) (.slice none 0 0) (.slice none 0 0)).set4 (.int .i64 fl) (.slice A7 (L.length + 1) c7)).s) | (fail))
        (first
        | ((with_reducible refine at_p (HBX.out.alloc (.cells #[] 9)).drew ?_); refine step_append_arr rfl (.tmp 43) (.tmp 45) 23 rfl Tryd.underlying23 hi0 hz0 hz1 hz2 rfl (by decide) (own_dr (own_empty w5 9 1 (w.heap.size + 1 + 1 + 1 + 1 + 1) HBX.out.lt)) rfl ((HA.out.below (HBX.out.alloc (.cells #[] 9)).drew.be).more (HBX.out.alloc (.cells #[] 9)).drew.be.size) rfl str_ones hm0 hm3 (HBX.out.alloc (.cells #[] 9)).drew.lt ?_; intro v6 w6 hown6 hgr6 hat6; have HX6 := Lib.hid ((HBX.out.alloc (.cells #[] 9)).drew.grown hgr6 (fun k hk => (((own_dr (own_empty w5 9 1 (w.heap.size + 1 + 1 + 1 + 1 + 1) HBX.out.lt))).lt k hk).1)); have HO6 := Lib.hid hown6; clear hown6; have hbx := HX6.out; obtain ⟨p0, p1, _, _⟩ := hcells hbx.b2; obtain ⟨m0, m1, m2, m3⟩ := hcells hbx.b4; obtain ⟨q0, q1, q2, q3, q4, q5, q6, q7, q8, q9⟩ := acells hbx.b5; obtain ⟨r0, r1, r2, r3, r4, _⟩ := acells hbx.b7; clear hbx)
        | ((with_reducible refine at_p ((HBX.out.alloc (.cells #[] 9)).alloc (.cells #[.string s] 9)).drew ?_); refine step_append_arr rfl (.tmp 43) (.tmp 45) 23 rfl Tryd.underlying23 hi0 hz0 hz1 hz2 rfl (by decide) (own_dr ((own_empty w5 9 1 (w.heap.size + 1 + 1 + 1 + 1 + 1) HBX.out.lt).alloc (.cells #[.string s] 9))) rfl ((HA.out.below ((HBX.out.alloc (.cells #[] 9)).alloc (.cells #[.string s] 9)).drew.be).more ((HBX.out.alloc (.cells #[] 9)).alloc (.cells #[.string s] 9)).drew.be.size) rfl str_ones hm0 hm3 ((HBX.out.alloc (.cells #[] 9)).alloc (.cells #[.string s] 9)).drew.lt ?_; intro v6 w6 hown6 hgr6 hat6; have HX6 := Lib.hid (((HBX.out.alloc (.cells #[] 9)).alloc (.cells #[.string s] 9)).drew.grown hgr6 (fun k hk => (((own_dr ((own_empty w5 9 1 (w.heap.size + 1 + 1 + 1 + 1 + 1) HBX.out.lt).alloc (.cells #[.string s] 9)))).lt k hk).1)); have HO6 := Lib.hid hown6; have HS6 := Lib.hid (World.ownsRow.kept (own_dr OS2.out) hgr6 (.inr (by simp [Value.ownBlock]))); clear hown6; have hbx := HX6.out; obtain ⟨p0, p1, _, _⟩ := hcells hbx.b2; obtain ⟨m0, m1, m2, m3⟩ := hcells hbx.b4; obtain ⟨q0, q1, q2, q3, q4, q5, q6, q7, q8, q9⟩ := acells hbx.b5; obtain ⟨r0, r1, r2, r3, r4, _⟩ := acells hbx.b7; clear hbx)
        | ((with_reducible refine at_p ((HBX.out.alloc (.cells #[.string s] 9)).alloc (.cells #[] 9)).drew ?_); refine step_append_arr rfl (.tmp 43) (.tmp 45) 23 rfl Tryd.underlying23 hi0 hz0 hz1 hz2 rfl (by decide) (own_dr OE3.out) rfl ((HA.out.below ((HBX.out.alloc (.cells #[.string s] 9)).alloc (.cells #[] 9)).drew.be).more ((HBX.out.alloc (.cells #[.string s] 9)).alloc (.cells #[] 9)).drew.be.size) rfl str_ones hm0 hm3 ((HBX.out.alloc (.cells #[.string s] 9)).alloc (.cells #[] 9)).drew.lt ?_; intro v6 w6 hown6 hgr6 hat6; have HX6 := Lib.hid (((HBX.out.alloc (.cells #[.string s] 9)).alloc (.cells #[] 9)).drew.grown hgr6 (fun k hk => (((own_dr OE3.out)).lt k hk).1)); have HO6 := Lib.hid hown6; have HS6 := Lib.hid (World.ownsRow.kept (own_dr ((own_one w5 9 (.string s)).alloc (.cells #[] 9))) hgr6 (.inr (by simp [Value.ownBlock]))); clear hown6; have hbx := HX6.out; obtain ⟨p0, p1, _, _⟩ := hcells hbx.b2; obtain ⟨m0, m1, m2, m3⟩ := hcells hbx.b4; obtain ⟨q0, q1, q2, q3, q4, q5, q6, q7, q8, q9⟩ := acells hbx.b5; obtain ⟨r0, r1, r2, r3, r4, _⟩ := acells hbx.b7; clear hbx)
        | ((with_reducible refine at_p HX6.out ?_); refine step_append_arr rfl (.tmp 46) (.tmp 48) 23 rfl Tryd.underlying23 hi0 hz0 hz1 hz2 rfl (by decide) HO6.out rfl (own_slice HS6.out) rfl str_one1 hm1 hm2 HX6.out.lt ?_; intro v7 w7 hown7 hgr7 hat7; obtain ⟨A7, c7, rfl, hcap7, _, _⟩ := own_arr hown7; have HX7 := Lib.hid (HX6.out.grown hgr7 (fun k hk => ((HO6.out).lt k hk).1)); have HO7 := Lib.hid hown7; clear hown7; have hby := HX7.out; obtain ⟨p0', p1', _, _⟩ := hcells hby.b2; obtain ⟨m0', m1', m2', m3'⟩ := hcells hby.b4; obtain ⟨q0', q1', q2', q3', q4', q5', q6', q7', q8', q9'⟩ := acells hby.b5; obtain ⟨r0', r1', r2', r3', r4', _⟩ := acells hby.b7; clear hby)
        | ((with_reducible refine at_p (HX6.out.alloc (.cells #[.string s] 9)) ?_); refine step_append_arr rfl (.tmp 46) (.tmp 48) 23 rfl Tryd.underlying23 hi0 hz0 hz1 hz2 rfl (by decide) (HO6.out.alloc (.cells #[.string s] 9)) rfl (own_slice (own_one w6 9 (.string s))) rfl str_one1 hm1 hm2 (HX6.out.alloc (.cells #[.string s] 9)).lt ?_; intro v7 w7 hown7 hgr7 hat7; obtain ⟨A7, c7, rfl, hcap7, _, _⟩ := own_arr hown7; have HX7 := Lib.hid ((HX6.out.alloc (.cells #[.string s] 9)).grown hgr7 (fun k hk => (((HO6.out.alloc (.cells #[.string s] 9))).lt k hk).1)); have HO7 := Lib.hid hown7; clear hown7; have hby := HX7.out; obtain ⟨p0', p1', _, _⟩ := hcells hby.b2; obtain ⟨m0', m1', m2', m3'⟩ := hcells hby.b4; obtain ⟨q0', q1', q2', q3', q4', q5', q6', q7', q8', q9'⟩ := acells hby.b5; obtain ⟨r0', r1', r2', r3', r4', _⟩ := acells hby.b7; clear hby)
        | (fail))
      all_goals
        go_wp2
        have hX := (HX7.out.set4 (.int .i64 fl) (.slice A7 (L.length + 1) c7)).all5 (.int .i64 0) (.int .i64 L.length) (.int .i64 fl) (.slice none 0 0) (.slice none 0 0)
        obtain ⟨t0, t1, _⟩ := hcells hX.b4; obtain ⟨s0, s1, s2, s3, s4, _⟩ := acells hX.b5
        have hbe := hX.be
        have HO7' := HO7.out
        simp only [Nat.zero_add, List.nil_append] at HO7'
        have ho := own_mono (own_set5 (own_set4 HO7' (own_ne HO7' (show w.heap.size + 1 + 1 < w.heap.size + 1 + 1 + 1 + 1 + 1 by omega)) (.int .i64 fl) (.slice A7 (L.length + 1) c7)) (own_ne HO7' (show w.heap.size + 1 + 1 + 1 < w.heap.size + 1 + 1 + 1 + 1 + 1 by omega)) (.int .i64 0) (.int .i64 L.length) (.int .i64 fl) (.slice none 0 0) (.slice none 0 0)) (Nat.zero_le _)
        rw [show L.map Value.string ++ [Value.string s] = (L ++ [s]).map Value.string by simp] at ho
        refine bodyPost_ret (v := .tuple #[.agg #[.int .i64 fl, .slice A7 (L.length + 1) c7], .agg #[.int .i64 0, .int .i64 L.length, .int .i64 fl, .slice none 0 0, .slice none 0 0]]) (by simp [results, Tryd.results15, go_sem, t0, t1, s0, s1, s2, s3, s4]) rfl ?_
        unfold DoOut
        refine ⟨_, _, rfl, ?_, World.ownsRow_nil _ _ _ _, hbe⟩
        show World.ownsRow _ _ _ _ _ (L ++ [s]).length _
        rw [List.length_append]
        exact ho
  · rw [if_pos hE]
    have g0 : (E != 0) = true := by simp [hE]
    have g1 : (E == 0) = false := by rw [beq_eq_false_iff_ne]; exact hE
    go_enter Tryd.func15, Tryd.ntmps15
    go_wp2_with (go_at_call 30; (with_reducible refine (OS.out _ ((HB.out.below X0.out.be).more X0.out.be.size)).mono ?_); rintro e w5 ⟨rfl, hb5⟩; have hbx := X0.out.on hb5; have HBX := Lib.hid hbx; obtain ⟨p0, p1, _, _⟩ := hcells hbx.b2; obtain ⟨m0, m1, m2, m3⟩ := hcells hbx.b4; obtain ⟨q0, q1, q2, q3, q4, q5, q6, q7, q8, q9⟩ := acells hbx.b5; obtain ⟨r0, r1, r2, r3, r4, _⟩ := acells hbx.b7; clear hbx)
    have hX := (HBX.out.set4 (.int .i64 fl) (.slice A L.length c)).all5 (.int .i64 E) (.int .i64 0) (.int .i64 0) (.slice none 0 0) (.slice none 0 0)
    obtain ⟨t0, t1, _⟩ := hcells hX.b4; obtain ⟨s0, s1, s2, s3, s4, _⟩ := acells hX.b5; have hbe := hX.be; have hv := own_below HV.out hbe; refine bodyPost_ret (v := .tuple #[.agg #[.int .i64 fl, .slice A L.length c], .agg #[.int .i64 E, .int .i64 0, .int .i64 0, .slice none 0 0, .slice none 0 0]]) (by simp [results, Tryd.results15, go_sem, t0, t1, s0, s1, s2, s3, s4]) rfl ?_; unfold DoOut; exact ⟨_, _, rfl, hv, World.ownsRow_nil _ _ _ _, hbe⟩
theorem dp_any (fl kind gen : Int) (V : Value) (L : List ByteArray) (FA : Option Addr) (FC : Nat) (F : List FileD) (w : World) (hs : ∀ s ∈ L, s.size ≤ 9223372036854775807) (hl : L.length ≤ 1048575) (hf0 : 0 ≤ fl) (hf1 : fl ≤ L.length) (hF : F.length ≤ 8796093022208) (hx : ∀ f ∈ F, FOk f) (hv : w.ownsRow 0 9 1 V L.length (L.map Value.string)) (hb : Arr w w.heap.size 3 FA F.length (fcells F)) (hm : Ml w) :
    Calls Tryd.prog 15 #[.agg #[.int .i64 fl, V], .agg #[.int .i64 kind, .int .i64 gen, .slice FA F.length FC]] w (DoOut w (doP ⟨fl, L⟩ ⟨kind, gen, F⟩)) := by
  by_cases k1 : kind = 1
  · subst k1
    exact dp_backup fl gen V L FA FC F w hs hl hf0 hf1 hF hx hv hb hm
  · by_cases k5 : kind = 5
    · subst k5
      exact dp_prune fl gen V L FA FC F w hs hl hf0 hf1 hF hx hv hb hm
    · exact dp_rest fl kind gen V L FA FC F w hs hl hf0 hf1 hF hx k1 k5 hv hb hm
end Go.Proofs.YtakdngcgjahafaaDoor
