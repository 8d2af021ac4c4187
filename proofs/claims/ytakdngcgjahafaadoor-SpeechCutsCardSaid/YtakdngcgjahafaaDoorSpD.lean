/- Chapter 22: speech.Do: prunes and backups.; Chapter 22: speech.Do: a backup that is kept. -/
import Derived.Test.YtakdngcgjahafaaDoorSp2
import Derived.Deep.RegionHeld3
/- Chapter 22: speech.Do: prunes and backups. -/
namespace Go.Proofs.YtakdngcgjahafaaDoor
open Go.RowKit
set_option linter.unusedVariables false

set_option maxHeartbeats 2000000 in
set_option maxRecDepth 100000 in
theorem do_prune (fl gen : Int) (V : Value) (L : List ByteArray) (FA : Option Addr) (FC : Nat) (F : List FileD) (w : World) (hs : ∀ s ∈ L, s.size ≤ 9223372036854775807) (hl : L.length ≤ 1048575) (hf0 : 0 ≤ fl) (hf1 : fl ≤ L.length) (hF : F.length ≤ 8796093022208) (hx : ∀ f ∈ F, FOk f) {b0 : Nat} (hv : w.ownsRow b0 9 1 V L.length (L.map Value.string)) (hb : Arr w w.heap.size 3 FA F.length (fcells F)) (hm : Ml w) (hb0 : b0 ≤ w.heap.size) :
    Calls Tryd.prog 14 #[.agg #[.int .i64 fl, V], .agg #[.int .i64 5, .int .i64 gen, .slice FA F.length FC]] w (DoOutB b0 w (doP ⟨fl, L⟩ ⟨5, gen, F⟩)) := by
  obtain ⟨A, c, rfl, hcap, ha, _⟩ := own_arr hv
  have HV := Lib.hid hv
  clear ha hb hv hcap
  by_cases g0 : gen < 0
  · rw [show doP ⟨fl, L⟩ ⟨5, gen, F⟩ = (⟨fl, L⟩, ⟨2, 0, 0, []⟩) by unfold doP; simp [g0]]
    have hX := DoBx.mk0 w 25 34 30 (.int .i64 fl) (.slice A L.length c) (.int .i64 5) (.int .i64 gen) (.slice FA F.length FC) (.int .i64 fl) (.slice A L.length c) (.int .i64 2) (.int .i64 0) (.int .i64 0) (.slice none 0 0) (.slice none 0 0)
    go_enter Tryd.func14, Tryd.ntmps14
    go_wp2
    obtain ⟨t0, t1, _⟩ := hcells hX.b4; obtain ⟨s0, s1, s2, s3, s4, _⟩ := acells hX.b5; have hbe := hX.be; have hv := own_below HV.out hbe; refine bodyPost_ret (v := .tuple #[.agg #[.int .i64 fl, .slice A L.length c], .agg #[.int .i64 2, .int .i64 0, .int .i64 0, .slice none 0 0, .slice none 0 0]]) (by simp [results, Tryd.results14, go_sem, t0, t1, s0, s1, s2, s3, s4]) rfl ?_; unfold DoOutB; exact ⟨_, _, rfl, hv, World.ownsRow_nil _ _ _ _, hbe⟩
  · by_cases g1 : gen ≤ fl
    · rw [show doP ⟨fl, L⟩ ⟨5, gen, F⟩ = (⟨fl, L⟩, ⟨0, L.length, fl, []⟩) by unfold doP; simp [g0, g1]]
      have hX := DoBx.mk0 w 25 34 30 (.int .i64 fl) (.slice A L.length c) (.int .i64 5) (.int .i64 gen) (.slice FA F.length FC) (.int .i64 fl) (.slice A L.length c) (.int .i64 0) (.int .i64 L.length) (.int .i64 fl) (.slice none 0 0) (.slice none 0 0)
      go_enter Tryd.func14, Tryd.ntmps14
      go_wp2
      go_region
      all_goals
        go_wp2
        have hX := hX.drew
        obtain ⟨t0, t1, _⟩ := hcells hX.b4; obtain ⟨s0, s1, s2, s3, s4, _⟩ := acells hX.b5; have hbe := hX.be; have hv := own_below HV.out hbe; refine bodyPost_ret (v := .tuple #[.agg #[.int .i64 fl, .slice A L.length c], .agg #[.int .i64 0, .int .i64 L.length, .int .i64 fl, .slice none 0 0, .slice none 0 0]]) (by simp [results, Tryd.results14, go_sem, t0, t1, s0, s1, s2, s3, s4]) rfl ?_; unfold DoOutB; exact ⟨_, _, rfl, hv, World.ownsRow_nil _ _ _ _, hbe⟩
    · by_cases g2 : (L.length : Int) ≤ gen
      · rw [show doP ⟨fl, L⟩ ⟨5, gen, F⟩ = (⟨fl, L⟩, ⟨2, 0, 0, []⟩) by unfold doP; simp [g0, g1, g2]]
        have hX := DoBx.mk0 w 25 34 30 (.int .i64 fl) (.slice A L.length c) (.int .i64 5) (.int .i64 gen) (.slice FA F.length FC) (.int .i64 fl) (.slice A L.length c) (.int .i64 2) (.int .i64 0) (.int .i64 0) (.slice none 0 0) (.slice none 0 0)
        go_enter Tryd.func14, Tryd.ntmps14
        go_wp2
        obtain ⟨t0, t1, _⟩ := hcells hX.b4; obtain ⟨s0, s1, s2, s3, s4, _⟩ := acells hX.b5; have hbe := hX.be; have hv := own_below HV.out hbe; refine bodyPost_ret (v := .tuple #[.agg #[.int .i64 fl, .slice A L.length c], .agg #[.int .i64 2, .int .i64 0, .int .i64 0, .slice none 0 0, .slice none 0 0]]) (by simp [results, Tryd.results14, go_sem, t0, t1, s0, s1, s2, s3, s4]) rfl ?_; unfold DoOutB; exact ⟨_, _, rfl, hv, World.ownsRow_nil _ _ _ _, hbe⟩
      · rw [show doP ⟨fl, L⟩ ⟨5, gen, F⟩ = (⟨gen, L⟩, ⟨0, L.length, gen, []⟩) by unfold doP; simp [g0, g1, g2]]
        have hX := DoBx.mk0 w 25 34 30 (.int .i64 fl) (.slice A L.length c) (.int .i64 5) (.int .i64 gen) (.slice FA F.length FC) (.int .i64 gen) (.slice A L.length c) (.int .i64 0) (.int .i64 L.length) (.int .i64 gen) (.slice none 0 0) (.slice none 0 0)
        go_enter Tryd.func14, Tryd.ntmps14
        go_wp2
        go_region
        all_goals
          go_wp2
          have hX := hX.drew
          obtain ⟨t0, t1, _⟩ := hcells hX.b4; obtain ⟨s0, s1, s2, s3, s4, _⟩ := acells hX.b5; have hbe := hX.be; have hv := own_below HV.out hbe; refine bodyPost_ret (v := .tuple #[.agg #[.int .i64 gen, .slice A L.length c], .agg #[.int .i64 0, .int .i64 L.length, .int .i64 gen, .slice none 0 0, .slice none 0 0]]) (by simp [results, Tryd.results14, go_sem, t0, t1, s0, s1, s2, s3, s4]) rfl ?_; unfold DoOutB; exact ⟨_, _, rfl, hv, World.ownsRow_nil _ _ _ _, hbe⟩
end Go.Proofs.YtakdngcgjahafaaDoor
/- Chapter 22: speech.Do: a backup that is kept. -/
namespace Go.Proofs.YtakdngcgjahafaaDoor
open Go.RowKit
set_option linter.unusedVariables false

/-- append of any slice onto a row of the call's own, as one step of a region that draws. -/
theorem step_append_arr {P : Program} {ops : Array Oper} {o : Oper} {a : Act} {w : World} {K : Act → World → Prop} {Q : Exit → Act → World → Prop} {E : Prop}
    (hg : o.guard = none) (s x : Operand) (t : TypeId) (ho : o.op = Op.call { callee := Callee.builtin Builtin.append, args := #[s, x], argTypes := #[t, t] })
    {base : Nat} {e : TypeId} {i : TypeInfo} {z : Value} {size bytes : Nat} (ht : P.underlying t = some (.slice e)) (hi : P.info? e = some i) (hz : i.zero = some z) (hsize : i.size = size) (hby : i.bytes = bytes) (hzs : z.cells.size = size) (hsz : 0 < size)
    {v : Value} {n : Nat} {xs : List Value} (hown : w.ownsRow base e size v n xs) (hs : a.eval s = v)
    {B : Nat} {A : Option Addr} {m c : Nat} {news : List Value} (hr : Arr w B size A m news) (hx : a.eval x = .slice A m c) (h1 : ∀ u ∈ news, u.oneCell' = true)
    (h63 : n + m ≤ maxLen) (hbytes : (n + m) * bytes ≤ 140737488355328) (hbase : base ≤ w.heap.size)
    (h : ∀ v' w', w'.ownsRow base e size v' (n + m) (xs ++ news) → w.grownBy w' v.ownBlock → (v'.ownBlock = v.ownBlock ∨ v'.ownBlock = some w.heap.size) → K (a.put o.dst v') w') :
    if Region.wanted o (yielded ops a.tmps) = true then Oper.wp P o a w K Q else E := by
  have hw : Region.wanted o (yielded ops a.tmps) = true := by simp [Region.wanted, hg]
  rw [if_pos hw]
  obtain ⟨v', w', hrun, h2, h3, h4⟩ := run_append_arr (P := P) w base t o.type e i z size bytes ht hi hz hsize hby hzs hsz v n xs hown B A m c news hr h1 h63 hbytes hbase
  unfold Oper.wp execOp
  simp only [ho, resolve, invoke, builtin, Sem.run_bind, Sem.run_pure, Result.andThen_ok, List.map_toArray, List.map_cons, List.map_nil, hs, hx, hrun]
  exact h v' w' h2 h3 h4
theorem own_one (w : World) (e : TypeId) (u : Value) : (w.alloc (.cells #[u] e)).ownsRow w.heap.size e 1 (.slice (some ⟨w.heap.size, 0, none⟩) 1 1) 1 [u] := World.ownsRow_lit w #[u] 1 (Nat.le_refl _) (by simp [maxLen]) (by simp)
theorem own_dr {w : World} {base : Nat} {e : TypeId} {size n : Nat} {v : Value} {xs : List Value} (h : w.ownsRow base e size v n xs) : w.drew.ownsRow base e size v n xs := h
theorem DoBx.alloc {w W : World} {L R : TypeId} {fl x u v a b c d e : Value} (h : DoBx w W L R fl x u v a b c d e) (o : Obj) : DoBx w (W.alloc o) L R fl x u v a b c d e := h.on ((Below.refl _ _).alloc (Nat.le_refl _) _)
theorem DoBx.grown {w W W' : World} {L R : TypeId} {fl x u v a b c d e : Value} {row : Option Nat} (h : DoBx w W L R fl x u v a b c d e) (g : W.grownBy W' row) (hr : ∀ k, row = some k → w.heap.size + 1 + 1 + 1 < k) : DoBx w W' L R fl x u v a b c d e :=
  ⟨h.b2.grown g (fun e => by have := hr _ e.symm; omega), h.b4.grown g (fun e => by have := hr _ e.symm; omega), h.b5.grown g (fun e => by have := hr _ e.symm; omega), Nat.lt_of_lt_of_le h.lt g.size, h.be.grown g h.be.size (fun j hj => by have := hr _ hj; omega)⟩
theorem at_w {P : Program} {ops : Array Oper} {o : Oper} {a : Act} {w W : World} {K : Act → World → Prop} {Q : Exit → Act → World → Prop} {E : Prop} {L R : TypeId} {fl x u v y b c d e : Value} (_ : DoBx w W L R fl x u v y b c d e)
    (h : if Region.wanted o (yielded ops a.tmps) = true then Oper.wp P o a W K Q else E) : if Region.wanted o (yielded ops a.tmps) = true then Oper.wp P o a W K Q else E := h
theorem DoBx.s {w W : World} {L R : TypeId} {fl x u v a b c d e : Value} (h : DoBx w W L R fl x u v a b c d e) : W.cell? ⟨w.heap.size, 0, none⟩ = some fl ∧ W.cell? ⟨w.heap.size, 1, none⟩ = some x := ⟨h.b2.cell 0, h.b2.cell 1⟩
theorem own_new {s : ByteArray} {W : World} {g : Nat} (h : g < W.heap.size) : (Value.slice (some ⟨W.heap.size, 0, none⟩) 1 1).ownBlock ≠ some g := fun e => by
  have : some W.heap.size = some g := e
  injection this with this
  omega
theorem str_one1 {s : ByteArray} : ∀ u ∈ [Value.string s], u.oneCell' = true := by simp [Value.oneCell']
set_option maxHeartbeats 16000000 in
set_option maxRecDepth 100000 in
theorem do_backup (fl gen : Int) (V : Value) (L : List ByteArray) (FA : Option Addr) (FC : Nat) (F : List FileD) (w : World) (hs : ∀ s ∈ L, s.size ≤ 9223372036854775807) (hl : L.length ≤ 1048575) (hf0 : 0 ≤ fl) (hf1 : fl ≤ L.length) (hF : F.length ≤ 8796093022208) (hx : ∀ f ∈ F, FOk f) {b0 : Nat} (hv : w.ownsRow b0 9 1 V L.length (L.map Value.string)) (hb : Arr w w.heap.size 3 FA F.length (fcells F)) (hm : Ml w) (hb0 : b0 ≤ w.heap.size) :
    Calls Tryd.prog 14 #[.agg #[.int .i64 fl, V], .agg #[.int .i64 1, .int .i64 gen, .slice FA F.length FC]] w (DoOutB b0 w (doP ⟨fl, L⟩ ⟨1, gen, F⟩)) := by
  obtain ⟨A, c, rfl, hcap, ha, _⟩ := own_arr hv
  have HV := Lib.hid hv
  have HA := Lib.hid ha
  have HB := Lib.hid hb
  have hR : doP ⟨fl, L⟩ ⟨1, gen, F⟩ = if ofE F ≠ 0 then (⟨fl, L⟩, ⟨ofE F, 0, 0, []⟩) else if 32 ≤ (L.length : Int) - fl then (⟨fl, L⟩, ⟨7, 0, 0, []⟩) else (⟨fl, L ++ [ofS F]⟩, ⟨0, L.length, fl, []⟩) := rfl
  rw [hR]
  have OS := Lib.hid (fun W h hm' => of_any FA FC F W hF hx h hm')
  unfold OfIs at OS
  have X0 := Lib.hid (DoBx.mk0 w 25 34 30 (.int .i64 fl) (.slice A L.length c) (.int .i64 1) (.int .i64 gen) (.slice FA F.length FC) (.int .i64 0) (.slice none 0 0) (.int .i64 0) (.int .i64 0) (.int .i64 0) (.slice none 0 0) (.slice none 0 0))
  have hwr : IntKind.i64.wrap ((L.length : Int) - fl) = (L.length : Int) - fl := IntWalk.i64_in _ (by omega)
  generalize ofE F = E at *
  generalize ofS F = s at *
  clear ha hb hv hcap hR
  by_cases hE : E = 0
  · subst hE
    rw [if_neg (by simp)]
    by_cases h32 : 32 ≤ (L.length : Int) - fl
    · rw [if_pos h32]
      go_enter Tryd.func14, Tryd.ntmps14
      go_wp2_with (go_at_call 35; (with_reducible refine (OS.out _ ((HB.out.below X0.out.be).more X0.out.be.size) (hm.on X0.out.be)).mono ?_); rintro e w5 ⟨rfl, hb5⟩; have hbx := X0.out.on hb5; have HBX := Lib.hid hbx; obtain ⟨p0, p1, _, _⟩ := hcells hbx.b2; obtain ⟨m0, m1, m2, m3⟩ := hcells hbx.b4; obtain ⟨q0, q1, q2, q3, q4, q5, q6, q7, q8, q9⟩ := acells hbx.b5; clear hbx)
      have hX := (HBX.out.set4 (.int .i64 fl) (.slice A L.length c)).all5 (.int .i64 7) (.int .i64 0) (.int .i64 0) (.slice none 0 0) (.slice none 0 0)
      obtain ⟨t0, t1, _⟩ := hcells hX.b4; obtain ⟨s0, s1, s2, s3, s4, _⟩ := acells hX.b5; have hbe := hX.be; have hv := own_below HV.out hbe; refine bodyPost_ret (v := .tuple #[.agg #[.int .i64 fl, .slice A L.length c], .agg #[.int .i64 7, .int .i64 0, .int .i64 0, .slice none 0 0, .slice none 0 0]]) (by simp [results, Tryd.results14, go_sem, t0, t1, s0, s1, s2, s3, s4]) rfl ?_; unfold DoOutB; exact ⟨_, _, rfl, hv, World.ownsRow_nil _ _ _ _, hbe⟩
    · rw [if_neg h32]
      obtain ⟨i0, hi0, hz0, hz1, hz2⟩ := info_parts infoStr
      have CL := Lib.hid (fun W h => clone_str A c L W (by omega) h)
      have hm1 : L.length + 1 ≤ maxLen := by unfold maxLen; omega
      have hm2 : (L.length + 1) * 16 ≤ 140737488355328 := by omega
      go_enter Tryd.func14, Tryd.ntmps14
      go_wp2_with (go_at_call 35; (with_reducible refine (OS.out _ ((HB.out.below X0.out.be).more X0.out.be.size) (hm.on X0.out.be)).mono ?_); rintro e w5 ⟨rfl, hb5⟩; have hbx := X0.out.on hb5; have HBX := Lib.hid hbx; obtain ⟨p0, p1, _, _⟩ := hcells hbx.b2; obtain ⟨m0, m1, m2, m3⟩ := hcells hbx.b4; obtain ⟨q0, q1, q2, q3, q4, q5, q6, q7, q8, q9⟩ := acells hbx.b5; clear hbx)
      have HNS5 := Lib.hid (own_new (s := s) HBX.out.lt)
      go_region_held3 (fun w' => w'.cell? ⟨w.heap.size, 0, none⟩ = some (.int .i64 fl) ∧ w'.cell? ⟨w.heap.size, 1, none⟩ = some (.slice A L.length c))
        (first | (with_reducible exact HBX.out.drew.s) | (with_reducible exact (HBX.out.alloc (.cells #[.string s] 9)).drew.s) | (with_reducible exact (HBX.out.all5 (.int .i64 0) (.int .i64 L.length) (.int .i64 fl) (.slice none 0 0) (.slice none 0 0)).drew.s) | (with_reducible exact ((HBX.out.alloc (.cells #[.string s] 9)).all5 (.int .i64 0) (.int .i64 L.length) (.int .i64 fl) (.slice none 0 0) (.slice none 0 0)).drew.s) | (with_reducible exact ((HBX.out.all5 (.int .i64 0) (.int .i64 L.length) (.int .i64 fl) (.slice none 0 0) (.slice none 0 0)).alloc (.cells #[.string s] 9)).drew.s) | (with_reducible exact HBX.out.s) | (with_reducible exact (HBX.out.alloc (.cells #[.string s] 9)).s) | (with_reducible exact (HBX.out.all5 (.int .i64 0) (.int .i64 L.length) (.int .i64 fl) (.slice none 0 0) (.slice none 0 0)).s) | (with_reducible exact ((HBX.out.alloc (.cells #[.string s] 9)).all5 (.int .i64 0) (.int .i64 L.length) (.int .i64 fl) (.slice none 0 0) (.slice none 0 0)).s) | (with_reducible exact ((HBX.out.all5 (.int .i64 0) (.int .i64 L.length) (.int .i64 fl) (.slice none 0 0) (.slice none 0 0)).alloc (.cells #[.string s] 9)).s) | (with_reducible exact HX6.out.s) | (with_reducible exact (HX6.out.all5 (.int .i64 0) (.int .i64 L.length) (.int .i64 fl) (.slice none 0 0) (.slice none 0 0)).s) | (with_reducible exact (HX6.out.alloc (.cells #[.string s] 9)).s) | (with_reducible exact ((HX6.out.alloc (.cells #[.string s] 9)).all5 (.int .i64 0) (.int .i64 L.length) (.int .i64 fl) (.slice none 0 0) (.slice none 0 0)).s) | (with_reducible exact ((HX6.out.all5 (.int .i64 0) (.int .i64 L.length) (.int .i64 fl) (.slice none 0 0) (.slice none 0 0)).alloc (.cells #[.string s] 9)).s) | (with_reducible exact HX7.out.s) | (with_reducible exact (HX7.out.all5 (.int .i64 0) (.int .i64 L.length) (.int .i64 fl) (.slice none 0 0) (.slice none 0 0)).s) | (with_reducible exact (HX7.out.set4 (.int .i64 fl) (.slice A7 (L.length + 1) c7)).s) | (with_reducible exact ((HX7.out.all5 (.int .i64 0) (.int .i64 L.length) (.int .i64 fl) (.slice none 0 0) (.slice none 0 0)).set4 (.int .i64 fl) (.slice A7 (L.length + 1) c7)).s) | (with_reducible exact ((HX7.out.set4 (.int .i64 fl) (.slice A7 (L.length + 1) c7)).all5 (.int .i64 0) (.int .i64 L.length) (.int .i64 fl) (.slice none 0 0) (.slice none 0 0)).s) | (fail))
        (first
        | (go_at_call 36; (with_reducible refine (CL.out _ ((HA.out.below HBX.out.drew.be).more HBX.out.drew.be.size)).mono ?_); rintro e w6 ⟨v6, rfl, hown6, hb6⟩; have HN6 := Lib.hid (own_ne hown6 HBX.out.drew.lt); have HX6 := Lib.hid (HBX.out.drew.on hb6); have HO6 := Lib.hid (own_mono hown6 (base' := w.heap.size + 1 + 1 + 1 + 1) HBX.out.drew.lt); have HNW6 := Lib.hid (own_new (s := s) (W := w6) HX6.out.lt); clear hown6; have hbx := HX6.out; obtain ⟨p0, p1, _, _⟩ := hcells hbx.b2; obtain ⟨m0, m1, m2, m3⟩ := hcells hbx.b4; obtain ⟨q0, q1, q2, q3, q4, q5, q6, q7, q8, q9⟩ := acells hbx.b5; clear hbx)
        | (go_at_call 36; (with_reducible refine (CL.out _ ((HA.out.below (HBX.out.alloc (.cells #[.string s] 9)).drew.be).more (HBX.out.alloc (.cells #[.string s] 9)).drew.be.size)).mono ?_); rintro e w6 ⟨v6, rfl, hown6, hb6⟩; have HN6 := Lib.hid (own_ne hown6 (HBX.out.alloc (.cells #[.string s] 9)).drew.lt); have HX6 := Lib.hid ((HBX.out.alloc (.cells #[.string s] 9)).drew.on hb6); have HO6 := Lib.hid (own_mono hown6 (base' := w.heap.size + 1 + 1 + 1 + 1) (HBX.out.alloc (.cells #[.string s] 9)).drew.lt); have HNW6 := Lib.hid (own_new (s := s) (W := w6) HX6.out.lt); have HS6 := Lib.hid (own_below (own_dr (own_one w5 9 (.string s))) hb6); have HNS6 := Lib.hid (own_new (s := s) HBX.out.lt); clear hown6; have hbx := HX6.out; obtain ⟨p0, p1, _, _⟩ := hcells hbx.b2; obtain ⟨m0, m1, m2, m3⟩ := hcells hbx.b4; obtain ⟨q0, q1, q2, q3, q4, q5, q6, q7, q8, q9⟩ := acells hbx.b5; clear hbx)
        | (go_at_call 36; (with_reducible refine (CL.out _ ((HA.out.below (HBX.out.all5 (.int .i64 0) (.int .i64 L.length) (.int .i64 fl) (.slice none 0 0) (.slice none 0 0)).drew.be).more (HBX.out.all5 (.int .i64 0) (.int .i64 L.length) (.int .i64 fl) (.slice none 0 0) (.slice none 0 0)).drew.be.size)).mono ?_); rintro e w6 ⟨v6, rfl, hown6, hb6⟩; have HN6 := Lib.hid (own_ne hown6 (HBX.out.all5 (.int .i64 0) (.int .i64 L.length) (.int .i64 fl) (.slice none 0 0) (.slice none 0 0)).drew.lt); have HX6 := Lib.hid ((HBX.out.all5 (.int .i64 0) (.int .i64 L.length) (.int .i64 fl) (.slice none 0 0) (.slice none 0 0)).drew.on hb6); have HO6 := Lib.hid (own_mono hown6 (base' := w.heap.size + 1 + 1 + 1 + 1) (HBX.out.all5 (.int .i64 0) (.int .i64 L.length) (.int .i64 fl) (.slice none 0 0) (.slice none 0 0)).drew.lt); have HNW6 := Lib.hid (own_new (s := s) (W := w6) HX6.out.lt); clear hown6; have hbx := HX6.out; obtain ⟨p0, p1, _, _⟩ := hcells hbx.b2; obtain ⟨m0, m1, m2, m3⟩ := hcells hbx.b4; obtain ⟨q0, q1, q2, q3, q4, q5, q6, q7, q8, q9⟩ := acells hbx.b5; clear hbx)
        | (go_at_call 36; (with_reducible refine (CL.out _ ((HA.out.below ((HBX.out.alloc (.cells #[.string s] 9)).all5 (.int .i64 0) (.int .i64 L.length) (.int .i64 fl) (.slice none 0 0) (.slice none 0 0)).drew.be).more ((HBX.out.alloc (.cells #[.string s] 9)).all5 (.int .i64 0) (.int .i64 L.length) (.int .i64 fl) (.slice none 0 0) (.slice none 0 0)).drew.be.size)).mono ?_); rintro e w6 ⟨v6, rfl, hown6, hb6⟩; have HN6 := Lib.hid (own_ne hown6 ((HBX.out.alloc (.cells #[.string s] 9)).all5 (.int .i64 0) (.int .i64 L.length) (.int .i64 fl) (.slice none 0 0) (.slice none 0 0)).drew.lt); have HX6 := Lib.hid (((HBX.out.alloc (.cells #[.string s] 9)).all5 (.int .i64 0) (.int .i64 L.length) (.int .i64 fl) (.slice none 0 0) (.slice none 0 0)).drew.on hb6); have HO6 := Lib.hid (own_mono hown6 (base' := w.heap.size + 1 + 1 + 1 + 1) ((HBX.out.alloc (.cells #[.string s] 9)).all5 (.int .i64 0) (.int .i64 L.length) (.int .i64 fl) (.slice none 0 0) (.slice none 0 0)).drew.lt); have HNW6 := Lib.hid (own_new (s := s) (W := w6) HX6.out.lt); have HS6 := Lib.hid (own_below (own_dr (own_set5 (own_one w5 9 (.string s)) HNS5.out (.int .i64 0) (.int .i64 L.length) (.int .i64 fl) (.slice none 0 0) (.slice none 0 0))) hb6); have HNS6 := Lib.hid (own_new (s := s) HBX.out.lt); clear hown6; have hbx := HX6.out; obtain ⟨p0, p1, _, _⟩ := hcells hbx.b2; obtain ⟨m0, m1, m2, m3⟩ := hcells hbx.b4; obtain ⟨q0, q1, q2, q3, q4, q5, q6, q7, q8, q9⟩ := acells hbx.b5; clear hbx)
        | (go_at_call 36; (with_reducible refine (CL.out _ ((HA.out.below ((HBX.out.all5 (.int .i64 0) (.int .i64 L.length) (.int .i64 fl) (.slice none 0 0) (.slice none 0 0)).alloc (.cells #[.string s] 9)).drew.be).more ((HBX.out.all5 (.int .i64 0) (.int .i64 L.length) (.int .i64 fl) (.slice none 0 0) (.slice none 0 0)).alloc (.cells #[.string s] 9)).drew.be.size)).mono ?_); rintro e w6 ⟨v6, rfl, hown6, hb6⟩; have HN6 := Lib.hid (own_ne hown6 ((HBX.out.all5 (.int .i64 0) (.int .i64 L.length) (.int .i64 fl) (.slice none 0 0) (.slice none 0 0)).alloc (.cells #[.string s] 9)).drew.lt); have HX6 := Lib.hid (((HBX.out.all5 (.int .i64 0) (.int .i64 L.length) (.int .i64 fl) (.slice none 0 0) (.slice none 0 0)).alloc (.cells #[.string s] 9)).drew.on hb6); have HO6 := Lib.hid (own_mono hown6 (base' := w.heap.size + 1 + 1 + 1 + 1) ((HBX.out.all5 (.int .i64 0) (.int .i64 L.length) (.int .i64 fl) (.slice none 0 0) (.slice none 0 0)).alloc (.cells #[.string s] 9)).drew.lt); have HNW6 := Lib.hid (own_new (s := s) (W := w6) HX6.out.lt); have HS6 := Lib.hid (own_below (own_dr (own_one _ 9 (.string s))) hb6); have HNS6 := Lib.hid (own_new (s := s) HBX.out.lt); clear hown6; have hbx := HX6.out; obtain ⟨p0, p1, _, _⟩ := hcells hbx.b2; obtain ⟨m0, m1, m2, m3⟩ := hcells hbx.b4; obtain ⟨q0, q1, q2, q3, q4, q5, q6, q7, q8, q9⟩ := acells hbx.b5; clear hbx)
        | ((with_reducible refine at_w HX6.out ?_); refine step_append_arr rfl (.tmp 38) (.tmp 40) 23 rfl Tryd.underlying23 hi0 hz0 hz1 hz2 rfl (by decide) HO6.out rfl (own_slice HS6.out) rfl str_one1 hm1 hm2 HX6.out.lt ?_; intro v7 w7 hown7 hgr7 hat7; obtain ⟨A7, c7, rfl, hcap7, _, _⟩ := own_arr hown7; have HX7 := Lib.hid (HX6.out.grown hgr7 (fun k hk => ((HO6.out).lt k hk).1)); have HO7 := Lib.hid hown7; clear hown7; have hby := HX7.out; obtain ⟨p0', p1', _, _⟩ := hcells hby.b2; obtain ⟨m0', m1', m2', m3'⟩ := hcells hby.b4; obtain ⟨q0', q1', q2', q3', q4', q5', q6', q7', q8', q9'⟩ := acells hby.b5; clear hby)
        | ((with_reducible refine at_w (HX6.out.all5 (.int .i64 0) (.int .i64 L.length) (.int .i64 fl) (.slice none 0 0) (.slice none 0 0)) ?_); refine step_append_arr rfl (.tmp 38) (.tmp 40) 23 rfl Tryd.underlying23 hi0 hz0 hz1 hz2 rfl (by decide) (own_set5 HO6.out HN6.out (.int .i64 0) (.int .i64 L.length) (.int .i64 fl) (.slice none 0 0) (.slice none 0 0)) rfl (own_slice (own_set5 HS6.out HNS6.out (.int .i64 0) (.int .i64 L.length) (.int .i64 fl) (.slice none 0 0) (.slice none 0 0))) rfl str_one1 hm1 hm2 (HX6.out.all5 (.int .i64 0) (.int .i64 L.length) (.int .i64 fl) (.slice none 0 0) (.slice none 0 0)).lt ?_; intro v7 w7 hown7 hgr7 hat7; obtain ⟨A7, c7, rfl, hcap7, _, _⟩ := own_arr hown7; have HX7 := Lib.hid ((HX6.out.all5 (.int .i64 0) (.int .i64 L.length) (.int .i64 fl) (.slice none 0 0) (.slice none 0 0)).grown hgr7 (fun k hk => (((own_set5 HO6.out HN6.out (.int .i64 0) (.int .i64 L.length) (.int .i64 fl) (.slice none 0 0) (.slice none 0 0))).lt k hk).1)); have HO7 := Lib.hid hown7; clear hown7; have hby := HX7.out; obtain ⟨p0', p1', _, _⟩ := hcells hby.b2; obtain ⟨m0', m1', m2', m3'⟩ := hcells hby.b4; obtain ⟨q0', q1', q2', q3', q4', q5', q6', q7', q8', q9'⟩ := acells hby.b5; clear hby)
        | ((with_reducible refine at_w (HX6.out.alloc (.cells #[.string s] 9)) ?_); refine step_append_arr rfl (.tmp 38) (.tmp 40) 23 rfl Tryd.underlying23 hi0 hz0 hz1 hz2 rfl (by decide) (HO6.out.alloc (.cells #[.string s] 9)) rfl (own_slice (own_one w6 9 (.string s))) rfl str_one1 hm1 hm2 (HX6.out.alloc (.cells #[.string s] 9)).lt ?_; intro v7 w7 hown7 hgr7 hat7; obtain ⟨A7, c7, rfl, hcap7, _, _⟩ := own_arr hown7; have HX7 := Lib.hid ((HX6.out.alloc (.cells #[.string s] 9)).grown hgr7 (fun k hk => (((HO6.out.alloc (.cells #[.string s] 9))).lt k hk).1)); have HO7 := Lib.hid hown7; clear hown7; have hby := HX7.out; obtain ⟨p0', p1', _, _⟩ := hcells hby.b2; obtain ⟨m0', m1', m2', m3'⟩ := hcells hby.b4; obtain ⟨q0', q1', q2', q3', q4', q5', q6', q7', q8', q9'⟩ := acells hby.b5; clear hby)
        | ((with_reducible refine at_w ((HX6.out.alloc (.cells #[.string s] 9)).all5 (.int .i64 0) (.int .i64 L.length) (.int .i64 fl) (.slice none 0 0) (.slice none 0 0)) ?_); refine step_append_arr rfl (.tmp 38) (.tmp 40) 23 rfl Tryd.underlying23 hi0 hz0 hz1 hz2 rfl (by decide) (own_set5 (HO6.out.alloc (.cells #[.string s] 9)) HN6.out (.int .i64 0) (.int .i64 L.length) (.int .i64 fl) (.slice none 0 0) (.slice none 0 0)) rfl (own_slice (own_set5 (own_one w6 9 (.string s)) HNW6.out (.int .i64 0) (.int .i64 L.length) (.int .i64 fl) (.slice none 0 0) (.slice none 0 0))) rfl str_one1 hm1 hm2 ((HX6.out.alloc (.cells #[.string s] 9)).all5 (.int .i64 0) (.int .i64 L.length) (.int .i64 fl) (.slice none 0 0) (.slice none 0 0)).lt ?_; intro v7 w7 hown7 hgr7 hat7; obtain ⟨A7, c7, rfl, hcap7, _, _⟩ := own_arr hown7; have HX7 := Lib.hid (((HX6.out.alloc (.cells #[.string s] 9)).all5 (.int .i64 0) (.int .i64 L.length) (.int .i64 fl) (.slice none 0 0) (.slice none 0 0)).grown hgr7 (fun k hk => (((own_set5 (HO6.out.alloc (.cells #[.string s] 9)) HN6.out (.int .i64 0) (.int .i64 L.length) (.int .i64 fl) (.slice none 0 0) (.slice none 0 0))).lt k hk).1)); have HO7 := Lib.hid hown7; clear hown7; have hby := HX7.out; obtain ⟨p0', p1', _, _⟩ := hcells hby.b2; obtain ⟨m0', m1', m2', m3'⟩ := hcells hby.b4; obtain ⟨q0', q1', q2', q3', q4', q5', q6', q7', q8', q9'⟩ := acells hby.b5; clear hby)
        | ((with_reducible refine at_w ((HX6.out.all5 (.int .i64 0) (.int .i64 L.length) (.int .i64 fl) (.slice none 0 0) (.slice none 0 0)).alloc (.cells #[.string s] 9)) ?_); refine step_append_arr rfl (.tmp 38) (.tmp 40) 23 rfl Tryd.underlying23 hi0 hz0 hz1 hz2 rfl (by decide) ((own_set5 HO6.out HN6.out (.int .i64 0) (.int .i64 L.length) (.int .i64 fl) (.slice none 0 0) (.slice none 0 0)).alloc (.cells #[.string s] 9)) rfl (own_slice (own_one _ 9 (.string s))) rfl str_one1 hm1 hm2 ((HX6.out.all5 (.int .i64 0) (.int .i64 L.length) (.int .i64 fl) (.slice none 0 0) (.slice none 0 0)).alloc (.cells #[.string s] 9)).lt ?_; intro v7 w7 hown7 hgr7 hat7; obtain ⟨A7, c7, rfl, hcap7, _, _⟩ := own_arr hown7; have HX7 := Lib.hid (((HX6.out.all5 (.int .i64 0) (.int .i64 L.length) (.int .i64 fl) (.slice none 0 0) (.slice none 0 0)).alloc (.cells #[.string s] 9)).grown hgr7 (fun k hk => ((((own_set5 HO6.out HN6.out (.int .i64 0) (.int .i64 L.length) (.int .i64 fl) (.slice none 0 0) (.slice none 0 0)).alloc (.cells #[.string s] 9))).lt k hk).1)); have HO7 := Lib.hid hown7; clear hown7; have hby := HX7.out; obtain ⟨p0', p1', _, _⟩ := hcells hby.b2; obtain ⟨m0', m1', m2', m3'⟩ := hcells hby.b4; obtain ⟨q0', q1', q2', q3', q4', q5', q6', q7', q8', q9'⟩ := acells hby.b5; clear hby)
        | (fail))
      all_goals
        go_wp2
        have hX := (HX7.out.set4 (.int .i64 fl) (.slice A7 (L.length + 1) c7)).all5 (.int .i64 0) (.int .i64 L.length) (.int .i64 fl) (.slice none 0 0) (.slice none 0 0)
        obtain ⟨t0, t1, _⟩ := hcells hX.b4; obtain ⟨s0, s1, s2, s3, s4, _⟩ := acells hX.b5
        have hbe := hX.be
        have ho := own_mono (own_set5 (own_set4 HO7.out (own_ne HO7.out (show w.heap.size + 1 + 1 < w.heap.size + 1 + 1 + 1 + 1 by omega)) (.int .i64 fl) (.slice A7 (L.length + 1) c7)) (own_ne HO7.out (show w.heap.size + 1 + 1 + 1 < w.heap.size + 1 + 1 + 1 + 1 by omega)) (.int .i64 0) (.int .i64 L.length) (.int .i64 fl) (.slice none 0 0) (.slice none 0 0)) (Nat.le_trans hb0 (by omega))
        rw [show L.map Value.string ++ [Value.string s] = (L ++ [s]).map Value.string by simp] at ho
        refine bodyPost_ret (v := .tuple #[.agg #[.int .i64 fl, .slice A7 (L.length + 1) c7], .agg #[.int .i64 0, .int .i64 L.length, .int .i64 fl, .slice none 0 0, .slice none 0 0]]) (by simp [results, Tryd.results14, go_sem, t0, t1, s0, s1, s2, s3, s4]) rfl ?_
        unfold DoOutB
        refine ⟨_, _, rfl, ?_, World.ownsRow_nil _ _ _ _, hbe⟩
        show World.ownsRow _ _ _ _ _ (L ++ [s]).length _
        rw [List.length_append]
        exact ho
  · rw [if_pos hE]
    have g0 : (E != 0) = true := by simp [hE]
    have g1 : (E == 0) = false := by rw [beq_eq_false_iff_ne]; exact hE
    go_enter Tryd.func14, Tryd.ntmps14
    go_wp2_with (go_at_call 35; (with_reducible refine (OS.out _ ((HB.out.below X0.out.be).more X0.out.be.size) (hm.on X0.out.be)).mono ?_); rintro e w5 ⟨rfl, hb5⟩; have hbx := X0.out.on hb5; have HBX := Lib.hid hbx; obtain ⟨p0, p1, _, _⟩ := hcells hbx.b2; obtain ⟨m0, m1, m2, m3⟩ := hcells hbx.b4; obtain ⟨q0, q1, q2, q3, q4, q5, q6, q7, q8, q9⟩ := acells hbx.b5; clear hbx)
    have hX := (HBX.out.set4 (.int .i64 fl) (.slice A L.length c)).all5 (.int .i64 E) (.int .i64 0) (.int .i64 0) (.slice none 0 0) (.slice none 0 0)
    obtain ⟨t0, t1, _⟩ := hcells hX.b4; obtain ⟨s0, s1, s2, s3, s4, _⟩ := acells hX.b5; have hbe := hX.be; have hv := own_below HV.out hbe; refine bodyPost_ret (v := .tuple #[.agg #[.int .i64 fl, .slice A L.length c], .agg #[.int .i64 E, .int .i64 0, .int .i64 0, .slice none 0 0, .slice none 0 0]]) (by simp [results, Tryd.results14, go_sem, t0, t1, s0, s1, s2, s3, s4]) rfl ?_; unfold DoOutB; exact ⟨_, _, rfl, hv, World.ownsRow_nil _ _ _ _, hbe⟩
theorem do_anyB (fl kind gen : Int) (V : Value) (L : List ByteArray) (FA : Option Addr) (FC : Nat) (F : List FileD) (w : World) (hs : ∀ s ∈ L, s.size ≤ 9223372036854775807) (hl : L.length ≤ 1048575) (hf0 : 0 ≤ fl) (hf1 : fl ≤ L.length) (hF : F.length ≤ 8796093022208) (hx : ∀ f ∈ F, FOk f) {b0 : Nat} (hv : w.ownsRow b0 9 1 V L.length (L.map Value.string)) (hb : Arr w w.heap.size 3 FA F.length (fcells F)) (hm : Ml w) (hb0 : b0 ≤ w.heap.size) :
    Calls Tryd.prog 14 #[.agg #[.int .i64 fl, V], .agg #[.int .i64 kind, .int .i64 gen, .slice FA F.length FC]] w (DoOutB b0 w (doP ⟨fl, L⟩ ⟨kind, gen, F⟩)) := by
  by_cases k1 : kind = 1
  · subst k1
    exact do_backup fl gen V L FA FC F w hs hl hf0 hf1 hF hx hv hb hm hb0
  · by_cases k5 : kind = 5
    · subst k5
      exact do_prune fl gen V L FA FC F w hs hl hf0 hf1 hF hx hv hb hm hb0
    · exact do_rest fl kind gen V L FA FC F w hs hl hf0 hf1 hF hx k1 k5 hv hb hm hb0
theorem do_any (fl kind gen : Int) (V : Value) (L : List ByteArray) (FA : Option Addr) (FC : Nat) (F : List FileD) (w : World) (hs : ∀ s ∈ L, s.size ≤ 9223372036854775807) (hl : L.length ≤ 1048575) (hf0 : 0 ≤ fl) (hf1 : fl ≤ L.length) (hF : F.length ≤ 8796093022208) (hx : ∀ f ∈ F, FOk f) (hv : w.ownsRow 0 9 1 V L.length (L.map Value.string)) (hb : Arr w w.heap.size 3 FA F.length (fcells F)) (hm : Ml w) :
    Calls Tryd.prog 14 #[.agg #[.int .i64 fl, V], .agg #[.int .i64 kind, .int .i64 gen, .slice FA F.length FC]] w (DoOut w (doP ⟨fl, L⟩ ⟨kind, gen, F⟩)) :=
  (do_anyB fl kind gen V L FA FC F w hs hl hf0 hf1 hF hx hv hb hm (Nat.zero_le _)).mono fun _ _ h => h
end Go.Proofs.YtakdngcgjahafaaDoor
