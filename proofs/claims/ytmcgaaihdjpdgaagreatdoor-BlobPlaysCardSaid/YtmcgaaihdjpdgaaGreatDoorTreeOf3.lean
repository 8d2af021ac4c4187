/- The walk through the reference's Of. -/
import Derived.Test.YtmcgaaihdjpdgaaGreatDoorTreeMix
import Derived.Test.YtmcgaaihdjpdgaaGreatDoorRefRdA
namespace Go.Proofs.YtmcgaaihdjpdgaaGreatDoor
open Go.RowKit
set_option linter.unusedVariables false

theorem qdr_alloc {w : World} {b : Nat} {r : Rd} (h : Qdr w b r) (o : Obj) : Qdr (w.alloc o) b r := Blk.alloc h o
theorem qdr_far {w : World} {b g i : Nat} {r : Rd} {u : Value} (h : Qdr w b r) (hg : b < g) : Qdr (w.setCell ⟨g, i, none⟩ u) b r := Blk.far h (Nat.ne_of_lt hg) u
theorem own_setbox {w : World} {base g i : Nat} {e : TypeId} {size n : Nat} {v u : Value} {xs : List Value} (h : w.ownsRow base e size v n xs) (hg : v.ownBlock ≠ some g) : (w.setCell ⟨g, i, none⟩ u).ownsRow base e size v n xs :=
  ((Fr.refl (fun k => k = g) w).setCell (p := ⟨g, i, none⟩) (.inl rfl) u).own h (fun k hk e => hg (by rw [hk, e]))
theorem own_new_ne {w : World} {base : Nat} {e : TypeId} {size n : Nat} {v : Value} {xs : List Value} (h : w.ownsRow base e size v n xs) : v.ownBlock ≠ some w.heap.size := fun e => Nat.lt_irrefl _ (h.lt _ e).2
theorem some_ne {a b : Nat} (h : b < a) : some a ≠ some b := fun e => by injection e with e; omega

set_option maxHeartbeats 4000000 in
set_option maxRecDepth 100000 in
theorem of_ref (s : ByteArray) (w : World) (hs : s.size ≤ 131072) :
    Calls Tryz.prog 33 #[.string s] w (ItemsOut w (manOf s).2 (manOf s).1) := by
  obtain ⟨i0, gi0, gz0, gz1, gz2⟩ := info_parts infoItem
  have ho0 : (⟨s, 0, 0⟩ : Rd).ok := ⟨Nat.zero_le _, by show s.size ≤ _; omega⟩
  have hct := fun b W h => qcount_any b ⟨s, 0, 0⟩ 256 W h ho0
  have ho1 := rdCount_ok' (m := 256) ho0
  have hs1 := rdCount_s ⟨s, 0, 0⟩ 256
  have hle := rdCount_most_ ⟨s, 0, 0⟩ (m := 256) (by decide)
  unfold manOf
  obtain ⟨N, r0, hx0⟩ : ∃ N r0, rdCount ⟨s, 0, 0⟩ 256 = (N, r0) := ⟨_, _, rfl⟩
  rw [hx0] at hct ho1 hs1 hle ⊢
  simp only [] at hct ho1 hs1 hle ⊢
  have hrs : r0.s.size ≤ 131072 := by rw [hs1]; exact hs
  have HP0 : Hid (0 < N → r0.e = 0) := Lib.hid (fun h => by have := rdCount_pos (r := ⟨s, 0, 0⟩) (m := 256) (by rw [hx0]; exact h); rw [hx0] at this; exact this)
  have HCT := Lib.hid hct
  obtain ⟨E, F, hEF⟩ : ∃ E F, manEnd (manGo N .empty [] r0) = (E, F) := ⟨_, _, rfl⟩
  rw [hEF]
  simp only []
  have HEF : Hid (manEnd (manGo (N - 0) .empty [] r0) = (E, F)) := Lib.hid hEF
  clear hct hs1 hx0 hEF ho0
  go_enter Tryz.func33, Tryz.ntmps33
  have hr1 : Qdr (w.alloc (.cells #[.string s, .int .i64 0, .int .i64 0] 94)) w.heap.size ⟨s, 0, 0⟩ := Blk.new w _ _
  have hb1 : Below w.heap.size w (w.alloc (.cells #[.string s, .int .i64 0, .int .i64 0] 94)) := (Below.refl _ w).alloc (Nat.le_refl _) _
  go_wp2_with (go_at_call 49; (with_reducible refine (HCT.out _ _ hr1).mono ?_); rintro e w2 ⟨rfl, hr2, hg2⟩)
  have hbl : w.heap.size < w2.heap.size := Blk.lt hr2
  have hB2 : Below w.heap.size w w2 := hb1.grown hg2 hb1.size (fun j hj => by injection hj with hj; omega)
  go_loopw [6, 7, 8] (fun vo vl v wr => ∃ (k : Nat) (x : ByteArray) (acc : List ItemD) (r : Rd), k ≤ N ∧ v = .int .i64 k ∧ vl = .string x ∧ wr.ownsRow w2.heap.size 58 4 vo acc.length (icells acc) ∧ acc.length ≤ k ∧ x.size ≤ k * 131072 ∧ Hid (∀ f ∈ acc, IOk f) ∧ Hid (Qdr wr w.heap.size r) ∧ r.ok ∧ r.s.size ≤ 131072 ∧ Hid (manEnd (manGo (N - k) x acc r) = (E, F)) ∧ w2.heap.size ≤ wr.heap.size ∧ Hid (k < N → r.e = 0) ∧ Below w.heap.size w wr) (fun _ _ v _ => N - (intOf v).toNat)
  case atStart => exact ⟨0, ⟨#[]⟩, [], r0, Nat.zero_le _, rfl, rfl, World.ownsRow_nil _ _ _ _, Nat.le_refl _, by decide, Lib.hid (by simp), Lib.hid hr2, ho1, hrs, HEF, Nat.le_refl _, HP0, hB2⟩
  case round =>
    obtain ⟨k, x, acc, r, hk, rfl, rfl, hown, hal, hxs, HI, HR, hok, hrs, H, hzz, HPE, hB⟩ := hrel
    have hbse := hB.size
    have hbl2 : w.heap.size < w2.heap.size := hbl
    have HB0 := HR.out.lt
    by_cases hlt : k < N
    · obtain ⟨n, r1, t, r2, m, r3, z, r4, q, r5, h1, h2, h3, h4, h5, ⟨o1, o2, o3, o4, o5⟩, ⟨l2, l5, l3, l4, l1⟩, hs5⟩ := reads5 r hok
      have hc1 := fun W h => qcount_any w.heap.size r 200 W h hok
      have hc2 := fun W h => qtext_any w.heap.size r1 200 W h o1
      have hc3 := fun W h => qnum_any w.heap.size r2 W h o2
      have hc4 := fun W h => qnum_any w.heap.size r3 W h o3
      have hc5 := fun W h => qraw_any w.heap.size r4 32 W h o4 (by decide) (by decide)
      rw [h1] at hc1
      rw [h2] at hc2
      rw [h3] at hc3
      rw [h4] at hc4
      rw [h5] at hc5
      simp only [] at hc1 hc2 hc3 hc4 hc5
      have HC1 := Lib.hid hc1
      have HC2 := Lib.hid hc2
      have HC3 := Lib.hid hc3
      have HC4 := Lib.hid hc4
      have HC5 := Lib.hid hc5
      have hN : N - k = (N - (k + 1)) + 1 := by omega
      have H2 := H.out
      rw [hN] at H2
      have hstep := fun h0 => (congrArg manEnd (manGo_step (k := N - (k + 1)) (acc := acc) (last := x) h1 h2 h3 h4 h5 h0)).symm.trans H2
      have hstop := fun h0 => (manGo_stop (k := N - (k + 1)) (acc := acc) (last := x) h1 h2 h3 h4 h5 h0).symm.trans H2
      have hR := HR
      have hre := HPE.out hlt
      have hre' : (r.e == 0) = true := by rw [hre]; rfl
      have rc2 : wr.cell? ⟨w.heap.size, 2, none⟩ = some (.int .i64 r.e) := HR.out.c2
      have kN : (k : Int) < N := by omega
      clear hre
      clear hc1 hc2 hc3 hc4 hc5 h1 h2 h3 h4 h5 hN H2 H
      by_cases he : r5.e = 0
      · have he' : (r5.e == 0) = true := by rw [he]; rfl
        by_cases hfar : x.size < n
        · have hst := hstop (by rw [itErr_far he hfar]; decide)
          rw [itErr_far he hfar] at hst
          injection hst with hE hF
          subst hE
          subst hF
          have hf1 : (x.size : Int) < n := by omega
          clear hstep hstop he
          go_wp2_with (first
            | (go_at_call 49; (with_reducible refine (HC1.out _ hR.out).mono ?_); rintro e w3 ⟨rfl, hr3, g3⟩; have hR := Lib.hid hr3; have hown := hown.kept g3 (.inr (own_ne hown hbl2)); have hB := below_grown hB g3 (Nat.le_refl _); have hbse := hB.size; have hzz := Nat.le_trans hzz g3.size; have hlw := Blk.lt hR.out; have hng := own_new_ne hown)
            | (go_at_call 50; (with_reducible refine (HC2.out _ hR.out).mono ?_); rintro e w3 ⟨rfl, hr3, g3⟩; have hR := Lib.hid hr3; have hown := hown.kept g3 (.inr (own_ne hown hbl2)); have hB := below_grown hB g3 (Nat.le_refl _); have hbse := hB.size; have hzz := Nat.le_trans hzz g3.size; have hlw := Blk.lt hR.out; have hng := own_new_ne hown)
            | (go_at_call 51; (with_reducible refine (HC3.out _ (qdr_alloc hR.out (.cells #[Value.string ⟨#[]⟩, .int .i64 0, .int .i64 0, .string ⟨#[]⟩] 58))).mono ?_); rintro e w4 ⟨rfl, hr4, g4⟩; have hR4 := Lib.hid hr4; have hown4 := (hown.alloc (.cells #[Value.string ⟨#[]⟩, .int .i64 0, .int .i64 0, .string ⟨#[]⟩] 58)).kept g4 (.inr (own_ne hown hbl2)); have hB4 := below_grown (hB.alloc hbse (.cells #[Value.string ⟨#[]⟩, .int .i64 0, .int .i64 0, .string ⟨#[]⟩] 58)) g4 (Nat.le_refl _); have hbox4 : Blk w4 w3.heap.size 58 #[Value.string ⟨#[]⟩, .int .i64 0, .int .i64 0, .string ⟨#[]⟩] := Blk.grown (Blk.new w3 58 #[Value.string ⟨#[]⟩, .int .i64 0, .int .i64 0, .string ⟨#[]⟩]) g4 (some_ne hlw); have y4 : w4.cell? ⟨w3.heap.size, 1, none⟩ = some (.int .i64 0) := hbox4.cell 1; have z4 := hbox4.frozen 1)
            | (go_at_call 51; (with_reducible refine (HC4.out _ (qdr_far hR4.out hlw)).mono ?_); rintro e w5 ⟨rfl, hr5, g5⟩; have hR5 := Lib.hid hr5; have hown5 := (own_setbox (i := 1) (u := .int .i64 (m : Int)) hown4 hng).kept g5 (.inr (own_ne hown4 hbl2)); have hB5 := below_grown (hB4.setCell (p := ⟨w3.heap.size, 1, none⟩) hbse _) g5 (Nat.le_refl _); have hbox5 : Blk w5 w3.heap.size 58 #[Value.string ⟨#[]⟩, .int .i64 (m : Int), .int .i64 0, .string ⟨#[]⟩] := Blk.grown (hbox4.set_ 1 (.int .i64 (m : Int))) g5 (some_ne hlw); have y5 : w5.cell? ⟨w3.heap.size, 2, none⟩ = some (.int .i64 0) := hbox5.cell 2; have z5 := hbox5.frozen 2)
            | (go_at_call 52; (with_reducible refine (HC5.out _ (qdr_far hR5.out hlw)).mono ?_); rintro e w6 ⟨rfl, hr6, g6⟩; have hR6 := Lib.hid hr6; have hown6 := (own_setbox (i := 2) (u := .int .i64 (z : Int)) hown5 hng).kept g6 (.inr (own_ne hown5 hbl2)); have hB6 := below_grown (hB5.setCell (p := ⟨w3.heap.size, 2, none⟩) hbse _) g6 (Nat.le_refl _); have hbox6 : Blk w6 w3.heap.size 58 #[Value.string ⟨#[]⟩, .int .i64 (m : Int), .int .i64 (z : Int), .string ⟨#[]⟩] := Blk.grown (hbox5.set_ 2 (.int .i64 (z : Int))) g6 (some_ne hlw); have y6 : w6.cell? ⟨w3.heap.size, 3, none⟩ = some (.string ⟨#[]⟩) := hbox6.cell 3; have z6 := hbox6.frozen 3; have e6 : (w6.setCell ⟨w3.heap.size, 3, none⟩ (.string q)).cell? ⟨w.heap.size, 2, none⟩ = some (.int .i64 r5.e) := Qdr.c2 (Blk.far hR6.out (p := ⟨w3.heap.size, 3, none⟩) (Nat.ne_of_lt hlw) _)))
          go_ret2
          exact ⟨none, 0, rfl, Arr.nil _ _ _ _, Fresh.none _, Nat.le_refl _, hB6.setCell (p := ⟨w3.heap.size, 3, none⟩) hbse _⟩
        · have hf1 : ¬ (x.size : Int) < n := by omega
          have hyz : (x.extract 0 n ++ t).size ≤ (k + 1) * 131072 := by simp; omega
          have HSH := Lib.hid (fun W => shared_ref x (x.extract 0 n ++ t) W (by omega) (by omega))
          have hokE := fun h => itErr_ok (t := t) he hfar h
          have hnoE := fun h => itErr_share (t := t) he hfar h
          have hn2 : (n : Int) ≤ x.size := by omega
          have hk4 : k + 1 ≤ 256 := by omega
          generalize hsv : sharedL x.data.toList (x.extract 0 n ++ t).data.toList = sv at *
          by_cases hse : sv = n
          · have hst := hstep (hokE hse)
            have h5 : ((sv : Int) == n) = true := by rw [hse]; simp
            have h6 : ((sv : Int) != n) = false := by rw [hse]; simp
            have HST := Lib.hid hst
            have HI2 : Hid (∀ f ∈ acc ++ [(⟨x.extract 0 n ++ t, m, z, q⟩ : ItemD)], IOk f) := Lib.hid (by
              intro f hf
              rcases List.mem_append.1 hf with h | h
              · exact HI.out f h
              · rw [List.mem_singleton] at h
                subst h
                exact ⟨by show (x.extract 0 n ++ t).size ≤ _; omega, by show q.size ≤ _; omega, ⟨by show (-9223372036854775808 : Int) ≤ (m : Int); omega, by show (m : Int) ≤ _; omega⟩, by show (-9223372036854775808 : Int) ≤ (z : Int); omega, by show (z : Int) ≤ _; omega⟩)
            have HS5 : r5.s.size ≤ 131072 := by rw [hs5]; exact hrs
            have HE5 : Hid (k + 1 < N → r5.e = 0) := Lib.hid (fun _ => he)
            clear hstep hstop he hokE hnoE hst hsv hse hs5
            go_wp2_with (first
              | (go_at_call 49; (with_reducible refine (HC1.out _ hR.out).mono ?_); rintro e w3 ⟨rfl, hr3, g3⟩; have hR := Lib.hid hr3; have hown := hown.kept g3 (.inr (own_ne hown hbl2)); have hB := below_grown hB g3 (Nat.le_refl _); have hbse := hB.size; have hzz := Nat.le_trans hzz g3.size; have hlw := Blk.lt hR.out; have hng := own_new_ne hown)
              | (go_at_call 50; (with_reducible refine (HC2.out _ hR.out).mono ?_); rintro e w3 ⟨rfl, hr3, g3⟩; have hR := Lib.hid hr3; have hown := hown.kept g3 (.inr (own_ne hown hbl2)); have hB := below_grown hB g3 (Nat.le_refl _); have hbse := hB.size; have hzz := Nat.le_trans hzz g3.size; have hlw := Blk.lt hR.out; have hng := own_new_ne hown)
              | (go_at_call 51; (with_reducible refine (HC3.out _ (qdr_alloc hR.out (.cells #[Value.string ⟨#[]⟩, .int .i64 0, .int .i64 0, .string ⟨#[]⟩] 58))).mono ?_); rintro e w4 ⟨rfl, hr4, g4⟩; have hR4 := Lib.hid hr4; have hown4 := (hown.alloc (.cells #[Value.string ⟨#[]⟩, .int .i64 0, .int .i64 0, .string ⟨#[]⟩] 58)).kept g4 (.inr (own_ne hown hbl2)); have hB4 := below_grown (hB.alloc hbse (.cells #[Value.string ⟨#[]⟩, .int .i64 0, .int .i64 0, .string ⟨#[]⟩] 58)) g4 (Nat.le_refl _); have hbox4 : Blk w4 w3.heap.size 58 #[Value.string ⟨#[]⟩, .int .i64 0, .int .i64 0, .string ⟨#[]⟩] := Blk.grown (Blk.new w3 58 #[Value.string ⟨#[]⟩, .int .i64 0, .int .i64 0, .string ⟨#[]⟩]) g4 (some_ne hlw); have y4 : w4.cell? ⟨w3.heap.size, 1, none⟩ = some (.int .i64 0) := hbox4.cell 1; have z4 := hbox4.frozen 1)
              | (go_at_call 51; (with_reducible refine (HC4.out _ (qdr_far hR4.out hlw)).mono ?_); rintro e w5 ⟨rfl, hr5, g5⟩; have hR5 := Lib.hid hr5; have hown5 := (own_setbox (i := 1) (u := .int .i64 (m : Int)) hown4 hng).kept g5 (.inr (own_ne hown4 hbl2)); have hB5 := below_grown (hB4.setCell (p := ⟨w3.heap.size, 1, none⟩) hbse _) g5 (Nat.le_refl _); have hbox5 : Blk w5 w3.heap.size 58 #[Value.string ⟨#[]⟩, .int .i64 (m : Int), .int .i64 0, .string ⟨#[]⟩] := Blk.grown (hbox4.set_ 1 (.int .i64 (m : Int))) g5 (some_ne hlw); have y5 : w5.cell? ⟨w3.heap.size, 2, none⟩ = some (.int .i64 0) := hbox5.cell 2; have z5 := hbox5.frozen 2)
              | (go_at_call 52; (with_reducible refine (HC5.out _ (qdr_far hR5.out hlw)).mono ?_); rintro e w6 ⟨rfl, hr6, g6⟩; have hR6 := Lib.hid hr6; have hown6 := (own_setbox (i := 2) (u := .int .i64 (z : Int)) hown5 hng).kept g6 (.inr (own_ne hown5 hbl2)); have hB6 := below_grown (hB5.setCell (p := ⟨w3.heap.size, 2, none⟩) hbse _) g6 (Nat.le_refl _); have hbox6 : Blk w6 w3.heap.size 58 #[Value.string ⟨#[]⟩, .int .i64 (m : Int), .int .i64 (z : Int), .string ⟨#[]⟩] := Blk.grown (hbox5.set_ 2 (.int .i64 (z : Int))) g6 (some_ne hlw); have y6 : w6.cell? ⟨w3.heap.size, 3, none⟩ = some (.string ⟨#[]⟩) := hbox6.cell 3; have z6 := hbox6.frozen 3; have e6 : (w6.setCell ⟨w3.heap.size, 3, none⟩ (.string q)).cell? ⟨w.heap.size, 2, none⟩ = some (.int .i64 r5.e) := Qdr.c2 (Blk.far hR6.out (p := ⟨w3.heap.size, 3, none⟩) (Nat.ne_of_lt hlw) _))
              | (go_at_call 53; (with_reducible refine (HSH.out _).mono ?_); rintro e w7 ⟨rfl, hb7⟩; have hf6 := Blk.far hR6.out (p := ⟨w3.heap.size, 3, none⟩) (Nat.ne_of_lt hlw) (.string q); have hR7 := Lib.hid (Blk.below hf6 hb7 hf6.lt); have hown7 := own_below (own_setbox (i := 3) (u := .string q) hown6 hng) hb7; have hB7 := below_on (hB6.setCell (p := ⟨w3.heap.size, 3, none⟩) hbse _) hb7; have hst6 := hbox6.set_ 3 (.string q); have hbox7 : Blk w7 w3.heap.size 58 #[Value.string ⟨#[]⟩, .int .i64 (m : Int), .int .i64 (z : Int), .string q] := Blk.below hst6 hb7 hst6.lt; have y7 : w7.cell? ⟨w3.heap.size, 0, none⟩ = some (.string ⟨#[]⟩) := hbox7.cell 0; have z7 := hbox7.frozen 0; have hboxF : Blk (w7.setCell ⟨w3.heap.size, 0, none⟩ (.string (x.extract 0 n ++ t))) w3.heap.size 58 #[Value.string (x.extract 0 n ++ t), .int .i64 (m : Int), .int .i64 (z : Int), .string q] := hbox7.set_ 0 (.string (x.extract 0 n ++ t)); obtain ⟨k0, k1, k2, k3⟩ := ibox_cells hboxF; have hownF := own_setbox (i := 0) (u := .string (x.extract 0 n ++ t)) hown7 hng; have hBF := hB7.setCell (p := ⟨w3.heap.size, 0, none⟩) hbse (.string (x.extract 0 n ++ t)); have hs8 := hBF.size; have hzF := Nat.le_trans hzz (Nat.le_of_lt hboxF.lt))
              | (at_builtin; refine wpList_push rfl _ _ _ rfl Tryz.underlying53 gi0 gz0 gz1 gz2 item_zero (by decide) hownF rfl (by rw [World.size_setCell]; rfl) rfl (item_one (x.extract 0 n ++ t) q m z) (by unfold maxLen; omega) (by omega) hzF ?_; intro g9 cap9 w9 hown9 hgr9 hat9; have hbox9 := Blk.grown hboxF hgr9 (fun e => hng e.symm); obtain ⟨q0, q1, q2, q3⟩ := ibox_cells hbox9))
            have hR9 := Lib.hid (Blk.grown (Blk.far hR7.out (p := ⟨w3.heap.size, 0, none⟩) (Nat.ne_of_lt hlw) _) hgr9 (fun e => own_ne hownF hbl2 e.symm))
            have hB9 := hBF.grown hgr9 hs8 (fun j hj => by have := (hownF.lt j hj).1; omega)
            go_roundw
            case rel => exact ⟨k + 1, x.extract 0 n ++ t, acc ++ [⟨x.extract 0 n ++ t, m, z, q⟩], r5, by omega, by go_num, rfl, by rw [List.length_append, icells_snoc]; exact hown9, by simp; omega, hyz, HI2, hR9, o5, HS5, HST, Nat.le_trans hzF hgr9.size, HE5, hB9⟩
            case measure => simp [intOf] <;> omega
          · have hst := hstop (by rw [hnoE hse]; decide)
            rw [hnoE hse] at hst
            injection hst with hE hF
            subst hE
            subst hF
            have h5 : ((sv : Int) == n) = false := by rw [beq_eq_false_iff_ne]; omega
            have h6 : ((sv : Int) != n) = true := by rw [bne_iff_ne]; omega
            clear hstep hstop he hokE hnoE hsv hse
            go_wp2_with (first
              | (go_at_call 49; (with_reducible refine (HC1.out _ hR.out).mono ?_); rintro e w3 ⟨rfl, hr3, g3⟩; have hR := Lib.hid hr3; have hown := hown.kept g3 (.inr (own_ne hown hbl2)); have hB := below_grown hB g3 (Nat.le_refl _); have hbse := hB.size; have hzz := Nat.le_trans hzz g3.size; have hlw := Blk.lt hR.out; have hng := own_new_ne hown)
              | (go_at_call 50; (with_reducible refine (HC2.out _ hR.out).mono ?_); rintro e w3 ⟨rfl, hr3, g3⟩; have hR := Lib.hid hr3; have hown := hown.kept g3 (.inr (own_ne hown hbl2)); have hB := below_grown hB g3 (Nat.le_refl _); have hbse := hB.size; have hzz := Nat.le_trans hzz g3.size; have hlw := Blk.lt hR.out; have hng := own_new_ne hown)
              | (go_at_call 51; (with_reducible refine (HC3.out _ (qdr_alloc hR.out (.cells #[Value.string ⟨#[]⟩, .int .i64 0, .int .i64 0, .string ⟨#[]⟩] 58))).mono ?_); rintro e w4 ⟨rfl, hr4, g4⟩; have hR4 := Lib.hid hr4; have hown4 := (hown.alloc (.cells #[Value.string ⟨#[]⟩, .int .i64 0, .int .i64 0, .string ⟨#[]⟩] 58)).kept g4 (.inr (own_ne hown hbl2)); have hB4 := below_grown (hB.alloc hbse (.cells #[Value.string ⟨#[]⟩, .int .i64 0, .int .i64 0, .string ⟨#[]⟩] 58)) g4 (Nat.le_refl _); have hbox4 : Blk w4 w3.heap.size 58 #[Value.string ⟨#[]⟩, .int .i64 0, .int .i64 0, .string ⟨#[]⟩] := Blk.grown (Blk.new w3 58 #[Value.string ⟨#[]⟩, .int .i64 0, .int .i64 0, .string ⟨#[]⟩]) g4 (some_ne hlw); have y4 : w4.cell? ⟨w3.heap.size, 1, none⟩ = some (.int .i64 0) := hbox4.cell 1; have z4 := hbox4.frozen 1)
              | (go_at_call 51; (with_reducible refine (HC4.out _ (qdr_far hR4.out hlw)).mono ?_); rintro e w5 ⟨rfl, hr5, g5⟩; have hR5 := Lib.hid hr5; have hown5 := (own_setbox (i := 1) (u := .int .i64 (m : Int)) hown4 hng).kept g5 (.inr (own_ne hown4 hbl2)); have hB5 := below_grown (hB4.setCell (p := ⟨w3.heap.size, 1, none⟩) hbse _) g5 (Nat.le_refl _); have hbox5 : Blk w5 w3.heap.size 58 #[Value.string ⟨#[]⟩, .int .i64 (m : Int), .int .i64 0, .string ⟨#[]⟩] := Blk.grown (hbox4.set_ 1 (.int .i64 (m : Int))) g5 (some_ne hlw); have y5 : w5.cell? ⟨w3.heap.size, 2, none⟩ = some (.int .i64 0) := hbox5.cell 2; have z5 := hbox5.frozen 2)
              | (go_at_call 52; (with_reducible refine (HC5.out _ (qdr_far hR5.out hlw)).mono ?_); rintro e w6 ⟨rfl, hr6, g6⟩; have hR6 := Lib.hid hr6; have hown6 := (own_setbox (i := 2) (u := .int .i64 (z : Int)) hown5 hng).kept g6 (.inr (own_ne hown5 hbl2)); have hB6 := below_grown (hB5.setCell (p := ⟨w3.heap.size, 2, none⟩) hbse _) g6 (Nat.le_refl _); have hbox6 : Blk w6 w3.heap.size 58 #[Value.string ⟨#[]⟩, .int .i64 (m : Int), .int .i64 (z : Int), .string ⟨#[]⟩] := Blk.grown (hbox5.set_ 2 (.int .i64 (z : Int))) g6 (some_ne hlw); have y6 : w6.cell? ⟨w3.heap.size, 3, none⟩ = some (.string ⟨#[]⟩) := hbox6.cell 3; have z6 := hbox6.frozen 3; have e6 : (w6.setCell ⟨w3.heap.size, 3, none⟩ (.string q)).cell? ⟨w.heap.size, 2, none⟩ = some (.int .i64 r5.e) := Qdr.c2 (Blk.far hR6.out (p := ⟨w3.heap.size, 3, none⟩) (Nat.ne_of_lt hlw) _))
              | (go_at_call 53; (with_reducible refine (HSH.out _).mono ?_); rintro e w7 ⟨rfl, hb7⟩; have hf6 := Blk.far hR6.out (p := ⟨w3.heap.size, 3, none⟩) (Nat.ne_of_lt hlw) (.string q); have hR7 := Lib.hid (Blk.below hf6 hb7 hf6.lt); have hown7 := own_below (own_setbox (i := 3) (u := .string q) hown6 hng) hb7; have hB7 := below_on (hB6.setCell (p := ⟨w3.heap.size, 3, none⟩) hbse _) hb7; have hst6 := hbox6.set_ 3 (.string q); have hbox7 : Blk w7 w3.heap.size 58 #[Value.string ⟨#[]⟩, .int .i64 (m : Int), .int .i64 (z : Int), .string q] := Blk.below hst6 hb7 hst6.lt; have y7 : w7.cell? ⟨w3.heap.size, 0, none⟩ = some (.string ⟨#[]⟩) := hbox7.cell 0; have z7 := hbox7.frozen 0; have hboxF : Blk (w7.setCell ⟨w3.heap.size, 0, none⟩ (.string (x.extract 0 n ++ t))) w3.heap.size 58 #[Value.string (x.extract 0 n ++ t), .int .i64 (m : Int), .int .i64 (z : Int), .string q] := hbox7.set_ 0 (.string (x.extract 0 n ++ t)); obtain ⟨k0, k1, k2, k3⟩ := ibox_cells hboxF; have hownF := own_setbox (i := 0) (u := .string (x.extract 0 n ++ t)) hown7 hng; have hBF := hB7.setCell (p := ⟨w3.heap.size, 0, none⟩) hbse (.string (x.extract 0 n ++ t)); have hs8 := hBF.size; have hzF := Nat.le_trans hzz (Nat.le_of_lt hboxF.lt)))
            go_ret2
            exact ⟨none, 0, rfl, Arr.nil _ _ _ _, Fresh.none _, Nat.le_refl _, hB7⟩
      · have hst := hstop (by rw [itErr_bad he]; exact he)
        rw [itErr_bad he] at hst
        injection hst with hE hF
        subst hE
        subst hF
        have he' : (r5.e == 0) = false := by rw [beq_eq_false_iff_ne]; exact he
        clear hstep hstop he
        go_wp2_with (first
          | (go_at_call 49; (with_reducible refine (HC1.out _ hR.out).mono ?_); rintro e w3 ⟨rfl, hr3, g3⟩; have hR := Lib.hid hr3; have hown := hown.kept g3 (.inr (own_ne hown hbl2)); have hB := below_grown hB g3 (Nat.le_refl _); have hbse := hB.size; have hzz := Nat.le_trans hzz g3.size; have hlw := Blk.lt hR.out; have hng := own_new_ne hown)
          | (go_at_call 50; (with_reducible refine (HC2.out _ hR.out).mono ?_); rintro e w3 ⟨rfl, hr3, g3⟩; have hR := Lib.hid hr3; have hown := hown.kept g3 (.inr (own_ne hown hbl2)); have hB := below_grown hB g3 (Nat.le_refl _); have hbse := hB.size; have hzz := Nat.le_trans hzz g3.size; have hlw := Blk.lt hR.out; have hng := own_new_ne hown)
          | (go_at_call 51; (with_reducible refine (HC3.out _ (qdr_alloc hR.out (.cells #[Value.string ⟨#[]⟩, .int .i64 0, .int .i64 0, .string ⟨#[]⟩] 58))).mono ?_); rintro e w4 ⟨rfl, hr4, g4⟩; have hR4 := Lib.hid hr4; have hown4 := (hown.alloc (.cells #[Value.string ⟨#[]⟩, .int .i64 0, .int .i64 0, .string ⟨#[]⟩] 58)).kept g4 (.inr (own_ne hown hbl2)); have hB4 := below_grown (hB.alloc hbse (.cells #[Value.string ⟨#[]⟩, .int .i64 0, .int .i64 0, .string ⟨#[]⟩] 58)) g4 (Nat.le_refl _); have hbox4 : Blk w4 w3.heap.size 58 #[Value.string ⟨#[]⟩, .int .i64 0, .int .i64 0, .string ⟨#[]⟩] := Blk.grown (Blk.new w3 58 #[Value.string ⟨#[]⟩, .int .i64 0, .int .i64 0, .string ⟨#[]⟩]) g4 (some_ne hlw); have y4 : w4.cell? ⟨w3.heap.size, 1, none⟩ = some (.int .i64 0) := hbox4.cell 1; have z4 := hbox4.frozen 1)
          | (go_at_call 51; (with_reducible refine (HC4.out _ (qdr_far hR4.out hlw)).mono ?_); rintro e w5 ⟨rfl, hr5, g5⟩; have hR5 := Lib.hid hr5; have hown5 := (own_setbox (i := 1) (u := .int .i64 (m : Int)) hown4 hng).kept g5 (.inr (own_ne hown4 hbl2)); have hB5 := below_grown (hB4.setCell (p := ⟨w3.heap.size, 1, none⟩) hbse _) g5 (Nat.le_refl _); have hbox5 : Blk w5 w3.heap.size 58 #[Value.string ⟨#[]⟩, .int .i64 (m : Int), .int .i64 0, .string ⟨#[]⟩] := Blk.grown (hbox4.set_ 1 (.int .i64 (m : Int))) g5 (some_ne hlw); have y5 : w5.cell? ⟨w3.heap.size, 2, none⟩ = some (.int .i64 0) := hbox5.cell 2; have z5 := hbox5.frozen 2)
          | (go_at_call 52; (with_reducible refine (HC5.out _ (qdr_far hR5.out hlw)).mono ?_); rintro e w6 ⟨rfl, hr6, g6⟩; have hR6 := Lib.hid hr6; have hown6 := (own_setbox (i := 2) (u := .int .i64 (z : Int)) hown5 hng).kept g6 (.inr (own_ne hown5 hbl2)); have hB6 := below_grown (hB5.setCell (p := ⟨w3.heap.size, 2, none⟩) hbse _) g6 (Nat.le_refl _); have hbox6 : Blk w6 w3.heap.size 58 #[Value.string ⟨#[]⟩, .int .i64 (m : Int), .int .i64 (z : Int), .string ⟨#[]⟩] := Blk.grown (hbox5.set_ 2 (.int .i64 (z : Int))) g6 (some_ne hlw); have y6 : w6.cell? ⟨w3.heap.size, 3, none⟩ = some (.string ⟨#[]⟩) := hbox6.cell 3; have z6 := hbox6.frozen 3; have e6 : (w6.setCell ⟨w3.heap.size, 3, none⟩ (.string q)).cell? ⟨w.heap.size, 2, none⟩ = some (.int .i64 r5.e) := Qdr.c2 (Blk.far hR6.out (p := ⟨w3.heap.size, 3, none⟩) (Nat.ne_of_lt hlw) _)))
        go_quiet (fail)
        go_wp2
        go_ret2
        exact ⟨none, 0, rfl, Arr.nil _ _ _ _, Fresh.none _, Nat.le_refl _, below_drewN (hB6.setCell (p := ⟨w3.heap.size, 3, none⟩) hbse _) _⟩
    · have hN0 : N - k = 0 := by omega
      have H2 := H.out
      rw [hN0, manGo] at H2
      have hen := qend_any w.heap.size r wr HR.out hok
      have f1 := fun h => (manEnd_end (acc := acc) (r := r) h).symm.trans H2
      have f2 := fun h h2 => (manEnd_right (acc := acc) (r := r) h h2).symm.trans H2
      have f3 := fun h h2 => (manEnd_ok (acc := acc) (r := r) h h2).symm.trans H2
      generalize (rdEnd r).e = ee at *
      have HEN := Lib.hid hen
      have hri := Lib.hid (fun A c W h (_ : Below w.heap.size w W) => right_ref A c acc W (by omega) HI.out h)
      have kN : ¬ (k : Int) < N := by omega
      clear hen H2 H hN0
      by_cases hee : ee = 0
      · have hee' : (ee == 0) = true := by rw [hee]; rfl
        have f2 := f2 hee
        have f3 := f3 hee
        generalize rightE acc = G at *
        obtain ⟨A', c', rfl, hcap, ha', hfr⟩ := own_arr hown
        by_cases hG : G = 0
        · have f3 := f3 hG
          injection f3 with hE hF
          subst hE
          subst hF
          have hG' : (G == 0) = true := by rw [hG]; rfl
          clear f1 f2 hee hG ha'
          go_wp2_with (first
            | (go_at_call 54; (with_reducible refine HEN.out.mono ?_); rintro e w4 ⟨rfl, hr4, g4⟩; have hown := hown.kept g4 (.inr (own_ne hown hbl2)); have hB := below_grown hB g4 (Nat.le_refl _); have ha4 := Lib.hid (own_slice hown); have hbr := hB)
            | (go_at_call 55; (refine (hri.out _ _ _ ha4.out hB).mono ?_); rintro e w5 ⟨rfl, hb5⟩))
          go_ret2
          have ha5 := ha4.out
          exact ⟨A', c', rfl, (ha5.below hb5).more hb5.size, fun g o e => by have := hfr g o e; omega, hcap, below_on hB hb5⟩
        · have f2 := f2 hG
          injection f2 with hE hF
          subst hE
          subst hF
          have hG' : (G == 0) = false := by rw [beq_eq_false_iff_ne]; exact hG
          clear f1 f3 hee hG ha'
          go_wp2_with (first
            | (go_at_call 54; (with_reducible refine HEN.out.mono ?_); rintro e w4 ⟨rfl, hr4, g4⟩; have hown := hown.kept g4 (.inr (own_ne hown hbl2)); have hB := below_grown hB g4 (Nat.le_refl _); have ha4 := Lib.hid (own_slice hown); have hbr := hB)
            | (go_at_call 55; (refine (hri.out _ _ _ ha4.out hB).mono ?_); rintro e w5 ⟨rfl, hb5⟩))
          go_ret2
          exact ⟨none, 0, rfl, Arr.nil _ _ _ _, Fresh.none _, Nat.le_refl _, below_on hB hb5⟩
      · have f1 := f1 hee
        injection f1 with hE hF
        subst hE
        subst hF
        have hee' : (ee == 0) = false := by rw [beq_eq_false_iff_ne]; exact hee
        clear f2 f3 hee
        go_wp2_with (go_at_call 54; (with_reducible refine HEN.out.mono ?_); rintro e w4 ⟨rfl, hr4, g4⟩; have hB := below_grown hB g4 (Nat.le_refl _))
        go_ret2
        exact ⟨none, 0, rfl, Arr.nil _ _ _ _, Fresh.none _, Nat.le_refl _, hB⟩
end Go.Proofs.YtmcgaaihdjpdgaaGreatDoor
