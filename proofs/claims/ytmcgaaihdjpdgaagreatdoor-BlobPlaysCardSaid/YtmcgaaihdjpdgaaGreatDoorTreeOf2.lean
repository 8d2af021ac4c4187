/- The walk through Of. -/
import Derived.Test.YtmcgaaihdjpdgaaGreatDoorTreeMix
import Derived.Test.YtmcgaaihdjpdgaaGreatDoorRdAll
namespace Go.Proofs.YtmcgaaihdjpdgaaGreatDoor
open Go.RowKit
set_option linter.unusedVariables false

set_option maxHeartbeats 4000000 in
set_option maxRecDepth 100000 in
theorem of_any (s : ByteArray) (w : World) (hs : s.size ≤ 131072) (hm : Ml w) :
    Calls Tryz.prog 39 #[.string s] w (ItemsOut w (manOf s).2 (manOf s).1) := by
  obtain ⟨i0, gi0, gz0, gz1, gz2⟩ := info_parts infoItem
  have ho0 : (⟨s, 0, 0⟩ : Rd).ok := ⟨Nat.zero_le _, by show s.size ≤ _; omega⟩
  have hct := fun b W h => count_any b ⟨s, 0, 0⟩ 256 W h ho0
  have ho1 := rdCount_ok' (m := 256) ho0
  have hs1 := rdCount_s ⟨s, 0, 0⟩ 256
  have hle := rdCount_most_ ⟨s, 0, 0⟩ (m := 256) (by decide)
  unfold manOf
  obtain ⟨N, r0, hx0⟩ : ∃ N r0, rdCount ⟨s, 0, 0⟩ 256 = (N, r0) := ⟨_, _, rfl⟩
  rw [hx0] at hct ho1 hs1 hle ⊢
  simp only [] at hct ho1 hs1 hle ⊢
  have hrs : r0.s.size ≤ 131072 := by rw [hs1]; exact hs
  have HCT := Lib.hid hct
  obtain ⟨E, F, hEF⟩ : ∃ E F, manEnd (manGo N .empty [] r0) = (E, F) := ⟨_, _, rfl⟩
  rw [hEF]
  simp only []
  have HEF : Hid (manEnd (manGo (N - 0) .empty [] r0) = (E, F)) := Lib.hid hEF
  clear hct hs1 hx0 hEF ho0
  go_enter Tryz.func39, Tryz.ntmps39
  go_wp2_with (first
    | (go_at_call 58; (with_reducible refine (read_any s _).mono ?_); rintro e w1 ⟨rfl, hr1, hb1⟩)
    | (go_at_call 59; (with_reducible refine (HCT.out _ _ hr1).mono ?_); rintro e w2 ⟨rfl, hr2, hg2⟩))
  have hbl := Blk.lt hr1
  have hB2 : Below w.heap.size w w2 := hb1.grown hg2 hb1.size (fun j hj => by injection hj with hj; omega)
  have hs2 := hg2.size
  have hbs1 := hb1.size
  go_loopw [5, 6, 16] (fun vo vl v wr => ∃ (k : Nat) (x : ByteArray) (acc : List ItemD) (r : Rd), k ≤ N ∧ v = .int .i64 k ∧ vl = .string x ∧ wr.ownsRow w1.heap.size 58 4 vo acc.length (icells acc) ∧ acc.length ≤ k ∧ x.size ≤ k * 131072 ∧ Hid (∀ f ∈ acc, IOk f) ∧ Hid (Rdr wr w.heap.size r) ∧ r.ok ∧ r.s.size ≤ 131072 ∧ Hid (manEnd (manGo (N - k) x acc r) = (E, F)) ∧ w1.heap.size ≤ wr.heap.size ∧ Below w.heap.size w wr) (fun _ _ v _ => N - (intOf v).toNat)
  case atStart => exact ⟨0, ⟨#[]⟩, [], r0, Nat.zero_le _, rfl, rfl, World.ownsRow_nil _ _ _ _, Nat.le_refl _, by decide, Lib.hid (by simp), Lib.hid hr2, ho1, hrs, HEF, hs2, hB2⟩
  case round =>
    obtain ⟨k, x, acc, r, hk, rfl, rfl, hown, hal, hxs, HI, HR, hok, hrs, H, hzz, hB⟩ := hrel
    have hbse := hB.size
    have hbl2 : w.heap.size < w1.heap.size := hbl
    have HB0 := HR.out.lt
    by_cases hlt : k < N
    · obtain ⟨n, r1, t, r2, m, r3, z, r4, q, r5, h1, h2, h3, h4, h5, ⟨o1, o2, o3, o4, o5⟩, ⟨l2, l5, l3, l4, l1⟩, hs5⟩ := reads5 r hok
      have hc1 := fun W h => count_any w.heap.size r 200 W h hok
      have hc2 := fun W h => text_any w.heap.size r1 200 W h o1
      have hc3 := fun W h => num_any w.heap.size r2 W h o2
      have hc4 := fun W h => num_any w.heap.size r3 W h o3
      have hc5 := fun W h => raw_any w.heap.size r4 32 W h o4 (by decide) (by decide)
      rw [h1] at hc1
      rw [h2] at hc2
      rw [h3] at hc3
      rw [h4] at hc4
      rw [h5] at hc5
      simp only [] at hc1 hc2 hc3 hc4 hc5
      have HC1 := Lib.hid hc1
      have HC2 := Lib.hid hc2
      have HC3 := Lib.hid hc3
      have HC4 := Lib.hid hc4
      have HC5 := Lib.hid hc5
      have hN : N - k = (N - (k + 1)) + 1 := by omega
      have H2 := H.out
      rw [hN] at H2
      have hstep := fun h0 => (congrArg manEnd (manGo_step (k := N - (k + 1)) (acc := acc) (last := x) h1 h2 h3 h4 h5 h0)).symm.trans H2
      have hstop := fun h0 => (manGo_stop (k := N - (k + 1)) (acc := acc) (last := x) h1 h2 h3 h4 h5 h0).symm.trans H2
      have hR := HR
      clear hc1 hc2 hc3 hc4 hc5 h1 h2 h3 h4 h5 hN H2 H
      by_cases he : r5.e = 0
      · have he' : (r5.e == 0) = true := by rw [he]; rfl
        by_cases hfar : x.size < n
        · have hst := hstop (by rw [itErr_far he hfar]; decide)
          rw [itErr_far he hfar] at hst
          injection hst with hE hF
          subst hE
          subst hF
          have hf1 : (x.size : Int) < n := by omega
          clear hstep hstop he
          go_wp2_with (first
            | (go_at_call 59; (with_reducible refine (HC1.out _ hR.out).mono ?_); rintro e w3 ⟨rfl, hr3, g3⟩; have hR := Lib.hid hr3; have hown := hown.kept g3 (.inr (own_ne hown hbl2)); have hB := below_grown hB g3 (Nat.le_refl _); have hbse := hB.size; have hzz := Nat.le_trans hzz g3.size)
            | (go_at_call 60; (with_reducible refine (HC2.out _ hR.out).mono ?_); rintro e w3 ⟨rfl, hr3, g3⟩; have hR := Lib.hid hr3; have hown := hown.kept g3 (.inr (own_ne hown hbl2)); have hB := below_grown hB g3 (Nat.le_refl _); have hbse := hB.size; have hzz := Nat.le_trans hzz g3.size)
            | (go_at_call 61; (with_reducible refine (HC3.out _ hR.out).mono ?_); rintro e w3 ⟨rfl, hr3, g3⟩; have hR := Lib.hid hr3; have hown := hown.kept g3 (.inr (own_ne hown hbl2)); have hB := below_grown hB g3 (Nat.le_refl _); have hbse := hB.size; have hzz := Nat.le_trans hzz g3.size)
            | (go_at_call 61; (with_reducible refine (HC4.out _ hR.out).mono ?_); rintro e w3 ⟨rfl, hr3, g3⟩; have hR := Lib.hid hr3; have hown := hown.kept g3 (.inr (own_ne hown hbl2)); have hB := below_grown hB g3 (Nat.le_refl _); have hbse := hB.size; have hzz := Nat.le_trans hzz g3.size)
            | (go_at_call 62; (with_reducible refine (HC5.out _ hR.out).mono ?_); rintro e w3 ⟨rfl, hr3, g3⟩; have hR := Lib.hid hr3; have hown := hown.kept g3 (.inr (own_ne hown hbl2)); have hB := below_grown hB g3 (Nat.le_refl _); have hbse := hB.size; have hzz := Nat.le_trans hzz g3.size)
            | (go_at_call 63; (refine (err_any _ _ _ (Blk.alloc hR.out _)).mono ?_); rintro e w4 ⟨rfl, rfl⟩))
          go_ret2
          exact ⟨none, 0, rfl, Arr.nil _ _ _ _, Fresh.none _, Nat.le_refl _, hB.alloc hbse _⟩
        · have hf1 : ¬ (x.size : Int) < n := by omega
          have hyz : (x.extract 0 n ++ t).size ≤ (k + 1) * 131072 := by simp; omega
          have HSH := Lib.hid (fun W => shared_any x (x.extract 0 n ++ t) W (by omega) (by omega))
          have hokE := fun h => itErr_ok (t := t) he hfar h
          have hnoE := fun h => itErr_share (t := t) he hfar h
          have hn2 : (n : Int) ≤ x.size := by omega
          have hk4 : k + 1 ≤ 256 := by omega
          generalize hsv : sharedL x.data.toList (x.extract 0 n ++ t).data.toList = sv at *
          by_cases hse : sv = n
          · have hst := hstep (hokE hse)
            have h5 : ((sv : Int) == n) = true := by rw [hse]; simp
            have h6 : ((sv : Int) != n) = false := by rw [hse]; simp
            have HST := Lib.hid hst
            have HI2 : Hid (∀ f ∈ acc ++ [(⟨x.extract 0 n ++ t, m, z, q⟩ : ItemD)], IOk f) := Lib.hid (by
              intro f hf
              rcases List.mem_append.1 hf with h | h
              · exact HI.out f h
              · rw [List.mem_singleton] at h
                subst h
                exact ⟨by show (x.extract 0 n ++ t).size ≤ _; omega, by show q.size ≤ _; omega, ⟨by show (-9223372036854775808 : Int) ≤ (m : Int); omega, by show (m : Int) ≤ _; omega⟩, by show (-9223372036854775808 : Int) ≤ (z : Int); omega, by show (z : Int) ≤ _; omega⟩)
            have HS5 : r5.s.size ≤ 131072 := by rw [hs5]; exact hrs
            clear hstep hstop he hokE hnoE hst hsv hse hs5
            go_wp2_with (first
            | (go_at_call 59; (with_reducible refine (HC1.out _ hR.out).mono ?_); rintro e w3 ⟨rfl, hr3, g3⟩; have hR := Lib.hid hr3; have hown := hown.kept g3 (.inr (own_ne hown hbl2)); have hB := below_grown hB g3 (Nat.le_refl _); have hbse := hB.size; have hzz := Nat.le_trans hzz g3.size)
            | (go_at_call 60; (with_reducible refine (HC2.out _ hR.out).mono ?_); rintro e w3 ⟨rfl, hr3, g3⟩; have hR := Lib.hid hr3; have hown := hown.kept g3 (.inr (own_ne hown hbl2)); have hB := below_grown hB g3 (Nat.le_refl _); have hbse := hB.size; have hzz := Nat.le_trans hzz g3.size)
            | (go_at_call 61; (with_reducible refine (HC3.out _ hR.out).mono ?_); rintro e w3 ⟨rfl, hr3, g3⟩; have hR := Lib.hid hr3; have hown := hown.kept g3 (.inr (own_ne hown hbl2)); have hB := below_grown hB g3 (Nat.le_refl _); have hbse := hB.size; have hzz := Nat.le_trans hzz g3.size)
            | (go_at_call 61; (with_reducible refine (HC4.out _ hR.out).mono ?_); rintro e w3 ⟨rfl, hr3, g3⟩; have hR := Lib.hid hr3; have hown := hown.kept g3 (.inr (own_ne hown hbl2)); have hB := below_grown hB g3 (Nat.le_refl _); have hbse := hB.size; have hzz := Nat.le_trans hzz g3.size)
            | (go_at_call 62; (with_reducible refine (HC5.out _ hR.out).mono ?_); rintro e w3 ⟨rfl, hr3, g3⟩; have hR := Lib.hid hr3; have hown := hown.kept g3 (.inr (own_ne hown hbl2)); have hB := below_grown hB g3 (Nat.le_refl _); have hbse := hB.size; have hzz := Nat.le_trans hzz g3.size)
            | (go_at_call 63; (refine (err_any _ _ _ (Blk.alloc hR.out _)).mono ?_); rintro e w4 ⟨rfl, rfl⟩)
            | (go_at_call 64; (with_reducible refine (HSH.out _).mono ?_); rintro e w5 ⟨rfl, hb5⟩; have hR5 := Lib.hid (Blk.below (Blk.alloc hR.out (.cells #[.string (x.extract 0 n ++ t), .int .i64 (m : Int), .int .i64 (z : Int), .string q] 58)) hb5 (Blk.lt (Blk.alloc hR.out (.cells #[.string (x.extract 0 n ++ t), .int .i64 (m : Int), .int .i64 (z : Int), .string q] 58)))); have hown5 := own_below (hown.alloc (.cells #[.string (x.extract 0 n ++ t), .int .i64 (m : Int), .int .i64 (z : Int), .string q] 58)) hb5; have hB5 := below_on (hB.alloc hbse (.cells #[.string (x.extract 0 n ++ t), .int .i64 (m : Int), .int .i64 (z : Int), .string q] 58)) hb5; have hbox : Blk w5 w3.heap.size 58 #[Value.string (x.extract 0 n ++ t), .int .i64 (m : Int), .int .i64 (z : Int), .string q] := Blk.below (Blk.new w3 58 #[Value.string (x.extract 0 n ++ t), .int .i64 (m : Int), .int .i64 (z : Int), .string q]) hb5 (Blk.lt (Blk.new w3 58 #[Value.string (x.extract 0 n ++ t), .int .i64 (m : Int), .int .i64 (z : Int), .string q])); obtain ⟨k0, k1, k2, k3⟩ := ibox_cells hbox; have hs6 := hB5.size; have hz5 : w1.heap.size ≤ w5.heap.size := Nat.le_trans hzz (Nat.le_trans (by simp) hb5.size))
            | (at_builtin; refine wpList_push rfl _ _ _ rfl Tryz.underlying53 gi0 gz0 gz1 gz2 item_zero (by decide) hown5 rfl rfl rfl (item_one (x.extract 0 n ++ t) q m z) (by unfold maxLen; omega) (by omega) hz5 ?_; intro g6 cap6 w6 hown6 hgr6 hat6; have hbox6 := Blk.grown hbox hgr6 (fun e => Nat.lt_irrefl _ (hown.lt _ e.symm).2); obtain ⟨q0, q1, q2, q3⟩ := ibox_cells hbox6))
            have hR6 := Lib.hid (Blk.grown hR5.out hgr6 (fun e => own_ne hown5 hbl2 e.symm))
            have hB6 := hB5.grown hgr6 hs6 (fun j hj => by have := (hown5.lt j hj).1; omega)
            go_roundw
            case rel => exact ⟨k + 1, x.extract 0 n ++ t, acc ++ [⟨x.extract 0 n ++ t, m, z, q⟩], r5, by omega, by go_num, rfl, by rw [List.length_append, icells_snoc]; exact hown6, by simp; omega, hyz, HI2, hR6, o5, HS5, HST, Nat.le_trans hz5 hgr6.size, hB6⟩
            case measure => simp [intOf] <;> omega
          · have hst := hstop (by rw [hnoE hse]; decide)
            rw [hnoE hse] at hst
            injection hst with hE hF
            subst hE
            subst hF
            have h5 : ((sv : Int) == n) = false := by rw [beq_eq_false_iff_ne]; omega
            have h6 : ((sv : Int) != n) = true := by rw [bne_iff_ne]; omega
            clear hstep hstop he hokE hnoE hsv hse
            go_wp2_with (first
            | (go_at_call 59; (with_reducible refine (HC1.out _ hR.out).mono ?_); rintro e w3 ⟨rfl, hr3, g3⟩; have hR := Lib.hid hr3; have hown := hown.kept g3 (.inr (own_ne hown hbl2)); have hB := below_grown hB g3 (Nat.le_refl _); have hbse := hB.size; have hzz := Nat.le_trans hzz g3.size)
            | (go_at_call 60; (with_reducible refine (HC2.out _ hR.out).mono ?_); rintro e w3 ⟨rfl, hr3, g3⟩; have hR := Lib.hid hr3; have hown := hown.kept g3 (.inr (own_ne hown hbl2)); have hB := below_grown hB g3 (Nat.le_refl _); have hbse := hB.size; have hzz := Nat.le_trans hzz g3.size)
            | (go_at_call 61; (with_reducible refine (HC3.out _ hR.out).mono ?_); rintro e w3 ⟨rfl, hr3, g3⟩; have hR := Lib.hid hr3; have hown := hown.kept g3 (.inr (own_ne hown hbl2)); have hB := below_grown hB g3 (Nat.le_refl _); have hbse := hB.size; have hzz := Nat.le_trans hzz g3.size)
            | (go_at_call 61; (with_reducible refine (HC4.out _ hR.out).mono ?_); rintro e w3 ⟨rfl, hr3, g3⟩; have hR := Lib.hid hr3; have hown := hown.kept g3 (.inr (own_ne hown hbl2)); have hB := below_grown hB g3 (Nat.le_refl _); have hbse := hB.size; have hzz := Nat.le_trans hzz g3.size)
            | (go_at_call 62; (with_reducible refine (HC5.out _ hR.out).mono ?_); rintro e w3 ⟨rfl, hr3, g3⟩; have hR := Lib.hid hr3; have hown := hown.kept g3 (.inr (own_ne hown hbl2)); have hB := below_grown hB g3 (Nat.le_refl _); have hbse := hB.size; have hzz := Nat.le_trans hzz g3.size)
            | (go_at_call 63; (refine (err_any _ _ _ (Blk.alloc hR.out _)).mono ?_); rintro e w4 ⟨rfl, rfl⟩)
            | (go_at_call 64; (with_reducible refine (HSH.out _).mono ?_); rintro e w5 ⟨rfl, hb5⟩; have hR5 := Lib.hid (Blk.below (Blk.alloc hR.out (.cells #[.string (x.extract 0 n ++ t), .int .i64 (m : Int), .int .i64 (z : Int), .string q] 58)) hb5 (Blk.lt (Blk.alloc hR.out (.cells #[.string (x.extract 0 n ++ t), .int .i64 (m : Int), .int .i64 (z : Int), .string q] 58)))); have hown5 := own_below (hown.alloc (.cells #[.string (x.extract 0 n ++ t), .int .i64 (m : Int), .int .i64 (z : Int), .string q] 58)) hb5; have hB5 := below_on (hB.alloc hbse (.cells #[.string (x.extract 0 n ++ t), .int .i64 (m : Int), .int .i64 (z : Int), .string q] 58)) hb5; have hbox : Blk w5 w3.heap.size 58 #[Value.string (x.extract 0 n ++ t), .int .i64 (m : Int), .int .i64 (z : Int), .string q] := Blk.below (Blk.new w3 58 #[Value.string (x.extract 0 n ++ t), .int .i64 (m : Int), .int .i64 (z : Int), .string q]) hb5 (Blk.lt (Blk.new w3 58 #[Value.string (x.extract 0 n ++ t), .int .i64 (m : Int), .int .i64 (z : Int), .string q])); obtain ⟨k0, k1, k2, k3⟩ := ibox_cells hbox; have hs6 := hB5.size; have hz5 : w1.heap.size ≤ w5.heap.size := Nat.le_trans hzz (Nat.le_trans (by simp) hb5.size)))
            go_ret2
            exact ⟨none, 0, rfl, Arr.nil _ _ _ _, Fresh.none _, Nat.le_refl _, hB5⟩
      · have hst := hstop (by rw [itErr_bad he]; exact he)
        rw [itErr_bad he] at hst
        injection hst with hE hF
        subst hE
        subst hF
        have he' : (r5.e == 0) = false := by rw [beq_eq_false_iff_ne]; exact he
        clear hstep hstop he
        go_wp2_with (first
          | (go_at_call 59; (with_reducible refine (HC1.out _ hR.out).mono ?_); rintro e w3 ⟨rfl, hr3, g3⟩; have hR := Lib.hid hr3; have hown := hown.kept g3 (.inr (own_ne hown hbl2)); have hB := below_grown hB g3 (Nat.le_refl _); have hbse := hB.size; have hzz := Nat.le_trans hzz g3.size)
          | (go_at_call 60; (with_reducible refine (HC2.out _ hR.out).mono ?_); rintro e w3 ⟨rfl, hr3, g3⟩; have hR := Lib.hid hr3; have hown := hown.kept g3 (.inr (own_ne hown hbl2)); have hB := below_grown hB g3 (Nat.le_refl _); have hbse := hB.size; have hzz := Nat.le_trans hzz g3.size)
          | (go_at_call 61; (with_reducible refine (HC3.out _ hR.out).mono ?_); rintro e w3 ⟨rfl, hr3, g3⟩; have hR := Lib.hid hr3; have hown := hown.kept g3 (.inr (own_ne hown hbl2)); have hB := below_grown hB g3 (Nat.le_refl _); have hbse := hB.size; have hzz := Nat.le_trans hzz g3.size)
          | (go_at_call 61; (with_reducible refine (HC4.out _ hR.out).mono ?_); rintro e w3 ⟨rfl, hr3, g3⟩; have hR := Lib.hid hr3; have hown := hown.kept g3 (.inr (own_ne hown hbl2)); have hB := below_grown hB g3 (Nat.le_refl _); have hbse := hB.size; have hzz := Nat.le_trans hzz g3.size)
          | (go_at_call 62; (with_reducible refine (HC5.out _ hR.out).mono ?_); rintro e w3 ⟨rfl, hr3, g3⟩; have hR := Lib.hid hr3; have hown := hown.kept g3 (.inr (own_ne hown hbl2)); have hB := below_grown hB g3 (Nat.le_refl _); have hbse := hB.size; have hzz := Nat.le_trans hzz g3.size)
          | (go_at_call 63; (refine (err_any _ _ _ (Blk.alloc hR.out _)).mono ?_); rintro e w4 ⟨rfl, rfl⟩))
        go_ret2
        exact ⟨none, 0, rfl, Arr.nil _ _ _ _, Fresh.none _, Nat.le_refl _, hB.alloc hbse _⟩
    · have hN0 : N - k = 0 := by omega
      have H2 := H.out
      rw [hN0, manGo] at H2
      have hen := end_any w.heap.size r wr HR.out hok
      have f1 := fun h => (manEnd_end (acc := acc) (r := r) h).symm.trans H2
      have f2 := fun h h2 => (manEnd_right (acc := acc) (r := r) h h2).symm.trans H2
      have f3 := fun h h2 => (manEnd_ok (acc := acc) (r := r) h h2).symm.trans H2
      generalize (rdEnd r).e = ee at *
      have HEN := Lib.hid hen
      have hri := Lib.hid (fun A c W h hw => right_any A c acc W (by omega) HI.out h (hm.on hw))
      clear hen H2 H hN0
      by_cases hee : ee = 0
      · have hee' : (ee == 0) = true := by rw [hee]; rfl
        have f2 := f2 hee
        have f3 := f3 hee
        generalize rightE acc = G at *
        obtain ⟨A', c', rfl, hcap, ha', hfr⟩ := own_arr hown
        by_cases hG : G = 0
        · have f3 := f3 hG
          injection f3 with hE hF
          subst hE
          subst hF
          have hG' : (G == 0) = true := by rw [hG]; rfl
          clear f1 f2 hee hG ha'
          go_wp2_with (first
            | (go_at_call 65; (with_reducible refine HEN.out.mono ?_); rintro e w4 ⟨rfl, hr4, g4⟩; have hown := hown.kept g4 (.inr (own_ne hown hbl2)); have hB := below_grown hB g4 (Nat.le_refl _); have ha4 := Lib.hid (own_slice hown); have hbr := hB)
            | (go_at_call 66; (refine (hri.out _ _ _ ha4.out hB).mono ?_); rintro e w5 ⟨rfl, hb5⟩))
          go_ret2
          have ha5 := ha4.out
          exact ⟨A', c', rfl, (ha5.below hb5).more hb5.size, fun g o e => by have := hfr g o e; omega, hcap, below_on hB hb5⟩
        · have f2 := f2 hG
          injection f2 with hE hF
          subst hE
          subst hF
          have hG' : (G == 0) = false := by rw [beq_eq_false_iff_ne]; exact hG
          clear f1 f3 hee hG ha'
          go_wp2_with (first
            | (go_at_call 65; (with_reducible refine HEN.out.mono ?_); rintro e w4 ⟨rfl, hr4, g4⟩; have hown := hown.kept g4 (.inr (own_ne hown hbl2)); have hB := below_grown hB g4 (Nat.le_refl _); have ha4 := Lib.hid (own_slice hown); have hbr := hB)
            | (go_at_call 66; (refine (hri.out _ _ _ ha4.out hB).mono ?_); rintro e w5 ⟨rfl, hb5⟩))
          go_ret2
          exact ⟨none, 0, rfl, Arr.nil _ _ _ _, Fresh.none _, Nat.le_refl _, below_on hB hb5⟩
      · have f1 := f1 hee
        injection f1 with hE hF
        subst hE
        subst hF
        have hee' : (ee == 0) = false := by rw [beq_eq_false_iff_ne]; exact hee
        clear f2 f3 hee
        go_wp2_with (go_at_call 65; (with_reducible refine HEN.out.mono ?_); rintro e w4 ⟨rfl, hr4, g4⟩; have hB := below_grown hB g4 (Nat.le_refl _))
        go_ret2
        exact ⟨none, 0, rfl, Arr.nil _ _ _ _, Fresh.none _, Nat.le_refl _, hB⟩
end Go.Proofs.YtmcgaaihdjpdgaaGreatDoor
