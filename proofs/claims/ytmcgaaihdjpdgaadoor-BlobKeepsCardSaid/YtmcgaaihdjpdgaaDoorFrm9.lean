/- Chapter 2 (frames): the document's One and Scan walked. -/
import Derived.Test.YtmcgaaihdjpdgaaDoorFrm8
import Derived.Test.YtmcgaaihdjpdgaaDoorCls
namespace Go.Proofs.YtmcgaaihdjpdgaaDoor
open Go.RowKit
set_option linter.unusedVariables false

set_option maxHeartbeats 2000000 in
set_option maxRecDepth 100000 in
theorem rone_any (s : ByteArray) (w : World) (hs : s.size ≤ 90000000) : Calls Tryd.prog 49 #[.string s] w fun e w' => e = .returned (oneV s) ∧ Below w.heap.size w w' := by
  by_cases h0 : s.size = 0
  · rw [oneV_bad (e := 3) (by unfold oneE; rw [if_pos h0]) (by decide)]
    have hs0 : s = ⟨#[]⟩ := by apply ba_ext; apply List.eq_nil_of_length_eq_zero; rw [← bt_size]; exact h0
    subst hs0
    go_enter Tryd.func49, Tryd.ntmps49
    go_wp2
    go_ret3
    exact ⟨rfl, Below.refl _ _⟩
  · have hne : s ≠ ⟨#[]⟩ := fun e => h0 (by rw [e]; rfl)
    obtain ⟨m0, m1⟩ := bl_mt (s := s) (fun e => h0 (by rw [bt_size, e]; rfl))
    have g0 := bt_get s 0 (by omega)
    have i0 : 0 < s.size := by omega
    by_cases hb : badHead s
    · rw [oneV_bad (e := 5) (by unfold oneE; rw [if_neg h0, if_pos hb]) (by decide)]
      unfold badHead at hb
      by_cases h1 : bt s.data.toList 0 = 181
      · obtain ⟨h2, h3⟩ : 1 < s.size ∧ bt s.data.toList 1 ≠ 126 := hb.resolve_left (fun h => h h1)
        have g1 := bt_get s 1 h2
        have i1 : (1 : Int) < s.size := by omega
        rw [h1] at g0
        have n1 : ((bt s.data.toList 1).toNat : Int) ≠ 126 := fun e => h3 (UInt8.toNat_inj.1 (by rw [show (126 : UInt8).toNat = 126 from rfl]; omega))
        have n2 : (((bt s.data.toList 1).toNat : Int) != 126) = true := by rw [bne_iff_ne]; exact n1
        generalize bt s.data.toList 1 = c1 at *
        have t0 : ((181 : UInt8).toNat : Int) = 181 := rfl
        clear hb h1 h3
        go_enter Tryd.func49, Tryd.ntmps49
        go_wp2
        go_ret3
        exact ⟨rfl, Below.refl _ _⟩
      · have n1 : ((bt s.data.toList 0).toNat : Int) ≠ 181 := fun e => h1 (UInt8.toNat_inj.1 (by rw [show (181 : UInt8).toNat = 181 from rfl]; omega))
        have n2 : (((bt s.data.toList 0).toNat : Int) != 181) = true := by rw [bne_iff_ne]; exact n1
        generalize bt s.data.toList 0 = c0 at *
        clear hb h1
        go_enter Tryd.func49, Tryd.ntmps49
        go_wp2
        go_ret3
        exact ⟨rfl, Below.refl _ _⟩
    · have h1 : bt s.data.toList 0 = 181 := Classical.byContradiction fun h => hb (.inl h)
      have h2 : 1 < s.size → bt s.data.toList 1 = 126 := fun h => Classical.byContradiction fun h2 => hb (.inr ⟨h, h2⟩)
      rw [h1] at g0
      have t0 : ((181 : UInt8).toNat : Int) = 181 := rfl
      have t1 : ((126 : UInt8).toNat : Int) = 126 := rfl
      by_cases h6 : s.size < 6
      · rw [oneV_bad (e := 3) (by unfold oneE; rw [if_neg h0, if_neg hb, if_pos h6]) (by decide)]
        have i6 : (s.size : Int) < 6 := by omega
        clear hb h1
        by_cases hs1 : 1 < s.size
        · have g1 := bt_get s 1 hs1
          rw [h2 hs1] at g1
          have i1 : (1 : Int) < s.size := by omega
          clear h2
          go_enter Tryd.func49, Tryd.ntmps49
          go_wp2
          go_ret3
          exact ⟨rfl, Below.refl _ _⟩
        · have i1 : ¬ (1 : Int) < s.size := by omega
          clear h2
          go_enter Tryd.func49, Tryd.ntmps49
          go_wp2
          go_ret3
          exact ⟨rfl, Below.refl _ _⟩
      · have g1 := bt_get s 1 (by omega)
        rw [h2 (by omega)] at g1
        have i1 : (1 : Int) < s.size := by omega
        have i6 : ¬ (s.size : Int) < 6 := by omega
        have j6 : (6 : Int) ≤ s.size := by omega
        have k6 : ¬ s.size < 6 := h6
        have hx4 : (s.extract 2 6).size = 4 := by rw [ByteArray.size_extract]; omega
        have HN1 := Lib.hid (fun W => rnum_any (s.extract 2 6) W hx4)
        obtain ⟨N, hN⟩ : ∃ N, num4 (s.extract 2 6).data.toList = N := ⟨_, rfl⟩
        have hNl := num4_lt (s.extract 2 6).data.toList
        rw [hN] at HN1 hNl
        by_cases hbig : 65536 < N
        · rw [oneV_bad (e := 4) (by unfold oneE; rw [if_neg h0, if_neg hb, if_neg h6, hN, if_pos hbig]) (by decide)]
          have n1 : (65536 : Int) < N := by omega
          clear hb h1 h2 hN
          go_enter Tryd.func49, Tryd.ntmps49
          go_wp2_with (go_at_call 71; (with_reducible refine (HN1.out _).mono ?_); rintro e w2 ⟨rfl, rfl⟩)
          go_ret3
          exact ⟨rfl, Below.refl _ _⟩
        · have n1 : ¬ (65536 : Int) < N := by omega
          by_cases hsh : s.size < 10 + N
          · rw [oneV_bad (e := 3) (by unfold oneE; rw [if_neg h0, if_neg hb, if_neg h6, hN, if_neg hbig, if_pos hsh]) (by decide)]
            have n2 : (s.size : Int) < 10 + N := by omega
            clear hb h1 h2 hN
            go_enter Tryd.func49, Tryd.ntmps49
            go_wp2_with (go_at_call 71; (with_reducible refine (HN1.out _).mono ?_); rintro e w2 ⟨rfl, rfl⟩)
            go_ret3
            exact ⟨rfl, Below.refl _ _⟩
          · have n2 : ¬ (s.size : Int) < 10 + N := by omega
            have n3 : (10 : Int) + N ≤ s.size := by omega
            have n4 : 10 + N ≤ s.size := by omega
            have n5 : (10 : Int) ≤ s.size := by omega
            have n6 : ¬ s.size < 10 := by omega
            have tn : ((10 : Int) + N).toNat = 10 + N := by omega
            have hx5 : (s.extract 6 10).size = 4 := by rw [ByteArray.size_extract]; omega
            have hx6 : (s.extract 10 (10 + N)).size = N := by rw [ByteArray.size_extract]; omega
            have hx7 : (s.extract 2 6 ++ s.extract 10 (10 + N)).size = 4 + N := by rw [ByteArray.size_append, hx4, hx6]
            have HN2 := Lib.hid (fun W => rnum_any (s.extract 6 10) W hx5)
            have HSM := Lib.hid (fun W => rsum_any (s.extract 2 6 ++ s.extract 10 (10 + N)) W (by rw [hx7]; omega))
            have hE : oneE s = if sumC (s.extract 2 6 ++ s.extract 10 (10 + N)).data.toList ≠ num4 (s.extract 6 10).data.toList then 6 else 0 := by unfold oneE; rw [if_neg h0, if_neg hb, if_neg h6, hN, if_neg hbig, if_neg hsh]
            have hON : oneN s = 10 + N := by unfold oneN; rw [hN]
            have hOP : oneP s = s.extract 10 (10 + N) := by unfold oneP; rw [hON]
            obtain ⟨Q, hQ⟩ : ∃ Q, num4 (s.extract 6 10).data.toList = Q := ⟨_, rfl⟩
            obtain ⟨U, hU⟩ : ∃ U, sumC (s.extract 2 6 ++ s.extract 10 (10 + N)).data.toList = U := ⟨_, rfl⟩
            rw [hQ] at HN2 hE
            rw [hU] at HSM hE
            have hbd : ¬ 9223372036854775807 < 4 + N := by omega
            have hbd2 : 4 + N ≤ 9223372036854775807 := by omega
            obtain ⟨X, hX⟩ : ∃ X, s.extract 2 6 = X := ⟨_, rfl⟩
            obtain ⟨Y, hY⟩ : ∃ Y, s.extract 10 (10 + N) = Y := ⟨_, rfl⟩
            obtain ⟨Z, hZ⟩ : ∃ Z, s.extract 6 10 = Z := ⟨_, rfl⟩
            rw [hX] at HN1 HSM hx4
            rw [hY] at HSM hx6 hOP
            rw [hZ] at HN2
            clear hx7 hx5
            by_cases hq : U = Q
            · rw [oneV_ok (by rw [hE, if_neg (fun h => h hq)]), hOP, hON]
              subst hq
              clear hb h1 h2 hN hE hON hOP hQ hU hNl
              go_enter Tryd.func49, Tryd.ntmps49
              go_wp2_with (go_at_call 71; (with_reducible refine (HN1.out _).mono ?_); rintro e w2 ⟨rfl, rfl⟩)
              refine wp_region_cls (by kernel_rfl) (by kernel_rfl) ?_
              repeat (go_big_quiet_step (first | (go_at_call 71; with_reducible exact cls_call ((HN2.out _).mono (fun e w' h => ⟨h.1, h.2 ▸ Below.refl _ _⟩))) | (go_at_call 72; with_reducible exact cls_call (HSM.out _)) | (fail)))
              refine wpQuiet_nil ?_
              rintro w9 ⟨p, rfl⟩
              have hbp := p.h
              go_wp2
              go_ret3
              exact ⟨rfl, hbp⟩
            · rw [oneV_bad (e := 6) (by rw [hE, if_pos hq]) (by decide)]
              have q1 : ((U : Int) != (Q : Int)) = true := by rw [bne_iff_ne]; omega
              have q2 : ¬ (U : Int) = (Q : Int) := by omega
              clear hb h1 h2 hN hE hON hOP hQ hU hNl
              go_enter Tryd.func49, Tryd.ntmps49
              go_wp2_with (go_at_call 71; (with_reducible refine (HN1.out _).mono ?_); rintro e w2 ⟨rfl, rfl⟩)
              refine wp_region_cls (by kernel_rfl) (by kernel_rfl) ?_
              repeat (go_big_quiet_step (first | (go_at_call 71; with_reducible exact cls_call ((HN2.out _).mono (fun e w' h => ⟨h.1, h.2 ▸ Below.refl _ _⟩))) | (go_at_call 72; with_reducible exact cls_call (HSM.out _)) | (fail)))
              refine wpQuiet_nil ?_
              rintro w9 ⟨p, rfl⟩
              have hbp := p.h
              go_wp2
              go_ret3
              exact ⟨rfl, hbp⟩
set_option maxHeartbeats 2000000 in
set_option maxRecDepth 100000 in
theorem rscan_any (s : ByteArray) (w : World) (hs : s.size ≤ 90000000) : Calls Tryd.prog 28 #[.string s] w (ScanOut w (scanB s 0)) := by
  obtain ⟨i2, fi0, fz0, fz1, fz2⟩ := info_parts infoStrF
  have HO := Lib.hid (fun i W => rone_any (s.extract i s.size) W (by rw [ByteArray.size_extract]; omega))
  go_enter Tryd.func28, Tryd.ntmps28
  go_wp2
  go_loopw [5, 6, 7] (fun vo va vl wr => ∃ (i k : Nat) (l : List ByteArray), i ≤ s.size ∧ k ≤ i ∧ l.length ≤ i ∧ va = .int .i64 i ∧ vl = .int .i64 k ∧ wr.ownsRow w.heap.size 9 1 vo l.length (l.map Value.string) ∧ Hid (l ++ scanB s i = scanB s 0) ∧ Below w.heap.size w wr) (fun _ va _ _ => s.size - (intOf va).toNat)
  case atStart => exact ⟨0, 0, [], Nat.zero_le _, Nat.le_refl _, Nat.le_refl _, rfl, rfl, World.ownsRow_nil _ _ _ _, Lib.hid rfl, Below.refl _ _⟩
  case round =>
    obtain ⟨i, k, l, hi, hk, hl, rfl, rfl, hown, HS, hB⟩ := hrel
    by_cases hlt : i < s.size
    · have i1 : (i : Int) < s.size := by omega
      have i2' : (i : Int) ≤ s.size := by omega
      obtain ⟨x, hx⟩ : ∃ x, s.extract i s.size = x := ⟨_, rfl⟩
      have hxs : x.size = s.size - i := by rw [← hx, ByteArray.size_extract]; omega
      have HO1 := Lib.hid (fun W => HO.out i W)
      rw [hx] at HO1
      rcases oneE_cases x with h | h | h
      · rw [oneV_ok h] at HO1
        have hf := one_fits h
        have hst := HS.out
        rw [scan_ok hlt (by rw [hx]; exact h), hx] at hst
        have hst2 : Hid ((l ++ [oneP x]) ++ scanB s (i + oneN x) = scanB s 0) := Lib.hid (by rw [List.append_assoc]; exact hst)
        have hn10 : 10 ≤ oneN x := by unfold oneN; omega
        generalize oneN x = N at *
        generalize oneP x = P at *
        clear HS hst h
        have HW := Lib.hid hown
        have HBB := Lib.hid hB
        clear hown hB
        go_wp2_with (first
          | (go_at_call 49; (with_reducible refine (HO1.out _).mono ?_); rintro e w2 ⟨rfl, hb2⟩; have hown2 := own_below HW.out hb2; have hB2 := below_on HBB.out hb2; have hs2 := hB2.size)
          | (at_builtin; refine wpList_push rfl _ _ _ rfl Tryd.underlying60 fi0 fz0 fz1 fz2 rfl (by decide) hown2 rfl rfl rfl (by simp [Value.oneCell']) (by unfold maxLen; omega) (by omega) hs2 ?_; intro g6 cap6 w6 hown6 hgr6 hat6)
          | fail)
        go_roundw
        case rel => exact ⟨i + N, k, l ++ [P], by omega, by omega, by simp; omega, by go_num, rfl, by rw [List.length_append, List.map_append]; exact hown6, hst2, hB2.grown hgr6 hs2 (fun j hj => (hown2.lt j hj).1)⟩
        case measure => simp [intOf] <;> omega
      · rw [oneV_bad h (by decide)] at HO1
        have hst := HS.out
        rw [scan_short hlt (by rw [hx]; exact h), List.append_nil] at hst
        have HST := Lib.hid hst
        clear HS hst h
        go_wp2_with (go_at_call 49; (with_reducible refine (HO1.out _).mono ?_); rintro e w2 ⟨rfl, hb2⟩; have hown2 := own_below hown hb2; have hB2 := below_on hB hb2)
        go_ret3
        unfold ScanOut
        rw [← HST.out]
        exact ⟨_, _, _, rfl, hown2, hB2⟩
      · have h3 : oneE x ≠ 3 := by rcases h with h | h | h <;> rw [h] <;> decide
        have h0 : oneE x ≠ 0 := by rcases h with h | h | h <;> rw [h] <;> decide
        rw [oneV_bad rfl h0] at HO1
        have hst := HS.out
        rw [scan_on hlt (by rw [hx]; exact h0) (by rw [hx]; exact h3)] at hst
        have HST := Lib.hid hst
        generalize oneE x = E at *
        have q1 : (E == 0) = false := by rw [beq_eq_false_iff_ne]; exact h0
        have q2 : (E == 3) = false := by rw [beq_eq_false_iff_ne]; exact h3
        clear HS hst h
        go_wp2_with (go_at_call 49; (with_reducible refine (HO1.out _).mono ?_); rintro e w2 ⟨rfl, hb2⟩; have hown2 := own_below hown hb2; have hB2 := below_on hB hb2)
        go_roundw
        case rel => exact ⟨i + 1, k + 1, l, by omega, by omega, by omega, by go_num, by go_num, hown2, HST, hB2⟩
        case measure => simp [intOf] <;> omega
    · have hie : i = s.size := by omega
      subst hie
      have hst := HS.out
      rw [scan_end (by omega), List.append_nil] at hst
      have HST := Lib.hid hst
      clear HS hst
      go_wp2
      go_ret3
      unfold ScanOut
      rw [← HST.out]
      exact ⟨_, _, _, rfl, hown, hB⟩
end Go.Proofs.YtmcgaaihdjpdgaaDoor
