/- The walk through the reference's Loose. -/
import Derived.Test.YtennmnoghipnfaaLooseWalk2
namespace Go.Proofs.Ytennmnoghipnfaa
open Go.RowKit
set_option linter.unusedVariables false

section
variable {T : TypeId} {w0 w : World} {rb : Nat} {v : Value} {r : Rd} {l : List UInt8}
theorem LS.c2 (h : LS T w0 w rb v r l) : w.cell? ⟨rb, 2, none⟩ = some (.int .i64 r.e) := h.rd.cell 2
theorem LS.f2 (h : LS T w0 w rb v r l) : w.frozen? ⟨rb, 2, none⟩ = false := h.rd.frozen 2
theorem LS.set5 (h : LS T w0 w rb v r l) : LS T w0 (w.setCell ⟨rb, 2, none⟩ (.int .i64 5)) rb v { r with e := 5 } l := by
  have hne := h.ne
  refine ⟨h.rd.set_ 2 _, h.ok, ?_, h.base, h.hT, ?_⟩
  · exact Fr.own ((Fr.refl (fun k => k = rb) w).setCell (p := ⟨rb, 2, none⟩) (.inl rfl) _) h.own (fun k hk e => hne (by rw [hk, e]))
  · exact h.below.trans (Fr.below ((Fr.refl (fun k => k = rb) w).setCell (p := ⟨rb, 2, none⟩) (.inl rfl) _) h.below.size (fun k e => by rw [e]; exact h.base))
end

set_option maxHeartbeats 4000000 in
set_option maxRecDepth 100000 in
theorem ref_loose (s : ByteArray) (w : World) (hs : s.size ≤ 140737488351232) :
    Calls Try.prog 18 #[.string s] w fun e w' => e = .returned (.tuple #[.string (looseS s), .int .i64 (looseE s)]) ∧ Below w.heap.size w w' := by
  obtain ⟨i0, hi, hz0, hz1, hz2⟩ := info_parts infoB8
  obtain ⟨size, r1, hc⟩ : ∃ n r1, rdCount ⟨s, 0, 0⟩ 1048576 = (n, r1) := ⟨_, _, rfl⟩
  have hcm := rdCount_most (r := ⟨s, 0, 0⟩) rfl
  have hok0 : Rd.ok ⟨s, 0, 0⟩ := ⟨Nat.zero_le _, by show s.size ≤ _; omega⟩
  have hok1 := rdCount_ok (m := 1048576) hok0
  have HL : Hid (looseR s = loosGo size (size + 1) r1 []) := by unfold looseR; rw [hc]; exact Lib.hid rfl
  have hcc := fun W hR => qcount_any w.heap.size ⟨s, 0, 0⟩ 1048576 W hR hok0
  rw [hc] at hcm hok1 hcc
  simp only [] at hcm hok1 hcc
  have HCC := Lib.hid hcc
  clear hcc hc
  have hR1 : Qdr (w.alloc (.cells #[.string s, .int .i64 0, .int .i64 0] 60)) w.heap.size ⟨s, 0, 0⟩ := Blk.new _ _ _
  have hb1 : Below w.heap.size w (w.alloc (.cells #[.string s, .int .i64 0, .int .i64 0] 60)) := (Below.refl _ _).alloc (Nat.le_refl _) _
  go_enter Try.func18, Try.ntmps18
  go_wp2_with (go_at_call 37; refine (HCC.out _ hR1).mono ?_; rintro e w2 ⟨rfl, hR2, hg2⟩)
  have hL2 : LS 60 w w2 w.heap.size (.slice none 0 0) r1 [] := ⟨hR2, hok1, World.ownsRow_nil _ _ _ _, Nat.le_refl _, by decide, hb1.grown hg2 hb1.size (fun k hk => by injection hk with hk; rw [← hk]; exact Nat.le_refl _)⟩
  clear hR2 hg2 hR1 hb1 HCC
  go_loopw [6] (fun v6 wr => ∃ (f : Nat) (r : Rd) (l : List UInt8), l.length ≤ size ∧ size < f + l.length ∧ Hid (looseR s = loosGo size f r l) ∧ LS 60 w wr w.heap.size v6 r l) (fun v6 wr => 2 * (size - lenOf v6) + eOf wr w.heap.size)
  case atStart => exact ⟨size + 1, r1, [], Nat.zero_le _, by simp, HL, hL2⟩
  case round =>
    clear hL2 HL
    obtain ⟨f, r, l, hls, hfl, HE, hL⟩ := hrel
    obtain ⟨A6, c6, rfl⟩ := hL.form
    have c2 := hL.c2
    have f2 := hL.f2
    by_cases hgo : r.e = 0 ∧ l.length < size
    · obtain ⟨h0, hlt⟩ := hgo
      obtain ⟨f, rfl⟩ : ∃ f', f = f' + 1 := ⟨f - 1, by omega⟩
      have hbe : (r.e == 0) = true := by simp [h0]
      have hL0 := hL
      obtain ⟨n, ra, hna⟩ : ∃ n ra, rdNum r = (n, ra) := ⟨_, _, rfl⟩
      have hoka := rdNum_ok hL.ok
      have hnle := rdNum_le r
      rw [hna] at hoka hnle
      simp only [] at hoka hnle
      have HNA := Lib.hid hna
      have H0 := Lib.hid h0
      by_cases hev : n % 2 = 0
      · have hev' : ((n : Int) % 2 == 0) = true := by simp; omega
        -- what Raw is asked at, and what it hands over
        by_cases hea : ra.e = 0
        · have hbe2 : (ra.e == 0) = true := by simp [hea]
          by_cases hbad : n = 0 ∨ size - l.length < n / 2
          · have k2 := HE.out.trans (loos_bad (f := f) h0 hlt hna hea hev hbad)
            have HK : Hid (looseR s = loosGo size (f + 1) { ra with e := 5 } (l ++ ByteArray.empty.data.toList)) := Lib.hid (by
              rw [show l ++ ByteArray.empty.data.toList = l from List.append_nil l, loos_stop (.inl (show (5 : Int) ≠ 0 by decide))]; exact k2)
            have HZ := Lib.hid (rdRaw_off (r := { ra with e := 5 }) (n := (n / 2 : Nat)) (show (5 : Int) ≠ 0 by decide))
            have hcl := cat_len l ByteArray.empty
            have hez : ByteArray.empty.size = 0 := rfl
            clear k2 h0 hna
            rcases (show n = 0 ∨ (n ≠ 0 ∧ size - l.length < n / 2) from by omega) with rfl | ⟨hn0, hgt⟩
            all_goals
              go_wp2_with (first
                | (go_at_call 38; refine (qnum_to _ _ _ _ _ hL.rd hL.ok HNA).mono ?_; rintro e w1 ⟨rfl, hr, hg⟩; have hL := hL.read hr hoka hg; have c2 := hL.c2; have f2 := hL.f2; have hL5 := hL.set5)
                | (go_at_call 39; refine (qraw_to _ _ _ (_ / 2) _ _ _ hL5.rd hL5.ok HZ (by omega) (by omega)).mono ?_; rintro e w1 ⟨rfl, hr, hg⟩; have hL6 := hL5.read hr hoka hg)
                | (at_builtin; refine Lib.wpList_append_own_string _ rfl _ _ 28 9 rfl w.heap.size 5 i0 Try.underlying28 Try.underlying9 hi hz0 hz1 hz2 _ l.length _ rfl hL6.own ByteArray.empty rfl (by unfold maxLen; omega) (by omega) hL6.below.size ?_; intro v2 w2 hown2 hgr2 _))
              rw [hcl, cat_cells] at hown2
              have hL2 := hL6.wrote hown2 hgr2
              obtain ⟨A7, c7, rfl⟩ := hL2.form
              go_wp2
              go_roundw
              case rel => exact ⟨f + 1, _, _, by omega, by omega, HK, hL2⟩
              case measure => exact meas_less hL0 hL2 H0.out (by omega) (.inr ⟨by omega, show (5 : Int) ≠ 0 by decide⟩)
          · obtain ⟨z, r2, hz⟩ : ∃ z r2, rdRaw ra (n / 2 : Nat) = (z, r2) := ⟨_, _, rfl⟩
            have hokb := rdRaw_ok' (n := (n / 2 : Nat)) hoka
            rw [hz] at hokb
            simp only [] at hokb
            have key : ∃ f', size < f' + (l ++ z.data.toList).length ∧ looseR s = loosGo size f' r2 (l ++ z.data.toList) ∧ (l.length < (l ++ z.data.toList).length ∨ ((l ++ z.data.toList).length = l.length ∧ r2.e ≠ 0)) ∧ (l ++ z.data.toList).length ≤ size := by
              by_cases he2 : r2.e = 0
              · have hzl := (rdRaw_len hz he2 hea).1
                rw [← cat_len, hzl]
                exact ⟨f, by omega, HE.out.trans (loos_raw h0 hlt hna hea hev hbad hz he2), .inl (by omega), by omega⟩
              · obtain rfl := rdRaw_no hz he2 hea
                have hnil : l ++ ByteArray.empty.data.toList = l := List.append_nil l
                rw [hnil]
                exact ⟨f + 1, by omega, by rw [loos_stop (.inl he2)]; exact HE.out.trans (loos_raw_no h0 hlt hna hea hev hbad hz he2), .inr ⟨rfl, he2⟩, hls⟩
            obtain ⟨f2', k1, k2, k3, k4⟩ := key
            have HZ := Lib.hid hz
            have HK := Lib.hid k2
            have hcl := cat_len l z
            have hn1 : ¬ n = 0 := by omega
            have hn2 : ¬ size - l.length < n / 2 := by omega
            have hn0 : ((n : Int) == 0) = false := by simp; omega
            clear h0 hna hz k2 hbad
            go_wp2_with (first
              | (go_at_call 38; refine (qnum_to _ _ _ _ _ hL.rd hL.ok HNA).mono ?_; rintro e w1 ⟨rfl, hr, hg⟩; have hL := hL.read hr hoka hg; have c2 := hL.c2; have f2 := hL.f2)
              | (go_at_call 39; refine (qraw_to _ _ _ (n / 2) _ _ _ hL.rd hL.ok HZ (by omega) (by omega)).mono ?_; rintro e w1 ⟨rfl, hr, hg⟩; have hL := hL.read hr hokb hg)
              | (at_builtin; refine Lib.wpList_append_own_string _ rfl _ _ 28 9 rfl w.heap.size 5 i0 Try.underlying28 Try.underlying9 hi hz0 hz1 hz2 _ l.length _ rfl hL.own z rfl (by unfold maxLen; omega) (by omega) hL.below.size ?_; intro v2 w2 hown2 hgr2 _))
            rw [hcl, cat_cells] at hown2
            have hL2 := hL.wrote hown2 hgr2
            obtain ⟨A7, c7, rfl⟩ := hL2.form
            go_wp2
            go_roundw
            case rel => exact ⟨f2', r2, _, k4, k1, HK, hL2⟩
            case measure => exact meas_less hL0 hL2 H0.out k4 k3
        · obtain rfl : n = 0 := rdNum_no h0 hna hea
          have hbe2 : (ra.e == 0) = false := by simp [hea]
          have k2 := HE.out.trans (loos_num (f := f) h0 hlt hna hea)
          have HK : Hid (looseR s = loosGo size (f + 1) ra (l ++ ByteArray.empty.data.toList)) := Lib.hid (by
            rw [show l ++ ByteArray.empty.data.toList = l from List.append_nil l, loos_stop (.inl hea)]; exact k2)
          have HZ := Lib.hid (rdRaw_off (r := ra) (n := (0 / 2 : Nat)) hea)
          have hcl := cat_len l ByteArray.empty
          have hez : ByteArray.empty.size = 0 := rfl
          clear k2 h0 hna
          go_wp2_with (first
            | (go_at_call 38; refine (qnum_to _ _ _ _ _ hL.rd hL.ok HNA).mono ?_; rintro e w1 ⟨rfl, hr, hg⟩; have hL := hL.read hr hoka hg; have c2 := hL.c2; have f2 := hL.f2)
            | (go_at_call 39; refine (qraw_to _ _ _ (0 / 2) _ _ _ hL.rd hL.ok HZ (by omega) (by omega)).mono ?_; rintro e w1 ⟨rfl, hr, hg⟩; have hL := hL.read hr hoka hg)
            | (at_builtin; refine Lib.wpList_append_own_string _ rfl _ _ 28 9 rfl w.heap.size 5 i0 Try.underlying28 Try.underlying9 hi hz0 hz1 hz2 _ l.length _ rfl hL.own ByteArray.empty rfl (by unfold maxLen; omega) (by omega) hL.below.size ?_; intro v2 w2 hown2 hgr2 _))
          rw [hcl, cat_cells] at hown2
          have hL2 := hL.wrote hown2 hgr2
          obtain ⟨A7, c7, rfl⟩ := hL2.form
          go_wp2
          go_roundw
          case rel => exact ⟨f + 1, _, _, by omega, by omega, HK, hL2⟩
          case measure => exact meas_less hL0 hL2 H0.out (by omega) (.inr ⟨by omega, hea⟩)
      · have hev' : ((n : Int) % 2 == 0) = false := by simp; omega
        have hea : ra.e = 0 := by
          by_cases h : ra.e = 0
          · exact h
          · have := rdNum_no h0 hna h; omega
        obtain ⟨m, rb, hnb⟩ : ∃ m rb, rdNum ra = (m, rb) := ⟨_, _, rfl⟩
        have hokb := rdNum_ok hoka
        have hmle := rdNum_le ra
        rw [hnb] at hokb hmle
        simp only [] at hokb hmle
        have HNB := Lib.hid hnb
        by_cases heb : rb.e = 0
        · have hbe3 : (rb.e == 0) = true := by simp [heb]
          by_cases hbad : l.length < m + 1 ∨ 4096 < m + 1 ∨ 255 < n / 2 ∨ size - l.length < n / 2 + 4
          · have k2 := HE.out.trans (loos_bad2 (f := f) h0 hlt hna hea hev hnb heb hbad)
            have HK : Hid (looseR s = loosGo size (f + 1) { rb with e := 5 } l) := Lib.hid (by rw [loos_stop (.inl (show (5 : Int) ≠ 0 by decide))]; exact k2)
            clear k2 h0 hna hnb
            rcases (show l.length < m + 1 ∨ (m + 1 ≤ l.length ∧ 4096 < m + 1) ∨ (m + 1 ≤ l.length ∧ m + 1 ≤ 4096 ∧ 255 < n / 2) ∨ (m + 1 ≤ l.length ∧ m + 1 ≤ 4096 ∧ n / 2 ≤ 255 ∧ size - l.length < n / 2 + 4) from by omega) with g1 | ⟨g1, g2⟩ | ⟨g1, g2, g3⟩ | ⟨g1, g2, g3, g4⟩
            all_goals
              go_wp2_with (first
                | (go_at_call 38; refine (qnum_to _ _ _ _ _ hL.rd hL.ok HNA).mono ?_; rintro e w1 ⟨rfl, hr, hg⟩; have hL := hL.read hr hoka hg; have c2 := hL.c2; have f2 := hL.f2)
                | (go_at_call 38; refine (qnum_to _ _ _ _ _ hL.rd hL.ok HNB).mono ?_; rintro e w1 ⟨rfl, hr, hg⟩; have hL := hL.read hr hokb hg; have c2 := hL.c2; have f2 := hL.f2))
              have hL5 := hL.set5
              have c25 := hL5.c2
              refine wp_loop_rounds 1 ?_
              rw [rounds_succ]
              go_wp2
              go_roundw
              case rel => exact ⟨f + 1, _, l, hls, hfl, HK, hL5⟩
              case measure => exact meas_less hL0 hL5 H0.out hls (.inr ⟨rfl, show (5 : Int) ≠ 0 by decide⟩)
          · have g1 : m + 1 ≤ l.length := by omega
            have g2 : m + 1 ≤ 4096 := by omega
            have g3 : n / 2 ≤ 255 := by omega
            have g4 : n / 2 + 4 ≤ size - l.length := by omega
            have k2 := HE.out.trans (loos_copy h0 hlt hna hea hev hnb heb hbad)
            have HK := Lib.hid k2
            clear k2 hbad h0 hna hnb
            go_wp2_with (first
              | (go_at_call 38; refine (qnum_to _ _ _ _ _ hL.rd hL.ok HNA).mono ?_; rintro e w1 ⟨rfl, hr, hg⟩; have hL := hL.read hr hoka hg; have c2 := hL.c2; have f2 := hL.f2)
              | (go_at_call 38; refine (qnum_to _ _ _ _ _ hL.rd hL.ok HNB).mono ?_; rintro e w1 ⟨rfl, hr, hg⟩; have hL := hL.read hr hokb hg; have c2 := hL.c2; have f2 := hL.f2))
            go_loopw [6, 10] (fun v6 v10 wr => ∃ (k : Nat) (b : List UInt8), v10 = .int .i64 k ∧ k ≤ n / 2 + 4 ∧ Hid (b.length = l.length + k) ∧ b.length ≤ size ∧ m + 1 ≤ b.length ∧ Hid (copyL b (m + 1) (n / 2 + 4 - k) = copyL l (m + 1) (n / 2 + 4)) ∧ LS 60 w wr w.heap.size v6 rb b) (fun _ v10 _ => n / 2 + 4 - (intOf v10).toNat)
            case atStart => exact ⟨0, l, rfl, Nat.zero_le _, Lib.hid rfl, hls, g1, Lib.hid rfl, hL⟩
            case round =>
              clear hL c2 f2
              obtain ⟨k, b, rfl, hk, HBL, hbs, hdb, HC, hL⟩ := hrel
              have c2 := hL.c2
              by_cases hkl : k < n / 2 + 4
              · have hwn := hL.own
                have hwn' := hwn
                rcases hwn'.2 with ⟨rfl, h0⟩ | ⟨g, cap, cur, rfl, hbg, hh, hnc, hcm2, _⟩
                · omega
                have hi2 : b.length - (m + 1) < b.length := by omega
                have hc := hwn.cells (g := g) rfl (b.length - (m + 1)) (.int .u8 (bat b (b.length - (m + 1))).toNat) (by
                  rw [Lib.byteCells, List.getElem?_map]
                  unfold bat
                  rw [List.getD_eq_getElem?_getD, List.getElem?_eq_getElem hi2]
                  rfl)
                have hadd : (⟨g, 0, none⟩ : Addr).add (b.length - (m + 1)) = ⟨g, b.length - (m + 1), none⟩ := by unfold Addr.add; split <;> simp_all
                rw [hadd] at hc
                have hlt2 := UInt8.toNat_lt (bat b (b.length - (m + 1)))
                have HN := copy_step hkl HC
                have hs2 : (b ++ [bat b (b.length - (m + 1))]).length = b.length + 1 := by simp
                have hby : Lib.byteCells b ++ [Value.int IntKind.u8 ((bat b (b.length - (m + 1))).toNat : Int)] = Lib.byteCells (b ++ [bat b (b.length - (m + 1))]) := by
                  simp [Lib.byteCells]
                have k0 : (0 : Int) ≤ (b.length : Int) - ((m : Int) + 1) := by omega
                have k1 : (b.length : Int) - ((m : Int) + 1) < b.length := by omega
                have hbz := HBL.out
                clear hadd hwn' HC
                have hbse := hL.below.size
                clear hbz
                go_wp2_with (at_builtin; refine wpList_push rfl _ _ _ rfl Try.underlying28 hi hz0 hz1 hz2 rfl (by decide) hwn rfl rfl rfl (by simp [Value.oneCell']) (by unfold maxLen; omega) (by omega) hbse ?_; intro g2 cap2 w1 hown1 hgr1 hat1)
                rw [hby, ← hs2] at hown1
                have hL2 := hL.wrote hown1 hgr1
                have hsz := HBL.out
                go_roundw
                case rel => exact ⟨k + 1, _, by go_num, by omega, Lib.hid (by rw [hs2]; omega), by rw [hs2]; omega, by rw [hs2]; omega, HN, by rw [hs2] at hL2; exact hL2⟩
                case measure => simp [intOf]; omega
              · obtain rfl : k = n / 2 + 4 := by omega
                have hc0 := HC.out
                rw [Nat.sub_self] at hc0
                have hc1 : b = copyL l (m + 1) (n / 2 + 4) := hc0
                have hbl := HBL.out
                have hk2 := HK.out
                rw [← hc1] at hk2
                have HK2 := Lib.hid hk2
                obtain ⟨A8, c8, rfl⟩ := hL.form
                clear HC hc0 hc1 hk2 HBL HK
                have hbl2 : l.length < b.length := by omega
                have hbl3 : size < f + b.length := by omega
                clear hbl
                go_wp2
                go_roundw
                case rel => exact ⟨f, rb, b, hbs, hbl3, HK2, hL⟩
                case measure => exact meas_less hL0 hL H0.out hbs (.inl hbl2)
        · obtain rfl : m = 0 := rdNum_no hea hnb heb
          have hbe3 : (rb.e == 0) = false := by simp [heb]
          have k2 := HE.out.trans (loos_num2 (f := f) h0 hlt hna hea hev hnb heb)
          have HK : Hid (looseR s = loosGo size (f + 1) rb l) := Lib.hid (by rw [loos_stop (.inl heb)]; exact k2)
          clear k2 h0 hna hnb
          go_wp2_with (first
            | (go_at_call 38; refine (qnum_to _ _ _ _ _ hL.rd hL.ok HNA).mono ?_; rintro e w1 ⟨rfl, hr, hg⟩; have hL := hL.read hr hoka hg; have c2 := hL.c2; have f2 := hL.f2)
            | (go_at_call 38; refine (qnum_to _ _ _ _ _ hL.rd hL.ok HNB).mono ?_; rintro e w1 ⟨rfl, hr, hg⟩; have hL := hL.read hr hokb hg; have c2 := hL.c2; have f2 := hL.f2))
          refine wp_loop_rounds 1 ?_
          rw [rounds_succ]
          go_wp2
          go_roundw
          case rel => exact ⟨f + 1, rb, l, hls, hfl, HK, hL⟩
          case measure => exact meas_less hL0 hL H0.out hls (.inr ⟨rfl, heb⟩)
    · have hf := fin_end (HE.out.trans (loos_stop (f := f) (by omega)))
      have hokE := rdEnd_ok hL.ok
      have hcase : (r.e == 0) = false ∨ ((r.e == 0) = true ∧ size = l.length) := by
        by_cases h0 : r.e = 0
        · right; exact ⟨by simp [h0], by omega⟩
        · left; simp [h0]
      have HGO := Lib.hid hgo
      clear hgo
      by_cases hE : (rdEnd r).e = 0
      · have hz := hf.2.1 hE
        have hz1' := hf.1
        rw [hE] at hz1'
        have HF := Lib.hid hz
        have HF1 := Lib.hid hz1'
        have hend := fun W hR => qend_any w.heap.size r W hR hL.ok
        rw [hE] at hend
        have HEN := Lib.hid hend
        clear hf hz hz1' hend
        rcases hcase with hb0 | ⟨hb0, hsz⟩
        all_goals
          go_wp2_with (go_at_call 40; refine (HEN.out _ hL.rd).mono ?_; rintro e w1 ⟨rfl, hr, hg⟩; have hL := hL.read hr hokE hg; have hcv := run_own_string (P := Try.prog) w1 28 9 5 Try.underlying28 Try.underlying5 Try.underlying9 l hL.own)
          go_ret2
          rw [HF.out, HF1.out]
          exact ⟨rfl, hL.below⟩
      · have hz := hf.2.2 hE
        have hz1' := hf.1
        have HF := Lib.hid hz
        have HF1 := Lib.hid hz1'
        have hb9 := bne0 hE
        have HEN := Lib.hid (fun W hR => qend_any w.heap.size r W hR hL.ok)
        clear hf hz hz1'
        generalize hre : (rdEnd r).e = x at *
        rcases hcase with hb0 | ⟨hb0, hsz⟩
        all_goals
          go_wp2_with (go_at_call 40; refine (HEN.out _ hL.rd).mono ?_; rintro e w1 ⟨rfl, hr, hg⟩; have hL := hL.read hr hokE hg)
          go_ret2
          rw [HF.out, HF1.out]
          exact ⟨rfl, hL.below⟩
end Go.Proofs.Ytennmnoghipnfaa
