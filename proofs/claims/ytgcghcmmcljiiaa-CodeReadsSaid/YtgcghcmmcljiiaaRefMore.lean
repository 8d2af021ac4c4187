/- The walks through the reference's reader: Count, Text, Signed, and its lists. -/
import Derived.Test.YtgcghcmmcljiiaaRefNum
namespace Go.Proofs.Ytgcghcmmcljiiaa
open Go.RowKit

set_option maxRecDepth 100000 in
theorem qsigned_any (b : Nat) (r : Rd) (w : World) (h : Qdr w b r) (ho : r.ok) :
    Calls Try.prog 43 #[.pointer (some ⟨b, 0, none⟩)] w fun e w' => e = .returned (.int .i64 (rdSigned r).1) ∧ Qdr w' b (rdSigned r).2 ∧ w.grownBy w' (some b) := by
  have hc := qnum_any b r w h ho
  unfold rdSigned
  obtain ⟨n, r1, hx⟩ : ∃ n r1, rdNum r = (n, r1) := ⟨_, _, rfl⟩
  have hle := rdNum_le r
  rw [hx] at hc hle ⊢
  simp only [] at hc hle ⊢
  have HC := Lib.hid hc
  clear hc hx
  by_cases hodd : n % 2 = 1
  · have HX : Hid (sgn n = -((n : Int) / 2) - 1) := if_pos hodd
    have h1 : ((n : Int) % 2 == 1) = true := by simp; omega
    clear hodd
    go_enter Try.func43, Try.ntmps43
    go_wp2_with (go_at_call 42; refine HC.out.mono ?_; rintro e w1 ⟨rfl, h1, g1⟩)
    go_ret
    rw [HX.out]
    exact ⟨by go_num, h1, g1⟩
  · have HX : Hid (sgn n = (n : Int) / 2) := if_neg hodd
    have h1 : ((n : Int) % 2 == 1) = false := by simp; omega
    clear hodd
    go_enter Try.func43, Try.ntmps43
    go_wp2_with (go_at_call 42; refine HC.out.mono ?_; rintro e w1 ⟨rfl, h1, g1⟩)
    go_ret
    rw [HX.out]
    exact ⟨by go_num, h1, g1⟩

set_option maxRecDepth 100000 in
theorem qcount_any (b : Nat) (r : Rd) (most : Int) (w : World) (h : Qdr w b r) (ho : r.ok) :
    Calls Try.prog 45 #[.pointer (some ⟨b, 0, none⟩), .int .i64 most] w fun e w' => e = .returned (.int .i64 (rdCount r most).1) ∧ Qdr w' b (rdCount r most).2 ∧ w.grownBy w' (some b) := by
  have hc := qnum_any b r w h ho
  obtain ⟨n, r1, hx⟩ : ∃ n r1, rdNum r = (n, r1) := ⟨_, _, rfl⟩
  have HX : rdCount r most = if r1.e = 0 ∧ most < n then (0, { r1 with e := 4 }) else (n, r1) := by unfold rdCount; rw [hx]
  rw [hx] at hc
  simp only [] at hc
  have HC := Lib.hid hc
  clear hc hx
  by_cases h0 : r1.e = 0
  · have hb0 : (r1.e == 0) = true := by simpa using h0
    by_cases hlt : most < n
    · rw [if_pos ⟨h0, hlt⟩] at HX
      have HX := Lib.hid HX
      clear h0
      go_enter Try.func45, Try.ntmps45
      go_wp2_with (go_at_call 42; refine HC.out.mono ?_; rintro e w1 ⟨rfl, h1, g1⟩; have c2 := h1.c2; have f2 := h1.f2)
      go_ret
      rw [HX.out]
      exact ⟨rfl, h1.set2 4, only_setCell g1 (.inl rfl) _⟩
    · rw [if_neg (by omega)] at HX
      have HX := Lib.hid HX
      clear h0
      go_enter Try.func45, Try.ntmps45
      go_wp2_with (go_at_call 42; refine HC.out.mono ?_; rintro e w1 ⟨rfl, h1, g1⟩; have c2 := h1.c2; have f2 := h1.f2)
      go_ret
      rw [HX.out]
      exact ⟨rfl, h1, g1⟩
  · have hb0 : (r1.e == 0) = false := by simpa using h0
    rw [if_neg (by omega)] at HX
    have HX := Lib.hid HX
    go_enter Try.func45, Try.ntmps45
    go_wp2_with (go_at_call 42; refine HC.out.mono ?_; rintro e w1 ⟨rfl, h1, g1⟩; have c2 := h1.c2; have f2 := h1.f2)
    go_ret
    rw [HX.out]
    exact ⟨rfl, h1, g1⟩

set_option maxRecDepth 100000 in
theorem qtext_any (b : Nat) (r : Rd) (most : Int) (w : World) (h : Qdr w b r) (ho : r.ok) :
    Calls Try.prog 46 #[.pointer (some ⟨b, 0, none⟩), .int .i64 most] w fun e w' => e = .returned (.string (rdText r most).1) ∧ Qdr w' b (rdText r most).2 ∧ w.grownBy w' (some b) := by
  have hc := qcount_any b r most w h ho
  have hle := rdCount_le r most
  have ho1 := rdCount_ok (m := most) ho
  unfold rdText
  obtain ⟨n, r1, hx⟩ : ∃ n r1, rdCount r most = (n, r1) := ⟨_, _, rfl⟩
  rw [hx] at hc hle ho1 ⊢
  simp only [] at hc hle ho1 ⊢
  have HC := Lib.hid hc
  clear hc hx
  go_enter Try.func46, Try.ntmps46
  go_wp2_with (first | (go_at_call 45; refine HC.out.mono ?_; rintro e w1 ⟨rfl, h1, g1⟩) | (go_at_call 44; refine (qraw_any _ _ _ _ (by assumption) ho1 (by omega) (by omega)).mono ?_; rintro e w2 ⟨rfl, h2, g2⟩))
  go_ret
  exact ⟨rfl, h2, only_trans g1 g2⟩

/-- Where the reference's reading of a list stands: no error yet; or one, and nothing will come of it. -/
def NumsQ (r : Rd) (most : Int) (n : Nat) (r1 : Rd) (j : Nat) (done : List Nat) (st : Rd) : Prop := (st.e = 0 ∧ done.length ≤ st.at_ ∧ NumsAt n r1 j done st) ∨ (st.e ≠ 0 ∧ rdNums r most = ([], st))
def TextsQ (r : Rd) (most each : Int) (n : Nat) (r1 : Rd) (j : Nat) (done : List ByteArray) (st : Rd) : Prop := (st.e = 0 ∧ done.length ≤ st.at_ ∧ TextsAt each n r1 j done st) ∨ (st.e ≠ 0 ∧ rdTexts r most each = ([], st))

set_option maxHeartbeats 1000000 in
set_option maxRecDepth 100000 in
theorem qnums_any (b : Nat) (r : Rd) (most : Int) (w : World) (h : Qdr w b r) (ho : r.ok) (hsz : r.s.size ≤ 1099511627776) :
    Calls Try.prog 47 #[.pointer (some ⟨b, 0, none⟩), .int .i64 most] w fun e w' => ∃ A c, e = .returned (.slice A (rdNums r most).1.length c) ∧ Arr w' w'.heap.size 1 A (rdNums r most).1.length ((rdNums r most).1.map natV) ∧ Fresh w.heap.size A ∧ Qdr w' b (rdNums r most).2 ∧ w.grownBy w' (some b) := by
  have hc := qcount_any b r most w h ho
  have hle := rdCount_le r most
  have ho1 := rdCount_ok (m := most) ho
  have hs1 := rdCount_s r most
  have hp1 := fun h => rdCount_pos (r := r) (m := most) h
  obtain ⟨n, r1, hx⟩ : ∃ n r1, rdCount r most = (n, r1) := ⟨_, _, rfl⟩
  have HE : ∀ st, (rdNumsGo n r1).2 = st → st.e ≠ 0 → rdNums r most = ([], st) := fun st h he => rdNums_err (by rw [hx]; exact h) he
  have HF : ∀ done st, rdNumsGo n r1 = (done, st) → (st.e = 0 ∨ done = []) → rdNums r most = (done, st) := fun done st h he => rdNums_fin (by rw [hx]; exact h) he
  rw [hx] at hc hle ho1 hs1 hp1
  simp only [] at hc hle ho1 hs1 hp1
  have hsz1 : r1.s.size ≤ 1099511627776 := by rw [hs1]; exact hsz
  have HC := Lib.hid hc
  have HE := Lib.hid HE
  have HF := Lib.hid HF
  have HP := Lib.hid hp1
  clear hc hx hs1 hp1
  obtain ⟨i0, hi, hz0, hz1, hz2⟩ := info_parts infoInt
  have hblt : b < w.heap.size := Blk.lt h
  go_enter Try.func47, Try.ntmps47
  go_wp2_with (go_at_call 45; refine HC.out.mono ?_; rintro e w1 ⟨rfl, h1, g1⟩)
  go_loopw [6, 7] (fun v6 v7 wr => ∃ (j : Nat) (done : List Nat) (st : Rd), j ≤ n ∧ v7 = .int .i64 j ∧ done.length ≤ 1099511627777 ∧ Qdr wr b st ∧ st.ok ∧ st.s.size ≤ 1099511627776 ∧ Hid (NumsQ r most n r1 j done st) ∧ wr.ownsRow w.heap.size 3 1 v6 done.length (done.map natV) ∧ w.grownBy wr (some b)) (fun _ v7 _ => n - (intOf v7).toNat)
  case atStart =>
    refine ⟨0, [], r1, Nat.zero_le _, rfl, by simp, h1, ho1, hsz1, ?_, World.ownsRow_nil _ _ _ _, g1⟩
    by_cases he : r1.e = 0
    · exact .inl ⟨he, Nat.zero_le _, NumsAt.start _ _⟩
    · refine .inr ⟨he, HF.out [] r1 ?_ (.inr rfl)⟩
      rcases Nat.eq_zero_or_pos n with h | h
      · rw [h]; rfl
      · exact absurd (HP.out h) he
  case round =>
    obtain ⟨j, done, st, hj, rfl, hd, hr, hok, hss, HN, hown, hg⟩ := hrel
    have c2 := hr.c2
    by_cases h0 : st.e = 0
    · have hb0 : (st.e == 0) = true := by simpa using h0
      have hb1 : (st.e != 0) = false := by simpa using h0
      have HN2 : Hid (done.length ≤ st.at_ ∧ NumsAt n r1 j done st) := by
        rcases HN.out with hh | hh
        · exact hh.2
        · exact absurd h0 hh.1
      have H0 := Lib.hid h0
      clear h0
      by_cases hlt : j < n
      · have hcn := qnum_any b st wr hr hok
        have ho2 := rdNum_ok hok
        have hs2 := rdNum_s st
        have hst := fun h => HN2.out.2.step hlt h
        have her := fun h => HN2.out.2.err hlt h
        have had := fun h => rdNum_adv (r := st) h
        have hat0 := hok.1
        have hd2 := HN2.out.1
        obtain ⟨x, st2, hx⟩ : ∃ x st2, rdNum st = (x, st2) := ⟨_, _, rfl⟩
        rw [hx] at hcn ho2 hs2 had hst her
        simp only [] at hcn ho2 hs2 had hst her
        have hss2 : st2.s.size ≤ 1099511627776 := by rw [hs2]; exact hss
        have hnext : Hid (NumsQ r most n r1 (j + 1) (done ++ [x]) st2) := by
          by_cases he : st2.e = 0
          · refine .inl ⟨he, ?_, hst he⟩
            have := (had he).1
            rw [List.length_append]
            simp only [List.length_cons, List.length_nil]
            omega
          · exact .inr ⟨he, HE.out st2 (her he) he⟩
        have HC2 := Lib.hid hcn
        have hgs := hg.size
        clear hcn hx hs2 hst her had
        go_wp2_with (first | (go_at_call 42; refine HC2.out.mono ?_; rintro e w2 ⟨rfl, h2, g2⟩; have hown2 := hown.kept g2 (.inr (fun e => by have := (hown.lt b e).1; omega)); have hs3 := g2.size) | (at_builtin; refine wpList_push rfl _ _ _ rfl Try.underlying34 hi hz0 hz1 hz2 rfl (by decide) (by assumption) rfl rfl rfl (natV_one x) (by unfold maxLen; omega) (by omega) (by omega) ?_; intro g cap w3 hown3 hgr3 hat3))
        have hg2 := only_trans hg g2
        have h3 : Qdr w3 b st2 := Blk.grown h2 hgr3 (fun e => by have := (hown.lt b e.symm).1; omega)
        have hg3 : w.grownBy w3 (some b) := ⟨hgr3.os.trans hg2.os, hgr3.tape.trans hg2.tape, hgr3.output.trans hg2.output, Nat.le_trans hg2.size hgr3.size, fun k hk hne => (hgr3.block k (Nat.lt_of_lt_of_le hk hg2.size) (fun e => by have := (hown.lt k e.symm).1; omega)).trans (hg2.block k hk hne)⟩
        go_roundw
        case rel => exact ⟨j + 1, done ++ [x], st2, by omega, by go_num, by simp; omega, h3, ho2, hss2, hnext, by rw [List.length_append, List.map_append]; exact hown3, hg3⟩
        case measure => simp [intOf]; omega
      · have HR := Lib.hid (HF.out done st (HN2.out.2.fin (by omega)) (.inl H0.out))
        obtain ⟨A, c, rfl, hcap, harr, hfr⟩ := own_arr hown
        go_wp2
        go_ret
        rw [HR.out]
        exact ⟨A, c, rfl, harr, hfr, hr, hg⟩
    · have hb0 : (st.e == 0) = false := by simpa using h0
      have hb1 : (st.e != 0) = true := by simpa using h0
      have HR : Hid (rdNums r most = ([], st)) := by
        rcases HN.out with hh | hh
        · exact absurd hh.1 h0
        · exact hh.2
      clear h0
      go_wp2
      all_goals
        go_ret
        rw [HR.out]
        exact ⟨none, 0, rfl, Arr.nil _ _ _ _, Fresh.none _, hr, hg⟩
set_option maxHeartbeats 1000000 in
set_option maxRecDepth 100000 in
theorem qtexts_any (b : Nat) (r : Rd) (most each : Int) (w : World) (h : Qdr w b r) (ho : r.ok) (hsz : r.s.size ≤ 1099511627776) :
    Calls Try.prog 48 #[.pointer (some ⟨b, 0, none⟩), .int .i64 most, .int .i64 each] w fun e w' => ∃ A c, e = .returned (.slice A (rdTexts r most each).1.length c) ∧ Arr w' w'.heap.size 1 A (rdTexts r most each).1.length ((rdTexts r most each).1.map Value.string) ∧ Fresh w.heap.size A ∧ Qdr w' b (rdTexts r most each).2 ∧ w.grownBy w' (some b) := by
  have hc := qcount_any b r most w h ho
  have hle := rdCount_le r most
  have ho1 := rdCount_ok (m := most) ho
  have hs1 := rdCount_s r most
  have hp1 := fun h => rdCount_pos (r := r) (m := most) h
  obtain ⟨n, r1, hx⟩ : ∃ n r1, rdCount r most = (n, r1) := ⟨_, _, rfl⟩
  have HE : ∀ st, (rdTextsGo n each r1).2 = st → st.e ≠ 0 → rdTexts r most each = ([], st) := fun st h he => rdTexts_err (by rw [hx]; exact h) he
  have HF : ∀ done st, rdTextsGo n each r1 = (done, st) → (st.e = 0 ∨ done = []) → rdTexts r most each = (done, st) := fun done st h he => rdTexts_fin (by rw [hx]; exact h) he
  rw [hx] at hc hle ho1 hs1 hp1
  simp only [] at hc hle ho1 hs1 hp1
  have hsz1 : r1.s.size ≤ 1099511627776 := by rw [hs1]; exact hsz
  have HC := Lib.hid hc
  have HE := Lib.hid HE
  have HF := Lib.hid HF
  have HP := Lib.hid hp1
  clear hc hx hs1 hp1
  obtain ⟨i0, hi, hz0, hz1, hz2⟩ := info_parts infoStr
  have hblt : b < w.heap.size := Blk.lt h
  go_enter Try.func48, Try.ntmps48
  go_wp2_with (go_at_call 45; refine HC.out.mono ?_; rintro e w1 ⟨rfl, h1, g1⟩)
  go_loopw [8, 9] (fun v6 v7 wr => ∃ (j : Nat) (done : List ByteArray) (st : Rd), j ≤ n ∧ v7 = .int .i64 j ∧ done.length ≤ 1099511627777 ∧ Qdr wr b st ∧ st.ok ∧ st.s.size ≤ 1099511627776 ∧ Hid (TextsQ r most each n r1 j done st) ∧ wr.ownsRow w.heap.size 9 1 v6 done.length (done.map Value.string) ∧ w.grownBy wr (some b)) (fun _ v7 _ => n - (intOf v7).toNat)
  case atStart =>
    refine ⟨0, [], r1, Nat.zero_le _, rfl, by simp, h1, ho1, hsz1, ?_, World.ownsRow_nil _ _ _ _, g1⟩
    by_cases he : r1.e = 0
    · exact .inl ⟨he, Nat.zero_le _, TextsAt.start _ _ _⟩
    · refine .inr ⟨he, HF.out [] r1 ?_ (.inr rfl)⟩
      rcases Nat.eq_zero_or_pos n with h | h
      · rw [h]; rfl
      · exact absurd (HP.out h) he
  case round =>
    obtain ⟨j, done, st, hj, rfl, hd, hr, hok, hss, HN, hown, hg⟩ := hrel
    have c2 := hr.c2
    by_cases h0 : st.e = 0
    · have hb0 : (st.e == 0) = true := by simpa using h0
      have hb1 : (st.e != 0) = false := by simpa using h0
      have HN2 : Hid (done.length ≤ st.at_ ∧ TextsAt each n r1 j done st) := by
        rcases HN.out with hh | hh
        · exact hh.2
        · exact absurd h0 hh.1
      have H0 := Lib.hid h0
      clear h0
      by_cases hlt : j < n
      · have hcn := qtext_any b st each wr hr hok
        have ho2 := rdText_ok (m := each) hok
        have hs2 := rdText_s st each
        have hst := fun h => HN2.out.2.step hlt h
        have her := fun h => HN2.out.2.err hlt h
        have had := fun h => rdText_adv (r := st) (m := each) h
        have hat0 := hok.1
        have hd2 := HN2.out.1
        obtain ⟨x, st2, hx⟩ : ∃ x st2, rdText st each = (x, st2) := ⟨_, _, rfl⟩
        rw [hx] at hcn ho2 hs2 had hst her
        simp only [] at hcn ho2 hs2 had hst her
        have hss2 : st2.s.size ≤ 1099511627776 := by rw [hs2]; exact hss
        have hnext : Hid (TextsQ r most each n r1 (j + 1) (done ++ [x]) st2) := by
          by_cases he : st2.e = 0
          · refine .inl ⟨he, ?_, hst he⟩
            have := (had he).1
            rw [List.length_append]
            simp only [List.length_cons, List.length_nil]
            omega
          · exact .inr ⟨he, HE.out st2 (her he) he⟩
        have HC2 := Lib.hid hcn
        have hgs := hg.size
        clear hcn hx hs2 hst her had
        go_wp2_with (first | (go_at_call 46; refine HC2.out.mono ?_; rintro e w2 ⟨rfl, h2, g2⟩; have hown2 := hown.kept g2 (.inr (fun e => by have := (hown.lt b e).1; omega)); have hs3 := g2.size) | (at_builtin; refine wpList_push rfl _ _ _ rfl Try.underlying45 hi hz0 hz1 hz2 rfl (by decide) (by assumption) rfl rfl rfl (str_one x) (by unfold maxLen; omega) (by omega) (by omega) ?_; intro g cap w3 hown3 hgr3 hat3))
        have hg2 := only_trans hg g2
        have h3 : Qdr w3 b st2 := Blk.grown h2 hgr3 (fun e => by have := (hown.lt b e.symm).1; omega)
        have hg3 : w.grownBy w3 (some b) := ⟨hgr3.os.trans hg2.os, hgr3.tape.trans hg2.tape, hgr3.output.trans hg2.output, Nat.le_trans hg2.size hgr3.size, fun k hk hne => (hgr3.block k (Nat.lt_of_lt_of_le hk hg2.size) (fun e => by have := (hown.lt k e.symm).1; omega)).trans (hg2.block k hk hne)⟩
        go_roundw
        case rel => exact ⟨j + 1, done ++ [x], st2, by omega, by go_num, by simp; omega, h3, ho2, hss2, hnext, by rw [List.length_append, List.map_append]; exact hown3, hg3⟩
        case measure => simp [intOf]; omega
      · have HR := Lib.hid (HF.out done st (HN2.out.2.fin (by omega)) (.inl H0.out))
        obtain ⟨A, c, rfl, hcap, harr, hfr⟩ := own_arr hown
        go_wp2
        go_ret
        rw [HR.out]
        exact ⟨A, c, rfl, harr, hfr, hr, hg⟩
    · have hb0 : (st.e == 0) = false := by simpa using h0
      have hb1 : (st.e != 0) = true := by simpa using h0
      have HR : Hid (rdTexts r most each = ([], st)) := by
        rcases HN.out with hh | hh
        · exact absurd hh.1 h0
        · exact hh.2
      clear h0
      go_wp2
      all_goals
        go_ret
        rw [HR.out]
        exact ⟨none, 0, rfl, Arr.nil _ _ _ _, Fresh.none _, hr, hg⟩
end Go.Proofs.Ytgcghcmmcljiiaa
