/- The walks through the program's reader's lists. -/
import Derived.Test.YtgcghcmmcljiiaaRdMore
import Derived.Test.YtgcghcmmcljiiaaRdListPlain
import Derived.Test.YtgcghcmmcljiiaaFrame
namespace Go.Proofs.Ytgcghcmmcljiiaa
open Go.RowKit
theorem infoInt : (Try.prog.info? 3).map (fun i => (i.zero, i.size, i.bytes)) = some (some (.int .i64 0), 1, 8) := by kernel_rfl
theorem infoStr : (Try.prog.info? 9).map (fun i => (i.zero, i.size, i.bytes)) = some (some (.string .empty), 1, 16) := by kernel_rfl

theorem natV_one (n : Nat) : ∀ u ∈ (#[natV n] : Array Value).toList, u.oneCell' = true := by simp [natV, Value.oneCell']
theorem str_one (s : ByteArray) : ∀ u ∈ (#[Value.string s] : Array Value).toList, u.oneCell' = true := by simp [Value.oneCell']

set_option maxHeartbeats 1000000 in
set_option maxRecDepth 100000 in
theorem nums_any (b : Nat) (r : Rd) (most : Int) (w : World) (h : Rdr w b r) (ho : r.ok) (hsz : r.s.size ≤ 1099511627776) :
    Calls Try.prog 28 #[.pointer (some ⟨b, 0, none⟩), .int .i64 most] w fun e w' => ∃ A c, e = .returned (.slice A (rdNums r most).1.length c) ∧ Arr w' w'.heap.size 1 A (rdNums r most).1.length ((rdNums r most).1.map natV) ∧ Fresh w.heap.size A ∧ Rdr w' b (rdNums r most).2 ∧ w.grownBy w' (some b) := by
  have hc := count_any b r most w h ho
  have hle := rdCount_le r most
  have ho1 := rdCount_ok (m := most) ho
  have hs1 := rdCount_s r most
  have hp1 := fun h => rdCount_pos (r := r) (m := most) h
  obtain ⟨n, r1, hx⟩ : ∃ n r1, rdCount r most = (n, r1) := ⟨_, _, rfl⟩
  have HE : ∀ st, (rdNumsGo n r1).2 = st → st.e ≠ 0 → rdNums r most = ([], st) := fun st h he => rdNums_err (by rw [hx]; exact h) he
  have HF : ∀ done st, rdNumsGo n r1 = (done, st) → (st.e = 0 ∨ done = []) → rdNums r most = (done, st) := fun done st h he => rdNums_fin (by rw [hx]; exact h) he
  rw [hx] at hc hle ho1 hs1 hp1
  simp only [] at hc hle ho1 hs1 hp1
  have hsz1 : r1.s.size ≤ 1099511627776 := by rw [hs1]; exact hsz
  have HC := Lib.hid hc
  have HE := Lib.hid HE
  have HF := Lib.hid HF
  have HP := Lib.hid hp1
  clear hc hx hs1 hp1
  obtain ⟨i0, hi, hz0, hz1, hz2⟩ := info_parts infoInt
  have hblt : b < w.heap.size := Blk.lt h
  go_enter Try.func28, Try.ntmps28
  go_wp2_with (go_at_call 40; refine HC.out.mono ?_; rintro e w1 ⟨rfl, h1, g1⟩)
  go_loopw [5, 10] (fun v5 v10 wr => ∃ (j : Nat) (done : List Nat) (st : Rd), j ≤ n ∧ v10 = .int .i64 j ∧ done.length ≤ st.at_ ∧ Rdr wr b st ∧ st.ok ∧ st.s.size ≤ 1099511627776 ∧ Hid ((j < n → st.e = 0) ∧ (st.e = 0 ∨ done = []) ∧ NumsAt n r1 j done st) ∧ wr.ownsRow w.heap.size 3 1 v5 done.length (done.map natV) ∧ w.grownBy wr (some b)) (fun _ v10 _ => n - (intOf v10).toNat)
  case atStart => exact ⟨0, [], r1, Nat.zero_le _, rfl, Nat.zero_le _, h1, ho1, hsz1, ⟨HP.out, .inr rfl, NumsAt.start _ _⟩, World.ownsRow_nil _ _ _ _, g1⟩
  case round =>
    obtain ⟨j, done, st, hj, rfl, hd, hr, hok, hss, HN, hown, hg⟩ := hrel
    by_cases hlt : j < n
    · have hcn := num_any b st wr hr hok
      have ho2 := rdNum_ok hok
      have hs2 := rdNum_s st
      have ha2 := fun h => rdNum_adv (r := st) h
      have hst := fun h => HN.out.2.2.step hlt h
      have her := fun h => HN.out.2.2.err hlt h
      obtain ⟨x, st2, hx⟩ : ∃ x st2, rdNum st = (x, st2) := ⟨_, _, rfl⟩
      rw [hx] at hcn ho2 hs2 ha2 hst her
      simp only [] at hcn ho2 hs2 ha2 hst her
      have hss2 : st2.s.size ≤ 1099511627776 := by rw [hs2]; exact hss
      have HC2 := Lib.hid hcn
      clear hcn hx hs2
      by_cases h0 : st2.e = 0
      · have hb0 := beq0 h0
        have hat : done.length + 1 ≤ st2.at_ := by have := (ha2 h0).1; omega
        have hat2 := ho2.1
        have hgs := hg.size
        have HST := Lib.hid (hst h0)
        have H0 := Lib.hid h0
        clear hst her ha2 h0
        go_wp2_with (first | (go_at_call 26; refine HC2.out.mono ?_; rintro e w2 ⟨rfl, h2, g2⟩; have hown2 := hown.kept g2 (.inr (fun e => by have := (hown.lt b e).1; omega)); have hs3 := g2.size) | (go_at_call 37; refine (off_any _ _ _ (by assumption)).mono ?_; rintro e w' ⟨rfl, rfl⟩) | (at_builtin; refine wpList_push rfl _ _ _ rfl Try.underlying34 hi hz0 hz1 hz2 rfl (by decide) (by assumption) rfl rfl rfl (natV_one x) (by unfold maxLen; omega) (by omega) (by omega) ?_; intro g cap w3 hown3 hgr3 hat3))
        have hg2 := only_trans hg g2
        have h3 : Rdr w3 b st2 := Blk.grown h2 hgr3 (fun e => by have := (hown.lt b e.symm).1; omega)
        have hg3 : w.grownBy w3 (some b) := ⟨hgr3.os.trans hg2.os, hgr3.tape.trans hg2.tape, hgr3.output.trans hg2.output, Nat.le_trans hg2.size hgr3.size, fun k hk hne => (hgr3.block k (Nat.lt_of_lt_of_le hk hg2.size) (fun e => by have := (hown.lt k e.symm).1; omega)).trans (hg2.block k hk hne)⟩
        go_roundw
        case rel => exact ⟨j + 1, done ++ [x], st2, by omega, by go_num, by simpa using hat, h3, ho2, hss2, ⟨fun _ => H0.out, .inl H0.out, HST.out⟩, by rw [List.length_append, List.map_append]; exact hown3, hg3⟩
        case measure => simp [intOf]; omega
      · have hb0 := bne0 h0
        have HR := Lib.hid (HE.out st2 (her h0) h0)
        clear hst her ha2 h0
        go_wp2_with (first | (go_at_call 26; refine HC2.out.mono ?_; rintro e w2 ⟨rfl, h2, g2⟩) | (go_at_call 37; refine (off_any _ _ _ (by assumption)).mono ?_; rintro e w' ⟨rfl, rfl⟩))
        go_ret
        rw [HR.out]
        exact ⟨none, 0, rfl, Arr.nil _ _ _ _, Fresh.none _, h2, only_trans hg g2⟩
    · have HR := Lib.hid (HF.out done st (HN.out.2.2.fin (by omega)) HN.out.2.1)
      obtain ⟨A, c, rfl, hcap, harr, hfr⟩ := own_arr hown
      go_wp2
      go_ret
      rw [HR.out]
      exact ⟨A, c, rfl, harr, hfr, hr, hg⟩
set_option maxHeartbeats 1000000 in
set_option maxRecDepth 100000 in
theorem texts_any (b : Nat) (r : Rd) (most each : Int) (w : World) (h : Rdr w b r) (ho : r.ok) (hsz : r.s.size ≤ 1099511627776) :
    Calls Try.prog 34 #[.pointer (some ⟨b, 0, none⟩), .int .i64 most, .int .i64 each] w fun e w' => ∃ A c, e = .returned (.slice A (rdTexts r most each).1.length c) ∧ Arr w' w'.heap.size 1 A (rdTexts r most each).1.length ((rdTexts r most each).1.map Value.string) ∧ Fresh w.heap.size A ∧ Rdr w' b (rdTexts r most each).2 ∧ w.grownBy w' (some b) := by
  have hc := count_any b r most w h ho
  have hle := rdCount_le r most
  have ho1 := rdCount_ok (m := most) ho
  have hs1 := rdCount_s r most
  have hp1 := fun h => rdCount_pos (r := r) (m := most) h
  obtain ⟨n, r1, hx⟩ : ∃ n r1, rdCount r most = (n, r1) := ⟨_, _, rfl⟩
  have HE : ∀ st, (rdTextsGo n each r1).2 = st → st.e ≠ 0 → rdTexts r most each = ([], st) := fun st h he => rdTexts_err (by rw [hx]; exact h) he
  have HF : ∀ done st, rdTextsGo n each r1 = (done, st) → (st.e = 0 ∨ done = []) → rdTexts r most each = (done, st) := fun done st h he => rdTexts_fin (by rw [hx]; exact h) he
  rw [hx] at hc hle ho1 hs1 hp1
  simp only [] at hc hle ho1 hs1 hp1
  have hsz1 : r1.s.size ≤ 1099511627776 := by rw [hs1]; exact hsz
  have HC := Lib.hid hc
  have HE := Lib.hid HE
  have HF := Lib.hid HF
  have HP := Lib.hid hp1
  clear hc hx hs1 hp1
  obtain ⟨i0, hi, hz0, hz1, hz2⟩ := info_parts infoStr
  have hblt : b < w.heap.size := Blk.lt h
  go_enter Try.func34, Try.ntmps34
  go_wp2_with (go_at_call 40; refine HC.out.mono ?_; rintro e w1 ⟨rfl, h1, g1⟩)
  go_loopw [7, 12] (fun v5 v10 wr => ∃ (j : Nat) (done : List ByteArray) (st : Rd), j ≤ n ∧ v10 = .int .i64 j ∧ done.length ≤ st.at_ ∧ Rdr wr b st ∧ st.ok ∧ st.s.size ≤ 1099511627776 ∧ Hid ((j < n → st.e = 0) ∧ (st.e = 0 ∨ done = []) ∧ TextsAt each n r1 j done st) ∧ wr.ownsRow w.heap.size 9 1 v5 done.length (done.map Value.string) ∧ w.grownBy wr (some b)) (fun _ v10 _ => n - (intOf v10).toNat)
  case atStart => exact ⟨0, [], r1, Nat.zero_le _, rfl, Nat.zero_le _, h1, ho1, hsz1, ⟨HP.out, .inr rfl, TextsAt.start _ _ _⟩, World.ownsRow_nil _ _ _ _, g1⟩
  case round =>
    obtain ⟨j, done, st, hj, rfl, hd, hr, hok, hss, HN, hown, hg⟩ := hrel
    by_cases hlt : j < n
    · have hcn := text_any b st each wr hr hok
      have ho2 := rdText_ok (m := each) hok
      have hs2 := rdText_s st each
      have ha2 := fun h => rdText_adv (r := st) (m := each) h
      have hst := fun h => HN.out.2.2.step hlt h
      have her := fun h => HN.out.2.2.err hlt h
      obtain ⟨x, st2, hx⟩ : ∃ x st2, rdText st each = (x, st2) := ⟨_, _, rfl⟩
      rw [hx] at hcn ho2 hs2 ha2 hst her
      simp only [] at hcn ho2 hs2 ha2 hst her
      have hss2 : st2.s.size ≤ 1099511627776 := by rw [hs2]; exact hss
      have HC2 := Lib.hid hcn
      clear hcn hx hs2
      by_cases h0 : st2.e = 0
      · have hb0 := beq0 h0
        have hat : done.length + 1 ≤ st2.at_ := by have := (ha2 h0).1; omega
        have hat2 := ho2.1
        have hgs := hg.size
        have HST := Lib.hid (hst h0)
        have H0 := Lib.hid h0
        clear hst her ha2 h0
        go_wp2_with (first | (go_at_call 22; refine HC2.out.mono ?_; rintro e w2 ⟨rfl, h2, g2⟩; have hown2 := hown.kept g2 (.inr (fun e => by have := (hown.lt b e).1; omega)); have hs3 := g2.size) | (go_at_call 37; refine (off_any _ _ _ (by assumption)).mono ?_; rintro e w' ⟨rfl, rfl⟩) | (at_builtin; refine wpList_push rfl _ _ _ rfl Try.underlying45 hi hz0 hz1 hz2 rfl (by decide) (by assumption) rfl rfl rfl (str_one x) (by unfold maxLen; omega) (by omega) (by omega) ?_; intro g cap w3 hown3 hgr3 hat3))
        have hg2 := only_trans hg g2
        have h3 : Rdr w3 b st2 := Blk.grown h2 hgr3 (fun e => by have := (hown.lt b e.symm).1; omega)
        have hg3 : w.grownBy w3 (some b) := ⟨hgr3.os.trans hg2.os, hgr3.tape.trans hg2.tape, hgr3.output.trans hg2.output, Nat.le_trans hg2.size hgr3.size, fun k hk hne => (hgr3.block k (Nat.lt_of_lt_of_le hk hg2.size) (fun e => by have := (hown.lt k e.symm).1; omega)).trans (hg2.block k hk hne)⟩
        go_roundw
        case rel => exact ⟨j + 1, done ++ [x], st2, by omega, by go_num, by simpa using hat, h3, ho2, hss2, ⟨fun _ => H0.out, .inl H0.out, HST.out⟩, by rw [List.length_append, List.map_append]; exact hown3, hg3⟩
        case measure => simp [intOf]; omega
      · have hb0 := bne0 h0
        have HR := Lib.hid (HE.out st2 (her h0) h0)
        clear hst her ha2 h0
        go_wp2_with (first | (go_at_call 22; refine HC2.out.mono ?_; rintro e w2 ⟨rfl, h2, g2⟩) | (go_at_call 37; refine (off_any _ _ _ (by assumption)).mono ?_; rintro e w' ⟨rfl, rfl⟩))
        go_ret
        rw [HR.out]
        exact ⟨none, 0, rfl, Arr.nil _ _ _ _, Fresh.none _, h2, only_trans hg g2⟩
    · have HR := Lib.hid (HF.out done st (HN.out.2.2.fin (by omega)) HN.out.2.1)
      obtain ⟨A, c, rfl, hcap, harr, hfr⟩ := own_arr hown
      go_wp2
      go_ret
      rw [HR.out]
      exact ⟨A, c, rfl, harr, hfr, hr, hg⟩
end Go.Proofs.Ytgcghcmmcljiiaa
