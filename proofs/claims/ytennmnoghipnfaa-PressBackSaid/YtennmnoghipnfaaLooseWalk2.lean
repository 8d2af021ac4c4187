/- The walk through Loose. -/
import Derived.Test.YtennmnoghipnfaaLooseWalk
namespace Go.Proofs.Ytennmnoghipnfaa
open Go.RowKit
set_option linter.unusedVariables false

theorem rdCount_most {r : Rd} (h0 : r.e = 0) : (rdCount r 1048576).1 ≤ 1048576 := by
  obtain ⟨n, r1, hx⟩ : ∃ n r1, rdNum r = (n, r1) := ⟨_, _, rfl⟩
  have hc : rdCount r 1048576 = if r1.e = 0 ∧ (1048576 : Int) < n then (0, { r1 with e := 4 }) else (n, r1) := by unfold rdCount; rw [hx]
  rw [hc]
  split
  · show 0 ≤ _; omega
  · rename_i h
    show n ≤ _
    by_cases he : r1.e = 0
    · omega
    · rw [rdNum_no h0 hx he]; omega
theorem rdEnd_ok {r : Rd} (h : r.ok) : (rdEnd r).ok := by
  unfold rdEnd
  split
  · exact h
  · exact h
theorem fin_err {s : ByteArray} {l : List UInt8} {r : Rd} (h : looseR s = (l, r)) (he : r.e ≠ 0) : looseE s = r.e ∧ looseS s = ⟨#[]⟩ := by
  have h1 : looseE s = r.e := by
    unfold looseE rdEnd
    rw [h, if_neg (fun x => he x.1)]
  exact ⟨h1, by unfold looseS; rw [h1, if_neg he]⟩
theorem fin_end {s : ByteArray} {l : List UInt8} {r : Rd} (h : looseR s = (l, r)) : looseE s = (rdEnd r).e ∧ ((rdEnd r).e = 0 → looseS s = ⟨l.toArray⟩) ∧ ((rdEnd r).e ≠ 0 → looseS s = ⟨#[]⟩) := by
  have h1 : looseE s = (rdEnd r).e := by unfold looseE; rw [h]
  refine ⟨h1, fun h0 => ?_, fun h0 => ?_⟩
  · unfold looseS; rw [h1, if_pos h0, h]
  · unfold looseS; rw [h1, if_neg h0]
/-- Of the reader's error: 1 while there is none. -/
def eOf (w : World) (rb : Nat) : Nat := match w.cell? ⟨rb, 2, none⟩ with | some v => if intOf v = 0 then 1 else 0 | none => 0
def lenOf (v : Value) : Nat := match v with | .slice _ n _ => n | _ => 0
theorem LS.eOf {T : TypeId} {w0 w : World} {rb : Nat} {v : Value} {r : Rd} {l : List UInt8} (h : LS T w0 w rb v r l) : eOf w rb = if r.e = 0 then 1 else 0 := by
  unfold Go.Proofs.Ytennmnoghipnfaa.eOf
  rw [h.rd.cell]
  by_cases h0 : r.e = 0 <;> simp [intOf, h0]
theorem LS.lenOf {T : TypeId} {w0 w : World} {rb : Nat} {v : Value} {r : Rd} {l : List UInt8} (h : LS T w0 w rb v r l) : lenOf v = l.length := by
  rcases h.own.2 with ⟨rfl, h0⟩ | ⟨g, cap, cur, rfl, _⟩
  · rw [h0]; rfl
  · rfl
theorem LS.form {T : TypeId} {w0 w : World} {rb : Nat} {v : Value} {r : Rd} {l : List UInt8} (h : LS T w0 w rb v r l) : ∃ A c, v = .slice A l.length c := by
  obtain ⟨A, c, hv, _⟩ := own_arr h.own
  exact ⟨A, c, hv⟩
theorem cat_cells (l : List UInt8) (z : ByteArray) : Lib.byteCells l ++ Lib.strCells z = Lib.byteCells (l ++ z.data.toList) := by
  rw [Lib.strCells_eq, Lib.byteCells_append]
theorem cat_len (l : List UInt8) (z : ByteArray) : l.length + z.size = (l ++ z.data.toList).length := by
  rw [List.length_append, ba_size]
theorem meas_less {T : TypeId} {w0 w w' : World} {rb size : Nat} {v v' : Value} {r r' : Rd} {l l' : List UInt8} (h : LS T w0 w rb v r l) (h' : LS T w0 w' rb v' r' l') (h0 : r.e = 0)
    (hs : l'.length ≤ size) (hd : l.length < l'.length ∨ (l'.length = l.length ∧ r'.e ≠ 0)) : 2 * (size - lenOf v') + eOf w' rb < 2 * (size - lenOf v) + eOf w rb := by
  rw [h.lenOf, h'.lenOf, h.eOf, h'.eOf, if_pos h0]
  have : (if r'.e = 0 then 1 else 0) ≤ 1 := by split <;> omega
  rcases hd with hd | ⟨hd, he⟩
  · omega
  · rw [if_neg he]; omega

theorem copied_at (base : Nat) (v : Value) (l : List UInt8) (x y : Int) (d n : Nat) (w : World) (hown : w.ownsRow base 5 1 v l.length (Lib.byteCells l)) (hbase : base ≤ w.heap.size) (hd1 : 1 ≤ d) (hd2 : d ≤ l.length) (hl : l.length ≤ 1048576) (hn : n ≤ 1048576)
    (hx : x = (d : Int)) (hy : y = (n : Int)) :
    Calls Try.prog 35 #[v, .int .i64 x, .int .i64 y] w fun e w' => ∃ v', e = .returned v' ∧ w'.ownsRow base 5 1 v' (copyL l d n).length (Lib.byteCells (copyL l d n)) ∧ w.grownBy w' v.ownBlock := by
  subst hx
  subst hy
  exact copied_any base v l d n w hown hbase hd1 hd2 hl hn

set_option maxHeartbeats 4000000 in
set_option maxRecDepth 100000 in
theorem loose_any (s : ByteArray) (w : World) (hs : s.size ≤ 140737488351232) :
    Calls Try.prog 17 #[.string s] w fun e w' => e = .returned (.tuple #[.string (looseS s), .int .i64 (looseE s)]) ∧ Below w.heap.size w w' := by
  obtain ⟨i0, hi, hz0, hz1, hz2⟩ := info_parts infoB8
  obtain ⟨size, r1, hc⟩ : ∃ n r1, rdCount ⟨s, 0, 0⟩ 1048576 = (n, r1) := ⟨_, _, rfl⟩
  have hcm := rdCount_most (r := ⟨s, 0, 0⟩) rfl
  have hok0 : Rd.ok ⟨s, 0, 0⟩ := ⟨Nat.zero_le _, by show s.size ≤ _; omega⟩
  have hok1 := rdCount_ok (m := 1048576) hok0
  have HL : Hid (looseR s = loosGo size (size + 1) r1 []) := by unfold looseR; rw [hc]; exact Lib.hid rfl
  have hcc := fun W hR => count_any w.heap.size ⟨s, 0, 0⟩ 1048576 W hR hok0
  rw [hc] at hcm hok1 hcc
  simp only [] at hcm hok1 hcc
  have HCC := Lib.hid hcc
  clear hcc hc
  go_enter Try.func17, Try.ntmps17
  go_wp2_with (first
    | (go_at_call 29; refine (read_any s _).mono ?_; rintro e w1 ⟨rfl, hR1, hb1⟩)
    | (go_at_call 30; refine (HCC.out _ hR1).mono ?_; rintro e w2 ⟨rfl, hR2, hg2⟩))
  have hL2 : LS 66 w w2 w.heap.size (.slice none 0 0) r1 [] := ⟨hR2, hok1, World.ownsRow_nil _ _ _ _, Nat.le_refl _, by decide, hb1.grown hg2 hb1.size (fun k hk => by injection hk with hk; rw [← hk]; exact Nat.le_refl _)⟩
  clear hR2 hg2 hR1 hb1 HCC
  go_loopw [6] (fun v6 wr => ∃ (f : Nat) (r : Rd) (l : List UInt8), l.length ≤ size ∧ size < f + l.length ∧ Hid (looseR s = loosGo size f r l) ∧ LS 66 w wr w.heap.size v6 r l) (fun v6 wr => 2 * (size - lenOf v6) + eOf wr w.heap.size)
  case atStart => exact ⟨size + 1, r1, [], Nat.zero_le _, by simp, HL, hL2⟩
  case round =>
    clear hL2 HL
    obtain ⟨f, r, l, hls, hfl, HE, hL⟩ := hrel
    obtain ⟨A6, c6, rfl⟩ := hL.form
    by_cases hgo : r.e = 0 ∧ l.length < size
    · obtain ⟨h0, hlt⟩ := hgo
      obtain ⟨f, rfl⟩ : ∃ f', f = f' + 1 := ⟨f - 1, by omega⟩
      have hbe : (r.e == 0) = true := by simp [h0]
      have hL0 := hL
      obtain ⟨n, ra, hna⟩ : ∃ n ra, rdNum r = (n, ra) := ⟨_, _, rfl⟩
      have hoka := rdNum_ok hL.ok
      have hnle := rdNum_le r
      rw [hna] at hoka hnle
      simp only [] at hoka hnle
      have hand := i64_and_1 n (by omega)
      have HNA := Lib.hid hna
      have H0 := Lib.hid h0
      by_cases hea : ra.e = 0
      · by_cases hev : n % 2 = 0
        · have hev' : ((n : Int) % 2 == 0) = true := by simp; omega
          by_cases hbad : n = 0 ∨ size - l.length < n / 2
          · have hf := fin_err (HE.out.trans (loos_bad h0 hlt hna hea hev hbad)) (show (5 : Int) ≠ 0 by decide)
            have HF := Lib.hid hf
            have hw := fun W hh => wrong_any w.heap.size ra W hh
            rw [if_pos hea] at hw
            have HW := Lib.hid hw
            clear hf h0 hna hw
            rcases (show n = 0 ∨ (n ≠ 0 ∧ size - l.length < n / 2) from by omega) with rfl | ⟨hn0, hgt⟩
            all_goals
              go_wp2_with (first
                | (go_at_call 31; refine (err_any _ _ _ hL.rd).mono ?_; rintro e w1 ⟨rfl, rfl⟩)
                | (go_at_call 32; refine (num_to _ _ _ _ _ hL.rd hL.ok HNA).mono ?_; rintro e w1 ⟨rfl, hr, hg⟩; have hL := hL.read hr hoka hg)
                | (go_at_call 33; refine (HW.out _ hL.rd).mono ?_; rintro e w1 ⟨rfl, rfl⟩))
              go_ret2
              rw [HF.out.1, HF.out.2]
              exact ⟨rfl, hL.below⟩
          · obtain ⟨z, r2, hz⟩ : ∃ z r2, rdRaw ra (n / 2 : Nat) = (z, r2) := ⟨_, _, rfl⟩
            have hokb := rdRaw_ok' (n := (n / 2 : Nat)) hoka
            rw [hz] at hokb
            simp only [] at hokb
            have key : ∃ f', size < f' + (l ++ z.data.toList).length ∧ looseR s = loosGo size f' r2 (l ++ z.data.toList) ∧ (l.length < (l ++ z.data.toList).length ∨ ((l ++ z.data.toList).length = l.length ∧ r2.e ≠ 0)) ∧ (l ++ z.data.toList).length ≤ size := by
              by_cases he2 : r2.e = 0
              · have hzl := (rdRaw_len hz he2 hea).1
                rw [← cat_len, hzl]
                exact ⟨f, by omega, HE.out.trans (loos_raw h0 hlt hna hea hev hbad hz he2), .inl (by omega), by omega⟩
              · obtain rfl := rdRaw_no hz he2 hea
                have hnil : l ++ ByteArray.empty.data.toList = l := List.append_nil l
                rw [hnil]
                exact ⟨f + 1, by omega, by rw [loos_stop (.inl he2)]; exact HE.out.trans (loos_raw_no h0 hlt hna hea hev hbad hz he2), .inr ⟨rfl, he2⟩, hls⟩
            obtain ⟨f2, k1, k2, k3, k4⟩ := key
            have HZ := Lib.hid hz
            have HK := Lib.hid k2
            have hcl := cat_len l z
            have hn1 : ¬ n = 0 := by omega
            have hn2 : ¬ size - l.length < n / 2 := by omega
            have hn0 : ((n : Int) == 0) = false := by simp; omega
            clear h0 hna hz k2 hbad
            go_wp2_with (first
              | (go_at_call 31; refine (err_any _ _ _ hL.rd).mono ?_; rintro e w1 ⟨rfl, rfl⟩)
              | (go_at_call 32; refine (num_to _ _ _ _ _ hL.rd hL.ok HNA).mono ?_; rintro e w1 ⟨rfl, hr, hg⟩; have hL := hL.read hr hoka hg)
              | (go_at_call 34; refine (raw_to _ _ _ (n / 2) _ _ _ hL.rd hL.ok HZ (by omega) (by omega)).mono ?_; rintro e w1 ⟨rfl, hr, hg⟩; have hL := hL.read hr hokb hg)
              | (at_builtin; refine Lib.wpList_append_own_string _ rfl _ _ 28 9 rfl w.heap.size 5 i0 Try.underlying28 Try.underlying9 hi hz0 hz1 hz2 _ l.length _ rfl hL.own z rfl (by unfold maxLen; omega) (by omega) hL.below.size ?_; intro v2 w2 hown2 hgr2 _))
            rw [hcl, cat_cells] at hown2
            have hL2 := hL.wrote hown2 hgr2
            obtain ⟨A7, c7, rfl⟩ := hL2.form
            go_wp2
            go_roundw
            case rel => exact ⟨f2, r2, _, k4, k1, HK, hL2⟩
            case measure => exact meas_less hL0 hL2 H0.out k4 k3
        · have hev' : ((n : Int) % 2 == 0) = false := by simp; omega
          obtain ⟨m, rb, hnb⟩ : ∃ m rb, rdNum ra = (m, rb) := ⟨_, _, rfl⟩
          have hokb := rdNum_ok hoka
          have hmle := rdNum_le ra
          rw [hnb] at hokb hmle
          simp only [] at hokb hmle
          have HNB := Lib.hid hnb
          by_cases heb : rb.e = 0
          · have hbe3 : (rb.e == 0) = true := by simp [heb]
            by_cases hbad : l.length < m + 1 ∨ 4096 < m + 1 ∨ 255 < n / 2 ∨ size - l.length < n / 2 + 4
            · have hf := fin_err (HE.out.trans (loos_bad2 h0 hlt hna hea hev hnb heb hbad)) (show (5 : Int) ≠ 0 by decide)
              have HF := Lib.hid hf
              clear hf h0 hna hnb
              rcases (show l.length < m + 1 ∨ (m + 1 ≤ l.length ∧ 4096 < m + 1) ∨ (m + 1 ≤ l.length ∧ m + 1 ≤ 4096 ∧ 255 < n / 2) ∨ (m + 1 ≤ l.length ∧ m + 1 ≤ 4096 ∧ n / 2 ≤ 255 ∧ size - l.length < n / 2 + 4) from by omega) with g1 | ⟨g1, g2⟩ | ⟨g1, g2, g3⟩ | ⟨g1, g2, g3, g4⟩
              all_goals
                go_wp2_with (first
                  | (go_at_call 31; refine (err_any _ _ _ hL.rd).mono ?_; rintro e w1 ⟨rfl, rfl⟩)
                  | (go_at_call 32; refine (num_to _ _ _ _ _ hL.rd hL.ok HNA).mono ?_; rintro e w1 ⟨rfl, hr, hg⟩; have hL := hL.read hr hoka hg)
                  | (go_at_call 32; refine (num_to _ _ _ _ _ hL.rd hL.ok HNB).mono ?_; rintro e w1 ⟨rfl, hr, hg⟩; have hL := hL.read hr hokb hg))
                go_ret2
                rw [HF.out.1, HF.out.2]
                exact ⟨rfl, hL.below⟩
            · have hcl := copyL_len (m + 1) (n / 2 + 4) l
              have k2 := HE.out.trans (loos_copy h0 hlt hna hea hev hnb heb hbad)
              have HK := Lib.hid k2
              have g1 : m + 1 ≤ l.length := by omega
              have g2 : m + 1 ≤ 4096 := by omega
              have g3 : n / 2 ≤ 255 := by omega
              have g4 : n / 2 + 4 ≤ size - l.length := by omega
              clear k2 hbad h0 hna hnb
              go_wp2_with (first
                | (go_at_call 31; refine (err_any _ _ _ hL.rd).mono ?_; rintro e w1 ⟨rfl, rfl⟩)
                | (go_at_call 32; refine (num_to _ _ _ _ _ hL.rd hL.ok HNA).mono ?_; rintro e w1 ⟨rfl, hr, hg⟩; have hL := hL.read hr hoka hg)
                | (go_at_call 32; refine (num_to _ _ _ _ _ hL.rd hL.ok HNB).mono ?_; rintro e w1 ⟨rfl, hr, hg⟩; have hL := hL.read hr hokb hg)
                | (go_at_call 35; refine (copied_at w.heap.size _ l _ _ (m + 1) (n / 2 + 4) _ hL.own hL.below.size (by omega) g1 (by omega) (by omega) (by omega) (by omega)).mono ?_; rintro e w1 ⟨v2, rfl, hown2, hgr2⟩))
              have hL2 := hL.wrote hown2 hgr2
              obtain ⟨A7, c7, rfl⟩ := hL2.form
              go_wp2
              go_roundw
              case rel => exact ⟨f, rb, _, by omega, by omega, HK, hL2⟩
              case measure => exact meas_less hL0 hL2 H0.out (by omega) (.inl (by omega))
          · obtain rfl : m = 0 := rdNum_no hea hnb heb
            have hbe3 : (rb.e == 0) = false := by simp [heb]
            have k2 := HE.out.trans (loos_num2 (f := f) h0 hlt hna hea hev hnb heb)
            have HK : Hid (looseR s = loosGo size (f + 1) rb l) := Lib.hid (by rw [loos_stop (.inl heb)]; exact k2)
            clear k2 h0 hna hnb
            go_wp2_with (first
              | (go_at_call 31; refine (err_any _ _ _ hL.rd).mono ?_; rintro e w1 ⟨rfl, rfl⟩)
              | (go_at_call 32; refine (num_to _ _ _ _ _ hL.rd hL.ok HNA).mono ?_; rintro e w1 ⟨rfl, hr, hg⟩; have hL := hL.read hr hoka hg)
              | (go_at_call 32; refine (num_to _ _ _ _ _ hL.rd hL.ok HNB).mono ?_; rintro e w1 ⟨rfl, hr, hg⟩; have hL := hL.read hr hokb hg))
            go_roundw
            case rel => exact ⟨f + 1, rb, l, hls, hfl, HK, hL⟩
            case measure => exact meas_less hL0 hL H0.out hls (.inr ⟨rfl, heb⟩)
      · obtain rfl : n = 0 := rdNum_no h0 hna hea
        have hf := fin_err (HE.out.trans (loos_num h0 hlt hna hea)) hea
        have hbe2 := bne0 hea
        have HF := Lib.hid hf
        clear hf h0 hna
        go_wp2_with (first
          | (go_at_call 31; refine (err_any _ _ _ hL.rd).mono ?_; rintro e w1 ⟨rfl, rfl⟩)
          | (go_at_call 32; refine (num_to _ _ _ _ _ hL.rd hL.ok HNA).mono ?_; rintro e w1 ⟨rfl, hr, hg⟩; have hL := hL.read hr hoka hg)
          | (go_at_call 33; refine (wrong_any _ _ _ hL.rd).mono ?_; rintro e w1 ⟨rfl, rfl⟩))
        go_ret2
        rw [HF.out.1, HF.out.2]
        exact ⟨rfl, hL.below⟩
    · have hf := fin_end (HE.out.trans (loos_stop (f := f) (by omega)))
      have hokE := rdEnd_ok hL.ok
      have hcase : (r.e == 0) = false ∨ ((r.e == 0) = true ∧ size = l.length) := by
        by_cases h0 : r.e = 0
        · right; exact ⟨by simp [h0], by omega⟩
        · left; simp [h0]
      have HGO := Lib.hid hgo
      clear hgo
      by_cases hE : (rdEnd r).e = 0
      · have hz := hf.2.1 hE
        have hz1' := hf.1
        rw [hE] at hz1'
        have HF := Lib.hid hz
        have HF1 := Lib.hid hz1'
        have hend := fun W hR => end_any w.heap.size r W hR hL.ok
        rw [hE] at hend
        have HEN := Lib.hid hend
        clear hf hz hz1' hend
        rcases hcase with hb0 | ⟨hb0, hsz⟩
        all_goals
          go_wp2_with (first
            | (go_at_call 31; refine (err_any _ _ _ hL.rd).mono ?_; rintro e w1 ⟨rfl, rfl⟩)
            | (go_at_call 36; refine (HEN.out _ hL.rd).mono ?_; rintro e w1 ⟨rfl, hr, hg⟩; have hL := hL.read hr hokE hg; have hcv := run_own_string (P := Try.prog) w1 28 9 5 Try.underlying28 Try.underlying5 Try.underlying9 l hL.own))
          go_ret2
          rw [HF.out, HF1.out]
          exact ⟨rfl, hL.below⟩
      · have hz := hf.2.2 hE
        have hz1' := hf.1
        have HF := Lib.hid hz
        have HF1 := Lib.hid hz1'
        have hb9 := bne0 hE
        have HEN := Lib.hid (fun W hR => end_any w.heap.size r W hR hL.ok)
        clear hf hz hz1'
        generalize hre : (rdEnd r).e = x at *
        rcases hcase with hb0 | ⟨hb0, hsz⟩
        all_goals
          go_wp2_with (first
            | (go_at_call 31; refine (err_any _ _ _ hL.rd).mono ?_; rintro e w1 ⟨rfl, rfl⟩)
            | (go_at_call 36; refine (HEN.out _ hL.rd).mono ?_; rintro e w1 ⟨rfl, hr, hg⟩; have hL := hL.read hr hokE hg))
          go_ret2
          rw [HF.out, HF1.out]
          exact ⟨rfl, hL.below⟩
end Go.Proofs.Ytennmnoghipnfaa
