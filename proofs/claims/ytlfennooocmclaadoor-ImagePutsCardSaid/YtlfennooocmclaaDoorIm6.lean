/- Chapter 10: the walk through image.head. -/
import Derived.Test.YtlfennooocmclaaDoorIm5
namespace Go.Proofs.YtlfennooocmclaaDoor
open Go.RowKit
set_option linter.unusedVariables false

theorem rdr_alloc {w : World} {b : Nat} {r : Rd} (h : Rdr w b r) (o : Obj) : Rdr (w.alloc o) b r := Blk.alloc h o
theorem rdr_below {w w' : World} {b : Nat} {r : Rd} (h : Rdr w b r) (hb : Below w.heap.size w w') : Rdr w' b r := Blk.below h hb (Blk.lt h)
theorem some_ne {a b : Nat} (h : b < a) : some a ≠ some b := fun e => by injection e with e; omega
def HRel (w w1 : World) (N : Nat) (s : ByteArray) (H : HdD) (vo vs v : Value) (wr : World) : Prop := ∃ (k : Nat) (acc : List SzD) (r : Rd), k ≤ N ∧ v = .int .i64 k ∧ wr.ownsRow w1.heap.size 33 3 vo acc.length (fcells (hfiles acc)) ∧ wr.ownsRow w1.heap.size 3 1 vs acc.length (ncells acc) ∧ acc.length ≤ k ∧
  Hid (∀ f ∈ hfiles acc, FOk f) ∧ Hid (Rdr wr w.heap.size r) ∧ r.ok ∧ Hid (r.s = s) ∧ Hid (headEnd (headGo (N - k) acc r) = H) ∧ w1.heap.size ≤ wr.heap.size ∧ Below w.heap.size w wr
set_option maxHeartbeats 4000000 in
set_option maxRecDepth 100000 in
theorem head_any (s : ByteArray) (w : World) (hs : s.size ≤ 524288) (hm : Ml w) :
    Calls Tryd.prog 37 #[.string s] w (HeadOut w (headOf s)) := by
  obtain ⟨i1, gi0, gz0, gz1, gz2⟩ := info_parts infoFile
  obtain ⟨i2, fi0, fz0, fz1, fz2⟩ := info_parts infoI
  have ho0 : (⟨s, 0, 0⟩ : Rd).ok := ⟨Nat.zero_le _, by show s.size ≤ _; omega⟩
  have hct := fun b W h => count_any b ⟨s, 0, 0⟩ 256 W h ho0
  have ho1 := rdCount_ok' (m := 256) ho0
  have hs1 := rdCount_s ⟨s, 0, 0⟩ 256
  have hle := rdCount_most_ ⟨s, 0, 0⟩ (m := 256) (by decide)
  obtain ⟨H, hH⟩ : ∃ H, H = headOf s := ⟨_, rfl⟩
  rw [← hH]
  unfold headOf at hH
  obtain ⟨N, r0, hx0⟩ : ∃ N r0, rdCount ⟨s, 0, 0⟩ 256 = (N, r0) := ⟨_, _, rfl⟩
  rw [hx0] at hct ho1 hs1 hle hH
  simp only [] at hct ho1 hs1 hle hH
  have HRS := Lib.hid hs1
  have HCT := Lib.hid hct
  have HEF : Hid (headEnd (headGo (N - 0) [] r0) = H) := Lib.hid hH.symm
  clear hct hs1 hx0 hH ho0
  go_enter Tryd.func37, Tryd.ntmps37
  go_wp2_with (first
    | (go_at_call 54; (with_reducible refine (read_any s _).mono ?_); rintro e w1 ⟨rfl, hr1, hb1⟩)
    | (go_at_call 55; (with_reducible refine (HCT.out _ _ hr1).mono ?_); rintro e w2 ⟨rfl, hr2, hg2⟩))
  have hbl := Blk.lt hr1
  have hB2 : Below w.heap.size w w2 := hb1.grown hg2 hb1.size (fun j hj => by injection hj with hj; omega)
  have hs2 := hg2.size
  have hbs1 := hb1.size
  go_loopw [7, 8, 17] (fun vo vs v wr => HRel w w1 N s H vo vs v wr) (fun _ _ v _ => N - (intOf v).toNat)
  case atStart => unfold HRel; exact ⟨0, [], r0, Nat.zero_le _, rfl, World.ownsRow_nil _ _ _ _, World.ownsRow_nil _ _ _ _, Nat.le_refl _, Lib.hid (by simp [hfiles]), Lib.hid hr2, ho1, HRS, HEF, hs2, hB2⟩
  case round =>
    unfold HRel at hrel
    obtain ⟨k, acc, r, hk, rfl, hown, hownS, hal, HI, HR, hok, hrs, H1, hzz, hB⟩ := hrel
    have hbse := hB.size
    have hbl2 : w.heap.size < w1.heap.size := hbl
    have HB0 := HR.out.lt
    by_cases hlt : k < N
    · obtain ⟨t, r1, m, r2, n, r3, h1, h2, h3, ⟨o1, o2, o3⟩, ⟨l1, l2, l3⟩, hs5⟩ := reads3 r hok
      have hc1 := fun W h => text_any w.heap.size r 200 W h hok
      have hc2 := fun W h => num_any w.heap.size r1 W h o1
      have hc3 := fun W h => count_any w.heap.size r2 65536 W h o2
      rw [h1] at hc1
      rw [h2] at hc2
      rw [h3] at hc3
      simp only [] at hc1 hc2 hc3
      have HC1 := Lib.hid hc1
      have HC2 := Lib.hid hc2
      have HC3 := Lib.hid hc3
      have hN : N - k = (N - (k + 1)) + 1 := by omega
      have H2 := H1.out
      rw [hN] at H2
      have hstep := fun h0 => (congrArg headEnd (headGo_step (k := N - (k + 1)) (acc := acc) h1 h2 h3 h0)).symm.trans H2
      have hstop := fun h0 => (headGo_stop (k := N - (k + 1)) (acc := acc) h1 h2 h3 h0).symm.trans H2
      have hR := HR
      have HRS3 : Hid (r3.s = s) := Lib.hid (hs5.trans hrs.out)
      have hts : t.size ≤ 524288 := by have := hrs.out; rw [this] at l1; omega
      clear hc1 hc2 hc3 h1 h2 h3 hN H2 H1 hs5 hrs
      by_cases he : r3.e = 0
      · have he' : (r3.e == 0) = true := by rw [he]; rfl
        have HST := Lib.hid (hstep he)
        have HI2 : Hid (∀ f ∈ hfiles (acc ++ [(⟨⟨t, m, ⟨#[]⟩⟩, n⟩ : SzD)]), FOk f) := Lib.hid (by
          intro f hf
          rw [hfiles_snoc] at hf
          rcases List.mem_append.1 hf with h | h
          · exact HI.out f h
          · rw [List.mem_singleton] at h
            subst h
            exact ⟨by show t.size ≤ _; omega, by show (0 : Nat) ≤ _; omega⟩)
        clear hstep hstop he
        go_wp2_with (first
          | (go_at_call 56; (with_reducible refine (HC1.out _ hR.out).mono ?_); rintro e w3 ⟨rfl, hr3, g3⟩; have hR := Lib.hid hr3; have hown := hown.kept g3 (.inr (own_ne hown hbl2)); have hownS := hownS.kept g3 (.inr (own_ne hownS hbl2)); have hB := below_grown hB g3 (Nat.le_refl _); have hbse := hB.size; have hzz := Nat.le_trans hzz g3.size)
          | (go_at_call 57; (with_reducible refine (HC2.out _ hR.out).mono ?_); rintro e w4 ⟨rfl, hr4, g4⟩; have hR := Lib.hid hr4; have hown := hown.kept g4 (.inr (own_ne hown hbl2)); have hownS := hownS.kept g4 (.inr (own_ne hownS hbl2)); have hB := below_grown hB g4 (Nat.le_refl _); have hbse := hB.size; have hzz := Nat.le_trans hzz g4.size; have hlw := Blk.lt hR.out)
          | (go_at_call 55; (with_reducible refine (HC3.out _ (rdr_alloc hR.out (.cells #[Value.string t, .int .i64 (m : Int), .string ⟨#[]⟩] 33))).mono ?_); rintro e w5 ⟨rfl, hr5, g5⟩; have hR5 := Lib.hid hr5; have hown5 := (hown.alloc (.cells #[Value.string t, .int .i64 (m : Int), .string ⟨#[]⟩] 33)).kept g5 (.inr (own_ne hown hbl2)); have hownS5 := (hownS.alloc (.cells #[Value.string t, .int .i64 (m : Int), .string ⟨#[]⟩] 33)).kept g5 (.inr (own_ne hownS hbl2)); have hB5 := below_grown (hB.alloc hbse (.cells #[Value.string t, .int .i64 (m : Int), .string ⟨#[]⟩] 33)) g5 (Nat.le_refl _); have hbox5 : Blk w5 w4.heap.size 33 #[Value.string t, .int .i64 (m : Int), .string ⟨#[]⟩] := Blk.grown (Blk.new w4 33 #[Value.string t, .int .i64 (m : Int), .string ⟨#[]⟩]) g5 (some_ne hlw); obtain ⟨k0, k1, k2⟩ := fbox_cells hbox5; have hs5 := hB5.size; have hz5 : w1.heap.size ≤ w5.heap.size := Nat.le_trans hzz (Nat.le_trans (by simp) g5.size))
          | (go_at_call 58; (refine (err_any _ _ _ hR5.out).mono ?_); rintro e w6 ⟨rfl, rfl⟩)
          | (at_builtin; refine wpList_push rfl _ _ _ rfl Tryd.underlying22 gi0 gz0 gz1 gz2 file_zero (by decide) hown5 rfl rfl rfl (file_one ⟨t, m, ⟨#[]⟩⟩) (by unfold maxLen; omega) (by omega) hz5 ?_; intro g7 cap7 w7 hown7 hgr7 hat7; have hownS7 := hownS5.kept hgr7 (own_apart hownS5 hown5 (by decide)); have hbox7 := Blk.grown hbox5 hgr7 (fun e => Nat.lt_irrefl _ (hown.lt _ e.symm).2); have hz7 := Nat.le_trans hz5 hgr7.size)
          | (at_builtin; refine wpList_push rfl _ _ _ rfl Tryd.underlying66 fi0 fz0 fz1 fz2 rfl (by decide) hownS7 rfl rfl rfl (int_one n) (by unfold maxLen; omega) (by omega) hz7 ?_; intro g8 cap8 w8 hown8 hgr8 hat8; have hown9 := hown7.kept hgr8 (own_apart hown7 hownS7 (by decide))))
        have hR6 := Lib.hid (Blk.grown (Blk.grown hR5.out hgr7 (fun e => own_ne hown5 hbl2 e.symm)) hgr8 (fun e => own_ne hownS7 hbl2 e.symm))
        have hB7 := hB5.grown hgr7 hs5 (fun j hj => by have := (hown5.lt j hj).1; omega)
        have hB8 := hB7.grown hgr8 hB7.size (fun j hj => by have := (hownS7.lt j hj).1; omega)
        go_roundw
        case rel => unfold HRel; exact ⟨k + 1, acc ++ [⟨⟨t, m, ⟨#[]⟩⟩, n⟩], r3, by omega, by go_num, by rw [List.length_append, hfiles_snoc, fcells_snoc]; exact hown9, by rw [List.length_append, ncells_snoc]; exact hown8, by simp; omega, HI2, hR6, o3, HRS3, HST, Nat.le_trans hz7 hgr8.size, hB8⟩
        case measure => simp [intOf] <;> omega
      · have hst := hstop he
        subst hst
        have he' : (r3.e == 0) = false := by rw [beq_eq_false_iff_ne]; exact he
        clear hstep hstop he
        go_wp2_with (first
          | (go_at_call 56; (with_reducible refine (HC1.out _ hR.out).mono ?_); rintro e w3 ⟨rfl, hr3, g3⟩; have hR := Lib.hid hr3; have hown := hown.kept g3 (.inr (own_ne hown hbl2)); have hownS := hownS.kept g3 (.inr (own_ne hownS hbl2)); have hB := below_grown hB g3 (Nat.le_refl _); have hbse := hB.size; have hzz := Nat.le_trans hzz g3.size)
          | (go_at_call 57; (with_reducible refine (HC2.out _ hR.out).mono ?_); rintro e w4 ⟨rfl, hr4, g4⟩; have hR := Lib.hid hr4; have hown := hown.kept g4 (.inr (own_ne hown hbl2)); have hownS := hownS.kept g4 (.inr (own_ne hownS hbl2)); have hB := below_grown hB g4 (Nat.le_refl _); have hbse := hB.size; have hzz := Nat.le_trans hzz g4.size; have hlw := Blk.lt hR.out)
          | (go_at_call 55; (with_reducible refine (HC3.out _ (rdr_alloc hR.out (.cells #[Value.string t, .int .i64 (m : Int), .string ⟨#[]⟩] 33))).mono ?_); rintro e w5 ⟨rfl, hr5, g5⟩; have hR5 := Lib.hid hr5; have hown5 := (hown.alloc (.cells #[Value.string t, .int .i64 (m : Int), .string ⟨#[]⟩] 33)).kept g5 (.inr (own_ne hown hbl2)); have hownS5 := (hownS.alloc (.cells #[Value.string t, .int .i64 (m : Int), .string ⟨#[]⟩] 33)).kept g5 (.inr (own_ne hownS hbl2)); have hB5 := below_grown (hB.alloc hbse (.cells #[Value.string t, .int .i64 (m : Int), .string ⟨#[]⟩] 33)) g5 (Nat.le_refl _); have hbox5 : Blk w5 w4.heap.size 33 #[Value.string t, .int .i64 (m : Int), .string ⟨#[]⟩] := Blk.grown (Blk.new w4 33 #[Value.string t, .int .i64 (m : Int), .string ⟨#[]⟩]) g5 (some_ne hlw); obtain ⟨k0, k1, k2⟩ := fbox_cells hbox5; have hs5 := hB5.size; have hz5 : w1.heap.size ≤ w5.heap.size := Nat.le_trans hzz (Nat.le_trans (by simp) g5.size))
          | (go_at_call 58; (refine (err_any _ _ _ hR5.out).mono ?_); rintro e w6 ⟨rfl, rfl⟩))
        ((try simp only [Exit.inBlock, Exit.then]); refine bodyPost_ret (results_tmp4 rfl _ _ _) rfl ?_)
        unfold HeadOut
        exact ⟨_, _, rfl, World.ownsRow_nil _ _ _ _, World.ownsRow_nil _ _ _ _, hB5⟩
    · have hN0 : N - k = 0 := by omega
      have H2 := H1.out
      rw [hN0] at H2
      have f1 := fun h => (headEnd_bad (acc := acc) (r := r) h).symm.trans H2
      have f2 := fun h h2 => (headEnd_check (acc := acc) (r := r) h h2).symm.trans H2
      have f3 := fun h h2 => (headEnd_ok (acc := acc) (r := r) h h2).symm.trans H2
      have hri := Lib.hid (fun A c W h hw => check_any A c (hfiles acc) W (by rw [hfiles_len]; omega) HI.out h (hm.on hw))
      rw [hfiles_len] at hri
      have hlf := Lib.hid (fun W h => left_any w.heap.size r W h hok)
      have hsz : r.s.size = s.size := by rw [hrs.out]
      rw [hsz] at hlf
      have hat : r.at_ ≤ s.size := by rw [← hsz]; exact hok.1
      clear H2 H1 hN0 hrs hsz
      have hR := HR
      by_cases hee : r.e = 0
      · have hee' : (r.e == 0) = true := by rw [hee]; rfl
        have f2 := f2 hee
        have f3 := f3 hee
        clear f1 hee
        have hE : checkE (acc.map (·.f)) = checkE (hfiles acc) := rfl
        rw [hE] at f2 f3
        generalize checkE (hfiles acc) = G at *
        obtain ⟨A', c', rfl, hcap, ha', hfr⟩ := own_arr hown
        by_cases hG : G = 0
        · have f3 := f3 hG
          subst f3
          have hG' : (G == 0) = true := by rw [hG]; rfl
          have HA4 := Lib.hid ha'
          have hw1 : IntKind.i64.wrap ((s.size : Int) - ((s.size : Int) - (r.at_ : Int))) = (r.at_ : Int) := by rw [IntWalk.i64_in _ (by omega)]; omega
          clear f2 hG ha' hE
          go_wp2_with (first
            | (go_at_call 58; (refine (err_any _ _ _ hR.out).mono ?_); rintro e w6 ⟨rfl, rfl⟩)
            | (go_at_call 27; (with_reducible refine (hri.out _ _ _ HA4.out hB).mono ?_); rintro e w7 ⟨rfl, hb7⟩; have hR7 := Lib.hid (rdr_below hR.out hb7); have hown7 := own_below hown hb7; have hownS7 := own_below hownS hb7; have hB7 := below_on hB hb7)
            | (go_at_call 59; (with_reducible refine (hlf.out _ hR7.out).mono ?_); rintro e w8 ⟨rfl, nn, rfl⟩))
          ((try simp only [Exit.inBlock, Exit.then]); refine bodyPost_ret (results_tmp4 rfl _ _ _) rfl ?_)
          unfold HeadOut
          exact ⟨_, _, rfl, own_mono (own_drewN hown7 _) (Nat.le_of_lt hbl2), own_mono (own_drewN hownS7 _) (Nat.le_of_lt hbl2), below_drewN hB7 _⟩
        · have f2 := f2 hG
          subst f2
          have hG' : (G == 0) = false := by rw [beq_eq_false_iff_ne]; exact hG
          have HA4 := Lib.hid ha'
          clear f3 hG ha' hE
          go_wp2_with (first
            | (go_at_call 58; (refine (err_any _ _ _ hR.out).mono ?_); rintro e w6 ⟨rfl, rfl⟩)
            | (go_at_call 27; (with_reducible refine (hri.out _ _ _ HA4.out hB).mono ?_); rintro e w7 ⟨rfl, hb7⟩; have hB7 := below_on hB hb7))
          ((try simp only [Exit.inBlock, Exit.then]); refine bodyPost_ret (results_tmp4 rfl _ _ _) rfl ?_)
          unfold HeadOut
          exact ⟨_, _, rfl, World.ownsRow_nil _ _ _ _, World.ownsRow_nil _ _ _ _, hB7⟩
      · have f1 := f1 hee
        subst f1
        have hee' : (r.e == 0) = false := by rw [beq_eq_false_iff_ne]; exact hee
        clear f2 f3 hee
        go_wp2_with (go_at_call 58; (refine (err_any _ _ _ hR.out).mono ?_); rintro e w6 ⟨rfl, rfl⟩)
        ((try simp only [Exit.inBlock, Exit.then]); refine bodyPost_ret (results_tmp4 rfl _ _ _) rfl ?_)
        unfold HeadOut
        exact ⟨_, _, rfl, World.ownsRow_nil _ _ _ _, World.ownsRow_nil _ _ _ _, hB⟩
end Go.Proofs.YtlfennooocmclaaDoor
