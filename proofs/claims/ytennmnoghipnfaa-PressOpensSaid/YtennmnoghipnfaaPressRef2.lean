/- The walk through the reference's Press. -/
import Derived.Test.YtennmnoghipnfaaPressRef
namespace Go.Proofs.Ytennmnoghipnfaa
open Go.RowKit
set_option linter.unusedVariables false

/-- What the reference has found, as against the best so far. -/
def Rfd (q : Nat × Nat) (back size : Nat) : Prop := (back = 0 ∧ size = 3 ∧ q = (0, 0)) ∨ (1 ≤ back ∧ 4 ≤ size ∧ q = (back, size))
theorem rf_step {f : Nat → Nat} {d back size : Nat} (hd : 1 ≤ d) (H : Rfd (best f (d - 1)) back size) : Rfd (best f d) (if size < f d then d else back) (if size < f d then f d else size) := by
  obtain ⟨d, rfl⟩ : ∃ e, d = e + 1 := ⟨d - 1, by omega⟩
  rw [Nat.add_sub_cancel] at H
  simp only [best]
  rcases H with ⟨rfl, rfl, hq⟩ | ⟨h1, h4, hq⟩
  · rw [hq]
    by_cases h : 3 < f (d + 1)
    · rw [if_pos h, if_pos h, if_pos ⟨by omega, by show 0 < _; omega⟩]
      exact .inr ⟨by omega, by omega, rfl⟩
    · rw [if_neg h, if_neg h, if_neg (fun h2 => h (by omega))]
      exact .inl ⟨rfl, rfl, rfl⟩
  · rw [hq]
    by_cases h : size < f (d + 1)
    · rw [if_pos h, if_pos h, if_pos ⟨by omega, h⟩]
      exact .inr ⟨by omega, by omega, rfl⟩
    · rw [if_neg h, if_neg h, if_neg (fun h2 => h h2.2)]
      exact .inr ⟨h1, h4, rfl⟩
theorem alf_le (t : List UInt8) (a d : Nat) : alf t a d ≤ 259 := al_le _ _ _ _
theorem rf_end {t : List UInt8} {a d back size : Nat} (hd : 1 ≤ d) (hda : d ≤ min a 4096 + 1) (hend : 4096 < d ∨ a < d ∨ 259 ≤ size) (H : Rfd (best (alf t a) (d - 1)) back size) : Rfd (bst t a) back size := by
  unfold bst
  by_cases h : d - 1 = min a 4096
  · rw [← h]; exact H
  · have h259 : 259 ≤ size := by omega
    rcases H with ⟨rfl, rfl, hq⟩ | ⟨h1, h4, hq⟩
    · omega
    · have := best_full (alf t a) (m := d - 1) (min a 4096 - (d - 1)) (fun x => by rw [hq]; exact Nat.le_trans (alf_le t a x) h259)
      rw [show d - 1 + (min a 4096 - (d - 1)) = min a 4096 by omega] at this
      rw [this]
      exact .inr ⟨h1, h4, hq⟩
theorem held_more {t : List UInt8} {a f : Nat} (hf : f ≤ a) (ha : a < t.length) : (t.take a).drop f ++ (t.take (a + 1)).drop a = (t.take (a + 1)).drop f := by
  rw [List.drop_take, List.drop_take, List.drop_take]
  rw [show a + 1 - f = (a - f) + (a + 1 - a) by omega, List.take_add, List.drop_drop]
  rw [show f + (a - f) = a by omega]
theorem cat_list (a b : ByteArray) : (a ++ b).data.toList = a.data.toList ++ b.data.toList := by rw [ByteArray.data_append, Array.toList_append]

theorem ref_bytes_at (x : Int) (n : Nat) (w : World) (hx : x = (n : Int)) (hn : n ≤ 4611686018427387903) :
    Calls Try.prog 26 #[.int .i64 x] w fun e w' => e = .returned (.string (numS (n : Int))) ∧ Below w.heap.size w w' := by
  subst hx
  exact ref_bytes _ w (by omega) (by omega)

set_option maxHeartbeats 4000000 in
set_option maxRecDepth 100000 in
theorem ref_press (s : ByteArray) (w : World) (h1 : s.size ≤ 1048576) :
    Calls Try.prog 14 #[.string s] w fun e w' => e = .returned (.tuple #[.string (pressS s), .int .i64 0]) ∧ Below w.heap.size w w' := by
  have hL5 := press_len5 (t := s.data.toList) (by rw [← ba_size]; exact h1)
  rw [← ba_size] at hL5
  have hps := Lib.hid (pressS_ok h1).1
  have hbt := fun W => ref_bytes s.size W (by omega) (by omega)
  have HBT := Lib.hid hbt
  have HE0 : Hid ((numS s.size).data.toList ++ prs s.data.toList 0 0 = pressL s.data.toList) := by
    rw [numS_list (by omega)]
    unfold pressL
    rw [← ba_size]
    exact Lib.hid rfl
  clear hbt
  have hB : Below w.heap.size w w := Below.refl _ _
  go_enter Try.func14, Try.ntmps14
  go_wp2_with (go_at_call 26; refine (HBT.out _).mono ?_; rintro e w1 ⟨rfl, hb1⟩; have hB := below_on hB hb1)
  go_loopw [4, 5, 6] (fun v4 v5 v6 wr => ∃ (out held : ByteArray) (at_ from_ : Nat), v4 = .string out ∧ v5 = .string held ∧ v6 = .int .i64 at_ ∧ from_ ≤ at_ ∧ at_ ≤ s.size ∧ Hid (held.data.toList = (s.data.toList.take at_).drop from_) ∧
    Hid (out.data.toList ++ prs s.data.toList at_ from_ = pressL s.data.toList) ∧ Below w.heap.size w wr) (fun _ _ v6 _ => s.size - (intOf v6).toNat)
  case atStart => exact ⟨_, _, 0, 0, rfl, rfl, rfl, Nat.le_refl _, Nat.zero_le _, Lib.hid (by simp), HE0, hB⟩
  case round =>
    clear HE0 hB
    obtain ⟨out, held, at_, from_, rfl, rfl, rfl, hfa, has, HH, HE, hB⟩ := hrel
    have hol : out.size ≤ 5 * s.size + 4 := by
      have := congrArg List.length HE.out
      rw [List.length_append, ← ba_size] at this
      omega
    have hhl : held.size = at_ - from_ := by
      rw [ba_size, HH.out, List.length_drop, List.length_take, ← ba_size]
      omega
    by_cases hlt : at_ < s.size
    · have hlt' : at_ < s.data.toList.length := by rw [← ba_size]; exact hlt
      go_wp2
      go_loopw [7, 8, 9] (fun v7 v8 v9 wr => ∃ (back size d : Nat), v7 = .int .i64 back ∧ v8 = .int .i64 size ∧ v9 = .int .i64 d ∧ 1 ≤ d ∧ d ≤ min at_ 4096 + 1 ∧ size ≤ 259 ∧ back ≤ at_ ∧ Hid (Rfd (best (alf s.data.toList at_) (d - 1)) back size) ∧ Below w.heap.size w wr) (fun _ _ v9 _ => 4097 - (intOf v9).toNat)
      case atStart => exact ⟨0, 3, 1, rfl, rfl, rfl, Nat.le_refl _, by omega, by omega, by omega, Lib.hid (.inl ⟨rfl, rfl, rfl⟩), hB⟩
      case round =>
        clear hB
        obtain ⟨back, size, d, rfl, rfl, rfl, hd1, hd2, hsi, hba, HR, hB⟩ := hrel
        by_cases hgo : d ≤ 4096 ∧ d ≤ at_ ∧ size < 259
        · obtain ⟨g1, g2, g3⟩ := hgo
          have HN := Lib.hid (rf_step hd1 HR.out)
          have hal := alf_le s.data.toList at_ d
          have ha := fun W => ref_alike s (at_ - d) at_ W (by omega) has h1
          rw [show ((at_ - d : Nat) : Int) = (at_ : Int) - d from by omega] at ha
          rw [show al s.data.toList (at_ - d) at_ 259 = alf s.data.toList at_ d from rfl] at ha
          have HA := Lib.hid ha
          clear ha
          generalize alf s.data.toList at_ d = n at hal HN HA
          by_cases hn : size < n
          · rw [if_pos hn, if_pos hn] at HN
            go_wp2_with (go_at_call 27; refine (HA.out _).mono ?_; rintro e w2 ⟨rfl, hb2⟩; have hB := below_on hB hb2)
            exact ⟨⟨d, n, d + 1, rfl, rfl, by go_num, by omega, by omega, hal, by omega, HN, hB⟩, by simp [intOf]; omega⟩
          · rw [if_neg hn, if_neg hn] at HN
            go_wp2_with (go_at_call 27; refine (HA.out _).mono ?_; rintro e w2 ⟨rfl, hb2⟩; have hB := below_on hB hb2)
            exact ⟨⟨back, size, d + 1, rfl, rfl, by go_num, by omega, by omega, hsi, hba, HN, hB⟩, by simp [intOf]; omega⟩
        · have hF := rf_end hd1 hd2 (by omega) HR.out
          clear HR
          rcases hF with ⟨rfl, rfl, hb⟩ | ⟨hb1, hb4, hb⟩
          · have HE' := HE.out
            rw [prs_one hlt' (by rw [hb])] at HE'
            have HE2 := Lib.hid HE'
            have HH2 : Hid ((held ++ s.extract at_ (at_ + 1)).data.toList = (s.data.toList.take (at_ + 1)).drop from_) := by
              rw [cat_list, run_str, HH.out]
              exact Lib.hid (held_more hfa hlt')
            have hes : (s.extract at_ (at_ + 1)).size = 1 := by rw [ByteArray.size_extract]; omega
            clear HE' HE HH hb
            rcases (show 4096 < d ∨ (d ≤ 4096 ∧ at_ < d) from by omega) with hg | ⟨hg, hg2⟩
            all_goals
              go_wp2
              exact ⟨⟨out, _, at_ + 1, from_, rfl, rfl, by go_num, by omega, by omega, HH2, HE2, hB⟩, by simp [intOf]; omega⟩
          · have HE' := HE.out
            rw [prs_cp hlt' (by rw [hb]; show size ≠ 0; omega), hb] at HE'
            have Hp := Lib.hid (plS_list (h := held) HH.out hfa (by rw [← ba_size]; exact has) (by rw [← ba_size]; exact h1))
            have Ha := Lib.hid (numS_list (n := 2 * (size - 4) + 1) (by omega))
            have Hb := Lib.hid (numS_list (n := back - 1) (by omega))
            have hpl := plS_le held (by omega)
            have hal := numS_9 (n := 2 * (size - 4) + 1) (by omega)
            have hbl := numS_9 (n := back - 1) (by omega)
            have HP := Lib.hid (fun W => ref_plain held W (by omega))
            have HA := Lib.hid (fun x W hx => ref_bytes_at x (2 * (size - 4) + 1) W hx (by omega))
            have HC := Lib.hid (fun x W hx => ref_bytes_at x (back - 1) W hx (by omega))
            generalize numS ((2 * (size - 4) + 1 : Nat) : Int) = pa at *
            generalize numS ((back - 1 : Nat) : Int) = pb at *
            generalize plS held = pp at *
            have HE2 : Hid ((out ++ pp ++ pa ++ pb).data.toList ++ prs s.data.toList (at_ + size) (at_ + size) = pressL s.data.toList) := by
              rw [cat_list, cat_list, cat_list, Hp.out, Ha.out, Hb.out]
              exact Lib.hid (by rw [← HE']; simp only [List.append_assoc])
            have HH2 : Hid ((⟨#[]⟩ : ByteArray).data.toList = (s.data.toList.take (at_ + size)).drop (at_ + size)) := Lib.hid (by
              rw [List.drop_of_length_le (by rw [List.length_take]; omega)])
            have hse : at_ + size ≤ s.size := by
              rcases bst_cases s.data.toList (Nat.le_of_lt hlt') with hc | ⟨_, _, _, _, _, h6, _⟩
              · rw [hb] at hc
                injection hc with _ hc
                omega
              · rw [hb, ← ba_size] at h6
                exact h6
            clear HE' HE HH hb Hp Ha Hb
            rcases (show 4096 < d ∨ (d ≤ 4096 ∧ at_ < d) ∨ (d ≤ 4096 ∧ d ≤ at_ ∧ 259 ≤ size) from by omega) with hg | ⟨hg, hg2⟩ | ⟨hg, hg2, hg3⟩
            all_goals
              go_wp2_with (first
                | (go_at_call 28; with_reducible refine (HP.out _).mono ?_; rintro e w2 ⟨rfl, hb2⟩; have hB := below_on hB hb2)
                | (go_at_call 26; refine (HA.out _ _ (by omega)).mono ?_; rintro e w3 ⟨rfl, hb3⟩; have hB := below_on hB hb3)
                | (go_at_call 26; refine (HC.out _ _ (by omega)).mono ?_; rintro e w4 ⟨rfl, hb4⟩; have hB := below_on hB hb4))
              exact ⟨⟨_, _, at_ + size, at_ + size, rfl, rfl, by go_num, Nat.le_refl _, hse, HH2, HE2, hB⟩, by simp [intOf]; omega⟩
    · obtain rfl : at_ = s.size := by omega
      have HE' := HE.out
      rw [prs_end (by rw [← ba_size]; exact Nat.le_refl _)] at HE'
      have hp := plS_list (h := held) HH.out hfa (by rw [← ba_size]; exact has) (by rw [← ba_size]; exact h1)
      have hpl := plS_le held (by omega)
      have HP := Lib.hid (fun W => ref_plain held W (by omega))
      generalize plS held = pp at *
      have HE2 : Hid (out ++ pp = pressS s) := by
        rw [hps.out]
        have : (out ++ pp).data.toList = pressL s.data.toList := by rw [cat_list, hp, ba_size]; exact HE'
        exact Lib.hid (by rw [← this])
      clear HE' HE HH hp
      go_wp2_with (go_at_call 28; with_reducible refine (HP.out _).mono ?_; rintro e w2 ⟨rfl, hb2⟩; have hB := below_on hB hb2)
      go_ret2
      exact ⟨by rw [← HE2.out]; rfl, hB⟩
end Go.Proofs.Ytennmnoghipnfaa
