/- The walk of the law CodeCanon. -/
import Derived.Test.YtgcghcmmcljiiaaReadsPre
import Derived.Test.YtgcghcmmcljiiaaCanonPlain
import Derived.Test.YtgcghcmmcljiiaaListWalk
set_option linter.unusedVariables false
namespace Go.Proofs.Ytgcghcmmcljiiaa
open Go.RowKit

theorem rdNums_ok {r : Rd} {n : Int} (h : r.ok) : (rdNums r n).2.ok := by simpa [rdStep] using rdStep_ok (r := r) (k := 6) (n := n) (m := 0) h
theorem rdNums_s (r : Rd) (n : Int) : (rdNums r n).2.s = r.s := by simpa [rdStep] using rdStep_s r 6 n 0
theorem rdTexts_ok {r : Rd} {n m : Int} (h : r.ok) : (rdTexts r n m).2.ok := by simpa [rdStep] using rdStep_ok (r := r) (k := 7) (n := n) (m := m) h
theorem rdTexts_s (r : Rd) (n m : Int) : (rdTexts r n m).2.s = r.s := by simpa [rdStep] using rdStep_s r 7 n m
theorem rdCount_most (r : Rd) {m : Int} (h : 0 ≤ m) : ((rdCount r m).1 : Int) ≤ m := by
  unfold rdCount
  simp only []
  split
  · exact h
  · rename_i h0
    by_cases he : (rdNum r).2.e = 0
    · have : ¬ m < ((rdNum r).1 : Int) := fun hl => h0 ⟨he, hl⟩
      omega
    · rw [rdNum_err he]
      omega
theorem rdNums_most (r : Rd) {m : Int} (h : 0 ≤ m) : ((rdNums r m).1.length : Int) ≤ m := by
  have h1 := rdNumsGo_len (rdCount r m).1 (rdCount r m).2
  have h2 := rdCount_most r h
  unfold rdNums
  simp only []
  split
  · exact h
  · omega
theorem rdTexts_most (r : Rd) {m : Int} (k : Int) (h : 0 ≤ m) : ((rdTexts r m k).1.length : Int) ≤ m := by
  have h1 := rdTextsGo_len k (rdCount r m).1 (rdCount r m).2
  have h2 := rdCount_most r h
  unfold rdTexts
  simp only []
  split
  · exact h
  · omega
theorem rdTexts_each (r : Rd) (m k : Int) (ho : r.ok) : ∀ x ∈ (rdTexts r m k).1, (x.size : Int) ≤ k := by
  intro x hx
  unfold rdTexts at hx
  simp only [] at hx
  split at hx
  · cases hx
  · rename_i h0
    exact (rdTextsGo_canon k _ _ (rdCount_ok' ho) (by simpa using h0)).2.2 x hx
theorem rdNumsGo_le : ∀ (n : Nat) (r : Rd), ∀ x ∈ (rdNumsGo n r).1, x ≤ 4611686018427387903
  | 0, r => by simp [rdNumsGo]
  | n + 1, r => by
    rw [rdNumsGo]
    simp only []
    split
    · simp
    · intro x hx
      rcases List.mem_cons.1 hx with rfl | hx
      · exact rdNum_le r
      · exact rdNumsGo_le n _ x hx
theorem rdNums_each (r : Rd) (m : Int) : ∀ x ∈ (rdNums r m).1, x ≤ 4611686018427387903 := by
  intro x hx
  unfold rdNums at hx
  simp only [] at hx
  split at hx
  · cases hx
  · exact rdNumsGo_le _ _ x hx

theorem Rdr.lt {w : World} {b : Nat} {r : Rd} (h : Rdr w b r) : b < w.heap.size := Blk.lt h

theorem code_nats (A : Option Addr) (c : Nat) (l : List Nat) (w : World) (hl : l.length ≤ 1048576) (hb : ∀ x ∈ l, x ≤ 4611686018427387903) (harr : Arr w w.heap.size 1 A l.length (l.map natV)) :
    Calls Try.prog 30 #[.slice A l.length c] w fun e w' => e = .returned (.tuple #[.string (listR NumOk numB 2 (l.map fun n : Nat => (n : Int))).1, .int .i64 (listR NumOk numB 2 (l.map fun n : Nat => (n : Int))).2]) ∧ Below w.heap.size w w' := by
  have := code_nums A c (l.map fun n : Nat => (n : Int)) w (by simpa using hl) (by
    intro x hx
    obtain ⟨n, hn, rfl⟩ := List.mem_map.1 hx
    have := hb n hn
    exact ⟨by omega, by omega⟩) (by rw [natV_map]; simpa using harr)
  simpa using this

set_option maxHeartbeats 4000000 in
set_option maxRecDepth 100000 in
theorem law_canon (u : ByteArray) (w : World) (hu : u.size ≤ 140737488351232) :
    Calls Try.prog 10 #[.string u] w fun e w' => e = .returned (.bool true) ∧ Below w.heap.size w w' := by
  obtain ⟨s, hs, hcut⟩ : ∃ s : ByteArray, s.size ≤ 4000 ∧ (¬ 4000 < u.size ∧ u = s ∨ 4000 < u.size ∧ u.extract 0 4000 = s) := by
    by_cases h : 4000 < u.size
    · exact ⟨u.extract 0 4000, by rw [ByteArray.size_extract]; omega, .inr ⟨h, rfl⟩⟩
    · exact ⟨u, by omega, .inl ⟨h, rfl⟩⟩
  have hok : Rd.ok ⟨s, 0, 0⟩ := ⟨Nat.zero_le _, by show s.size ≤ _; omega⟩
  obtain ⟨n, r1, hx1⟩ : ∃ n r1, rdNum ⟨s, 0, 0⟩ = (n, r1) := ⟨_, _, rfl⟩
  have o1 : r1.ok := by have := rdNum_ok hok; rwa [hx1] at this
  have s1 : r1.s = s := by have := rdNum_s ⟨s, 0, 0⟩; rwa [hx1] at this
  have n1 : n ≤ 4611686018427387903 := by have := rdNum_le ⟨s, 0, 0⟩; rwa [hx1] at this
  have c1 := canon_num (s := s) hx1
  obtain ⟨L, r2, hx2⟩ : ∃ n r1, rdNums ⟨s, 0, 0⟩ 4000 = (n, r1) := ⟨_, _, rfl⟩
  have o2 : r2.ok := by have := rdNums_ok (n := 4000) hok; rwa [hx2] at this
  have s2 : r2.s = s := by have := rdNums_s ⟨s, 0, 0⟩ 4000; rwa [hx2] at this
  have n2 : (L.length : Int) ≤ 4000 := by have := rdNums_most ⟨s, 0, 0⟩ (m := 4000) (by omega); rwa [hx2] at this
  have b2 : ∀ x ∈ L, x ≤ 4611686018427387903 := by have := rdNums_each ⟨s, 0, 0⟩ 4000; rwa [hx2] at this
  have c2 := canon_nums (s := s) hx2
  obtain ⟨M, r3, hx3⟩ : ∃ n r1, rdTexts ⟨s, 0, 0⟩ 4000 4000 = (n, r1) := ⟨_, _, rfl⟩
  have o3 : r3.ok := by have := rdTexts_ok (n := 4000) (m := 4000) hok; rwa [hx3] at this
  have s3 : r3.s = s := by have := rdTexts_s ⟨s, 0, 0⟩ 4000 4000; rwa [hx3] at this
  have n3 : (M.length : Int) ≤ 4000 := by have := rdTexts_most ⟨s, 0, 0⟩ (m := 4000) 4000 (by omega); rwa [hx3] at this
  have b3 : ∀ x ∈ M, (x.size : Int) ≤ 4000 := by have := rdTexts_each ⟨s, 0, 0⟩ 4000 4000 hok; rwa [hx3] at this
  have c3 := canon_texts (s := s) (by omega) hx3 (by omega)
  obtain ⟨s', at1, e1⟩ := r1
  obtain rfl : s' = s := s1
  obtain ⟨s, at2, e2⟩ := r2
  obtain rfl : s = s' := s2
  obtain ⟨s', at3, e3⟩ := r3
  obtain rfl : s' = s := s3
  have a1 : at1 ≤ s'.size := o1.1
  have a2 : at2 ≤ s'.size := o2.1
  have a3 : at3 ≤ s'.size := o3.1
  have hc1 := fun w => code_num n w (by omega) (by omega)
  have hc2 := fun A c w => code_nats A c L w (by omega) b2
  have hc3 := fun A c w => code_texts A c M w (by omega) (fun x hx => by have := b3 x hx; omega)
  have g1 : (e1 == 0) = false ∨ ((e1 == 0) = true ∧ s'.extract 0 at1 = numS n) := by
    by_cases h : e1 = 0
    · exact .inr ⟨by simp [h], c1 h a1⟩
    · exact .inl (by simp [h])
  have g2 : (e2 == 0) = false ∨ ((e2 == 0) = true ∧ s'.extract 0 at2 = (listR NumOk numB 2 (L.map fun n : Nat => (n : Int))).1) := by
    by_cases h : e2 = 0
    · exact .inr ⟨by simp [h], c2 h a2⟩
    · exact .inl (by simp [h])
  have g3 : (e3 != 0) = true ∨ ((e3 != 0) = false ∧ s'.extract 0 at3 = (listR TxtOk txtB 4 M).1) := by
    by_cases h : e3 = 0
    · exact .inr ⟨by simp [h], c3 h a3⟩
    · exact .inl (by simp [h])
  clear c1 c2 c3 b2 b3
  generalize numS n = N1 at hc1 g1
  generalize listR NumOk numB 2 (L.map fun n : Nat => (n : Int)) = N2 at hc2 g2
  generalize listR TxtOk txtB 4 M = N3 at hc3 g3
  have HC1 := Lib.hid hc1
  have HC2 := Lib.hid hc2
  have HC3 := Lib.hid hc3
  have HX1 := Lib.hid hx1
  have HX2 := Lib.hid hx2
  have HX3 := Lib.hid hx3
  have l1 : (s'.size : Int) - ((s'.size : Int) - at1) = at1 := by omega
  have l2 : (s'.size : Int) - ((s'.size : Int) - at2) = at2 := by omega
  have l3 : (s'.size : Int) - ((s'.size : Int) - at3) = at3 := by omega
  clear hc1 hc2 hc3 hx1 hx2 hx3
  have hB := Below.refl w.heap.size w
  rcases hcut with ⟨hns, rfl⟩ | ⟨hns, hcut⟩
  · rcases g1 with g1 | ⟨g1, g1'⟩ <;> rcases g2 with g2 | ⟨g2, g2'⟩ <;> rcases g3 with g3 | ⟨g3, g3'⟩
    all_goals
      go_enter Try.func10, Try.ntmps10
      go_wp2_with (first | (go_at_call 17; have hz := hB.size; refine (read_any _ _).mono ?_; rintro e w1 ⟨rfl, hr, hb1⟩; have hB := below_next hB (Nat.le_refl _) hb1; clear hb1) | (go_at_call 26; have hn := num_any _ _ _ hr hok; rw [HX1.out] at hn; refine hn.mono ?_; rintro e w2 ⟨rfl, hr, hg⟩; have hB := below_step hB (Nat.le_refl _) hg (by intro k hk; injection hk with hk; omega); clear hg hn) | (go_at_call 12; refine (HC1.out _).mono ?_; rintro e w3 ⟨rfl, hb3⟩; have hr := Rdr.below hr hb3 hr.lt; have hB := below_next hB (Nat.le_refl _) hb3; clear hb3) | (go_at_call 28; have hn := nums_any _ _ 4000 _ hr hok (Nat.le_trans hs (by omega)); rw [HX2.out] at hn; refine hn.mono ?_; rintro e w4 ⟨A4, c4, rfl, ha, hfr, hr, hg⟩; have hB := below_step hB (Nat.le_refl _) hg (by intro k hk; injection hk with hk; omega); clear hg hn) | (go_at_call 30; refine (HC2.out _ _ _ ha).mono ?_; rintro e w5 ⟨rfl, hb3⟩; have hr := Rdr.below hr hb3 hr.lt; have hB := below_next hB (Nat.le_refl _) hb3; clear hb3 ha) | (go_at_call 34; have hn := texts_any _ _ 4000 4000 _ hr hok (Nat.le_trans hs (by omega)); rw [HX3.out] at hn; refine hn.mono ?_; rintro e w6 ⟨A6, c6, rfl, ha, hfr, hr, hg⟩; have hB := below_step hB (Nat.le_refl _) hg (by intro k hk; injection hk with hk; omega); clear hg hn) | (go_at_call 32; refine (HC3.out _ _ _ ha).mono ?_; rintro e w7 ⟨rfl, hb3⟩; have hr := Rdr.below hr hb3 hr.lt; have hB := below_next hB (Nat.le_refl _) hb3; clear hb3 ha) | (go_at_call 24; refine (err_any _ _ _ hr).mono ?_; rintro e w8 ⟨rfl, rfl⟩) | (go_at_call 23; refine (left_any _ _ _ hr (by assumption)).mono ?_; rintro e w9 ⟨rfl, n9, rfl⟩; have hB := below_drewN hB n9) | (go_at_call 14; refine (awake_any _).mono ?_; rintro e w10 ⟨rfl, hb3⟩; have hB := below_next hB (Nat.le_refl _) hb3; clear hb3))
      go_ret
      exact ⟨rfl, hB⟩
  · rcases g1 with g1 | ⟨g1, g1'⟩ <;> rcases g2 with g2 | ⟨g2, g2'⟩ <;> rcases g3 with g3 | ⟨g3, g3'⟩
    all_goals
      go_enter Try.func10, Try.ntmps10
      go_wp2_with (first | (go_at_call 17; have hz := hB.size; refine (read_any _ _).mono ?_; rintro e w1 ⟨rfl, hr, hb1⟩; have hB := below_next hB (Nat.le_refl _) hb1; clear hb1) | (go_at_call 26; have hn := num_any _ _ _ hr hok; rw [HX1.out] at hn; refine hn.mono ?_; rintro e w2 ⟨rfl, hr, hg⟩; have hB := below_step hB (Nat.le_refl _) hg (by intro k hk; injection hk with hk; omega); clear hg hn) | (go_at_call 12; refine (HC1.out _).mono ?_; rintro e w3 ⟨rfl, hb3⟩; have hr := Rdr.below hr hb3 hr.lt; have hB := below_next hB (Nat.le_refl _) hb3; clear hb3) | (go_at_call 28; have hn := nums_any _ _ 4000 _ hr hok (Nat.le_trans hs (by omega)); rw [HX2.out] at hn; refine hn.mono ?_; rintro e w4 ⟨A4, c4, rfl, ha, hfr, hr, hg⟩; have hB := below_step hB (Nat.le_refl _) hg (by intro k hk; injection hk with hk; omega); clear hg hn) | (go_at_call 30; refine (HC2.out _ _ _ ha).mono ?_; rintro e w5 ⟨rfl, hb3⟩; have hr := Rdr.below hr hb3 hr.lt; have hB := below_next hB (Nat.le_refl _) hb3; clear hb3 ha) | (go_at_call 34; have hn := texts_any _ _ 4000 4000 _ hr hok (Nat.le_trans hs (by omega)); rw [HX3.out] at hn; refine hn.mono ?_; rintro e w6 ⟨A6, c6, rfl, ha, hfr, hr, hg⟩; have hB := below_step hB (Nat.le_refl _) hg (by intro k hk; injection hk with hk; omega); clear hg hn) | (go_at_call 32; refine (HC3.out _ _ _ ha).mono ?_; rintro e w7 ⟨rfl, hb3⟩; have hr := Rdr.below hr hb3 hr.lt; have hB := below_next hB (Nat.le_refl _) hb3; clear hb3 ha) | (go_at_call 24; refine (err_any _ _ _ hr).mono ?_; rintro e w8 ⟨rfl, rfl⟩) | (go_at_call 23; refine (left_any _ _ _ hr (by assumption)).mono ?_; rintro e w9 ⟨rfl, n9, rfl⟩; have hB := below_drewN hB n9) | (go_at_call 14; refine (awake_any _).mono ?_; rintro e w10 ⟨rfl, hb3⟩; have hB := below_next hB (Nat.le_refl _) hb3; clear hb3))
      go_ret
      exact ⟨rfl, hB⟩
end Go.Proofs.Ytgcghcmmcljiiaa
