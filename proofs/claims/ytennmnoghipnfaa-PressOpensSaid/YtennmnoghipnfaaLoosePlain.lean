/- Chapter 8's way back as plain data: what any bytes are loosened to; what is pressed comes out again. No program in sight. -/
import Derived.Test.YtennmnoghipnfaaPressPlain
namespace Go.Proofs.Ytennmnoghipnfaa
open Go.RowKit
set_option linter.unusedVariables false

/-- n bytes more, each a copy of what stands d back. -/
def copyL (b : List UInt8) (d : Nat) : Nat → List UInt8
  | 0 => b
  | n + 1 => copyL (b ++ [bat b (b.length - d)]) d n
theorem copyL_len (d n : Nat) : ∀ b, (copyL b d n).length = b.length + n := by
  induction n with
  | zero => intro b; rfl
  | succ n ih => intro b; rw [copyL, ih]; simp; omega

/-- What is read on, of a text that is said to have so many bytes: the bytes so far, and the reader. -/
def loosGo (size : Nat) : Nat → Rd → List UInt8 → List UInt8 × Rd
  | 0, r, b => (b, r)
  | f + 1, r, b =>
    if r.e ≠ 0 ∨ size ≤ b.length then (b, r)
    else if (rdNum r).2.e ≠ 0 then (b, (rdNum r).2)
    else if (rdNum r).1 % 2 = 0 then
      if (rdNum r).1 = 0 ∨ size - b.length < (rdNum r).1 / 2 then (b, { (rdNum r).2 with e := 5 })
      else if (rdRaw (rdNum r).2 ((rdNum r).1 / 2 : Nat)).2.e ≠ 0 then (b, (rdRaw (rdNum r).2 ((rdNum r).1 / 2 : Nat)).2)
      else loosGo size f (rdRaw (rdNum r).2 ((rdNum r).1 / 2 : Nat)).2 (b ++ (rdRaw (rdNum r).2 ((rdNum r).1 / 2 : Nat)).1.data.toList)
    else if (rdNum (rdNum r).2).2.e ≠ 0 then (b, (rdNum (rdNum r).2).2)
    else if b.length < (rdNum (rdNum r).2).1 + 1 ∨ 4096 < (rdNum (rdNum r).2).1 + 1 ∨ 255 < (rdNum r).1 / 2 ∨ size - b.length < (rdNum r).1 / 2 + 4 then (b, { (rdNum (rdNum r).2).2 with e := 5 })
    else loosGo size f (rdNum (rdNum r).2).2 (copyL b ((rdNum (rdNum r).2).1 + 1) ((rdNum r).1 / 2 + 4))

section
variable {size f n m : Nat} {r r1 r2 : Rd} {b : List UInt8} {z : ByteArray}
theorem loos_stop (h : r.e ≠ 0 ∨ size ≤ b.length) : loosGo size f r b = (b, r) := by
  cases f with
  | zero => rfl
  | succ f => rw [loosGo, if_pos h]
theorem loos_num (h : r.e = 0) (hb : b.length < size) (h1 : rdNum r = (n, r1)) (he : r1.e ≠ 0) : loosGo size (f + 1) r b = (b, r1) := by
  rw [loosGo, if_neg (by omega), h1, if_pos he]
theorem loos_bad (h : r.e = 0) (hb : b.length < size) (h1 : rdNum r = (n, r1)) (he : r1.e = 0) (h2 : n % 2 = 0) (h3 : n = 0 ∨ size - b.length < n / 2) : loosGo size (f + 1) r b = (b, { r1 with e := 5 }) := by
  rw [loosGo, if_neg (by omega), h1, if_neg (by simp [he]), if_pos h2, if_pos h3]
theorem loos_raw_no (h : r.e = 0) (hb : b.length < size) (h1 : rdNum r = (n, r1)) (he : r1.e = 0) (h2 : n % 2 = 0) (h3 : ¬ (n = 0 ∨ size - b.length < n / 2)) (h4 : rdRaw r1 (n / 2 : Nat) = (z, r2)) (h5 : r2.e ≠ 0) : loosGo size (f + 1) r b = (b, r2) := by
  rw [loosGo, if_neg (by omega), h1, if_neg (by simp [he]), if_pos h2, if_neg h3]
  simp only []
  rw [h4, if_pos h5]
theorem loos_raw (h : r.e = 0) (hb : b.length < size) (h1 : rdNum r = (n, r1)) (he : r1.e = 0) (h2 : n % 2 = 0) (h3 : ¬ (n = 0 ∨ size - b.length < n / 2)) (h4 : rdRaw r1 (n / 2 : Nat) = (z, r2)) (h5 : r2.e = 0) : loosGo size (f + 1) r b = loosGo size f r2 (b ++ z.data.toList) := by
  rw [loosGo, if_neg (by omega), h1, if_neg (by simp [he]), if_pos h2, if_neg h3]
  simp only []
  rw [h4, if_neg (by simp [h5])]
theorem loos_num2 (h : r.e = 0) (hb : b.length < size) (h1 : rdNum r = (n, r1)) (he : r1.e = 0) (h2 : ¬ n % 2 = 0) (h4 : rdNum r1 = (m, r2)) (h5 : r2.e ≠ 0) : loosGo size (f + 1) r b = (b, r2) := by
  rw [loosGo, if_neg (by omega), h1, if_neg (by simp [he]), if_neg h2]
  simp only []
  rw [h4, if_pos h5]
theorem loos_bad2 (h : r.e = 0) (hb : b.length < size) (h1 : rdNum r = (n, r1)) (he : r1.e = 0) (h2 : ¬ n % 2 = 0) (h4 : rdNum r1 = (m, r2)) (h5 : r2.e = 0) (h3 : b.length < m + 1 ∨ 4096 < m + 1 ∨ 255 < n / 2 ∨ size - b.length < n / 2 + 4) : loosGo size (f + 1) r b = (b, { r2 with e := 5 }) := by
  rw [loosGo, if_neg (by omega), h1, if_neg (by simp [he]), if_neg h2]
  simp only []
  rw [h4, if_neg (by simp [h5]), if_pos h3]
theorem loos_copy (h : r.e = 0) (hb : b.length < size) (h1 : rdNum r = (n, r1)) (he : r1.e = 0) (h2 : ¬ n % 2 = 0) (h4 : rdNum r1 = (m, r2)) (h5 : r2.e = 0) (h3 : ¬ (b.length < m + 1 ∨ 4096 < m + 1 ∨ 255 < n / 2 ∨ size - b.length < n / 2 + 4)) : loosGo size (f + 1) r b = loosGo size f r2 (copyL b (m + 1) (n / 2 + 4)) := by
  rw [loosGo, if_neg (by omega), h1, if_neg (by simp [he]), if_neg h2]
  simp only []
  rw [h4, if_neg (by simp [h5]), if_neg h3]
end

/-- The text that was pressed, and the error. -/
def looseR (s : ByteArray) : List UInt8 × Rd := loosGo (rdCount ⟨s, 0, 0⟩ 1048576).1 ((rdCount ⟨s, 0, 0⟩ 1048576).1 + 1) (rdCount ⟨s, 0, 0⟩ 1048576).2 []
def looseE (s : ByteArray) : Int := (rdEnd (looseR s).2).e
def looseS (s : ByteArray) : ByteArray := if looseE s = 0 then ⟨(looseR s).1.toArray⟩ else ⟨#[]⟩

theorem rdRaw_at {s : ByteArray} {pre m rest : List UInt8} (hs : s.data.toList = pre ++ (m ++ rest)) : ∃ z, rdRaw ⟨s, pre.length, 0⟩ (m.length : Nat) = (z, ⟨s, pre.length + m.length, 0⟩) ∧ z.data.toList = m := by
  have hz : s.size = pre.length + (m.length + rest.length) := by rw [ba_size, hs]; simp
  refine ⟨s.extract pre.length (pre.length + m.length), ?_, ?_⟩
  · unfold rdRaw
    simp only []
    rw [if_neg (by simp), if_neg (by omega), if_neg (by omega)]
    simp
  · rw [ByteArray.data_extract, Array.toList_extract, List.extract_eq_take_drop, hs]
    simp
theorem rdRaw_len {r r2 : Rd} {n : Nat} {z : ByteArray} (h : rdRaw r (n : Nat) = (z, r2)) (h0 : r2.e = 0) (hr : r.e = 0) : z.size = n ∧ r2.s = r.s := by
  unfold rdRaw at h
  rw [if_neg (by simp [hr]), if_neg (by omega)] at h
  split at h
  · injection h with h1 h2
    rw [← h2] at h0
    cases h0
  · injection h with h1 h2
    rw [← h1, ← h2]
    refine ⟨?_, rfl⟩
    rw [ByteArray.size_extract]
    omega
theorem rdRaw_ok' {r : Rd} {n : Int} (h : r.ok) : (rdRaw r n).2.ok := by
  unfold rdRaw
  split
  · exact h
  · split
    · exact h
    · split
      · exact h
      · exact ⟨by show r.at_ + n.toNat ≤ r.s.size; omega, h.2⟩

theorem bat_take {t : List UInt8} {a i : Nat} (h : i < a) : bat (t.take a) i = bat t i := by
  unfold bat
  rw [List.getD_eq_getElem?_getD, List.getD_eq_getElem?_getD, List.getElem?_take_of_lt h]
theorem take_bat {t : List UInt8} {a : Nat} (h : a < t.length) : t.take a ++ [bat t a] = t.take (a + 1) := by
  unfold bat
  rw [List.take_add_one, List.getD_eq_getElem?_getD, List.getElem?_eq_getElem h]
  rfl
theorem copyL_take {t : List UInt8} {d : Nat} (n : Nat) : ∀ a, a + n ≤ t.length → 1 ≤ d → d ≤ a → (∀ j, j < n → bat t (a - d + j) = bat t (a + j)) → copyL (t.take a) d n = t.take (a + n) := by
  induction n with
  | zero => intro a _ _ _ _; rfl
  | succ n ih =>
    intro a ha h1 hd he
    have hl : (t.take a).length = a := by rw [List.length_take]; omega
    have e0 := he 0 (by omega)
    rw [copyL, hl, bat_take (by omega), show a - d = a - d + 0 from rfl, e0, Nat.add_zero, take_bat (by omega), ih (a + 1) (by omega) h1 (by omega) (fun j hj => by
      have := he (j + 1) (by omega)
      rw [show a + 1 - d + j = a - d + (j + 1) by omega, show a + 1 + j = a + (j + 1) by omega]
      exact this)]
    rw [show a + 1 + n = a + (n + 1) by omega]

/-- A plain run is read. -/
theorem loos_run {t : List UInt8} {s : ByteArray} {pre rest : List UInt8} {a f k : Nat} (hN : t.length ≤ 1048576) (ha : a ≤ t.length) (hf : f < a) (hs : s.data.toList = pre ++ (run_ t f a ++ rest)) :
    ∃ k', k' = pre.length + (run_ t f a).length ∧ loosGo t.length (k + 1) ⟨s, pre.length, 0⟩ (t.take f) = loosGo t.length k ⟨s, k', 0⟩ (t.take a) := by
  unfold run_ at hs ⊢
  rw [if_pos hf] at hs ⊢
  rw [List.append_assoc] at hs
  have hm : ((t.take a).drop f).length = a - f := by simp; omega
  have hl : (t.take f).length = f := by rw [List.length_take]; omega
  have h1 := rdNum_numL (s := s) (n := 2 * (a - f)) (pre := pre) (rest := (t.take a).drop f ++ rest) (by omega) hs
  have h2 : s.data.toList = (pre ++ numL (2 * (a - f))) ++ ((t.take a).drop f ++ rest) := by rw [hs, List.append_assoc]
  obtain ⟨z, hz, hzl⟩ := rdRaw_at h2
  rw [hm, List.length_append] at hz
  have hz' : rdRaw ⟨s, pre.length + (numL (2 * (a - f))).length, 0⟩ (2 * (a - f) / 2 : Nat) = (z, ⟨s, pre.length + (numL (2 * (a - f))).length + (a - f), 0⟩) := by
    rw [show 2 * (a - f) / 2 = a - f by omega]; exact hz
  refine ⟨_, rfl, ?_⟩
  rw [loos_raw rfl (by rw [hl]; omega) h1 rfl (by omega) (by rw [hl]; omega) hz' rfl, hzl, List.length_append, hm, ← Nat.add_assoc]
  congr 1
  rw [List.drop_take, ← List.take_add]
  congr 1
  omega

theorem loos_prs {t : List UInt8} {s : ByteArray} (hN : t.length ≤ 1048576) (n : Nat) : ∀ (a f k : Nat) (pre : List UInt8), f ≤ a → a ≤ t.length → t.length - a = n → t.length - f < k → s.data.toList = pre ++ prs t a f →
    loosGo t.length k ⟨s, pre.length, 0⟩ (t.take f) = (t, ⟨s, s.size, 0⟩) := by
  induction n using Nat.strongRecOn with
  | _ n ih =>
    intro a f k pre hf ha hn hk hs
    have hend : ∀ (k : Nat), loosGo t.length k ⟨s, s.size, 0⟩ (t.take t.length) = (t, ⟨s, s.size, 0⟩) := fun k => by
      rw [List.take_length, loos_stop (.inr (Nat.le_refl _))]
    by_cases hlt : a < t.length
    · by_cases h0 : (bst t a).2 = 0
      · rw [prs_one hlt h0] at hs
        exact ih (t.length - (a + 1)) (by omega) _ _ _ _ (by omega) (by omega) rfl hk hs
      · rw [prs_cp hlt h0] at hs
        rcases bst_cases t ha with hc | ⟨h1, h2, h3, h4, h5, h6, h7⟩
        · rw [hc] at h0; simp at h0
        · have hla : (t.take a).length = a := by rw [List.length_take]; omega
          have step : ∀ (k : Nat) (pre : List UInt8), t.length - a < k → s.data.toList = pre ++ (numL (2 * ((bst t a).2 - 4) + 1) ++ (numL ((bst t a).1 - 1) ++ prs t (a + (bst t a).2) (a + (bst t a).2))) →
              loosGo t.length k ⟨s, pre.length, 0⟩ (t.take a) = (t, ⟨s, s.size, 0⟩) := by
            intro k pre hk hs
            obtain ⟨k, rfl⟩ : ∃ j, k = j + 1 := ⟨k - 1, by omega⟩
            have n1 := rdNum_numL (s := s) (n := 2 * ((bst t a).2 - 4) + 1) (pre := pre) (by omega) hs
            have hs2 : s.data.toList = (pre ++ numL (2 * ((bst t a).2 - 4) + 1)) ++ (numL ((bst t a).1 - 1) ++ prs t (a + (bst t a).2) (a + (bst t a).2)) := by rw [hs, List.append_assoc]
            have n2 := rdNum_numL (s := s) (n := (bst t a).1 - 1) (by omega) hs2
            rw [List.length_append] at n2
            rw [loos_copy rfl (by rw [hla]; exact hlt) n1 rfl (by omega) n2 rfl (by rw [hla]; omega)]
            rw [show (bst t a).1 - 1 + 1 = (bst t a).1 by omega, show (2 * ((bst t a).2 - 4) + 1) / 2 + 4 = (bst t a).2 by omega, copyL_take _ a h6 h1 h2 h7]
            have hs3 : s.data.toList = (pre ++ numL (2 * ((bst t a).2 - 4) + 1) ++ numL ((bst t a).1 - 1)) ++ prs t (a + (bst t a).2) (a + (bst t a).2) := by rw [hs]; simp only [List.append_assoc]
            have := ih (t.length - (a + (bst t a).2)) (by omega) _ _ k _ (Nat.le_refl _) h6 rfl (by omega) hs3
            rw [List.length_append, List.length_append] at this
            exact this
          by_cases hfa : f < a
          · obtain ⟨k, rfl⟩ : ∃ j, k = j + 1 := ⟨k - 1, by omega⟩
            have hs1 : s.data.toList = pre ++ (run_ t f a ++ (numL (2 * ((bst t a).2 - 4) + 1) ++ (numL ((bst t a).1 - 1) ++ prs t (a + (bst t a).2) (a + (bst t a).2)))) := by rw [hs]; simp only [List.append_assoc]
            obtain ⟨k', hk', he⟩ := loos_run (k := k) hN ha hfa hs1
            rw [he, hk', ← List.length_append]
            exact step k (pre ++ run_ t f a) (by omega) (by rw [hs1, List.append_assoc])
          · obtain rfl : f = a := by omega
            rw [run_nil (Nat.le_refl _)] at hs
            exact step k pre hk (by rw [hs]; simp only [List.append_assoc, List.nil_append])
    · obtain rfl : a = t.length := by omega
      rw [prs_end (Nat.le_refl _)] at hs
      by_cases hfa : f < t.length
      · obtain ⟨k, rfl⟩ : ∃ j, k = j + 1 := ⟨k - 1, by omega⟩
        obtain ⟨k', hk', he⟩ := loos_run (k := k) (rest := []) hN (Nat.le_refl _) hfa (by rw [hs, List.append_nil])
        have hsz : k' = s.size := by rw [hk', ba_size, hs, List.length_append]
        rw [he, hsz]
        exact hend k
      · obtain rfl : f = t.length := by omega
        rw [run_nil (Nat.le_refl _)] at hs
        have hsz : pre.length = s.size := by rw [ba_size, hs]; simp
        rw [hsz]
        exact hend k

theorem loose_press {t : List UInt8} {s : ByteArray} (hN : t.length ≤ 1048576) (hs : s.data.toList = pressL t) : looseR s = (t, ⟨s, s.size, 0⟩) := by
  unfold pressL at hs
  have hs0 : s.data.toList = [] ++ (numL t.length ++ prs t 0 0) := hs
  have h1 := rdNum_numL (s := s) (n := t.length) (pre := []) (by omega) hs0
  have hc : rdCount ⟨s, 0, 0⟩ 1048576 = (t.length, ⟨s, (numL t.length).length, 0⟩) := by
    unfold rdCount
    simp only []
    rw [show (⟨s, 0, 0⟩ : Rd) = ⟨s, ([] : List UInt8).length, 0⟩ from rfl, h1]
    rw [if_neg (by simp; omega)]
    simp
  unfold looseR
  rw [hc]
  exact loos_prs hN t.length 0 0 _ (numL t.length) (Nat.le_refl _) (Nat.zero_le _) rfl (by omega) hs
theorem loose_back {t : List UInt8} {s : ByteArray} (hN : t.length ≤ 1048576) (hs : s.data.toList = pressL t) : looseE s = 0 ∧ looseS s = ⟨t.toArray⟩ := by
  have h := loose_press hN hs
  have he : looseE s = 0 := by
    unfold looseE
    rw [h]
    unfold rdEnd
    rw [if_neg (by simp)]
  refine ⟨he, ?_⟩
  unfold looseS
  rw [if_pos he, h]
end Go.Proofs.Ytennmnoghipnfaa
