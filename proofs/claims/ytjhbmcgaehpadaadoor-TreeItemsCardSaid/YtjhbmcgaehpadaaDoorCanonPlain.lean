/- What is read is what would be made: plain laws, no program in sight. -/
import Derived.Test.YtjhbmcgaehpadaaDoorRdListPlain
namespace Go.Proofs.YtjhbmcgaehpadaaDoor
open Go.RowKit

theorem drop_byte {s : ByteArray} {i : Nat} (h : i < s.size) : s.data.toList.drop i = s[i] :: s.data.toList.drop (i + 1) := by
  have hl : i < s.data.toList.length := by rw [← ba_size]; exact h
  rw [List.drop_eq_getElem_cons hl]
  congr 1

theorem rdByte_drop {r : Rd} (h : (rdByte r).2.e = 0) : ∃ c : UInt8, c.toNat = (rdByte r).1 ∧ r.s.data.toList.drop r.at_ = c :: r.s.data.toList.drop (rdByte r).2.at_ := by
  unfold rdByte at h ⊢
  split
  · rename_i h0
    rw [if_pos h0] at h
    exact absurd h h0
  · rename_i h0
    rw [if_neg h0] at h
    split
    · rename_i h1
      exact ⟨r.s[r.at_], rfl, drop_byte h1⟩
    · rename_i h1
      rw [dif_neg h1] at h
      simp at h

theorem u8_of (c : UInt8) : (c.toNat).toUInt8 = c := by
  apply UInt8.toNat_inj.1
  rw [toUInt8_toNat _ (UInt8.toNat_lt c)]

theorem rdNumGo_canon (f : Nat) : ∀ (i n : Nat) (r : Rd), f + i = 9 → (rdNumGo f i n r).2.e = 0 → 0 < f →
    ∃ m, (rdNumGo f i n r).1 = n + m * 128 ^ i ∧ (0 < i → 0 < m) ∧ r.s.data.toList.drop r.at_ = numL m ++ r.s.data.toList.drop (rdNumGo f i n r).2.at_ := by
  induction f with
  | zero => intro i n r _ _ h; omega
  | succ f ih =>
    intro i n r hf h _
    rw [rdNumGo] at h ⊢
    simp only [] at h ⊢
    split
    · rename_i h0
      rw [if_pos h0] at h
      exact absurd h h0
    · rename_i h0
      rw [if_neg h0] at h
      have h0' : (rdByte r).2.e = 0 := by simpa using h0
      obtain ⟨c, hc, hd⟩ := rdByte_drop h0'
      have hs := rdByte_s r
      split
      · rename_i h1
        rw [if_pos h1] at h
        simp at h
      · rename_i h1
        rw [if_neg h1] at h
        rw [← hc] at h1
        split
        · rename_i h2
          rw [← hc] at h2
          refine ⟨c.toNat, by rw [← hc, Nat.mod_eq_of_lt h2], fun _ => by omega, ?_⟩
          rw [numL_lt h2, u8_of]
          exact hd
        · rename_i h2
          rw [if_neg h2] at h
          rw [← hc] at h2
          rcases Nat.eq_zero_or_pos f with hf0 | hf0
          · exfalso
            have := UInt8.toNat_lt c
            omega
          · obtain ⟨m, e1, e2, e3⟩ := ih (i + 1) _ (rdByte r).2 (by omega) h hf0
            have hm := e2 (by omega)
            have hlt := UInt8.toNat_lt c
            refine ⟨c.toNat % 128 + 128 * m, ?_, fun _ => by omega, ?_⟩
            · rw [e1, ← hc, Nat.pow_succ, Nat.add_mul, Nat.mul_comm 128 m, Nat.mul_assoc, Nat.mul_comm 128 (128 ^ i), Nat.add_assoc]
            · rw [numL_ge (by omega), show (c.toNat % 128 + 128 * m) % 128 + 128 = c.toNat by omega, show (c.toNat % 128 + 128 * m) / 128 = m by omega, u8_of, hd, List.cons_append]
              rw [hs] at e3
              rw [e3]
theorem rdNum_canon {r : Rd} (h : (rdNum r).2.e = 0) : r.s.data.toList.drop r.at_ = numL (rdNum r).1 ++ r.s.data.toList.drop (rdNum r).2.at_ := by
  obtain ⟨m, e1, _, e3⟩ := rdNumGo_canon 9 0 0 r (by omega) h (by omega)
  have : (rdNum r).1 = m := by unfold rdNum; rw [e1]; simp
  rw [this]
  exact e3
theorem rdCount_canon {r : Rd} {k : Int} (h : (rdCount r k).2.e = 0) : r.s.data.toList.drop r.at_ = numL (rdCount r k).1 ++ r.s.data.toList.drop (rdCount r k).2.at_ ∧ ((rdCount r k).1 : Int) ≤ k ∨ False := by
  left
  unfold rdCount at h ⊢
  simp only [] at h ⊢
  split
  · rename_i h0
    rw [if_pos h0] at h
    simp at h
  · rename_i h0
    rw [if_neg h0] at h
    exact ⟨rdNum_canon h, by omega⟩

theorem rdNumsGo_canon : ∀ (n : Nat) (r : Rd), (rdNumsGo n r).2.e = 0 → r.s.data.toList.drop r.at_ = (rdNumsGo n r).1.flatMap numL ++ r.s.data.toList.drop (rdNumsGo n r).2.at_ ∧ (rdNumsGo n r).1.length = n ∧ (∀ x ∈ (rdNumsGo n r).1, x ≤ 4611686018427387903)
  | 0, r, _ => by simp [rdNumsGo]
  | n + 1, r, h => by
    rw [rdNumsGo] at h ⊢
    simp only [] at h ⊢
    split
    · rename_i h0
      rw [if_pos h0] at h
      exact absurd h h0
    · rename_i h0
      rw [if_neg h0] at h
      have h0' : (rdNum r).2.e = 0 := by simpa using h0
      obtain ⟨e1, e2, e3⟩ := rdNumsGo_canon n (rdNum r).2 h
      rw [rdNum_s] at e1
      refine ⟨?_, by simp [e2], ?_⟩
      · rw [rdNum_canon h0', e1]
        simp
      · intro x hx
        rcases List.mem_cons.1 hx with rfl | hx
        · exact rdNum_le r
        · exact e3 x hx

/-- The bytes ahead of a place. -/
theorem extract_take (s : ByteArray) (i : Nat) : (s.extract 0 i).data.toList = s.data.toList.take i := by
  rw [ByteArray.data_extract, Array.toList_extract, List.extract_eq_take_drop]
  simp
theorem take_of_drop {l a : List UInt8} {i : Nat} (h : l = a ++ l.drop i) (_hi : i ≤ l.length) : l.take i = a := by
  have h1 : l.take i ++ l.drop i = a ++ l.drop i := by rw [List.take_append_drop]; exact h
  exact List.append_cancel_right h1
theorem ba_of {s : ByteArray} {l : List UInt8} (h : s.data.toList = l) : s = ⟨l.toArray⟩ := by
  subst h
  apply ByteArray.ext
  simp

theorem canon_num {s : ByteArray} {r1 : Rd} {n : Nat} (hx : rdNum ⟨s, 0, 0⟩ = (n, r1)) (h : r1.e = 0) (ho : r1.at_ ≤ s.size) : s.extract 0 r1.at_ = numS n := by
  have h' : (rdNum ⟨s, 0, 0⟩).2.e = 0 := by rw [hx]; exact h
  have hc := rdNum_canon h'
  have hle := rdNum_le ⟨s, 0, 0⟩
  rw [hx] at hc hle
  simp only [List.drop_zero] at hc
  rw [numS_ok (by omega) (by simp only at hle; omega)]
  refine ba_of ?_
  rw [extract_take]
  exact take_of_drop hc (by rw [← ba_size]; exact ho)

theorem canon_nums {s : ByteArray} {r1 : Rd} {l : List Nat} {k : Int} (hx : rdNums ⟨s, 0, 0⟩ k = (l, r1)) (h : r1.e = 0) (ho : r1.at_ ≤ s.size) :
    s.extract 0 r1.at_ = (listR NumOk numB 2 (l.map fun n : Nat => (n : Int))).1 := by
  unfold rdNums at hx
  simp only [] at hx
  have h1 : (rdNumsGo (rdCount ⟨s, 0, 0⟩ k).1 (rdCount ⟨s, 0, 0⟩ k).2) = (l, r1) := by
    split at hx
    · rename_i h0
      have := congrArg Prod.snd hx
      simp only at this
      rw [this] at h0
      exact absurd h h0
    · exact hx
  have h2 : (rdNumsGo (rdCount ⟨s, 0, 0⟩ k).1 (rdCount ⟨s, 0, 0⟩ k).2).2.e = 0 := by rw [h1]; exact h
  obtain ⟨e1, e2, e3⟩ := rdNumsGo_canon _ _ h2
  have hce : (rdCount ⟨s, 0, 0⟩ k).2.e = 0 := by
    rcases Nat.eq_zero_or_pos (rdCount ⟨s, 0, 0⟩ k).1 with hz | hp
    · rw [hz] at h2
      exact h2
    · exact rdCount_pos hp
  rcases rdCount_canon hce with ⟨c1, _⟩ | hF
  rotate_left
  · exact hF.elim
  rw [rdCount_s] at e1
  rw [h1] at e1 e2 e3
  simp only [List.drop_zero] at c1 e1 e2 e3
  rw [← e2] at c1
  rw [listR_ok (by
    intro x hx
    obtain ⟨n, hn, rfl⟩ := List.mem_map.1 hx
    have := e3 n hn
    exact ⟨by omega, by omega⟩)]
  refine ba_of ?_
  rw [extract_take]
  refine take_of_drop ?_ (by rw [← ba_size]; exact ho)
  have hfm : (l.map fun n : Nat => (n : Int)).flatMap numB = l.flatMap numL := by
    rw [List.flatMap_map]
    rfl
  unfold listL
  rw [hfm, List.length_map, List.append_assoc, ← e1]
  exact c1

theorem rdRaw_canon {r : Rd} {n : Nat} (h : (rdRaw r n).2.e = 0) (_ho : r.at_ ≤ r.s.size) : r.s.data.toList.drop r.at_ = (rdRaw r n).1.data.toList ++ r.s.data.toList.drop (rdRaw r n).2.at_ ∧ (rdRaw r n).1.size = n := by
  unfold rdRaw at h ⊢
  split
  · rename_i h0
    rw [if_pos h0] at h
    exact absurd h h0
  · rename_i h0
    rw [if_neg h0] at h
    split
    · omega
    · split
      · rename_i h1 h2
        rw [if_neg h1, if_pos h2] at h
        simp at h
      · rename_i h1 h2
        simp only [Int.toNat_natCast]
        constructor
        · rw [ByteArray.data_extract, Array.toList_extract, List.extract_eq_take_drop, Nat.add_sub_cancel_left, ← List.drop_drop, List.take_append_drop]
        · rw [ByteArray.size_extract]
          omega

theorem rdText_canon {r : Rd} {k : Int} (h : (rdText r k).2.e = 0) (ho : r.ok) : r.s.data.toList.drop r.at_ = txtB (rdText r k).1 ++ r.s.data.toList.drop (rdText r k).2.at_ ∧ ((rdText r k).1.size : Int) ≤ k := by
  unfold rdText at h ⊢
  simp only [] at h ⊢
  have hce := (rdRaw_adv h).2
  have hok := rdCount_ok' (m := k) ho
  obtain ⟨e1, e2⟩ := rdRaw_canon h hok.1
  rcases rdCount_canon hce with ⟨c1, c2⟩ | hF
  rotate_left
  · exact hF.elim
  rw [rdCount_s] at e1
  unfold txtB
  rw [e2, c1, e1]
  exact ⟨by simp, c2⟩

theorem rdTextsGo_canon (k : Int) : ∀ (n : Nat) (r : Rd), r.ok → (rdTextsGo n k r).2.e = 0 → r.s.data.toList.drop r.at_ = (rdTextsGo n k r).1.flatMap txtB ++ r.s.data.toList.drop (rdTextsGo n k r).2.at_ ∧ (rdTextsGo n k r).1.length = n ∧ (∀ x ∈ (rdTextsGo n k r).1, (x.size : Int) ≤ k)
  | 0, r, _, _ => by simp [rdTextsGo]
  | n + 1, r, ho, h => by
    rw [rdTextsGo] at h ⊢
    simp only [] at h ⊢
    split
    · rename_i h0
      rw [if_pos h0] at h
      exact absurd h h0
    · rename_i h0
      rw [if_neg h0] at h
      have h0' : (rdText r k).2.e = 0 := by simpa using h0
      obtain ⟨e1, e2, e3⟩ := rdTextsGo_canon k n (rdText r k).2 (rdText_ok ho) h
      rw [rdText_s] at e1
      obtain ⟨t1, t2⟩ := rdText_canon h0' ho
      refine ⟨?_, by simp [e2], ?_⟩
      · rw [t1, e1]
        simp
      · intro x hx
        rcases List.mem_cons.1 hx with rfl | hx
        · exact t2
        · exact e3 x hx

theorem canon_texts {s : ByteArray} {r1 : Rd} {l : List ByteArray} {k m : Int} (hm : m ≤ 1048576) (hx : rdTexts ⟨s, 0, 0⟩ k m = (l, r1)) (hs : s.size ≤ 9223372036854775807) (h : r1.e = 0) (ho : r1.at_ ≤ s.size) :
    s.extract 0 r1.at_ = (listR TxtOk txtB 4 l).1 := by
  unfold rdTexts at hx
  simp only [] at hx
  have h1 : (rdTextsGo (rdCount ⟨s, 0, 0⟩ k).1 m (rdCount ⟨s, 0, 0⟩ k).2) = (l, r1) := by
    split at hx
    · rename_i h0
      have := congrArg Prod.snd hx
      simp only at this
      rw [this] at h0
      exact absurd h h0
    · exact hx
  have h2 : (rdTextsGo (rdCount ⟨s, 0, 0⟩ k).1 m (rdCount ⟨s, 0, 0⟩ k).2).2.e = 0 := by rw [h1]; exact h
  obtain ⟨e1, e2, e3⟩ := rdTextsGo_canon m _ _ (rdCount_ok' (r := ⟨s, 0, 0⟩) ⟨Nat.zero_le _, hs⟩) h2
  have hce : (rdCount ⟨s, 0, 0⟩ k).2.e = 0 := by
    rcases Nat.eq_zero_or_pos (rdCount ⟨s, 0, 0⟩ k).1 with hz | hp
    · rw [hz] at h2
      exact h2
    · exact rdCount_pos hp
  rcases rdCount_canon hce with ⟨c1, _⟩ | hF
  rotate_left
  · exact hF.elim
  rw [rdCount_s] at e1
  rw [h1] at e1 e2 e3
  simp only [List.drop_zero] at c1 e1 e2 e3
  rw [← e2] at c1
  rw [listR_ok (by
    intro x hx
    have := e3 x hx
    unfold TxtOk
    omega)]
  refine ba_of ?_
  rw [extract_take]
  refine take_of_drop ?_ (by rw [← ba_size]; exact ho)
  unfold listL
  rw [List.append_assoc, ← e1]
  exact c1
end Go.Proofs.YtjhbmcgaehpadaaDoor
