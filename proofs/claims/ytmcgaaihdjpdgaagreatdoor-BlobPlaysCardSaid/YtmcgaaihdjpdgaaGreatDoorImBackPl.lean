/- What is read is what would be made: plain laws, no program in sight.; What was made is read again, and what is read is what would be made: plain laws, no program in sight. -/
import Derived.Test.YtmcgaaihdjpdgaaGreatDoorTreeMix
/- What is read is what would be made: plain laws, no program in sight. -/
namespace Go.Proofs.YtmcgaaihdjpdgaaGreatDoor
open Go.RowKit

theorem drop_byte {s : ByteArray} {i : Nat} (h : i < s.size) : s.data.toList.drop i = s[i] :: s.data.toList.drop (i + 1) := by
  have hl : i < s.data.toList.length := by rw [← ba_size]; exact h
  rw [List.drop_eq_getElem_cons hl]
  congr 1

theorem rdByte_drop {r : Rd} (h : (rdByte r).2.e = 0) : ∃ c : UInt8, c.toNat = (rdByte r).1 ∧ r.s.data.toList.drop r.at_ = c :: r.s.data.toList.drop (rdByte r).2.at_ := by
  unfold rdByte at h ⊢
  split
  · rename_i h0
    rw [if_pos h0] at h
    exact absurd h h0
  · rename_i h0
    rw [if_neg h0] at h
    split
    · rename_i h1
      exact ⟨r.s[r.at_], rfl, drop_byte h1⟩
    · rename_i h1
      rw [dif_neg h1] at h
      simp at h

theorem u8_of (c : UInt8) : (c.toNat).toUInt8 = c := by
  apply UInt8.toNat_inj.1
  rw [toUInt8_toNat _ (UInt8.toNat_lt c)]

theorem rdNumGo_canon (f : Nat) : ∀ (i n : Nat) (r : Rd), f + i = 9 → (rdNumGo f i n r).2.e = 0 → 0 < f →
    ∃ m, (rdNumGo f i n r).1 = n + m * 128 ^ i ∧ (0 < i → 0 < m) ∧ r.s.data.toList.drop r.at_ = numL m ++ r.s.data.toList.drop (rdNumGo f i n r).2.at_ := by
  induction f with
  | zero => intro i n r _ _ h; omega
  | succ f ih =>
    intro i n r hf h _
    rw [rdNumGo] at h ⊢
    simp only [] at h ⊢
    split
    · rename_i h0
      rw [if_pos h0] at h
      exact absurd h h0
    · rename_i h0
      rw [if_neg h0] at h
      have h0' : (rdByte r).2.e = 0 := by simpa using h0
      obtain ⟨c, hc, hd⟩ := rdByte_drop h0'
      have hs := rdByte_s r
      split
      · rename_i h1
        rw [if_pos h1] at h
        simp at h
      · rename_i h1
        rw [if_neg h1] at h
        rw [← hc] at h1
        split
        · rename_i h2
          rw [← hc] at h2
          refine ⟨c.toNat, by rw [← hc, Nat.mod_eq_of_lt h2], fun _ => by omega, ?_⟩
          rw [numL_lt h2, u8_of]
          exact hd
        · rename_i h2
          rw [if_neg h2] at h
          rw [← hc] at h2
          rcases Nat.eq_zero_or_pos f with hf0 | hf0
          · exfalso
            have := UInt8.toNat_lt c
            omega
          · obtain ⟨m, e1, e2, e3⟩ := ih (i + 1) _ (rdByte r).2 (by omega) h hf0
            have hm := e2 (by omega)
            have hlt := UInt8.toNat_lt c
            refine ⟨c.toNat % 128 + 128 * m, ?_, fun _ => by omega, ?_⟩
            · rw [e1, ← hc, Nat.pow_succ, Nat.add_mul, Nat.mul_comm 128 m, Nat.mul_assoc, Nat.mul_comm 128 (128 ^ i), Nat.add_assoc]
            · rw [numL_ge (by omega), show (c.toNat % 128 + 128 * m) % 128 + 128 = c.toNat by omega, show (c.toNat % 128 + 128 * m) / 128 = m by omega, u8_of, hd, List.cons_append]
              rw [hs] at e3
              rw [e3]
theorem rdNum_canon {r : Rd} (h : (rdNum r).2.e = 0) : r.s.data.toList.drop r.at_ = numL (rdNum r).1 ++ r.s.data.toList.drop (rdNum r).2.at_ := by
  obtain ⟨m, e1, _, e3⟩ := rdNumGo_canon 9 0 0 r (by omega) h (by omega)
  have : (rdNum r).1 = m := by unfold rdNum; rw [e1]; simp
  rw [this]
  exact e3
theorem rdCount_canon {r : Rd} {k : Int} (h : (rdCount r k).2.e = 0) : r.s.data.toList.drop r.at_ = numL (rdCount r k).1 ++ r.s.data.toList.drop (rdCount r k).2.at_ ∧ ((rdCount r k).1 : Int) ≤ k ∨ False := by
  left
  unfold rdCount at h ⊢
  simp only [] at h ⊢
  split
  · rename_i h0
    rw [if_pos h0] at h
    simp at h
  · rename_i h0
    rw [if_neg h0] at h
    exact ⟨rdNum_canon h, by omega⟩

theorem rdNumsGo_canon : ∀ (n : Nat) (r : Rd), (rdNumsGo n r).2.e = 0 → r.s.data.toList.drop r.at_ = (rdNumsGo n r).1.flatMap numL ++ r.s.data.toList.drop (rdNumsGo n r).2.at_ ∧ (rdNumsGo n r).1.length = n ∧ (∀ x ∈ (rdNumsGo n r).1, x ≤ 4611686018427387903)
  | 0, r, _ => by simp [rdNumsGo]
  | n + 1, r, h => by
    rw [rdNumsGo] at h ⊢
    simp only [] at h ⊢
    split
    · rename_i h0
      rw [if_pos h0] at h
      exact absurd h h0
    · rename_i h0
      rw [if_neg h0] at h
      have h0' : (rdNum r).2.e = 0 := by simpa using h0
      obtain ⟨e1, e2, e3⟩ := rdNumsGo_canon n (rdNum r).2 h
      rw [rdNum_s] at e1
      refine ⟨?_, by simp [e2], ?_⟩
      · rw [rdNum_canon h0', e1]
        simp
      · intro x hx
        rcases List.mem_cons.1 hx with rfl | hx
        · exact rdNum_le r
        · exact e3 x hx

/-- The bytes ahead of a place. -/
theorem extract_take (s : ByteArray) (i : Nat) : (s.extract 0 i).data.toList = s.data.toList.take i := by
  rw [ByteArray.data_extract, Array.toList_extract, List.extract_eq_take_drop]
  simp
theorem take_of_drop {l a : List UInt8} {i : Nat} (h : l = a ++ l.drop i) (_hi : i ≤ l.length) : l.take i = a := by
  have h1 : l.take i ++ l.drop i = a ++ l.drop i := by rw [List.take_append_drop]; exact h
  exact List.append_cancel_right h1
theorem ba_of {s : ByteArray} {l : List UInt8} (h : s.data.toList = l) : s = ⟨l.toArray⟩ := by
  subst h
  apply ByteArray.ext
  simp

theorem canon_num {s : ByteArray} {r1 : Rd} {n : Nat} (hx : rdNum ⟨s, 0, 0⟩ = (n, r1)) (h : r1.e = 0) (ho : r1.at_ ≤ s.size) : s.extract 0 r1.at_ = numS n := by
  have h' : (rdNum ⟨s, 0, 0⟩).2.e = 0 := by rw [hx]; exact h
  have hc := rdNum_canon h'
  have hle := rdNum_le ⟨s, 0, 0⟩
  rw [hx] at hc hle
  simp only [List.drop_zero] at hc
  rw [numS_ok (by omega) (by simp only at hle; omega)]
  refine ba_of ?_
  rw [extract_take]
  exact take_of_drop hc (by rw [← ba_size]; exact ho)

theorem canon_nums {s : ByteArray} {r1 : Rd} {l : List Nat} {k : Int} (hx : rdNums ⟨s, 0, 0⟩ k = (l, r1)) (h : r1.e = 0) (ho : r1.at_ ≤ s.size) :
    s.extract 0 r1.at_ = (listR NumOk numB 2 (l.map fun n : Nat => (n : Int))).1 := by
  unfold rdNums at hx
  simp only [] at hx
  have h1 : (rdNumsGo (rdCount ⟨s, 0, 0⟩ k).1 (rdCount ⟨s, 0, 0⟩ k).2) = (l, r1) := by
    split at hx
    · rename_i h0
      have := congrArg Prod.snd hx
      simp only at this
      rw [this] at h0
      exact absurd h h0
    · exact hx
  have h2 : (rdNumsGo (rdCount ⟨s, 0, 0⟩ k).1 (rdCount ⟨s, 0, 0⟩ k).2).2.e = 0 := by rw [h1]; exact h
  obtain ⟨e1, e2, e3⟩ := rdNumsGo_canon _ _ h2
  have hce : (rdCount ⟨s, 0, 0⟩ k).2.e = 0 := by
    rcases Nat.eq_zero_or_pos (rdCount ⟨s, 0, 0⟩ k).1 with hz | hp
    · rw [hz] at h2
      exact h2
    · exact rdCount_pos hp
  rcases rdCount_canon hce with ⟨c1, _⟩ | hF
  rotate_left
  · exact hF.elim
  rw [rdCount_s] at e1
  rw [h1] at e1 e2 e3
  simp only [List.drop_zero] at c1 e1 e2 e3
  rw [← e2] at c1
  rw [listR_ok (by
    intro x hx
    obtain ⟨n, hn, rfl⟩ := List.mem_map.1 hx
    have := e3 n hn
    exact ⟨by omega, by omega⟩)]
  refine ba_of ?_
  rw [extract_take]
  refine take_of_drop ?_ (by rw [← ba_size]; exact ho)
  have hfm : (l.map fun n : Nat => (n : Int)).flatMap numB = l.flatMap numL := by
    rw [List.flatMap_map]
    rfl
  unfold listL
  rw [hfm, List.length_map, List.append_assoc, ← e1]
  exact c1

theorem rdRaw_canon {r : Rd} {n : Nat} (h : (rdRaw r n).2.e = 0) (_ho : r.at_ ≤ r.s.size) : r.s.data.toList.drop r.at_ = (rdRaw r n).1.data.toList ++ r.s.data.toList.drop (rdRaw r n).2.at_ ∧ (rdRaw r n).1.size = n := by
  unfold rdRaw at h ⊢
  split
  · rename_i h0
    rw [if_pos h0] at h
    exact absurd h h0
  · rename_i h0
    rw [if_neg h0] at h
    split
    · omega
    · split
      · rename_i h1 h2
        rw [if_neg h1, if_pos h2] at h
        simp at h
      · rename_i h1 h2
        simp only [Int.toNat_natCast]
        constructor
        · rw [ByteArray.data_extract, Array.toList_extract, List.extract_eq_take_drop, Nat.add_sub_cancel_left, ← List.drop_drop, List.take_append_drop]
        · rw [ByteArray.size_extract]
          omega

theorem rdText_canon {r : Rd} {k : Int} (h : (rdText r k).2.e = 0) (ho : r.ok) : r.s.data.toList.drop r.at_ = txtB (rdText r k).1 ++ r.s.data.toList.drop (rdText r k).2.at_ ∧ ((rdText r k).1.size : Int) ≤ k := by
  unfold rdText at h ⊢
  simp only [] at h ⊢
  have hce := (rdRaw_adv h).2
  have hok := rdCount_ok' (m := k) ho
  obtain ⟨e1, e2⟩ := rdRaw_canon h hok.1
  rcases rdCount_canon hce with ⟨c1, c2⟩ | hF
  rotate_left
  · exact hF.elim
  rw [rdCount_s] at e1
  unfold txtB
  rw [e2, c1, e1]
  exact ⟨by simp, c2⟩

theorem rdTextsGo_canon (k : Int) : ∀ (n : Nat) (r : Rd), r.ok → (rdTextsGo n k r).2.e = 0 → r.s.data.toList.drop r.at_ = (rdTextsGo n k r).1.flatMap txtB ++ r.s.data.toList.drop (rdTextsGo n k r).2.at_ ∧ (rdTextsGo n k r).1.length = n ∧ (∀ x ∈ (rdTextsGo n k r).1, (x.size : Int) ≤ k)
  | 0, r, _, _ => by simp [rdTextsGo]
  | n + 1, r, ho, h => by
    rw [rdTextsGo] at h ⊢
    simp only [] at h ⊢
    split
    · rename_i h0
      rw [if_pos h0] at h
      exact absurd h h0
    · rename_i h0
      rw [if_neg h0] at h
      have h0' : (rdText r k).2.e = 0 := by simpa using h0
      obtain ⟨e1, e2, e3⟩ := rdTextsGo_canon k n (rdText r k).2 (rdText_ok ho) h
      rw [rdText_s] at e1
      obtain ⟨t1, t2⟩ := rdText_canon h0' ho
      refine ⟨?_, by simp [e2], ?_⟩
      · rw [t1, e1]
        simp
      · intro x hx
        rcases List.mem_cons.1 hx with rfl | hx
        · exact t2
        · exact e3 x hx

theorem canon_texts {s : ByteArray} {r1 : Rd} {l : List ByteArray} {k m : Int} (hm : m ≤ 1048576) (hx : rdTexts ⟨s, 0, 0⟩ k m = (l, r1)) (hs : s.size ≤ 9223372036854775807) (h : r1.e = 0) (ho : r1.at_ ≤ s.size) :
    s.extract 0 r1.at_ = (listR TxtOk txtB 4 l).1 := by
  unfold rdTexts at hx
  simp only [] at hx
  have h1 : (rdTextsGo (rdCount ⟨s, 0, 0⟩ k).1 m (rdCount ⟨s, 0, 0⟩ k).2) = (l, r1) := by
    split at hx
    · rename_i h0
      have := congrArg Prod.snd hx
      simp only at this
      rw [this] at h0
      exact absurd h h0
    · exact hx
  have h2 : (rdTextsGo (rdCount ⟨s, 0, 0⟩ k).1 m (rdCount ⟨s, 0, 0⟩ k).2).2.e = 0 := by rw [h1]; exact h
  obtain ⟨e1, e2, e3⟩ := rdTextsGo_canon m _ _ (rdCount_ok' (r := ⟨s, 0, 0⟩) ⟨Nat.zero_le _, hs⟩) h2
  have hce : (rdCount ⟨s, 0, 0⟩ k).2.e = 0 := by
    rcases Nat.eq_zero_or_pos (rdCount ⟨s, 0, 0⟩ k).1 with hz | hp
    · rw [hz] at h2
      exact h2
    · exact rdCount_pos hp
  rcases rdCount_canon hce with ⟨c1, _⟩ | hF
  rotate_left
  · exact hF.elim
  rw [rdCount_s] at e1
  rw [h1] at e1 e2 e3
  simp only [List.drop_zero] at c1 e1 e2 e3
  rw [← e2] at c1
  rw [listR_ok (by
    intro x hx
    have := e3 x hx
    unfold TxtOk
    omega)]
  refine ba_of ?_
  rw [extract_take]
  refine take_of_drop ?_ (by rw [← ba_size]; exact ho)
  unfold listL
  rw [List.append_assoc, ← e1]
  exact c1
end Go.Proofs.YtmcgaaihdjpdgaaGreatDoor
/- What was made is read again, and what is read is what would be made: plain laws, no program in sight. -/
namespace Go.Proofs.YtmcgaaihdjpdgaaGreatDoor
open Go.RowKit
set_option linter.unusedVariables false

theorem tb_count {t : ByteArray} {n : Nat} {k : Int} {pre rest : List UInt8} (hn : n ≤ 4611686018427387903) (hk : (n : Int) ≤ k) (ht : t.data.toList = pre ++ (numL n ++ rest)) :
    rdCount ⟨t, pre.length, 0⟩ k = (n, ⟨t, (pre ++ numL n).length, 0⟩) := by
  unfold rdCount
  rw [rdNum_numL hn ht]
  simp only []
  rw [if_neg (by omega), List.length_append]
theorem tb_raw {s : ByteArray} {pre m rest : List UInt8} {n : Nat} (hn : n = m.length) (hs : s.data.toList = pre ++ (m ++ rest)) : rdRaw ⟨s, pre.length, 0⟩ (n : Nat) = (⟨m.toArray⟩, ⟨s, (pre ++ m).length, 0⟩) := by
  subst hn
  have hz : s.size = pre.length + (m.length + rest.length) := by rw [ba_size, hs]; simp
  unfold rdRaw
  simp only []
  rw [if_neg (by simp), if_neg (by omega), if_neg (by omega)]
  simp only [Int.toNat_natCast, List.length_append]
  congr 1
  refine ba_of ?_
  rw [ByteArray.data_extract, Array.toList_extract, List.extract_eq_take_drop, hs]
  simp
theorem tb_num {t : ByteArray} {n : Nat} {pre rest : List UInt8} (hn : n ≤ 4611686018427387903) (ht : t.data.toList = pre ++ (numL n ++ rest)) :
    rdNum ⟨t, pre.length, 0⟩ = (n, ⟨t, (pre ++ numL n).length, 0⟩) := by rw [rdNum_numL hn ht, List.length_append]
theorem tb_text {t : ByteArray} {x pre rest : List UInt8} {n : Nat} {k : Int} (hn : n = x.length) (hl : n ≤ 4611686018427387903) (hk : (n : Int) ≤ k) (ht : t.data.toList = pre ++ (numL n ++ (x ++ rest))) :
    rdText ⟨t, pre.length, 0⟩ k = (⟨x.toArray⟩, ⟨t, (pre ++ numL n ++ x).length, 0⟩) := by
  unfold rdText
  rw [tb_count (rest := x ++ rest) hl hk ht]
  simp only []
  exact tb_raw (rest := rest) hn (by rw [ht]; simp)

theorem shared_take : ∀ a b : List UInt8, a.take (sharedL a b) = b.take (sharedL a b)
  | [], b => by simp [sharedL]
  | x :: a, [] => by simp [sharedL]
  | x :: a, y :: b => by
    rw [sharedL]
    split
    · rename_i h
      rw [List.take_succ_cons, List.take_succ_cons, h, shared_take a b]
    · rfl

/-- A path behind the last one's shared start. -/
theorem tb_path (last f : ByteArray) : last.extract 0 (sharedL last.data.toList f.data.toList) ++ (⟨(f.data.toList.drop (sharedL last.data.toList f.data.toList)).toArray⟩ : ByteArray) = f := by
  apply ByteArray.ext
  apply Array.toList_inj.1
  rw [ByteArray.data_append, Array.toList_append, extract_take, shared_take]
  exact List.take_append_drop _ _

def IGood (f : ItemD) : Prop := f.path.size ≤ 200 ∧ (0 ≤ f.mode ∧ f.mode ≤ 511) ∧ (0 ≤ f.size ∧ f.size ≤ 65536) ∧ f.mark.size = 32
theorem good_of {l : List ItemD} (h : rightE l = 0) : ∀ f ∈ l, IGood f := by
  intro f hf
  obtain ⟨h1, h2⟩ := (rightE_zero h).2 f hf
  obtain ⟨a, b, c⟩ := itemE_zero h2
  refine ⟨?_, a, b, c⟩
  unfold pathE at h1
  by_cases h3 : 200 < f.path.data.toList.length
  · rw [if_pos h3] at h1; cases h1
  · rw [ba_size]; omega

theorem manGo_back (t : ByteArray) : ∀ (l : List ItemD) (last : ByteArray) (acc : List ItemD) (pre rest : List UInt8), (∀ f ∈ l, IGood f) → t.data.toList = pre ++ (bytesGo last.data.toList l ++ rest) →
    manGo l.length last acc ⟨t, pre.length, 0⟩ = (0, acc ++ l, ⟨t, (pre ++ bytesGo last.data.toList l).length, 0⟩)
  | [], last, acc, pre, rest, _, _ => by simp [manGo, bytesGo]
  | f :: l, last, acc, pre, rest, hg, ht => by
    obtain ⟨g1, ⟨g2, g3⟩, ⟨g4, g5⟩, g6⟩ := hg f (by simp)
    obtain ⟨l1, l2⟩ := sharedL_le last.data.toList f.path.data.toList
    have hpl := bt_size f.path
    have hll := bt_size last
    have hp := tb_path last f.path
    rw [bytesGo] at ht ⊢
    unfold itemBy at ht ⊢
    generalize hn : sharedL last.data.toList f.path.data.toList = n at *
    have e1 := tb_count (t := t) (n := n) (k := 200) (pre := pre) (rest := numL (f.path.size - n) ++ (f.path.data.toList.drop n ++ (numL f.mode.toNat ++ (numL f.size.toNat ++ (f.mark.data.toList ++ (bytesGo f.path.data.toList l ++ rest)))))) (by omega) (by omega) (by rw [ht]; simp only [List.append_assoc])
    have e2 := tb_text (t := t) (n := f.path.size - n) (x := f.path.data.toList.drop n) (k := 200) (pre := pre ++ numL n) (rest := numL f.mode.toNat ++ (numL f.size.toNat ++ (f.mark.data.toList ++ (bytesGo f.path.data.toList l ++ rest)))) (by rw [List.length_drop]; omega) (by omega) (by omega) (by rw [ht]; simp only [List.append_assoc])
    have e3 := tb_num (t := t) (n := f.mode.toNat) (pre := pre ++ numL n ++ numL (f.path.size - n) ++ f.path.data.toList.drop n) (rest := numL f.size.toNat ++ (f.mark.data.toList ++ (bytesGo f.path.data.toList l ++ rest))) (by omega) (by rw [ht]; simp only [List.append_assoc])
    have e4 := tb_num (t := t) (n := f.size.toNat) (pre := pre ++ numL n ++ numL (f.path.size - n) ++ f.path.data.toList.drop n ++ numL f.mode.toNat) (rest := f.mark.data.toList ++ (bytesGo f.path.data.toList l ++ rest)) (by omega) (by rw [ht]; simp only [List.append_assoc])
    have e5 := tb_raw (s := t) (n := 32) (m := f.mark.data.toList) (pre := pre ++ numL n ++ numL (f.path.size - n) ++ f.path.data.toList.drop n ++ numL f.mode.toNat ++ numL f.size.toNat) (rest := bytesGo f.path.data.toList l ++ rest) (by rw [← ba_size]; exact g6.symm) (by rw [ht]; simp only [List.append_assoc])
    have ih := manGo_back t l f.path (acc ++ [f]) (pre ++ numL n ++ numL (f.path.size - n) ++ f.path.data.toList.drop n ++ numL f.mode.toNat ++ numL f.size.toNat ++ f.mark.data.toList) rest (fun x hx => hg x (by simp [hx])) (by rw [ht]; simp only [List.append_assoc])
    have em : (⟨f.mark.data.toList.toArray⟩ : ByteArray) = f.mark := (ba_of rfl).symm
    rw [List.length_cons, manGo_step e1 e2 e3 e4 e5 (itErr_ok rfl (by omega) (by rw [hp]; exact hn)), hp, em,
      show (⟨f.path, ((f.mode.toNat : Nat) : Int), ((f.size.toNat : Nat) : Int), f.mark⟩ : ItemD) = f by rw [Int.toNat_of_nonneg g2, Int.toNat_of_nonneg g4], ih]
    simp only [List.append_assoc, List.singleton_append]
theorem bytesGo_len : ∀ (l : List ItemD) (last : List UInt8), (∀ f ∈ l, IGood f) → (bytesGo last l).length ≤ l.length * 268
  | [], last, _ => by simp [bytesGo]
  | f :: l, last, hg => by
    obtain ⟨g1, ⟨g2, g3⟩, ⟨g4, g5⟩, g6⟩ := hg f (by simp)
    obtain ⟨l1, l2⟩ := sharedL_le last f.path.data.toList
    have hpl := bt_size f.path
    have hml := bt_size f.mark
    have ih := bytesGo_len l f.path.data.toList (fun x hx => hg x (by simp [hx]))
    rw [bytesGo]
    unfold itemBy
    generalize sharedL last f.path.data.toList = n at *
    have a1 := numL_len n (by omega)
    have a2 := numL_len (f.path.size - n) (by omega)
    have a3 := numL_len f.mode.toNat (by omega)
    have a4 := numL_len f.size.toNat (by omega)
    simp only [List.length_append, List.length_cons, List.length_drop]
    omega
theorem bytesS_len {l : List ItemD} (hl : l.length ≤ 256) : (bytesS l).size ≤ 131072 := by
  unfold bytesS
  by_cases h : rightE l = 0
  · rw [if_pos h, ba_size]
    show (bytesL l).length ≤ _
    unfold bytesL
    rw [List.length_append]
    have a1 := numL_len l.length (by omega)
    have a2 := bytesGo_len l [] (good_of h)
    omega
  · rw [if_neg h]; decide
theorem man_back {l : List ItemD} (h : rightE l = 0) : manOf (bytesS l) = (0, l) := by
  have hl := (rightE_zero h).1
  unfold bytesS manOf
  rw [if_pos h]
  have ht : (⟨(bytesL l).toArray⟩ : ByteArray).data.toList = [] ++ (numL l.length ++ (bytesGo [] l ++ [])) := by simp [bytesL]
  have hsz : (⟨(bytesL l).toArray⟩ : ByteArray).size = (numL l.length ++ bytesGo [] l).length := by rw [ba_size, ht]; simp
  generalize (⟨(bytesL l).toArray⟩ : ByteArray) = T at *
  have e1 := tb_count (t := T) (n := l.length) (k := 256) (pre := []) (rest := bytesGo [] l ++ []) (by omega) (by omega) ht
  have e2 := manGo_back T l .empty [] ([] ++ numL l.length) [] (good_of h) (by rw [ht]; simp only [List.nil_append]; rfl)
  simp only [List.length_nil, List.nil_append] at e1 e2
  rw [e1]
  simp only []
  rw [e2]
  refine manEnd_ok ?_ h
  unfold rdEnd
  rw [if_neg]
  rw [hsz]
  exact fun hh => Nat.lt_irrefl _ hh.2

theorem manGo_canon : ∀ (k : Nat) (last : ByteArray) (acc out : List ItemD) (r r' : Rd), r.ok → manGo k last acc r = (0, out, r') →
    ∃ l, out = acc ++ l ∧ l.length = k ∧ r.s.data.toList.drop r.at_ = bytesGo last.data.toList l ++ r.s.data.toList.drop r'.at_ ∧ r'.s = r.s ∧ r'.ok ∧ (0 < k → r.e = 0)
  | 0, last, acc, out, r, r', ho, h => by
    rw [manGo] at h
    injection h with _ h
    injection h with h1 h2
    subst h1
    subst h2
    exact ⟨[], by simp, rfl, by simp [bytesGo], rfl, ho, fun h => absurd h (by omega)⟩
  | k + 1, last, acc, out, r, r', ho, h => by
    have c1 := @rdCount_canon r 200
    have a1 := @rdCount_adv r 200
    have o1 := rdCount_ok' (m := 200) ho
    have s1 := rdCount_s r 200
    obtain ⟨n, r1, h1⟩ : ∃ n r1, rdCount r 200 = (n, r1) := ⟨_, _, rfl⟩
    have c2 := @rdText_canon r1 200
    have a2 := @rdText_adv r1 200
    have o2 := @rdText_ok r1 200
    have s2 := rdText_s r1 200
    obtain ⟨t, r2, h2⟩ : ∃ t r2, rdText r1 200 = (t, r2) := ⟨_, _, rfl⟩
    have c3 := @rdNum_canon r2
    have a3 := @rdNum_adv r2
    have o3 := @rdNum_ok r2
    have s3 := rdNum_s r2
    obtain ⟨m, r3, h3⟩ : ∃ m r3, rdNum r2 = (m, r3) := ⟨_, _, rfl⟩
    have c4 := @rdNum_canon r3
    have a4 := @rdNum_adv r3
    have o4 := @rdNum_ok r3
    have s4 := rdNum_s r3
    obtain ⟨z, r4, h4⟩ : ∃ z r4, rdNum r3 = (z, r4) := ⟨_, _, rfl⟩
    have c5 := @rdRaw_canon r4 32
    have a5 := @rdRaw_adv r4 32
    have o5 := @rdRaw_ok r4 32
    have s5 := rdRaw_s r4 32
    obtain ⟨q, r5, h5⟩ : ∃ q r5, rdRaw r4 32 = (q, r5) := ⟨_, _, rfl⟩
    have hz : ((32 : Nat) : Int) = 32 := rfl
    rw [hz] at c5
    rw [h1] at c1 a1 o1 s1
    rw [h2] at c2 a2 o2 s2
    rw [h3] at c3 a3 o3 s3
    rw [h4] at c4 a4 o4 s4
    rw [h5] at c5 a5 o5 s5
    simp only [] at c1 c2 c3 c4 c5 a1 a2 a3 a4 a5 o1 o2 o3 o4 o5 s1 s2 s3 s4 s5
    by_cases h0 : itErr last n t r5.e = 0
    · rw [manGo_step h1 h2 h3 h4 h5 h0] at h
      have o5 := o5 (o4 (o3 (o2 o1)))
      obtain ⟨l, e1, e2, e3, e4, e5, _⟩ := manGo_canon k _ _ out r5 r' o5 h
      have hx : r5.e = 0 ∧ ¬ last.size < n ∧ sharedL last.data.toList (last.extract 0 n ++ t).data.toList = n := by
        unfold itErr at h0
        by_cases x1 : r5.e = 0
        · rw [if_neg (by simp [x1])] at h0
          by_cases x2 : last.size < n
          · rw [if_pos x2] at h0; cases h0
          · rw [if_neg x2] at h0
            by_cases x3 : sharedL last.data.toList (last.extract 0 n ++ t).data.toList = n
            · exact ⟨x1, x2, x3⟩
            · rw [if_neg x3] at h0; cases h0
        · rw [if_pos x1] at h0; exact absurd h0 x1
      obtain ⟨x1, x2, x3⟩ := hx
      have z4 := (a5 x1).2
      have z3 := (a4 z4).2
      have z2 := (a3 z3).2
      have z1 := (a2 z2).2
      have z0 := (a1 z1).2
      have d5 := (c5 x1 (o4 (o3 (o2 o1))).1).1
      have d4 := c4 z4
      have d3 := c3 z3
      have d2 := (c2 z2 o1).1
      have d1 := (c1 z1).elim (fun h => h.1) False.elim
      rw [s1] at d2 s2
      rw [s2] at d3 s3
      rw [s3] at d4 s4
      rw [s4] at d5 s5
      rw [s5] at e3 e4
      refine ⟨⟨last.extract 0 n ++ t, m, z, q⟩ :: l, by rw [e1]; simp, by simp [e2], ?_, e4, e5, fun _ => z0⟩
      rw [bytesGo]
      unfold itemBy
      simp only [x3, Int.toNat_natCast]
      have hlt : (last.extract 0 n).data.toList.length = n := by rw [← ba_size]; simp; omega
      have hdr : (last.extract 0 n ++ t).data.toList.drop n = t.data.toList := by
        rw [ByteArray.data_append, Array.toList_append]
        exact List.drop_left' hlt
      have hps : (last.extract 0 n ++ t).size - n = t.size := by simp; omega
      rw [hdr, hps, d1, d2, d3, d4, d5, e3]
      unfold txtB
      simp only [List.append_assoc]
    · exfalso
      rw [manGo] at h
      simp only [h1, h2, h3, h4, h5] at h
      rw [if_neg h0] at h
      injection h with h _
      exact h0 h
theorem man_canon {s : ByteArray} {l : List ItemD} (hs : s.size ≤ 9223372036854775807) (h : manOf s = (0, l)) : bytesS l = s := by
  have ho0 : (⟨s, 0, 0⟩ : Rd).ok := ⟨Nat.zero_le _, hs⟩
  have c1 := @rdCount_canon ⟨s, 0, 0⟩ 256
  have p1 := @rdCount_pos ⟨s, 0, 0⟩ 256
  have s1 := rdCount_s ⟨s, 0, 0⟩ 256
  have o1 := rdCount_ok' (m := 256) ho0
  unfold manOf at h
  obtain ⟨n, r1, h1⟩ : ∃ n r1, rdCount ⟨s, 0, 0⟩ 256 = (n, r1) := ⟨_, _, rfl⟩
  rw [h1] at c1 p1 s1 o1 h
  simp only [] at c1 p1 s1 o1 h
  obtain ⟨e, out, r2, h2⟩ : ∃ e out r2, manGo n .empty [] r1 = (e, out, r2) := ⟨_, _, _, rfl⟩
  rw [h2] at h
  unfold manEnd at h
  simp only [] at h
  by_cases he : e = 0
  · subst he
    obtain ⟨l', e1, e2, e3, e4, e5, _⟩ := manGo_canon n _ _ _ _ _ o1 h2
    rw [if_pos rfl] at h
    by_cases hee : (rdEnd r2).e = 0
    · rw [if_pos hee] at h
      by_cases hr : rightE out = 0
      · rw [if_pos hr] at h
        injection h with _ h
        subst h
        rw [List.nil_append] at e1
        subst e1
        have hend : r2.e = 0 ∧ ¬ r2.at_ < r2.s.size := by
          unfold rdEnd at hee
          by_cases hh : r2.e = 0 ∧ r2.at_ < r2.s.size
          · rw [if_pos hh] at hee; simp at hee
          · rw [if_neg hh] at hee
            exact ⟨hee, fun h => hh ⟨hee, h⟩⟩
        have hz1 : r1.e = 0 := by
          rcases Nat.eq_zero_or_pos n with hz | hp
          · subst hz
            rw [manGo] at h2
            injection h2 with _ h2
            injection h2 with _ h2
            rw [h2]
            exact hend.1
          · exact p1 hp
        have d1 := (c1 hz1).elim (fun h => h.1) False.elim
        rw [s1] at e3 e4
        rw [e4] at hend
        have hdrop : s.data.toList.drop r2.at_ = [] := List.drop_eq_nil_of_le (by rw [← ba_size]; omega)
        rw [hdrop, List.append_nil] at e3
        rw [e3, List.drop_zero] at d1
        unfold bytesS
        rw [if_pos hr]
        refine (ba_of ?_).symm
        rw [d1]
        unfold bytesL
        rw [e2]
        rfl
      · rw [if_neg hr] at h
        injection h with h _
        exact absurd h hr
    · rw [if_neg hee] at h
      injection h with h _
      exact absurd h hee
  · rw [if_neg he] at h
    injection h with h _
    exact absurd h he
theorem rightE_nil : rightE [] = 0 := by decide
theorem man_right (s : ByteArray) : rightE (manOf s).2 = 0 := by
  unfold manOf manEnd
  split
  · split
    · split
      · rename_i h; exact h
      · exact rightE_nil
    · exact rightE_nil
  · exact rightE_nil
theorem good_ok {l : List ItemD} (h : ∀ f ∈ l, IGood f) : ∀ f ∈ l, IOk f := by
  intro f hf
  obtain ⟨g1, ⟨g2, g3⟩, ⟨g4, g5⟩, g6⟩ := h f hf
  exact ⟨by omega, by omega, ⟨by omega, by omega⟩, by omega, by omega⟩
end Go.Proofs.YtmcgaaihdjpdgaaGreatDoor
