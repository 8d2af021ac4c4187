/- Chapter 9, plain: what the walks' steps want. -/
import Derived.Test.YtmcgaaihdjpdgaaGreatDoorTreePlain
import Derived.Test.YtmcgaaihdjpdgaaGreatDoorSplit
namespace Go.Proofs.YtmcgaaihdjpdgaaGreatDoor
open Go.RowKit
set_option linter.unusedVariables false

theorem bt_size (s : ByteArray) : s.size = s.data.toList.length := by rw [Array.length_toList]; rfl
def bt (t : List UInt8) (i : Nat) : UInt8 := t.getD i 0
theorem bt_get (s : ByteArray) (i : Nat) (h : i < s.size) : s[i] = bt s.data.toList i := by
  unfold bt
  rw [List.getD_eq_getElem?_getD, List.getElem?_eq_getElem (by rw [← bt_size]; exact h)]
  rfl
theorem bt_drop {t : List UInt8} {i : Nat} (h : i < t.length) : t.drop i = bt t i :: t.drop (i + 1) := by
  unfold bt
  rw [List.drop_eq_getElem_cons h, List.getD_eq_getElem?_getD, List.getElem?_eq_getElem h]
  rfl
theorem bt_take {t : List UInt8} {i : Nat} (h : i < t.length) : t.take (i + 1) = t.take i ++ [bt t i] := by
  unfold bt
  rw [List.take_add_one, List.getD_eq_getElem?_getD, List.getElem?_eq_getElem h]
  rfl
theorem ba_ext {a b : ByteArray} (h : a.data.toList = b.data.toList) : a = b := by
  obtain ⟨⟨a⟩⟩ := a
  obtain ⟨⟨b⟩⟩ := b
  simp only at h
  rw [h]

/-! ### the order, a byte at a time -/
theorem ord_same {a b : List UInt8} {i : Nat} (ha : i < a.length) (hb : i < b.length) (h : bt a i = bt b i) : ordL (a.drop i) (b.drop i) = ordL (a.drop (i + 1)) (b.drop (i + 1)) := by
  rw [bt_drop ha, bt_drop hb, ordL, if_pos h]
theorem ord_stop {a b : List UInt8} {i : Nat} (ha : i < a.length) (hb : i < b.length) (h : bt a i ≠ bt b i) :
    ordL (a.drop i) (b.drop i) = if bt a i = 47 then -1 else if bt b i = 47 then 1 else ((bt a i).toNat : Int) - ((bt b i).toNat : Int) := by
  rw [bt_drop ha, bt_drop hb, ordL, if_neg h]
theorem ord_end {a b : List UInt8} {i : Nat} (ha : i ≤ a.length) (hb : i ≤ b.length) (h : ¬ (i < a.length ∧ i < b.length)) : ordL (a.drop i) (b.drop i) = (a.length : Int) - (b.length : Int) := by
  by_cases h1 : i < a.length
  · have : i = b.length := by omega
    rw [bt_drop h1, this, List.drop_length, ordL, ← this, ← bt_drop h1, List.length_drop]
    omega
  · have : i = a.length := by omega
    rw [this, List.drop_length, ordL, List.length_drop]
    omega
theorem ord_bound : ∀ a b : List UInt8, -((a.length : Int) + b.length + 256) ≤ ordL a b ∧ ordL a b ≤ (a.length : Int) + b.length + 256
  | [], b => by unfold ordL; simp; omega
  | x :: a, [] => by unfold ordL; simp; omega
  | x :: a, y :: b => by
    have := ord_bound a b
    have hx := x.toNat_lt
    have hy := y.toNat_lt
    rw [ordL]
    simp only [List.length_cons]
    repeat' split
    all_goals omega
theorem ordS_same {a b : List UInt8} {i : Nat} (ha : i < a.length) (hb : i < b.length) (h : bt a i = bt b i) : ordS (a.drop i) (b.drop i) = ordS (a.drop (i + 1)) (b.drop (i + 1)) := by
  rw [bt_drop ha, bt_drop hb, ordS, h, if_neg (Nat.lt_irrefl _), if_neg (Nat.lt_irrefl _)]

/-! ### strings.Split at a slash -/
theorem split_any : ∀ l : List UInt8, Lib.splitK [47] 0 (Lib.count l [47]) l = splitL l
  | [] => rfl
  | b :: l => by
    have ih := split_any l
    by_cases hb : b = 47
    · subst hb
      rw [Lib.count_cons_eq, Nat.add_comm, Lib.splitK, splitL, if_pos rfl]
      have hi : Lib.index (47 :: l) [47] = 0 := by simp [Lib.index]
      rw [hi, if_neg (by decide)]
      simp only [Int.toNat_zero, Nat.zero_add, List.take_zero, List.length_cons, List.length_nil, List.drop_succ_cons, List.drop_zero]
      rw [ih]
    · rw [Lib.count_cons_ne _ _ _ hb, splitL, if_neg hb]
      have hp : List.isPrefixOf [47] (b :: l) = false := by
        simp [List.isPrefixOf]
        exact fun h => hb h.symm
      have hi : Lib.index (b :: l) [47] = if Lib.index l [47] == -1 then -1 else Lib.index l [47] + 1 := by
        rw [Lib.index, hp]
        rfl
      generalize Lib.count l [47] = k at ih
      rw [← ih]
      cases k with
      | zero => rfl
      | succ k =>
        rw [Lib.splitK, Lib.splitK, hi]
        by_cases hn : Lib.index l [47] = -1
        · rw [hn]; rfl
        · have hg := Lib.index_ge l [47]
          obtain ⟨i, he⟩ := Int.eq_ofNat_of_zero_le (show 0 ≤ Lib.index l [47] by omega)
          rw [he]
          have h1 : ((i : Int) == -1) = false := by rw [beq_eq_false_iff_ne]; omega
          have h2 : ((i : Int) + 1 == -1) = false := by rw [beq_eq_false_iff_ne]; omega
          simp only [h1, h2, Bool.false_eq_true, if_false, Nat.add_zero]
          have e1 : ((i : Int) + 1).toNat = i + 1 := by omega
          rw [e1]
          rfl
/-- The pieces. -/
def pieces (s : ByteArray) : List ByteArray := Lib.splitB ⟨#[47]⟩ 0 (Lib.countB s ⟨#[47]⟩) s
theorem pieces_list (s : ByteArray) : (pieces s).map (·.data.toList) = splitL s.data.toList := by
  unfold pieces
  rw [Lib.splitB_data]
  exact split_any _
theorem pieces_len (s : ByteArray) : (pieces s).length = Lib.countB s ⟨#[47]⟩ + 1 := Lib.splitB_all _ (by decide) 0 _ s rfl
theorem splitL_len : ∀ t : List UInt8, (splitL t).length ≤ t.length + 1
  | [] => by simp [splitL]
  | c :: r => by
    have := splitL_len r
    rw [splitL]
    split
    · simp; omega
    · split
      · simp
      · rename_i h; rw [h] at this; simp at this ⊢; omega
theorem splitL_each : ∀ (t x : List UInt8), x ∈ splitL t → x.length ≤ t.length
  | [], x, h => by simp [splitL] at h; simp [h]
  | c :: r, x, h => by
    have ih := splitL_each r
    rw [splitL] at h
    split at h
    · rcases List.mem_cons.1 h with rfl | h
      · simp
      · have := ih x h; simp; omega
    · split at h
      · simp at h; simp [h]
      · rename_i y ys hy
        rcases List.mem_cons.1 h with rfl | h
        · have := ih y (by rw [hy]; simp); simp; omega
        · have := ih x (by rw [hy]; simp [h]); simp; omega
end Go.Proofs.YtmcgaaihdjpdgaaGreatDoor
