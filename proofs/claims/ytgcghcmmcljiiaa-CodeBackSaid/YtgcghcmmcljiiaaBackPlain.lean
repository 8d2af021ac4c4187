/- What was made is read again: plain laws, no program in sight. -/
import Derived.Test.YtgcghcmmcljiiaaTextWalk
import Derived.Test.YtgcghcmmcljiiaaCanonPlain
set_option linter.unusedVariables false
namespace Go.Proofs.Ytgcghcmmcljiiaa
open Go.RowKit

theorem rdNumsGo_back (t : ByteArray) : ∀ (L : List Nat) (pre rest : List UInt8), (∀ x ∈ L, x ≤ 4611686018427387903) → t.data.toList = pre ++ (L.flatMap numL ++ rest) →
    rdNumsGo L.length ⟨t, pre.length, 0⟩ = (L, ⟨t, pre.length + (L.flatMap numL).length, 0⟩)
  | [], pre, rest, _, _ => by simp [rdNumsGo]
  | x :: L, pre, rest, hb, ht => by
    have hx := rdNum_numL (s := t) (n := x) (pre := pre) (rest := L.flatMap numL ++ rest) (hb x (by simp)) (by rw [ht]; simp)
    have ih := rdNumsGo_back t L (pre ++ numL x) rest (fun y hy => hb y (by simp [hy])) (by rw [ht]; simp)
    rw [List.length_append] at ih
    rw [List.length_cons, rdNumsGo, hx]
    simp [ih, Nat.add_assoc]
theorem rdCount_back {t : ByteArray} {n : Nat} {k : Int} {pre rest : List UInt8} (hn : n ≤ 4611686018427387903) (hk : (n : Int) ≤ k) (ht : t.data.toList = pre ++ (numL n ++ rest)) :
    rdCount ⟨t, pre.length, 0⟩ k = (n, ⟨t, (pre ++ numL n).length, 0⟩) := by
  unfold rdCount
  rw [rdNum_numL hn ht]
  simp only []
  rw [if_neg (by omega), List.length_append]
theorem rdNums_back {t : ByteArray} {L : List Nat} {k : Int} {pre rest : List UInt8} (hl : L.length ≤ 4611686018427387903) (hk : (L.length : Int) ≤ k) (hb : ∀ x ∈ L, x ≤ 4611686018427387903) (ht : t.data.toList = pre ++ (listL numL L ++ rest)) :
    rdNums ⟨t, pre.length, 0⟩ k = (L, ⟨t, (pre ++ listL numL L).length, 0⟩) := by
  unfold listL at ht ⊢
  have h1 := rdCount_back (t := t) (k := k) (pre := pre) (rest := L.flatMap numL ++ rest) hl hk (by rw [ht]; simp)
  have h2 := rdNumsGo_back t L (pre ++ numL L.length) rest hb (by rw [ht]; simp)
  refine rdNums_fin ?_ (.inl rfl)
  rw [h1]
  simp only []
  rw [h2]
  simp [Nat.add_assoc]

theorem rdTextsGo_back (t : ByteArray) (k : Int) : ∀ (L : List ByteArray) (pre rest : List UInt8), (∀ x ∈ L, (x.size : Int) ≤ k ∧ TxtOk x) → t.data.toList = pre ++ (L.flatMap txtB ++ rest) →
    rdTextsGo L.length k ⟨t, pre.length, 0⟩ = (L, ⟨t, pre.length + (L.flatMap txtB).length, 0⟩)
  | [], pre, rest, _, _ => by simp [rdTextsGo]
  | x :: L, pre, rest, hb, ht => by
    obtain ⟨hk, hok⟩ := hb x (by simp)
    have hS := (txtok_S hok).1
    have hx := rdText_txt (t := t) (s := x) (pre := pre) (rest := L.flatMap txtB ++ rest) (m := k) (by unfold TxtOk at hok; omega) hk (by rw [ht, hS]; simp)
    have ih := rdTextsGo_back t k L (pre ++ txtB x) rest (fun y hy => hb y (by simp [hy])) (by rw [ht]; simp)
    rw [List.length_append] at ih
    have hsz : (txtS x).size = (txtB x).length := by rw [ba_size, hS]
    rw [List.length_cons, rdTextsGo, hx, hsz]
    simp [ih, Nat.add_assoc]
theorem rdTexts_back {t : ByteArray} {L : List ByteArray} {k m : Int} {pre rest : List UInt8} (hl : L.length ≤ 4611686018427387903) (hk : (L.length : Int) ≤ k) (hb : ∀ x ∈ L, (x.size : Int) ≤ m ∧ TxtOk x) (ht : t.data.toList = pre ++ (listL txtB L ++ rest)) :
    rdTexts ⟨t, pre.length, 0⟩ k m = (L, ⟨t, (pre ++ listL txtB L).length, 0⟩) := by
  unfold listL at ht ⊢
  have h1 := rdCount_back (t := t) (k := k) (pre := pre) (rest := L.flatMap txtB ++ rest) hl hk (by rw [ht]; simp)
  have h2 := rdTextsGo_back t m L (pre ++ numL L.length) rest hb (by rw [ht]; simp)
  refine rdTexts_fin ?_ (.inl rfl)
  rw [h1]
  simp only []
  rw [h2]
  simp [Nat.add_assoc]

theorem numB_map {l : List Int} (h : ∀ x ∈ l, NumOk x) : (l.map Int.toNat).flatMap numL = l.flatMap numB := by
  rw [List.flatMap_map]
  rfl
theorem listL_map {l : List Int} (h : ∀ x ∈ l, NumOk x) : listL numL (l.map Int.toNat) = listL numB l := by
  unfold listL
  rw [numB_map h, List.length_map]

theorem listL_len {α : Type} (g : α → List UInt8) (c : Nat) (l : List α) (hl : l.length ≤ 500) (h : ∀ x ∈ l, (g x).length ≤ c) : (listL g l).length ≤ 9 + 500 * c := by
  unfold listL
  rw [List.length_append]
  have h1 := numL_len l.length (by omega)
  have h2 := flat_len g c l h
  have h3 := Nat.mul_le_mul_right c hl
  omega

theorem back_all {n : Int} {s : ByteArray} {l : List Int} {m : List ByteArray} (hn : NumOk n) (hs : s.size ≤ 500) (hl : l.length ≤ 500) (hm : m.length ≤ 500) (hlo : ∀ x ∈ l, NumOk x) (hmo : ∀ x ∈ m, x.size ≤ 500) :
    ∃ a b c d : ByteArray, ∃ p1 p2 p3 p4 : Nat, numS n = a ∧ txtS s = b ∧ listR NumOk numB 2 l = (c, 0) ∧ listR TxtOk txtB 4 m = (d, 0) ∧ a.size ≤ 10000 ∧ b.size ≤ 10000 ∧ c.size ≤ 10000 ∧ d.size ≤ 1000000 ∧
    rdNum ⟨a ++ b ++ c ++ d, 0, 0⟩ = (n.toNat, ⟨a ++ b ++ c ++ d, p1, 0⟩) ∧ rdText ⟨a ++ b ++ c ++ d, p1, 0⟩ 500 = (s, ⟨a ++ b ++ c ++ d, p2, 0⟩) ∧
    rdNums ⟨a ++ b ++ c ++ d, p2, 0⟩ 500 = (l.map Int.toNat, ⟨a ++ b ++ c ++ d, p3, 0⟩) ∧ rdTexts ⟨a ++ b ++ c ++ d, p3, 0⟩ 500 500 = (m, ⟨a ++ b ++ c ++ d, p4, 0⟩) ∧
    p1 ≤ (a ++ b ++ c ++ d).size ∧ p2 ≤ (a ++ b ++ c ++ d).size ∧ p3 ≤ (a ++ b ++ c ++ d).size ∧ p4 = (a ++ b ++ c ++ d).size ∧ (a ++ b ++ c ++ d).size ≤ 1000000 := by
  have hso : TxtOk s := by unfold TxtOk; omega
  have hmk : ∀ x ∈ m, TxtOk x := fun x hx => by have := hmo x hx; unfold TxtOk; omega
  have hn9 := numB_len hn
  have ha : numS n = ⟨(numB n).toArray⟩ := (numok_S hn).1
  have hb := (txtok_S hso).1
  have hc := listR_ok (g := numB) (e := 2) hlo
  have hd := listR_ok (g := txtB) (e := 4) hmk
  have hla : (numS n).data.toList = numB n := by rw [ha]
  have hlen1 : (txtB s).length ≤ 509 := by
    unfold txtB
    rw [List.length_append, ← ba_size]
    have := numL_len s.size (by omega)
    omega
  have hlen2 := listL_len numB 9 l hl (fun x hx => numB_len (hlo x hx))
  have hlen3 := listL_len txtB 509 m hm (fun x hx => by
    unfold txtB
    rw [List.length_append, ← ba_size]
    have := hmo x hx
    have := numL_len x.size (by omega)
    omega)
  have hT : (numS n ++ txtS s ++ (⟨(listL numB l).toArray⟩ : ByteArray) ++ (⟨(listL txtB m).toArray⟩ : ByteArray)).data.toList = numB n ++ (txtB s ++ (listL numB l ++ listL txtB m)) := by
    simp only [ByteArray.data_append, Array.toList_append, hla, hb, List.append_assoc]
  refine ⟨numS n, txtS s, _, _, (numB n).length, (numB n ++ txtB s).length, (numB n ++ txtB s ++ listL numB l).length, (numB n ++ txtB s ++ listL numB l ++ listL txtB m).length, rfl, rfl, hc, hd, ?_⟩
  generalize numS n ++ txtS s ++ (⟨(listL numB l).toArray⟩ : ByteArray) ++ (⟨(listL txtB m).toArray⟩ : ByteArray) = T at hT ⊢
  have hTs : T.size = (numB n).length + ((txtB s).length + ((listL numB l).length + (listL txtB m).length)) := by rw [ba_size, hT]; simp
  have hsb : (txtS s).size = (txtB s).length := by rw [ba_size, hb]
  have hsa : (numS n).size = (numB n).length := by rw [ba_size, hla]
  have n0 := hn.1
  have n1 := hn.2
  have r1 := rdNum_numL (s := T) (n := n.toNat) (pre := []) (rest := txtB s ++ (listL numB l ++ listL txtB m)) (by omega) (by rw [hT]; rfl)
  have r2 := rdText_txt (t := T) (s := s) (pre := numB n) (rest := listL numB l ++ listL txtB m) (m := 500) (by omega) (by omega) (by rw [hT, hb])
  have r3 := rdNums_back (t := T) (L := l.map Int.toNat) (k := 500) (pre := numB n ++ txtB s) (rest := listL txtB m) (by rw [List.length_map]; omega) (by rw [List.length_map]; omega) (by
    intro x hx
    obtain ⟨y, hy, rfl⟩ := List.mem_map.1 hx
    have := hlo y hy
    unfold NumOk at this
    omega) (by rw [hT, listL_map hlo]; simp)
  have r4 := rdTexts_back (t := T) (L := m) (k := 500) (m := 500) (pre := numB n ++ txtB s ++ listL numB l) (rest := []) (by omega) (by omega) (fun x hx => ⟨by have := hmo x hx; omega, hmk x hx⟩) (by rw [hT]; simp)
  rw [listL_map hlo] at r3
  refine ⟨by omega, by omega, ?_, ?_, ?_, ?_, r3, r4, by omega, ?_, ?_, ?_, by omega⟩
  · show (listL numB l).length ≤ _; omega
  · show (listL txtB m).length ≤ _; omega
  · simpa [numB] using r1
  · rw [r2, hsb, List.length_append]
  · rw [List.length_append]; omega
  · rw [List.length_append, List.length_append]; omega
  · rw [List.length_append, List.length_append, List.length_append]; omega
end Go.Proofs.Ytgcghcmmcljiiaa
