/- The walks through the reference's reader: Num and what stands on it.; The walks through the reference's reader: Count, Text, Signed, and its lists.; Lists of numbers and of texts as bytes: plain lemmas, no program in sight. -/
import Derived.Test.YtmcgaaihdjpdgaaDoorRdAll
/- The walks through the reference's reader: Num and what stands on it. -/
namespace Go.Proofs.YtmcgaaihdjpdgaaDoor
open Go.RowKit

theorem pow128_le {i : Nat} (hi : i ≤ 8) : 128 ^ i ≤ 72057594037927936 := by
  have h2 : 128 ^ i ≤ 128 ^ 8 := Nat.pow_le_pow_right (by omega) hi
  have e8 : 128 ^ 8 = 72057594037927936 := by decide
  omega
theorem num_mul {c u i : Nat} (hi : i ≤ 8) (hu : Hid (u = 128 ^ i)) (h8 : i = 8 → c ≤ 63) : c % 128 * u ≤ 4611686018427387904 - u := by
  by_cases h : i = 8
  · have e8 : 128 ^ 8 = 72057594037927936 := by decide
    have hu' := hu.out
    subst h
    rw [e8] at hu'
    subst hu'
    have := h8 rfl
    omega
  · have h1 : 128 ^ i ≤ 128 ^ 7 := Nat.pow_le_pow_right (by omega) (by omega)
    have e7 : 128 ^ 7 = 562949953421312 := by decide
    have hu' := hu.out
    have h2 : c % 128 * u ≤ 127 * u := Nat.mul_le_mul_right _ (by omega)
    omega

end Go.Proofs.YtmcgaaihdjpdgaaDoor
/- The walks through the reference's reader: Count, Text, Signed, and its lists. -/
namespace Go.Proofs.YtmcgaaihdjpdgaaDoor
open Go.RowKit




end Go.Proofs.YtmcgaaihdjpdgaaDoor
/- Lists of numbers and of texts as bytes: plain lemmas, no program in sight. -/
namespace Go.Proofs.YtmcgaaihdjpdgaaDoor
open Go.RowKit

/-- A text's bytes, behind its length. -/
def txtS (s : ByteArray) : ByteArray := if 1048576 < s.size then ByteArray.empty else numS s.size ++ s
def txtE (s : ByteArray) : Int := if 1048576 < s.size then 4 else 0
theorem numS_len {n : Nat} (h : n ≤ 4611686018427387903) : (numS n).size = (numL n).length := by
  rw [numS_ok (by omega) (by omega), ba_size]
  rfl
theorem numS_list {n : Nat} (h : n ≤ 4611686018427387903) : (numS n).data.toList = numL n := by
  rw [numS_ok (by omega) (by omega)]
  rfl
theorem txt_no {s : ByteArray} (h : 1048576 < s.size) : txtS s = ByteArray.empty ∧ txtE s = 4 := ⟨if_pos h, if_pos h⟩
theorem txt_ok {s : ByteArray} (h : ¬ 1048576 < s.size) : txtS s = numS s.size ++ s ∧ txtE s = 0 := ⟨if_neg h, if_neg h⟩
theorem txtS_list {s : ByteArray} (h : ¬ 1048576 < s.size) : (txtS s).data.toList = numL s.size ++ s.data.toList := by
  rw [(txt_ok h).1, ByteArray.data_append, Array.toList_append, numS_list (by omega)]

/-- One element's bytes, and the error it brings; of the elements, each by itself. -/
def NumOk (x : Int) : Prop := 0 ≤ x ∧ x ≤ 4611686018427387903
instance (x : Int) : Decidable (NumOk x) := by unfold NumOk; infer_instance
def numB (x : Int) : List UInt8 := numL x.toNat
def TxtOk (s : ByteArray) : Prop := s.size ≤ 1048576
instance (s : ByteArray) : Decidable (TxtOk s) := by unfold TxtOk; infer_instance
def txtB (s : ByteArray) : List UInt8 := numL s.size ++ s.data.toList

theorem numok_S {x : Int} (h : NumOk x) : numS x = ⟨(numB x).toArray⟩ ∧ numE x = 0 := ⟨numS_ok h.1 h.2, numE_ok h.1 h.2⟩
theorem numok_no {x : Int} (h : ¬ NumOk x) : numS x = ByteArray.empty ∧ numE x = 2 := by
  unfold NumOk at h
  exact ⟨numS_no (by omega), numE_no (by omega)⟩
theorem txtok_S {s : ByteArray} (h : TxtOk s) : (txtS s).data.toList = txtB s ∧ txtE s = 0 := by
  unfold TxtOk at h
  exact ⟨txtS_list (by omega), (txt_ok (by omega)).2⟩
theorem txtok_no {s : ByteArray} (h : ¬ TxtOk s) : txtS s = ByteArray.empty ∧ txtE s = 4 := by
  unfold TxtOk at h
  exact txt_no (by omega)

/-- A list's bytes behind its count. -/
def listL {α : Type} (g : α → List UInt8) (l : List α) : List UInt8 := numL l.length ++ l.flatMap g
theorem listL_snoc {α : Type} (g : α → List UInt8) {l : List α} {k n : Nat} {x : α} (hx : l[k]? = some x) : numL n ++ (l.take k).flatMap g ++ g x = numL n ++ (l.take (k + 1)).flatMap g := by
  obtain ⟨hk, rfl⟩ := List.getElem?_eq_some_iff.1 hx
  rw [List.take_succ_eq_append_getElem hk, List.flatMap_append, List.append_assoc]
  simp
theorem numB_len {x : Int} (h : NumOk x) : (numB x).length ≤ 9 := numL_len _ (by have := h.1; have := h.2; omega)
theorem txtB_len {s : ByteArray} (h : TxtOk s) : (txtB s).length ≤ 1048585 := by
  unfold TxtOk at h
  have := numL_len s.size (by omega)
  unfold txtB
  rw [List.length_append, ← ba_size]
  omega
theorem flat_len {α : Type} (g : α → List UInt8) (c : Nat) : ∀ (l : List α), (∀ x ∈ l, (g x).length ≤ c) → (l.flatMap g).length ≤ l.length * c
  | [], _ => by simp
  | x :: l, h => by
    have h1 := h x (by simp)
    have h2 := flat_len g c l (fun y hy => h y (by simp [hy]))
    simp only [List.flatMap_cons, List.length_append, List.length_cons]
    rw [Nat.add_mul]
    omega
/-- What a list's bytes are, and the error: 'e' of the first element that may not be. -/
def listR {α : Type} (ok : α → Prop) [DecidablePred ok] (g : α → List UInt8) (e : Int) (l : List α) : ByteArray × Int :=
  if ∀ x ∈ l, ok x then (⟨(listL g l).toArray⟩, 0) else (ByteArray.empty, e)
theorem listR_no {α : Type} {ok : α → Prop} [DecidablePred ok] {g : α → List UInt8} {e : Int} {l : List α} {k : Nat} {x : α} (hx : l[k]? = some x) (h : ¬ ok x) : listR ok g e l = (ByteArray.empty, e) :=
  if_neg fun hh => h (hh x (List.mem_of_getElem? hx))
theorem listR_ok {α : Type} {ok : α → Prop} [DecidablePred ok] {g : α → List UInt8} {e : Int} {l : List α} (h : ∀ x ∈ l, ok x) : listR ok g e l = (⟨(listL g l).toArray⟩, 0) := if_pos h
theorem all_snoc {α : Type} {ok : α → Prop} {l : List α} {k : Nat} {x : α} (hx : l[k]? = some x) (h : ∀ y ∈ l.take k, ok y) (h' : ok x) : ∀ y ∈ l.take (k + 1), ok y := by
  obtain ⟨hk, rfl⟩ := List.getElem?_eq_some_iff.1 hx
  intro y hy
  rw [List.take_succ_eq_append_getElem hk, List.mem_append, List.mem_singleton] at hy
  rcases hy with hy | rfl
  · exact h y hy
  · exact h'
theorem take_whole {α : Type} {l : List α} {k : Nat} (h : l.length ≤ k) : l.take k = l := List.take_of_length_le h
end Go.Proofs.YtmcgaaihdjpdgaaDoor
