/- A number's bytes: plain lemmas, no program in sight. -/
import Derived.Test.YtmcgaaihdjpdgaaGreatDoorBase
namespace Go.Proofs.YtmcgaaihdjpdgaaGreatDoor
open Go.RowKit

/-- A number's bytes: seven bits each, the lowest first, the last one below 128. -/
def numL (n : Nat) : List UInt8 := if n < 128 then [n.toUInt8] else (n % 128 + 128).toUInt8 :: numL (n / 128)

theorem numL_lt {n : Nat} (h : n < 128) : numL n = [n.toUInt8] := by rw [numL]; simp [h]
theorem numL_ge {n : Nat} (h : 128 ≤ n) : numL n = (n % 128 + 128).toUInt8 :: numL (n / 128) := by rw [numL]; simp [show ¬ n < 128 by omega]

theorem numL_len_le (k : Nat) : ∀ n, n < 128 ^ (k + 1) → (numL n).length ≤ k + 1 := by
  induction k with
  | zero => intro n h; rw [numL_lt (by simpa using h)]; simp
  | succ k ih =>
    intro n h
    by_cases hn : n < 128
    · rw [numL_lt hn]; simp
    · rw [numL_ge (by omega)]
      have := ih (n / 128) (by rw [Nat.div_lt_iff_lt_mul (by omega)]; rw [Nat.pow_succ] at h; omega)
      simp; omega
theorem numL_len (n : Nat) (h : n ≤ 4611686018427387903) : (numL n).length ≤ 9 := numL_len_le 8 n (by omega)
theorem numL_ne (n : Nat) : numL n ≠ [] := by rw [numL]; split <;> simp
theorem numL_pos (n : Nat) : 0 < (numL n).length := List.length_pos_iff.2 (numL_ne n)

/-- The text of a number, and the error. -/
def numS (n : Int) : ByteArray := if n < 0 ∨ 4611686018427387903 < n then ByteArray.empty else ⟨(numL n.toNat).toArray⟩
def numE (n : Int) : Int := if n < 0 ∨ 4611686018427387903 < n then 2 else 0

theorem numS_ok {n : Int} (h0 : 0 ≤ n) (h1 : n ≤ 4611686018427387903) : numS n = ⟨(numL n.toNat).toArray⟩ := if_neg (by omega)
theorem numE_ok {n : Int} (h0 : 0 ≤ n) (h1 : n ≤ 4611686018427387903) : numE n = 0 := if_neg (by omega)
theorem numS_no {n : Int} (h : n < 0 ∨ 4611686018427387903 < n) : numS n = ByteArray.empty := if_pos h
theorem numE_no {n : Int} (h : n < 0 ∨ 4611686018427387903 < n) : numE n = 2 := if_pos h

theorem toUInt8_toNat (n : Nat) (h : n < 256) : (n.toUInt8).toNat = n := by simp [Nat.toUInt8]; omega

theorem byteCells_snoc' (d : List UInt8) (k : Int) (h0 : 0 ≤ k) (h1 : k < 256) : Lib.byteCells d ++ [Value.int .u8 k] = Lib.byteCells (d ++ [k.toNat.toUInt8]) := by
  obtain ⟨k, rfl⟩ := Int.eq_ofNat_of_zero_le h0
  simp only [Lib.byteCells, List.map_append, List.map_cons, List.map_nil, Int.toNat_natCast]
  rw [toUInt8_toNat k (by omega)]

theorem num_step {done : List UInt8} {k n : Nat} (hk : 127 < k) (HE : Hid (done ++ numL k = numL n)) (hlen : done.length + (numL k).length ≤ 9) :
    Hid ((done ++ [(k % 128 + 128).toUInt8]) ++ numL (k / 128) = numL n) ∧ (done ++ [(k % 128 + 128).toUInt8]).length + (numL (k / 128)).length ≤ 9 := by
  have e := numL_ge (n := k) (by omega)
  refine ⟨?_, ?_⟩
  · have := HE.out
    rw [e] at this
    simp only [List.append_assoc, List.singleton_append]
    exact this
  · rw [e] at hlen
    simp at hlen ⊢
    omega
theorem num_cells {done : List UInt8} {k : Nat} : Lib.byteCells done ++ [Value.int IntKind.u8 ((k : Int) % 128 + 128)] = Lib.byteCells (done ++ [(k % 128 + 128).toUInt8]) := by
  rw [byteCells_snoc' done _ (by omega) (by omega)]
  congr 4
theorem num_cells1 {done : List UInt8} {k : Nat} (hk : k < 128) : Lib.byteCells done ++ [Value.int IntKind.u8 (k : Int)] = Lib.byteCells (done ++ [k.toUInt8]) := by
  exact byteCells_snoc' done _ (by omega) (by omega)
theorem num_end {done : List UInt8} {k n : Nat} (hk : k < 128) (HE : Hid (done ++ numL k = numL n)) : done ++ [k.toUInt8] = numL n := by
  rw [← HE.out, numL_lt hk]
end Go.Proofs.YtmcgaaihdjpdgaaGreatDoor
