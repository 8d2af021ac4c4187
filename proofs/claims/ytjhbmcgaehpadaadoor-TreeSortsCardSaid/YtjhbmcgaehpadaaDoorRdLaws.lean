/- Plain laws of the reader: no program in sight. -/
import Derived.Test.YtjhbmcgaehpadaaDoorRdPlain
namespace Go.Proofs.YtjhbmcgaehpadaaDoor
open Go.RowKit

theorem ba_size (s : ByteArray) : s.size = s.data.toList.length := by rw [Array.length_toList]; rfl
theorem ba_get {s : ByteArray} {i : Nat} (h : i < s.size) {c : UInt8} (hc : s.data.toList[i]? = some c) : s[i] = c := by
  have hl : i < s.data.toList.length := by rw [← ba_size]; exact h
  rw [List.getElem?_eq_getElem hl] at hc
  injection hc

/-- The next byte of a text that is known as a list. -/
theorem rdByte_at {s : ByteArray} {pre rest : List UInt8} {c : UInt8} (hs : s.data.toList = pre ++ c :: rest) : rdByte ⟨s, pre.length, 0⟩ = (c.toNat, ⟨s, pre.length + 1, 0⟩) := by
  have hlt : pre.length < s.size := by rw [ba_size, hs]; simp
  have hg : s[pre.length] = c := ba_get hlt (by rw [hs]; simp)
  unfold rdByte
  simp [hlt, hg]

theorem rdNumGo_numL {s : ByteArray} (f : Nat) : ∀ (i n acc : Nat) (pre rest : List UInt8), f + i = 9 → n * 128 ^ i ≤ 4611686018427387903 → (0 < i → 0 < n) → s.data.toList = pre ++ (numL n ++ rest) →
    rdNumGo f i acc ⟨s, pre.length, 0⟩ = (acc + n * 128 ^ i, ⟨s, pre.length + (numL n).length, 0⟩) := by
  induction f with
  | zero =>
    intro i n acc pre rest hf hn h0 _
    have hi : i = 9 := by omega
    subst hi
    have := h0 (by omega)
    have e : 128 ^ 9 = 9223372036854775808 := by decide
    rw [e] at hn
    omega
  | succ f ih =>
    intro i n acc pre rest hf hn h0 hs
    by_cases hlt : n < 128
    · rw [numL_lt hlt] at hs
      have hb := rdByte_at (s := s) (pre := pre) (c := n.toUInt8) (rest := rest) (by simpa using hs)
      rw [toUInt8_toNat n (by omega)] at hb
      have h8 : i = 8 → n ≤ 63 := by
        intro h
        subst h
        have e : 128 ^ 8 = 72057594037927936 := by decide
        rw [e] at hn
        omega
      rw [rdNumGo, hb, numL_lt hlt]
      simp only [ne_eq, not_true_eq_false, if_false]
      rw [if_neg (by omega), if_pos hlt, Nat.mod_eq_of_lt hlt]
      rfl
    · rw [numL_ge (by omega)] at hs
      have hb := rdByte_at (s := s) (pre := pre) (c := (n % 128 + 128).toUInt8) (rest := numL (n / 128) ++ rest) (by simpa using hs)
      rw [toUInt8_toNat _ (by omega)] at hb
      have h8 : ¬ i = 8 := by
        intro h
        subst h
        have e : 128 ^ 8 = 72057594037927936 := by decide
        rw [e] at hn
        omega
      have hp : 128 ^ (i + 1) = 128 * 128 ^ i := by rw [Nat.pow_succ, Nat.mul_comm]
      have hdiv : n / 128 * (128 * 128 ^ i) + n % 128 * 128 ^ i = n * 128 ^ i := by
        rw [← Nat.mul_assoc, ← Nat.add_mul]
        congr 1
        omega
      have hle : n / 128 * 128 ^ (i + 1) ≤ 4611686018427387903 := by rw [hp]; omega
      have ih' := ih (i + 1) (n / 128) (acc + n % 128 * 128 ^ i) (pre ++ [(n % 128 + 128).toUInt8]) rest (by omega) hle (fun _ => by omega) (by simpa using hs)
      rw [rdNumGo, hb, numL_ge (by omega)]
      simp only [ne_eq, not_true_eq_false, if_false]
      rw [if_neg (by omega), if_neg (by omega), show (n % 128 + 128) % 128 = n % 128 by omega]
      simp only [List.length_append, List.length_cons, List.length_nil] at ih'
      rw [ih', hp]
      congr 1
      · omega
      · simp only [List.length_cons]
        congr 1
        omega

theorem rdNum_numL {s : ByteArray} {n : Nat} {pre rest : List UInt8} (hn : n ≤ 4611686018427387903) (hs : s.data.toList = pre ++ (numL n ++ rest)) :
    rdNum ⟨s, pre.length, 0⟩ = (n, ⟨s, pre.length + (numL n).length, 0⟩) := by
  have := rdNumGo_numL (s := s) 9 0 n 0 pre rest (by omega) (by simpa using hn) (by omega) hs
  simpa [rdNum] using this

theorem rdNumGo_ok (f : Nat) : ∀ (i n : Nat) (r : Rd), r.ok → (rdNumGo f i n r).2.ok := by
  induction f with
  | zero => intro i n r h; exact h
  | succ f ih =>
    intro i n r h
    have hb := rdByte_ok h
    rw [rdNumGo]
    simp only []
    split
    · exact hb
    · split
      · exact hb
      · split
        · exact hb
        · exact ih _ _ _ hb
theorem rdNum_ok {r : Rd} (h : r.ok) : (rdNum r).2.ok := rdNumGo_ok 9 0 0 r h

theorem rdNumGo_lt (f : Nat) : ∀ (i n : Nat) (r : Rd), f + i = 9 → n < 128 ^ i → (rdNumGo f i n r).1 ≤ 4611686018427387903 ∨ f = 0 := by
  induction f with
  | zero => intro i n r _ _; exact .inr rfl
  | succ f ih =>
    intro i n r hf hn
    left
    rw [rdNumGo]
    simp only []
    split
    · simp
    · split
      · simp
      · rename_i hbad
        have hnx := num_next (c := (rdByte r).1) hn
        have e8 : 128 ^ 8 = 72057594037927936 := by decide
        split
        · rename_i hlt
          show _ ≤ _
          by_cases h8 : i = 8
          · subst h8
            rw [Nat.mod_eq_of_lt hlt, e8]
            rw [e8] at hn
            omega
          · have h2 : 128 ^ (i + 1) ≤ 128 ^ 8 := Nat.pow_le_pow_right (by omega) (by omega)
            show n + (rdByte r).1 % 128 * 128 ^ i ≤ _
            omega
        · rename_i hge
          rcases ih (i + 1) _ (rdByte r).2 (by omega) hnx with h | h
          · exact h
          · exfalso
            have hi : i = 8 := by omega
            omega
theorem rdNum_le (r : Rd) : (rdNum r).1 ≤ 4611686018427387903 := by
  rcases rdNumGo_lt 9 0 0 r (by omega) (by simp) with h | h
  · exact h
  · omega
end Go.Proofs.YtjhbmcgaehpadaaDoor
