/- A reader of bytes as plain data: no program in sight. -/
import Derived.Test.YtjhbmcgaehpadaaDoorNumPlain
namespace Go.Proofs.YtjhbmcgaehpadaaDoor
open Go.RowKit

/-- A reader's state: its text, where it stands, its first error. -/
structure Rd where
  s : ByteArray
  at_ : Nat
  e : Int

/-- The first error is kept. -/
def Rd.fail (r : Rd) (e : Int) : Rd := if r.e = 0 then { r with e := e } else r
def rdByte (r : Rd) : Nat × Rd :=
  if r.e ≠ 0 then (0, r) else if h : r.at_ < r.s.size then ((r.s[r.at_]).toNat, { r with at_ := r.at_ + 1 }) else (0, { r with e := 3 })
/-- The i-th byte of a number and what follows, so far n. -/
def rdNumGo : Nat → Nat → Nat → Rd → Nat × Rd
  | 0, _, n, r => (n, r)
  | f + 1, i, n, r =>
    let x := rdByte r
    if x.2.e ≠ 0 then (0, x.2)
    else if (i = 8 ∧ 63 < x.1) ∨ (0 < i ∧ x.1 = 0) then (0, { x.2 with e := 5 })
    else if x.1 < 128 then (n + x.1 % 128 * 128 ^ i, x.2)
    else rdNumGo f (i + 1) (n + x.1 % 128 * 128 ^ i) x.2
def rdNum (r : Rd) : Nat × Rd := rdNumGo 9 0 0 r
def sgn (n : Nat) : Int := if n % 2 = 1 then -((n : Int) / 2) - 1 else (n : Int) / 2
def rdSigned (r : Rd) : Int × Rd := (sgn (rdNum r).1, (rdNum r).2)
def rdRaw (r : Rd) (n : Int) : ByteArray × Rd :=
  if r.e ≠ 0 then (ByteArray.empty, r)
  else if n < 0 then (ByteArray.empty, { r with e := 1 })
  else if (r.s.size : Int) - r.at_ < n then (ByteArray.empty, { r with e := 3 })
  else (r.s.extract r.at_ (r.at_ + n.toNat), { r with at_ := r.at_ + n.toNat })
def rdCount (r : Rd) (most : Int) : Nat × Rd :=
  let x := rdNum r
  if x.2.e = 0 ∧ most < x.1 then (0, { x.2 with e := 4 }) else x
def rdText (r : Rd) (most : Int) : ByteArray × Rd := let x := rdCount r most; rdRaw x.2 x.1
def rdNumsGo : Nat → Rd → List Nat × Rd
  | 0, r => ([], r)
  | k + 1, r => let x := rdNum r; if x.2.e ≠ 0 then ([], x.2) else let y := rdNumsGo k x.2; (x.1 :: y.1, y.2)
def rdNums (r : Rd) (most : Int) : List Nat × Rd := let x := rdCount r most; let y := rdNumsGo x.1 x.2; if y.2.e ≠ 0 then ([], y.2) else y
def rdTextsGo : Nat → Int → Rd → List ByteArray × Rd
  | 0, _, r => ([], r)
  | k + 1, m, r => let x := rdText r m; if x.2.e ≠ 0 then ([], x.2) else let y := rdTextsGo k m x.2; (x.1 :: y.1, y.2)
def rdTexts (r : Rd) (most each : Int) : List ByteArray × Rd := let x := rdCount r most; let y := rdTextsGo x.1 each x.2; if y.2.e ≠ 0 then ([], y.2) else y
def rdEnd (r : Rd) : Rd := if r.e = 0 ∧ r.at_ < r.s.size then { r with e := 4 } else r

/-- Where a reader stands lies within its text; its text is no longer than a text may be. -/
def Rd.ok (r : Rd) : Prop := r.at_ ≤ r.s.size ∧ r.s.size ≤ 9223372036854775807

theorem Rd.ok_fail {r : Rd} {e : Int} (h : r.ok) : Rd.ok { r with e := e } := h
theorem rdByte_ok {r : Rd} (h : r.ok) : (rdByte r).2.ok := by
  unfold rdByte
  split
  · exact h
  · split
    · rename_i hlt; exact ⟨hlt, h.2⟩
    · exact h
theorem rdByte_lt (r : Rd) : (rdByte r).1 < 256 := by
  unfold rdByte
  split
  · simp
  · split
    · exact UInt8.toNat_lt _
    · simp
theorem rdByte_s (r : Rd) : (rdByte r).2.s = r.s := by
  unfold rdByte
  split
  · rfl
  · split <;> rfl

theorem pow7 (i : Nat) : 128 ^ i = 2 ^ (7 * i) := by rw [Nat.pow_mul]
theorem num_next {n c i : Nat} (hn : n < 128 ^ i) : n + c % 128 * 128 ^ i < 128 ^ (i + 1) := by
  have h1 : c % 128 * 128 ^ i ≤ 127 * 128 ^ i := Nat.mul_le_mul_right _ (by omega)
  rw [Nat.pow_succ]
  omega
theorem num_or {n c i : Nat} (hi : i ≤ 8) (hn : n < 128 ^ i) (h8 : i = 8 → c ≤ 63) :
    bits .or .i64 (n : Int) (wrap64 ((c : Int) % 128 * 2 ^ (7 * i))) = ((n + c % 128 * 128 ^ i : Nat) : Int) := by
  have hb : n + c % 128 * 128 ^ i < 9223372036854775808 := by
    by_cases h : i = 8
    · subst h
      have := h8 rfl
      have e : c % 128 = c := Nat.mod_eq_of_lt (by omega)
      rw [e]
      have e8 : 128 ^ 8 = 72057594037927936 := by decide
      rw [e8] at hn ⊢
      omega
    · have h1 := num_next (c := c) hn
      have h2 : 128 ^ (i + 1) ≤ 128 ^ 8 := Nat.pow_le_pow_right (by omega) (by omega)
      have e8 : 128 ^ 8 = 72057594037927936 := by decide
      omega
  have e : (c : Int) % 128 * 2 ^ (7 * i) = ((c % 128 * 128 ^ i : Nat) : Int) := by rw [pow7]; push_cast; rfl
  rw [e, IntWalk.wrap64_in _ ⟨by omega, by omega⟩, i64_or_nat _ _ (by omega) (by omega)]
  congr 1
  rw [pow7] at hn ⊢
  rw [Nat.or_comm, Nat.mul_comm, ← Nat.two_pow_add_eq_or_of_lt hn]
  omega

theorem num_or8 {n c : Nat} (hn : n < 128 ^ 8) (h8 : c ≤ 63) :
    bits .or .i64 (n : Int) ((c : Int) % 128 * 72057594037927936) = ((n + c % 128 * 128 ^ 8 : Nat) : Int) := by
  have h := num_or (Nat.le_refl 8) hn (fun _ => h8)
  rw [show (2 : Int) ^ (7 * 8) = 72057594037927936 by decide, IntWalk.wrap64_in _ ⟨by omega, by omega⟩] at h
  exact h

end Go.Proofs.YtjhbmcgaehpadaaDoor
