/- Chapter 2 (frames): the document's answer walked: bits, Add, Sum, number, One, Scan. -/
import Derived.Test.YtmcgaaihdjpdgaaGreatDoorFrmC
namespace Go.Proofs.YtmcgaaihdjpdgaaGreatDoor
open Go.RowKit
set_option linter.unusedVariables false

theorem infoIntF : (Tryz.prog.info? 3).map (fun i => (i.zero, i.size, i.bytes)) = some (some (.int .i64 0), 1, 8) := by kernel_rfl
/-- The bits of a number, the lowest first. -/
def bitsK : Nat → Nat → List Nat
  | 0, _ => []
  | k + 1, c => c % 2 :: bitsK k (c / 2)
theorem bitsK_len : ∀ k c, (bitsK k c).length = k
  | 0, _ => rfl
  | k + 1, c => by rw [bitsK, List.length_cons, bitsK_len k]
theorem bitsK_get : ∀ (n c k : Nat), k < n → (bitsK n c)[k]? = some (c / 2 ^ k % 2)
  | 0, c, k, h => absurd h (by omega)
  | n + 1, c, 0, _ => by rw [bitsK]; simp
  | n + 1, c, k + 1, h => by
    rw [bitsK, List.getElem?_cons_succ, bitsK_get n (c / 2) k (by omega), Nat.div_div_eq_div_mul, Nat.pow_succ, Nat.mul_comm (2 ^ k)]
def bitsL (l : List UInt8) : List Nat := (l.map fun c => bitsK 8 c.toNat).flatten
theorem bitsL_len : ∀ l : List UInt8, (bitsL l).length = 8 * l.length
  | [] => rfl
  | c :: l => by
    have ih := bitsL_len l
    unfold bitsL at ih ⊢
    rw [List.map_cons, List.flatten_cons, List.length_append, bitsK_len, ih, List.length_cons]
    omega
theorem bitsL_snoc {l : List UInt8} {k : Nat} {c : UInt8} (h : l[k]? = some c) : bitsL (l.take (k + 1)) = bitsL (l.take k) ++ bitsK 8 c.toNat := by
  rw [take_snoc h]; unfold bitsL; simp
theorem bits_one : ∀ k c, ∀ x ∈ bitsK k c, x < 2
  | 0, c, x, h => by simp [bitsK] at h
  | k + 1, c, x, h => by
    rw [bitsK] at h
    rcases List.mem_cons.1 h with rfl | h
    · omega
    · exact bits_one k _ x h
theorem bitsL_one {l : List UInt8} : ∀ x ∈ bitsL l, x < 2 := by
  intro x h
  obtain ⟨r, hr, hx⟩ := List.mem_flatten.1 h
  obtain ⟨c, _, rfl⟩ := List.mem_map.1 hr
  exact bits_one _ _ x hx
theorem tursR_bits : ∀ (k r x : Nat), (bitsK k x).foldl turR r = tursR k r x
  | 0, _, _ => rfl
  | k + 1, r, x => by rw [bitsK, List.foldl_cons, tursR_bits k, tursR]
theorem crc_bits : ∀ (l : List UInt8) (r : Nat), (bitsL l).foldl turR r = crcL r l
  | [], _ => rfl
  | c :: l, r => by
    have ih := crc_bits l
    unfold bitsL at ih ⊢
    rw [List.map_cons, List.flatten_cons, List.foldl_append, tursR_bits, ih, ← crcB_is]
    rfl
def icellsN (l : List Nat) : List Value := l.map fun (x : Nat) => Value.int .i64 (x : Int)
theorem i64_xor_nat (a b : Nat) (ha : a < 4294967296) (hb : b < 4294967296) : bits .xor .i64 (a : Int) (b : Int) = ((a ^^^ b : Nat) : Int) := by
  have hx := xor_lt32 ha hb
  show IntKind.i64.wrap ((BitVec.ofInt 64 (a : Int) ^^^ BitVec.ofInt 64 (b : Int)).toNat : Int) = _
  rw [BitVec.toNat_xor, BitVec.ofInt_natCast, BitVec.ofInt_natCast, BitVec.toNat_ofNat, BitVec.toNat_ofNat, Nat.mod_eq_of_lt (by omega), Nat.mod_eq_of_lt (by omega), IntKind.wrap_i64]
  omega
/-- A number by its last bytes. -/
def numR (l : List UInt8) : Nat → Nat
  | 0 => 0
  | k + 1 => 256 * numR l k + (bt l (3 - k)).toNat
theorem numR_four (l : List UInt8) : numR l 4 = num4 l := by
  unfold num4
  rw [numR, numR, numR, numR, numR]
  show 256 * (256 * (256 * (256 * 0 + (bt l 3).toNat) + (bt l 2).toNat) + (bt l 1).toNat) + (bt l 0).toNat = _
  omega
end Go.Proofs.YtmcgaaihdjpdgaaGreatDoor
