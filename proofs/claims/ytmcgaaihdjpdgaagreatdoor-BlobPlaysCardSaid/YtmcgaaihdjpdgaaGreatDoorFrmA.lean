/- Chapter 2 (frames), plain: the sum, bit by bit and byte by byte.; Chapter 2 (frames), plain: a frame, the frame with which bytes begin, all frames in bytes.; Chapter 2 (frames): the walks through turned, Add, Sum, four, number. -/
import Derived.Test.YtmcgaaihdjpdgaaGreatDoorTreeWB
import Derived.Laws.BitsAllLaws
import Derived.Test.YtmcgaaihdjpdgaaGreatDoorNumPlain
import Derived.Laws.IdiomStrings
import Derived.BigQuiet
import Derived.BigRegion
/- Chapter 2 (frames), plain: the sum, bit by bit and byte by byte. -/
namespace Go.Proofs.YtmcgaaihdjpdgaaGreatDoor
open Go.RowKit
set_option linter.unusedVariables false

/-- A register behind one bit. -/
def tur (r : Nat) : Nat := if r % 2 = 1 then (r / 2) ^^^ 3988292384 else r / 2
/-- The same, a bit of the text taken in. -/
def turR (r x : Nat) : Nat := if r % 2 + x = 1 then (r / 2) ^^^ 3988292384 else r / 2
theorem xor_lt32 {a b : Nat} (ha : a < 4294967296) (hb : b < 4294967296) : a ^^^ b < 4294967296 := Nat.xor_lt_two_pow (n := 32) ha hb
theorem tur_lt {r : Nat} (h : r < 4294967296) : tur r < 4294967296 := by
  unfold tur
  split
  · exact xor_lt32 (by omega) (by omega)
  · omega
theorem turR_lt {r x : Nat} (h : r < 4294967296) : turR r x < 4294967296 := by
  unfold turR
  split
  · exact xor_lt32 (by omega) (by omega)
  · omega
def turs : Nat → Nat → Nat
  | 0, r => r
  | k + 1, r => turs k (tur r)
theorem turs_lt : ∀ (k r : Nat), r < 4294967296 → turs k r < 4294967296
  | 0, _, h => h
  | k + 1, r, h => turs_lt k _ (tur_lt h)
theorem turs_succ : ∀ (k r : Nat), turs (k + 1) r = tur (turs k r)
  | 0, _ => rfl
  | k + 1, r => by rw [turs, turs_succ k, ← turs]
def tursR : Nat → Nat → Nat → Nat
  | 0, r, _ => r
  | k + 1, r, x => tursR k (turR r (x % 2)) (x / 2)
theorem tursR_lt : ∀ (k r x : Nat), r < 4294967296 → tursR k r x < 4294967296
  | 0, _, _, h => h
  | k + 1, r, x, h => tursR_lt k _ _ (turR_lt h)
theorem xor_mod2 (a b : Nat) : (a ^^^ b) % 2 = (a % 2 + b % 2) % 2 := by
  have h := Nat.xor_mod_two_pow (a := a) (b := b) (n := 1)
  simp only [Nat.pow_one] at h
  rw [h]
  rcases Nat.mod_two_eq_zero_or_one a with ha | ha <;> rcases Nat.mod_two_eq_zero_or_one b with hb | hb <;> rw [ha, hb] <;> rfl
theorem xor_div2 (a b : Nat) : (a ^^^ b) / 2 = a / 2 ^^^ b / 2 := by
  have h := Nat.xor_div_two_pow (a := a) (b := b) (n := 1)
  simpa only [Nat.pow_one] using h
theorem tur_xor (r x : Nat) : tur (r ^^^ x) = turR r (x % 2) ^^^ (x / 2) := by
  unfold tur turR
  rw [xor_mod2, xor_div2]
  have h1 := Nat.mod_lt r (show 2 > 0 by decide)
  have h2 := Nat.mod_lt x (show 2 > 0 by decide)
  by_cases h : r % 2 + x % 2 = 1
  · rw [if_pos (by omega), if_pos h, Nat.xor_assoc, Nat.xor_assoc, Nat.xor_comm (x / 2)]
  · rw [if_neg (by omega), if_neg h]
theorem turs_xor : ∀ (k r x : Nat), turs k (r ^^^ x) = tursR k r x ^^^ (x / 2 ^ k)
  | 0, r, x => by rw [turs, tursR, Nat.pow_zero, Nat.div_one]
  | k + 1, r, x => by
    rw [turs, tur_xor, turs_xor k, tursR, Nat.div_div_eq_div_mul, Nat.pow_succ, Nat.mul_comm (2 ^ k)]
/-- A register behind a byte. -/
def crcB (r : Nat) (c : UInt8) : Nat := turs 8 (r ^^^ c.toNat)
theorem crcB_is (r : Nat) (c : UInt8) : crcB r c = tursR 8 r c.toNat := by
  unfold crcB
  rw [turs_xor, Nat.div_eq_of_lt (UInt8.toNat_lt c), Nat.xor_zero]
theorem crcB_lt {r : Nat} (h : r < 4294967296) (c : UInt8) : crcB r c < 4294967296 := turs_lt _ _ (xor_lt32 h (by have := UInt8.toNat_lt c; omega))
def crcL (r : Nat) (l : List UInt8) : Nat := l.foldl crcB r
theorem crcL_lt : ∀ (l : List UInt8) {r : Nat}, r < 4294967296 → crcL r l < 4294967296
  | [], _, h => h
  | c :: l, _, h => crcL_lt l (crcB_lt h c)
theorem crcL_snoc {l : List UInt8} {k : Nat} {c : UInt8} {r : Nat} (h : l[k]? = some c) : crcL r (l.take (k + 1)) = crcB (crcL r (l.take k)) c := by
  rw [take_snoc h]
  unfold crcL
  rw [List.foldl_append]
  rfl
/-- A text's sum. -/
def sumC (l : List UInt8) : Nat := 4294967295 - crcL 4294967295 l
theorem sumC_lt (l : List UInt8) : sumC l < 4294967296 := by unfold sumC; omega
end Go.Proofs.YtmcgaaihdjpdgaaGreatDoor
/- Chapter 2 (frames), plain: a frame, the frame with which bytes begin, all frames in bytes. -/
namespace Go.Proofs.YtmcgaaihdjpdgaaGreatDoor
open Go.RowKit
set_option linter.unusedVariables false

/-- Four bytes as a number, the lowest first. -/
def num4 (l : List UInt8) : Nat := (bt l 0).toNat + 256 * (bt l 1).toNat + 65536 * (bt l 2).toNat + 16777216 * (bt l 3).toNat
theorem num4_lt (l : List UInt8) : num4 l < 4294967296 := by
  unfold num4
  have h0 := (bt l 0).toNat_lt
  have h1 := (bt l 1).toNat_lt
  have h2 := (bt l 2).toNat_lt
  have h3 := (bt l 3).toNat_lt
  omega
def fourL (n : Nat) : List UInt8 := [(n % 256).toUInt8, (n / 256 % 256).toUInt8, (n / 65536 % 256).toUInt8, (n / 16777216 % 256).toUInt8]
theorem num_four {n : Nat} (h : n < 4294967296) : num4 (fourL n) = n := by
  unfold num4 fourL bt
  simp only [List.getD_cons_zero, List.getD_cons_succ]
  rw [toUInt8_toNat (n % 256) (by omega), toUInt8_toNat (n / 256 % 256) (by omega), toUInt8_toNat (n / 65536 % 256) (by omega), toUInt8_toNat (n / 16777216 % 256) (by omega)]
  omega
def fourB (n : Nat) : ByteArray := ⟨(fourL n).toArray⟩
theorem fourB_size (n : Nat) : (fourB n).size = 4 := rfl
/-- A payload in a frame. -/
def frameL (s : List UInt8) : List UInt8 := [181, 126] ++ fourL s.length ++ fourL (sumC (fourL s.length ++ s)) ++ s
theorem frameL_len (s : List UInt8) : (frameL s).length = 10 + s.length := by unfold frameL; simp [fourL]; omega
/-- Wrong at its head: no frame begins here. -/
def badHead (s : ByteArray) : Prop := bt s.data.toList 0 ≠ 181 ∨ (1 < s.size ∧ bt s.data.toList 1 ≠ 126)
instance (s : ByteArray) : Decidable (badHead s) := by unfold badHead; infer_instance
/-- The payload of the frame with which bytes begin; its error. -/
def oneE (s : ByteArray) : Int :=
  if s.size = 0 then 3 else if badHead s then 5 else if s.size < 6 then 3 else if 65536 < num4 (s.extract 2 6).data.toList then 4
  else if s.size < 10 + num4 (s.extract 2 6).data.toList then 3
  else if sumC (s.extract 2 6 ++ s.extract 10 (10 + num4 (s.extract 2 6).data.toList)).data.toList ≠ num4 (s.extract 6 10).data.toList then 6 else 0
def oneN (s : ByteArray) : Nat := 10 + num4 (s.extract 2 6).data.toList
def oneP (s : ByteArray) : ByteArray := s.extract 10 (oneN s)
theorem oneE_cases (s : ByteArray) : oneE s = 0 ∨ oneE s = 3 ∨ oneE s = 4 ∨ oneE s = 5 ∨ oneE s = 6 := by
  unfold oneE
  repeat' split
  all_goals simp
theorem one_fits {s : ByteArray} (h : oneE s = 0) : oneN s ≤ s.size ∧ oneN s ≤ 65546 := by
  unfold oneE at h
  unfold oneN
  repeat' split at h
  all_goals omega
theorem oneP_size {s : ByteArray} (h : oneE s = 0) : (oneP s).size ≤ 65536 := by
  have := one_fits h
  unfold oneP
  rw [ByteArray.size_extract]
  omega
/-- All frames in bytes, from a place on. -/
def scanGo (s : ByteArray) : Nat → Nat → List ByteArray
  | 0, _ => []
  | f + 1, i => if i < s.size then
      (if oneE (s.extract i s.size) = 0 then oneP (s.extract i s.size) :: scanGo s f (i + oneN (s.extract i s.size))
       else if oneE (s.extract i s.size) = 3 then [] else scanGo s f (i + 1)) else []
theorem scanGo_more (s : ByteArray) : ∀ (f g i : Nat), s.size - i ≤ f → s.size - i ≤ g → scanGo s f i = scanGo s g i
  | 0, 0, i, _, _ => rfl
  | 0, g + 1, i, h, _ => by rw [scanGo, scanGo, if_neg (by omega)]
  | f + 1, 0, i, _, h => by rw [scanGo, scanGo, if_neg (by omega)]
  | f + 1, g + 1, i, h1, h2 => by
    rw [scanGo, scanGo]
    by_cases hi : i < s.size
    · rw [if_pos hi, if_pos hi]
      have hn : 10 ≤ oneN (s.extract i s.size) := by unfold oneN; omega
      rw [scanGo_more s f g (i + oneN (s.extract i s.size)) (by omega) (by omega), scanGo_more s f g (i + 1) (by omega) (by omega)]
    · rw [if_neg hi, if_neg hi]
def scanB (s : ByteArray) (i : Nat) : List ByteArray := scanGo s (s.size - i) i
theorem scan_end {s : ByteArray} {i : Nat} (h : ¬ i < s.size) : scanB s i = [] := by
  unfold scanB
  rw [show s.size - i = 0 by omega, scanGo]
theorem scan_ok {s : ByteArray} {i : Nat} (h : i < s.size) (e : oneE (s.extract i s.size) = 0) : scanB s i = oneP (s.extract i s.size) :: scanB s (i + oneN (s.extract i s.size)) := by
  unfold scanB
  rw [show s.size - i = (s.size - i - 1) + 1 by omega, scanGo, if_pos h, if_pos e]
  have hn : 10 ≤ oneN (s.extract i s.size) := by unfold oneN; omega
  rw [scanGo_more s _ (s.size - (i + oneN (s.extract i s.size))) _ (by omega) (by omega)]
theorem scan_short {s : ByteArray} {i : Nat} (h : i < s.size) (e : oneE (s.extract i s.size) = 3) : scanB s i = [] := by
  unfold scanB
  rw [show s.size - i = (s.size - i - 1) + 1 by omega, scanGo, if_pos h, if_neg (by rw [e]; decide), if_pos e]
theorem scan_on {s : ByteArray} {i : Nat} (h : i < s.size) (e0 : oneE (s.extract i s.size) ≠ 0) (e : oneE (s.extract i s.size) ≠ 3) : scanB s i = scanB s (i + 1) := by
  unfold scanB
  rw [show s.size - i = (s.size - i - 1) + 1 by omega, scanGo, if_pos h, if_neg e0, if_neg e]
  rw [scanGo_more s _ (s.size - (i + 1)) _ (by omega) (by omega)]
/-- Each payload has ten bytes of its own at least ahead of it. -/
theorem scan_len (s : ByteArray) : ∀ (f i : Nat), s.size - i ≤ f → (scanB s i).length ≤ s.size - i ∧ ∀ p ∈ scanB s i, p.size ≤ 65536
  | 0, i, h => by rw [scan_end (by omega)]; simp
  | f + 1, i, h => by
    by_cases hi : i < s.size
    · by_cases e0 : oneE (s.extract i s.size) = 0
      · rw [scan_ok hi e0]
        have hn : 10 ≤ oneN (s.extract i s.size) := by unfold oneN; omega
        obtain ⟨h1, h2⟩ := scan_len s f (i + oneN (s.extract i s.size)) (by omega)
        have h3 := one_fits e0
        rw [ByteArray.size_extract] at h3
        refine ⟨by rw [List.length_cons]; omega, fun p hp => ?_⟩
        rcases List.mem_cons.1 hp with rfl | hp
        · exact oneP_size e0
        · exact h2 p hp
      · by_cases e3 : oneE (s.extract i s.size) = 3
        · rw [scan_short hi e3]; simp
        · rw [scan_on hi e0 e3]
          obtain ⟨h1, h2⟩ := scan_len s f (i + 1) (by omega)
          exact ⟨by omega, h2⟩
    · rw [scan_end hi]; simp
theorem fm_ext (s : ByteArray) (a b : Nat) : (s.extract a b).data.toList = (s.data.toList.take b).drop a := by
  rw [ByteArray.data_extract, Array.toList_extract, List.extract_eq_take_drop, List.drop_take]
theorem fm_app (a b : ByteArray) : (a ++ b).data.toList = a.data.toList ++ b.data.toList := by
  rw [ByteArray.data_append, Array.toList_append]
/-- A frame is found again. -/
theorem one_frame (p r : List UInt8) (hp : p.length ≤ 65536) {s : ByteArray} (hs : s.data.toList = frameL p ++ r) : oneE s = 0 ∧ oneN s = 10 + p.length ∧ oneP s = ⟨p.toArray⟩ := by
  have hsz : s.size = 10 + p.length + r.length := by rw [bt_size, hs, List.length_append, frameL_len]
  obtain ⟨A, hA⟩ : ∃ A, A = fourL p.length := ⟨_, rfl⟩
  obtain ⟨C, hC⟩ : ∃ C, C = fourL (sumC (fourL p.length ++ p)) := ⟨_, rfl⟩
  have lA : A.length = 4 := by rw [hA]; rfl
  have lC : C.length = 4 := by rw [hC]; rfl
  have hs' : s.data.toList = [181, 126] ++ (A ++ (C ++ (p ++ r))) := by rw [hs, hA, hC]; unfold frameL; simp only [List.append_assoc]
  have x1 : (s.extract 2 6).data.toList = A := by
    rw [fm_ext, hs', List.take_append, List.drop_append]
    simp [lA]
  have x2 : (s.extract 6 10).data.toList = C := by
    rw [fm_ext, hs', show ([181, 126] ++ (A ++ (C ++ (p ++ r))) : List UInt8) = ([181, 126] ++ A) ++ (C ++ (p ++ r)) by simp only [List.append_assoc], List.take_append, List.drop_append]
    simp [lA, lC]
  have n1 : num4 (s.extract 2 6).data.toList = p.length := by rw [x1, hA]; exact num_four (by omega)
  have x3 : (s.extract 10 (10 + p.length)).data.toList = p := by
    rw [fm_ext, hs', show ([181, 126] ++ (A ++ (C ++ (p ++ r))) : List UInt8) = ([181, 126] ++ A ++ C) ++ (p ++ r) by simp only [List.append_assoc], List.take_append, List.drop_append]
    simp [lA, lC]
  have hN : oneN s = 10 + p.length := by unfold oneN; rw [n1]
  refine ⟨?_, hN, ?_⟩
  · have b0 : ¬ badHead s := by
      unfold badHead
      rw [hs']
      rintro (h | ⟨_, h⟩) <;> exact h rfl
    unfold oneE
    rw [if_neg (by omega), if_neg b0, if_neg (by omega), n1, if_neg (by omega), if_neg (by omega), if_neg]
    rw [fm_app, x1, x2, x3, hA, hC, num_four (sumC_lt _)]
    simp
  · unfold oneP
    rw [hN]
    exact ba_ext x3
/-- Payloads in frames, one behind the other. -/
def framesL (l : List ByteArray) : List UInt8 := (l.map fun p => frameL p.data.toList).flatten
theorem fm_drop (s : ByteArray) (i : Nat) : (s.extract i s.size).data.toList = s.data.toList.drop i := by
  rw [fm_ext, bt_size, List.take_length]
theorem scan_frames : ∀ (l : List ByteArray) (s : ByteArray) (i : Nat), (∀ p ∈ l, p.size ≤ 65536) → s.data.toList.drop i = framesL l → i ≤ s.size → scanB s i = l
  | [], s, i, _, h, hi => by
    have h2 := congrArg List.length h
    rw [List.length_drop, ← bt_size] at h2
    unfold framesL at h2
    simp at h2
    exact scan_end (by omega)
  | p :: l, s, i, hp, h, hi => by
    have hlen := congrArg List.length h
    have hfr : framesL (p :: l) = frameL p.data.toList ++ framesL l := by unfold framesL; rw [List.map_cons, List.flatten_cons]
    rw [hfr, List.length_append, frameL_len, List.length_drop, ← bt_size] at hlen
    have hpz := hp p (by simp)
    obtain ⟨h1, h2, h3⟩ := one_frame p.data.toList (framesL l) (by rw [← bt_size]; exact hpz) (s := s.extract i s.size) (by rw [fm_drop, h, hfr])
    rw [scan_ok (by omega) h1, h3, h2]
    have e : (⟨p.data.toList.toArray⟩ : ByteArray) = p := ba_ext rfl
    rw [e, scan_frames l s _ (fun q hq => hp q (by simp [hq])) ?_ (by omega)]
    rw [← List.drop_drop, h, hfr, ← frameL_len, List.drop_left]
/-- Bytes ahead that begin no frame are passed by. -/
theorem scan_noise (s : ByteArray) (m : Nat) (hm : m ≤ s.size) (hn : ∀ i, i < m → bt s.data.toList i ≠ 181) : ∀ (d i : Nat), m - i = d → i ≤ m → scanB s i = scanB s m
  | 0, i, h, hi => by rw [show i = m by omega]
  | d + 1, i, h, hi => by
    have hb : bt (s.extract i s.size).data.toList 0 ≠ 181 := by
      rw [fm_drop]
      have := hn i (by omega)
      unfold bt at this ⊢
      rw [List.getD_eq_getElem?_getD, List.getElem?_drop, Nat.add_zero, ← List.getD_eq_getElem?_getD]
      exact this
    have e : oneE (s.extract i s.size) = 5 := by
      unfold oneE
      rw [if_neg (by rw [ByteArray.size_extract]; omega), if_pos (.inl hb)]
    rw [scan_on (by omega) (by rw [e]; decide) (by rw [e]; decide)]
    exact scan_noise s m hm hn d (i + 1) (by omega) (by omega)
end Go.Proofs.YtmcgaaihdjpdgaaGreatDoor
/- Chapter 2 (frames): the walks through turned, Add, Sum, four, number. -/
namespace Go.Proofs.YtmcgaaihdjpdgaaGreatDoor
open Go.RowKit
set_option linter.unusedVariables false

theorem xor_all {r : Nat} (hr : r < 4294967296) : 4294967295 ^^^ r = 4294967295 - r := by
  apply Nat.eq_of_testBit_eq
  intro i
  rw [Nat.testBit_xor, show 4294967295 - r = 2 ^ 32 - (r + 1) by omega, Nat.testBit_two_pow_sub_succ (by omega), show 4294967295 = 2 ^ 32 - 1 by rfl, Nat.testBit_two_pow_sub_one]
  by_cases h : i < 32
  · simp [h]
  · have : r.testBit i = false := Nat.testBit_lt_two_pow (Nat.lt_of_lt_of_le hr (show 2 ^ 32 ≤ 2 ^ i from Nat.pow_le_pow_right (by decide) (by omega)))
    simp [h, this]
theorem not_u32 {r : Nat} (hr : r < 4294967296) : bits .xor .u32 IntKind.u32.max (r : Int) = ((4294967295 - r : Nat) : Int) := by
  have hm : IntKind.u32.max = ((4294967295 : Nat) : Int) := by rfl
  rw [hm, u32_xor_nat _ _ (by omega) hr, xor_all hr]
theorem join_i64 (i : Nat) (x y : Int) (hx₀ : 0 ≤ x) (hx : x < 2 ^ i) (hy : y % 2 ^ i = 0) (hy₀ : 0 ≤ y) (hy₁ : y < 2 ^ 62) (hx₁ : x < 2 ^ 62) : bits .or .i64 x y = x + y := by
  have h := bits_join .i64 62 (by decide) (fun n h0 h1 => by rw [IntKind.wrap_i64]; omega) i y x hy₀ hy hy₁ hx₀ hx hx₁
  rw [Int.add_comm, ← h]
  unfold bits
  simp only [BitVec.or_comm]
end Go.Proofs.YtmcgaaihdjpdgaaGreatDoor
