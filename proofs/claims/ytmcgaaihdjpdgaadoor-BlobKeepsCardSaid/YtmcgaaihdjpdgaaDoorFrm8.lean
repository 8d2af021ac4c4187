/- Chapter 2 (frames): the document's answer walked: bits, Add, Sum, number, One, Scan. -/
import Derived.Test.YtmcgaaihdjpdgaaDoorFrmC
namespace Go.Proofs.YtmcgaaihdjpdgaaDoor
open Go.RowKit
set_option linter.unusedVariables false

theorem infoIntF : (Tryd.prog.info? 3).map (fun i => (i.zero, i.size, i.bytes)) = some (some (.int .i64 0), 1, 8) := by kernel_rfl
/-- The bits of a number, the lowest first. -/
def bitsK : Nat → Nat → List Nat
  | 0, _ => []
  | k + 1, c => c % 2 :: bitsK k (c / 2)
theorem bitsK_len : ∀ k c, (bitsK k c).length = k
  | 0, _ => rfl
  | k + 1, c => by rw [bitsK, List.length_cons, bitsK_len k]
theorem bitsK_get : ∀ (n c k : Nat), k < n → (bitsK n c)[k]? = some (c / 2 ^ k % 2)
  | 0, c, k, h => absurd h (by omega)
  | n + 1, c, 0, _ => by rw [bitsK]; simp
  | n + 1, c, k + 1, h => by
    rw [bitsK, List.getElem?_cons_succ, bitsK_get n (c / 2) k (by omega), Nat.div_div_eq_div_mul, Nat.pow_succ, Nat.mul_comm (2 ^ k)]
def bitsL (l : List UInt8) : List Nat := (l.map fun c => bitsK 8 c.toNat).flatten
theorem bitsL_len : ∀ l : List UInt8, (bitsL l).length = 8 * l.length
  | [] => rfl
  | c :: l => by
    have ih := bitsL_len l
    unfold bitsL at ih ⊢
    rw [List.map_cons, List.flatten_cons, List.length_append, bitsK_len, ih, List.length_cons]
    omega
theorem bitsL_snoc {l : List UInt8} {k : Nat} {c : UInt8} (h : l[k]? = some c) : bitsL (l.take (k + 1)) = bitsL (l.take k) ++ bitsK 8 c.toNat := by
  rw [take_snoc h]; unfold bitsL; simp
theorem bits_one : ∀ k c, ∀ x ∈ bitsK k c, x < 2
  | 0, c, x, h => by simp [bitsK] at h
  | k + 1, c, x, h => by
    rw [bitsK] at h
    rcases List.mem_cons.1 h with rfl | h
    · omega
    · exact bits_one k _ x h
theorem bitsL_one {l : List UInt8} : ∀ x ∈ bitsL l, x < 2 := by
  intro x h
  obtain ⟨r, hr, hx⟩ := List.mem_flatten.1 h
  obtain ⟨c, _, rfl⟩ := List.mem_map.1 hr
  exact bits_one _ _ x hx
theorem tursR_bits : ∀ (k r x : Nat), (bitsK k x).foldl turR r = tursR k r x
  | 0, _, _ => rfl
  | k + 1, r, x => by rw [bitsK, List.foldl_cons, tursR_bits k, tursR]
theorem crc_bits : ∀ (l : List UInt8) (r : Nat), (bitsL l).foldl turR r = crcL r l
  | [], _ => rfl
  | c :: l, r => by
    have ih := crc_bits l
    unfold bitsL at ih ⊢
    rw [List.map_cons, List.flatten_cons, List.foldl_append, tursR_bits, ih, ← crcB_is]
    rfl
def icellsN (l : List Nat) : List Value := l.map fun (x : Nat) => Value.int .i64 (x : Int)
set_option maxHeartbeats 2000000 in
set_option maxRecDepth 100000 in
theorem bits_any (s : ByteArray) (w : World) (hs : s.size ≤ 100000000) : Calls Tryd.prog 106 #[.string s] w fun e w' => ∃ A c, e = .returned (.slice A (8 * s.size) c) ∧ Arr w' w'.heap.size 1 A (8 * s.size) (icellsN (bitsL s.data.toList)) ∧ Below w.heap.size w w' := by
  obtain ⟨i2, fi0, fz0, fz1, fz2⟩ := info_parts infoIntF
  go_enter Tryd.func106, Tryd.ntmps106
  go_wp2
  go_loopw [3, 4] (fun vo vi wr => ∃ i : Nat, i ≤ s.size ∧ vi = .int .i64 i ∧ wr.ownsRow w.heap.size 3 1 vo (8 * i) (icellsN (bitsL (s.data.toList.take i))) ∧ Below w.heap.size w wr) (fun _ vi _ => s.size - (intOf vi).toNat)
  case atStart => exact ⟨0, Nat.zero_le _, rfl, by rw [List.take_zero]; exact World.ownsRow_nil _ _ _ _, Below.refl _ _⟩
  case round =>
    obtain ⟨i, hi, rfl, hown, hB⟩ := hrel
    by_cases hlt : i < s.size
    · have g1 := bt_get s i hlt
      have i1 : (i : Int) < s.size := by omega
      have hsn := bitsL_snoc (l := s.data.toList) (k := i) (c := bt s.data.toList i) (by unfold bt; rw [List.getD_eq_getElem?_getD, List.getElem?_eq_getElem (by rw [← bt_size]; exact hlt)]; rfl)
      have hc := (bt s.data.toList i).toNat_lt
      have HSN := Lib.hid hsn
      obtain ⟨X, hX⟩ : ∃ X, bitsL (s.data.toList.take i) = X := ⟨_, rfl⟩
      rw [hX] at hown HSN
      generalize bt s.data.toList i = cc at *
      obtain ⟨C, hC⟩ : ∃ C, cc.toNat = C := ⟨_, rfl⟩
      rw [hC] at hc HSN
      have g1' : (s[i].toNat : Int) = C := by rw [g1, hC]
      have h0 := hown
      clear hsn hX
      go_wp2
      go_loopw [3, 5, 6] (fun vo vc vk wr => ∃ (k : Nat), k ≤ 8 ∧ vk = .int .i64 k ∧ vc = .int .i64 ((C / 2 ^ k : Nat) : Int) ∧ wr.ownsRow w.heap.size 3 1 vo (8 * i + k) (icellsN (X ++ (bitsK 8 C).take k)) ∧ Below w.heap.size w wr) (fun _ _ vk _ => 8 - (intOf vk).toNat)
      case atStart => exact ⟨0, Nat.zero_le _, rfl, by simp, by rw [List.take_zero, List.append_nil]; exact h0, hB⟩
      case round =>
        obtain ⟨k, hk, rfl, rfl, hown2, hB2⟩ := hrel
        by_cases hk8 : k < 8
        · have hsn2 := take_snoc (bitsK_get 8 C k hk8)
          have HSN2 := Lib.hid hsn2
          have hB2s := hB2.size
          obtain ⟨Y, hY⟩ : ∃ Y, C / 2 ^ k = Y := ⟨_, rfl⟩
          have hY2 : C / 2 ^ (k + 1) = Y / 2 := by rw [← hY, Nat.pow_succ, Nat.div_div_eq_div_mul]
          have HY2 := Lib.hid hY2
          have hYl : Y < 256 := by rw [← hY]; exact Nat.lt_of_le_of_lt (Nat.div_le_self _ _) (by omega)
          rw [hY] at HSN2 ⊢
          have HM := Lib.hid (show ((Y : Int) % 2) = ((Y % 2 : Nat) : Int) by omega)
          have k8 : (k : Int) < 8 := by omega
          clear hsn2 hY hY2 h0 hown
          go_wp2_with (at_builtin; refine wpList_push rfl _ _ _ rfl Tryd.underlying143 fi0 fz0 fz1 fz2 rfl (by decide) hown2 rfl rfl rfl (by simp [Value.oneCell']) (by unfold maxLen; omega) (by omega) hB2s ?_; intro g6 cap6 w6 hown6 hgr6 hat6; have hB6 := hB2.grown hgr6 hB2s (fun j hj => (hown2.lt j hj).1))
          go_roundw
          case rel => exact ⟨k + 1, by omega, by go_num, by rw [HY2.out]; congr 1, by
            rw [HSN2.out, ← List.append_assoc]
            unfold icellsN at hown6 ⊢
            rw [List.map_append]
            first
              | exact hown6
              | (rw [HM.out] at hown6; exact hown6), hB6⟩
          case measure => simp [intOf] <;> omega
        · have hke : k = 8 := by omega
          subst hke
          rw [List.take_of_length_le (by rw [bitsK_len]; omega), ← HSN.out] at hown2
          have HOW := Lib.hid hown2
          clear hown2 h0 hown
          go_wp2
          go_roundw
          case rel => exact ⟨i + 1, by omega, by go_num, HOW.out, hB2⟩
          case measure => simp [intOf] <;> omega
    · have hie : i = s.size := by omega
      subst hie
      rw [bt_size, List.take_length, ← bt_size] at hown
      obtain ⟨A', c', rfl, _, ha', _⟩ := own_arr hown
      have HA := Lib.hid ha'
      clear hown ha'
      go_wp2
      go_ret
      exact ⟨A', c', rfl, HA.out, hB⟩
theorem i64_xor_nat (a b : Nat) (ha : a < 4294967296) (hb : b < 4294967296) : bits .xor .i64 (a : Int) (b : Int) = ((a ^^^ b : Nat) : Int) := by
  have hx := xor_lt32 ha hb
  show IntKind.i64.wrap ((BitVec.ofInt 64 (a : Int) ^^^ BitVec.ofInt 64 (b : Int)).toNat : Int) = _
  rw [BitVec.toNat_xor, BitVec.ofInt_natCast, BitVec.ofInt_natCast, BitVec.toNat_ofNat, BitVec.toNat_ofNat, Nat.mod_eq_of_lt (by omega), Nat.mod_eq_of_lt (by omega), IntKind.wrap_i64]
  omega
set_option maxHeartbeats 2000000 in
set_option maxRecDepth 100000 in
theorem radd_any (s : ByteArray) (w : World) (hs : s.size ≤ 100000000) : Calls Tryd.prog 91 #[.int .i64 0, .string s] w fun e w' => e = .returned (.int .i64 (sumC s.data.toList : Nat)) ∧ Below w.heap.size w w' := by
  have HB := Lib.hid (bits_any s w hs)
  have hone : ∀ x ∈ bitsL s.data.toList, x < 2 := bitsL_one
  have hlen : (bitsL s.data.toList).length = 8 * s.size := by rw [bitsL_len, bt_size]
  have hcrc := crc_bits s.data.toList 4294967295
  unfold sumC
  rw [← hcrc]
  generalize bitsL s.data.toList = L at *
  obtain ⟨N, hN⟩ : ∃ N, 8 * s.size = N := ⟨_, rfl⟩
  rw [hN] at HB hlen
  have hNl : N ≤ 800000000 := by omega
  have HONE := Lib.hid hone
  have e0 : bits .and .i64 0 4294967295 = 0 := by rfl
  clear hcrc hone hN
  go_enter Tryd.func91, Tryd.ntmps91
  go_wp2_with (go_at_call 106; (with_reducible refine (HB.out).mono ?_); rintro e w2 ⟨A, c, rfl, ha, hb2⟩; have HA := Lib.hid ha; clear ha)
  go_loopw [5, 7] (fun vr vi wr => ∃ (i r : Nat), i ≤ N ∧ vi = .int .i64 i ∧ vr = .int .i64 r ∧ r < 4294967296 ∧ Hid (r = (L.take i).foldl turR 4294967295) ∧ w2 = wr) (fun _ vi _ => N - (intOf vi).toNat)
  case atStart => exact ⟨0, 4294967295, Nat.zero_le _, rfl, rfl, by decide, Lib.hid rfl, rfl⟩
  case round =>
    obtain ⟨i, r, hi, rfl, rfl, hr, HR, rfl⟩ := hrel
    by_cases hlt : i < N
    · obtain ⟨x, hx⟩ : ∃ x, L[i]? = some x := ⟨_, List.getElem?_eq_getElem (by omega)⟩
      obtain ⟨bA, oA, rfl, hbA, hcell⟩ := HA.out.2 (by omega)
      have c0 := hcell i (.int .i64 x) (by unfold icellsN; rw [List.getElem?_map, hx]; rfl)
      have i1 : (i : Int) < N := by omega
      have hx2 := HONE.out x (List.mem_of_getElem? hx)
      have hst : Hid (turR r x = (L.take (i + 1)).foldl turR 4294967295) := Lib.hid (by rw [take_snoc hx, List.foldl_append, ← HR.out]; rfl)
      have hl2 := turR_lt (x := x) hr
      have hxr : bits .xor .i64 ((r : Int) / 2) 3988292384 = ((r / 2 ^^^ 3988292384 : Nat) : Int) := i64_xor_nat (r / 2) 3988292384 (by omega) (by omega)
      by_cases hodd : r % 2 + x = 1
      · have ht : turR r x = r / 2 ^^^ 3988292384 := by unfold turR; rw [if_pos hodd]
        rw [ht] at hst hl2
        generalize r / 2 ^^^ 3988292384 = X at *
        have hsum2 : (r : Int) % 2 + (x : Int) = 1 := by omega
        clear HR hcell hx ht
        go_wp2
        go_roundw
        case rel => exact ⟨i + 1, X, by omega, by go_num, rfl, hl2, hst, by trivial⟩
        case measure => simp [intOf] <;> omega
      · have ht : turR r x = r / 2 := by unfold turR; rw [if_neg hodd]
        rw [ht] at hst hl2
        have hsum2 : ¬ (r : Int) % 2 + (x : Int) = 1 := by omega
        have hsum3 : ((r : Int) % 2 + (x : Int) == 1) = false := by rw [beq_eq_false_iff_ne]; exact hsum2
        clear HR hcell hx ht hxr
        go_wp2
        go_roundw
        case rel => exact ⟨i + 1, r / 2, by omega, by go_num, by congr 1, hl2, hst, by trivial⟩
        case measure => simp [intOf] <;> omega
    · have hie : i = N := by omega
      subst hie
      have HR2 : Hid (r = L.foldl turR 4294967295) := Lib.hid (by rw [HR.out, List.take_of_length_le (by omega)])
      clear HR
      go_wp2
      go_ret
      exact ⟨by rw [← HR2.out]; go_num, hb2⟩
set_option maxRecDepth 100000 in
theorem rsum_any (s : ByteArray) (w : World) (hs : s.size ≤ 100000000) : Calls Tryd.prog 72 #[.string s] w fun e w' => e = .returned (.int .i64 (sumC s.data.toList : Nat)) ∧ Below w.heap.size w w' := by
  have H := Lib.hid (radd_any s w hs)
  go_enter Tryd.func72, Tryd.ntmps72
  go_wp2_with (go_at_call 91; (with_reducible refine (H.out).mono ?_); rintro e w2 ⟨rfl, hb2⟩)
  go_ret
  exact ⟨rfl, hb2⟩
/-- A number by its last bytes. -/
def numR (l : List UInt8) : Nat → Nat
  | 0 => 0
  | k + 1 => 256 * numR l k + (bt l (3 - k)).toNat
theorem numR_four (l : List UInt8) : numR l 4 = num4 l := by
  unfold num4
  rw [numR, numR, numR, numR, numR]
  show 256 * (256 * (256 * (256 * 0 + (bt l 3).toNat) + (bt l 2).toNat) + (bt l 1).toNat) + (bt l 0).toNat = _
  omega
set_option maxHeartbeats 1000000 in
set_option maxRecDepth 100000 in
theorem rnum_any (t : ByteArray) (w : World) (ht : t.size = 4) : Calls Tryd.prog 71 #[.string t] w fun e w' => e = .returned (.int .i64 (num4 t.data.toList : Nat)) ∧ w' = w := by
  rw [← numR_four]
  have HT := Lib.hid ht
  clear ht
  go_enter Tryd.func71, Tryd.ntmps71
  go_wp2
  go_loopw [3, 4] (fun vn vi wr => ∃ (k : Nat), k ≤ 4 ∧ vi = .int .i64 (3 - (k : Int)) ∧ vn = .int .i64 (numR t.data.toList k : Nat) ∧ Hid (numR t.data.toList k < 256 ^ k) ∧ w = wr) (fun _ vi _ => (intOf vi + 1).toNat)
  case atStart => exact ⟨0, Nat.zero_le _, rfl, rfl, Lib.hid (show 0 < 1 by decide), rfl⟩
  case round =>
    obtain ⟨k, hk, rfl, rfl, HB, rfl⟩ := hrel
    rcases (by omega : k = 0 ∨ k = 1 ∨ k = 2 ∨ k = 3 ∨ k = 4) with rfl | rfl | rfl | rfl | rfl
    · have g1 := bt_get t 3 (by rw [HT.out]; decide)
      have i1 : (3 : Int) < t.size := by rw [HT.out]; decide
      have hn := HB.out
      have hc := (bt t.data.toList 3).toNat_lt
      have hst : Hid (numR t.data.toList 1 = 256 * numR t.data.toList 0 + (bt t.data.toList 3).toNat) := Lib.hid rfl
      generalize numR t.data.toList 0 = N at *
      generalize bt t.data.toList 3 = c at *
      clear HB
      go_wp2
      go_roundw
      case rel => exact ⟨1, by decide, by go_num, by rw [hst.out]; go_num, Lib.hid (by rw [hst.out]; simp at hn; omega), by trivial⟩
      case measure => simp [intOf] <;> omega
    · have g1 := bt_get t 2 (by rw [HT.out]; decide)
      have i1 : (2 : Int) < t.size := by rw [HT.out]; decide
      have hn := HB.out
      have hc := (bt t.data.toList 2).toNat_lt
      have hst : Hid (numR t.data.toList 2 = 256 * numR t.data.toList 1 + (bt t.data.toList 2).toNat) := Lib.hid rfl
      generalize numR t.data.toList 1 = N at *
      generalize bt t.data.toList 2 = c at *
      clear HB
      go_wp2
      go_roundw
      case rel => exact ⟨2, by decide, by go_num, by rw [hst.out]; go_num, Lib.hid (by rw [hst.out]; simp at hn; omega), by trivial⟩
      case measure => simp [intOf] <;> omega
    · have g1 := bt_get t 1 (by rw [HT.out]; decide)
      have i1 : (1 : Int) < t.size := by rw [HT.out]; decide
      have hn := HB.out
      have hc := (bt t.data.toList 1).toNat_lt
      have hst : Hid (numR t.data.toList 3 = 256 * numR t.data.toList 2 + (bt t.data.toList 1).toNat) := Lib.hid rfl
      generalize numR t.data.toList 2 = N at *
      generalize bt t.data.toList 1 = c at *
      clear HB
      go_wp2
      go_roundw
      case rel => exact ⟨3, by decide, by go_num, by rw [hst.out]; go_num, Lib.hid (by rw [hst.out]; simp at hn; omega), by trivial⟩
      case measure => simp [intOf] <;> omega
    · have g1 := bt_get t 0 (by rw [HT.out]; decide)
      have i1 : 0 < t.size := by rw [HT.out]; decide
      have hn := HB.out
      have hc := (bt t.data.toList 0).toNat_lt
      have hst : Hid (numR t.data.toList 4 = 256 * numR t.data.toList 3 + (bt t.data.toList 0).toNat) := Lib.hid rfl
      generalize numR t.data.toList 3 = N at *
      generalize bt t.data.toList 0 = c at *
      clear HB
      go_wp2
      go_roundw
      case rel => exact ⟨4, by decide, by go_num, by rw [hst.out]; go_num, Lib.hid (by rw [hst.out]; simp at hn; omega), by trivial⟩
      case measure => simp [intOf] <;> omega
    · clear HB
      go_wp2
      go_ret
      exact ⟨rfl, by trivial⟩
end Go.Proofs.YtmcgaaihdjpdgaaDoor
