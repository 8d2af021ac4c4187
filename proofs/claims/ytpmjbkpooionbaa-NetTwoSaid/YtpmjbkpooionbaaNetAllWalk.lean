/- The walks of the law NetAll and of the laws' example. -/
import Derived.Test.YtpmjbkpooionbaaNetSwap
set_option linter.unusedVariables false
namespace Go.Proofs.Ytpmjbkpooionbaa
open Go.RowKit

theorem ns_ge {w : World} {base b ch : Nat} {V : Value} {L : List ByteArray} {sent lost : Nat} (h : NetAt w base b ch V L sent lost) : ∀ k, NS b ch V k → base ≤ k := by
  intro k hk
  rcases hk with rfl | rfl | hk
  · exact h.hb
  · exact h.hc
  · rcases h.own.2 with ⟨rfl, _⟩ | ⟨g, cap, cur, rfl, hb, _⟩
    · cases hk
    · injection hk with hk
      subst hk
      exact hb
/-- A net's step is a step below what was there ahead of the net. -/
theorem NetAt.step {w0 w w' : World} {base b ch : Nat} {V : Value} {L : List ByteArray} {sent lost : Nat} (hB : Below base w0 w) (h : NetAt w base b ch V L sent lost) (hbs : base ≤ w0.heap.size) (f : Fr (NS b ch V) w w') : Below base w0 w' :=
  hB.trans (Fr.below f (Nat.le_trans hbs hB.size) (ns_ge h))
theorem NetAt.step1 {w0 w w' : World} {base b ch : Nat} {V : Value} {L : List ByteArray} {sent lost : Nat} (hB : Below base w0 w) (h : NetAt w base b ch V L sent lost) (hbs : base ≤ w0.heap.size) (f : Fr (fun k => k = b) w w') : Below base w0 w' :=
  hB.trans (Fr.below f (Nat.le_trans hbs hB.size) (fun k hk => by rw [hk]; exact h.hb))
theorem net_takeX (base b ch : Nat) (V : Value) (L : List ByteArray) (sent lost : Nat) (i : Nat) (x : ByteArray) (w : World) (h : NetAt w base b ch V L sent lost) (hl : L.length ≤ 4096) (hx : L[i]? = some x) :
    Calls Try.prog 10 #[.pointer (some ⟨b, 0, none⟩), .int .i64 i] w fun e w' => e = .returned (.tuple #[.string x, .int .i64 0]) ∧ ∃ V', NetAt w' base b ch V' (L.eraseIdx i) sent lost ∧ Fr (NS b ch V) w w' ∧ V'.ownBlock = V.ownBlock := by
  have hi : i < L.length := by
    rcases Nat.lt_or_ge i L.length with h' | h'
    · exact h'
    · rw [List.getElem?_eq_none h'] at hx; cases hx
  have := net_take base b ch V L sent lost i w h hl hi
  rw [(peek_ok hx).1] at this
  exact this

set_option maxHeartbeats 1000000 in
set_option maxRecDepth 100000 in
theorem awake_any (w : World) : Calls Try.prog 13 #[] w fun e w' => e = .returned (.bool true) ∧ Below w.heap.size w w' := by
  go_enter Try.func13, Try.ntmps13
  go_wp2_with (first
    | (go_at_call 8; refine (net_new _).mono ?_; rintro e w1 ⟨rfl, hN, hB⟩)
    | (go_at_call 9; refine (net_send _ _ _ _ _ _ _ _ _ hN hB.size (by simp) (by omega)).mono ?_; rintro e w2 ⟨rfl, V2, hN2, hf2, _⟩; have hB := hN.step hB (Nat.le_refl _) hf2; have hN := hN2; clear hN2 hf2)
    | (go_at_call 21; refine (net_swap _ _ _ _ _ _ _ 0 1 _ _ _ hN (by simp) rfl rfl (by omega)).mono ?_; rintro e w3 ⟨rfl, hN3, hf3⟩; have hB := hN.step hB (Nat.le_refl _) hf3; have hN := hN3; clear hN3 hf3)
    | (go_at_call 10; refine (net_takeX _ _ _ _ _ _ _ 0 _ _ hN (by simp) rfl).mono ?_; rintro e w4 ⟨rfl, V4, hN4, hf4, _⟩; have hB := hN.step hB (Nat.le_refl _) hf4; have hN := hN4; clear hN4 hf4))
  go_ret
  exact ⟨rfl, hB⟩


theorem drop_next {l : List ByteArray} {k n : Nat} {x : ByteArray} (hx : l[k]? = some x) (hn : k < n) : ((l.take n).drop k)[0]? = some x ∧ ((l.take n).drop k).eraseIdx 0 = (l.take n).drop (k + 1) := by
  have hk : k < (l.take n).length := by
    rcases Nat.lt_or_ge k l.length with h | h
    · rw [List.length_take]; omega
    · rw [List.getElem?_eq_none h] at hx; cases hx
  constructor
  · rw [List.getElem?_drop, Nat.add_zero, List.getElem?_take_of_lt hn, hx]
  · rw [List.drop_eq_getElem_cons hk]
    rfl

set_option maxHeartbeats 1000000 in
set_option maxRecDepth 100000 in
theorem law_all (A : Option Addr) (c : Nat) (l : List ByteArray) (w : World) (hl : l.length * 16 ≤ 140737488351232) (hb : ∀ x ∈ l, x.size ≤ 9223372036854775807) (harr : Arr w w.heap.size 1 A l.length (l.map Value.string)) :
    Calls Try.prog 3 #[.slice A l.length c] w fun e w' => e = .returned (.bool true) ∧ Below w.heap.size w w' := by
  go_enter Try.func3, Try.ntmps3
  go_wp2_with (first | (go_at_call 8; refine (net_new _).mono ?_; rintro e w1 ⟨rfl, hN, hB⟩))
  go_loopw [4] (fun v4 wr => ∃ (k : Nat) (V : Value), k ≤ l.length ∧ k ≤ 200 ∧ v4 = .int .i64 k ∧ NetAt wr w.heap.size (w.heap.size + 1) w.heap.size V (l.take k) k 0 ∧ Below w.heap.size w wr) (fun v4 _ => l.length - (intOf v4).toNat)
  case atStart => exact ⟨0, _, Nat.zero_le _, Nat.zero_le _, rfl, by simpa using hN, hB⟩
  case round =>
    clear hN hB
    obtain ⟨k, V, hk, h200, rfl, hN, hB⟩ := hrel
    by_cases hlt : k < l.length ∧ k < 200
    · obtain ⟨hlt, h60⟩ := hlt
      obtain ⟨x, hx⟩ : ∃ x, l[k]? = some x := ⟨_, List.getElem?_eq_getElem hlt⟩
      obtain ⟨ab, ao, rfl, hab, hcell⟩ := harr.2 (by omega)
      have hc := hB.cell (p := ⟨ab, ao + k, none⟩) hab
      rw [hcell k (.string x) (by simp [hx])] at hc
      have htk : l.take k ++ [x] = l.take (k + 1) := by rw [List.take_add_one, hx]; rfl
      have HX := Lib.hid htk
      have hlen : (l.take k).length = k := by rw [List.length_take]; omega
      clear hcell harr hx htk
      go_wp2_with (go_at_call 9; refine (net_send _ _ _ _ _ _ _ _ _ hN hB.size (by omega) (by omega)).mono ?_; rintro e w2 ⟨rfl, V2, hN2, hf2, _⟩; have hB := hN.step hB (Nat.le_refl _) hf2)
      rw [HX.out] at hN2
      go_roundw
      case rel => exact ⟨k + 1, V2, by omega, by omega, by go_num, hN2, hB⟩
      case measure => simp [intOf]; omega
    · have hfin : k = l.length ∨ k = 200 := by omega
      by_cases h1 : k < l.length
      · have h2 : ¬ k < 200 := fun h => hlt ⟨h1, h⟩
        go_wp2_with fail
        go_loopw [5] (fun v5 wr => ∃ (j : Nat) (V : Value), j ≤ k ∧ v5 = .int .i64 j ∧ NetAt wr w.heap.size (w.heap.size + 1) w.heap.size V ((l.take k).drop j) k 0 ∧ Below w.heap.size w wr) (fun v5 _ => k - (intOf v5).toNat)
        case atStart => exact ⟨0, _, Nat.zero_le _, rfl, by simpa using hN, hB⟩
        case round =>
          clear hN hB
          obtain ⟨j, V, hj, rfl, hN, hB⟩ := hrel
          by_cases hjk : j < k
          · have j1 : j < l.length := by omega
            have j2 : j < 200 := by omega
            obtain ⟨x, hx⟩ : ∃ x, l[j]? = some x := ⟨_, List.getElem?_eq_getElem j1⟩
            obtain ⟨ab, ao, rfl, hab, hcell⟩ := harr.2 (by omega)
            have hcx := hcell j (.string x) (by simp [hx])
            obtain ⟨d1, d2⟩ := drop_next hx hjk
            have HX := Lib.hid d2
            have hlen : ((l.take k).drop j).length ≤ 4096 := by rw [List.length_drop, List.length_take]; omega
            clear hcell harr hx d2
            go_wp2_with (go_at_call 10; refine (net_takeX _ _ _ _ _ _ _ 0 x _ hN hlen d1).mono ?_; rintro e w2 ⟨rfl, V2, hN2, hf2, _⟩; have hB := hN.step hB (Nat.le_refl _) hf2; have hc := (hB.cell (p := ⟨ab, ao + j, none⟩) hab).trans hcx)
            rw [HX.out] at hN2
            go_roundw
            case rel => exact ⟨j + 1, V2, by omega, by go_num, hN2, hB⟩
            case measure => simp [intOf]; omega
          · obtain rfl : j = k := by omega
            have he : (l.take j).drop j = [] := by rw [List.drop_eq_nil_iff, List.length_take]; omega
            rw [he] at hN
            clear he harr
            go_wp2_with (first | (go_at_call 13; refine (awake_any _).mono ?_; rintro e w10 ⟨rfl, hb3⟩; have hB := hB.trans (hb3.mono hB.size); clear hb3) | (go_at_call 10; refine (net_take_no _ _ _ _ _ _ _ 0 _ hN (by simp) (by simp) (by omega) (by omega)).mono ?_; rintro e w2 ⟨rfl, rfl⟩) | (go_at_call 11; refine (net_len _ _ _ _ _ _ _ _ hN).mono ?_; rintro e w3 ⟨rfl, rfl⟩) | (go_at_call 12; refine (net_clear _ _ _ _ _ _ _ _ hN).mono ?_; rintro e w4 ⟨rfl, hN4, hf4⟩; have hB := hN.step1 hB (Nat.le_refl _) hf4))
            go_ret
            exact ⟨rfl, hB⟩
      · go_wp2_with fail
        go_loopw [5] (fun v5 wr => ∃ (j : Nat) (V : Value), j ≤ k ∧ v5 = .int .i64 j ∧ NetAt wr w.heap.size (w.heap.size + 1) w.heap.size V ((l.take k).drop j) k 0 ∧ Below w.heap.size w wr) (fun v5 _ => k - (intOf v5).toNat)
        case atStart => exact ⟨0, _, Nat.zero_le _, rfl, by simpa using hN, hB⟩
        case round =>
          clear hN hB
          obtain ⟨j, V, hj, rfl, hN, hB⟩ := hrel
          by_cases hjk : j < k
          · have j1 : j < l.length := by omega
            have j2 : j < 200 := by omega
            obtain ⟨x, hx⟩ : ∃ x, l[j]? = some x := ⟨_, List.getElem?_eq_getElem j1⟩
            obtain ⟨ab, ao, rfl, hab, hcell⟩ := harr.2 (by omega)
            have hcx := hcell j (.string x) (by simp [hx])
            obtain ⟨d1, d2⟩ := drop_next hx hjk
            have HX := Lib.hid d2
            have hlen : ((l.take k).drop j).length ≤ 4096 := by rw [List.length_drop, List.length_take]; omega
            clear hcell harr hx d2
            go_wp2_with (go_at_call 10; refine (net_takeX _ _ _ _ _ _ _ 0 x _ hN hlen d1).mono ?_; rintro e w2 ⟨rfl, V2, hN2, hf2, _⟩; have hB := hN.step hB (Nat.le_refl _) hf2; have hc := (hB.cell (p := ⟨ab, ao + j, none⟩) hab).trans hcx)
            rw [HX.out] at hN2
            go_roundw
            case rel => exact ⟨j + 1, V2, by omega, by go_num, hN2, hB⟩
            case measure => simp [intOf]; omega
          · obtain rfl : j = k := by omega
            have he : (l.take j).drop j = [] := by rw [List.drop_eq_nil_iff, List.length_take]; omega
            rw [he] at hN
            clear he harr
            go_wp2_with (first | (go_at_call 13; refine (awake_any _).mono ?_; rintro e w10 ⟨rfl, hb3⟩; have hB := hB.trans (hb3.mono hB.size); clear hb3) | (go_at_call 10; refine (net_take_no _ _ _ _ _ _ _ 0 _ hN (by simp) (by simp) (by omega) (by omega)).mono ?_; rintro e w2 ⟨rfl, rfl⟩) | (go_at_call 11; refine (net_len _ _ _ _ _ _ _ _ hN).mono ?_; rintro e w3 ⟨rfl, rfl⟩) | (go_at_call 12; refine (net_clear _ _ _ _ _ _ _ _ hN).mono ?_; rintro e w4 ⟨rfl, hN4, hf4⟩; have hB := hN.step1 hB (Nat.le_refl _) hf4))
            go_ret
            exact ⟨rfl, hB⟩
end Go.Proofs.Ytpmjbkpooionbaa
