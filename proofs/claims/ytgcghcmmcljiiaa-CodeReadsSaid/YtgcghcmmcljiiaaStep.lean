/- The walks of the law's ints, texts and step. -/
import Derived.Test.YtgcghcmmcljiiaaRefMore
import Derived.Deep.RegionHeld3
namespace Go.Proofs.Ytgcghcmmcljiiaa
open Go.RowKit

set_option maxHeartbeats 1000000 in
set_option maxRecDepth 100000 in
theorem ints_same (A A' : Option Addr) (c c' : Nat) (l : List Int) (w : World) (hl : l.length ≤ 9223372036854775807) (h : Arr w w.heap.size 1 A l.length (l.map (Value.int .i64))) (h' : Arr w w.heap.size 1 A' l.length (l.map (Value.int .i64))) :
    Calls Try.prog 35 #[.slice A l.length c, .slice A' l.length c'] w fun e w' => e = .returned (.bool true) ∧ Below w.heap.size w w' := by
  have hne : ((l.length : Int) != (l.length : Int)) = false := by simp
  go_enter Try.func35, Try.ntmps35
  go_wp2
  go_loopw [5] (fun v5 wr => ∃ k : Nat, k ≤ l.length ∧ v5 = .int .i64 k ∧ Below w.heap.size w wr) (fun v5 _ => l.length - (intOf v5).toNat)
  case atStart => exact ⟨0, Nat.zero_le _, rfl, Below.refl _ _⟩
  case round =>
    obtain ⟨k, hk, rfl, hb⟩ := hrel
    by_cases hlt : k < l.length
    · obtain ⟨x, hx⟩ : ∃ x, l[k]? = some x := ⟨_, List.getElem?_eq_getElem hlt⟩
      obtain ⟨b, o, rfl, hl1, hc⟩ := h.2 (by omega)
      obtain ⟨b', o', rfl, hl2, hc'⟩ := h'.2 (by omega)
      have e1 : wr.cell? ⟨b, o + k, none⟩ = some (.int .i64 x) := (hb.cell hl1).trans (hc k (.int .i64 x) (by simp [hx]))
      have e2 : wr.cell? ⟨b', o' + k, none⟩ = some (.int .i64 x) := (hb.cell hl2).trans (hc' k (.int .i64 x) (by simp [hx]))
      have e3 : (x != x) = false := by simp
      clear hc hc' hx h h'
      go_wp2
      go_quiet (fail)
      go_wp2
      go_roundw
      case rel => exact ⟨k + 1, by omega, by go_num, below_drewN hb _⟩
      case measure => simp [intOf]; omega
    · go_wp2
      go_ret
      exact ⟨rfl, hb⟩

set_option maxHeartbeats 1000000 in
set_option maxRecDepth 100000 in
theorem texts_same (A A' : Option Addr) (c c' : Nat) (l : List ByteArray) (w : World) (hl : l.length ≤ 9223372036854775807) (h : Arr w w.heap.size 1 A l.length (l.map Value.string)) (h' : Arr w w.heap.size 1 A' l.length (l.map Value.string)) :
    Calls Try.prog 36 #[.slice A l.length c, .slice A' l.length c'] w fun e w' => e = .returned (.bool true) ∧ Below w.heap.size w w' := by
  have hne : ((l.length : Int) != (l.length : Int)) = false := by simp
  go_enter Try.func36, Try.ntmps36
  go_wp2
  go_loopw [5] (fun v5 wr => ∃ k : Nat, k ≤ l.length ∧ v5 = .int .i64 k ∧ Below w.heap.size w wr) (fun v5 _ => l.length - (intOf v5).toNat)
  case atStart => exact ⟨0, Nat.zero_le _, rfl, Below.refl _ _⟩
  case round =>
    obtain ⟨k, hk, rfl, hb⟩ := hrel
    by_cases hlt : k < l.length
    · obtain ⟨x, hx⟩ : ∃ x, l[k]? = some x := ⟨_, List.getElem?_eq_getElem hlt⟩
      obtain ⟨b, o, rfl, hl1, hc⟩ := h.2 (by omega)
      obtain ⟨b', o', rfl, hl2, hc'⟩ := h'.2 (by omega)
      have e1 : wr.cell? ⟨b, o + k, none⟩ = some (.string x) := (hb.cell hl1).trans (hc k (.string x) (by simp [hx]))
      have e2 : wr.cell? ⟨b', o' + k, none⟩ = some (.string x) := (hb.cell hl2).trans (hc' k (.string x) (by simp [hx]))
      clear hc hc' hx h h'
      go_wp2
      go_quiet (fail)
      go_wp2
      go_roundw
      case rel => exact ⟨k + 1, by omega, by go_num, below_drewN hb _⟩
      case measure => simp [intOf]; omega
    · go_wp2
      go_ret
      exact ⟨rfl, hb⟩

/-- A call of a reader: what state it leaves. -/
def rdStep (r : Rd) (k n m : Int) : Rd :=
  if k = 0 then (rdByte r).2 else if k = 1 then (rdNum r).2 else if k = 2 then (rdSigned r).2 else if k = 3 then (rdRaw r n).2 else if k = 4 then (rdCount r n).2
  else if k = 5 then (rdText r n).2 else if k = 6 then (rdNums r n).2 else if k = 7 then (rdTexts r n m).2 else rdEnd r

/-- Two readers that answer alike: they stand alike, or both have failed. -/
def Twin (r q : Rd) : Prop := r = q ∨ (r.e ≠ 0 ∧ q.e = r.e)

theorem off_byte {r : Rd} (h : r.e ≠ 0) : rdByte r = (0, r) := by unfold rdByte; rw [if_pos h]
theorem off_num {r : Rd} (h : r.e ≠ 0) : rdNum r = (0, r) := by
  unfold rdNum
  rw [rdNumGo, off_byte h]
  simp only []
  rw [if_pos h]
theorem off_signed {r : Rd} (h : r.e ≠ 0) : rdSigned r = (0, r) := by
  unfold rdSigned
  rw [off_num h]
  have : sgn 0 = 0 := by unfold sgn; simp
  simp only [this]
theorem off_raw {r : Rd} (n : Int) (h : r.e ≠ 0) : rdRaw r n = (ByteArray.empty, r) := by unfold rdRaw; rw [if_pos h]
theorem off_count {r : Rd} (n : Int) (h : r.e ≠ 0) : rdCount r n = (0, r) := by
  unfold rdCount
  rw [off_num h]
  simp only []
  rw [if_neg (fun hh => h hh.1)]
theorem off_text {r : Rd} (n : Int) (h : r.e ≠ 0) : rdText r n = (ByteArray.empty, r) := by
  unfold rdText
  rw [off_count n h]
  exact off_raw _ h
theorem off_nums {r : Rd} (n : Int) (h : r.e ≠ 0) : rdNums r n = ([], r) := rdNums_fin (done := []) (st := r) (by rw [off_count n h]; rfl) (.inr rfl)
theorem off_texts {r : Rd} (n m : Int) (h : r.e ≠ 0) : rdTexts r n m = ([], r) := rdTexts_fin (done := []) (st := r) (by rw [off_count n h]; rfl) (.inr rfl)
theorem off_end {r : Rd} (h : r.e ≠ 0) : rdEnd r = r := if_neg (fun hh => h hh.1)

theorem twin_byte {r q : Rd} (h : Twin r q) : (rdByte q).1 = (rdByte r).1 := by
  rcases h with rfl | ⟨h, h'⟩
  · rfl
  · rw [off_byte h, off_byte (h' ▸ h)]
theorem twin_num {r q : Rd} (h : Twin r q) : (rdNum q).1 = (rdNum r).1 := by
  rcases h with rfl | ⟨h, h'⟩
  · rfl
  · rw [off_num h, off_num (h' ▸ h)]
theorem twin_signed {r q : Rd} (h : Twin r q) : (rdSigned q).1 = (rdSigned r).1 := by
  rcases h with rfl | ⟨h, h'⟩
  · rfl
  · rw [off_signed h, off_signed (h' ▸ h)]
theorem twin_raw {r q : Rd} (n : Int) (h : Twin r q) : (rdRaw q n).1 = (rdRaw r n).1 := by
  rcases h with rfl | ⟨h, h'⟩
  · rfl
  · rw [off_raw n h, off_raw n (h' ▸ h)]
theorem twin_count {r q : Rd} (n : Int) (h : Twin r q) : (rdCount q n).1 = (rdCount r n).1 := by
  rcases h with rfl | ⟨h, h'⟩
  · rfl
  · rw [off_count n h, off_count n (h' ▸ h)]
theorem twin_text {r q : Rd} (n : Int) (h : Twin r q) : (rdText q n).1 = (rdText r n).1 := by
  rcases h with rfl | ⟨h, h'⟩
  · rfl
  · rw [off_text n h, off_text n (h' ▸ h)]
theorem twin_nums {r q : Rd} (n : Int) (h : Twin r q) : (rdNums q n).1 = (rdNums r n).1 := by
  rcases h with rfl | ⟨h, h'⟩
  · rfl
  · rw [off_nums n h, off_nums n (h' ▸ h)]
theorem twin_texts {r q : Rd} (n m : Int) (h : Twin r q) : (rdTexts q n m).1 = (rdTexts r n m).1 := by
  rcases h with rfl | ⟨h, h'⟩
  · rfl
  · rw [off_texts n m h, off_texts n m (h' ▸ h)]
theorem twin_end {r q : Rd} (h : Twin r q) : (rdEnd q).e = (rdEnd r).e := by
  rcases h with rfl | ⟨h, h'⟩
  · rfl
  · rw [off_end h, off_end (h' ▸ h), h']

/-- What two calls, of one block each, leave. -/
def Fr2 (a b : Nat) (w w' : World) : Prop := Fr (fun k => k = a ∨ k = b) w w'
theorem fr2_of {a b : Nat} {w w1 w2 : World} (h : w.grownBy w1 (some a)) (h' : w1.grownBy w2 (some b)) : Fr2 a b w w2 :=
  Fr.next (S := fun k => k = a ∨ k = b) (Fr.of_grown h (fun k e => by injection e with e; exact .inl e.symm)) (Fr.of_grown h' (fun k e => by injection e with e; exact .inr e.symm))

end Go.Proofs.Ytgcghcmmcljiiaa
