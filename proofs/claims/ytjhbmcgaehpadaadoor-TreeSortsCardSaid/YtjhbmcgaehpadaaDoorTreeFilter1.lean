/- The walks through fits, one, few, Files. -/
import Derived.Test.YtjhbmcgaehpadaaDoorTreeMatchesW
import Derived.Test.YtjhbmcgaehpadaaDoorTreeChecksW
import Derived.Test.YtjhbmcgaehpadaaDoorAppend
namespace Go.Proofs.YtjhbmcgaehpadaaDoor
open Go.RowKit
set_option linter.unusedVariables false

/-- Does a path fit one of some patterns? -/
def oneB (l : List ByteArray) (s : ByteArray) : Bool := l.any fun p => matchB p.data.toList s.data.toList
section
variable {l : List ByteArray} {s x : ByteArray} {k : Nat} {R : Bool}
theorem oneB_step (hx : l[k]? = some x) (h : matchB x.data.toList s.data.toList = false) : oneB (l.drop k) s = oneB (l.drop (k + 1)) s := by
  unfold oneB
  rw [drop_head hx, List.any_cons, h, Bool.false_or]
theorem oneB_stop (hx : l[k]? = some x) (h : matchB x.data.toList s.data.toList = true) : oneB (l.drop k) s = true := by
  unfold oneB
  rw [drop_head hx, List.any_cons, h, Bool.true_or]
theorem oneB_end (h : l.length ≤ k) : oneB (l.drop k) s = false := by rw [List.drop_eq_nil_of_le h]; rfl
end

set_option maxHeartbeats 1000000 in
set_option maxRecDepth 100000 in
theorem fits_any (A : Option Addr) (c : Nat) (l : List ByteArray) (s : ByteArray) (w : World) (hz : l.length ≤ 9223372036854775807) (hx : ∀ x ∈ l, x.size ≤ 9223372036854775807) (hs : s.size ≤ 9223372036854775807)
    (ha : Arr w w.heap.size 1 A l.length (l.map Value.string)) (hm : Ml w) :
    Calls Tryd.prog 54 #[.slice A l.length c, .string s] w fun e w' => e = .returned (.bool (oneB l s)) ∧ Below w.heap.size w w' := by
  have HX := Lib.hid hx
  have HA := Lib.hid ha
  generalize hR : oneB l s = R
  have HR : Hid (oneB (l.drop 0) s = R) := Lib.hid hR
  clear hR hx ha
  go_enter Tryd.func54, Tryd.ntmps54
  go_wp2
  go_loopw [9] (fun v wr => ∃ (k : Nat), k ≤ l.length ∧ v = .int .i64 k ∧ Hid (oneB (l.drop k) s = R) ∧ Below w.heap.size w wr) (fun v _ => l.length - (intOf v).toNat)
  case atStart => exact ⟨0, Nat.zero_le _, rfl, HR, Below.refl _ _⟩
  case round =>
    obtain ⟨k, hk, rfl, H, hB⟩ := hrel
    by_cases hlt : k < l.length
    · obtain ⟨x, hxk⟩ : ∃ x, l[k]? = some x := ⟨_, List.getElem?_eq_getElem hlt⟩
      obtain ⟨b, o, rfl, hb, hcell⟩ := HA.out.2 (by omega)
      have cc := (hB.cell (p := ⟨b, o + k, none⟩) hb).trans (hcell k (.string x) (by simp [hxk]))
      have hxs := HX.out x (List.mem_of_getElem? hxk)
      have hmt := fun W h => match_any x s W hxs hs h
      have h1 := fun h => (oneB_step hxk h).symm.trans H.out
      have h2 := fun h => (oneB_stop hxk h).symm.trans H.out
      clear hxk hcell H
      generalize matchB x.data.toList s.data.toList = B at *
      have HM := Lib.hid hmt
      have hmr := hm.on hB
      cases B
      · have hst := Lib.hid (h1 rfl)
        clear h1 h2 hmt
        go_wp2_with (go_at_call 23; with_reducible refine (HM.out _ hmr).mono ?_; rintro e w1 ⟨rfl, hb1⟩)
        go_roundw
        case rel => exact ⟨k + 1, by omega, by go_num, hst, below_on hB hb1⟩
        case measure => simp [intOf] <;> omega
      · have hr := Lib.hid (h2 rfl)
        clear h1 h2 hmt
        go_wp2_with (go_at_call 23; with_reducible refine (HM.out _ hmr).mono ?_; rintro e w1 ⟨rfl, hb1⟩)
        go_ret
        exact ⟨by rw [← hr.out]; rfl, below_on hB hb1⟩
    · have hr := Lib.hid ((oneB_end (l := l) (s := s) (by omega)).symm.trans H.out)
      clear H
      go_wp2
      go_ret
      exact ⟨by rw [← hr.out]; rfl, hB⟩

set_option maxHeartbeats 1000000 in
set_option maxRecDepth 100000 in
theorem one_ref (A : Option Addr) (c : Nat) (l : List ByteArray) (s : ByteArray) (w : World) (hz : l.length ≤ 9223372036854775807) (hx : ∀ x ∈ l, x.size ≤ 9223372036854775807) (hs : s.size ≤ 9223372036854775807)
    (ha : Arr w w.heap.size 1 A l.length (l.map Value.string)) :
    Calls Tryd.prog 55 #[.slice A l.length c, .string s] w fun e w' => e = .returned (.bool (oneB l s)) ∧ Below w.heap.size w w' := by
  have HX := Lib.hid hx
  have HA := Lib.hid ha
  generalize hR : oneB l s = R
  have HR : Hid (oneB (l.drop 0) s = R) := Lib.hid hR
  clear hR hx ha
  go_enter Tryd.func55, Tryd.ntmps55
  go_wp2
  go_loopw [5] (fun v wr => ∃ (k : Nat), k ≤ l.length ∧ v = .int .i64 k ∧ Hid (oneB (l.drop k) s = R) ∧ Below w.heap.size w wr) (fun v _ => l.length - (intOf v).toNat)
  case atStart => exact ⟨0, Nat.zero_le _, rfl, HR, Below.refl _ _⟩
  case round =>
    obtain ⟨k, hk, rfl, H, hB⟩ := hrel
    by_cases hlt : k < l.length
    · obtain ⟨x, hxk⟩ : ∃ x, l[k]? = some x := ⟨_, List.getElem?_eq_getElem hlt⟩
      obtain ⟨b, o, rfl, hb, hcell⟩ := HA.out.2 (by omega)
      have cc := (hB.cell (p := ⟨b, o + k, none⟩) hb).trans (hcell k (.string x) (by simp [hxk]))
      have hxs := HX.out x (List.mem_of_getElem? hxk)
      have hmt := fun W => match_ref x s W hxs hs
      have h1 := fun h => (oneB_step hxk h).symm.trans H.out
      have h2 := fun h => (oneB_stop hxk h).symm.trans H.out
      clear hxk hcell H
      generalize matchB x.data.toList s.data.toList = B at *
      have HM := Lib.hid hmt
      have kl : (k : Int) < l.length := by omega
      cases B
      · have hst := Lib.hid (h1 rfl)
        clear h1 h2 hmt
        go_wp2_with (go_at_call 24; with_reducible refine (HM.out _).mono ?_; rintro e w1 ⟨rfl, hb1⟩)
        go_roundw
        case rel => exact ⟨k + 1, by omega, by go_num, hst, below_on hB hb1⟩
        case measure => simp [intOf] <;> omega
      · have hr := Lib.hid (h2 rfl)
        clear h1 h2 hmt
        go_wp2_with (go_at_call 24; with_reducible refine (HM.out _).mono ?_; rintro e w1 ⟨rfl, hb1⟩)
        go_ret
        exact ⟨by rw [← hr.out]; rfl, below_on hB hb1⟩
    · have hr := Lib.hid ((oneB_end (l := l) (s := s) (by omega)).symm.trans H.out)
      clear H
      go_wp2
      go_ret
      exact ⟨by rw [← hr.out]; rfl, hB⟩

/-! ### few, Files -/
theorem few_any (A : Option Addr) (c n : Nat) (w : World) (hz : n ≤ 9223372036854775807) (hc : n ≤ c) (hA : 0 < n → ∃ a, A = some a) : Calls Tryd.prog 25 #[.slice A n c] w fun e w' => e = .returned (.slice A (min n 60) c) ∧ w = w' := by
  by_cases h : 60 < n
  · have h' : (60 : Int) < n := by omega
    rw [show min n 60 = 60 by omega]
    have hc2 : 60 ≤ c := by omega
    obtain ⟨a, rfl⟩ := hA (by omega)
    go_enter Tryd.func25, Tryd.ntmps25
    go_wp2
    go_ret
    exact ⟨rfl, rfl⟩
  · have h' : ¬ (60 : Int) < n := by omega
    rw [show min n 60 = n by omega]
    go_enter Tryd.func25, Tryd.ntmps25
    go_wp2
    go_ret
    exact ⟨rfl, rfl⟩

set_option maxHeartbeats 1000000 in
set_option maxRecDepth 100000 in
theorem files_same (A : Option Addr) (c : Nat) (B : Option Addr) (d : Nat) (l : List FileD) (w : World) (hz : l.length ≤ 9223372036854775807)
    (ha : Arr w w.heap.size 3 A l.length (fcells l)) (hb : Arr w w.heap.size 3 B l.length (fcells l)) :
    Calls Tryd.prog 28 #[.slice A l.length c, .slice B l.length d] w fun e w' => e = .returned (.bool true) ∧ Below w.heap.size w w' := by
  have HA := Lib.hid ha
  have HB := Lib.hid hb
  clear ha hb
  go_enter Tryd.func28, Tryd.ntmps28
  go_wp2
  go_loopw [5] (fun v wr => ∃ (k : Nat), k ≤ l.length ∧ v = .int .i64 k ∧ Below w.heap.size w wr) (fun v _ => l.length - (intOf v).toNat)
  case atStart => exact ⟨0, Nat.zero_le _, rfl, Below.refl _ _⟩
  case round =>
    obtain ⟨k, hk, rfl, hB⟩ := hrel
    by_cases hlt : k < l.length
    · obtain ⟨f, hf⟩ : ∃ f, l[k]? = some f := ⟨_, List.getElem?_eq_getElem hlt⟩
      obtain ⟨b, o, rfl, hb, hcell⟩ := HA.out.2 (by omega)
      obtain ⟨b2, o2, rfl, hb2, hcell2⟩ := HB.out.2 (by omega)
      obtain ⟨c0, c1, c2⟩ := file_cells (fun i u h => (hB.cell (p := ⟨b, o + i, none⟩) hb).trans (hcell i u h)) hf
      obtain ⟨e0, e1, e2⟩ := file_cells (fun i u h => (hB.cell (p := ⟨b2, o2 + i, none⟩) hb2).trans (hcell2 i u h)) hf
      clear hf hcell hcell2
      have kl : (k : Int) < l.length := by omega
      go_wp2
      go_quiet (fail)
      go_wp2
      go_roundw
      case rel => exact ⟨k + 1, by omega, by go_num, below_drewN hB _⟩
      case measure => simp [intOf] <;> omega
    · go_wp2
      go_ret
      exact ⟨rfl, hB⟩
end Go.Proofs.YtjhbmcgaehpadaaDoor
