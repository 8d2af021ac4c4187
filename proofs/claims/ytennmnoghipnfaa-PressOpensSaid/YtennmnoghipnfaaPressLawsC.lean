/- The walks of the laws PressOpens, PressBack and PressTwice. -/
import Derived.Test.YtennmnoghipnfaaPressLawsB
namespace Go.Proofs.Ytennmnoghipnfaa
open Go.RowKit
set_option linter.unusedVariables false


theorem ba_ext {a b : ByteArray} (h : a.data.toList = b.data.toList) : a = b := by
  cases a; cases b
  congr
  exact Array.toList_inj.1 h
theorem cons_list (c : UInt8) (p : ByteArray) : ((⟨#[c]⟩ : ByteArray) ++ p).data.toList = c :: p.data.toList := by rw [cat_list]; rfl
theorem cons_tail (c : UInt8) (p : ByteArray) : ((⟨#[c]⟩ : ByteArray) ++ p).extract 1 ((⟨#[c]⟩ : ByteArray) ++ p).size = p := by
  apply ba_ext
  rw [run_str, ba_size, List.take_length, cons_list]
  rfl
theorem open_wrap {t : ByteArray} (h : t.size ≤ 1048576) : openR (wrapS t) = (t, 0) := by
  unfold wrapS
  rw [if_neg (by omega)]
  split
  · unfold openR
    rw [cons_list]
    simp only []
    rw [cons_tail, if_neg (by decide), (pressS_back h).1, (pressS_back h).2]
    rfl
  · unfold openR
    rw [cons_list]
    simp only []
    rw [cons_tail]
    rfl

set_option maxHeartbeats 2000000 in
set_option maxRecDepth 100000 in
theorem law_back (s : ByteArray) (w : World) (hs : s.size ≤ 140737488351232) :
    Calls Try.prog 11 #[.string s] w fun e w' => e = .returned (.bool true) ∧ Below w.heap.size w w' := by
  have hc := fun W => cut_at s 20000 20000 W rfl (by omega) hs
  have hl := cutS_le s 20000
  generalize cutS s 20000 = t at hc hl
  have hp := fun W => press_all t W
  have hw := fun W => wrap_all t W (by omega)
  have ho := fun W => loose_at_press t W (by omega)
  have hn := fun W => open_any (wrapS t) W (by have := wrapS_le (s := t) (by omega); omega)
  rw [(pressS_ok (by omega)).2] at hp hw
  rw [open_wrap (by omega)] at hn
  have HC := Lib.hid hc
  have HP := Lib.hid hp
  have HW := Lib.hid hw
  have HO := Lib.hid ho
  have HN := Lib.hid hn
  have HA := Lib.hid awake_any
  clear hc hp hw ho hn
  generalize pressS t = p at *
  generalize wrapS t = q at *
  have hB : Below w.heap.size w w := Below.refl _ _
  go_enter Try.func11, Try.ntmps11
  go_wp2_with (first | (go_at_call 12; with_reducible refine (HC.out _).mono ?_; rintro e w1 ⟨rfl, rfl⟩) | (go_at_call 13; with_reducible refine (HP.out _).mono ?_; rintro e w1 ⟨rfl, hb1⟩; have hB := below_on hB hb1) | (go_at_call 17; with_reducible refine (HO.out _).mono ?_; rintro e w1 ⟨rfl, hb1⟩; have hB := below_on hB hb1) | (go_at_call 16; with_reducible refine (HW.out _).mono ?_; rintro e w1 ⟨rfl, hb1⟩; have hB := below_on hB hb1) | (go_at_call 19; with_reducible refine (HN.out _).mono ?_; rintro e w1 ⟨rfl, hb1⟩; have hB := below_on hB hb1) | (go_at_call 15; with_reducible refine (HA.out _).mono ?_; rintro e w1 ⟨rfl, hb1⟩; have hB := below_on hB hb1))
  go_ret
  exact ⟨rfl, hB⟩

set_option maxHeartbeats 2000000 in
set_option maxRecDepth 100000 in
theorem law_twice (s : ByteArray) (w : World) (hs : s.size ≤ 140737488351232) :
    Calls Try.prog 9 #[.string s] w fun e w' => e = .returned (.bool true) ∧ Below w.heap.size w w' := by
  have hc := fun W => cut_at s 4000 4000 W rfl (by omega) hs
  have hl := cutS_le s 4000
  generalize cutS s 4000 = t at hc hl
  have HC := Lib.hid hc
  have HA := Lib.hid awake_any
  have hB : Below w.heap.size w w := Below.refl _ _
  by_cases h4 : t.size < 4
  · go_enter Try.func9, Try.ntmps9
    go_wp2_with (first | (go_at_call 12; with_reducible refine (HC.out _).mono ?_; rintro e w1 ⟨rfl, rfl⟩) | (go_at_call 15; with_reducible refine (HA.out _).mono ?_; rintro e w1 ⟨rfl, hb1⟩; have hB := below_on hB hb1))
    go_ret
    exact ⟨rfl, hB⟩
  · have hsz : (t ++ t).size = 2 * t.size := by rw [ByteArray.size_append]; omega
    have hp := fun W => press_all (t ++ t) W
    have ho := fun W => loose_at_press (t ++ t) W (by omega)
    rw [(pressS_ok (by omega)).2] at hp
    have hT := twice_press (t := (t ++ t).data.toList) (L := t.size) (by rw [cat_list, ba_size]; exact twice_app _) hl (by omega)
    rw [← pressS_size (by omega)] at hT
    have HP := Lib.hid hp
    have HO := Lib.hid ho
    clear hp ho
    generalize pressS (t ++ t) = p at *
    have hT2 : (p.size : Int) ≤ t.size + t.size / 64 + 6 + 4 * (t.size / 259 + 1) + 8 := by omega
    clear hT hsz
    go_enter Try.func9, Try.ntmps9
    go_wp2_with (first | (go_at_call 12; with_reducible refine (HC.out _).mono ?_; rintro e w1 ⟨rfl, rfl⟩) | (go_at_call 13; with_reducible refine (HP.out _).mono ?_; rintro e w1 ⟨rfl, hb1⟩; have hB := below_on hB hb1) | (go_at_call 17; with_reducible refine (HO.out _).mono ?_; rintro e w1 ⟨rfl, hb1⟩; have hB := below_on hB hb1) | (go_at_call 15; with_reducible refine (HA.out _).mono ?_; rintro e w1 ⟨rfl, hb1⟩; have hB := below_on hB hb1))
    go_ret
    exact ⟨rfl, hB⟩

set_option maxHeartbeats 2000000 in
set_option maxRecDepth 100000 in
theorem law_opens (s : ByteArray) (w : World) (hs : s.size ≤ 140737488351232) :
    Calls Try.prog 10 #[.string s] w fun e w' => e = .returned (.bool true) ∧ Below w.heap.size w w' := by
  have hc := fun W => cut_at s 3000 3000 W rfl (by omega) hs
  have hl := cutS_le s 3000
  generalize cutS s 3000 = t at hc hl
  have hn := fun W => open_any t W (by omega)
  have hr := fun W => ref_loose (t.extract 1 t.size) W (by rw [ByteArray.size_extract]; omega)
  have HC := Lib.hid hc
  have HR := Lib.hid hr
  have HA := Lib.hid awake_any
  clear hc hr
  have hB : Below w.heap.size w w := Below.refl _ _
  cases hlt : t.data.toList with
  | nil =>
    have hr : openR t = (⟨#[]⟩, 3) := by unfold openR; rw [hlt]
    have hne : t.toList.isEmpty = true := by rw [ByteArray.toList_eq, hlt]; rfl
    have hz : t.size = 0 := by rw [ba_size, hlt]; rfl
    rw [hr] at hn
    have HN := Lib.hid hn
    clear hn hr hlt
    go_enter Try.func10, Try.ntmps10
    go_wp2_with (first | (go_at_call 12; with_reducible refine (HC.out _).mono ?_; rintro e w1 ⟨rfl, rfl⟩) | (go_at_call 19; with_reducible refine (HN.out _).mono ?_; rintro e w1 ⟨rfl, hb1⟩; have hB := below_on hB hb1) | (go_at_call 15; with_reducible refine (HA.out _).mono ?_; rintro e w1 ⟨rfl, hb1⟩; have hB := below_on hB hb1))
    go_ret
    exact ⟨rfl, hB⟩
  | cons c r =>
    have i0 : 0 < t.size := by rw [ba_size, hlt]; simp
    have i1z : (1 : Int) ≤ (t.size : Int) := by omega
    have hc : t[0]'i0 = c := ba_get i0 (by rw [hlt]; rfl)
    have hne : t.toList.isEmpty = false := by rw [ByteArray.toList_eq, hlt]; rfl
    have hor : openR t = if c = 82 then (t.extract 1 t.size, 0) else if c = 90 then (looseS (t.extract 1 t.size), looseE (t.extract 1 t.size)) else (⟨#[]⟩, 5) := by unfold openR; rw [hlt]
    clear hlt
    have hthree : ∃ p x, openR t = (p, x) ∧ ((((c.toNat : Int) == 82) = true ∧ p = t.extract 1 t.size ∧ x = 0) ∨ (((c.toNat : Int) == 82) = false ∧ ((c.toNat : Int) != 90) = false ∧ p = looseS (t.extract 1 t.size) ∧ x = looseE (t.extract 1 t.size)) ∨ (((c.toNat : Int) == 82) = false ∧ ((c.toNat : Int) != 90) = true ∧ p = ⟨#[]⟩ ∧ x = 5)) := by
      refine ⟨(openR t).1, (openR t).2, rfl, ?_⟩
      by_cases h1 : c = 82
      · left
        rw [hor, if_pos h1]
        exact ⟨by rw [h1]; decide, rfl, rfl⟩
      · have hcn : ((c.toNat : Int) == 82) = false := by
          rw [beq_eq_false_iff_ne]
          intro h
          exact h1 (UInt8.toNat_inj.1 (by show c.toNat = 82; omega))
        right
        rw [hor, if_neg h1]
        by_cases h2 : c = 90
        · left
          rw [if_pos h2]
          exact ⟨hcn, by rw [h2]; decide, rfl, rfl⟩
        · right
          rw [if_neg h2]
          refine ⟨hcn, ?_, rfl, rfl⟩
          rw [bne_iff_ne]
          intro h
          exact h2 (UInt8.toNat_inj.1 (by show c.toNat = 90; omega))
    obtain ⟨p, x, hpx, h3⟩ := hthree
    rw [hpx] at hn
    have HN := Lib.hid hn
    clear hn hor hpx
    by_cases hs3 : 3 < t.size
    · have i1 : (1 : Int) < (t.size : Int) := by omega
      have i2 : (2 : Int) < (t.size : Int) := by omega
      have i3 : (3 : Int) < (t.size : Int) := by omega
      have i1' : 1 < t.size := by omega
      have i2' : 2 < t.size := by omega
      rcases (show (((t[1]'i1').toNat : Int) ≤ 127) ∨ ((127 < ((t[1]'i1').toNat : Int)) ∧ ((t[2]'i2').toNat : Int) ≤ 127) ∨ ((127 < ((t[1]'i1').toNat : Int)) ∧ (127 < ((t[2]'i2').toNat : Int)) ∧ ((t[3]'hs3).toNat : Int) ≤ 3) ∨ ((127 < ((t[1]'i1').toNat : Int)) ∧ (127 < ((t[2]'i2').toNat : Int)) ∧ 3 < ((t[3]'hs3).toNat : Int)) from by omega) with g0 | ⟨g0, g1⟩ | ⟨g0, g1, g2⟩ | ⟨g0, g1, g2⟩
      all_goals
        rcases h3 with ⟨k1, rfl, rfl⟩ | ⟨k1, k2, rfl, rfl⟩ | ⟨k1, k2, rfl, rfl⟩
        all_goals
          go_enter Try.func10, Try.ntmps10
          go_wp2_with (first | (go_at_call 12; with_reducible refine (HC.out _).mono ?_; rintro e w1 ⟨rfl, rfl⟩) | (go_at_call 19; with_reducible refine (HN.out _).mono ?_; rintro e w1 ⟨rfl, hb1⟩; have hB := below_on hB hb1) | (go_at_call 18; with_reducible refine (HR.out _).mono ?_; rintro e w1 ⟨rfl, hb1⟩; have hB := below_on hB hb1) | (go_at_call 15; with_reducible refine (HA.out _).mono ?_; rintro e w1 ⟨rfl, hb1⟩; have hB := below_on hB hb1))
          go_ret
          exact ⟨rfl, hB⟩
    · rcases h3 with ⟨k1, rfl, rfl⟩ | ⟨k1, k2, rfl, rfl⟩ | ⟨k1, k2, rfl, rfl⟩
      all_goals
        go_enter Try.func10, Try.ntmps10
        go_wp2_with (first | (go_at_call 12; with_reducible refine (HC.out _).mono ?_; rintro e w1 ⟨rfl, rfl⟩) | (go_at_call 19; with_reducible refine (HN.out _).mono ?_; rintro e w1 ⟨rfl, hb1⟩; have hB := below_on hB hb1) | (go_at_call 18; with_reducible refine (HR.out _).mono ?_; rintro e w1 ⟨rfl, hb1⟩; have hB := below_on hB hb1) | (go_at_call 15; with_reducible refine (HA.out _).mono ?_; rintro e w1 ⟨rfl, hb1⟩; have hB := below_on hB hb1))
        go_ret
        exact ⟨rfl, hB⟩
end Go.Proofs.Ytennmnoghipnfaa
