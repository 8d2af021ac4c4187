/- The walk of the law CodeBack. -/
import Derived.Test.YtgcghcmmcljiiaaReadsPre
import Derived.Test.YtgcghcmmcljiiaaCanonWalk
import Derived.Test.YtgcghcmmcljiiaaBackPlain
set_option linter.unusedVariables false
namespace Go.Proofs.Ytgcghcmmcljiiaa
open Go.RowKit

theorem natV_of {l : List Int} (h : ∀ x ∈ l, NumOk x) : (l.map Int.toNat).map natV = l.map (Value.int .i64) := by
  rw [List.map_map]
  apply List.map_congr_left
  intro x hx
  have := (h x hx).1
  simp only [Function.comp, natV]
  rw [Int.toNat_of_nonneg this]

set_option maxHeartbeats 4000000 in
set_option maxRecDepth 100000 in
theorem law_back (n : Int) (s : ByteArray) (Al : Option Addr) (cl : Nat) (l : List Int) (Am : Option Addr) (cm : Nat) (m : List ByteArray) (w : World) (hn0 : -9223372036854775808 ≤ n) (hn1 : n ≤ 9223372036854775807) (hs : s.size ≤ 140737488351232)
    (hl : l.length * 8 ≤ 140737488351232) (hbl : ∀ x ∈ l, -9223372036854775808 ≤ x ∧ x ≤ 9223372036854775807) (harrl : Arr w w.heap.size 1 Al l.length (l.map (Value.int .i64)))
    (hm : m.length * 16 ≤ 140737488351232) (hbm : ∀ x ∈ m, x.size ≤ 9223372036854775807) (harrm : Arr w w.heap.size 1 Am m.length (m.map Value.string)) :
    Calls Try.prog 11 #[.int .i64 n, .string s, .slice Al l.length cl, .slice Am m.length cm] w fun e w' => e = .returned (.bool true) ∧ Below w.heap.size w w' := by
  have hB := Below.refl w.heap.size w
  by_cases q1 : 500 < l.length
  · go_enter Try.func11, Try.ntmps11
    go_wp2_with (first | (go_at_call 14; refine (awake_any _).mono ?_; rintro e w10 ⟨rfl, hb3⟩; have hB := below_next hB (Nat.le_refl _) hb3; clear hb3))
    go_ret
    exact ⟨rfl, hB⟩
  by_cases q2 : 500 < m.length
  · go_enter Try.func11, Try.ntmps11
    go_wp2_with (first | (go_at_call 14; refine (awake_any _).mono ?_; rintro e w10 ⟨rfl, hb3⟩; have hB := below_next hB (Nat.le_refl _) hb3; clear hb3))
    go_ret
    exact ⟨rfl, hB⟩
  by_cases q3 : 500 < s.size
  · go_enter Try.func11, Try.ntmps11
    go_wp2_with (first | (go_at_call 14; refine (awake_any _).mono ?_; rintro e w10 ⟨rfl, hb3⟩; have hB := below_next hB (Nat.le_refl _) hb3; clear hb3))
    go_ret
    exact ⟨rfl, hB⟩
  go_enter Try.func11, Try.ntmps11
  go_wp2
  go_loopw [9] (fun v9 wr => ∃ k : Nat, k ≤ m.length ∧ v9 = .int .i64 k ∧ Hid (∀ x ∈ m.take k, x.size ≤ 500) ∧ Below w.heap.size w wr) (fun v9 _ => m.length - (intOf v9).toNat)
  case atStart => exact ⟨0, Nat.zero_le _, rfl, by simp [Hid], hB⟩
  case round =>
    clear hB
    obtain ⟨k, hk, rfl, HO, hB⟩ := hrel
    by_cases hlt : k < m.length
    · obtain ⟨x, hx⟩ : ∃ x, m[k]? = some x := ⟨_, List.getElem?_eq_getElem hlt⟩
      obtain ⟨ab, ao, rfl, hab, hcell⟩ := harrm.2 (by omega)
      have hc := hB.cell (p := ⟨ab, ao + k, none⟩) hab
      rw [hcell k (.string x) (by simp [hx])] at hc
      have hbx := hbm x (List.mem_of_getElem? hx)
      have HX := Lib.hid hx
      clear hx hcell harrm harrl
      by_cases hok : 500 < x.size
      · go_wp2_with (first | (go_at_call 14; refine (awake_any _).mono ?_; rintro e w10 ⟨rfl, hb3⟩; have hB := below_next hB (Nat.le_refl _) hb3; clear hb3))
        go_ret
        exact ⟨rfl, hB⟩
      · go_wp2
        go_roundw
        case rel => exact ⟨k + 1, by omega, by go_num, all_snoc (ok := fun y : ByteArray => y.size ≤ 500) HX.out HO.out (by omega), hB⟩
        case measure => simp [intOf]; omega
    · have hkl : m.take k = m := take_whole (by omega)
      rw [hkl] at HO
      have hmo := HO.out
      have hso : TxtOk s := by unfold TxtOk; omega
      have hmk : ∀ x ∈ m, TxtOk x := fun x hx => by have := hmo x hx; unfold TxtOk; omega
      have hc2 := fun w => code_text s w (by omega)
      have hc4 := fun A c w => code_texts A c m w (by omega) hbm
      rw [(txtok_S hso).2] at hc2
      rw [listR_ok (g := txtB) (e := 4) hmk] at hc4
      by_cases hno : NumOk n
      · by_cases hlo : ∀ x ∈ l, NumOk x
        · have hc1 := fun w => code_num n w hn0 hn1
          have hc3 := fun A c w => code_nums A c l w (by omega) hbl
          rw [(numok_S hno).2] at hc1
          obtain ⟨a, b, c, d, p1, p2, p3, p4, ea, eb, ec, ed, za, zb, zc, zd, R1, R2, R3, R4, o1, o2, o3, o4, hT⟩ := back_all hno (by omega : s.size ≤ 500) (by omega : l.length ≤ 500) (by omega : m.length ≤ 500) hlo hmo
          rw [listR_ok (g := txtB) (e := 4) hmk] at ed
          rw [ea] at hc1
          rw [eb] at hc2
          rw [ec] at hc3
          have HNV := Lib.hid (natV_of hlo)
          have hnn : ((n.toNat : Nat) : Int) = n := Int.toNat_of_nonneg hno.1
          have hd : (⟨(listL txtB m).toArray⟩ : ByteArray) = d := congrArg Prod.fst ed
          rw [hd] at hc4
          generalize hTT : a ++ b ++ c ++ d = T at *
          have ok0 : Rd.ok ⟨T, 0, 0⟩ := ⟨Nat.zero_le _, by show T.size ≤ _; omega⟩
          have ok1 : Rd.ok ⟨T, p1, 0⟩ := ⟨o1, by show T.size ≤ _; omega⟩
          have ok2 : Rd.ok ⟨T, p2, 0⟩ := ⟨o2, by show T.size ≤ _; omega⟩
          have ok3 : Rd.ok ⟨T, p3, 0⟩ := ⟨o3, by show T.size ≤ _; omega⟩
          have ok4 : Rd.ok ⟨T, p4, 0⟩ := ⟨by show p4 ≤ T.size; omega, by show T.size ≤ _; omega⟩
          have R5 : rdEnd ⟨T, p4, 0⟩ = ⟨T, p4, 0⟩ := if_neg (by simp only; omega)
          have HC1 := Lib.hid hc1
          have HC2 := Lib.hid hc2
          have HC3 := Lib.hid hc3
          have HC4 := Lib.hid hc4
          have R1 := Lib.hid R1
          have R2 := Lib.hid R2
          have R3 := Lib.hid R3
          have R4 := Lib.hid R4
          have R5 := Lib.hid R5
          clear hc1 hc2 hc3 hc4 ea eb ec ed hd hlo hmo hmk hso hno HO
          go_wp2_with (first | (go_at_call 14; refine (awake_any _).mono ?_; rintro e w10 ⟨rfl, hb3⟩; have hB := below_next hB (Nat.le_refl _) hb3; clear hb3) | (go_at_call 12; refine (HC1.out _).mono ?_; rintro e w11 ⟨rfl, hb3⟩; have hB := below_next hB (Nat.le_refl _) hb3; clear hb3) | (go_at_call 20; refine (HC2.out _).mono ?_; rintro e w12 ⟨rfl, hb3⟩; have hB := below_next hB (Nat.le_refl _) hb3; clear hb3) | (go_at_call 30; refine (HC3.out _ _ _ ((harrl.below hB).more hB.size)).mono ?_; rintro e w13 ⟨rfl, hb3⟩; have hB := below_next hB (Nat.le_refl _) hb3; clear hb3) | (go_at_call 32; refine (HC4.out _ _ _ ((harrm.below hB).more hB.size)).mono ?_; rintro e w14 ⟨rfl, hb3⟩; have hB := below_next hB (Nat.le_refl _) hb3; clear hb3) | (go_at_call 17; have hz := hB.size; refine (read_any _ _).mono ?_; rintro e w1 ⟨rfl, hr, hb1⟩; have hB := below_next hB (Nat.le_refl _) hb1; clear hb1) | (go_at_call 26; have hn := num_any _ _ _ hr ok0; rw [R1.out] at hn; refine hn.mono ?_; rintro e w2 ⟨rfl, hr, hg⟩; have hB := below_step hB (Nat.le_refl _) hg (by intro k hk; injection hk with hk; omega); clear hg hn) | (go_at_call 22; have hn := text_any _ _ 500 _ hr ok1; rw [R2.out] at hn; refine hn.mono ?_; rintro e w3 ⟨rfl, hr, hg⟩; have hB := below_step hB (Nat.le_refl _) hg (by intro k hk; injection hk with hk; omega); clear hg hn) | (go_at_call 28; have hn := nums_any _ _ 500 _ hr ok2 (Nat.le_trans hT (by omega)); rw [R3.out] at hn; simp only [List.length_map, HNV.out] at hn; refine hn.mono ?_; rintro e w4 ⟨A4, c4, rfl, ha4, hfr, hr, hg⟩; have hB := below_step hB (Nat.le_refl _) hg (by intro k hk; injection hk with hk; omega); clear hg hn) | (go_at_call 35; refine (ints_same _ _ _ _ l _ (by omega) ha4 ((harrl.below hB).more hB.size)).mono ?_; rintro e w5 ⟨rfl, hb3⟩; have hr := Rdr.below hr hb3 hr.lt; have hB := below_next hB (Nat.le_refl _) hb3; clear hb3) | (go_at_call 34; have hn := texts_any _ _ 500 500 _ hr ok3 (Nat.le_trans hT (by omega)); rw [R4.out] at hn; refine hn.mono ?_; rintro e w6 ⟨A6, c6, rfl, ha6, hfr6, hr, hg⟩; have hB := below_step hB (Nat.le_refl _) hg (by intro k hk; injection hk with hk; omega); clear hg hn) | (go_at_call 36; refine (texts_same _ _ _ _ m _ (by omega) ha6 ((harrm.below hB).more hB.size)).mono ?_; rintro e w7 ⟨rfl, hb3⟩; have hr := Rdr.below hr hb3 hr.lt; have hB := below_next hB (Nat.le_refl _) hb3; clear hb3) | (go_at_call 19; have hn := end_any _ _ _ hr ok4; rw [R5.out] at hn; refine hn.mono ?_; rintro e w8 ⟨rfl, hr, hg⟩; have hB := below_step hB (Nat.le_refl _) hg (by intro k hk; injection hk with hk; omega); clear hg hn))
          go_ret
          exact ⟨rfl, hB⟩
        · have hr : listR NumOk numB 2 l = (ByteArray.empty, 2) := if_neg hlo
          have hc1 := fun w => code_num n w hn0 hn1
          have hc3 := fun A c w => code_nums A c l w (by omega) hbl
          rw [(numok_S hno).2] at hc1
          rw [hr] at hc3
          generalize numS n = a at hc1
          generalize txtS s = b at hc2
          have HC1 := Lib.hid hc1
          have HC2 := Lib.hid hc2
          have HC3 := Lib.hid hc3
          have HC4 := Lib.hid hc4
          clear hc1 hc2 hc3 hc4 hr hlo hmo hmk hso hno HO
          go_wp2_with (first | (go_at_call 14; refine (awake_any _).mono ?_; rintro e w10 ⟨rfl, hb3⟩; have hB := below_next hB (Nat.le_refl _) hb3; clear hb3) | (go_at_call 12; refine (HC1.out _).mono ?_; rintro e w11 ⟨rfl, hb3⟩; have hB := below_next hB (Nat.le_refl _) hb3; clear hb3) | (go_at_call 20; refine (HC2.out _).mono ?_; rintro e w12 ⟨rfl, hb3⟩; have hB := below_next hB (Nat.le_refl _) hb3; clear hb3) | (go_at_call 30; refine (HC3.out _ _ _ ((harrl.below hB).more hB.size)).mono ?_; rintro e w13 ⟨rfl, hb3⟩; have hB := below_next hB (Nat.le_refl _) hb3; clear hb3) | (go_at_call 32; refine (HC4.out _ _ _ ((harrm.below hB).more hB.size)).mono ?_; rintro e w14 ⟨rfl, hb3⟩; have hB := below_next hB (Nat.le_refl _) hb3; clear hb3))
          go_ret
          exact ⟨rfl, hB⟩
      · have hc1 := fun w => code_num n w hn0 hn1
        have hc3 := fun A c w => code_nums A c l w (by omega) hbl
        rw [(numok_no hno).1, (numok_no hno).2] at hc1
        generalize txtS s = b at hc2
        have HC1 := Lib.hid hc1
        have HC2 := Lib.hid hc2
        have HC3 := Lib.hid hc3
        have HC4 := Lib.hid hc4
        clear hc1 hc2 hc3 hc4 hmo hmk hso hno HO
        go_wp2_with (first | (go_at_call 14; refine (awake_any _).mono ?_; rintro e w10 ⟨rfl, hb3⟩; have hB := below_next hB (Nat.le_refl _) hb3; clear hb3) | (go_at_call 12; refine (HC1.out _).mono ?_; rintro e w11 ⟨rfl, hb3⟩; have hB := below_next hB (Nat.le_refl _) hb3; clear hb3) | (go_at_call 20; refine (HC2.out _).mono ?_; rintro e w12 ⟨rfl, hb3⟩; have hB := below_next hB (Nat.le_refl _) hb3; clear hb3) | (go_at_call 30; refine (HC3.out _ _ _ ((harrl.below hB).more hB.size)).mono ?_; rintro e w13 ⟨rfl, hb3⟩; have hB := below_next hB (Nat.le_refl _) hb3; clear hb3) | (go_at_call 32; refine (HC4.out _ _ _ ((harrm.below hB).more hB.size)).mono ?_; rintro e w14 ⟨rfl, hb3⟩; have hB := below_next hB (Nat.le_refl _) hb3; clear hb3))
        go_ret
        exact ⟨rfl, hB⟩
end Go.Proofs.Ytgcghcmmcljiiaa
