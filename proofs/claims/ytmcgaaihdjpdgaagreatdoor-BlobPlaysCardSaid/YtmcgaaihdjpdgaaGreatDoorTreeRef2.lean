/- The walks through the reference's Order, Within. -/
import Derived.Test.YtmcgaaihdjpdgaaGreatDoorTreeRef1
import Derived.BigQuiet
namespace Go.Proofs.YtmcgaaihdjpdgaaGreatDoor
open Go.RowKit
set_option linter.unusedVariables false

section
variable {a b : List UInt8} {i : Nat}
theorem ordS_less (ha : i < a.length) (hb : i < b.length) (h : key (bt a i) < key (bt b i)) : ordS (a.drop i) (b.drop i) = -1 := by
  rw [bt_drop ha, bt_drop hb, ordS, if_pos h]
theorem ordS_more (ha : i < a.length) (hb : i < b.length) (h : key (bt b i) < key (bt a i)) : ordS (a.drop i) (b.drop i) = 1 := by
  rw [bt_drop ha, bt_drop hb, ordS, if_neg (by omega), if_pos h]
theorem ordS_long (ha : i < a.length) (hb : b.length ≤ i) : ordS (a.drop i) (b.drop i) = 1 := by
  rw [bt_drop ha, List.drop_eq_nil_of_le hb, ordS]
theorem ordS_short (ha : a.length ≤ i) (hb : i < b.length) : ordS (a.drop i) (b.drop i) = -1 := by
  rw [bt_drop hb, List.drop_eq_nil_of_le ha, ordS]
theorem ordS_end (ha : a.length ≤ i) (hb : b.length ≤ i) : ordS (a.drop i) (b.drop i) = 0 := by
  rw [List.drop_eq_nil_of_le ha, List.drop_eq_nil_of_le hb, ordS]
theorem key_47 : key 47 = 0 := rfl
theorem key_no {x : UInt8} (h : x ≠ 47) : key x = x.toNat + 1 := if_neg h
end

set_option maxHeartbeats 2000000 in
set_option maxRecDepth 100000 in
theorem order_ref (a b : ByteArray) (w : World) (ha : a.size ≤ 9223372036854775807) (hb : b.size ≤ 9223372036854775807) :
    Calls Tryz.prog 80 #[.string a, .string b] w fun e w' => e = .returned (.int .i64 (ordS a.data.toList b.data.toList)) ∧ w = w' := by
  have la := bt_size a
  have lb := bt_size b
  have ga := Lib.hid (bt_get a)
  have gb := Lib.hid (bt_get b)
  generalize a.data.toList = L at *
  generalize b.data.toList = M at *
  have LA := Lib.hid la
  have LB := Lib.hid lb
  clear la lb
  generalize hR : ordS L M = R
  have HR : Hid (ordS (L.drop 0) (M.drop 0) = R) := Lib.hid hR
  clear hR
  go_enter Tryz.func80, Tryz.ntmps80
  go_wp2
  go_loop [5] (fun v => ∃ (k : Nat), (k ≤ a.size ∨ k ≤ b.size) ∧ v = .int .i64 k ∧ Hid (ordS (L.drop k) (M.drop k) = R)) (fun v => a.size + b.size - (intOf v).toNat)
  case atStart => exact ⟨0, .inl (Nat.zero_le _), rfl, HR⟩
  case round =>
    obtain ⟨k, hk, rfl, H⟩ := hrel
    have zA := LA.out
    have zB := LB.out
    by_cases h1 : k < a.size
    · have g1 := ga.out k h1
      have i1 : (k : Int) < a.size := by omega
      have b1 := (bt L k).toNat_lt
      by_cases h2 : k < b.size
      · have g2 := gb.out k h2
        have i2 : (k : Int) < b.size := by omega
        have b2 := (bt M k).toNat_lt
        by_cases he : bt L k = bt M k
        · have hst := Lib.hid ((ordS_same (by omega) (by omega) he).symm.trans H.out)
          rw [← he] at g2
          clear zA zB H he
          generalize bt L k = x at *
          by_cases hx : x = 47
          · subst hx
            have x1 : (((47 : UInt8).toNat : Int) == 47) = true := rfl
            clear b1 b2
            go_wp2
            go_round
            case rel => exact ⟨k + 1, by omega, by go_num, hst⟩
            case measure => simp [intOf] <;> omega
          · have x1 : ((x.toNat : Int) == 47) = false := ne_toNat (y := 47) hx
            clear hx
            go_wp2
            go_round
            case rel => exact ⟨k + 1, by omega, by go_num, hst⟩
            case measure => simp [intOf] <;> omega
        · have hne : key (bt L k) ≠ key (bt M k) := fun h => he (key_inj h)
          have hl := fun h => (ordS_less (a := L) (b := M) (i := k) (by omega) (by omega) h).symm.trans H.out
          have hm := fun h => (ordS_more (a := L) (b := M) (i := k) (by omega) (by omega) h).symm.trans H.out
          clear zA zB H
          generalize bt L k = x at *
          generalize bt M k = y at *
          by_cases hx : x = 47
          · have hy : y ≠ 47 := fun h => he (by rw [hx, h])
            have hr := Lib.hid (hl (by rw [hx, key_47, key_no hy]; omega))
            have x1 : ((x.toNat : Int) == 47) = true := by rw [hx]; rfl
            have y1 : ((y.toNat : Int) == 47) = false := ne_toNat (y := 47) hy
            clear hl hm hne he hx hy
            go_wp2
            go_ret
            exact ⟨by rw [← hr.out]; rfl, rfl⟩
          · have x1 : ((x.toNat : Int) == 47) = false := ne_toNat (y := 47) hx
            by_cases hy : y = 47
            · have hr := Lib.hid (hm (by rw [hy, key_47, key_no hx]; omega))
              have y1 : ((y.toNat : Int) == 47) = true := by rw [hy]; rfl
              clear hl hm hne he hx hy
              go_wp2
              go_ret
              exact ⟨by rw [← hr.out]; rfl, rfl⟩
            · have y1 : ((y.toNat : Int) == 47) = false := ne_toNat (y := 47) hy
              rw [key_no hx, key_no hy] at hl hm hne
              by_cases hlt : x.toNat < y.toNat
              · have hr := Lib.hid (hl (by omega))
                clear hl hm he hx hy
                go_wp2
                go_ret
                exact ⟨by rw [← hr.out]; rfl, rfl⟩
              · have hr := Lib.hid (hm (by omega))
                have hgt : y.toNat < x.toNat := by omega
                clear hl hm he hx hy hne
                go_wp2
                go_ret
                exact ⟨by rw [← hr.out]; rfl, rfl⟩
      · have hr := Lib.hid ((ordS_long (a := L) (b := M) (i := k) (by omega) (by omega)).symm.trans H.out)
        have i2 : ¬ (k : Int) < b.size := by omega
        clear zA zB H
        generalize bt L k = x at *
        by_cases hx : x = 47
        · have x1 : ((x.toNat : Int) == 47) = true := by rw [hx]; rfl
          clear hx
          go_wp2
          go_ret
          exact ⟨by rw [← hr.out]; rfl, rfl⟩
        · have x1 : ((x.toNat : Int) == 47) = false := ne_toNat (y := 47) hx
          clear hx
          go_wp2
          go_ret
          exact ⟨by rw [← hr.out]; rfl, rfl⟩
    · have i1 : ¬ (k : Int) < a.size := by omega
      by_cases h2 : k < b.size
      · have g2 := gb.out k h2
        have i2 : (k : Int) < b.size := by omega
        have b2 := (bt M k).toNat_lt
        have hr := Lib.hid ((ordS_short (a := L) (b := M) (i := k) (by omega) (by omega)).symm.trans H.out)
        clear zA zB H
        generalize bt M k = y at *
        by_cases hy : y = 47
        · have y1 : ((y.toNat : Int) == 47) = true := by rw [hy]; rfl
          clear hy
          go_wp2
          go_ret
          exact ⟨by rw [← hr.out]; rfl, rfl⟩
        · have y1 : ((y.toNat : Int) == 47) = false := ne_toNat (y := 47) hy
          clear hy
          go_wp2
          go_ret
          exact ⟨by rw [← hr.out]; rfl, rfl⟩
      · have i2 : ¬ (k : Int) < b.size := by omega
        have hr := Lib.hid ((ordS_end (a := L) (b := M) (i := k) (by omega) (by omega)).symm.trans H.out)
        clear zA zB H
        go_wp2
        go_ret
        exact ⟨by rw [← hr.out]; rfl, rfl⟩

theorem ret_bool {a b : Bool} (h : a = b) : Ending.returned (.bool a) = .returned (.bool b) := by rw [h]
theorem app_list (i : ByteArray) : (i ++ (⟨#[47]⟩ : ByteArray)).data.toList = i.data.toList ++ [47] := by
  rw [ByteArray.data_append, Array.toList_append]
theorem within_alt (s i : ByteArray) (h : i.size < s.size) : within s.data.toList i.data.toList = ((s.extract 0 (i.size + 1)).data.toList == i.data.toList ++ [47]) := by
  unfold within
  have la := bt_size s
  have lb := bt_size i
  rw [extract_list s 0 (i.size + 1) (by omega), List.drop_zero, lb, bt_take (by omega), decide_eq_true (by omega), Bool.true_and]
  show (_ && (bt s.data.toList _ == 47)) = _
  rw [Bool.eq_iff_iff, Bool.and_eq_true, beq_iff_eq, beq_iff_eq, beq_iff_eq]
  constructor
  · rintro ⟨h1, h2⟩
    rw [h1, h2]
  · intro h1
    obtain ⟨e1, e2⟩ := List.append_inj' h1 rfl
    exact ⟨e1, by injection e2⟩
set_option maxHeartbeats 1000000 in
set_option maxRecDepth 100000 in
theorem within_ref (s i : ByteArray) (w : World) (hs : s.size ≤ 140737488355328) (hi : i.size ≤ 9223372036854775807) :
    Calls Tryz.prog 81 #[.string s, .string i] w fun e w' => e = .returned (.bool (within s.data.toList i.data.toList)) ∧ w = w' := by
  by_cases h : i.size < s.size
  · have k1 : (i.size : Int) < s.size := by omega
    have k2 : (i.size : Int) + 1 ≤ s.size := by omega
    rw [within_alt s i h]
    generalize hR : ((s.extract 0 (i.size + 1)).data.toList == i.data.toList ++ [47]) = R
    have HR := Lib.hid hR
    clear hR
    go_enter Tryz.func81, Tryz.ntmps81
    go_wp2
    go_ret
    exact ⟨ret_bool (by rw [← HR.out, ByteArray.toList_eq, ByteArray.toList_eq, app_list]), rfl⟩
  · have k1 : ¬ (i.size : Int) < s.size := by omega
    have hf : within s.data.toList i.data.toList = false := by unfold within; rw [← bt_size, ← bt_size, decide_eq_false h]; rfl
    rw [hf]
    clear hf
    go_enter Tryz.func81, Tryz.ntmps81
    go_wp2
    go_ret
    exact ⟨rfl, rfl⟩
end Go.Proofs.YtmcgaaihdjpdgaaGreatDoor
