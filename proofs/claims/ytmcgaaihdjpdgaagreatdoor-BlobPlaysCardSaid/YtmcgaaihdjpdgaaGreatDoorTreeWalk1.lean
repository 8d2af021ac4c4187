/- The walks through Order, name, Within, mode, and the reference's. -/
import Derived.Test.YtmcgaaihdjpdgaaGreatDoorTreePlain2
import Derived.BigQuiet
namespace Go.Proofs.YtmcgaaihdjpdgaaGreatDoor
open Go.RowKit
set_option linter.unusedVariables false

theorem below_on {w b c : World} (h : Below w.heap.size w b) (g : Below b.heap.size b c) : Below w.heap.size w c := h.trans (g.mono h.size)
theorem below_drewN {a w : World} (h : Below a.heap.size a w) (n : Nat) : Below a.heap.size a (w.drewN n) := ⟨h.os, h.tape, h.output, h.size, h.block⟩
theorem ne_toNat {x y : UInt8} (h : x ≠ y) : ((x.toNat : Int) == (y.toNat : Int)) = false := by
  rw [beq_eq_false_iff_ne]
  intro e
  exact h (UInt8.toNat_inj.1 (by omega))
theorem ne_toNat' {x y : UInt8} (h : x ≠ y) : ¬ (x.toNat : Int) = (y.toNat : Int) := by
  intro e
  exact h (UInt8.toNat_inj.1 (by omega))

set_option maxHeartbeats 1000000 in
set_option maxRecDepth 100000 in
theorem order_any (a b : ByteArray) (w : World) (ha : a.size ≤ 9223372036854775807) (hb : b.size ≤ 9223372036854775807) :
    Calls Tryz.prog 97 #[.string a, .string b] w fun e w' => e = .returned (.int .i64 (ordL a.data.toList b.data.toList)) ∧ ∃ m, w' = w.drewN m := by
  go_enter Tryz.func97, Tryz.ntmps97
  go_wp2
  obtain ⟨M, hM⟩ : ∃ M : Nat, min (a.size : Int) (b.size : Int) = (M : Int) := ⟨min a.size b.size, by omega⟩
  rw [hM]
  have la := bt_size a
  have lb := bt_size b
  go_loopw [13] (fun v wr => ∃ (k m : Nat), k ≤ M ∧ v = .int .i64 k ∧ Hid (ordL a.data.toList b.data.toList = ordL (a.data.toList.drop k) (b.data.toList.drop k)) ∧ wr = w.drewN m) (fun v _ => M - (intOf v).toNat)
  case atStart => exact ⟨0, 0, Nat.zero_le _, rfl, by simp [Hid], rfl⟩
  case round =>
    obtain ⟨k, m, hk, rfl, H, rfl⟩ := hrel
    by_cases hlt : k < M
    · have ka : k < a.size := by omega
      have kb : k < b.size := by omega
      have g1 := bt_get a k ka
      have g2 := bt_get b k kb
      have i1 : (k : Int) < a.size := by omega
      have i2 : (k : Int) < b.size := by omega
      have i0 : 0 ≤ (k : Int) := by omega
      by_cases he : bt a.data.toList k = bt b.data.toList k
      · have hst := Lib.hid (H.out.trans (ord_same (by omega) (by omega) he))
        clear H la lb hM
        go_wp2
        go_quiet (fail)
        go_wp2
        go_roundw
        case rel => exact ⟨k + 1, _, by omega, by go_num, hst, rfl⟩
        case measure => simp [intOf]; omega
      · have hr := H.out.trans (ord_stop (by omega) (by omega) he)
        have hne := ne_toNat he
        have hne2 := ne_toNat' he
        clear H la lb hM
        generalize bt a.data.toList k = x at *
        generalize bt b.data.toList k = y at *
        have bx := x.toNat_lt
        have byy := y.toNat_lt
        by_cases hx : x = 47
        · rw [if_pos hx] at hr
          have hxi : (x.toNat : Int) = 47 := by rw [hx]; rfl
          rw [hxi] at hne hne2
          clear hx
          have HR := Lib.hid hr
          clear hr he
          go_wp2
          go_quiet (fail)
          go_wp2
          go_ret
          exact ⟨by rw [HR.out]; rfl, _, rfl⟩
        · rw [if_neg hx] at hr
          have hx1 : ((x.toNat : Int) == 47) = false := ne_toNat (y := 47) hx
          have hx2 : ¬ (x.toNat : Int) = 47 := ne_toNat' (y := 47) hx
          by_cases hy : y = 47
          · rw [if_pos hy] at hr
            have hyi : (y.toNat : Int) = 47 := by rw [hy]; rfl
            clear hy
            have HR := Lib.hid hr
            clear hr he
            go_wp2
            go_quiet (fail)
            go_wp2
            go_ret
            exact ⟨by rw [HR.out]; rfl, _, rfl⟩
          · rw [if_neg hy] at hr
            have hy1 : ((y.toNat : Int) == 47) = false := ne_toNat (y := 47) hy
            have hy2 : ¬ (y.toNat : Int) = 47 := ne_toNat' (y := 47) hy
            have HR := Lib.hid hr
            clear hr he
            go_wp2
            go_quiet (fail)
            go_wp2
            go_ret
            exact ⟨by rw [HR.out]; rfl, _, rfl⟩
    · have hr := H.out.trans (ord_end (by omega) (by omega) (by omega))
      rw [← la, ← lb] at hr
      have HR := Lib.hid hr
      clear H la lb hM hr
      go_wp2
      go_ret
      exact ⟨by rw [HR.out]; rfl, _, rfl⟩
end Go.Proofs.YtmcgaaihdjpdgaaGreatDoor
