/- The walks through slot and alike. -/
import Derived.Test.YtennmnoghipnfaaPressPlain
import Derived.Test.YtennmnoghipnfaaRdWalk
namespace Go.Proofs.Ytennmnoghipnfaa
open Go.RowKit
set_option linter.unusedVariables false

/-- Four bytes as one number, and its slot. -/
def fourN (a b c d : UInt8) : Int := bits BinOp.or IntKind.u32 (bits BinOp.or IntKind.u32 (bits BinOp.or IntKind.u32 ((a.toNat : Int) % 4294967296) ((b.toNat : Int) % 4294967296 * 256 % 4294967296)) ((c.toNat : Int) % 4294967296 * 65536 % 4294967296)) ((d.toNat : Int) % 4294967296 * 16777216 % 4294967296)
def slotN (a b c d : UInt8) : Int := fourN a b c d * 2654435761 % 4294967296 / 1048576
theorem slotN_ge (a b c d : UInt8) : 0 ≤ slotN a b c d := by unfold slotN; omega
theorem slotN_lt (a b c d : UInt8) : slotN a b c d < 4096 := by unfold slotN; omega
theorem f_slot_get (s : ByteArray) (i : Nat) (h : i < s.size) : s[i] = bat s.data.toList i := by
  unfold bat
  rw [List.getD_eq_getElem?_getD, List.getElem?_eq_getElem (by rw [← ba_size]; exact h)]
  rfl

set_option maxHeartbeats 1000000 in
set_option maxRecDepth 100000 in
theorem slot_any (s : ByteArray) (w : World) (h : 4 ≤ s.size) (h1 : s.size ≤ 1048576) :
    Calls Try.prog 43 #[.string s] w fun e w' => ∃ n, e = .returned (.int .i64 (slotN (bat s.data.toList 0) (bat s.data.toList 1) (bat s.data.toList 2) (bat s.data.toList 3))) ∧ w' = w.drewN n := by
  have i0 : 0 < s.size := by omega
  have i1 : (1 : Int) < (s.size : Int) := by omega
  have i2 : (2 : Int) < (s.size : Int) := by omega
  have i3 : (3 : Int) < (s.size : Int) := by omega
  go_enter Try.func43, Try.ntmps43
  go_wp2
  go_region
  rw [f_slot_get s 0 (by omega), f_slot_get s 1 (by omega), f_slot_get s 2 (by omega), f_slot_get s 3 (by omega)]
  obtain ⟨x, hx⟩ : ∃ x, Hid (x = fourN (bat s.data.toList 0) (bat s.data.toList 1) (bat s.data.toList 2) (bat s.data.toList 3)) := ⟨_, rfl⟩
  have hx' := hx.out
  unfold fourN at hx'
  rw [← hx']
  clear hx'
  have hs : Hid (slotN (bat s.data.toList 0) (bat s.data.toList 1) (bat s.data.toList 2) (bat s.data.toList 3) = x * 2654435761 % 4294967296 / 1048576) := by rw [hx.out]; rfl
  clear hx
  go_wp2
  go_ret
  refine ⟨1, ?_, rfl⟩
  rw [hs.out]
  rfl

theorem al_stop {t : List UInt8} {a b n : Nat} (h : ¬ (0 < n ∧ b < t.length ∧ bat t a = bat t b)) : al t a b n = 0 := by
  cases n with
  | zero => rfl
  | succ n => rw [al, if_neg (by intro h2; exact h ⟨by omega, h2⟩)]
theorem al_go {t : List UInt8} {a b n k : Nat} (h0 : k < n) (h1 : b + k < t.length) (h2 : bat t (a + k) = bat t (b + k)) (H : Hid (k + al t (a + k) (b + k) (n - k) = al t a b n)) :
    Hid (k + 1 + al t (a + (k + 1)) (b + (k + 1)) (n - (k + 1)) = al t a b n) := by
  have := H.out
  obtain ⟨j, hj⟩ : ∃ j, n - k = j + 1 := ⟨n - k - 1, by omega⟩
  rw [hj, al, if_pos ⟨h1, h2⟩] at this
  rw [show n - (k + 1) = j by omega]
  exact Lib.hid (by rw [← this]; simp only [Nat.add_assoc]; omega)

set_option maxHeartbeats 1000000 in
set_option maxRecDepth 100000 in
theorem alike_any (s : ByteArray) (a b n : Nat) (w : World) (hab : a ≤ b) (hb : b ≤ s.size) (hn : n ≤ 259) (h1 : s.size ≤ 1048576) :
    Calls Try.prog 44 #[.string s, .int .i64 a, .int .i64 b, .int .i64 n] w fun e w' => ∃ m, e = .returned (.int .i64 (al s.data.toList a b n : Nat)) ∧ w' = w.drewN m := by
  go_enter Try.func44, Try.ntmps44
  go_wp2
  go_loopw [9] (fun v9 wr => ∃ (k m : Nat), k ≤ n ∧ v9 = .int .i64 k ∧ b + k ≤ s.size ∧ Hid (k + al s.data.toList (a + k) (b + k) (n - k) = al s.data.toList a b n) ∧ wr = w.drewN m) (fun v9 _ => n - (intOf v9).toNat)
  case atStart => exact ⟨0, 0, Nat.zero_le _, rfl, by omega, by simp [Hid], rfl⟩
  case round =>
    obtain ⟨k, m, hk, rfl, hbk, H, rfl⟩ := hrel
    by_cases hkn : k < n
    · by_cases hlt : b + k < s.size
      · have g1 := f_slot_get s (a + k) (by omega)
        have g2 := f_slot_get s (b + k) (by omega)
        by_cases he : bat s.data.toList (a + k) = bat s.data.toList (b + k)
        · have hst := al_go hkn (by rw [← ba_size]; exact hlt) he H
          have hd1 : decide ((k : Int) < n) = true := by simpa using hkn
          have hw1 : IntKind.i64.wrap ((a : Int) + k) = (a : Int) + k := by rw [IntKind.wrap_i64]; omega
          have hw2 : IntKind.i64.wrap ((b : Int) + k) = (b : Int) + k := by rw [IntKind.wrap_i64]; omega
          have hd2 : decide ((b : Int) + k < s.size) = true := decide_eq_true (by omega)
          have hi1 : (a : Int) + k < s.size := by omega
          have hi2 : (b : Int) + k < s.size := by omega
          have hj1 : 0 ≤ (a : Int) + k := by omega
          have hj2 : 0 ≤ (b : Int) + k := by omega
          go_wp2
          go_quiet (fail)
          go_wp2
          go_roundw
          case rel => exact ⟨k + 1, _, by omega, by go_num, by omega, hst, rfl⟩
          case measure => simp [intOf]; omega
        · have hz := al_stop (t := s.data.toList) (a := a + k) (b := b + k) (n := n - k) (fun h => he h.2.2)
          have hd1 : decide ((k : Int) < n) = true := by simpa using hkn
          have hw1 : IntKind.i64.wrap ((a : Int) + k) = (a : Int) + k := by rw [IntKind.wrap_i64]; omega
          have hw2 : IntKind.i64.wrap ((b : Int) + k) = (b : Int) + k := by rw [IntKind.wrap_i64]; omega
          have hd2 : decide ((b : Int) + k < s.size) = true := decide_eq_true (by omega)
          have hi1 : (a : Int) + k < s.size := by omega
          have hi2 : (b : Int) + k < s.size := by omega
          have hj1 : 0 ≤ (a : Int) + k := by omega
          have hj2 : 0 ≤ (b : Int) + k := by omega
          have hne : (((bat s.data.toList (a + k)).toNat : Int) == ((bat s.data.toList (b + k)).toNat : Int)) = false := by
            rw [beq_eq_false_iff_ne]
            intro h
            exact he (UInt8.toNat_inj.1 (by omega))
          have hr := H.out
          rw [hz] at hr
          have HR := Lib.hid hr
          clear hz hr H
          go_wp2
          go_quiet (fail)
          go_wp2
          go_ret
          exact ⟨_, by rw [← HR.out]; rfl, World.drewN_drewN _ _ _⟩
      · have hz := al_stop (t := s.data.toList) (a := a + k) (b := b + k) (n := n - k) (fun h => hlt (by rw [ba_size]; exact h.2.1))
        have hd1 : decide ((k : Int) < n) = true := by simpa using hkn
        have hw2 : IntKind.i64.wrap ((b : Int) + k) = (b : Int) + k := by rw [IntKind.wrap_i64]; omega
        have hd2 : decide ((b : Int) + k < s.size) = false := decide_eq_false (by omega)
        have hr := H.out
        rw [hz] at hr
        have HR := Lib.hid hr
        clear hz hr H
        go_wp2
        go_quiet (fail)
        go_wp2
        go_ret
        exact ⟨_, by rw [← HR.out]; rfl, World.drewN_drewN _ _ _⟩
    · have hz := al_stop (t := s.data.toList) (a := a + k) (b := b + k) (n := n - k) (fun h => hkn (by omega))
      have hd1 : decide ((k : Int) < n) = false := decide_eq_false (by omega)
      have hr := H.out
      rw [hz] at hr
      have HR := Lib.hid hr
      clear hz hr H
      go_wp2
      go_quiet (fail)
      go_wp2
      go_ret
      exact ⟨_, by rw [← HR.out]; rfl, World.drewN_drewN _ _ _⟩
end Go.Proofs.Ytennmnoghipnfaa
