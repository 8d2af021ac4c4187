/- The walk through the finder's put. -/
import Derived.Test.YtennmnoghipnfaaPressChain
namespace Go.Proofs.Ytennmnoghipnfaa
open Go.RowKit
set_option linter.unusedVariables false

theorem drop_bat (s : ByteArray) (d i : Nat) (h : d ≤ s.size) : bat (s.extract d s.size).data.toList i = bat s.data.toList (d + i) := by
  unfold bat
  rw [List.getD_eq_getElem?_getD, List.getD_eq_getElem?_getD]
  congr 1
  have : (s.extract d s.size).data.toList = s.data.toList.drop d := by
    rw [ByteArray.data_extract, Array.toList_extract, List.extract_eq_take_drop, List.take_of_length_le]
    rw [List.length_drop, ← ba_size]
    exact Nat.le_refl _
  rw [this, List.getElem?_drop]
theorem drop_slot (s : ByteArray) (d : Nat) (h : d ≤ s.size) :
    slotN (bat (s.extract d s.size).data.toList 0) (bat (s.extract d s.size).data.toList 1) (bat (s.extract d s.size).data.toList 2) (bat (s.extract d s.size).data.toList 3) = slotAt s.data.toList d := by
  rw [drop_bat s d 0 h, drop_bat s d 1 h, drop_bat s d 2 h, drop_bat s d 3 h]
  rfl

theorem slot_at (s : ByteArray) (d : Nat) (w : World) (h : d + 4 ≤ s.size) (h1 : s.size ≤ 1048576) :
    Calls Try.prog 43 #[.string (s.extract d s.size)] w fun e w' => e = .returned (.int .i64 (slotAt s.data.toList d)) ∧ ∃ n, w' = w.drewN n := by
  have hs : (s.extract d s.size).size = s.size - d := by simp
  refine (slot_any _ w (by omega) (by omega)).mono ?_
  rintro e w' ⟨n, rfl, rfl⟩
  rw [drop_slot s d (by omega)]
  exact ⟨rfl, n, rfl⟩

/-- How many places are in chains, as the finder's block says. -/
def doneOf (w : World) (f : Nat) : Nat := match w.cell? ⟨f, 4098, none⟩ with | some v => (intOf v).toNat | none => 0
theorem Fin_.doneOf {w : World} {f g d : Nat} {s : ByteArray} (h : Fin_ w f g s d) : doneOf w f = d := by
  unfold Go.Proofs.Ytennmnoghipnfaa.doneOf
  rw [h.cd]
  simp [intOf]
theorem done_lt {w w' : World} {f g n k : Nat} {s : ByteArray} (h' : Fin_ w' f g s (k + 1)) (h : Fin_ w f g s k) (hlt : k < n) : n - doneOf w' f < n - doneOf w f := by
  rw [h.doneOf, h'.doneOf]
  omega

set_option maxHeartbeats 1000000 in
set_option maxRecDepth 100000 in
theorem put_any (f g d n : Nat) (s : ByteArray) (w : World) (h : Fin_ w f g s d) (hd : d ≤ n) (hn : n + 4 ≤ s.size) (h1 : s.size ≤ 1048576) :
    Calls Try.prog 42 #[.pointer (some ⟨f, 0, none⟩), .int .i64 n] w fun e w' => e = .returned (.tuple #[]) ∧ Fin_ w' f g s n ∧ Fr (fun k => k = f ∨ k = g) w w' := by
  go_enter Try.func42, Try.ntmps42
  go_wp2
  go_loopw [] (fun wr => ∃ k, d ≤ k ∧ k ≤ n ∧ Fin_ wr f g s k ∧ Fr (fun k => k = f ∨ k = g) w wr) (fun wr => n - doneOf wr f)
  case atStart => exact ⟨d, by omega, by omega, h, Fr.refl _ _⟩
  case round =>
    obtain ⟨k, hk1, hk2, hF, hR⟩ := hrel
    have c0 := hF.c0
    have cd := hF.cd
    have hdo := hF
    by_cases hlt : k < n
    · have hd1 : decide ((k : Int) < n) = true := decide_eq_true (by omega)
      have hw1 : IntKind.i64.wrap ((k : Int) + 4) = (k : Int) + 4 := by rw [IntKind.wrap_i64]; omega
      have hd2 : decide ((k : Int) + 4 ≤ s.size) = true := decide_eq_true (by omega)
      go_wp2
      go_quiet (fail)
      have hF1 := hF.drewN nq
      have hR1 := hR.drewN nq
      clear hF hR c0 cd
      generalize wr.drewN nq = w1 at hF1 hR1 ⊢
      have c0 := hF1.c0
      have cd := hF1.cd
      have k0 : (0 : Int) ≤ k := by omega
      have k1 : (k : Int) ≤ s.size := by omega
      go_wp2
      go_quiet ((go_at_call 43; exact Calls.quiet_of (slot_at s k _ (by omega) h1)))
      have hF2 := hF1.drewN nq
      have hR2 := hR1.drewN nq
      clear hF1 hR1 c0 cd
      generalize w1.drewN nq = w2 at hF2 hR2 ⊢
      obtain ⟨q, hq⟩ := Int.eq_ofNat_of_zero_le (slotAt_ge s.data.toList k)
      have hq4 : q < 4096 := by have := slotAt_lt s.data.toList k; omega
      have HS := hF2.set (by omega)
      rw [hq] at HS ⊢
      rw [Int.toNat_natCast] at HS
      have cd := hF2.cd
      have cp := hF2.cp
      have ch := hF2.ch hq4
      obtain ⟨v0, ci⟩ := hF2.ci (j := k) (by omega)
      have gz := hF2.gz k
      have q0 : (0 : Int) ≤ q := by omega
      have q1 : (q : Int) < 4096 := by omega
      have k2 : (k : Int) < s.size := by omega
      go_wp2
      go_region
      obtain ⟨cs, hb, hc⟩ := hF2.blk
      have hne := hF2.ne
      have hb3 : Blk (w2.setCell ⟨g, k, none⟩ (.int .i64 (lastAt (slotAt s.data.toList) (q : Int) k : Nat))).drew f 44 cs := Blk.drew (hb.far (p := ⟨g, k, none⟩) (fun e => hne e.symm) _)
      have cd3 := hb3.cell 4098
      rw [hc.done] at cd3
      have ch3 := hb3.cell (1 + q)
      rw [hc.head q hq4] at ch3
      have fz3 := hb3.frozen (1 + q)
      have hcd := hc.done
      clear hb hc cd cp ch ci gz
      go_wp2
      go_region
      have hb4 : Blk ((w2.setCell ⟨g, k, none⟩ (.int .i64 (lastAt (slotAt s.data.toList) (q : Int) k : Nat))).setCell ⟨f, 1 + q, none⟩ (.int .i64 ((k : Int) + 1))).drew.drew f 44 (cs.setIfInBounds (1 + q) (.int .i64 ((k : Int) + 1))) := hb3.set_ (1 + q) _
      have cd4 := hb4.cell 4098
      rw [Array.getElem?_setIfInBounds_ne (by omega), hcd] at cd4
      have fz4 := hb4.frozen 4098
      clear hb3 cd3 ch3 fz3
      go_wp2
      go_roundw
      case rel => exact ⟨k + 1, by omega, by omega, HS.drewN 2, Fr.drew (Fr.drew (Fr.setCell (Fr.setCell (Fr.setCell hR2 (p := ⟨g, k, none⟩) (.inl (.inr rfl)) _) (p := ⟨f, 1 + q, none⟩) (.inl (.inl rfl)) _) (p := ⟨f, 4098, none⟩) (.inl (.inl rfl)) _))⟩
      case measure =>
        exact done_lt (HS.drewN 2) hdo hlt
    · have hd1 : decide ((k : Int) < n) = false := decide_eq_false (by omega)
      go_wp2
      go_quiet (fail)
      go_wp2
      go_returns
      obtain rfl : k = n := by omega
      exact ⟨rfl, hF.drewN _, hR.drewN _⟩
end Go.Proofs.Ytennmnoghipnfaa
