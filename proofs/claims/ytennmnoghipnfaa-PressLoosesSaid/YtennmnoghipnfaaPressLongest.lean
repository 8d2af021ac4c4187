/- The walk through the finder's longest. -/
import Derived.Test.YtennmnoghipnfaaPressPut
namespace Go.Proofs.Ytennmnoghipnfaa
open Go.RowKit
set_option linter.unusedVariables false

set_option maxHeartbeats 2000000 in
set_option maxRecDepth 100000 in
theorem longest_any (f g d n : Nat) (s : ByteArray) (w : World) (h : Fin_ w f g s d) (hd : d ≤ n) (hn : n ≤ s.size) (h1 : s.size ≤ 1048576) :
    Calls Try.prog 24 #[.pointer (some ⟨f, 0, none⟩), .int .i64 n] w fun e w' => e = .returned (.tuple #[.int .i64 ((bst s.data.toList n).1 : Nat), .int .i64 ((bst s.data.toList n).2 : Nat)]) ∧ (∃ d', d' ≤ n ∧ Fin_ w' f g s d') ∧ Fr (fun k => k = f ∨ k = g) w w' := by
  have c0 := h.c0
  by_cases hs : s.size < n + 4
  · have hb := Lib.hid (bst_short (t := s.data.toList) (at_ := n) (by rw [← ba_size]; exact hs) (by rw [← ba_size]; exact hn))
    have hg : (s.size : Int) < (n : Int) + 4 := by omega
    go_enter Try.func24, Try.ntmps24
    go_wp2
    go_ret2
    rw [hb.out]
    exact ⟨rfl, ⟨d, hd, h⟩, Fr.refl _ _⟩
  · have hg : ¬ (s.size : Int) < (n : Int) + 4 := by omega
    have HI := Lib.hid (ch_init s.data.toList n)
    go_enter Try.func24, Try.ntmps24
    go_wp2_with (go_at_call 42; refine (put_any f g d n s _ h hd (by omega) h1).mono ?_; rintro e w1 ⟨rfl, hF, hR⟩; have c1 := hF.c0)
    obtain ⟨q, hq⟩ := Int.eq_ofNat_of_zero_le (slotAt_ge s.data.toList n)
    have hq4 : q < 4096 := by have := slotAt_lt s.data.toList n; omega
    have ch := hF.ch hq4
    have hS := fun W => slot_at s n W (by omega) h1
    rw [hq] at hS
    have HS := Lib.hid hS
    clear hS
    have n0 : (0 : Int) ≤ n := by omega
    have n1 : (n : Int) ≤ s.size := by omega
    have q0 : (0 : Int) ≤ q := by omega
    have q1 : (q : Int) < 4096 := by omega
    have HQ := Lib.hid hq
    clear hq
    go_quiet ((go_at_call 43; exact Calls.quiet_of (HS.out _)))
    go_wp2
    have hF2 := hF.drewN nq
    have hR2 := hR.drewN nq
    have c2 := hF2.c0
    have cp2 := hF2.cp
    rw [← HQ.out]
    clear hF hR c1 ch HS c0
    generalize w1.drewN nq = w2 at hF2 hR2 c2 cp2 ⊢
    go_loopw [8, 6, 7] (fun v8 v6 v7 wr => ∃ (p back size m : Nat), v8 = .int .i64 p ∧ v6 = .int .i64 back ∧ v7 = .int .i64 size ∧ p ≤ n ∧ Hid (0 < p → slotAt s.data.toList (p - 1) = slotAt s.data.toList n) ∧ Hid (Fnd (best (alf s.data.toList n) (min (n - p) 4096)) back size) ∧ back ≤ n ∧ size ≤ 259 ∧ wr = w2.drewN m) (fun v8 _ _ _ => (intOf v8).toNat)
    case atStart => exact ⟨_, 0, 0, 0, rfl, rfl, rfl, lastAt_le _ _ _, Lib.hid (fun h0 => lastAt_is _ _ _ h0), HI, Nat.zero_le _, Nat.zero_le _, rfl⟩
    case round =>
      obtain ⟨p, back, size, m, rfl, rfl, rfl, hp, HP, HB, hba, hsi, rfl⟩ := hrel
      have cm : (w2.drewN m).cell? ⟨f, 0, none⟩ = some (.string s) := c2
      have cpm : (w2.drewN m).cell? ⟨f, 4097, none⟩ = some (.slice (some ⟨g, 0, none⟩) s.size s.size) := cp2
      by_cases hp0 : 0 < p
      · by_cases hfar : n - (p - 1) ≤ 4096
        · have HN := Lib.hid (ch_step hp0 hp hfar HB.out)
          have hsl := HP.out hp0
          have cr := hF2.cr (j := p - 1) (by omega)
          rw [hsl] at cr
          have HL := Lib.hid (lastAt_is (slotAt s.data.toList) (slotAt s.data.toList n) (p - 1))
          have hll := lastAt_le (slotAt s.data.toList) (slotAt s.data.toList n) (p - 1)
          have hal := al_le s.data.toList 259 (p - 1) n
          have HA := Lib.hid (fun W => alike_any s (p - 1) n 259 W (by omega) hn (Nat.le_refl _) h1)
          clear hsl HP HB HI
          generalize lastAt (slotAt s.data.toList) (slotAt s.data.toList n) (p - 1) = l at cr HL hll HN
          generalize al s.data.toList (p - 1) n 259 = a at hal HA HN
          obtain ⟨p, rfl⟩ : ∃ p', p = p' + 1 := ⟨p - 1, by omega⟩
          rw [Nat.add_sub_cancel] at hfar HN cr HA hll
          have hd2 : (n : Int) - p ≤ 4096 := by omega
          have hd3 : decide ((n : Int) - p ≤ 4096) = true := decide_eq_true hd2
          have k0 : (0 : Int) ≤ p := by omega
          have k1 : (p : Int) < s.size := by omega
          by_cases hla : size < a
          · rw [if_pos hla, if_pos hla] at HN
            go_wp2_with (go_at_call 44; refine (HA.out _).mono ?_; rintro e w3 ⟨m3, rfl, rfl⟩; have cpm3 : ((w2.drewN m).drewN m3).cell? ⟨f, 4097, none⟩ = some (.slice (some ⟨g, 0, none⟩) s.size s.size) := cp2; have cr3 : ((w2.drewN m).drewN m3).cell? ⟨g, p, none⟩ = some (.int .i64 (l : Int)) := cr)
            exact ⟨⟨l, n - p, a, m + m3, rfl, by go_num, rfl, by omega, HL, HN, by omega, hal, rfl⟩, by simp [intOf]; omega⟩
          · rw [if_neg hla, if_neg hla] at HN
            go_wp2_with (go_at_call 44; refine (HA.out _).mono ?_; rintro e w3 ⟨m3, rfl, rfl⟩; have cpm3 : ((w2.drewN m).drewN m3).cell? ⟨f, 4097, none⟩ = some (.slice (some ⟨g, 0, none⟩) s.size s.size) := cp2; have cr3 : ((w2.drewN m).drewN m3).cell? ⟨g, p, none⟩ = some (.int .i64 (l : Int)) := cr)
            exact ⟨⟨l, back, size, m + m3, rfl, rfl, rfl, by omega, HL, HN, hba, hsi, rfl⟩, by simp [intOf]; omega⟩
        · have HE := Lib.hid (ch_end (.inr (by omega)) HB.out)
          have hd2 : ¬ (n : Int) - ((p : Int) - 1) ≤ 4096 := by omega
          have hd3 : decide ((n : Int) - ((p : Int) - 1) ≤ 4096) = false := decide_eq_false hd2
          clear HP HB HI
          by_cases hz : size < 4
          · have HZ := Lib.hid (fnd_lt HE.out hz)
            go_wp2
            go_ret2
            rw [HZ.out]
            exact ⟨rfl, ⟨n, Nat.le_refl _, hF2.drewN m⟩, hR2.drewN m⟩
          · have HZ := Lib.hid (fnd_ge HE.out hz)
            go_wp2
            go_ret2
            rw [HZ.out]
            exact ⟨rfl, ⟨n, Nat.le_refl _, hF2.drewN m⟩, hR2.drewN m⟩
      · have HE := Lib.hid (ch_end (.inl (by omega)) HB.out)
        obtain rfl : p = 0 := by omega
        clear HP HB HI
        by_cases hz : size < 4
        · have HZ := Lib.hid (fnd_lt HE.out hz)
          go_wp2
          go_ret2
          rw [HZ.out]
          exact ⟨rfl, ⟨n, Nat.le_refl _, hF2.drewN m⟩, hR2.drewN m⟩
        · have HZ := Lib.hid (fnd_ge HE.out hz)
          go_wp2
          go_ret2
          rw [HZ.out]
          exact ⟨rfl, ⟨n, Nat.le_refl _, hF2.drewN m⟩, hR2.drewN m⟩
end Go.Proofs.Ytennmnoghipnfaa
