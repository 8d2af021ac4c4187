/- The walk of the law NetTwo. -/
import Derived.Test.YtpmjbkpooionbaaNetPlaysWalk
set_option linter.unusedVariables false
namespace Go.Proofs.Ytpmjbkpooionbaa
open Go.RowKit Go.Conc

/-- One net's step leaves the other net and its list as they are: 'mine' steps, 'other' stays. -/
structure Sides (w : World) (base1 b1 ch1 : Nat) (V1 : Value) (A1 : Option Addr) (L1 : List ByteArray) (s1 : Nat) (base2 b2 ch2 : Nat) (V2 : Value) (A2 : Option Addr) (L2 : List ByteArray) (s2 : Nat) : Prop where
  p1 : SP w base1 b1 ch1 V1 A1 L1 s1 0
  p2 : SP w base2 b2 ch2 V2 A2 L2 s2 0
  dis : ∀ k, NS b1 ch1 V1 k → ¬ NS b2 ch2 V2 k
  a12 : Apart b1 ch1 V1 A2 L2.length
  a21 : Apart b2 ch2 V2 A1 L1.length
section
variable {w w' : World} {base1 b1 ch1 s1 s1' base2 b2 ch2 s2 : Nat} {V1 V1' V2 : Value} {A1 A1' A2 : Option Addr} {L1 L1' L2 : List ByteArray}
theorem Sides.flip (h : Sides w base1 b1 ch1 V1 A1 L1 s1 base2 b2 ch2 V2 A2 L2 s2) : Sides w base2 b2 ch2 V2 A2 L2 s2 base1 b1 ch1 V1 A1 L1 s1 :=
  ⟨h.p2, h.p1, fun k h2 h1 => h.dis k h1 h2, h.a21, h.a12⟩
theorem Sides.step (h : Sides w base1 b1 ch1 V1 A1 L1 s1 base2 b2 ch2 V2 A2 L2 s2) (hP : SPost w w' base1 b1 ch1 V1 A1 L1.length L1' s1' 0 V1' A1') : Sides w' base1 b1 ch1 V1' A1' L1' s1' base2 b2 ch2 V2 A2 L2 s2 := by
  have hns2 := ns_lt h.p2.net
  have hmv := moved_ns h.p1.net hP.mv
  refine ⟨hP.sp, ⟨h.p2.net.fr hP.fr (fun k hk e => h.dis k e hk), ⟨h.p2.arr.1, fun hn => ?_⟩, h.p2.ap⟩, fun k h1 h2 => ?_, fun hn g o e hk => ?_, fun hn g o e hk => ?_⟩
  · obtain ⟨ab, ao, e, hab, hc⟩ := h.p2.arr.2 hn
    exact ⟨ab, ao, e, Nat.lt_of_lt_of_le hab hP.fr.size, fun i u hu => (hP.fr.cell (p := ⟨ab, ao + i, none⟩) hab (h.a12 hn ab ao e)).trans (hc i u hu)⟩
  · rcases hmv k h1 with h3 | h3
    · exact h.dis k h3 h2
    · have := hns2 k h2; omega
  · rcases hmv g hk with h3 | h3
    · exact h.a12 hn g o e h3
    · obtain ⟨ab, ao, e2, hab, _⟩ := h.p2.arr.2 hn
      rw [e] at e2
      injection e2 with e2
      injection e2 with e2 _
      omega
  · rcases hP.fa with ⟨rfl, hlen⟩ | hf
    · exact h.a21 (by omega) g o e hk
    · have h3 := hf g o e
      have h4 := hns2 g hk
      omega
end

set_option maxHeartbeats 2000000 in
set_option maxRecDepth 100000 in
theorem law_two (A : Option Addr) (c : Nat) (l : List NOp) (B : Option Addr) (d : Nat) (r : List NOp) (w : World) (hl : l.length * 48 ≤ 140737488351232) (hlb : ∀ x ∈ l, x.fits) (harr : Arr w w.heap.size 5 A l.length (nopCells l))
    (hr : r.length * 48 ≤ 140737488351232) (hrb : ∀ x ∈ r, x.fits) (hrrr : Arr w w.heap.size 5 B r.length (nopCells r)) :
    Calls Try.prog 5 #[.slice A l.length c, .slice B r.length d] w fun e w' => e = .returned (.bool true) ∧ Below w.heap.size w w' := by
  have HA := Lib.hid awake_any
  have hdis0 : ∀ (p q : Nat), p + 2 ≤ q → ∀ k, NS (p + 1) p (.slice none 0 0) k → ¬ NS (q + 1) q (.slice none 0 0) k := by
    intro p q hpq k h1 h2
    rcases h1 with rfl | rfl | h1
    · rcases h2 with h2 | h2 | h2
      · omega
      · omega
      · cases h2
    · rcases h2 with h2 | h2 | h2
      · omega
      · omega
      · cases h2
    · cases h1
  go_enter Try.func5, Try.ntmps5
  go_wp2_with (first
    | (go_at_call 8; refine (net_new w).mono ?_; rintro e w1 ⟨rfl, hN1, hB1⟩)
    | (go_at_call 8; refine (net_new w1).mono ?_; rintro e w2 ⟨rfl, hN2, hB2⟩))
  have hz1 := hN1.lt
  have hS : Sides w2 w.heap.size (w.heap.size + 1) w.heap.size (.slice none 0 0) none [] 0 w1.heap.size (w1.heap.size + 1) w1.heap.size (.slice none 0 0) none [] 0 :=
    ⟨⟨hN1.fr (Fr.of_below hB2 (fun _ => False)) (fun _ _ => id), Arr.nil _ _ _ _, fun h => absurd h (by simp)⟩, ⟨hN2, Arr.nil _ _ _ _, fun h => absurd h (by simp)⟩, hdis0 _ _ (by omega), fun h => absurd h (by simp), fun h => absurd h (by simp)⟩
  have hB : Below w.heap.size w w2 := hB1.trans (hB2.mono hB1.size)
  have hw1 : w.heap.size ≤ w1.heap.size := hB1.size
  have hw2 : w1.heap.size ≤ w2.heap.size := hB2.size
  clear hN1 hN2 hB1 hB2 hdis0 hz1
  generalize w1.heap.size = q at *
  go_loopw [7, 8, 9] (fun v7 v8 v9 wr => ∃ (V1 : Value) (A1 : Option Addr) (c1 : Nat) (L1 : List ByteArray) (s1 : Nat) (V2 : Value) (A2 : Option Addr) (c2 : Nat) (L2 : List ByteArray) (s2 k : Nat), v7 = .slice A1 L1.length c1 ∧ v8 = .slice A2 L2.length c2 ∧ v9 = .int .i64 k ∧ k ≤ 40 ∧ s1 ≤ k ∧ s2 ≤ k ∧ L1.length ≤ k ∧ L2.length ≤ k ∧ (∀ x ∈ L1, x.size ≤ 200) ∧ (∀ x ∈ L2, x.size ≤ 200) ∧
    Sides wr w.heap.size (w.heap.size + 1) w.heap.size V1 A1 L1 s1 q (q + 1) q V2 A2 L2 s2 ∧ Below w.heap.size w wr ∧ q ≤ wr.heap.size) (fun _ _ v9 _ => 40 - (intOf v9).toNat)
  case atStart => exact ⟨_, none, 0, [], 0, _, none, 0, [], 0, 0, rfl, rfl, rfl, by omega, by omega, by omega, by simp, by simp, by simp, by simp, hS, hB, hw2⟩
  case round =>
    clear hS hB hw2
    obtain ⟨V1, A1, c1, L1, s1, V2, A2, c2, L2, s2, k, rfl, rfl, rfl, hk, hs1, hs2, hL1, hL2, hm1, hm2, hS, hB, hqr⟩ := hrel
    by_cases h40 : k < 40
    · -- the first net's call
      have key1 : ∀ (o : NOp), l[k]? = some o → Hid (o.fits ∧ Calls Try.prog 17 #[.pointer (some ⟨w.heap.size + 1, 0, none⟩), .slice A1 L1.length c1, .agg #[.int .i64 o.k, .int .i64 o.n, .int .i64 o.m, .int .i64 o.y, .string o.t]] wr fun e w' => Stepped wr w' w.heap.size (w.heap.size + 1) w.heap.size V1 A1 L1 (if o.k = 0 then s1 + 1 else s1) 0 e) := by
        intro o hx
        obtain ⟨⟨f1, f2⟩, ⟨f3, f4⟩, ⟨f5, f6⟩, f7⟩ := hlb _ (List.mem_of_getElem? hx)
        exact Lib.hid ⟨hlb _ (List.mem_of_getElem? hx), step_any _ _ _ V1 A1 c1 L1 s1 0 o.k o.n o.m o.y o.t wr hS.p1 hB.size (by omega) f7 (by omega) hm1 f1 f2 f3 f4 f5 f6⟩
      have key2 : ∀ (o : NOp) (V1 : Value) (A1 : Option Addr) (L1 : List ByteArray) (s1 : Nat) (w3 : World), r[k]? = some o → Sides w3 w.heap.size (w.heap.size + 1) w.heap.size V1 A1 L1 s1 q (q + 1) q V2 A2 L2 s2 → q ≤ w3.heap.size → Hid (Calls Try.prog 17 #[.pointer (some ⟨q + 1, 0, none⟩), .slice A2 L2.length c2, .agg #[.int .i64 o.k, .int .i64 o.n, .int .i64 o.m, .int .i64 o.y, .string o.t]] w3 fun e w' => Stepped w3 w' q (q + 1) q V2 A2 L2 (if o.k = 0 then s2 + 1 else s2) 0 e) := by
        intro o V1 A1 L1 s1 w3 hx hS3 hq3
        obtain ⟨⟨f1, f2⟩, ⟨f3, f4⟩, ⟨f5, f6⟩, f7⟩ := hrb _ (List.mem_of_getElem? hx)
        exact Lib.hid (step_any _ _ _ V2 A2 c2 L2 s2 0 o.k o.n o.m o.y o.t w3 hS3.p2 hq3 (by omega) f7 (by omega) hm2 f1 f2 f3 f4 f5 f6)
      have HK2 := Lib.hid key2
      clear key2
      by_cases hkl : k < l.length
      · obtain ⟨o, hx⟩ : ∃ x, l[k]? = some x := ⟨_, List.getElem?_eq_getElem hkl⟩
        obtain ⟨ab, ao, rfl, hab, e0, e1, e2, e3, e4⟩ := nop_at harr hx
        have q0 := (hB.cell (p := ⟨ab, ao + k * 5, none⟩) hab).trans e0
        have q1 := (hB.cell (p := ⟨ab, ao + k * 5 + 1, none⟩) hab).trans e1
        have q2 := (hB.cell (p := ⟨ab, ao + k * 5 + 2, none⟩) hab).trans e2
        have q3 := (hB.cell (p := ⟨ab, ao + k * 5 + 3, none⟩) hab).trans e3
        have q4 := (hB.cell (p := ⟨ab, ao + k * 5 + 4, none⟩) hab).trans e4
        have HST := key1 o hx
        have hsn : (if o.k = 0 then s1 + 1 else s1) ≤ k + 1 := by split <;> omega
        generalize (if o.k = 0 then s1 + 1 else s1) = s1n at HST hsn
        clear key1 hx e0 e1 e2 e3 e4
        by_cases hkr : k < r.length
        · obtain ⟨p, hy⟩ : ∃ x, r[k]? = some x := ⟨_, List.getElem?_eq_getElem hkr⟩
          obtain ⟨bb, bo, rfl, hbb, d0, d1, d2, d3, d4⟩ := nop_at hrrr hy
          have hsn2 : (if p.k = 0 then s2 + 1 else s2) ≤ k + 1 := by split <;> omega
          have HK3 := Lib.hid (fun V1 A1 L1 s1 w3 => HK2.out p V1 A1 L1 s1 w3 hy)
          generalize (if p.k = 0 then s2 + 1 else s2) = s2n at HK3 hsn2
          clear hy HK2
          go_wp2_with (first
            | (go_at_call_of 17 c1; refine HST.out.2.mono ?_; rintro e w3 ⟨L1', A1', c1', V1', rfl, hP, hlen, hmsg⟩; have hB3 := SP.below hB hS.p1 (Nat.le_refl _) hP; have hS3 := hS.step hP; have hq3 := Nat.le_trans hqr hP.fr.size; have HS4 := HK3.out _ _ _ _ _ hS3 hq3; have t0 := (hB3.cell (p := ⟨bb, bo + k * 5, none⟩) hbb).trans d0; have t1 := (hB3.cell (p := ⟨bb, bo + k * 5 + 1, none⟩) hbb).trans d1; have t2 := (hB3.cell (p := ⟨bb, bo + k * 5 + 2, none⟩) hbb).trans d2; have t3 := (hB3.cell (p := ⟨bb, bo + k * 5 + 3, none⟩) hbb).trans d3; have t4 := (hB3.cell (p := ⟨bb, bo + k * 5 + 4, none⟩) hbb).trans d4)
            | (go_at_call_of 17 c2; refine HS4.out.mono ?_; rintro e w4 ⟨L2', A2', c2', V2', rfl, hP2, hlen2, hmsg2⟩; have hB4 := (hB3.trans ((SP.below (Below.refl _ w3) hS3.p2 hq3 hP2).mono hw1)); have hS4 := (hS3.flip.step hP2).flip; have hq4 := Nat.le_trans hq3 hP2.fr.size))
          go_roundw
          case rel => exact ⟨V1', A1', c1', L1', s1n, V2', A2', c2', L2', s2n, k + 1, rfl, rfl, by go_num, by omega, hsn, hsn2, by omega, by omega, hmsg, hmsg2, hS4, hB4, hq4⟩
          case measure => simp [intOf]; omega
        · go_wp2_with (go_at_call_of 17 c1; refine HST.out.2.mono ?_; rintro e w3 ⟨L1', A1', c1', V1', rfl, hP, hlen, hmsg⟩; have hB3 := SP.below hB hS.p1 (Nat.le_refl _) hP; have hS3 := hS.step hP; have hq3 := Nat.le_trans hqr hP.fr.size)
          go_roundw
          case rel => exact ⟨V1', A1', c1', L1', s1n, V2, A2, c2, L2, s2, k + 1, rfl, rfl, by go_num, by omega, hsn, by omega, by omega, by omega, hmsg, hm2, hS3, hB3, hq3⟩
          case measure => simp [intOf]; omega
      · by_cases hkr : k < r.length
        · obtain ⟨p, hy⟩ : ∃ x, r[k]? = some x := ⟨_, List.getElem?_eq_getElem hkr⟩
          obtain ⟨bb, bo, rfl, hbb, d0, d1, d2, d3, d4⟩ := nop_at hrrr hy
          have hsn2 : (if p.k = 0 then s2 + 1 else s2) ≤ k + 1 := by split <;> omega
          have HS4 := HK2.out p V1 A1 L1 s1 wr hy hS hqr
          generalize (if p.k = 0 then s2 + 1 else s2) = s2n at HS4 hsn2
          have t0 := (hB.cell (p := ⟨bb, bo + k * 5, none⟩) hbb).trans d0
          have t1 := (hB.cell (p := ⟨bb, bo + k * 5 + 1, none⟩) hbb).trans d1
          have t2 := (hB.cell (p := ⟨bb, bo + k * 5 + 2, none⟩) hbb).trans d2
          have t3 := (hB.cell (p := ⟨bb, bo + k * 5 + 3, none⟩) hbb).trans d3
          have t4 := (hB.cell (p := ⟨bb, bo + k * 5 + 4, none⟩) hbb).trans d4
          clear hy HK2 key1 d0 d1 d2 d3 d4
          go_wp2_with (go_at_call_of 17 c2; refine HS4.out.mono ?_; rintro e w4 ⟨L2', A2', c2', V2', rfl, hP2, hlen2, hmsg2⟩; have hB4 := (hB.trans ((SP.below (Below.refl _ wr) hS.p2 hqr hP2).mono hw1)); have hS4 := (hS.flip.step hP2).flip; have hq4 := Nat.le_trans hqr hP2.fr.size)
          go_roundw
          case rel => exact ⟨V1, A1, c1, L1, s1, V2', A2', c2', L2', s2n, k + 1, rfl, rfl, by go_num, by omega, by omega, hsn2, by omega, by omega, hm1, hmsg2, hS4, hB4, hq4⟩
          case measure => simp [intOf]; omega
        · clear HK2 key1
          go_wp2
          go_roundw
          case rel => exact ⟨V1, A1, c1, L1, s1, V2, A2, c2, L2, s2, k + 1, rfl, rfl, by go_num, by omega, by omega, by omega, by omega, by omega, hm1, hm2, hS, hB, hqr⟩
          case measure => simp [intOf]; omega
    · have HT1 := Lib.hid (stands_any _ _ _ _ _ _ _ _ c1 _ hS.p1.net (by omega) hS.p1.arr)
      have HT2 := Lib.hid (stands_any _ _ _ _ _ _ _ _ c2 _ hS.p2.net (by omega) hS.p2.arr)
      go_wp2_with (first
        | (go_at_call 18; with_reducible refine HT1.out.mono ?_; rintro e w4 ⟨rfl, rfl⟩)
        | (go_at_call 18; with_reducible refine HT2.out.mono ?_; rintro e w4 ⟨rfl, rfl⟩)
        | (go_at_call 13; refine (HA.out _).mono ?_; rintro e w5 ⟨rfl, hb5⟩))
      go_ret
      exact ⟨rfl, hB.trans (hb5.mono hB.size)⟩
end Go.Proofs.Ytpmjbkpooionbaa
