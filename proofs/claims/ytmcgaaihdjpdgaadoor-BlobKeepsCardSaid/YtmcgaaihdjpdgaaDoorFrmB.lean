/- Chapter 2 (frames): the walks through four, Frame, One.; Chapter 2 (frames): the walks through One, Scan, All. -/
import Derived.Test.YtmcgaaihdjpdgaaDoorFrmA
import Derived.Test.YtmcgaaihdjpdgaaDoorTreeMix
/- Chapter 2 (frames): the walks through four, Frame, One. -/
namespace Go.Proofs.YtmcgaaihdjpdgaaDoor
open Go.RowKit
set_option linter.unusedVariables false

def bcells (l : List UInt8) : Array Value := (l.map fun u => Value.int .u8 (u.toNat : Int)).toArray
theorem conv_bs (l : List UInt8) (W : World) (g c : Nat) (hb : Blk W g 5 (bcells l)) : (convert 33 9 (.slice (some ⟨g, 0, none⟩) l.length c)).run Tryd.prog W = .ok (.string ⟨l.toArray⟩) W := by
  exact run_convert_bytes_back (P := Tryd.prog) _ 33 9 5 ⟨g, 0, none⟩ c l Tryd.underlying33 Tryd.underlying5 Tryd.underlying9 (by
    intro j hj
    have hadd : (⟨g, 0, none⟩ : Addr).add j = ⟨g, j, none⟩ := by unfold Addr.add; split <;> simp_all
    rw [hadd, hb.cell j]
    unfold bcells
    simp [hj])
set_option maxHeartbeats 1000000 in
set_option maxRecDepth 100000 in
theorem four_any (n : Nat) (w : World) (hn : n < 4294967296) : Calls Tryd.prog 94 #[.int .i64 n] w fun e w' => e = .returned (.string (fourB n)) ∧ Below w.heap.size w w' := by
  have hcv := conv_bs (fourL n) (w.alloc (.cells (bcells (fourL n)) 5)) w.heap.size 4 (Blk.new _ _ _)
  have e0 : ((n % 256).toUInt8.toNat : Int) = (n : Int) % 256 := by rw [toUInt8_toNat _ (by omega)]; omega
  have e1 : ((n / 256 % 256).toUInt8.toNat : Int) = (n : Int) / 256 % 256 := by rw [toUInt8_toNat _ (by omega)]; omega
  have e2 : ((n / 65536 % 256).toUInt8.toNat : Int) = (n : Int) / 65536 % 256 := by rw [toUInt8_toNat _ (by omega)]; omega
  have e3 : ((n / 16777216 % 256).toUInt8.toNat : Int) = (n : Int) / 16777216 := by rw [toUInt8_toNat _ (by omega)]; omega
  rw [show bcells (fourL n) = #[Value.int .u8 ((n : Int) % 256), Value.int .u8 ((n : Int) / 256 % 256), Value.int .u8 ((n : Int) / 65536 % 256), Value.int .u8 ((n : Int) / 16777216)] by unfold bcells fourL; simp only [List.map_cons, List.map_nil, e0, e1, e2, e3]] at hcv
  rw [show (fourL n).length = 4 from rfl, show (⟨(fourL n).toArray⟩ : ByteArray) = fourB n from rfl] at hcv
  have hB : Below w.heap.size w (w.alloc (.cells #[Value.int .u8 ((n : Int) % 256), Value.int .u8 ((n : Int) / 256 % 256), Value.int .u8 ((n : Int) / 65536 % 256), Value.int .u8 ((n : Int) / 16777216)] 5)) := (Below.refl _ _).alloc (Nat.le_refl _) _
  clear e0 e1 e2 e3
  go_enter Tryd.func94, Tryd.ntmps94
  go_wp2
  go_ret
  exact ⟨rfl, hB⟩
/-- The two signs. -/
theorem conv_signs (W : World) (g c : Nat) (hb : Blk W g 5 #[Value.int .u8 181, Value.int .u8 126]) : (convert 33 9 (.slice (some ⟨g, 0, none⟩) 2 c)).run Tryd.prog W = .ok (.string ⟨#[181, 126]⟩) W := conv_bs [181, 126] W g c hb
def frameB (s : ByteArray) : ByteArray := ((⟨#[181, 126]⟩ ++ fourB s.size) ++ fourB (sumC (fourB s.size ++ s).data.toList)) ++ s
theorem frameB_list (s : ByteArray) : (frameB s).data.toList = frameL s.data.toList := by
  unfold frameB frameL
  rw [fm_app, fm_app, fm_app, fm_app, bt_size]
  rfl
set_option maxHeartbeats 2000000 in
set_option maxRecDepth 100000 in
theorem frame_any (s : ByteArray) (w : World) (hs : s.size ≤ 65536) : Calls Tryd.prog 74 #[.string s] w fun e w' => e = .returned (.tuple #[.string (frameB s), .int .i64 0]) ∧ Below w.heap.size w w' := by
  have ns : ¬ (65536 : Int) < s.size := by omega
  have H1 := Lib.hid (four_any s.size w (by omega))
  have hfs := fourB_size s.size
  have hft : (fourB s.size ++ s).size = 4 + s.size := by rw [ByteArray.size_append, hfs]
  have HS := Lib.hid (fun W => sum_any (fourB s.size ++ s) W (by rw [hft]; omega))
  have HF2 := Lib.hid (fun W => four_any (sumC (fourB s.size ++ s).data.toList) W (sumC_lt _))
  unfold frameB
  generalize fourB s.size = F at *
  generalize sumC (F ++ s).data.toList = N at *
  have h4 := fourB_size N
  generalize fourB N = G at *
  go_enter Tryd.func74, Tryd.ntmps74
  go_wp2_with (go_at_call 94; (with_reducible refine (H1.out).mono ?_); rintro e w1 ⟨rfl, hb1⟩)
  have hc1 := conv_signs (w1.alloc (.cells #[Value.int .u8 181, Value.int .u8 126] 5)).drew w1.heap.size 2 (Blk.new w1 _ _)
  have hc2 := fun (w3 : World) (h : Below (w1.alloc (.cells #[Value.int .u8 181, Value.int .u8 126] 5)).drew.heap.size (w1.alloc (.cells #[Value.int .u8 181, Value.int .u8 126] 5)).drew w3) => conv_signs w3 w1.heap.size 2 (Blk.below (w := (w1.alloc (.cells #[Value.int .u8 181, Value.int .u8 126] 5)).drew) (Blk.new w1 _ _) h (by rw [show (w1.alloc (.cells #[Value.int .u8 181, Value.int .u8 126] 5)).drew.heap.size = w1.heap.size + 1 from by simp [World.drew]]; omega))
  have hc3 := fun (w3 : World) => conv_signs (w3.alloc (.cells #[Value.int .u8 181, Value.int .u8 126] 5)) w3.heap.size 2 (Blk.new w3 _ _)
  have HC2 := Lib.hid hc2
  have HC3 := Lib.hid hc3
  have hbA : Below w1.heap.size w1 (w1.alloc (.cells #[Value.int .u8 181, Value.int .u8 126] 5)).drew := Below.drew ((Below.refl _ _).alloc (Nat.le_refl _) _)
  have hbD : Below w1.heap.size w1 w1.drew := Below.drew (Below.refl _ _)
  clear hc2 hc3
  go_region_with (first
    | (go_at_call 93; (with_reducible refine (HS.out _).mono ?_); rintro e w2 ⟨rfl, rfl⟩)
    | (go_at_call 94; (with_reducible refine (HF2.out _).mono ?_); rintro e w3 ⟨rfl, hb3⟩; first | have hc4 := HC2.out _ hb3 | have hc4 := HC3.out w3)
    | (fail))
  all_goals go_wp2
  all_goals go_ret2
  all_goals first
    | exact ⟨rfl, below_on hb1 (below_on hbA hb3)⟩
    | exact ⟨rfl, below_on hb1 ((below_on hbD hb3).alloc (below_on hbD hb3).size _)⟩
end Go.Proofs.YtmcgaaihdjpdgaaDoor
/- Chapter 2 (frames): the walks through One, Scan, All. -/
namespace Go.Proofs.YtmcgaaihdjpdgaaDoor
open Go.RowKit
set_option linter.unusedVariables false

/-- What One answers. -/
def oneV (s : ByteArray) : Value := if oneE s = 0 then .tuple #[.string (oneP s), .int .i64 (oneN s : Nat), .int .i64 0] else .tuple #[.string ⟨#[]⟩, .int .i64 0, .int .i64 (oneE s)]
theorem oneV_bad {s : ByteArray} {e : Int} (h : oneE s = e) (h0 : e ≠ 0) : oneV s = .tuple #[.string ⟨#[]⟩, .int .i64 0, .int .i64 e] := by unfold oneV; rw [h, if_neg h0]
theorem oneV_ok {s : ByteArray} (h : oneE s = 0) : oneV s = .tuple #[.string (oneP s), .int .i64 (oneN s : Nat), .int .i64 0] := by unfold oneV; rw [if_pos h]
set_option maxHeartbeats 2000000 in
set_option maxRecDepth 100000 in
theorem one_any (s : ByteArray) (w : World) (hs : s.size ≤ 9223372036854775807) : Calls Tryd.prog 73 #[.string s] w fun e w' => e = .returned (oneV s) ∧ Below w.heap.size w w' := by
  by_cases h0 : s.size = 0
  · rw [oneV_bad (e := 3) (by unfold oneE; rw [if_pos h0]) (by decide)]
    have hs0 : s = ⟨#[]⟩ := by apply ba_ext; apply List.eq_nil_of_length_eq_zero; rw [← bt_size]; exact h0
    subst hs0
    go_enter Tryd.func73, Tryd.ntmps73
    go_wp2
    go_ret3
    exact ⟨rfl, Below.refl _ _⟩
  · have hne : s ≠ ⟨#[]⟩ := fun e => h0 (by rw [e]; rfl)
    obtain ⟨m0, m1⟩ := bl_mt (s := s) (fun e => h0 (by rw [bt_size, e]; rfl))
    have g0 := bt_get s 0 (by omega)
    have i0 : 0 < s.size := by omega
    by_cases hb : badHead s
    · rw [oneV_bad (e := 5) (by unfold oneE; rw [if_neg h0, if_pos hb]) (by decide)]
      unfold badHead at hb
      by_cases h1 : bt s.data.toList 0 = 181
      · obtain ⟨h2, h3⟩ : 1 < s.size ∧ bt s.data.toList 1 ≠ 126 := hb.resolve_left (fun h => h h1)
        have g1 := bt_get s 1 h2
        have i1 : (1 : Int) < s.size := by omega
        rw [h1] at g0
        have n1 : ((bt s.data.toList 1).toNat : Int) ≠ 126 := fun e => h3 (UInt8.toNat_inj.1 (by rw [show (126 : UInt8).toNat = 126 from rfl]; omega))
        have n2 : (((bt s.data.toList 1).toNat : Int) != 126) = true := by rw [bne_iff_ne]; exact n1
        generalize bt s.data.toList 1 = c1 at *
        have t0 : ((181 : UInt8).toNat : Int) = 181 := rfl
        clear hb h1 h3
        go_enter Tryd.func73, Tryd.ntmps73
        go_wp2
        go_ret3
        exact ⟨rfl, Below.refl _ _⟩
      · have n1 : ((bt s.data.toList 0).toNat : Int) ≠ 181 := fun e => h1 (UInt8.toNat_inj.1 (by rw [show (181 : UInt8).toNat = 181 from rfl]; omega))
        have n2 : (((bt s.data.toList 0).toNat : Int) != 181) = true := by rw [bne_iff_ne]; exact n1
        generalize bt s.data.toList 0 = c0 at *
        clear hb h1
        go_enter Tryd.func73, Tryd.ntmps73
        go_wp2
        go_ret3
        exact ⟨rfl, Below.refl _ _⟩
    · have h1 : bt s.data.toList 0 = 181 := Classical.byContradiction fun h => hb (.inl h)
      have h2 : 1 < s.size → bt s.data.toList 1 = 126 := fun h => Classical.byContradiction fun h2 => hb (.inr ⟨h, h2⟩)
      rw [h1] at g0
      have t0 : ((181 : UInt8).toNat : Int) = 181 := rfl
      have t1 : ((126 : UInt8).toNat : Int) = 126 := rfl
      by_cases h6 : s.size < 6
      · rw [oneV_bad (e := 3) (by unfold oneE; rw [if_neg h0, if_neg hb, if_pos h6]) (by decide)]
        have i6 : (s.size : Int) < 6 := by omega
        clear hb h1
        by_cases hs1 : 1 < s.size
        · have g1 := bt_get s 1 hs1
          rw [h2 hs1] at g1
          have i1 : (1 : Int) < s.size := by omega
          clear h2
          go_enter Tryd.func73, Tryd.ntmps73
          go_wp2
          go_ret3
          exact ⟨rfl, Below.refl _ _⟩
        · have i1 : ¬ (1 : Int) < s.size := by omega
          clear h2
          go_enter Tryd.func73, Tryd.ntmps73
          go_wp2
          go_ret3
          exact ⟨rfl, Below.refl _ _⟩
      · have g1 := bt_get s 1 (by omega)
        rw [h2 (by omega)] at g1
        have i1 : (1 : Int) < s.size := by omega
        have i6 : ¬ (s.size : Int) < 6 := by omega
        have j6 : (6 : Int) ≤ s.size := by omega
        have k6 : ¬ s.size < 6 := h6
        have hx4 : (s.extract 2 6).size = 4 := by rw [ByteArray.size_extract]; omega
        have HN1 := Lib.hid (fun W => number_any (s.extract 2 6) W hx4)
        obtain ⟨N, hN⟩ : ∃ N, num4 (s.extract 2 6).data.toList = N := ⟨_, rfl⟩
        have hNl := num4_lt (s.extract 2 6).data.toList
        rw [hN] at HN1 hNl
        by_cases hbig : 65536 < N
        · rw [oneV_bad (e := 4) (by unfold oneE; rw [if_neg h0, if_neg hb, if_neg h6, hN, if_pos hbig]) (by decide)]
          have n1 : (65536 : Int) < N := by omega
          clear hb h1 h2 hN
          go_enter Tryd.func73, Tryd.ntmps73
          go_wp2_with (go_at_call 92; (with_reducible refine (HN1.out _).mono ?_); rintro e w2 ⟨rfl, m, rfl⟩)
          go_ret3
          exact ⟨rfl, below_drewN (Below.refl _ _) _⟩
        · have n1 : ¬ (65536 : Int) < N := by omega
          by_cases hsh : s.size < 10 + N
          · rw [oneV_bad (e := 3) (by unfold oneE; rw [if_neg h0, if_neg hb, if_neg h6, hN, if_neg hbig, if_pos hsh]) (by decide)]
            have n2 : (s.size : Int) < 10 + N := by omega
            clear hb h1 h2 hN
            go_enter Tryd.func73, Tryd.ntmps73
            go_wp2_with (go_at_call 92; (with_reducible refine (HN1.out _).mono ?_); rintro e w2 ⟨rfl, m, rfl⟩)
            go_ret3
            exact ⟨rfl, below_drewN (Below.refl _ _) _⟩
          · have n2 : ¬ (s.size : Int) < 10 + N := by omega
            have n3 : (10 : Int) + N ≤ s.size := by omega
            have n4 : 10 + N ≤ s.size := by omega
            have n5 : (10 : Int) ≤ s.size := by omega
            have n6 : ¬ s.size < 10 := by omega
            have tn : ((10 : Int) + N).toNat = 10 + N := by omega
            have hx5 : (s.extract 6 10).size = 4 := by rw [ByteArray.size_extract]; omega
            have hx6 : (s.extract 10 (10 + N)).size = N := by rw [ByteArray.size_extract]; omega
            have hx7 : (s.extract 2 6 ++ s.extract 10 (10 + N)).size = 4 + N := by rw [ByteArray.size_append, hx4, hx6]
            have HN2 := Lib.hid (fun W => number_any (s.extract 6 10) W hx5)
            have HSM := Lib.hid (fun W => (sum_any (s.extract 2 6 ++ s.extract 10 (10 + N)) W (by rw [hx7]; omega)).mono (fun e w' h => (⟨h.1, 0, h.2⟩ : e = .returned (.int .i64 (sumC (s.extract 2 6 ++ s.extract 10 (10 + N)).data.toList : Nat)) ∧ ∃ m, w' = W.drewN m)))
            have hE : oneE s = if sumC (s.extract 2 6 ++ s.extract 10 (10 + N)).data.toList ≠ num4 (s.extract 6 10).data.toList then 6 else 0 := by unfold oneE; rw [if_neg h0, if_neg hb, if_neg h6, hN, if_neg hbig, if_neg hsh]
            have hON : oneN s = 10 + N := by unfold oneN; rw [hN]
            have hOP : oneP s = s.extract 10 (10 + N) := by unfold oneP; rw [hON]
            obtain ⟨Q, hQ⟩ : ∃ Q, num4 (s.extract 6 10).data.toList = Q := ⟨_, rfl⟩
            obtain ⟨U, hU⟩ : ∃ U, sumC (s.extract 2 6 ++ s.extract 10 (10 + N)).data.toList = U := ⟨_, rfl⟩
            rw [hQ] at HN2 hE
            rw [hU] at HSM hE
            have hbd : ¬ 9223372036854775807 < 4 + N := by omega
            have hbd2 : 4 + N ≤ 9223372036854775807 := by omega
            obtain ⟨X, hX⟩ : ∃ X, s.extract 2 6 = X := ⟨_, rfl⟩
            obtain ⟨Y, hY⟩ : ∃ Y, s.extract 10 (10 + N) = Y := ⟨_, rfl⟩
            obtain ⟨Z, hZ⟩ : ∃ Z, s.extract 6 10 = Z := ⟨_, rfl⟩
            rw [hX] at HN1 HSM hx4
            rw [hY] at HSM hx6 hOP
            rw [hZ] at HN2
            clear hx7 hx5
            by_cases hq : U = Q
            · rw [oneV_ok (by rw [hE, if_neg (fun h => h hq)]), hOP, hON]
              subst hq
              clear hb h1 h2 hN hE hON hOP hQ hU hNl
              go_enter Tryd.func73, Tryd.ntmps73
              go_wp2_with (go_at_call 92; (with_reducible refine (HN1.out _).mono ?_); rintro e w2 ⟨rfl, hq2⟩; have hb2 : Below w.heap.size w w2 := (by obtain ⟨m, rfl⟩ := hq2; exact below_drewN (Below.refl _ _) _); clear hq2)
              go_quiet (first
                | (go_at_call 92; exact Calls.quiet_of (HN2.out _))
                | (go_at_call 93; exact Calls.quiet_of (HSM.out _)))
              go_wp2
              go_ret3
              exact ⟨rfl, below_drewN hb2 _⟩
            · rw [oneV_bad (e := 6) (by rw [hE, if_pos hq]) (by decide)]
              have q1 : ((U : Int) != (Q : Int)) = true := by rw [bne_iff_ne]; omega
              have q2 : ¬ (U : Int) = (Q : Int) := by omega
              clear hb h1 h2 hN hE hON hOP hQ hU hNl
              go_enter Tryd.func73, Tryd.ntmps73
              go_wp2_with (go_at_call 92; (with_reducible refine (HN1.out _).mono ?_); rintro e w2 ⟨rfl, hq2⟩; have hb2 : Below w.heap.size w w2 := (by obtain ⟨m, rfl⟩ := hq2; exact below_drewN (Below.refl _ _) _); clear hq2)
              go_quiet (first
                | (go_at_call 92; exact Calls.quiet_of (HN2.out _))
                | (go_at_call 93; exact Calls.quiet_of (HSM.out _)))
              go_wp2
              go_ret3
              exact ⟨rfl, below_drewN hb2 _⟩
end Go.Proofs.YtmcgaaihdjpdgaaDoor
