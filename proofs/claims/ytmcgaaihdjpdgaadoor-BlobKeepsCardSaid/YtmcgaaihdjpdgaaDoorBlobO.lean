/- Chapter 11: a nobody's blobs; a fresh world; texts that are too long. -/
import Derived.Test.YtmcgaaihdjpdgaaDoorBlF
import Derived.Test.YtmcgaaihdjpdgaaDoorBlE
import Derived.Test.YtmcgaaihdjpdgaaDoorLiftFiles
import Derived.Test.YtmcgaaihdjpdgaaDoorBuilder
import Derived.Laws.IdiomStrings
import Derived.BigRegion
import Derived.Deep.RegionHeld3
namespace Go.Proofs.YtmcgaaihdjpdgaaDoor
open Go.RowKit
set_option linter.unusedVariables false

theorem law_nobody (s : ByteArray) (A : Option Addr) (c : Nat) (l : List FileD) (w : World) (hs : s.size ≤ 9223372036854775807)
    (hz : l.length * 40 ≤ 140737488351232) (hcap : l.length ≤ c) (hx : ∀ f ∈ l, FFit f) (ha : Arr w w.heap.size 3 A l.length (fcells l)) (hm : Ml w) :
    Calls Tryd.prog 9 #[.string s, .slice A l.length c] w fun e w' => e = .returned (.bool true) ∧ Below w.heap.size w w' := law_nobody_of awake11 s (.slice A l.length c) w hm
def SB0 (B : Nat) (k : Nat) : Prop := k = B + 2 ∨ k = B + 1 ∨ k = B
/-- A world with nothing in it. -/
def FreshOut (w : World) (e : Ending) (w' : World) : Prop := e = .returned (.pointer (some ⟨w.heap.size + 4, 0, none⟩)) ∧
  Blk w' (w.heap.size + 4) 31 #[.pointer (some ⟨w.heap.size + 2, 0, none⟩), .pointer (some ⟨w.heap.size + 1, 0, none⟩), .pointer (some ⟨w.heap.size + 3, 0, none⟩)] ∧
  Blk w' (w.heap.size + 3) 45 #[.slice none 0 0, .slice none 0 0] ∧
  BS w' (w.heap.size + 2) (w.heap.size + 1) w.heap.size 0 (.map []) (SB0 w.heap.size) [] [] ∧ Below w.heap.size w w' ∧ w'.heap.size = w.heap.size + 5
set_option maxHeartbeats 1000000 in
set_option maxRecDepth 100000 in
theorem fresh_any (w : World) : Calls Tryd.prog 11 #[] w (FreshOut w) := by
  go_enter Tryd.func11, Tryd.ntmps11
  go_wp2_with (first
    | (go_at_call 33; (with_reducible refine (ideal_any w).mono ?_); rintro e w1 ⟨rfl, hbk, hmp, hb1, hs1⟩; have hbs := bs_new w1 _ _ hbk hmp; rw [hs1] at hbs; have HBS := Lib.hid hbs; clear hbs hbk hmp)
    | (go_at_call 31; (with_reducible refine (new_any _ _).mono ?_); rintro e w2 ⟨rfl, rfl⟩)
    | fail)
  go_ret
  have h2 := hb1.alloc hb1.size (.cells #[.pointer (some ⟨w.heap.size + 1, 0, none⟩), .slice none 0 0, .slice none 0 0] 75)
  have h3 := h2.alloc h2.size (.cells #[.slice none 0 0, .slice none 0 0] 45)
  have h4 := h3.alloc h3.size (.cells #[.pointer (some ⟨w.heap.size + 2, 0, none⟩), .pointer (some ⟨w.heap.size + 1, 0, none⟩), .pointer (some ⟨w.heap.size + 3, 0, none⟩)] 31)
  exact ⟨rfl, Blk.newAt (by simp [hs1]) _ _, Blk.alloc (Blk.newAt (by simp [hs1]) _ _) _, (HBS.out.below ((Below.refl _ _).alloc (Nat.le_refl _) _)).below ((Below.refl _ _).alloc (Nat.le_refl _) _), h4, by simp [hs1]⟩
def zsB (n : Nat) : ByteArray := ⟨(List.replicate n (0 : UInt8)).toArray⟩
def zbB (n : Nat) : Array Value := (List.replicate n (Value.int .u8 0)).toArray
theorem zsB_size (n : Nat) : (zsB n).size = n := by
  show (List.replicate n (0 : UInt8)).toArray.size = n
  simp
set_option maxRecDepth 100000 in
theorem made_bytesB (n : Nat) (hn : n ≤ 1000000) (W : World) : (Instr.makeSlice 33 (.int .i64 n) (.int .i64 n)).run Tryd.prog W = .ok (.slice (some ⟨W.heap.size, 0, none⟩) n n) (W.alloc (.cells (zbB n) 5)) := by
  obtain ⟨i0, hi, hz0, hz1, hz2⟩ := info_parts infoByte
  have hr := run_make (P := Tryd.prog) W 33 5 i0 (.int .u8 0) Tryd.underlying33 hi hz0 .i64 .i64 n n (by omega) (Int.le_refl _) (by rw [hz2]; omega) (by omega)
  rw [Int.toNat_natCast, hz1, Nat.mul_one] at hr
  rw [hr]
  congr 3
  apply Array.ext_getElem?
  intro j
  unfold madeCells zbB
  rw [Array.getElem?_map, Array.getElem?_range, List.getElem?_toArray, List.getElem?_replicate]
  by_cases hj : j < n
  · rw [if_pos hj, if_pos hj]
    show some ((#[Value.int .u8 0] : Array Value)[j % 1]!) = _
    rw [Nat.mod_one]
    rfl
  · rw [if_neg hj, if_neg hj]
    rfl
theorem conv_zsB {W : World} {g n : Nat} (h : Blk W g 5 (zbB n)) : (convert 33 9 (.slice (some ⟨g, 0, none⟩) n n)).run Tryd.prog W = .ok (.string (zsB n)) W := by
  have := run_convert_bytes_back (P := Tryd.prog) W 33 9 5 ⟨g, 0, none⟩ n (List.replicate n (0 : UInt8)) Tryd.underlying33 Tryd.underlying5 Tryd.underlying9 (fun j hj => by
    rw [List.length_replicate] at hj
    have hc := h.cell j
    rw [show ((⟨g, 0, none⟩ : Addr).add j) = ⟨g, j, none⟩ by unfold Addr.add; simp; intro h; exact h.symm, hc]
    unfold zbB
    rw [List.getElem?_toArray, List.getElem?_replicate, if_pos hj, List.getElem_replicate]
    rfl)
  rw [List.length_replicate] at this
  exact this
set_option maxHeartbeats 4000000 in
set_option maxRecDepth 100000 in
theorem law_long11 (n : Int) (w : World) (h0 : -9223372036854775808 ≤ n) (h1 : n ≤ 9223372036854775807) (hm : Ml w) :
    Calls Tryd.prog 3 #[.int .i64 n] w fun e w' => e = .returned (.bool true) ∧ Below w.heap.size w w' := by
  have HA := Lib.hid awake11
  have HM := Lib.hid hm
  have HF := Lib.hid (fresh_any w)
  unfold FreshOut at HF
  clear hm
  by_cases hbad : n < 0 ∨ 3 < n
  · rcases hbad with hlo | hhi
    · go_enter Tryd.func3, Tryd.ntmps3
      go_wp2_with (first
        | (go_at_call 10; (with_reducible refine (HA.out _ HM.out).mono ?_); rintro e w9 ⟨rfl, hb9⟩)
        | fail)
      go_ret
      exact ⟨rfl, hb9⟩
    · have hlo : ¬ n < 0 := by omega
      go_enter Tryd.func3, Tryd.ntmps3
      go_wp2_with (first
        | (go_at_call 10; (with_reducible refine (HA.out _ HM.out).mono ?_); rintro e w9 ⟨rfl, hb9⟩)
        | fail)
      go_ret
      exact ⟨rfl, hb9⟩
  · have hlo : ¬ n < 0 := by omega
    have hhi : ¬ 3 < n := by omega
    obtain ⟨N, hN⟩ : ∃ N : Nat, 65536 + n = (N : Int) := ⟨(65536 + n).toNat, by omega⟩
    have hwN : IntKind.i64.wrap (N : Int) = N := IntWalk.i64_in _ (by omega)
    have hmk := made_bytesB N (by omega)
    have hcv := fun (W : World) => conv_zsB (W := W.alloc (.cells (zbB N) 5)) (n := N) (Blk.new W _ _)
    have hzz := zsB_size N
    generalize zsB N = Z at *
    obtain ⟨ZC, hZC⟩ : ∃ ZC, zbB N = ZC := ⟨_, rfl⟩
    rw [hZC] at hmk
    simp only [hZC] at hcv
    have HMK := Lib.hid hmk
    have HCV := Lib.hid hcv
    clear hmk hcv hZC
    have hB2 : ∀ w1 : World, Below w1.heap.size w1 (w1.alloc (.cells ZC 5)).drew := fun w1 => Below.drew ((Below.refl _ _).alloc (Nat.le_refl _) _)
    have HB2 := Lib.hid hB2
    clear hB2
    by_cases hp : 0 < n
    · have HPL := Lib.hid (fun W (h : BS W (w.heap.size + 2) (w.heap.size + 1) w.heap.size 0 (.map []) (SB0 w.heap.size) [] []) => put_long Z W h (by omega))
      go_enter Tryd.func3, Tryd.ntmps3
      go_wp2_with (first
        | (go_at_call 11; (with_reducible refine (HF.out).mono ?_); rintro e w1 ⟨rfl, hw1, hp1, hbs1, hb1, hs1⟩; obtain ⟨k0, k1, k2, _, _, _⟩ := tcellsK hw1; have HBS := Lib.hid hbs1; have HS1 := Lib.hid hs1; have HW1 := Lib.hid hw1; clear hp1 hbs1 hs1 hw1)
        | fail)
      have hmk2 : (Instr.makeSlice 33 (.int .i64 N) (.int .i64 N)).run Tryd.prog w1.drew = .ok (.slice (some ⟨w1.heap.size, 0, none⟩) N N) (w1.alloc (.cells ZC 5)).drew := HMK.out w1.drew
      have hcv1 : (convert 33 9 (.slice (some ⟨w1.heap.size, 0, none⟩) N N)).run Tryd.prog (w1.alloc (.cells ZC 5)).drew = .ok (.string Z) (w1.alloc (.cells ZC 5)).drew := HCV.out w1.drew
      have kk1 : (w1.alloc (.cells ZC 5)).drew.cell? ⟨w.heap.size + 4, 0, none⟩ = some (.pointer (some ⟨w.heap.size + 2, 0, none⟩)) := (Blk.below HW1.out (HB2.out w1) HW1.out.lt).cell 0
      go_region_with (first
        | (go_at_call 12; (with_reducible refine (HPL.out _ (HBS.out.below (HB2.out w1))).mono ?_); rintro e w2 ⟨rfl, hb2⟩; have hb2' := below_on (HB2.out w1) hb2)
        | (fail))
      all_goals (have hb2'' := below_on (HB2.out w1) hb2; obtain ⟨k0, k1, k2, _, _, _⟩ := tcellsK (Blk.below HW1.out hb2'' HW1.out.lt); have hbw := below_on hb1 hb2''; have HCN := Lib.hid (count_S w2 (HBS.out.below hb2'')))
      all_goals go_wp2_with (first
        | (go_at_call 13; (with_reducible refine (HCN.out).mono ?_); rintro e w5 ⟨rfl, hb5⟩)
        | (go_at_call 10; (with_reducible refine (HA.out _ (HM.out.on (below_on hbw hb5))).mono ?_); rintro e w9 ⟨rfl, hb9⟩)
        | (fail))
      all_goals go_ret
      all_goals exact ⟨rfl, below_on hbw (below_on hb5 hb9)⟩
    · have hn0 : n = 0 := by omega
      subst hn0
      have HPS := Lib.hid (fun W (h : BS W (w.heap.size + 2) (w.heap.size + 1) w.heap.size 0 (.map []) (SB0 w.heap.size) [] []) => put_S Z W h (by decide) (by omega))
      unfold PutOutS at HPS
      go_enter Tryd.func3, Tryd.ntmps3
      go_wp2_with (first
        | (go_at_call 11; (with_reducible refine (HF.out).mono ?_); rintro e w1 ⟨rfl, hw1, hp1, hbs1, hb1, hs1⟩; obtain ⟨k0, k1, k2, _, _, _⟩ := tcellsK hw1; have HBS := Lib.hid hbs1; have HS1 := Lib.hid hs1; have HW1 := Lib.hid hw1; clear hp1 hbs1 hs1 hw1)
        | fail)
      have hmk2 : (Instr.makeSlice 33 (.int .i64 N) (.int .i64 N)).run Tryd.prog w1.drew = .ok (.slice (some ⟨w1.heap.size, 0, none⟩) N N) (w1.alloc (.cells ZC 5)).drew := HMK.out w1.drew
      have hcv1 : (convert 33 9 (.slice (some ⟨w1.heap.size, 0, none⟩) N N)).run Tryd.prog (w1.alloc (.cells ZC 5)).drew = .ok (.string Z) (w1.alloc (.cells ZC 5)).drew := HCV.out w1.drew
      have kk1 : (w1.alloc (.cells ZC 5)).drew.cell? ⟨w.heap.size + 4, 0, none⟩ = some (.pointer (some ⟨w.heap.size + 2, 0, none⟩)) := (Blk.below HW1.out (HB2.out w1) HW1.out.lt).cell 0
      go_region_with (first
        | (go_at_call 12; (with_reducible refine (HPS.out _ (HBS.out.below (HB2.out w1))).mono ?_); rintro e w2 ⟨q, D2, S2, rfl, _, _, _, hbs2, hst2⟩; have HBS2 := Lib.hid hbs2; have HST2 := Lib.hid hst2; clear hbs2 hst2)
        | (fail))
      all_goals (have hlo2 := HST2.out.lo (B := w.heap.size) (Nat.le_trans hb1.size (HB2.out w1).size) (by rintro k (h | h | h) <;> omega); have hbw : Below w.heap.size w w2 := (below_on hb1 (HB2.out w1)).trans hlo2.2; have hw2 : Blk w2 (w.heap.size + 4) 31 #[.pointer (some ⟨w.heap.size + 2, 0, none⟩), .pointer (some ⟨w.heap.size + 1, 0, none⟩), .pointer (some ⟨w.heap.size + 3, 0, none⟩)] := HST2.out.1.blk (Blk.below HW1.out (HB2.out w1) HW1.out.lt) (by rintro (h | h | h) <;> omega); obtain ⟨k0, k1, k2, _, _, _⟩ := tcellsK hw2; have HRF := Lib.hid (refs_S q w2 HBS2.out (by decide)); rw [look_put List.Pairwise.nil, if_pos rfl] at HRF)
      all_goals go_wp2_with (first
        | (go_at_call 14; (with_reducible refine (HRF.out).mono ?_); rintro e w5 ⟨rfl, hb5⟩)
        | (go_at_call 10; (with_reducible refine (HA.out _ (HM.out.on (below_on hbw hb5))).mono ?_); rintro e w9 ⟨rfl, hb9⟩)
        | (fail))
      all_goals go_ret
      all_goals exact ⟨rfl, below_on hbw (below_on hb5 hb9)⟩
end Go.Proofs.YtmcgaaihdjpdgaaDoor
