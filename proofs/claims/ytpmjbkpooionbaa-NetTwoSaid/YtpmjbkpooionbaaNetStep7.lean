/- The step Bend of the law, in range (a short text). -/
import Derived.Test.YtpmjbkpooionbaaNetBendPre
import Derived.Deep.RegionLaw
set_option linter.unusedVariables false
namespace Go.Proofs.Ytpmjbkpooionbaa
open Go.RowKit Go.Conc

set_option maxHeartbeats 8000000 in
set_option maxRecDepth 100000 in
theorem step_bend_b (base b ch : Nat) (V : Value) (A : Option Addr) (c : Nat) (L : List ByteArray) (sent lost : Nat) (i j : Nat) (x : ByteArray) (y : Int) (t : ByteArray) (w : World) (h : SP w base b ch V A L sent lost) (hbs : base ≤ w.heap.size) (hl : L.length ≤ 4096) (ht : t.size ≤ 9223372036854775807) (hx : L[i]? = some x) (hj : j < x.size) (hxs : x.size ≤ 200) (y0 : -9223372036854775808 ≤ y) (y1 : y ≤ 9223372036854775807) (hc : t.size ≤ 200) :
    Calls Try.prog 17 #[.pointer (some ⟨b, 0, none⟩), .slice A L.length c, .agg #[.int .i64 4, .int .i64 i, .int .i64 j, .int .i64 y, .string t]] w fun e w' =>
      ∃ A' c' V', e = .returned (.tuple #[.slice A' (L.set i (bentS x j y)).length c', .bool true]) ∧ SPost w w' base b ch V A L.length (L.set i (bentS x j y)) sent lost V' A' := by
  obtain ⟨i0, hi, hz0, hz1, hz2⟩ := info_parts infoStr
  have hil := lt_of_get hx
  have hb := h.alloc (.cells #[.int .i64 4, .int .i64 i, .int .i64 j, .int .i64 y, .string t] 40)
  have hO : OpAt (w.alloc (.cells #[.int .i64 4, .int .i64 i, .int .i64 j, .int .i64 y, .string t] 40)) w.heap.size 4 i j y t := Blk.new _ _ _
  have hsz : (w.alloc (.cells #[.int .i64 4, .int .i64 i, .int .i64 j, .int .i64 y, .string t] 40)).heap.size = w.heap.size + 1 := by simp
  have hq : ¬ NS b ch V w.heap.size := fun e => by have := ns_lt h.net _ e; omega
  have HT := Lib.hid (net_bend _ _ _ _ _ _ _ i j y x _ hb.net hl hx hj hxs y0 y1)
  have HB := Lib.hid (fun W => bent_any x j y W hxs hj y0 y1)
  obtain ⟨ab, ao, rfl, hab, hns, hcx⟩ := hb.get hx
  obtain ⟨o0, o1, o2, o3, o4⟩ := hO.cells
  have hn3 : decide ((i : Int) < (L.length : Int)) = true := decide_eq_true (by omega)
  have hm1 : decide ((0 : Int) ≤ (j : Int)) = true := decide_eq_true (by omega)
  have hm2 : decide ((j : Int) < (x.size : Int)) = true := decide_eq_true (by omega)
  have k0 : (0 : Int) ≤ (i : Int) := by omega
  have k1 : (i : Int) < (L.length : Int) := by omega
  have hlm : (L.map Value.string)[i]? = some (.string x) := by simp [hx]
  have HLM := Lib.hid hlm
  clear hx hlm
  generalize bentS x j y = z at *
  go_enter Try.func17, Try.ntmps17
  go_wp2_with (go_at_call 20; with_reducible refine HT.out.mono ?_; rintro e w1 ⟨rfl, hN, hf⟩; have hO1 := hO.fr hq hf; obtain ⟨o0, o1, o2, o3, o4⟩ := hO1.cells; have hcx := (hf.cell (p := ⟨ab, ao + i, none⟩) hab hns).trans hcx)
  try rw [hn3]
  go_quiet (fail)
  have hf1 := hf.drewN nq
  have harr1 := hb.arr_fr hf1
  have hO2 := hO.fr hq hf1
  have hN1 : NetAt (w1.drewN nq) base b ch V (L.set i z) sent lost := ⟨hN.blk, hN.own, hN.chn, hN.hb, hN.hc⟩
  have hq1 : w.heap.size < (w1.drewN nq).heap.size := by have := hf1.size; omega
  clear o0 o1 o2 o3 o4 hcx hO1 hf hN
  generalize w1.drewN nq = v1 at hf1 harr1 hO2 hN1 hq1 ⊢
  go_wp2_with (at_builtin; refine wpList_fresh_copy rfl _ _ 22 rfl Try.underlying22 hi hz0 hz1 hz2 rfl rfl rfl rfl rfl harr1 (str_cells L) (by unfold maxLen; omega) (by omega) ?_; intro g cap w2 hown2 hb2)
  have hO3 : OpAt w2.drew w.heap.size 4 i j y t := Blk.below hO2 hb2.drew hq1
  obtain ⟨o0, o1, o2, o3, o4⟩ := hO3.cells
  have hgc := own_cell (w := w2.drew) hown2 HLM.out
  have hgl := (hown2.lt g rfl).2
  have hq2 : w.heap.size < w2.heap.size := Nat.lt_of_lt_of_le hq1 hb2.size
  obtain ⟨c1, f1⟩ := hgc
  go_region_law (first
    | (go_simp; go_at_call 24; refine (HB.out _).mono ?_; rintro e w3 ⟨rfl, hb3⟩; have hO4 : OpAt w3 w.heap.size 4 i j y t := Blk.below hO3 hb3 hq2; obtain ⟨o0, o1, o2, o3, o4⟩ := hO4.cells; have c1 := (hb3.cell (p := ⟨g, i, none⟩) hgl).trans c1; have f1 := (frozen_below hb3 hgl i).trans f1))
  all_goals
    go_wp2
    go_ret2
    exact bend_post h hf1 hN1 hb2 hown2 hb3 hil
end Go.Proofs.Ytpmjbkpooionbaa
