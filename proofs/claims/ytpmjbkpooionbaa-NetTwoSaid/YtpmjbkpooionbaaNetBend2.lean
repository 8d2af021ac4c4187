/- The walk of Bend. -/
import Derived.Test.YtpmjbkpooionbaaNetBend
import Derived.BigRegion
set_option linter.unusedVariables false
namespace Go.Proofs.Ytpmjbkpooionbaa
open Go.RowKit

set_option maxHeartbeats 2000000 in
set_option maxRecDepth 100000 in
theorem net_bend (base b ch : Nat) (V : Value) (L : List ByteArray) (sent lost : Nat) (i j : Nat) (k : Int) (x : ByteArray) (w : World) (h : NetAt w base b ch V L sent lost) (hl : L.length ≤ 4096) (hx : L[i]? = some x) (hj : j < x.size) (hxs : x.size ≤ 200) (k0 : -9223372036854775808 ≤ k) (k1 : k ≤ 9223372036854775807) :
    Calls Try.prog 20 #[.pointer (some ⟨b, 0, none⟩), .int .i64 i, .int .i64 j, .int .i64 k] w fun e w' => e = .returned (.int .i64 0) ∧ NetAt w' base b ch V (L.set i (bentS x j k)) sent lost ∧ Fr (NS b ch V) w w' := by
  have hi : i < L.length := by
    rcases Nat.lt_or_ge i L.length with h' | h'
    · exact h'
    · rw [List.getElem?_eq_none h'] at hx; cases hx
  have hp := net_peek base b ch V L sent lost i w h (by omega) (by omega) (by omega)
  rw [(peek_ok hx).1, (peek_ok hx).2] at hp
  have HP := Lib.hid hp
  clear hp
  obtain ⟨W1, C, hcv, hcell, hfz, hB⟩ := conv_bytes x w
  have c1 := hcell j hj
  have f1 := hfz j hj
  have j0 : (0 : Int) ≤ (j : Int) := by omega
  have j1 : (j : Int) < (x.size : Int) := by omega
  have i0 : (0 : Int) ≤ (i : Int) := by omega
  have i1 : (i : Int) < (L.length : Int) := by omega
  have hbk := conv_back x j k W1 w.heap.size C hj hcell
  have hne := h.own_ne
  have hN1 : NetAt W1 base b ch V L sent lost := h.fr (S := fun _ => False) (Fr.of_below hB _) (fun _ _ h => h)
  have hN2 : NetAt (W1.setCell ⟨w.heap.size, j, none⟩ (.int .u8 (bits .xor .u8 (x.data[j].toNat : Int) (k % 256)))) base b ch V L sent lost := hN1.fr (S := fun m => m = w.heap.size) (Fr.setCell (S := fun m => m = w.heap.size) (Fr.refl _ _) (.inl rfl) _) (fun m hm e => by
    subst e
    rcases hm with hm | hm | hm
    · have := h.lt; omega
    · have := h.ltc; omega
    · have := (h.own.lt _ hm).2; omega)
  have c0 := hN2.c0
  have hbd : (convert 53 9 (.slice (some ⟨w.heap.size, 0, none⟩) x.size C)).run Try.prog (W1.setCell ⟨w.heap.size, j, none⟩ (.int .u8 (bits .xor .u8 (x.data[j].toNat : Int) (k % 256)))).drew = .ok (.string (bentS x j k)) (W1.setCell ⟨w.heap.size, j, none⟩ (.int .u8 (bits .xor .u8 (x.data[j].toNat : Int) (k % 256)))).drew := conv_back x j k W1.drew w.heap.size C hj hcell
  have hk2 : (convert 9 53 (.string x)).run Try.prog w = .ok (.slice (some ⟨w.heap.size, 0, none⟩) x.size C) W1 := hcv
  obtain ⟨A, c, rfl, hcap, harr, hfr⟩ := own_arr hN2.own
  obtain ⟨ab, ao, rfl, hab, hcl⟩ := harr.2 (by omega)
  obtain rfl : ao = 0 := by
    rcases h.own.2 with ⟨hv, _⟩ | ⟨g', cap', cur, hv, _⟩
    · cases hv
    · injection hv with h1
      injection h1 with h1
      injection h1
  have e1 := hcl i (.string x) (by simp [hx])
  rw [Nat.zero_add] at e1
  have f2 : (W1.setCell ⟨w.heap.size, j, none⟩ (.int .u8 (bits .xor .u8 (x.data[j].toNat : Int) (k % 256)))).frozen? ⟨ab, i, none⟩ = false := by
    rcases hN2.own.2 with ⟨hv, _⟩ | ⟨g', cap', cur, hv, hb, hg, _⟩
    · cases hv
    · injection hv with h1
      injection h1 with h1
      injection h1 with h1
      subst h1
      exact Blk.frozen (cs := cur) hg i
  clear hcell hfz hx harr hcl hfr
  go_enter Try.func20, Try.ntmps20
  go_wp2_with (go_at_call 19; with_reducible refine HP.out.mono ?_; rintro e w1 ⟨rfl, rfl⟩)
  generalize hW2 : W1.setCell ⟨w.heap.size, j, none⟩ (.int .u8 (bits .xor .u8 (x.data[j].toNat : Int) (k % 256))) = W2 at *
  go_region
  go_wp2
  go_ret
  have hab2 : ab ≠ b := fun e => hne.1 (by rw [← e]; rfl)
  have hac : ab ≠ ch := fun e => hne.2 (by rw [← e]; rfl)
  have o1 := own_set hN2.own i (.string (bentS x j k)) hi
  have fS : Fr (fun m => m = ab) W2 ((W2.setCell ⟨ab, i, none⟩ (.string (bentS x j k))).drew) := Fr.drew (Fr.setCell (S := fun m => m = ab) (Fr.refl _ _) (.inl rfl) _)
  have fT : Fr (NS b ch (.slice (some ⟨ab, 0, none⟩) L.length c)) w W2 := by
    rw [← hW2]
    exact Fr.setCell (Fr.of_below hB _) (.inr (Nat.le_refl _)) _
  refine ⟨rfl, ⟨Fr.blk fS hN2.blk (fun e => hab2 e.symm), ?_, ?_, h.hb, h.hc⟩, Fr.next fT (Fr.mono fS (fun m _ hm => .inr (.inr (by rw [hm]; rfl))))⟩
  · rw [List.map_set, List.length_set]
    exact o1
  · obtain ⟨s, r, hc⟩ := hN2.chn
    exact ⟨s, r, (fS.block ch hN2.ltc (fun e => hac e.symm)).trans hc⟩
end Go.Proofs.Ytpmjbkpooionbaa
