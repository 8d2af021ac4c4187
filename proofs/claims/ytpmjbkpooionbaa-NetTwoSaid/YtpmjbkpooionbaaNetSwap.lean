/- The walk of Swap. -/
import Derived.Test.YtpmjbkpooionbaaNetMore
import Derived.BigRegion
set_option linter.unusedVariables false
namespace Go.Proofs.Ytpmjbkpooionbaa
open Go.RowKit

/-- A store into an own row. -/
theorem own_set {w : World} {base : Nat} {e : TypeId} {g n cap : Nat} {xs : List Value} (h : w.ownsRow base e 1 (.slice (some ⟨g, 0, none⟩) n cap) n xs) (i : Nat) (u : Value) (hi : i < n) :
    (w.setCell ⟨g, i, none⟩ u).ownsRow base e 1 (.slice (some ⟨g, 0, none⟩) n cap) n (xs.set i u) := by
  obtain ⟨hl, hh⟩ := h
  rcases hh with ⟨hv, _⟩ | ⟨g', cap', cur, hv, hb, hg, hn, hm, hc, ht⟩
  · cases hv
  · injection hv with h1 h2 h3
    injection h1 with h1
    injection h1 with h1 _ _
    subst h1
    subst h3
    refine ⟨by rw [List.length_set]; exact hl, .inr ⟨g, cap, cur.setIfInBounds i u, rfl, hb, Blk.set_ (g := g) (cs := cur) hg i u, hn, hm, by simpa using hc, ?_⟩⟩
    rw [Array.toList_setIfInBounds, List.take_set, ht]

set_option maxHeartbeats 4000000 in
set_option maxRecDepth 100000 in
theorem net_swap (base b ch : Nat) (V : Value) (L : List ByteArray) (sent lost : Nat) (i k : Nat) (x y : ByteArray) (w : World) (h : NetAt w base b ch V L sent lost) (hl : L.length ≤ 4096) (hx : L[i]? = some x) (hy : L[k]? = some y) (hik : i ≠ k) :
    Calls Try.prog 21 #[.pointer (some ⟨b, 0, none⟩), .int .i64 i, .int .i64 k] w fun e w' => e = .returned (.int .i64 0) ∧ NetAt w' base b ch V ((L.set i y).set k x) sent lost ∧ Fr (NS b ch V) w w' := by
  have hi : i < L.length := by
    rcases Nat.lt_or_ge i L.length with h' | h'
    · exact h'
    · rw [List.getElem?_eq_none h'] at hx; cases hx
  have hk : k < L.length := by
    rcases Nat.lt_or_ge k L.length with h' | h'
    · exact h'
    · rw [List.getElem?_eq_none h'] at hy; cases hy
  have hp := net_peek base b ch V L sent lost i w h (by omega) (by omega) (by omega)
  rw [(peek_ok hx).1, (peek_ok hx).2] at hp
  have HP := Lib.hid hp
  have hq := net_peek base b ch V L sent lost k w h (by omega) (by omega) (by omega)
  rw [(peek_ok hy).1, (peek_ok hy).2] at hq
  have HQ := Lib.hid hq
  clear hp hq
  have c0 := h.c0
  have hne := h.own_ne
  obtain ⟨A, c, rfl, hcap, harr, hfr⟩ := own_arr h.own
  obtain ⟨ab, ao, rfl, hab, hcell⟩ := harr.2 (by omega)
  obtain rfl : ao = 0 := by
    rcases h.own.2 with ⟨hv, _⟩ | ⟨g', cap', cur, hv, _⟩
    · cases hv
    · injection hv with h1
      injection h1 with h1
      injection h1
  have e1 := hcell i (.string x) (by simp [hx])
  have e2 := hcell k (.string y) (by simp [hy])
  rw [Nat.zero_add] at e1 e2
  have fz : ∀ j, w.frozen? ⟨ab, j, none⟩ = false := by
    intro j
    rcases h.own.2 with ⟨hv, _⟩ | ⟨g', cap', cur, hv, hb, hg, _⟩
    · cases hv
    · injection hv with h1
      injection h1 with h1
      injection h1 with h1
      subst h1
      exact Blk.frozen (cs := cur) hg j
  have f1 := fz i
  have f2 := fz k
  clear harr hcell fz hfr
  have j0 : (0 : Int) ≤ (i : Int) := by omega
  have j1 : (i : Int) < (L.length : Int) := by omega
  have j2 : (0 : Int) ≤ (k : Int) := by omega
  have j3 : (k : Int) < (L.length : Int) := by omega
  go_enter Try.func21, Try.ntmps21
  go_wp2_with (first | (go_at_call 19; with_reducible refine HP.out.mono ?_; rintro e w1 ⟨rfl, rfl⟩) | (go_at_call 19; with_reducible refine HQ.out.mono ?_; rintro e w1 ⟨rfl, rfl⟩))
  have hab2 : ab ≠ b := fun e => hne.1 (by rw [← e]; rfl)
  have hki : k ≠ i := fun e => hik e.symm
  clear HP HQ hl hab hcap
  go_region
  go_wp2
  go_ret
  have o1 := own_set h.own i (.string y) hi
  have o2 := own_set o1 k (.string x) hk
  have fS : Fr (fun j => j = ab) w (((w.setCell ⟨ab, i, none⟩ (.string y)).setCell ⟨ab, k, none⟩ (.string x)).drew) :=
    Fr.drew (Fr.setCell (S := fun j => j = ab) (Fr.setCell (S := fun j => j = ab) (Fr.refl _ _) (.inl rfl) _) (.inl rfl) _)
  have hac : ab ≠ ch := fun e => hne.2 (by rw [← e]; rfl)
  refine ⟨rfl, ⟨Fr.blk fS h.blk (fun e => hab2 e.symm), ?_, ?_, h.hb, h.hc⟩, Fr.mono fS (fun j _ hj => .inr (.inr (by rw [hj]; rfl)))⟩
  · rw [List.map_set, List.map_set, List.length_set, List.length_set]
    exact o2
  · obtain ⟨s, r, hc⟩ := h.chn
    exact ⟨s, r, (fS.block ch h.ltc (fun e => hac e.symm)).trans hc⟩
end Go.Proofs.Ytpmjbkpooionbaa
