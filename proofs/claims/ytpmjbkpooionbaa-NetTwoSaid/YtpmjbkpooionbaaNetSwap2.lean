/- The walks of Swap at one place, and out of range. -/
import Derived.Test.YtpmjbkpooionbaaNetSwap
import Derived.BigRegion
set_option linter.unusedVariables false
namespace Go.Proofs.Ytpmjbkpooionbaa
open Go.RowKit

theorem set_self {α : Type} {l : List α} {i : Nat} {x : α} (h : l[i]? = some x) : l.set i x = l := by
  apply List.ext_getElem?
  intro j
  rw [List.getElem?_set]
  split
  · rename_i e
    subst e
    have hlt : i < l.length := by
      rcases Nat.lt_or_ge i l.length with h' | h'
      · exact h'
      · rw [List.getElem?_eq_none h'] at h; cases h
    rw [if_pos hlt, h]
  · rfl

set_option maxHeartbeats 4000000 in
set_option maxRecDepth 100000 in
theorem net_swap_same (base b ch : Nat) (V : Value) (L : List ByteArray) (sent lost : Nat) (i : Nat) (x : ByteArray) (w : World) (h : NetAt w base b ch V L sent lost) (hl : L.length ≤ 4096) (hx : L[i]? = some x) :
    Calls Try.prog 21 #[.pointer (some ⟨b, 0, none⟩), .int .i64 i, .int .i64 i] w fun e w' => e = .returned (.int .i64 0) ∧ NetAt w' base b ch V L sent lost ∧ Fr (NS b ch V) w w' := by
  have hi : i < L.length := by
    rcases Nat.lt_or_ge i L.length with h' | h'
    · exact h'
    · rw [List.getElem?_eq_none h'] at hx; cases hx
  have hp := net_peek base b ch V L sent lost i w h (by omega) (by omega) (by omega)
  rw [(peek_ok hx).1, (peek_ok hx).2] at hp
  have HP := Lib.hid hp
  clear hp
  have c0 := h.c0
  have hne := h.own_ne
  obtain ⟨A, c, rfl, hcap, harr, hfr⟩ := own_arr h.own
  obtain ⟨ab, ao, rfl, hab, hcell⟩ := harr.2 (by omega)
  obtain rfl : ao = 0 := by
    rcases h.own.2 with ⟨hv, _⟩ | ⟨g', cap', cur, hv, _⟩
    · cases hv
    · injection hv with h1
      injection h1 with h1
      injection h1
  have e1 := hcell i (.string x) (by simp [hx])
  rw [Nat.zero_add] at e1
  have fz : ∀ j, w.frozen? ⟨ab, j, none⟩ = false := by
    intro j
    rcases h.own.2 with ⟨hv, _⟩ | ⟨g', cap', cur, hv, hb, hg, _⟩
    · cases hv
    · injection hv with h1
      injection h1 with h1
      injection h1 with h1
      subst h1
      exact Blk.frozen (cs := cur) hg j
  have f1 := fz i
  clear harr hcell fz hfr
  have j0 : (0 : Int) ≤ (i : Int) := by omega
  have j1 : (i : Int) < (L.length : Int) := by omega
  go_enter Try.func21, Try.ntmps21
  go_wp2_with (go_at_call 19; with_reducible refine HP.out.mono ?_; rintro e w1 ⟨rfl, rfl⟩)
  have hab2 : ab ≠ b := fun e => hne.1 (by rw [← e]; rfl)
  clear HP hl hab hcap
  go_region
  go_wp2
  go_ret
  have hu : (L.map Value.string)[i]? = some (.string x) := by simp [hx]
  have o1 := own_set h.own i (.string x) hi
  have o2 := own_set o1 i (.string x) hi
  rw [set_self hu, set_self hu] at o2
  have fS : Fr (fun j => j = ab) w (((w.setCell ⟨ab, i, none⟩ (.string x)).setCell ⟨ab, i, none⟩ (.string x)).drew) :=
    Fr.drew (Fr.setCell (S := fun j => j = ab) (Fr.setCell (S := fun j => j = ab) (Fr.refl _ _) (.inl rfl) _) (.inl rfl) _)
  have hac : ab ≠ ch := fun e => hne.2 (by rw [← e]; rfl)
  refine ⟨rfl, ⟨Fr.blk fS h.blk (fun e => hab2 e.symm), o2, ?_, h.hb, h.hc⟩, Fr.mono fS (fun j _ hj => .inr (.inr (by rw [hj]; rfl)))⟩
  obtain ⟨s, r, hc⟩ := h.chn
  exact ⟨s, r, (fS.block ch h.ltc (fun e => hac e.symm)).trans hc⟩

set_option maxRecDepth 100000 in
theorem net_swap_no (base b ch : Nat) (V : Value) (L : List ByteArray) (sent lost : Nat) (i k : Int) (w : World) (h : NetAt w base b ch V L sent lost) (hl : L.length ≤ 4096) (hi : ¬ (0 ≤ i ∧ i < L.length ∧ 0 ≤ k ∧ k < L.length)) (i0 : -9223372036854775808 ≤ i) (i1 : i ≤ 9223372036854775807) (k0 : -9223372036854775808 ≤ k) (k1 : k ≤ 9223372036854775807) :
    Calls Try.prog 21 #[.pointer (some ⟨b, 0, none⟩), .int .i64 i, .int .i64 k] w fun e w' => e = .returned (.int .i64 2) ∧ w = w' := by
  have hp := net_peek base b ch V L sent lost i w h hl i0 i1
  by_cases q : 0 ≤ i ∧ i < L.length
  · have hq := net_peek base b ch V L sent lost k w h hl k0 k1
    have hk : ¬ (0 ≤ k ∧ k < L.length) := fun hk => hi ⟨q.1, q.2, hk.1, hk.2⟩
    rw [(peek_no hk).1, (peek_no hk).2] at hq
    have e0 : peekE L i = 0 := if_pos q
    rw [e0] at hp
    by_cases hik : i = k
    · subst hik
      exact absurd q hk
    have HP := Lib.hid hp
    have HQ := Lib.hid hq
    clear hp hq e0
    go_enter Try.func21, Try.ntmps21
    go_wp2_with (first | (go_at_call 19; with_reducible refine HP.out.mono ?_; rintro e w1 ⟨rfl, rfl⟩) | (go_at_call 19; with_reducible refine HQ.out.mono ?_; rintro e w1 ⟨rfl, rfl⟩))
    go_ret
    exact ⟨rfl, rfl⟩
  · rw [(peek_no q).1, (peek_no q).2] at hp
    have HP := Lib.hid hp
    clear hp
    go_enter Try.func21, Try.ntmps21
    go_wp2_with (go_at_call 19; with_reducible refine HP.out.mono ?_; rintro e w1 ⟨rfl, rfl⟩)
    go_ret
    exact ⟨rfl, rfl⟩
end Go.Proofs.Ytpmjbkpooionbaa
