/- The walks of Drop, Copy and Swap. -/
import Derived.Test.YtpmjbkpooionbaaNetTake
import Derived.BigRegion
set_option linter.unusedVariables false
namespace Go.Proofs.Ytpmjbkpooionbaa
open Go.RowKit

set_option maxRecDepth 100000 in
theorem net_drop_no (base b ch : Nat) (V : Value) (L : List ByteArray) (sent lost : Nat) (i : Int) (w : World) (h : NetAt w base b ch V L sent lost) (hl : L.length ≤ 4096) (hi : ¬ (0 ≤ i ∧ i < L.length)) (i0 : -9223372036854775808 ≤ i) (i1 : i ≤ 9223372036854775807) :
    Calls Try.prog 16 #[.pointer (some ⟨b, 0, none⟩), .int .i64 i] w fun e w' => e = .returned (.int .i64 2) ∧ w = w' := by
  have hp := net_peek base b ch V L sent lost i w h hl i0 i1
  rw [(peek_no hi).1, (peek_no hi).2] at hp
  have HP := Lib.hid hp
  clear hp
  go_enter Try.func16, Try.ntmps16
  go_wp2_with (first | (go_at_call 19; refine HP.out.mono ?_; rintro e w1 ⟨rfl, rfl⟩))
  go_ret
  exact ⟨rfl, rfl⟩

set_option maxRecDepth 100000 in
theorem net_drop (base b ch : Nat) (V : Value) (L : List ByteArray) (sent lost : Nat) (i : Nat) (w : World) (h : NetAt w base b ch V L sent lost) (hl : L.length ≤ 4096) (hi : i < L.length) :
    Calls Try.prog 16 #[.pointer (some ⟨b, 0, none⟩), .int .i64 i] w fun e w' => e = .returned (.int .i64 0) ∧ ∃ V', NetAt w' base b ch V' (L.eraseIdx i) sent lost ∧ Fr (NS b ch V) w w' ∧ V'.ownBlock = V.ownBlock := by
  obtain ⟨x, hx⟩ : ∃ x, L[i]? = some x := ⟨_, List.getElem?_eq_getElem hi⟩
  have hp := net_peek base b ch V L sent lost i w h hl (by omega) (by omega)
  rw [(peek_ok hx).1, (peek_ok hx).2] at hp
  have HP := Lib.hid hp
  clear hp hx
  have c0 := h.c0
  go_enter Try.func16, Try.ntmps16
  go_wp2_with (first | (go_at_call 19; refine HP.out.mono ?_; rintro e w1 ⟨rfl, rfl⟩) | (go_at_call 22; refine (net_delete base V L i _ h.own hi).mono ?_; rintro e w2 ⟨V', rfl, hown2, hob, hg2⟩; obtain ⟨A2, c2, rfl, _, _, _⟩ := own_arr hown2; have hb2 := Blk.grown h.blk hg2 (fun e => h.own_ne.1 e.symm); have c0' := Blk.cell hb2 0; have f0' := Blk.frozen hb2 0))
  go_ret
  refine ⟨rfl, _, h.put hg2 (fun k hk => .inl (by rw [← hob]; exact hk)) hown2, ?_, hob⟩
  exact Fr.setCell (Fr.of_grown hg2 (fun k hk => .inr (.inr hk))) (.inl (.inl rfl)) _

set_option maxRecDepth 100000 in
theorem net_copy_no (base b ch : Nat) (V : Value) (L : List ByteArray) (sent lost : Nat) (i : Int) (w : World) (h : NetAt w base b ch V L sent lost) (hl : L.length ≤ 4096) (hi : ¬ (0 ≤ i ∧ i < L.length)) (i0 : -9223372036854775808 ≤ i) (i1 : i ≤ 9223372036854775807) :
    Calls Try.prog 15 #[.pointer (some ⟨b, 0, none⟩), .int .i64 i] w fun e w' => e = .returned (.int .i64 2) ∧ w = w' := by
  have hp := net_peek base b ch V L sent lost i w h hl i0 i1
  rw [(peek_no hi).1, (peek_no hi).2] at hp
  have HP := Lib.hid hp
  clear hp
  go_enter Try.func15, Try.ntmps15
  go_wp2_with (first | (go_at_call 19; refine HP.out.mono ?_; rintro e w1 ⟨rfl, rfl⟩))
  go_ret
  exact ⟨rfl, rfl⟩

set_option maxRecDepth 100000 in
theorem net_copy_full (base b ch : Nat) (V : Value) (L : List ByteArray) (sent lost : Nat) (i : Nat) (w : World) (h : NetAt w base b ch V L sent lost) (hl : L.length = 4096) (hi : i < L.length) :
    Calls Try.prog 15 #[.pointer (some ⟨b, 0, none⟩), .int .i64 i] w fun e w' => e = .returned (.int .i64 7) ∧ w = w' := by
  obtain ⟨x, hx⟩ : ∃ x, L[i]? = some x := ⟨_, List.getElem?_eq_getElem hi⟩
  have hp := net_peek base b ch V L sent lost i w h (by omega) (by omega) (by omega)
  rw [(peek_ok hx).1, (peek_ok hx).2] at hp
  have HP := Lib.hid hp
  have hg : decide ((4096 : Int) ≤ (L.length : Int)) = true := by simp; omega
  clear hp hx
  go_enter Try.func15, Try.ntmps15
  go_wp2_with (first | (go_at_call 19; refine HP.out.mono ?_; rintro e w1 ⟨rfl, rfl⟩) | (go_at_call 11; refine (net_len base b ch _ L sent lost _ h).mono ?_; rintro e w1 ⟨rfl, rfl⟩))
  go_ret
  exact ⟨rfl, rfl⟩

set_option maxHeartbeats 1000000 in
set_option maxRecDepth 100000 in
theorem net_copy (base b ch : Nat) (V : Value) (L : List ByteArray) (sent lost : Nat) (i : Nat) (x : ByteArray) (w : World) (h : NetAt w base b ch V L sent lost) (hbs : base ≤ w.heap.size) (hl : L.length < 4096) (hx : L[i]? = some x) :
    Calls Try.prog 15 #[.pointer (some ⟨b, 0, none⟩), .int .i64 i] w fun e w' => e = .returned (.int .i64 0) ∧ ∃ V', NetAt w' base b ch V' (L ++ [x]) sent lost ∧ Fr (NS b ch V) w w' ∧ Moved w V V' := by
  have hi : i < L.length := by
    rcases Nat.lt_or_ge i L.length with h' | h'
    · exact h'
    · rw [List.getElem?_eq_none h'] at hx; cases hx
  have hp := net_peek base b ch V L sent lost i w h (by omega) (by omega) (by omega)
  rw [(peek_ok hx).1, (peek_ok hx).2] at hp
  have HP := Lib.hid hp
  have hg : decide ((4096 : Int) ≤ (L.length : Int)) = false := by simp; omega
  clear hp hx
  obtain ⟨i0, hi0, hz0, hz1, hz2⟩ := info_parts infoStr
  obtain ⟨A, c, rfl, hcap, harr, hfr⟩ := own_arr h.own
  have hne := h.own_ne.1
  have c0 := h.c0
  clear harr
  go_enter Try.func15, Try.ntmps15
  go_wp2_with (first | (go_at_call 19; refine HP.out.mono ?_; rintro e w1 ⟨rfl, rfl⟩) | (go_at_call 11; refine (net_len base b ch _ L sent lost _ h).mono ?_; rintro e w1 ⟨rfl, rfl⟩) | (at_builtin; refine wpList_push rfl _ _ _ rfl Try.underlying22 hi0 hz0 hz1 hz2 rfl (by decide) h.own rfl rfl rfl (str_one x) (by unfold maxLen; omega) (by omega) (by omega) ?_; intro g cap w3 hown3 hgr3 hat3; have h3 := Blk.grown h.blk hgr3 (fun e => hne e.symm); have f3 := Blk.frozen h3 0; have c3 := Blk.cell h3 0))
  go_ret
  have hm : Moved w (.slice A L.length c) (.slice (some ⟨g, 0, none⟩) (L.length + 1) cap) := by
    intro k hk
    simp only [Value.ownBlock, Option.some.injEq] at hk
    subst hk
    exact hat3
  refine ⟨rfl, _, h.put (L' := L ++ [x]) hgr3 hm (by rw [List.length_append, List.map_append]; exact hown3), ?_, hm⟩
  exact Fr.setCell (Fr.of_grown hgr3 (fun k hk => .inr (.inr hk))) (.inl (.inl rfl)) _
end Go.Proofs.Ytpmjbkpooionbaa
