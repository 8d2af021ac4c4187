/- The walk of Send. -/
import Derived.Test.YtpmjbkpooionbaaNetNew
set_option linter.unusedVariables false
namespace Go.Proofs.Ytpmjbkpooionbaa
open Go.RowKit Go.Conc

theorem infoStr : (Try.prog.info? 9).map (fun i => (i.zero, i.size, i.bytes)) = some (some (.string .empty), 1, 16) := by kernel_rfl
theorem str_one (s : ByteArray) : ∀ u ∈ (#[Value.string s] : Array Value).toList, u.oneCell' = true := by simp [Value.oneCell']

section
variable {w w' : World} {base b ch : Nat} {V : Value} {L : List ByteArray} {sent lost : Nat}
/-- A counter of a net is set. -/
theorem NetAt.set2 (h : NetAt w base b ch V L sent lost) (n : Nat) : NetAt (w.setCell ⟨b, 2, none⟩ (.int .i64 n)) base b ch V L n lost :=
  ⟨Blk.set_ h.blk 2 _, Fr.own (S := fun k => k = b) (Fr.setCell (S := fun k => k = b) (Fr.refl _ _) (.inl rfl) _) h.own (fun k hk e => h.own_ne.1 (by rw [hk, e])), by
    obtain ⟨s, r, hc⟩ := h.chn
    exact ⟨s, r, (Below.heap_setCell _ _ _ _ (fun e => h.bc e.symm)).trans hc⟩, h.hb, h.hc⟩
theorem NetAt.set3 (h : NetAt w base b ch V L sent lost) (n : Nat) : NetAt (w.setCell ⟨b, 3, none⟩ (.int .i64 n)) base b ch V L sent n :=
  ⟨Blk.set_ h.blk 3 _, Fr.own (S := fun k => k = b) (Fr.setCell (S := fun k => k = b) (Fr.refl _ _) (.inl rfl) _) h.own (fun k hk e => h.own_ne.1 (by rw [hk, e])), by
    obtain ⟨s, r, hc⟩ := h.chn
    exact ⟨s, r, (Below.heap_setCell _ _ _ _ (fun e => h.bc e.symm)).trans hc⟩, h.hb, h.hc⟩
/-- A net gets a new row, which lies where its own lay or in a new block. -/
theorem NetAt.put {V' : Value} {L' : List ByteArray} (h : NetAt w base b ch V L sent lost) (g : w.grownBy w' V.ownBlock) (hm : Moved w V V') (ho : w'.ownsRow base 9 1 V' L'.length (L'.map Value.string)) :
    NetAt (w'.setCell ⟨b, 0, none⟩ V') base b ch V' L' sent lost := by
  have hb1 : Blk w' b 49 #[V, .chan (some ch), .int .i64 sent, .int .i64 lost] := Blk.grown h.blk g (fun e => h.own_ne.1 e.symm)
  have hlt := h.lt
  have hltc := h.ltc
  have hne := h.own_ne
  refine ⟨Blk.set_ hb1 0 _, Fr.own (S := fun k => k = b) (Fr.setCell (S := fun k => k = b) (Fr.refl _ _) (.inl rfl) _) ho (fun k hk e => ?_), ?_, h.hb, h.hc⟩
  · rcases hm k hk with h1 | h1
    · exact hne.1 (by rw [h1, e])
    · omega
  · obtain ⟨s, r, hc⟩ := h.chn
    exact ⟨s, r, (Below.heap_setCell _ _ _ _ (fun e => h.bc e.symm)).trans ((g.block ch hltc (fun e => hne.2 e.symm)).trans hc)⟩
end

set_option maxRecDepth 100000 in
theorem net_send_no (base b ch : Nat) (V : Value) (L : List ByteArray) (sent lost : Nat) (s : ByteArray) (w : World) (h : NetAt w base b ch V L sent lost) (hl : 4096 ≤ L.length) (hl2 : L.length ≤ 9223372036854775807) (hs : sent ≤ 1000000) (hlo : lost ≤ 1000000) :
    Calls Try.prog 9 #[.pointer (some ⟨b, 0, none⟩), .string s] w fun e w' => e = .returned (.bool false) ∧ NetAt w' base b ch V L (sent + 1) (lost + 1) ∧ Fr (fun k => k = b) w w' := by
  obtain ⟨A, c, rfl, hcap, harr, hfr⟩ := own_arr h.own
  have c0 := h.c0
  have c2 := h.c2
  have c3 := h.c3
  have f2 := h.f2
  have f3 := h.f3
  go_enter Try.func9, Try.ntmps9
  go_wp2
  go_ret
  exact ⟨rfl, (h.set2 (sent + 1)).set3 (lost + 1), Fr.setCell (S := fun k => k = b) (Fr.setCell (S := fun k => k = b) (Fr.refl _ _) (.inl rfl) _) (.inl rfl) _⟩

set_option maxHeartbeats 1000000 in
set_option maxRecDepth 100000 in
theorem net_send (base b ch : Nat) (V : Value) (L : List ByteArray) (sent lost : Nat) (s : ByteArray) (w : World) (h : NetAt w base b ch V L sent lost) (hbs : base ≤ w.heap.size) (hl : L.length < 4096) (hs : sent ≤ 1000000) :
    Calls Try.prog 9 #[.pointer (some ⟨b, 0, none⟩), .string s] w fun e w' => e = .returned (.bool true) ∧ ∃ V', NetAt w' base b ch V' (L ++ [s]) (sent + 1) lost ∧ Fr (NS b ch V) w w' ∧ Moved w V V' := by
  obtain ⟨i0, hi, hz0, hz1, hz2⟩ := info_parts infoStr
  obtain ⟨A, c, rfl, hcap, harr, hfr⟩ := own_arr h.own
  have h1 := h.set2 (sent + 1)
  have hne := h.own_ne.1
  have c0 := h.c0
  have c2 := h.c2
  have f2 := h.f2
  have ho1 : (w.setCell ⟨b, 2, none⟩ (.int .i64 ((sent : Int) + 1))).ownsRow base 9 1 (.slice A L.length c) L.length (L.map Value.string) := h1.own
  have hb1 : Blk (w.setCell ⟨b, 2, none⟩ (.int .i64 ((sent : Int) + 1))) b 49 #[.slice A L.length c, .chan (some ch), .int .i64 ((sent : Int) + 1), .int .i64 lost] := h1.blk
  have hg : decide ((4096 : Int) ≤ (L.length : Int)) = false := by simp; omega
  clear harr
  go_enter Try.func9, Try.ntmps9
  go_wp2_with (at_builtin; refine wpList_push rfl _ _ _ rfl Try.underlying22 hi hz0 hz1 hz2 rfl (by decide) ho1 rfl (by rw [World.size_setCell]; rfl) rfl (str_one s) (by unfold maxLen; omega) (by omega) (by simp; omega) ?_; intro g cap w3 hown3 hgr3 hat3; have h3 := Blk.grown hb1 hgr3 (fun e => hne e.symm); have f3 := Blk.frozen h3 0; have c3 := Blk.cell h3 0)
  go_ret
  rw [World.size_setCell] at hat3
  have hm : Moved w (.slice A L.length c) (.slice (some ⟨g, 0, none⟩) (L.length + 1) cap) := by
    intro k hk
    simp only [Value.ownBlock, Option.some.injEq] at hk
    subst hk
    exact hat3
  refine ⟨rfl, _, h1.put (L' := L ++ [s]) hgr3 (fun k hk => (hm k hk).imp id (fun h => by rw [World.size_setCell]; exact h)) (by rw [List.length_append, List.map_append]; exact hown3), ?_, hm⟩
  exact Fr.setCell (Fr.next (Fr.setCell (Fr.refl (NS b ch (.slice A L.length c)) w) (.inl (.inl rfl)) _) (Fr.of_grown hgr3 (fun k hk => .inr (.inr hk)))) (.inl (.inl rfl)) _
end Go.Proofs.Ytpmjbkpooionbaa
