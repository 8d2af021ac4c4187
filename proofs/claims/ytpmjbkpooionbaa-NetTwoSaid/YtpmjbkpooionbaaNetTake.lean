/- The walk of Take: two selects, of one case and a default each, in one goroutine. -/
import Derived.Test.YtpmjbkpooionbaaNetDel
import Derived.Conc.LoneSelect
set_option linter.unusedVariables false
namespace Go.Proofs.Ytpmjbkpooionbaa
open Go.RowKit Go.Conc

/-- A call within a walk of one goroutine, by its contract. -/
theorem lone_call {P : Program} {Q : Goroutine → World → Prop} {b : Frame} {a : Act} {ops : Array Oper} {i : Nat} {rest : List Nat} {k : List Item} {cs : List Frame} {w : World} {o : Oper} {f : FuncId} {args : Array Value} {R : Ending → World → Prop}
    (ho : ops[i]? = some o) (hw : Region.wanted o (yielded ops a.tmps) = true) (hr : (execOp a.eval o).run P w = .ok (.enter f args) w) (hc : Calls P f args w R)
    (hk : ∀ e w', R e w' → ∃ v, e = .returned v ∧ LoneTo P Q (G (b.at (a.put o.dst v) (.inRegion ops rest :: k)) cs) w') :
    LoneTo P Q (G (b.at a (.inRegion ops (i :: rest) :: k)) cs) w := by
  obtain ⟨e, w', fr, hR, hsteps, _, hleave⟩ := hc (b.at a (.inRegion ops (i :: rest) :: k) :: cs)
  obtain ⟨v, rfl, g₂, w₂, hs, hq⟩ := hk e w' hR
  have hg := stepG_op (P := P) (b := b) (k := k) (cs := cs) (w := w) (rest := rest) ho hw
  have hfin : ∀ v, (b.at a (.inRegion ops (i :: rest) :: k)).finish v = b.at (a.put o.dst v) (.inRegion ops rest :: k) := by
    intro v; rw [Frame.finish_at, ho]; rfl
  have henter : step P (lone (b.at a (.inRegion ops (i :: rest) :: k)) cs w) = .next (lone (Frame.enter P f args .normal) (b.at a (.inRegion ops (i :: rest) :: k) :: cs) w) :=
    step_lone_go (by rw [hg]; simp [stepG.apply, hr, Frame.at])
  have hl := step_leave_returned (c := b.at a (.inRegion ops (i :: rest) :: k)) (cs := cs) hleave
  rw [hfin] at hl
  exact ⟨g₂, w₂, Steps.head henter (Steps.trans hsteps (Steps.head hl hs)), hq⟩

theorem fr_setChan (w : World) (c cap : Nat) (buf : Array Value) (cl : Bool) (s r : Nat) (tm : Bool) : Fr (fun k => k = c) w (w.setChan c cap buf cl s r tm) :=
  ⟨rfl, rfl, rfl, by rw [size_setChan]; exact Nat.le_refl _, fun k hk hn => by simp only [World.setChan]; rw [Array.getElem?_setIfInBounds_ne (fun e => hn e.symm)]⟩

set_option maxHeartbeats 1000000 in
set_option maxRecDepth 100000 in
theorem net_take (base b ch : Nat) (V : Value) (L : List ByteArray) (sent lost : Nat) (i : Nat) (w : World) (h : NetAt w base b ch V L sent lost) (hl : L.length ≤ 4096) (hi : i < L.length) :
    Calls Try.prog 10 #[.pointer (some ⟨b, 0, none⟩), .int .i64 i] w fun e w' => e = .returned (.tuple #[.string (peekS L i), .int .i64 0]) ∧ ∃ V', NetAt w' base b ch V' (L.eraseIdx i) sent lost ∧ Fr (NS b ch V) w w' ∧ V'.ownBlock = V.ownBlock := by
  obtain ⟨x, hx⟩ : ∃ x, L[i]? = some x := ⟨_, List.getElem?_eq_getElem hi⟩
  have HP := Lib.hid (peek_ok hx)
  clear hx
  have hw1 : IntKind.i64.wrap ((i : Int) + 1) = (i : Int) + 1 := IntWalk.i64_in _ (by omega)
  rw [HP.out.1]
  have c0 := h.c0
  have c1 := h.c1
  have f0 := h.f0
  refine calls_of_loneTo fun cs => ?_
  have e : Frame.enter Try.prog 10 #[.pointer (some ⟨b, 0, none⟩), .int .i64 i] .normal = (Go.Conc.base 10).at ⟨#[.pointer (some ⟨b, 0, none⟩), .int .i64 i, undef, undef, undef, undef, undef, undef, undef, undef, undef, undef, undef, undef, undef, undef, undef, undef, undef, undef, undef, undef, undef, undef, undef, undef, undef, undef, undef, undef, undef, undef, undef, undef, undef, undef, undef, undef, undef, undef, undef, undef, undef, undef, undef, undef, undef, undef, undef, undef, undef, undef], []⟩ [.code (Try.f10.body.getD .skip)] := by
    simp [Frame.enter, Frame.at, Try.func10, Go.Conc.base, Try.f10]
  rw [e]
  clear e
  refine LoneTo.goes (n := 60) ?_
  simp only [Try.f10, Option.getD_some]
  repeat (first | s_c stepG_seq | s_c stepG_region_end | s_c stepG_block | s_reg | s_op)
  s_stop
  refine lone_call rfl rfl (by simp [go_sem, execOp]) (net_peek base b ch V L sent lost i w h hl (by omega) (by omega)) ?_
  rintro e w1 ⟨rfl, rfl⟩
  refine ⟨_, rfl, ?_⟩
  rw [HP.out.1, HP.out.2]
  walk_nrm
  refine LoneTo.goes (n := 80) ?_
  repeat (first | s_c stepG_seq | s_c stepG_region_end | s_c stepG_block | s_c stepG_skip | s_c stepG_inBlock | s_reg | s_op | s_cond false)
  s_stop
  refine lone_call rfl rfl (by simp [go_sem, execOp]) (net_delete base V L i w h.own hi) ?_
  rintro e w2 ⟨V', rfl, hown2, hob, hg2⟩
  obtain ⟨A2, c2, rfl, _, _, _⟩ := own_arr hown2
  refine ⟨_, rfl, ?_⟩
  have hb2 := Blk.grown h.blk hg2 (fun e => h.own_ne.1 e.symm)
  have c0' := Blk.cell hb2 0
  have c1' : w2.cell? ⟨b, 1, none⟩ = some (.chan (some ch)) := Blk.cell hb2 1
  have f0' := Blk.frozen hb2 0
  have h3 := h.put hg2 (fun k hk => .inl (by rw [← hob]; exact hk)) hown2
  obtain ⟨s, r, hch⟩ := h3.chn
  walk_nrm
  refine LoneTo.goes (n := 80) ?_
  repeat (first | s_c stepG_seq | s_c stepG_region_end | s_c stepG_block | s_c stepG_skip | s_c stepG_inBlock | s_reg | s_op | s_cond false)
  s_stop
  refine LoneTo.step (step_lone_select_send_room (c := ch) (cap := 1) (buf := #[]) (s := s) (r := r) (tm := false) (stepG_comm (cases := #[scase ch (.string x) (.string ⟨#[]⟩)]) (blocking := false) (shape := .select) (w' := w2.setCell ⟨b, 0, none⟩ (.slice A2 (L.eraseIdx i).length c2)) rfl rfl (by decide) (by simp [go_sem, execOp, scase, Act.eval])) hch (by simp)) ?_
  rw [Frame.finish_at]
  walk_nrm
  have hlt3 := h3.ltc
  have hbc := h3.bc
  have hs1 := heap_setChan (w2.setCell ⟨b, 0, none⟩ (.slice A2 (L.eraseIdx i).length c2)) ch 1 #[.string x] false (s + 1) r false hlt3
  have c1'' : ((w2.setCell ⟨b, 0, none⟩ (.slice A2 (L.eraseIdx i).length c2)).setChan ch 1 #[.string x] false (s + 1) r false).cell? ⟨b, 1, none⟩ = some (.chan (some ch)) := (Fr.cell (fr_setChan _ ch 1 #[.string x] false (s + 1) r false) (p := ⟨b, 1, none⟩) h3.lt (fun e => hbc e)).trans h3.c1
  refine LoneTo.goes (n := 80) ?_
  repeat (first | s_c stepG_seq | s_c stepG_region_end | s_c stepG_block | s_c stepG_skip | s_c stepG_inBlock | s_reg | s_op | s_cond false | s_cond true)
  s_stop
  refine LoneTo.step (step_lone_select_recv_buf (c := ch) (z := .string ⟨#[]⟩) (cap := 1) (buf := #[.string x]) (closed := false) (s := s + 1) (r := r) (tm := false) (stepG_comm (cases := #[rcase ch (.string ⟨#[]⟩)]) (blocking := false) (shape := .select) (w' := (w2.setCell ⟨b, 0, none⟩ (.slice A2 (L.eraseIdx i).length c2)).setChan ch 1 #[.string x] false (s + 1) r false) rfl rfl (by decide) (by simp [go_sem, execOp, rcase, Act.eval])) hs1 (by simp)) ?_
  rw [Frame.finish_at]
  walk_nrm
  refine LoneTo.goes (n := 80) ?_
  repeat (first | s_c stepG_seq | s_c stepG_region_end | s_c stepG_block | s_c stepG_skip | s_c stepG_inBlock | s_reg | s_op | s_cond false | s_cond true | s_c stepG_ret')
  s_stop
  refine LoneTo.done ⟨.returned (.tuple #[.string x, .int .i64 0]), _, rfl, ⟨rfl, ?_⟩, rfl, rfl, rfl, rfl, _, Try.func10, by simp [results, Try.f10, Frame.at]⟩
  have f4 := fr_setChan (w2.setCell ⟨b, 0, none⟩ (.slice A2 (L.eraseIdx i).length c2)) ch 1 #[.string x] false (s + 1) r false
  have f5 := fr_setChan ((w2.setCell ⟨b, 0, none⟩ (.slice A2 (L.eraseIdx i).length c2)).setChan ch 1 #[.string x] false (s + 1) r false) ch 1 #[] false (s + 1) (r + 1) false
  have f6 := Fr.next f4 f5
  have f7 : Fr (NS b ch V) (w2.setCell ⟨b, 0, none⟩ (.slice A2 (L.eraseIdx i).length c2)) _ := Fr.mono f6 (fun k _ hk => .inr (.inl hk))
  have hne3 := h3.own_ne
  refine ⟨_, ⟨Fr.blk f6 h3.blk (fun e => hbc e), Fr.own f6 h3.own (fun k hk e => hne3.2 (by rw [hk, e])), ⟨s + 1, r + 1, heap_setChan _ _ _ _ _ _ _ _ (by rw [size_setChan]; exact hlt3)⟩, h.hb, h.hc⟩, ?_, hob⟩
  exact Fr.next (Fr.setCell (Fr.of_grown hg2 (fun k hk => .inr (.inr hk))) (.inl (.inl rfl)) _) f7

set_option maxRecDepth 100000 in
theorem net_take_no (base b ch : Nat) (V : Value) (L : List ByteArray) (sent lost : Nat) (i : Int) (w : World) (h : NetAt w base b ch V L sent lost) (hl : L.length ≤ 4096) (hi : ¬ (0 ≤ i ∧ i < L.length)) (i0 : -9223372036854775808 ≤ i) (i1 : i ≤ 9223372036854775807) :
    Calls Try.prog 10 #[.pointer (some ⟨b, 0, none⟩), .int .i64 i] w fun e w' => e = .returned (.tuple #[.string ⟨#[]⟩, .int .i64 2]) ∧ w = w' := by
  have hp := net_peek base b ch V L sent lost i w h hl i0 i1
  rw [(peek_no hi).1, (peek_no hi).2] at hp
  have HP := Lib.hid hp
  clear hp
  go_enter Try.func10, Try.ntmps10
  go_wp2_with (go_at_call 19; refine HP.out.mono ?_; rintro e w1 ⟨rfl, rfl⟩)
  go_ret2
  exact ⟨rfl, rfl⟩
end Go.Proofs.Ytpmjbkpooionbaa
