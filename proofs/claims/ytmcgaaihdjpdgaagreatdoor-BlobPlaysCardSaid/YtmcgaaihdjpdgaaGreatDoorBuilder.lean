/- The walks through strings.Builder: a builder of the call's own, written, then read. -/
import Derived.Test.YtmcgaaihdjpdgaaGreatDoorFrame
import Derived.Test.YtmcgaaihdjpdgaaGreatDoorProg
import Derived.Lib.AppendStr
import Derived.Lib.UnsafeStr
import Derived.Laws.Externs
namespace Go.Proofs.YtmcgaaihdjpdgaaGreatDoor
open Go.RowKit
theorem sizeBuilder : (Tryz.prog.info? 106).map (fun i => i.size) = some 2 := by kernel_rfl
theorem liesBuilder : liesAt Tryz.prog Tryz.prog.depth 106 (2 / Tryz.prog.cellsOf 106) 0 106 1 = true := by kernel_rfl
theorem infoByte : (Tryz.prog.info? 5).map (fun i => (i.zero, i.size, i.bytes)) = some (some (.int .u8 0), 1, 1) := by kernel_rfl
theorem cellsByte : Tryz.prog.cellsOf 5 = 1 := by kernel_rfl
set_option maxHeartbeats 1000000 in
set_option maxRecDepth 100000 in
theorem copyCheck_used (b : Nat) (w : World) (h0 : w.cell? ⟨b, 0, none⟩ = some (.pointer (some ⟨b, 0, none⟩))) :
    Calls Tryz.prog 89 #[.pointer (some ⟨b, 0, none⟩)] w fun e w' => e = .returned (.tuple #[]) ∧ w = w' := by
  obtain ⟨j, hj, _⟩ := Option.map_eq_some_iff.1 sizeBuilder
  go_enter Tryz.func89, Tryz.ntmps89
  go_wp2
  rw [Lib.run_neq_ptr_same w _ Tryz.underlying103 hj]
  go_wp2
  go_returns
  exact ⟨rfl, rfl⟩

set_option maxHeartbeats 1000000 in
set_option maxRecDepth 100000 in
theorem copyCheck_fresh (b : Nat) (w : World) (h0 : w.cell? ⟨b, 0, none⟩ = some (.pointer none)) (hsh : w.shape? b = some (106, 2)) (hfz : w.frozen? ⟨b, 0, none⟩ = false) :
    Calls Tryz.prog 89 #[.pointer (some ⟨b, 0, none⟩)] w fun e w' => e = .returned (.tuple #[]) ∧ w.setCell ⟨b, 0, none⟩ (.pointer (some ⟨b, 0, none⟩)) = w' := by
  obtain ⟨j, hj, hjs⟩ := Option.map_eq_some_iff.1 sizeBuilder
  have hcu := Lib.run_to_unsafe (P := Tryz.prog) w ⟨b, 0, none⟩ Tryz.underlying103 Tryz.underlying133 hj (by rw [hjs]; decide) hsh (Nat.zero_lt_succ 1)
  have hcf := Lib.run_from_unsafe (P := Tryz.prog) w ⟨b, 0, none⟩ Tryz.underlying133 Tryz.underlying103 hj hsh liesBuilder
  have hne : (callFunc 99 #[.pointer (some ⟨b, 0, none⟩)]).run Tryz.prog w = .ok (.value (.pointer (some ⟨b, 0, none⟩))) w := by
    rw [run_callFunc_extern Tryz.func99 (by kernel_rfl) (by kernel_rfl) (by kernel_rfl) (e := Extern.AbiNoEscape.same) (by kernel_rfl)]
    rw [Lib.run_noEscape]
    simp [Result.andThen]
  go_enter Tryz.func89, Tryz.ntmps89
  go_wp2
  go_returns
  exact ⟨rfl, rfl⟩

theorem copyCheck_any (b : Nat) (v : Value) (l : List UInt8) (w : World) (h : Bld 106 5 w b v l) :
    Calls Tryz.prog 89 #[.pointer (some ⟨b, 0, none⟩)] w fun e w' => e = .returned (.tuple #[]) ∧ Blk w' b 106 #[.pointer (some ⟨b, 0, none⟩), v] ∧ Fr (fun k => k = b) w w' := by
  rcases h.blk with hb | hb
  · refine (copyCheck_fresh b w (hb.cell 0) (by unfold Blk at hb; simp [World.shape?, hb]) (hb.frozen 0)).mono ?_
    rintro e w' ⟨rfl, rfl⟩
    exact ⟨rfl, hb.set_ 0 _, (Fr.refl (fun k => k = b) w).setCell (p := ⟨b, 0, none⟩) (.inl rfl) _⟩
  · refine (copyCheck_used b w (hb.cell 0)).mono ?_
    rintro e w' ⟨rfl, rfl⟩
    exact ⟨rfl, hb, Fr.refl _ _⟩

theorem cell1_of {w : World} {g : Nat} {t : TypeId} {x v : Value} (h : Blk w g t #[x, v]) : w.cell? ⟨g, 1, none⟩ = some v := h.cell 1
set_option maxHeartbeats 1000000 in
set_option maxRecDepth 100000 in
theorem writeString_any (b : Nat) (v : Value) (l : List UInt8) (s : ByteArray) (w : World) (h : Bld 106 5 w b v l) (hlen : l.length + s.size ≤ 140737488355328) :
    Calls Tryz.prog 70 #[.pointer (some ⟨b, 0, none⟩), .string s] w fun e w' => ∃ v', e = .returned (.tuple #[.int .i64 s.size, .nilIface]) ∧ Bld 106 5 w' b v' (l ++ s.data.toList) ∧ FrB 5 b w w' := by
  obtain ⟨i0, hi, hz0, hz1, hz2⟩ := info_parts infoByte
  have hTe : 106 ≠ 5 := by decide
  have hown := h.own
  have hne := h.ne hTe
  have hblt := h.lt
  go_enter Tryz.func70, Tryz.ntmps70
  go_wp2_with (first | (go_at_call 89; refine (copyCheck_any b v l _ h).mono ?_; rintro e w1 ⟨rfl, hb1, hf1⟩; have e0 := cell1_of hb1; have hown1 := hf1.own hown (fun k hk e => hne (by rw [hk, e])); have hs1 := hf1.size) | (at_builtin; refine Lib.wpList_append_own_string _ rfl _ _ 104 9 rfl b 5 i0 Tryz.underlying104 Tryz.underlying9 hi hz0 hz1 hz2 v l.length _ rfl (by assumption) s rfl (by unfold maxLen; omega) hlen (by omega) ?_))
  intro v' w2 hown2 hgr2 _
  have hb2 : Blk w2 b 106 #[.pointer (some ⟨b, 0, none⟩), v] := hb1.grown hgr2 (fun e => hne e.symm)
  have e2 : w2.cell? ⟨b, 1, none⟩ = some v := hb2.cell 1
  have f2 : w2.frozen? ⟨b, 1, none⟩ = false := hb2.frozen 1
  have hsl : l.length + s.size = (l ++ s.data.toList).length := by rw [List.length_append, ← Lib.strCells_length, Lib.strCells_eq, Lib.byteCells_length]
  have hbe : Lib.byteCells l ++ Lib.strCells s = Lib.byteCells (l ++ s.data.toList) := by rw [Lib.strCells_eq, Lib.byteCells_append]
  rw [hsl, hbe] at hown2
  clear hsl hbe
  obtain ⟨ao, n', cap, rfl⟩ : ∃ ao n' cap, v' = .slice ao n' cap := by
    rcases hown2.2 with ⟨hv, _⟩ | ⟨g, cap, cur, hv, _⟩
    · exact ⟨_, _, _, hv⟩
    · exact ⟨_, _, _, hv⟩
  have hne2 := Lib.ownBlock_ne hown2 hb2 hTe
  go_wp2
  go_ret2
  refine ⟨.slice ao n' cap, rfl, ⟨.inr (hb2.set_ 1 _), ?_⟩, ?_⟩
  · refine Fr.own (S := fun k => k = b) ((Fr.refl (fun k => k = b) w2).setCell (p := ⟨b, 1, none⟩) (.inl rfl) _) hown2 fun k hk e => hne2 (by rw [hk, e])
  · have hS : ∀ k, v.ownBlock = some k → SB 5 b w k := by
      intro k hk
      rcases hown.2 with ⟨rfl, _⟩ | ⟨g, cap, cur, rfl, hg, hh, _⟩
      · cases hk
      · have : g = k := by simpa [Value.ownBlock] using hk
        subst this
        exact .inr ⟨hg, _, _, hh⟩
    have fa : Fr (SB 5 b w) w w1 := hf1.mono fun k _ e => .inl e
    have fb : Fr (SB 5 b w) w1 w2 := Fr.of_grown hgr2 hS
    exact (fa.next fb).setCell (p := ⟨b, 1, none⟩) (.inl (.inl rfl)) _

set_option maxHeartbeats 1000000 in
set_option maxRecDepth 100000 in
theorem string_any (b : Nat) (v : Value) (l : List UInt8) (w : World) (h : Bld 106 5 w b v l) (h0 : l ≠ []) :
    Calls Tryz.prog 71 #[.pointer (some ⟨b, 0, none⟩)] w fun e w' => e = .returned (.string ⟨l.toArray⟩) ∧ FrB 5 b w w' := by
  have hown := h.own
  have hl0 : l.length ≠ 0 := by simpa using h0
  have c1' := h.c1
  obtain ⟨g, cap, cur, rfl, hbg, hg, hnc, hcm, hcs, htake⟩ : ∃ g cap cur, v = .slice (some ⟨g, 0, none⟩) l.length cap ∧ b ≤ g ∧ w.heap[g]? = some (.cells cur 5 (0, 0)) ∧ l.length ≤ cap ∧ cap ≤ maxLen ∧ cur.size = cap * 1 ∧ cur.toList.take (l.length * 1) = Lib.byteCells l := by
    rcases hown.2 with ⟨_, hz⟩ | ⟨g, cap, cur, hv, r⟩
    · exact absurd hz hl0
    · exact ⟨g, cap, cur, hv, r⟩
  have c1 : w.drew.cell? ⟨b, 1, none⟩ = some (.slice (some ⟨g, 0, none⟩) l.length cap) := c1'
  clear c1'
  have hSD : (Builtin.unsafeSliceData_ #[104] 124 #[.slice (some ⟨g, 0, none⟩) l.length cap]).run Tryz.prog w.drew = .ok (.pointer (some ⟨g, 0, none⟩)) w.drew :=
    Lib.run_unsafeSliceData_row _ _ _ _ _ _ (by omega)
  have hUS : (Builtin.unsafeString_ #[124, 3] 9 #[.pointer (some ⟨g, 0, none⟩), .int .i64 l.length]).run Tryz.prog w.drew = .ok (.string ⟨l.toArray⟩) (w.drew.freeze ⟨g, 0, none⟩ l.length) := by
    refine Lib.run_unsafeString_row w.drew 124 3 9 5 Tryz.underlying124 cellsByte g cur.size (by have hg' : w.drew.heap[g]? = some (.cells cur 5 (0, 0)) := hg; simp [World.shape?, hg']) l h0 (by omega) (by unfold maxLen at hcm; omega) ?_
    intro j x hx
    have := hown.cells (g := g) rfl j (.int .u8 x.toNat) (by simp [Lib.byteCells, hx])
    exact this
  have hfz : FrB 5 b w (w.drew.freeze ⟨g, 0, none⟩ l.length) := by
    refine ⟨?_, ?_, ?_, ?_, fun k hk hn => ?_⟩
    · unfold World.freeze; split <;> rfl
    · unfold World.freeze; split <;> rfl
    · unfold World.freeze; split <;> rfl
    · unfold World.freeze; split <;> simp
    · have hne : k ≠ g := fun e => hn (.inr ⟨by omega, cur, (0, 0), by rw [e]; exact hg⟩)
      unfold World.freeze
      split
      · rfl
      · simp only [Array.getElem?_modify]
        rw [if_neg (fun e => hne e.symm)]
        rfl
  go_enter Tryz.func71, Tryz.ntmps71
  go_wp2
  go_region
  all_goals (go_wp2; go_ret; exact ⟨rfl, hfz⟩)
end Go.Proofs.YtmcgaaihdjpdgaaGreatDoor
