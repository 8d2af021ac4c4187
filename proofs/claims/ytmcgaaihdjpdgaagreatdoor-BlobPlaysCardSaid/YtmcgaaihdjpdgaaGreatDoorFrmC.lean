/- Chapter 2 (frames): the walks through Scan, All.; Chapter 2 (frames): the walk through All. -/
import Derived.Test.YtmcgaaihdjpdgaaGreatDoorFrmB
import Derived.Test.YtmcgaaihdjpdgaaGreatDoorBuilder
/- Chapter 2 (frames): the walks through Scan, All. -/
namespace Go.Proofs.YtmcgaaihdjpdgaaGreatDoor
open Go.RowKit
set_option linter.unusedVariables false

theorem infoStrF : (Tryz.prog.info? 9).map (fun i => (i.zero, i.size, i.bytes)) = some (some (.string ⟨#[]⟩), 1, 16) := by kernel_rfl
def ScanOut (w : World) (l : List ByteArray) (e : Ending) (w' : World) : Prop := ∃ V a b, e = .returned (.tuple #[V, .int .i64 a, .int .i64 b]) ∧ w'.ownsRow w.heap.size 9 1 V l.length (l.map Value.string) ∧ Below w.heap.size w w'
end Go.Proofs.YtmcgaaihdjpdgaaGreatDoor
/- Chapter 2 (frames): the walk through All. -/
namespace Go.Proofs.YtmcgaaihdjpdgaaGreatDoor
open Go.RowKit
set_option linter.unusedVariables false

set_option maxHeartbeats 1000000 in
set_option maxRecDepth 100000 in
theorem string_zero (b : Nat) (v : Value) (w : World) (h : Blk w b 106 #[.pointer none, .slice none 0 0]) :
    Calls Tryz.prog 71 #[.pointer (some ⟨b, 0, none⟩)] w fun e w' => e = .returned (.string ⟨#[]⟩) ∧ Below w.heap.size w w' := by
  have c1 : w.drew.cell? ⟨b, 1, none⟩ = some (.slice none 0 0) := h.cell 1
  have hSD : (Builtin.unsafeSliceData_ #[104] 124 #[.slice none 0 0]).run Tryz.prog w.drew = .ok (.pointer none) w.drew := Lib.run_unsafeSliceData_nil _ _ _ _ _
  have hUS : (Builtin.unsafeString_ #[124, 3] 9 #[.pointer none, .int .i64 0]).run Tryz.prog w.drew = .ok (.string ⟨#[]⟩) w.drew := Lib.run_unsafeString_none _ _ _ _ _
  have hB : Below w.heap.size w w.drew := Below.drew (Below.refl _ _)
  go_enter Tryz.func71, Tryz.ntmps71
  go_wp2
  go_region
  all_goals (go_wp2; go_ret; exact ⟨rfl, hB⟩)
/-- The text of frames. -/
def framesB (l : List ByteArray) : ByteArray := ⟨(framesL l).toArray⟩
theorem framesL_take {l : List ByteArray} {k : Nat} {p : ByteArray} (h : l[k]? = some p) : framesL (l.take (k + 1)) = framesL (l.take k) ++ (frameB p).data.toList := by
  rw [take_snoc h, frameB_list]
  unfold framesL
  simp
theorem framesL_len (l : List ByteArray) (h : ∀ p ∈ l, p.size ≤ 65536) : (framesL l).length ≤ l.length * 65546 := by
  induction l with
  | nil => simp [framesL]
  | cons p l ih =>
    have h1 := ih (fun q hq => h q (by simp [hq]))
    have h2 := h p (by simp)
    unfold framesL at h1 ⊢
    rw [List.map_cons, List.flatten_cons, List.length_append, frameL_len, List.length_cons, ← bt_size]
    omega
theorem strs_cell {l : List ByteArray} {k : Nat} {p : ByteArray} (h : l[k]? = some p) : (l.map Value.string)[k * 1]? = some (.string p) := by rw [Nat.mul_one, List.getElem?_map, h]; rfl
end Go.Proofs.YtmcgaaihdjpdgaaGreatDoor
