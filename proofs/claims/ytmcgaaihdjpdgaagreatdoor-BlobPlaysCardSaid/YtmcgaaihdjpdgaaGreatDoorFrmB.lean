/- Chapter 2 (frames): the walks through four, Frame, One.; Chapter 2 (frames): the walks through One, Scan, All. -/
import Derived.Test.YtmcgaaihdjpdgaaGreatDoorFrmA
import Derived.Test.YtmcgaaihdjpdgaaGreatDoorTreeMix
/- Chapter 2 (frames): the walks through four, Frame, One. -/
namespace Go.Proofs.YtmcgaaihdjpdgaaGreatDoor
open Go.RowKit
set_option linter.unusedVariables false

def bcells (l : List UInt8) : Array Value := (l.map fun u => Value.int .u8 (u.toNat : Int)).toArray
theorem conv_bs (l : List UInt8) (W : World) (g c : Nat) (hb : Blk W g 5 (bcells l)) : (convert 104 9 (.slice (some ⟨g, 0, none⟩) l.length c)).run Tryz.prog W = .ok (.string ⟨l.toArray⟩) W := by
  exact run_convert_bytes_back (P := Tryz.prog) _ 104 9 5 ⟨g, 0, none⟩ c l Tryz.underlying104 Tryz.underlying5 Tryz.underlying9 (by
    intro j hj
    have hadd : (⟨g, 0, none⟩ : Addr).add j = ⟨g, j, none⟩ := by unfold Addr.add; split <;> simp_all
    rw [hadd, hb.cell j]
    unfold bcells
    simp [hj])
/-- The two signs. -/
theorem conv_signs (W : World) (g c : Nat) (hb : Blk W g 5 #[Value.int .u8 181, Value.int .u8 126]) : (convert 104 9 (.slice (some ⟨g, 0, none⟩) 2 c)).run Tryz.prog W = .ok (.string ⟨#[181, 126]⟩) W := conv_bs [181, 126] W g c hb
def frameB (s : ByteArray) : ByteArray := ((⟨#[181, 126]⟩ ++ fourB s.size) ++ fourB (sumC (fourB s.size ++ s).data.toList)) ++ s
theorem frameB_list (s : ByteArray) : (frameB s).data.toList = frameL s.data.toList := by
  unfold frameB frameL
  rw [fm_app, fm_app, fm_app, fm_app, bt_size]
  rfl
end Go.Proofs.YtmcgaaihdjpdgaaGreatDoor
/- Chapter 2 (frames): the walks through One, Scan, All. -/
namespace Go.Proofs.YtmcgaaihdjpdgaaGreatDoor
open Go.RowKit
set_option linter.unusedVariables false

/-- What One answers. -/
def oneV (s : ByteArray) : Value := if oneE s = 0 then .tuple #[.string (oneP s), .int .i64 (oneN s : Nat), .int .i64 0] else .tuple #[.string ⟨#[]⟩, .int .i64 0, .int .i64 (oneE s)]
theorem oneV_bad {s : ByteArray} {e : Int} (h : oneE s = e) (h0 : e ≠ 0) : oneV s = .tuple #[.string ⟨#[]⟩, .int .i64 0, .int .i64 e] := by unfold oneV; rw [h, if_neg h0]
theorem oneV_ok {s : ByteArray} (h : oneE s = 0) : oneV s = .tuple #[.string (oneP s), .int .i64 (oneN s : Nat), .int .i64 0] := by unfold oneV; rw [if_pos h]
end Go.Proofs.YtmcgaaihdjpdgaaGreatDoor
