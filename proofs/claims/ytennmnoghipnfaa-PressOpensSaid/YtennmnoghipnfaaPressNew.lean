/- A new finder: what its block and its row hold. -/
import Derived.Test.YtennmnoghipnfaaPressClos
import Derived.Laws.EntriesVeiled
import Derived.Laws.MakeOwn
namespace Go.Proofs.Ytennmnoghipnfaa
open Go.RowKit
set_option linter.unusedVariables false

def isZ : Value → Bool
  | .int .i64 0 => true
  | _ => false
theorem isZ_of {v : Value} (h : isZ v = true) : v = .int .i64 0 := by
  unfold isZ at h
  split at h
  · rfl
  · cases h
theorem new_finC {zc : Array Value} (h1 : zc.size = 4099) (h2 : ∀ k, k < 4096 → zc[1 + k]? = some (.int .i64 0)) (h3 : zc[4098]? = some (.int .i64 0)) (s : ByteArray) (g : Nat) :
    FinC ((zc.setIfInBounds 0 (.string s)).setIfInBounds 4097 (.slice (some ⟨g, 0, none⟩) s.size s.size)) s g 0 := by
  refine ⟨by simp [h1], ?_, fun k hk => ?_, ?_, ?_⟩
  · rw [Array.getElem?_setIfInBounds_ne (by omega), Array.getElem?_setIfInBounds_self_of_lt (by omega)]
  · rw [Array.getElem?_setIfInBounds_ne (by omega), Array.getElem?_setIfInBounds_ne (by omega), h2 k hk]; rfl
  · rw [Array.getElem?_setIfInBounds_self_of_lt (by simp [h1])]
  · rw [Array.getElem?_setIfInBounds_ne (by omega), Array.getElem?_setIfInBounds_ne (by omega), h3]; rfl
theorem new_prvC (s : ByteArray) : PrvC (madeCells #[Value.int .i64 0] s.size) s 0 := by
  refine ⟨size_madeCells _ _, fun j hj => ⟨0, ?_⟩, fun j hj => by omega⟩
  unfold madeCells
  rw [Array.getElem?_map, Array.getElem?_range, if_pos hj]
  simp [Nat.mod_one]
theorem infoInt : (Try.prog.info? 3).map (fun i => (i.zero, i.size, i.bytes)) = some (some (.int .i64 0), 1, 8) := by kernel_rfl
/-- What make and the literal do, as the walk asks. -/
theorem new_runs (s : ByteArray) (h1 : s.size ≤ 1048576) : ∃ ps : Array Value,
    (∀ W : World, (Instr.makeSlice 41 (.int .i64 s.size) (.int .i64 s.size)).run Try.prog W = .ok (.slice (some ⟨W.heap.size, 0, none⟩) s.size s.size) (W.alloc (.cells ps 3))) ∧ PrvC ps s 0 := by
  obtain ⟨i0, hi, hz0, hz1, hz2⟩ := info_parts infoInt
  refine ⟨madeCells #[.int .i64 0] s.size, fun W => ?_, new_prvC s⟩
  have hr := run_make (P := Try.prog) W 41 3 i0 (.int .i64 0) Try.underlying41 hi hz0 .i64 .i64 s.size s.size (by omega) (Int.le_refl _) (by rw [hz2]; omega) (by omega)
  rw [Int.toNat_natCast, hz1, Nat.mul_one] at hr
  exact hr
def aggOk (i : TypeInfo) : Bool :=
  match i.zero with
  | some (.agg zc) => zc.size == 4099 && ((zc.toList.drop 1).take 4096).all isZ && (match zc[4098]? with | some v => isZ v | none => false)
  | _ => false
theorem aggFinder : (Try.prog.info? 44).map aggOk = some true := by kernel_rfl
theorem new_zero (s : ByteArray) : ∃ zc : Array Value, zc.size = 4099 ∧ ¬ zc = #[] ∧ (∀ W : World, (zeroValue 44).run Try.prog W = .ok (.agg zc) W) ∧
    ∀ g, FinC ((zc.setIfInBounds 0 (.string s)).setIfInBounds 4097 (.slice (some ⟨g, 0, none⟩) s.size s.size)) s g 0 := by
  obtain ⟨it, hit, hok⟩ := Option.map_eq_some_iff.1 aggFinder
  unfold aggOk at hok
  split at hok
  · rename_i zc hz
    simp only [Bool.and_eq_true, beq_iff_eq] at hok
    obtain ⟨⟨h1, h2⟩, h3⟩ := hok
    refine ⟨zc, h1, by rintro rfl; simp at h1, fun W => ?_, fun g => new_finC h1 (fun k hk => ?_) ?_ s g⟩
    · simp [zeroValue, typeInfo, hit, hz]
    · have hlt : 1 + k < zc.size := by omega
      have hm : zc[1 + k] ∈ (zc.toList.drop 1).take 4096 := by
        rw [List.mem_iff_getElem?]
        refine ⟨k, ?_⟩
        rw [List.getElem?_take_of_lt hk, List.getElem?_drop, Array.getElem?_toList, Array.getElem?_eq_getElem hlt]
      have := isZ_of (List.all_eq_true.1 h2 _ hm)
      rw [Array.getElem?_eq_getElem hlt, this]
    · split at h3
      · rename_i v hv
        rw [hv, isZ_of h3]
      · cases h3
  · cases hok
end Go.Proofs.Ytennmnoghipnfaa
