/- One file that came in. -/
import Derived.Test.YtlfennooocmclaaDoorLiftFiles
set_option linter.unusedVariables false
namespace Go.Proofs.YtlfennooocmclaaDoor
open Go.RowKit Go.WideShapes Go.ChangeShapes Go.ChangeAt Go.Deep
section
variable {H : Type} {enc : TypeId × Value → H} {P : Program}
theorem open_rec {r : Reach} {b0 : Nat} {e : TypeId} {W : World} {v : Value} {d : DataW H} {ps : List MemPlace} (ks : List Bool) (he : RecType P e ks)
    (hval : Value.okWide P W r b0 e v) (h : DataW.Trod enc P W 0 (fun _ => true) true e v d ps) : ∃ cs : Array Value, v = .agg cs ∧ RecFits ks cs.toList := by
  obtain ⟨fs, hu, hce, hfs, hf⟩ := he
  unfold Value.okWide at hval
  rw [hu] at hval
  obtain ⟨cs, rfl, hsz, _⟩ := hval
  rw [hce] at hsz
  obtain ⟨fuel, hfu⟩ := h
  have hcs : (Value.agg cs).cells.toList = cs.toList := rfl
  obtain ⟨xs, k, hk, hxy, hlen, hxl, hff⟩ := DataW.trod_struct hu hfu
  refine ⟨cs, rfl, by rw [Array.length_toList]; exact hsz, fun j k hj => ?_⟩
  obtain ⟨f, hfj, ho, hcf, huf⟩ := hf j k hj
  have hjl : j < ks.length := by
    rcases Nat.lt_or_ge j ks.length with h | h
    · exact h
    · rw [List.getElem?_eq_none h] at hj; cases hj
  have hjs : j < cs.toList.length := by rw [Array.length_toList]; omega
  have hg := hff j f hfj
  change DataW.trod enc P W 0 _ true _ f.type ((cs.toList.drop f.offset).take (P.cellsOf f.type)) = _ at hg
  rw [ho, hcf, take_one hjs, List.getElem?_eq_getElem (show j < xs.length by omega)] at hg
  refine ⟨cs.toList[j], List.getElem?_eq_getElem hjs, ?_⟩
  unfold Fits
  cases k with
  | true =>
    obtain ⟨s, hs, _, hsz⟩ := DataW.trod_string (by simpa using huf) hg
    simp only [if_true]
    exact ⟨s, by simpa using hs, by unfold maxLen at hsz; exact hsz⟩
  | false =>
    obtain ⟨z, hz, _, hw⟩ := DataW.trod_int (k := .i64) (by simpa using huf) hg
    exact ⟨z, by simpa using hz, int_bounds hw⟩
end
set_option maxRecDepth 100000 in
theorem open_file {H : Type} {enc : TypeId × Value → H} {r : Reach} {b0 : Nat} {W : World} {v : Value} {d : DataW H} {ps : List MemPlace}
    (hval : Value.okWide Tryd.prog W r b0 33 v) (h : DataW.Trod enc Tryd.prog W 0 (fun _ => true) true 33 v d ps) : ∃ f : FileD, v = .agg #[.string f.path, .int .i64 f.mode, .string f.data] ∧ FFit f := by
  obtain ⟨cs, rfl, hr⟩ := open_rec _ file_type hval h
  obtain ⟨f, hf, hx⟩ := rec_file hr
  refine ⟨f, ?_, hx⟩
  congr 1
  apply Array.toList_inj.1
  rw [hf]
  rfl
end Go.Proofs.YtlfennooocmclaaDoor
