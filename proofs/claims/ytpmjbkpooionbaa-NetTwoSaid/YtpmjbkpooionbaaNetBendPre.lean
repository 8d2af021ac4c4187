/- What the step Bend leaves. -/
import Derived.Test.YtpmjbkpooionbaaNetStep5
set_option linter.unusedVariables false
namespace Go.Proofs.Ytpmjbkpooionbaa
open Go.RowKit Go.Conc
theorem frozen_below {w w' : World} {B g : Nat} (hb : Below B w w') (hg : g < B) (i : Nat) : w'.frozen? ⟨g, i, none⟩ = w.frozen? ⟨g, i, none⟩ := by
  have := hb.block g hg
  simp [World.frozen?, this]
theorem bend_post {w v1 w2 w3 : World} {o : Obj} {base b ch sent lost i g cap : Nat} {V : Value} {A : Option Addr} {L : List ByteArray} {z : ByteArray} (h : SP w base b ch V A L sent lost) (hf : Fr (NS b ch V) (w.alloc o) v1) (hN : NetAt v1 base b ch V (L.set i z) sent lost) (hb2 : Below v1.heap.size v1 w2)
    (hown2 : w2.ownsRow v1.heap.size 9 1 (.slice (some ⟨g, 0, none⟩) L.length cap) L.length (L.map Value.string)) (hb3 : Below w2.drew.heap.size w2.drew w3) (hil : i < L.length) :
    ∃ A' c' V', Ending.returned (.tuple #[.slice (some ⟨g, 0, none⟩) L.length cap, .bool true]) = .returned (.tuple #[.slice A' (L.set i z).length c', .bool true]) ∧ SPost w (w3.setCell ⟨g, i, none⟩ (.string z)) base b ch V A L.length (L.set i z) sent lost V' A' := by
  have hlt := hown2.lt g rfl
  have hown3 : w3.ownsRow v1.heap.size 9 1 (.slice (some ⟨g, 0, none⟩) L.length cap) L.length (L.map Value.string) := (Fr.of_below hb3 (fun _ => False)).own hown2 (fun _ _ => id)
  have o1 := own_set hown3 i (.string z) hil
  rw [← List.map_set] at o1
  obtain ⟨A9, c9, hA9, _, harr9, hfr9⟩ := own_arr o1
  injection hA9 with hA9 _ _
  subst hA9
  have hb4 : Below v1.heap.size v1 (w3.setCell ⟨g, i, none⟩ (.string z)) := ((hb2.drew).trans (hb3.mono hb2.size)).setCell (p := ⟨g, i, none⟩) hlt.1 _
  refine ⟨_, cap, V, by rw [List.length_set], then_post h hf hN (Moved.refl _ _) hb4 ?_ hfr9⟩
  rw [List.length_set]
  exact harr9
end Go.Proofs.Ytpmjbkpooionbaa
