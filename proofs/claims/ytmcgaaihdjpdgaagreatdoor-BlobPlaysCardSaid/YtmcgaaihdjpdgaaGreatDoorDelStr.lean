/- Chapter 11: deleting from an own list of texts (as in XNetDel). -/
import Derived.Test.YtmcgaaihdjpdgaaGreatDoorDelete
import Derived.Test.YtmcgaaihdjpdgaaGreatDoorFrmC
set_option linter.unusedVariables false
namespace Go.Proofs.YtmcgaaihdjpdgaaGreatDoor
open Go.RowKit Go.Sort Go.Shelf

theorem put_blockF (w : World) (q g : Nat) (e : TypeId) (cur : Array Value) (D : Array ByteArray) (hg : w.heap[g]? = some (.cells cur e (0, 0))) (hD : D.size ≤ cur.size) :
    ∃ cur' : Array Value, (putRow Value.string (Sort.ahead w q) g 0 D).heap[g]? = some (.cells cur' e (0, 0)) ∧ cur'.size = cur.size ∧ cur'.toList.take D.size = D.toList.map Value.string := by
  refine ⟨putCells Value.string 0 D cur, ?_, by simp [putCells], ?_⟩
  · unfold putRow mapBlock
    show ((Sort.ahead w q).heap.modify g _)[g]? = _
    rw [Array.getElem?_modify, if_pos rfl]
    show Option.map _ w.heap[g]? = _
    rw [hg]
    rfl
  · apply List.ext_getElem?
    intro k
    by_cases hk : k < D.size
    · rw [List.getElem?_take_of_lt hk, Array.getElem?_toList, List.getElem?_map, Array.getElem?_toList, Array.getElem?_eq_getElem hk]
      unfold putCells
      rw [Array.getElem?_mapIdx, Array.getElem?_eq_getElem (by omega)]
      simp only [Option.map_some]
      rw [if_pos ⟨by omega, by omega⟩, Nat.sub_zero, getElem!_pos D k hk]
    · rw [List.getElem?_eq_none (by simp; omega), List.getElem?_eq_none (by simp; omega)]
theorem put_grownF (w : World) (q g : Nat) (D : Array ByteArray) : w.grownBy (putRow Value.string (Sort.ahead w q) g 0 D) (some g) := by
  refine ⟨rfl, rfl, rfl, ?_, ?_⟩
  · show w.heap.size ≤ ((Sort.ahead w q).heap.modify g _).size
    rw [Array.size_modify]
    exact Nat.le_refl _
  · intro k hk hne
    show ((Sort.ahead w q).heap.modify g _)[k]? = _
    rw [Array.getElem?_modify, if_neg (fun e => hne (by rw [e]))]
    rfl

theorem infoStrF2 : ∃ i, Tryz.prog.info? 9 = some i ∧ i.size = 1 := by
  obtain ⟨i0, hi, hz0, hz1, hz2⟩ := info_parts infoStrF
  exact ⟨i0, hi, hz1⟩

set_option maxRecDepth 100000 in
theorem del_str (base : Nat) (V : Value) (L : List ByteArray) (i : Nat) (w : World) (own : w.ownsRow base 9 1 V L.length (L.map Value.string)) (hi : i < L.length) :
    Calls Tryz.prog 57 #[V, .int .i64 i, .int .i64 ((i : Int) + 1)] w fun e w' => ∃ V', e = .returned V' ∧ w'.ownsRow base 9 1 V' (L.eraseIdx i).length ((L.eraseIdx i).map Value.string) ∧ V'.ownBlock = V.ownBlock ∧ w.grownBy w' V.ownBlock := by
  obtain ⟨i0, hi0, hz1⟩ := infoStrF2
  rcases own.2 with ⟨rfl, h0⟩ | ⟨g, cap, cur, rfl, hb, hg, hn, hm, hcs, hx⟩
  · omega
  · rw [Nat.mul_one] at hcs hx
    have hsz : L.toArray.size = L.length := by simp
    have hH : Holds Value.string w g 0 L.toArray := by
      intro j hj
      have hjl : j < L.length := by simpa using hj
      have hjc : j < cur.size := by omega
      rw [getElem!_pos L.toArray j hj, Nat.zero_add]
      constructor
      · have := cell_of_row w g j cur 9 (0, 0) hg
        rw [this]
        have h2 : (cur.toList.take L.length)[j]? = (L.map Value.string)[j]? := by rw [hx]
        rw [List.getElem?_take_of_lt hjl, Array.getElem?_toList] at h2
        rw [h2]
        simp [hjl]
      · exact Blk.frozen (cs := cur) hg j
    have := AnyE.slices_Delete delStr Value.string (fun _ => rfl) ByteArray.empty Tryz.zeroValue9 i0 hi0 hz1 g 0 cap i (i + 1) L.toArray w hH (by rw [hsz]; exact hn) hm (by omega) (by rw [hsz]; omega)
    rw [hsz] at this
    refine Calls.mono this ?_
    rintro e w' ⟨rfl, q, rfl⟩
    have hlen : (L.eraseIdx i).length = L.length - 1 := by rw [List.length_eraseIdx_of_lt hi]
    have hD : (L.take i ++ L.drop (i + 1) ++ List.replicate (i + 1 - i) ByteArray.empty).length = L.length := by simp; omega
    have he : L.take i ++ L.drop (i + 1) = L.eraseIdx i := (List.eraseIdx_eq_take_drop_succ L i).symm
    obtain ⟨cur', b1, b2, b3⟩ := put_blockF w q g 9 cur (L.take i ++ L.drop (i + 1) ++ List.replicate (i + 1 - i) ByteArray.empty).toArray hg (by rw [List.size_toArray, hD]; omega)
    refine ⟨_, rfl, ⟨by simp, .inr ⟨g, cap, cur', ?_, hb, b1, by omega, hm, by omega, ?_⟩⟩, rfl, put_grownF w q g _⟩
    · rw [hlen, Nat.add_sub_cancel_left]
    · rw [List.size_toArray, hD] at b3
      have : cur'.toList.take (L.length - 1) = (cur'.toList.take L.length).take (L.length - 1) := by rw [List.take_take, Nat.min_eq_left (by omega)]
      rw [hlen, Nat.mul_one, this, b3, ← List.map_take]
      congr 1
      rw [he, List.take_append_of_le_length (by omega), List.take_of_length_le (by omega)]
end Go.Proofs.YtmcgaaihdjpdgaaGreatDoor
