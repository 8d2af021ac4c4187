/- The walks of the law's helpers: stands, without. -/
import Derived.Test.YtpmjbkpooionbaaNetSwap2
import Derived.Test.YtpmjbkpooionbaaNetAllWalk
set_option linter.unusedVariables false
namespace Go.Proofs.Ytpmjbkpooionbaa
open Go.RowKit

set_option maxHeartbeats 1000000 in
set_option maxRecDepth 100000 in
theorem stands_any (base b ch : Nat) (V : Value) (L : List ByteArray) (sent lost : Nat) (A : Option Addr) (c : Nat) (w : World) (h : NetAt w base b ch V L sent lost) (hl : L.length ≤ 4096) (harr : Arr w w.heap.size 1 A L.length (L.map Value.string)) :
    Calls Try.prog 18 #[.pointer (some ⟨b, 0, none⟩), .slice A L.length c] w fun e w' => e = .returned (.bool true) ∧ w = w' := by
  have hne : ((L.length : Int) != (L.length : Int)) = false := by simp
  go_enter Try.func18, Try.ntmps18
  go_wp2_with (go_at_call 11; refine (net_len _ _ _ _ _ _ _ _ h).mono ?_; rintro e w3 ⟨rfl, rfl⟩)
  go_loopw [5] (fun v5 wr => ∃ k : Nat, k ≤ L.length ∧ v5 = .int .i64 k ∧ wr = w) (fun v5 _ => L.length - (intOf v5).toNat)
  case atStart => exact ⟨0, Nat.zero_le _, rfl, rfl⟩
  case round =>
    obtain ⟨k, hk, rfl, rfl⟩ := hrel
    by_cases hlt : k < L.length
    · obtain ⟨x, hx⟩ : ∃ x, L[k]? = some x := ⟨_, List.getElem?_eq_getElem hlt⟩
      have hp := net_peek base b ch V L sent lost k _ h hl (by omega) (by omega)
      rw [(peek_ok hx).1, (peek_ok hx).2] at hp
      obtain ⟨ab, ao, rfl, hab, hcell⟩ := harr.2 (by omega)
      have hc := hcell k (.string x) (by simp [hx])
      have HP := Lib.hid hp
      clear hp hcell harr hx
      go_wp2_with (go_at_call 19; with_reducible refine HP.out.mono ?_; rintro e w4 ⟨rfl, rfl⟩)
      go_roundw
      case rel => exact ⟨k + 1, by omega, by go_num, trivial⟩
      case measure => simp [intOf]; omega
    · go_wp2
      go_ret
      exact ⟨rfl, rfl⟩

theorem wo_same {l : List ByteArray} {i k : Nat} (h : k = i) : (l.take (k + 1)).eraseIdx i = (l.take k).eraseIdx i := by
  subst h
  rw [List.eraseIdx_of_length_le (l := l.take k) (by rw [List.length_take]; omega), List.eraseIdx_eq_take_drop_succ, List.take_take, List.drop_eq_nil_of_le (by rw [List.length_take]; omega), List.append_nil, Nat.min_eq_left (by omega)]
theorem wo_next {l : List ByteArray} {i k : Nat} {x : ByteArray} (hx : l[k]? = some x) (h : k ≠ i) : (l.take (k + 1)).eraseIdx i = (l.take k).eraseIdx i ++ [x] := by
  have hk : k < l.length := by
    rcases Nat.lt_or_ge k l.length with h' | h'
    · exact h'
    · rw [List.getElem?_eq_none h'] at hx; cases hx
  have ht : l.take (k + 1) = l.take k ++ [x] := by rw [List.take_add_one, hx]; rfl
  have hlen : (l.take k).length = k := by rw [List.length_take]; omega
  rw [ht]
  rcases Nat.lt_or_ge i k with hik | hik
  · rw [List.eraseIdx_append_of_lt_length (by omega)]
  · rw [List.eraseIdx_of_length_le (l := l.take k) (by omega), List.eraseIdx_of_length_le (by rw [List.length_append, hlen]; simp; omega)]

set_option maxHeartbeats 1000000 in
set_option maxRecDepth 100000 in
theorem without_any (A : Option Addr) (c : Nat) (l : List ByteArray) (i : Nat) (w : World) (hl : l.length ≤ 4096) (hi : i ≤ 9223372036854775807) (harr : Arr w w.heap.size 1 A l.length (l.map Value.string)) :
    Calls Try.prog 23 #[.slice A l.length c, .int .i64 i] w fun e w' => ∃ A' c', e = .returned (.slice A' (l.eraseIdx i).length c') ∧ Arr w' w'.heap.size 1 A' (l.eraseIdx i).length ((l.eraseIdx i).map Value.string) ∧ Fresh w.heap.size A' ∧ Below w.heap.size w w' := by
  obtain ⟨i0, hi0, hz0, hz1, hz2⟩ := info_parts infoStr
  go_enter Try.func23, Try.ntmps23
  go_wp2
  go_loopw [5, 6] (fun v5 v6 wr => ∃ k : Nat, k ≤ l.length ∧ v6 = .int .i64 k ∧ wr.ownsRow w.heap.size 9 1 v5 ((l.take k).eraseIdx i).length (((l.take k).eraseIdx i).map Value.string) ∧ Below w.heap.size w wr) (fun _ v6 _ => l.length - (intOf v6).toNat)
  case atStart => exact ⟨0, Nat.zero_le _, rfl, by simpa using World.ownsRow_nil _ _ _ _, Below.refl _ _⟩
  case round =>
    obtain ⟨k, hk, rfl, hown, hB⟩ := hrel
    by_cases hlt : k < l.length
    · by_cases hki : k = i
      · have hs := wo_same (l := l) hki
        have g1 : ((k : Int) != (i : Int)) = false := by simp [hki]
        rw [← hs] at hown
        have HO := Lib.hid hown
        clear hs hown
        go_wp2
        go_roundw
        case rel => exact ⟨k + 1, by omega, by go_num, HO.out, hB⟩
        case measure => simp [intOf]; omega
      · obtain ⟨x, hx⟩ : ∃ x, l[k]? = some x := ⟨_, List.getElem?_eq_getElem hlt⟩
        have hs := Lib.hid (wo_next hx hki)
        have g1 : ((k : Int) != (i : Int)) = true := bne_iff_ne.2 (by omega)
        obtain ⟨ab, ao, rfl, hab, hcell⟩ := harr.2 (by omega)
        have hc := (hB.cell (p := ⟨ab, ao + k, none⟩) hab).trans (hcell k (.string x) (by simp [hx]))
        have hlen : ((l.take k).eraseIdx i).length ≤ 4096 := Nat.le_trans (List.length_eraseIdx_le _ _) (by rw [List.length_take]; omega)
        have hsz := hB.size
        clear hcell harr hx
        go_wp2_with (at_builtin; refine wpList_push rfl _ _ _ rfl Try.underlying22 hi0 hz0 hz1 hz2 rfl (by decide) hown rfl rfl rfl (str_one x) (by unfold maxLen; omega) (by omega) (by omega) ?_; intro g cap w3 hown3 hgr3 hat3)
        have hB3 := hB.grown hgr3 hsz (fun j hj => (hown.lt j hj).1)
        go_roundw
        case rel => exact ⟨k + 1, by omega, by go_num, by rw [hs.out, List.length_append, List.map_append]; exact hown3, hB3⟩
        case measure => simp [intOf]; omega
    · have he : l.take k = l := List.take_of_length_le (by omega)
      rw [he] at hown
      obtain ⟨A', c', rfl, hcap, ha, hfr⟩ := own_arr hown
      go_wp2
      go_ret
      exact ⟨A', c', rfl, ha, hfr, hB⟩
end Go.Proofs.Ytpmjbkpooionbaa
