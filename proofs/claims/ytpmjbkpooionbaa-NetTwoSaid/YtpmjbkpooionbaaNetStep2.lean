/- The steps Send, Peek, Take, Drop of the law. -/
import Derived.Test.YtpmjbkpooionbaaNetStep1
set_option linter.unusedVariables false
namespace Go.Proofs.Ytpmjbkpooionbaa
open Go.RowKit Go.Conc

theorem cut_cases (t : ByteArray) : (200 < t.size ∧ cutT t = t.extract 0 200) ∨ (t.size ≤ 200 ∧ cutT t = t) := by
  rcases (show 200 < t.size ∨ t.size ≤ 200 from by omega) with hc | hc
  · exact .inl ⟨hc, if_pos hc⟩
  · exact .inr ⟨hc, if_neg (by omega)⟩
section
variable {w wb w1 w2 w3 : World} {base b ch sent lost : Nat} {V V' : Value} {A A' : Option Addr} {L L' : List ByteArray}
theorem SP.fr2 (h : SP w base b ch V A L sent lost) (o : Obj) (hf : Fr (NS b ch V) (w.alloc o) w1) : Fr (NS b ch V) w w1 := (fr_alloc w o _).trans hf fun _ _ e => e
theorem send_post {g cap : Nat} {o : Obj} {s : ByteArray} (h : SP w base b ch V A L sent lost) (hB : Below (w.alloc o).heap.size (w.alloc o) w2) (hown0 : w2.ownsRow (w.alloc o).heap.size 9 1 (.slice (some ⟨g, 0, none⟩) (L.length + 1) cap) (L.length + 1) (L.map Value.string ++ (#[Value.string s] : Array Value).toList))
    (hN : NetAt w3 base b ch V' (L ++ [s]) (sent + 1) lost) (hf : Fr (NS b ch V) w2 w3) (hm : Moved w2 V V') : SPost w w3 base b ch V A L.length (L ++ [s]) (sent + 1) lost V' (some ⟨g, 0, none⟩) := by
  have hown : w2.ownsRow (w.alloc o).heap.size 9 1 (.slice (some ⟨g, 0, none⟩) (L.length + 1) cap) (L.length + 1) ((L ++ [s]).map Value.string) := by rw [List.map_append]; exact hown0
  have hsz : (w.alloc o).heap.size = w.heap.size + 1 := by simp
  have hlt := hown.lt g rfl
  have hns := ns_lt h.net
  have hN2 := (h.alloc o).net.fr (Fr.of_below hB (fun _ => False)) (fun _ _ => id)
  have hown3 := hf.own hown (fun k hk e => by
    have h2 : g = k := by injection hk
    subst h2
    have := hns g e; omega)
  obtain ⟨A9, c9, hA9, _, harr9, hfr9⟩ := own_arr hown3
  injection hA9 with hA9 _ _
  subst hA9
  have hz2 := hB.size
  refine ⟨⟨hN, by rw [List.length_append]; exact harr9, ?_⟩, ?_, ?_, .inr ?_⟩
  · intro _ g' o' e hk
    have h2 : g = g' := by injection e with e; injection e
    subst h2
    rcases moved_ns hN2 hm g hk with h3 | h3
    · have := hns g h3; omega
    · omega
  · exact h.fr2 o ((Fr.of_below hB (NS b ch V)).next hf)
  · intro k hk
    rcases hm k hk with h3 | h3
    · exact .inl h3
    · right; omega
  · intro g' o' e
    have h2 : g = g' := by injection e with e; injection e
    subst h2
    omega
end

set_option maxHeartbeats 4000000 in
set_option maxRecDepth 100000 in
theorem step_send (base b ch : Nat) (V : Value) (A : Option Addr) (c : Nat) (L : List ByteArray) (sent lost : Nat) (n m y : Int) (t : ByteArray) (w : World) (h : SP w base b ch V A L sent lost) (hbs : base ≤ w.heap.size) (hl : L.length < 4096) (ht : t.size ≤ 9223372036854775807) (hse : sent ≤ 1000000) :
    Calls Try.prog 17 #[.pointer (some ⟨b, 0, none⟩), .slice A L.length c, .agg #[.int .i64 0, .int .i64 n, .int .i64 m, .int .i64 y, .string t]] w fun e w' =>
      ∃ A' c' V', e = .returned (.tuple #[.slice A' (L ++ [cutT t]).length c', .bool true]) ∧ SPost w w' base b ch V A L.length (L ++ [cutT t]) (sent + 1) lost V' A' := by
  obtain ⟨i0, hi, hz0, hz1, hz2⟩ := info_parts infoStr
  have hb := h.alloc (.cells #[.int .i64 0, .int .i64 n, .int .i64 m, .int .i64 y, .string t] 40)
  have hO : OpAt (w.alloc (.cells #[.int .i64 0, .int .i64 n, .int .i64 m, .int .i64 y, .string t] 40)) w.heap.size 0 n m y t := Blk.new _ _ _
  have hsz : (w.alloc (.cells #[.int .i64 0, .int .i64 n, .int .i64 m, .int .i64 y, .string t] 40)).heap.size = w.heap.size + 1 := by simp
  obtain ⟨o0, o1, o2, o3, o4⟩ := hO.cells
  rcases cut_cases t with ⟨hc, he⟩ | ⟨hc, he⟩
  all_goals
    rw [he]
    clear he
    rcases is_cases n L.length with hn | ⟨hn, hn2, hn3⟩ | ⟨hn, hn2, hn3⟩
    all_goals
      go_enter Try.func17, Try.ntmps17
      go_wp2_with (first
        | (at_builtin; refine wpList_fresh_copy rfl _ _ 22 rfl Try.underlying22 hi hz0 hz1 hz2 rfl rfl (by simp) rfl rfl hb.arr (str_cells L) (by unfold maxLen; omega) (by omega) ?_; intro g cap w1 hown1 hb1)
        | (at_builtin; refine wpList_push rfl _ _ _ rfl Try.underlying22 hi hz0 hz1 hz2 rfl (by decide) hown1 rfl rfl rfl (str_one _) (by unfold maxLen; omega) (by omega) hb1.size ?_; intro g2 cap2 w2 hown2 hgr2 hat2; have hB2 := hb1.grown hgr2 hb1.size (fun k hk => (hown1.lt k hk).1))
        | (go_at_call 9; refine (net_send _ _ _ _ _ _ _ _ _ (hb.net.fr (Fr.of_below hB2 (fun _ => False)) (fun _ _ => id)) (by have := hB2.size; omega) hl hse).mono ?_; rintro e w3 ⟨rfl, V', hN3, hf3, hm3⟩))
      go_ret2
      exact ⟨some ⟨g2, 0, none⟩, cap2, V', by rw [List.length_append]; rfl, send_post h hB2 hown2 hN3 hf3 hm3⟩
end Go.Proofs.Ytpmjbkpooionbaa
