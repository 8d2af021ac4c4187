/- The steps Peek, Take and Drop of the law. -/
import Derived.Test.YtpmjbkpooionbaaNetStep2
set_option linter.unusedVariables false
namespace Go.Proofs.Ytpmjbkpooionbaa
open Go.RowKit Go.Conc

section
variable {w wb w1 w2 w3 : World} {base b ch sent lost sent' : Nat} {V V' : Value} {A A' : Option Addr} {L L' : List ByteArray}
theorem same_post (h : SP w base b ch V A L sent lost) (o : Obj) : SPost w (w.alloc o) base b ch V A L.length L sent lost V A := ⟨h.alloc o, fr_alloc w o _, Moved.refl _ _, .inl ⟨rfl, rfl⟩⟩
theorem then_post {o : Obj} (h : SP w base b ch V A L sent lost) (hf : Fr (NS b ch V) (w.alloc o) w1) (hN : NetAt w1 base b ch V' L' sent' lost) (hm : Moved (w.alloc o) V V') (hb2 : Below w1.heap.size w1 w2) (harr : Arr w2 w2.heap.size 1 A' L'.length (L'.map Value.string)) (hfr : Fresh w1.heap.size A') :
    SPost w w2 base b ch V A L.length L' sent' lost V' A' := by
  have hz := hf.size
  have hsz : (w.alloc o).heap.size = w.heap.size + 1 := by simp
  refine ⟨⟨hN.fr (Fr.of_below hb2 (fun _ => False)) (fun _ _ => id), harr, apart_fresh hfr (ns_lt hN)⟩, (h.fr2 o hf).next (Fr.of_below hb2 _), fun k hk => ?_, .inr fun g o' e => ?_⟩
  · rcases hm k hk with h3 | h3
    · exact .inl h3
    · right; omega
  · have := hfr g o' e; omega
end
theorem out_cases {n : Int} {l : Nat} (h : ¬ (0 ≤ n ∧ n < (l : Int))) : n < 0 ∨ (0 ≤ n ∧ (l : Int) ≤ n ∧ decide (n < (l : Int)) = false) := by
  rcases is_cases n l with h' | h' | h'
  · exact .inl h'
  · exact .inr h'
  · exact absurd ⟨h'.1, h'.2.1⟩ h
theorem lt_of_get {L : List ByteArray} {i : Nat} {x : ByteArray} (hx : L[i]? = some x) : i < L.length := by
  rcases Nat.lt_or_ge i L.length with h' | h'
  · exact h'
  · rw [List.getElem?_eq_none h'] at hx; cases hx

set_option maxHeartbeats 4000000 in
set_option maxRecDepth 100000 in
theorem step_look_no (base b ch : Nat) (V : Value) (A : Option Addr) (c : Nat) (L : List ByteArray) (sent lost : Nat) (k n m y : Int) (t : ByteArray) (w : World) (h : SP w base b ch V A L sent lost) (hbs : base ≤ w.heap.size) (hl : L.length ≤ 4096) (ht : t.size ≤ 9223372036854775807) (hk : k = 1 ∨ k = 7 ∨ k = 2 ∨ k = 3) (hno : ¬ (0 ≤ n ∧ n < (L.length : Int))) (n0 : -9223372036854775808 ≤ n) (n1 : n ≤ 9223372036854775807) :
    Calls Try.prog 17 #[.pointer (some ⟨b, 0, none⟩), .slice A L.length c, .agg #[.int .i64 k, .int .i64 n, .int .i64 m, .int .i64 y, .string t]] w fun e w' =>
      ∃ A' c' V', e = .returned (.tuple #[.slice A' L.length c', .bool true]) ∧ SPost w w' base b ch V A L.length L sent lost V' A' := by
  have hb := h.alloc (.cells #[.int .i64 k, .int .i64 n, .int .i64 m, .int .i64 y, .string t] 40)
  have hO : OpAt (w.alloc (.cells #[.int .i64 k, .int .i64 n, .int .i64 m, .int .i64 y, .string t] 40)) w.heap.size k n m y t := Blk.new _ _ _
  have hp := net_peek _ _ _ _ _ _ _ n _ hb.net hl n0 n1
  rw [(peek_no hno).1, (peek_no hno).2] at hp
  have HP := Lib.hid hp
  have HT := Lib.hid (net_take_no _ _ _ _ _ _ _ n _ hb.net hl hno n0 n1)
  have HD := Lib.hid (net_drop_no _ _ _ _ _ _ _ n _ hb.net hl hno n0 n1)
  have HC := Lib.hid (net_copy_no _ _ _ _ _ _ _ n _ hb.net hl hno n0 n1)
  clear hp
  obtain ⟨o0, o1, o2, o3, o4⟩ := hO.cells
  rcases hk with rfl | rfl | rfl | rfl
  all_goals
    rcases (show 200 < t.size ∨ t.size ≤ 200 from by omega) with hc | hc
    all_goals
      rcases out_cases hno with hn | ⟨hn, hn2, hn3⟩
      all_goals
        go_enter Try.func17, Try.ntmps17
        go_wp2_with (first
          | (go_at_call 19; with_reducible refine HP.out.mono ?_; rintro e w1 ⟨rfl, rfl⟩)
          | (go_at_call 10; with_reducible refine HT.out.mono ?_; rintro e w1 ⟨rfl, rfl⟩)
          | (go_at_call 16; with_reducible refine HD.out.mono ?_; rintro e w1 ⟨rfl, rfl⟩)
          | (go_at_call 15; with_reducible refine HC.out.mono ?_; rintro e w1 ⟨rfl, rfl⟩))
        go_ret2
        exact ⟨A, c, V, rfl, same_post h _⟩

set_option maxHeartbeats 4000000 in
set_option maxRecDepth 100000 in
theorem step_peek (base b ch : Nat) (V : Value) (A : Option Addr) (c : Nat) (L : List ByteArray) (sent lost : Nat) (i : Nat) (x : ByteArray) (m y : Int) (t : ByteArray) (w : World) (h : SP w base b ch V A L sent lost) (hbs : base ≤ w.heap.size) (hl : L.length ≤ 4096) (ht : t.size ≤ 9223372036854775807) (hx : L[i]? = some x) :
    Calls Try.prog 17 #[.pointer (some ⟨b, 0, none⟩), .slice A L.length c, .agg #[.int .i64 7, .int .i64 i, .int .i64 m, .int .i64 y, .string t]] w fun e w' =>
      ∃ A' c' V', e = .returned (.tuple #[.slice A' L.length c', .bool true]) ∧ SPost w w' base b ch V A L.length L sent lost V' A' := by
  have hil := lt_of_get hx
  have hb := h.alloc (.cells #[.int .i64 7, .int .i64 i, .int .i64 m, .int .i64 y, .string t] 40)
  have hO : OpAt (w.alloc (.cells #[.int .i64 7, .int .i64 i, .int .i64 m, .int .i64 y, .string t] 40)) w.heap.size 7 i m y t := Blk.new _ _ _
  have hp := net_peek _ _ _ _ _ _ _ (i : Int) _ hb.net hl (by omega) (by omega)
  rw [(peek_ok hx).1, (peek_ok hx).2] at hp
  have HP := Lib.hid hp
  clear hp
  obtain ⟨ab, ao, rfl, hab, hns, hcx⟩ := hb.get hx
  obtain ⟨o0, o1, o2, o3, o4⟩ := hO.cells
  have hn3 : decide ((i : Int) < (L.length : Int)) = true := decide_eq_true (by omega)
  have HX := Lib.hid hx
  clear hx
  rcases (show 200 < t.size ∨ t.size ≤ 200 from by omega) with hc | hc
  all_goals
    go_enter Try.func17, Try.ntmps17
    go_wp2_with (go_at_call 19; with_reducible refine HP.out.mono ?_; rintro e w1 ⟨rfl, rfl⟩)
    go_ret2
    exact ⟨_, c, V, rfl, same_post h _⟩

set_option maxHeartbeats 4000000 in
set_option maxRecDepth 100000 in
theorem step_take (base b ch : Nat) (V : Value) (A : Option Addr) (c : Nat) (L : List ByteArray) (sent lost : Nat) (i : Nat) (x : ByteArray) (m y : Int) (t : ByteArray) (w : World) (h : SP w base b ch V A L sent lost) (hbs : base ≤ w.heap.size) (hl : L.length ≤ 4096) (ht : t.size ≤ 9223372036854775807) (hx : L[i]? = some x) :
    Calls Try.prog 17 #[.pointer (some ⟨b, 0, none⟩), .slice A L.length c, .agg #[.int .i64 1, .int .i64 i, .int .i64 m, .int .i64 y, .string t]] w fun e w' =>
      ∃ A' c' V', e = .returned (.tuple #[.slice A' (L.eraseIdx i).length c', .bool true]) ∧ SPost w w' base b ch V A L.length (L.eraseIdx i) sent lost V' A' := by
  have hil := lt_of_get hx
  have hb := h.alloc (.cells #[.int .i64 1, .int .i64 i, .int .i64 m, .int .i64 y, .string t] 40)
  have hO : OpAt (w.alloc (.cells #[.int .i64 1, .int .i64 i, .int .i64 m, .int .i64 y, .string t] 40)) w.heap.size 1 i m y t := Blk.new _ _ _
  have hq : ¬ NS b ch V w.heap.size := fun e => by have := ns_lt h.net _ e; omega
  have hp := net_peek _ _ _ _ _ _ _ (i : Int) _ hb.net hl (by omega) (by omega)
  rw [(peek_ok hx).1, (peek_ok hx).2] at hp
  have HP := Lib.hid hp
  have HT := Lib.hid (net_takeX _ _ _ _ _ _ _ i x _ hb.net hl hx)
  clear hp
  obtain ⟨ab, ao, rfl, hab, hns, hcx⟩ := hb.get hx
  obtain ⟨o0, o1, o2, o3, o4⟩ := hO.cells
  have hn3 : decide ((i : Int) < (L.length : Int)) = true := decide_eq_true (by omega)
  have HX := Lib.hid hx
  clear hx
  rcases (show 200 < t.size ∨ t.size ≤ 200 from by omega) with hc | hc
  all_goals
    go_enter Try.func17, Try.ntmps17
    go_wp2_with (first
      | (go_at_call 19; with_reducible refine HP.out.mono ?_; rintro e w1 ⟨rfl, rfl⟩)
      | (go_at_call 10; with_reducible refine HT.out.mono ?_; rintro e w1 ⟨rfl, V', hN, hf, hV⟩; obtain ⟨o0, o1, o2, o3, o4⟩ := (hO.fr hq hf).cells; have hcx := (hf.cell (p := ⟨ab, ao + i, none⟩) hab hns).trans hcx)
      | (go_at_call 23; refine (without_any _ _ _ _ _ (by omega) (by omega) (hb.arr_fr hf)).mono ?_; rintro e w2 ⟨A', c', rfl, harr2, hfr2, hb2⟩))
    go_ret2
    exact ⟨A', c', V', rfl, then_post h hf hN (moved_same hV _) hb2 harr2 hfr2⟩

set_option maxHeartbeats 4000000 in
set_option maxRecDepth 100000 in
theorem step_drop (base b ch : Nat) (V : Value) (A : Option Addr) (c : Nat) (L : List ByteArray) (sent lost : Nat) (i : Nat) (x : ByteArray) (m y : Int) (t : ByteArray) (w : World) (h : SP w base b ch V A L sent lost) (hbs : base ≤ w.heap.size) (hl : L.length ≤ 4096) (ht : t.size ≤ 9223372036854775807) (hx : L[i]? = some x) :
    Calls Try.prog 17 #[.pointer (some ⟨b, 0, none⟩), .slice A L.length c, .agg #[.int .i64 2, .int .i64 i, .int .i64 m, .int .i64 y, .string t]] w fun e w' =>
      ∃ A' c' V', e = .returned (.tuple #[.slice A' (L.eraseIdx i).length c', .bool true]) ∧ SPost w w' base b ch V A L.length (L.eraseIdx i) sent lost V' A' := by
  have hil := lt_of_get hx
  have hb := h.alloc (.cells #[.int .i64 2, .int .i64 i, .int .i64 m, .int .i64 y, .string t] 40)
  have hO : OpAt (w.alloc (.cells #[.int .i64 2, .int .i64 i, .int .i64 m, .int .i64 y, .string t] 40)) w.heap.size 2 i m y t := Blk.new _ _ _
  have hq : ¬ NS b ch V w.heap.size := fun e => by have := ns_lt h.net _ e; omega
  have HT := Lib.hid (net_drop _ _ _ _ _ _ _ i _ hb.net hl hil)
  obtain ⟨o0, o1, o2, o3, o4⟩ := hO.cells
  have hn3 : decide ((i : Int) < (L.length : Int)) = true := decide_eq_true (by omega)
  rcases (show 200 < t.size ∨ t.size ≤ 200 from by omega) with hc | hc
  all_goals
    go_enter Try.func17, Try.ntmps17
    go_wp2_with (first
      | (go_at_call 16; with_reducible refine HT.out.mono ?_; rintro e w1 ⟨rfl, V', hN, hf, hV⟩; obtain ⟨o0, o1, o2, o3, o4⟩ := (hO.fr hq hf).cells)
      | (go_at_call 23; refine (without_any _ _ _ _ _ (by omega) (by omega) (hb.arr_fr hf)).mono ?_; rintro e w2 ⟨A', c', rfl, harr2, hfr2, hb2⟩))
    go_ret2
    exact ⟨A', c', V', rfl, then_post h hf hN (moved_same hV _) hb2 harr2 hfr2⟩
end Go.Proofs.Ytpmjbkpooionbaa
