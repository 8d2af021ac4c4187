/- The steps Bend and Swap of the law, out of range; Swap in range. -/
import Derived.Test.YtpmjbkpooionbaaNetStep3
import Derived.BigQuiet
set_option linter.unusedVariables false
namespace Go.Proofs.Ytpmjbkpooionbaa
open Go.RowKit Go.Conc

theorem SPost.drew {w w' : World} {base b ch sent' lost : Nat} {V V' : Value} {A A' : Option Addr} {L' : List ByteArray} {q : Nat} (h : SPost w w' base b ch V A q L' sent' lost V' A') {n : Nat} : SPost w (w'.drewN n) base b ch V A q L' sent' lost V' A' :=
  ⟨⟨⟨h.sp.net.blk, h.sp.net.own, h.sp.net.chn, h.sp.net.hb, h.sp.net.hc⟩, h.sp.arr, h.sp.ap⟩, h.fr.drewN n, h.mv, h.fa⟩
set_option maxHeartbeats 1500000 in
set_option maxRecDepth 100000 in
theorem step_bend_no (base b ch : Nat) (V : Value) (A : Option Addr) (c : Nat) (L : List ByteArray) (sent lost : Nat) (n m y : Int) (t : ByteArray) (w : World) (h : SP w base b ch V A L sent lost) (hbs : base ≤ w.heap.size) (hl : L.length ≤ 4096) (ht : t.size ≤ 9223372036854775807) (hno : ¬ (0 ≤ n ∧ n < (L.length : Int))) (n0 : -9223372036854775808 ≤ n) (n1 : n ≤ 9223372036854775807) :
    Calls Try.prog 17 #[.pointer (some ⟨b, 0, none⟩), .slice A L.length c, .agg #[.int .i64 4, .int .i64 n, .int .i64 m, .int .i64 y, .string t]] w fun e w' =>
      ∃ A' c' V', e = .returned (.tuple #[.slice A' L.length c', .bool true]) ∧ SPost w w' base b ch V A L.length L sent lost V' A' := by
  have hb := h.alloc (.cells #[.int .i64 4, .int .i64 n, .int .i64 m, .int .i64 y, .string t] 40)
  have hO : OpAt (w.alloc (.cells #[.int .i64 4, .int .i64 n, .int .i64 m, .int .i64 y, .string t] 40)) w.heap.size 4 n m y t := Blk.new _ _ _
  have HT := Lib.hid (net_bend_no _ _ _ _ _ _ _ n m y _ hb.net hl hno n0 n1)
  obtain ⟨o0, o1, o2, o3, o4⟩ := hO.cells
  rcases (show 200 < t.size ∨ t.size ≤ 200 from by omega) with hc | hc
  all_goals
    rcases out_cases hno with hn | ⟨hn, hn2, hn3⟩
    all_goals
      go_enter Try.func17, Try.ntmps17
      go_wp2_with (go_at_call 20; with_reducible refine HT.out.mono ?_; rintro e w1 ⟨rfl, rfl⟩)
      try rw [hn3]
      go_quiet (fail)
      go_wp2
      go_ret2
      exact ⟨A, c, V, rfl, (same_post h _).drew⟩
theorem m_cases {m : Int} {l : Nat} (h : ¬ (0 ≤ m ∧ m < (l : Int))) : decide (0 ≤ m) = false ∨ (decide (0 ≤ m) = true ∧ decide (m < (l : Int)) = false) := by
  by_cases h0 : 0 ≤ m
  · right; exact ⟨decide_eq_true h0, decide_eq_false (fun h1 => h ⟨h0, h1⟩)⟩
  · left; exact decide_eq_false h0

set_option maxHeartbeats 1500000 in
set_option maxRecDepth 100000 in
theorem step_bend_out (base b ch : Nat) (V : Value) (A : Option Addr) (c : Nat) (L : List ByteArray) (sent lost : Nat) (i : Nat) (x : ByteArray) (m y : Int) (t : ByteArray) (w : World) (h : SP w base b ch V A L sent lost) (hbs : base ≤ w.heap.size) (hl : L.length ≤ 4096) (ht : t.size ≤ 9223372036854775807) (hx : L[i]? = some x) (hm : ¬ (0 ≤ m ∧ m < (x.size : Int))) :
    Calls Try.prog 17 #[.pointer (some ⟨b, 0, none⟩), .slice A L.length c, .agg #[.int .i64 4, .int .i64 i, .int .i64 m, .int .i64 y, .string t]] w fun e w' =>
      ∃ A' c' V', e = .returned (.tuple #[.slice A' L.length c', .bool true]) ∧ SPost w w' base b ch V A L.length L sent lost V' A' := by
  have hil := lt_of_get hx
  have hb := h.alloc (.cells #[.int .i64 4, .int .i64 i, .int .i64 m, .int .i64 y, .string t] 40)
  have hO : OpAt (w.alloc (.cells #[.int .i64 4, .int .i64 i, .int .i64 m, .int .i64 y, .string t] 40)) w.heap.size 4 i m y t := Blk.new _ _ _
  have HT := Lib.hid (net_bend_out _ _ _ _ _ _ _ i m y x _ hb.net hl hx hm)
  obtain ⟨ab, ao, rfl, hab, hns, hcx⟩ := hb.get hx
  obtain ⟨o0, o1, o2, o3, o4⟩ := hO.cells
  have hn3 : decide ((i : Int) < (L.length : Int)) = true := decide_eq_true (by omega)
  have k0 : (0 : Int) ≤ (i : Int) := by omega
  have k1 : (i : Int) < (L.length : Int) := by omega
  have HX := Lib.hid hx
  have HM := Lib.hid hm
  clear hx hm
  rcases (show 200 < t.size ∨ t.size ≤ 200 from by omega) with hc | hc
  all_goals
    rcases m_cases HM.out with hm1 | ⟨hm1, hm2⟩
    all_goals
      go_enter Try.func17, Try.ntmps17
      go_wp2_with (go_at_call 20; with_reducible refine HT.out.mono ?_; rintro e w1 ⟨rfl, rfl⟩)
      try rw [hn3]
      go_quiet (fail)
      go_wp2
      go_ret2
      exact ⟨_, c, V, rfl, (same_post h _).drew⟩

set_option maxHeartbeats 1500000 in
set_option maxRecDepth 100000 in
theorem step_swap_no (base b ch : Nat) (V : Value) (A : Option Addr) (c : Nat) (L : List ByteArray) (sent lost : Nat) (n m y : Int) (t : ByteArray) (w : World) (h : SP w base b ch V A L sent lost) (hbs : base ≤ w.heap.size) (hl : L.length ≤ 4096) (ht : t.size ≤ 9223372036854775807) (hno : ¬ (0 ≤ n ∧ n < (L.length : Int) ∧ 0 ≤ m ∧ m < (L.length : Int))) (n0 : -9223372036854775808 ≤ n) (n1 : n ≤ 9223372036854775807) (m0 : -9223372036854775808 ≤ m) (m1 : m ≤ 9223372036854775807) :
    Calls Try.prog 17 #[.pointer (some ⟨b, 0, none⟩), .slice A L.length c, .agg #[.int .i64 5, .int .i64 n, .int .i64 m, .int .i64 y, .string t]] w fun e w' =>
      ∃ A' c' V', e = .returned (.tuple #[.slice A' L.length c', .bool true]) ∧ SPost w w' base b ch V A L.length L sent lost V' A' := by
  have hb := h.alloc (.cells #[.int .i64 5, .int .i64 n, .int .i64 m, .int .i64 y, .string t] 40)
  have hO : OpAt (w.alloc (.cells #[.int .i64 5, .int .i64 n, .int .i64 m, .int .i64 y, .string t] 40)) w.heap.size 5 n m y t := Blk.new _ _ _
  have HT := Lib.hid (net_swap_no _ _ _ _ _ _ _ n m _ hb.net hl hno n0 n1 m0 m1)
  obtain ⟨o0, o1, o2, o3, o4⟩ := hO.cells
  have hcase : (n < 0) ∨ (0 ≤ n ∧ (L.length : Int) ≤ n ∧ decide (n < (L.length : Int)) = false) ∨ (0 ≤ n ∧ n < (L.length : Int) ∧ decide (n < (L.length : Int)) = true ∧ (decide (0 ≤ m) = false ∨ (decide (0 ≤ m) = true ∧ decide (m < (L.length : Int)) = false))) := by
    rcases is_cases n L.length with h' | h' | ⟨h1, h2, h3⟩
    · exact .inl h'
    · exact .inr (.inl h')
    · exact .inr (.inr ⟨h1, h2, h3, m_cases (fun hm => hno ⟨h1, h2, hm.1, hm.2⟩)⟩)
  rcases (show 200 < t.size ∨ t.size ≤ 200 from by omega) with hc | hc
  all_goals
    rcases hcase with hn | ⟨hn, hn2, hn3⟩ | ⟨hn, hn2, hn3, hm1 | ⟨hm1, hm2⟩⟩
    all_goals
      go_enter Try.func17, Try.ntmps17
      go_wp2_with (go_at_call 21; with_reducible refine HT.out.mono ?_; rintro e w1 ⟨rfl, rfl⟩)
      go_ret2
      exact ⟨A, c, V, rfl, same_post h _⟩

theorem swap_any (base b ch : Nat) (V : Value) (L : List ByteArray) (sent lost : Nat) (i k : Nat) (x y : ByteArray) (w : World) (h : NetAt w base b ch V L sent lost) (hl : L.length ≤ 4096) (hx : L[i]? = some x) (hy : L[k]? = some y) :
    Calls Try.prog 21 #[.pointer (some ⟨b, 0, none⟩), .int .i64 i, .int .i64 k] w fun e w' => e = .returned (.int .i64 0) ∧ NetAt w' base b ch V ((L.set i y).set k x) sent lost ∧ Fr (NS b ch V) w w' := by
  by_cases hik : i = k
  · subst hik
    rw [hx] at hy
    injection hy with hy
    subst hy
    rw [set_self hx, set_self hx]
    exact net_swap_same base b ch V L sent lost i x w h hl hx
  · exact net_swap base b ch V L sent lost i k x y w h hl hx hy hik

set_option maxHeartbeats 1500000 in
set_option maxRecDepth 100000 in
theorem step_swap (base b ch : Nat) (V : Value) (A : Option Addr) (c : Nat) (L : List ByteArray) (sent lost : Nat) (i k : Nat) (x z : ByteArray) (y : Int) (t : ByteArray) (w : World) (h : SP w base b ch V A L sent lost) (hbs : base ≤ w.heap.size) (hl : L.length ≤ 4096) (ht : t.size ≤ 9223372036854775807) (hx : L[i]? = some x) (hz : L[k]? = some z) :
    Calls Try.prog 17 #[.pointer (some ⟨b, 0, none⟩), .slice A L.length c, .agg #[.int .i64 5, .int .i64 i, .int .i64 k, .int .i64 y, .string t]] w fun e w' =>
      ∃ A' c' V', e = .returned (.tuple #[.slice A' ((L.set i z).set k x).length c', .bool true]) ∧ SPost w w' base b ch V A L.length ((L.set i z).set k x) sent lost V' A' := by
  have hil := lt_of_get hx
  have hkl := lt_of_get hz
  have hb := h.alloc (.cells #[.int .i64 5, .int .i64 i, .int .i64 k, .int .i64 y, .string t] 40)
  have hO : OpAt (w.alloc (.cells #[.int .i64 5, .int .i64 i, .int .i64 k, .int .i64 y, .string t] 40)) w.heap.size 5 i k y t := Blk.new _ _ _
  have hq : ¬ NS b ch V w.heap.size := fun e => by have := ns_lt h.net _ e; omega
  have HT := Lib.hid (swap_any _ _ _ _ _ _ _ i k x z _ hb.net hl hx hz)
  have HS := Lib.hid (fun w1 (a1 : Arr w1 w1.heap.size 1 A L.length (L.map Value.string)) => swapped_any A c L i k x z w1 hl hx hz a1)
  obtain ⟨o0, o1, o2, o3, o4⟩ := hO.cells
  have hn3 : decide ((i : Int) < (L.length : Int)) = true := decide_eq_true (by omega)
  have hm1 : decide ((0 : Int) ≤ (k : Int)) = true := decide_eq_true (by omega)
  have hm2 : decide ((k : Int) < (L.length : Int)) = true := decide_eq_true (by omega)
  clear hx hz
  have hll : ((L.set i z).set k x).length = L.length := by simp
  rcases (show 200 < t.size ∨ t.size ≤ 200 from by omega) with hc | hc
  all_goals
    go_enter Try.func17, Try.ntmps17
    go_wp2_with (first
      | (go_at_call 21; with_reducible refine HT.out.mono ?_; rintro e w1 ⟨rfl, hN, hf⟩; obtain ⟨o0, o1, o2, o3, o4⟩ := (hO.fr hq hf).cells)
      | (go_at_call 25; with_reducible refine (HS.out _ (hb.arr_fr hf)).mono ?_; rintro e w2 ⟨A', c', rfl, harr2, hfr2, hb2⟩))
    go_ret2
    rw [hll]
    exact ⟨A', c', V, rfl, then_post h hf hN (Moved.refl _ _) hb2 (by rw [hll]; exact harr2) hfr2⟩
end Go.Proofs.Ytpmjbkpooionbaa
