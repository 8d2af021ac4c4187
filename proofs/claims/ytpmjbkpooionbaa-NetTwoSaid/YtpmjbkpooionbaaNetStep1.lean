/- What a step of the law may turn; the steps Send and Clear. -/
import Derived.Test.YtpmjbkpooionbaaNetStep0
set_option linter.unusedVariables false
namespace Go.Proofs.Ytpmjbkpooionbaa
open Go.RowKit Go.Conc

/-- A list lies in none of the net's blocks. -/
def Apart (b ch : Nat) (V : Value) (A : Option Addr) (n : Nat) : Prop := 0 < n → ∀ g o, A = some ⟨g, o, none⟩ → ¬ NS b ch V g
/-- A net and a plain list of what is on the way. -/
structure SP (w : World) (base b ch : Nat) (V : Value) (A : Option Addr) (L : List ByteArray) (sent lost : Nat) : Prop where
  net : NetAt w base b ch V L sent lost
  arr : Arr w w.heap.size 1 A L.length (L.map Value.string)
  ap : Apart b ch V A L.length
structure SPost (w w' : World) (base b ch : Nat) (V : Value) (A : Option Addr) (n : Nat) (L' : List ByteArray) (sent' lost : Nat) (V' : Value) (A' : Option Addr) : Prop where
  sp : SP w' base b ch V' A' L' sent' lost
  fr : Fr (NS b ch V) w w'
  mv : Moved w V V'
  fa : (A' = A ∧ L'.length = n) ∨ Fresh w.heap.size A'
/-- The op's block. -/
def OpAt (w : World) (q : Nat) (k n m y : Int) (t : ByteArray) : Prop := Blk w q 40 #[.int .i64 k, .int .i64 n, .int .i64 m, .int .i64 y, .string t]
section
variable {w w' : World} {base b ch q sent lost sent' : Nat} {V V' : Value} {A A' : Option Addr} {L L' : List ByteArray} {k n m y : Int} {t : ByteArray}
theorem OpAt.cells (h : OpAt w q k n m y t) : w.cell? ⟨q, 0, none⟩ = some (.int .i64 k) ∧ w.cell? ⟨q, 1, none⟩ = some (.int .i64 n) ∧ w.cell? ⟨q, 2, none⟩ = some (.int .i64 m) ∧ w.cell? ⟨q, 3, none⟩ = some (.int .i64 y) ∧ w.cell? ⟨q, 4, none⟩ = some (.string t) :=
  ⟨Blk.cell h 0, Blk.cell h 1, Blk.cell h 2, Blk.cell h 3, Blk.cell h 4⟩
theorem ns_lt (h : NetAt w base b ch V L sent lost) : ∀ k, NS b ch V k → k < w.heap.size := by
  rintro k (rfl | rfl | hk)
  · exact h.lt
  · exact h.ltc
  · exact (h.own.lt k hk).2
theorem fr_alloc (w : World) (o : Obj) (S : Nat → Prop) : Fr S w (w.alloc o) := Fr.alloc (Fr.refl _ _) _
theorem SP.arr_fr (h : SP w base b ch V A L sent lost) (hf : Fr (NS b ch V) w w') : Arr w' w'.heap.size 1 A L.length (L.map Value.string) := by
  refine ⟨h.arr.1, fun hn => ?_⟩
  obtain ⟨ab, ao, e, hab, hc⟩ := h.arr.2 hn
  exact ⟨ab, ao, e, Nat.lt_of_lt_of_le hab hf.size, fun i u hu => (hf.cell (p := ⟨ab, ao + i, none⟩) hab (h.ap hn ab ao e)).trans (hc i u hu)⟩
theorem SP.alloc (h : SP w base b ch V A L sent lost) (o : Obj) : SP (w.alloc o) base b ch V A L sent lost :=
  ⟨h.net.fr (fr_alloc w o (fun _ => False)) (fun _ _ => id), h.arr_fr (fr_alloc w o _), h.ap⟩
theorem OpAt.fr (h : OpAt w q k n m y t) (hq : ¬ NS b ch V q) (hf : Fr (NS b ch V) w w') : OpAt w' q k n m y t := Fr.blk hf h hq
theorem SP.get (h : SP w base b ch V A L sent lost) {i : Nat} {x : ByteArray} (hx : L[i]? = some x) : ∃ ab ao, A = some ⟨ab, ao, none⟩ ∧ ab < w.heap.size ∧ ¬ NS b ch V ab ∧ w.cell? ⟨ab, ao + i, none⟩ = some (.string x) := by
  have hil : i < L.length := by
    rcases Nat.lt_or_ge i L.length with h' | h'
    · exact h'
    · rw [List.getElem?_eq_none h'] at hx; cases hx
  obtain ⟨ab, ao, e, hab, hc⟩ := h.arr.2 (by omega)
  exact ⟨ab, ao, e, hab, h.ap (by omega) ab ao e, hc i (.string x) (by simp [hx])⟩
/-- A list in a new block lies apart of a net that did not move there. -/
theorem apart_fresh {B n : Nat} (hf : Fresh B A') (hns : ∀ k, NS b ch V' k → k < B) : Apart b ch V' A' n := fun _ g o e hk => by
  have h1 := hf g o e
  have h2 := hns g hk
  omega
theorem moved_ns (hN : NetAt w base b ch V L sent lost) (hm : Moved w V V') : ∀ k, NS b ch V' k → NS b ch V k ∨ w.heap.size ≤ k := by
  rintro k (rfl | rfl | hk)
  · exact .inl (.inl rfl)
  · exact .inl (.inr (.inl rfl))
  · rcases hm k hk with h | h
    · exact .inl (.inr (.inr h))
    · exact .inr h
theorem moved_same (h : V'.ownBlock = V.ownBlock) (w : World) : Moved w V V' := fun k hk => .inl (by rw [← h]; exact hk)
theorem Moved.refl (w : World) (V : Value) : Moved w V V := fun k hk => .inl hk
end
theorem is_cases (n : Int) (l : Nat) : n < 0 ∨ (0 ≤ n ∧ (l : Int) ≤ n ∧ decide (n < (l : Int)) = false) ∨ (0 ≤ n ∧ n < (l : Int) ∧ decide (n < (l : Int)) = true) := by
  rcases (show n < 0 ∨ (0 ≤ n ∧ (l : Int) ≤ n) ∨ (0 ≤ n ∧ n < (l : Int)) from by omega) with hn | ⟨hn, hn2⟩ | ⟨hn, hn2⟩
  · exact .inl hn
  · exact .inr (.inl ⟨hn, hn2, decide_eq_false (by omega)⟩)
  · exact .inr (.inr ⟨hn, hn2, decide_eq_true hn2⟩)
def cutT (t : ByteArray) : ByteArray := if 200 < t.size then t.extract 0 200 else t
theorem cutT_le (t : ByteArray) : (cutT t).size ≤ 200 := by
  unfold cutT
  split
  · rw [ByteArray.size_extract]; omega
  · omega

set_option maxHeartbeats 4000000 in
set_option maxRecDepth 100000 in
theorem step_clear (base b ch : Nat) (V : Value) (A : Option Addr) (c : Nat) (L : List ByteArray) (sent lost : Nat) (k n m y : Int) (t : ByteArray) (w : World) (h : SP w base b ch V A L sent lost) (hbs : base ≤ w.heap.size) (hl : L.length ≤ 4096) (ht : t.size ≤ 9223372036854775807)
    (k0 : k ≠ 0) (k1 : k ≠ 1) (k2 : k ≠ 2) (k3 : k ≠ 3) (k4 : k ≠ 4) (k5 : k ≠ 5) (k7 : k ≠ 7) :
    Calls Try.prog 17 #[.pointer (some ⟨b, 0, none⟩), .slice A L.length c, .agg #[.int .i64 k, .int .i64 n, .int .i64 m, .int .i64 y, .string t]] w fun e w' =>
      ∃ A' c' V', e = .returned (.tuple #[.slice A' ([] : List ByteArray).length c', .bool true]) ∧ SPost w w' base b ch V A L.length [] sent lost V' A' := by
  have hb := h.alloc (.cells #[.int .i64 k, .int .i64 n, .int .i64 m, .int .i64 y, .string t] 40)
  have hO : OpAt (w.alloc (.cells #[.int .i64 k, .int .i64 n, .int .i64 m, .int .i64 y, .string t] 40)) w.heap.size k n m y t := Blk.new _ _ _
  obtain ⟨o0, o1, o2, o3, o4⟩ := hO.cells
  have e0 : (k == 0) = false := by simp [k0]
  have e1 : (k == 1) = false := by simp [k1]
  have e2 : (k == 2) = false := by simp [k2]
  have e3 : (k == 3) = false := by simp [k3]
  have e4 : (k == 4) = false := by simp [k4]
  have e5 : (k == 5) = false := by simp [k5]
  have e7 : (k == 7) = false := by simp [k7]
  clear k0 k1 k2 k3 k4 k5 k7
  rcases (show 200 < t.size ∨ t.size ≤ 200 from by omega) with hc | hc
  all_goals
    rcases is_cases n L.length with hn | ⟨hn, hn2, hn3⟩ | ⟨hn, hn2, hn3⟩
    all_goals
      go_enter Try.func17, Try.ntmps17
      go_wp2_with (go_at_call 12; refine (net_clear _ _ _ _ _ _ _ _ hb.net).mono ?_; rintro e w1 ⟨rfl, hN, hf⟩)
      go_ret2
      have hF : Fr (NS b ch V) w w1 := (fr_alloc w _ (NS b ch V)).trans hf (fun i _ e => .inl e)
      exact ⟨none, 0, .slice none 0 0, rfl, ⟨⟨hN, Arr.nil _ _ _ _, fun _ g o e => by cases e⟩, hF, fun k hk => (by cases hk), .inr (Fresh.none _)⟩⟩
end Go.Proofs.Ytpmjbkpooionbaa
