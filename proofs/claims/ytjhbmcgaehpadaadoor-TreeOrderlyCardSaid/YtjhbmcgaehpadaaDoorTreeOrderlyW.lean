/- The walk through TreeOrderly. -/
import Derived.Test.YtjhbmcgaehpadaaDoorTreeAwake
namespace Go.Proofs.YtjhbmcgaehpadaaDoor
open Go.RowKit
set_option linter.unusedVariables false

theorem order_b (a b : ByteArray) (ha : a.size ≤ 140737488355328) (hb : b.size ≤ 140737488355328) : ∀ w : World, Calls Tryd.prog 18 #[.string a, .string b] w fun e w' => e = .returned (.int .i64 (ordL a.data.toList b.data.toList)) ∧ Below w.heap.size w w' := by
  intro w
  refine (order_any a b w ha hb).mono fun e w' ⟨h, m, hw⟩ => ⟨h, ?_⟩
  rw [hw]
  exact below_drewN (Below.refl _ _) m

theorem sign_b (n x : Int) (h : sgnI n = x) : ∀ w : World, Calls Tryd.prog 17 #[.int .i64 n] w fun e w' => e = .returned (.int .i64 x) ∧ w = w' := by
  intro w
  exact (sign_any n w).mono fun e w' ⟨h1, h2⟩ => ⟨by rw [h1, h], h2.symm⟩

set_option maxHeartbeats 4000000 in
set_option maxRecDepth 100000 in
theorem law_orderly (a b c : ByteArray) (w : World) (ha : a.size ≤ 140737488355328) (hb : b.size ≤ 140737488355328) (hc : c.size ≤ 140737488355328) (hm : Ml w) :
    Calls Tryd.prog 4 #[.string a, .string b, .string c] w fun e w' => e = .returned (.bool true) ∧ Below w.heap.size w w' := by
  have HA := Lib.hid awake_any
  have o1 := order_b a b ha hb
  have o2 := order_b b c hb hc
  have o3 := order_b a c ha hc
  have o4 := order_b b a hb ha
  have s1 := sign_b _ _ (sgn_ord a.data.toList b.data.toList)
  have s2 := sign_b _ _ (sgn_ord b.data.toList c.data.toList)
  have s3 := sign_b _ _ (sgn_ord a.data.toList c.data.toList)
  have s4 := sign_b _ _ (sgn_ord b.data.toList a.data.toList)
  rw [ordS_flip a.data.toList b.data.toList] at s4
  have hor := orderly a.data.toList b.data.toList c.data.toList
  have hz := ordS_zero a.data.toList b.data.toList
  have c1 := ordS_cases a.data.toList b.data.toList
  have c2 := ordS_cases b.data.toList c.data.toList
  have c3 := ordS_cases a.data.toList c.data.toList
  generalize ordL a.data.toList b.data.toList = d1 at *
  generalize ordL b.data.toList c.data.toList = d2 at *
  generalize ordL a.data.toList c.data.toList = d3 at *
  generalize ordL b.data.toList a.data.toList = d4 at *
  generalize ordS a.data.toList b.data.toList = x at *
  generalize ordS b.data.toList c.data.toList = y at *
  generalize ordS a.data.toList c.data.toList = z at *
  have heq : (a.toList == b.toList) = decide (x = 0) := by
    rw [ByteArray.toList_eq, ByteArray.toList_eq]
    by_cases h : x = 0
    · rw [decide_eq_true h, hz.1 h]; simp
    · rw [decide_eq_false h, beq_eq_false_iff_ne]; exact fun e => h (hz.2 e)
  clear hz
  have hB : Below w.heap.size w w := Below.refl _ _
  have HO1 := Lib.hid o1
  have HO2 := Lib.hid o2
  have HO3 := Lib.hid o3
  have HO4 := Lib.hid o4
  have HS1 := Lib.hid s1
  have HS2 := Lib.hid s2
  have HS3 := Lib.hid s3
  have HS4 := Lib.hid s4
  clear o1 o2 o3 o4 s1 s2 s3 s4
  have go : ∀ (hx : Hid (0 < x ∨ 0 < y ∨ (z ≤ 0 ∧ (z < 0 ∨ (x = 0 ∧ y = 0))))), Calls Tryd.prog 4 #[.string a, .string b, .string c] w fun e w' => e = .returned (.bool true) ∧ Below w.heap.size w w' := by
    intro hx
    clear hor
    rcases c1 with rfl | rfl | rfl <;> rcases c2 with rfl | rfl | rfl <;> rcases c3 with rfl | rfl | rfl
    all_goals first
      | (exfalso; have := hx.out; omega)
      | (clear hx
         first
           | (rw [show decide ((-1 : Int) = 0) = false from rfl] at heq; rw [show (-(-1) : Int) = 1 from rfl] at HS4)
           | (rw [show decide ((0 : Int) = 0) = true from rfl] at heq; rw [show (-0 : Int) = 0 from rfl] at HS4)
           | rw [show decide ((1 : Int) = 0) = false from rfl] at heq
         go_enter Tryd.func4, Tryd.ntmps4
         go_wp2_with (first
           | (go_at_call 18; with_reducible refine (HO1.out _).mono ?_; rintro e w1 ⟨rfl, hb1⟩; have hB := below_on hB hb1)
           | (go_at_call 18; with_reducible refine (HO2.out _).mono ?_; rintro e w1 ⟨rfl, hb1⟩; have hB := below_on hB hb1)
           | (go_at_call 18; with_reducible refine (HO3.out _).mono ?_; rintro e w1 ⟨rfl, hb1⟩; have hB := below_on hB hb1)
           | (go_at_call 18; with_reducible refine (HO4.out _).mono ?_; rintro e w1 ⟨rfl, hb1⟩; have hB := below_on hB hb1)
           | (go_at_call 17; with_reducible refine (HS1.out _).mono ?_; rintro e w1 ⟨rfl, rfl⟩)
           | (go_at_call 17; with_reducible refine (HS2.out _).mono ?_; rintro e w1 ⟨rfl, rfl⟩)
           | (go_at_call 17; with_reducible refine (HS3.out _).mono ?_; rintro e w1 ⟨rfl, rfl⟩)
           | (go_at_call 17; with_reducible refine (HS4.out _).mono ?_; rintro e w1 ⟨rfl, rfl⟩)
           | (go_at_call 16; with_reducible refine (HA.out _ (hm.on hB)).mono ?_; rintro e w1 ⟨rfl, hb1⟩; have hB := below_on hB hb1))
         go_ret
         exact ⟨rfl, hB⟩)
  exact go (Lib.hid hor)
end Go.Proofs.YtjhbmcgaehpadaaDoor
