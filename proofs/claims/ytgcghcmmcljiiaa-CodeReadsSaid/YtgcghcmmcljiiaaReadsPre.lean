/- What the laws CodeReads and CodeStops lean on. -/
import Derived.Test.YtgcghcmmcljiiaaStepWalk
import Derived.Test.YtgcghcmmcljiiaaLawNums
import Derived.Deep.RegionWith
set_option linter.unusedVariables false
namespace Go.Proofs.Ytgcghcmmcljiiaa
open Go.RowKit

theorem Rdr.drew {w : World} {b : Nat} {r : Rd} (h : Rdr w b r) : Rdr w.drew b r := h
theorem Qdr.drew {w : World} {b : Nat} {r : Rd} (h : Qdr w b r) : Qdr w.drew b r := h
theorem Rdr.drewN {w : World} {b : Nat} {r : Rd} (h : Rdr w b r) (n : Nat) : Rdr (w.drewN n) b r := h
theorem Qdr.drewN {w : World} {b : Nat} {r : Rd} (h : Qdr w b r) (n : Nat) : Qdr (w.drewN n) b r := h
theorem rdStep_ok {r : Rd} {k n m : Int} (h : r.ok) : (rdStep r k n m).ok := by
  unfold rdStep
  (repeat' split)
  · exact rdByte_ok h
  · exact rdNum_ok h
  · exact rdNum_ok h
  · exact rdRaw_ok h
  · exact rdCount_ok h
  · exact rdText_ok h
  · unfold rdNums
    simp only []
    have : ∀ (n : Nat) (r : Rd), r.ok → (rdNumsGo n r).2.ok := by
      intro n
      induction n with
      | zero => intro r h; exact h
      | succ n ih =>
        intro r h
        rw [rdNumsGo]
        simp only []
        split
        · exact rdNum_ok h
        · exact ih _ (rdNum_ok h)
    split <;> exact this _ _ (rdCount_ok h)
  · unfold rdTexts
    simp only []
    have : ∀ (n : Nat) (r : Rd), r.ok → (rdTextsGo n m r).2.ok := by
      intro n
      induction n with
      | zero => intro r h; exact h
      | succ n ih =>
        intro r h
        rw [rdTextsGo]
        simp only []
        split
        · exact rdText_ok h
        · exact ih _ (rdText_ok h)
    split <;> exact this _ _ (rdCount_ok h)
  · unfold rdEnd
    split <;> exact h
theorem rdStep_s (r : Rd) (k n m : Int) : (rdStep r k n m).s = r.s := by
  unfold rdStep
  (repeat' split)
  · exact rdByte_s r
  · exact rdNum_s r
  · exact rdNum_s r
  · exact rdRaw_s r n
  · exact rdCount_s r n
  · exact rdText_s r n
  · unfold rdNums
    simp only []
    have : ∀ (n : Nat) (r : Rd), (rdNumsGo n r).2.s = r.s := by
      intro n
      induction n with
      | zero => intro r; rfl
      | succ n ih =>
        intro r
        rw [rdNumsGo]
        simp only []
        split
        · exact rdNum_s r
        · simp only []; rw [ih]; exact rdNum_s r
    split <;> rw [this] <;> exact rdCount_s r n
  · unfold rdTexts
    simp only []
    have : ∀ (n : Nat) (r : Rd), (rdTextsGo n m r).2.s = r.s := by
      intro n
      induction n with
      | zero => intro r; rfl
      | succ n ih =>
        intro r
        rw [rdTextsGo]
        simp only []
        split
        · exact rdText_s r m
        · simp only []; rw [ih]; exact rdText_s r m
    split <;> rw [this] <;> exact rdCount_s r n
  · unfold rdEnd
    split <;> rfl

theorem step_any (a b : Nat) (r q : Rd) (k n m : Int) (w : World) (hr : Rdr w a r) (hq : Qdr w b q) (hro : r.ok) (hqo : q.ok) (hrs : r.s.size ≤ 1099511627776 ∨ r.e ≠ 0) (hqs : q.s.size ≤ 1099511627776) (ht : Twin r q) (hn0 : -9223372036854775808 ≤ n) (hn1 : n ≤ 9223372036854775807) :
    Calls Try.prog 29 #[.pointer (some ⟨a, 0, none⟩), .pointer (some ⟨b, 0, none⟩), .agg #[.int .i64 k, .int .i64 n, .int .i64 m]] w fun e w' => e = .returned (.bool true) ∧ Rdr w' a (rdStep r k n m) ∧ Qdr w' b (rdStep q k n m) ∧ Fr2 a b w w' := by
  by_cases k0 : k = 0
  · subst k0; exact step_byte a b r q n m w hr hq hro hqo hrs hqs ht hn0 hn1
  by_cases k1 : k = 1
  · subst k1; exact step_num a b r q n m w hr hq hro hqo hrs hqs ht hn0 hn1
  by_cases k2 : k = 2
  · subst k2; exact step_signed a b r q n m w hr hq hro hqo hrs hqs ht hn0 hn1
  by_cases k3 : k = 3
  · subst k3; exact step_raw a b r q n m w hr hq hro hqo hrs hqs ht hn0 hn1
  by_cases k4 : k = 4
  · subst k4; exact step_count a b r q n m w hr hq hro hqo hrs hqs ht hn0 hn1
  by_cases k5 : k = 5
  · subst k5; exact step_text a b r q n m w hr hq hro hqo hrs hqs ht hn0 hn1
  by_cases k6 : k = 6
  · subst k6; exact step_nums a b r q n m w hr hq hro hqo hrs hqs ht hn0 hn1
  by_cases k7 : k = 7
  · subst k7; exact step_texts a b r q n m w hr hq hro hqo hrs hqs ht hn0 hn1
  have h := step_end a b r q k n m w hr hq hro hqo hrs hqs ht (by omega) hn0 hn1
  have e : ∀ x : Rd, rdStep x k n m = rdEnd x := fun x => by
    unfold rdStep
    rw [if_neg k0, if_neg k1, if_neg k2, if_neg k3, if_neg k4, if_neg k5, if_neg k6, if_neg k7]
  rw [e, e]
  exact h

/-- A script's cells. -/
def opCells (l : List (Int × Int × Int)) : List Value := l.flatMap fun x => [.int .i64 x.1, .int .i64 x.2.1, .int .i64 x.2.2]
theorem opCells_at {l : List (Int × Int × Int)} {i : Nat} {k n m : Int} (h : l[i]? = some (k, n, m)) : (opCells l)[i * 3]? = some (.int .i64 k) ∧ (opCells l)[i * 3 + 1]? = some (.int .i64 n) ∧ (opCells l)[i * 3 + 2]? = some (.int .i64 m) := by
  induction l generalizing i with
  | nil => simp at h
  | cons x l ih =>
    cases i with
    | zero =>
      simp at h
      subst h
      simp [opCells]
    | succ i =>
      simp only [List.getElem?_cons_succ] at h
      have := ih h
      have e : opCells (x :: l) = [.int .i64 x.1, .int .i64 x.2.1, .int .i64 x.2.2] ++ opCells l := rfl
      rw [e, List.getElem?_append_right (by simp; omega), List.getElem?_append_right (by simp; omega), List.getElem?_append_right (by simp; omega)]
      simp only [List.length_cons, List.length_nil]
      rw [show (i + 1) * 3 - (0 + 1 + 1 + 1) = i * 3 by omega, show (i + 1) * 3 + 1 - (0 + 1 + 1 + 1) = i * 3 + 1 by omega, show (i + 1) * 3 + 2 - (0 + 1 + 1 + 1) = i * 3 + 2 by omega]
      exact this


/-- What stands in a reader's cells. -/
def atOf (b : Nat) (w : World) : Int := intOf ((w.cell? ⟨b, 1, none⟩).getD undef)
def erOf (b : Nat) (w : World) : Int := intOf ((w.cell? ⟨b, 2, none⟩).getD undef)
theorem atOf_q {w : World} {b : Nat} {r : Rd} (h : Qdr w b r) : atOf b w = r.at_ := by unfold atOf; rw [h.c1]; rfl
theorem erOf_q {w : World} {b : Nat} {r : Rd} (h : Qdr w b r) : erOf b w = r.e := by unfold erOf; rw [h.c2]; rfl
theorem held_mk {w : World} {b ab o : Nat} {k n m : Int} {r : Rd} (h : Qdr w b r) (e1 : w.cell? ⟨ab, o, none⟩ = some (.int .i64 k)) (e2 : w.cell? ⟨ab, o + 1, none⟩ = some (.int .i64 n)) (e3 : w.cell? ⟨ab, o + 2, none⟩ = some (.int .i64 m)) :
    w.cell? ⟨ab, o, none⟩ = some (.int .i64 k) ∧ w.cell? ⟨ab, o + 1, none⟩ = some (.int .i64 n) ∧ w.cell? ⟨ab, o + 2, none⟩ = some (.int .i64 m) ∧
    w.cell? ⟨b, 1, none⟩ = some (.int .i64 (atOf b w)) ∧ w.cell? ⟨b, 2, none⟩ = some (.int .i64 (erOf b w)) :=
  ⟨e1, e2, e3, by rw [atOf_q h]; exact h.c1, by rw [erOf_q h]; exact h.c2⟩
theorem held_fr {w w' : World} {a b ab o : Nat} {k n m x y : Int} {r : Rd} (h : w.cell? ⟨ab, o, none⟩ = some (.int .i64 k) ∧ w.cell? ⟨ab, o + 1, none⟩ = some (.int .i64 n) ∧ w.cell? ⟨ab, o + 2, none⟩ = some (.int .i64 m) ∧
    w.cell? ⟨b, 1, none⟩ = some (.int .i64 x) ∧ w.cell? ⟨b, 2, none⟩ = some (.int .i64 y)) (g : Fr2 a b w w') (hq : Qdr w' b r) (hl : ab < w.heap.size) (ha : ab ≠ a) (hb : ab ≠ b) :
    w'.cell? ⟨ab, o, none⟩ = some (.int .i64 k) ∧ w'.cell? ⟨ab, o + 1, none⟩ = some (.int .i64 n) ∧ w'.cell? ⟨ab, o + 2, none⟩ = some (.int .i64 m) ∧
    w'.cell? ⟨b, 1, none⟩ = some (.int .i64 (atOf b w')) ∧ w'.cell? ⟨b, 2, none⟩ = some (.int .i64 (erOf b w')) := by
  have hc : ∀ i, w'.cell? ⟨ab, i, none⟩ = w.cell? ⟨ab, i, none⟩ := fun i => Fr.cell g (p := ⟨ab, i, none⟩) hl (by simp only; omega)
  exact held_mk hq ((hc _).trans h.1) ((hc _).trans h.2.1) ((hc _).trans h.2.2.1)
end Go.Proofs.Ytgcghcmmcljiiaa
