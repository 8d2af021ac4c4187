/- Stable sorting (plain).; The library's stable sort over files: a row of the call's own; swapRange, rotate.; The library's stable sort over files: rotate.; The library's stable sort over files: the comparison, insertion sort. -/
import Derived.Test.YtjhbmcgaehpadaaDoorBtw1
import Derived.Test.YtjhbmcgaehpadaaDoorLiftFiles
import Derived.Test.YtjhbmcgaehpadaaDoorAppend
import Derived.BigRegion
import Derived.Test.YtjhbmcgaehpadaaDoorTreeAwake
import Derived.Test.YtjhbmcgaehpadaaDoorCls
/- Stable sorting (plain). -/
namespace Go.Proofs.YtjhbmcgaehpadaaDoor
open Go.RowKit
set_option linter.unusedVariables false

def fk (f : FileD) : List UInt8 := f.path.data.toList
def flt (f g : FileD) : Prop := ordS (fk f) (fk g) < 0
def fle (f g : FileD) : Prop := ordS (fk f) (fk g) ≤ 0
theorem ordL_neg (a b : List UInt8) : ordL a b < 0 ↔ ordS a b < 0 := by
  rw [← sgn_ord]
  unfold sgnI
  split
  · constructor <;> intro _ <;> omega
  · split <;> constructor <;> intro _ <;> omega
theorem flt_le {f g : FileD} (h : flt f g) : fle f g := by unfold flt at h; unfold fle; omega
theorem not_flt {f g : FileD} : ¬ flt f g ↔ fle g f := by
  unfold flt fle
  have := ordS_flip (fk f) (fk g)
  omega
theorem fle_refl (f : FileD) : fle f f := by unfold fle; rw [(ordS_zero _ _).2 rfl]; exact Int.le_refl _
theorem fle_trans {f g h : FileD} (h1 : fle f g) (h2 : fle g h) : fle f h := ordS_trans _ _ _ h1 h2
theorem flt_le_trans {f g h : FileD} (h1 : flt f g) (h2 : fle g h) : flt f h := by
  rcases Int.lt_or_le (ordS (fk f) (fk h)) 0 with h3 | h3
  · exact h3
  · have h4 : fle h f := not_flt.1 (by unfold flt; omega)
    exact absurd h1 (not_flt.2 (fle_trans h2 h4))
theorem fle_lt_trans {f g h : FileD} (h1 : fle f g) (h2 : flt g h) : flt f h := by
  rcases Int.lt_or_le (ordS (fk f) (fk h)) 0 with h3 | h3
  · exact h3
  · have h4 : fle h f := not_flt.1 (by unfold flt; omega)
    exact absurd h2 (not_flt.2 (fle_trans h4 h1))
theorem flt_ne {f g : FileD} (h : flt f g) : f.path ≠ g.path := by
  intro e
  unfold flt fk at h
  rw [e, (ordS_zero _ _).2 rfl] at h
  omega
theorem fle_anti {f g : FileD} (h1 : fle f g) (h2 : fle g f) : f.path = g.path := by
  unfold fle at h1 h2
  have := ordS_flip (fk f) (fk g)
  exact ba_ext ((ordS_zero (fk f) (fk g)).1 (by omega))
def Srt (l : List FileD) : Prop := l.Pairwise fle
def pf (p : ByteArray) (l : List FileD) : List FileD := l.filter fun f => decide (f.path = p)
def Stb (A B : List FileD) : Prop := A.length = B.length ∧ ∀ p, pf p A = pf p B
theorem pf_app (p : ByteArray) (A B : List FileD) : pf p (A ++ B) = pf p A ++ pf p B := by unfold pf; exact List.filter_append ..
theorem pf_mem {p : ByteArray} {A : List FileD} {f : FileD} : f ∈ pf p A ↔ f ∈ A ∧ f.path = p := by unfold pf; simp
theorem pf_nil {p : ByteArray} {A : List FileD} (h : ∀ f ∈ A, f.path ≠ p) : pf p A = [] := by
  unfold pf
  rw [List.filter_eq_nil_iff]
  intro f hf
  simpa using h f hf
section
variable {A B C D : List FileD}
theorem Stb.refl (A : List FileD) : Stb A A := ⟨rfl, fun _ => rfl⟩
theorem Stb.symm (h : Stb A B) : Stb B A := ⟨h.1.symm, fun p => (h.2 p).symm⟩
theorem Stb.trans (h : Stb A B) (g : Stb B C) : Stb A C := ⟨h.1.trans g.1, fun p => (h.2 p).trans (g.2 p)⟩
theorem Stb.app (h : Stb A B) (g : Stb C D) : Stb (A ++ C) (B ++ D) := ⟨by rw [List.length_append, List.length_append, h.1, g.1], fun p => by rw [pf_app, pf_app, h.2, g.2]⟩
theorem Stb.mem (h : Stb A B) {f : FileD} : f ∈ A ↔ f ∈ B := by
  have e := h.2 f.path
  constructor
  · intro hf
    have := pf_mem.2 ⟨hf, rfl⟩
    rw [e] at this
    exact (pf_mem.1 this).1
  · intro hf
    have := pf_mem.2 ⟨hf, rfl⟩
    rw [← e] at this
    exact (pf_mem.1 this).1
theorem Stb.swap (h : ∀ x ∈ A, ∀ y ∈ B, flt y x) : Stb (A ++ B) (B ++ A) := by
  refine ⟨by rw [List.length_append, List.length_append]; omega, fun p => ?_⟩
  rw [pf_app, pf_app]
  by_cases hA : ∃ x ∈ A, x.path = p
  · obtain ⟨x, hx, hp⟩ := hA
    have : pf p B = [] := pf_nil fun y hy e => flt_ne (h x hx y hy) (e.trans hp.symm)
    rw [this, List.append_nil, List.nil_append]
  · have : pf p A = [] := pf_nil fun x hx e => hA ⟨x, hx, e⟩
    rw [this, List.append_nil, List.nil_append]
theorem srt_nil : Srt [] := List.Pairwise.nil
theorem srt_one (f : FileD) : Srt [f] := List.pairwise_singleton _ _
theorem srt_app : Srt (A ++ B) ↔ Srt A ∧ Srt B ∧ ∀ a ∈ A, ∀ b ∈ B, fle a b := List.pairwise_append
end
theorem srt_uniq : ∀ {A B : List FileD}, Srt A → Srt B → (∀ p, pf p A = pf p B) → A = B
  | [], [], _, _, _ => rfl
  | [], b :: B, _, _, h => by
    have := h b.path
    rw [show pf b.path [] = [] from rfl] at this
    have h2 : b ∈ pf b.path (b :: B) := pf_mem.2 ⟨by simp, rfl⟩
    rw [← this] at h2
    cases h2
  | a :: A, [], _, _, h => by
    have := h a.path
    rw [show pf a.path [] = [] from rfl] at this
    have h2 : a ∈ pf a.path (a :: A) := pf_mem.2 ⟨by simp, rfl⟩
    rw [this] at h2
    cases h2
  | a :: A, b :: B, hA, hB, h => by
    have hA' := List.pairwise_cons.1 hA
    have hB' := List.pairwise_cons.1 hB
    have h1 : a ∈ b :: B := by
      have h2 : a ∈ pf a.path (a :: A) := pf_mem.2 ⟨by simp, rfl⟩
      rw [h a.path] at h2
      exact (pf_mem.1 h2).1
    have h2 : b ∈ a :: A := by
      have h2 : b ∈ pf b.path (b :: B) := pf_mem.2 ⟨by simp, rfl⟩
      rw [← h b.path] at h2
      exact (pf_mem.1 h2).1
    have hba : fle b a := by
      rcases List.mem_cons.1 h1 with e | e
      · rw [e]; exact fle_refl _
      · exact hB'.1 a e
    have hab : fle a b := by
      rcases List.mem_cons.1 h2 with e | e
      · rw [e]; exact fle_refl _
      · exact hA'.1 b e
    have hp := fle_anti hab hba
    have he := h a.path
    unfold pf at he
    rw [List.filter_cons, List.filter_cons, if_pos (by simp), if_pos (by simpa using hp.symm)] at he
    injection he with e1 e2
    subst e1
    congr 1
    refine srt_uniq hA'.2 hB'.2 fun p => ?_
    have := h p
    unfold pf at this ⊢
    rw [List.filter_cons, List.filter_cons] at this
    split at this
    · injection this
    · exact this
theorem srt_get {Y : List FileD} (h : Srt Y) {i j : Nat} {f g : FileD} (hi : Y[i]? = some f) (hj : Y[j]? = some g) (hij : i ≤ j) : fle f g := by
  rcases Nat.lt_or_ge i j with h1 | h1
  · have hil : i < Y.length := by rcases Nat.lt_or_ge i Y.length with h2 | h2; exact h2; rw [List.getElem?_eq_none h2] at hi; cases hi
    have hjl : j < Y.length := by rcases Nat.lt_or_ge j Y.length with h2 | h2; exact h2; rw [List.getElem?_eq_none h2] at hj; cases hj
    have := (List.pairwise_iff_getElem.1 h) i j hil hjl h1
    rw [List.getElem?_eq_getElem hil] at hi
    rw [List.getElem?_eq_getElem hjl] at hj
    injection hi with hi
    injection hj with hj
    rwa [hi, hj] at this
  · have : i = j := by omega
    subst this
    rw [hi] at hj
    injection hj with hj
    rw [hj]
    exact fle_refl _
theorem mem_drop {Y : List FileD} {k : Nat} {y : FileD} (h : y ∈ Y.drop k) : ∃ i, k ≤ i ∧ Y[i]? = some y := by
  obtain ⟨i, hi⟩ := List.getElem?_of_mem h
  rw [List.getElem?_drop] at hi
  exact ⟨k + i, by omega, hi⟩
theorem mem_take {Y : List FileD} {k : Nat} {y : FileD} (h : y ∈ Y.take k) : ∃ i, i < k ∧ Y[i]? = some y := by
  obtain ⟨i, hi⟩ := List.getElem?_of_mem h
  rw [List.getElem?_take] at hi
  by_cases h1 : i < k
  · rw [if_pos h1] at hi; exact ⟨i, h1, hi⟩
  · rw [if_neg h1] at hi; cases hi
/-- Two sorted rows, parted where they cross. -/
theorem sym_gen {X Y Z1 Z2 : List FileD} {k e : Nat} (hX : Srt X) (hY : Srt Y)
    (F1 : ∀ x y, X[k]? = some x → 0 < e → Y[e - 1]? = some y → flt y x) (F2 : ∀ x y, 0 < k → X[k - 1]? = some x → Y[e]? = some y → fle x y) (hkX : k ≤ X.length) (heY : e ≤ Y.length)
    (h1 : Srt Z1) (h2 : Srt Z2) (s1 : Stb (X.take k ++ Y.take e) Z1) (s2 : Stb (X.drop k ++ Y.drop e) Z2) : Srt (Z1 ++ Z2) ∧ Stb (X ++ Y) (Z1 ++ Z2) := by
  have lt1 : ∀ x ∈ X.drop k, ∀ y ∈ Y.take e, flt y x := by
    intro x hx y hy
    obtain ⟨i, hi, gi⟩ := mem_drop hx
    obtain ⟨j, hj, gj⟩ := mem_take hy
    have hkl : k < X.length := by rcases Nat.lt_or_ge i X.length with h | h; omega; rw [List.getElem?_eq_none h] at gi; cases gi
    obtain ⟨x0, gx0⟩ : ∃ x0, X[k]? = some x0 := ⟨_, List.getElem?_eq_getElem hkl⟩
    obtain ⟨y0, gy0⟩ : ∃ y0, Y[e - 1]? = some y0 := ⟨_, List.getElem?_eq_getElem (by omega)⟩
    exact flt_le_trans (fle_lt_trans (srt_get hY gj gy0 (by omega)) (F1 x0 y0 gx0 (by omega) gy0)) (srt_get hX gx0 gi hi)
  have le2 : ∀ x ∈ X.take k, ∀ y ∈ Y.drop e, fle x y := by
    intro x hx y hy
    obtain ⟨i, hi, gi⟩ := mem_take hx
    obtain ⟨j, hj, gj⟩ := mem_drop hy
    have hel : e < Y.length := by rcases Nat.lt_or_ge j Y.length with h | h; omega; rw [List.getElem?_eq_none h] at gj; cases gj
    obtain ⟨x0, gx0⟩ : ∃ x0, X[k - 1]? = some x0 := ⟨_, List.getElem?_eq_getElem (by omega)⟩
    obtain ⟨y0, gy0⟩ : ∃ y0, Y[e]? = some y0 := ⟨_, List.getElem?_eq_getElem hel⟩
    exact fle_trans (srt_get hX gi gx0 (by omega)) (fle_trans (F2 x0 y0 (by omega) gx0 gy0) (srt_get hY gy0 gj hj))
  have eX : X.take k ++ X.drop k = X := List.take_append_drop _ _
  have eY : Y.take e ++ Y.drop e = Y := List.take_append_drop _ _
  have hX' := srt_app.1 (show Srt (X.take k ++ X.drop k) by rw [eX]; exact hX)
  have hY' := srt_app.1 (show Srt (Y.take e ++ Y.drop e) by rw [eY]; exact hY)
  constructor
  · refine srt_app.2 ⟨h1, h2, fun a ha b hb => ?_⟩
    have ha' := s1.mem.2 ha
    have hb' := s2.mem.2 hb
    rcases List.mem_append.1 ha' with ha' | ha' <;> rcases List.mem_append.1 hb' with hb' | hb'
    · exact hX'.2.2 a ha' b hb'
    · exact le2 a ha' b hb'
    · exact flt_le (lt1 b hb' a ha')
    · exact hY'.2.2 a ha' b hb'
  · have q1 : Stb (X ++ Y) (X.take k ++ (X.drop k ++ Y.take e) ++ Y.drop e) := by
      conv => lhs; rw [← eX, ← eY]
      rw [List.append_assoc, List.append_assoc, List.append_assoc]
      exact Stb.refl _
    have q2 : Stb (X.take k ++ (X.drop k ++ Y.take e) ++ Y.drop e) (X.take k ++ (Y.take e ++ X.drop k) ++ Y.drop e) := ((Stb.refl _).app (Stb.swap lt1)).app (Stb.refl _)
    have q3 : Stb (X.take k ++ (Y.take e ++ X.drop k) ++ Y.drop e) ((X.take k ++ Y.take e) ++ (X.drop k ++ Y.drop e)) := by
      rw [List.append_assoc, List.append_assoc, List.append_assoc]
      exact Stb.refl _
    exact (q1.trans q2).trans (q3.trans (s1.app s2))
/-- A halves' own order, where one of them is empty. -/
theorem half_left {X Y : List FileD} {k e : Nat} (hX : Srt X) (hY : Srt Y) (h : k = 0 ∨ e = 0) : Srt (X.take k ++ Y.take e) := by
  rcases h with rfl | rfl
  · rw [List.take_zero, List.nil_append]; exact List.Pairwise.sublist (List.take_sublist _ _) hY
  · rw [List.take_zero, List.append_nil]; exact List.Pairwise.sublist (List.take_sublist _ _) hX
theorem half_right {X Y : List FileD} {k e : Nat} (hX : Srt X) (hY : Srt Y) (h : X.length ≤ k ∨ Y.length ≤ e) : Srt (X.drop k ++ Y.drop e) := by
  rcases h with h | h
  · rw [List.drop_eq_nil_of_le h, List.nil_append]; exact List.Pairwise.sublist (List.drop_sublist _ _) hY
  · rw [List.drop_eq_nil_of_le h, List.append_nil]; exact List.Pairwise.sublist (List.drop_sublist _ _) hX
/-! the reference's Sort -/
theorem insGo_id (f : FileD) : ∀ l, insGo f true l = l
  | [] => rfl
  | g :: r => by rw [insGo, if_neg (by simp), insGo_id f r]
theorem insGo_form (f : FileD) : ∀ l, ∃ U V, l = U ++ V ∧ insGo f false l = U ++ f :: V ∧ (∀ u ∈ U, fle u f) ∧ ∀ v, V.head? = some v → flt f v
  | [] => ⟨[], [], rfl, rfl, by simp, by simp⟩
  | g :: r => by
    by_cases h : flt f g
    · refine ⟨[], g :: r, rfl, ?_, by simp, fun v hv => ?_⟩
      · rw [insGo, if_pos ⟨rfl, h⟩, insGo_id]; rfl
      · simp at hv; rw [← hv]; exact h
    · obtain ⟨U, V, h1, h2, h3, h4⟩ := insGo_form f r
      refine ⟨g :: U, V, by rw [h1]; rfl, ?_, ?_, h4⟩
      · rw [insGo, if_neg (fun q => h q.2), h2]; rfl
      · intro u hu
        rcases List.mem_cons.1 hu with rfl | hu
        · exact not_flt.1 h
        · exact h3 u hu
theorem ins_stb {f : FileD} {U V : List FileD} (hS : Srt (U ++ V)) (h1 : ∀ u ∈ U, fle u f) (h2 : ∀ v ∈ V, flt f v) : Srt (U ++ [f] ++ V) ∧ Stb (U ++ V ++ [f]) (U ++ [f] ++ V) := by
  obtain ⟨a, b, c⟩ := srt_app.1 hS
  constructor
  · refine srt_app.2 ⟨srt_app.2 ⟨a, srt_one f, fun u hu x hx => ?_⟩, b, fun x hx v hv => ?_⟩
    · rw [List.mem_singleton] at hx; rw [hx]; exact h1 u hu
    · rcases List.mem_append.1 hx with hx | hx
      · exact c x hx v hv
      · rw [List.mem_singleton] at hx; rw [hx]; exact flt_le (h2 v hv)
  · rw [List.append_assoc, List.append_assoc]
    refine (Stb.refl U).app (Stb.swap fun v hv x hx => ?_)
    rw [List.mem_singleton] at hx; rw [hx]; exact h2 v hv
theorem head_all {f : FileD} {V : List FileD} (hS : Srt V) (h : ∀ v, V.head? = some v → flt f v) : ∀ v ∈ V, flt f v := by
  intro v hv
  obtain ⟨i, hi⟩ := List.getElem?_of_mem hv
  cases V with
  | nil => cases hv
  | cons x V => exact flt_le_trans (h x rfl) (srt_get hS (i := 0) rfl hi (Nat.zero_le _))
theorem ins_srt {f : FileD} {l : List FileD} (h : Srt l) : Srt (insGo f false l) ∧ Stb (l ++ [f]) (insGo f false l) := by
  obtain ⟨U, V, h1, h2, h3, h4⟩ := insGo_form f l
  rw [h1] at h
  have hV := (srt_app.1 h).2.1
  have := ins_stb h h3 (head_all hV h4)
  rw [h2, h1]
  rw [List.append_assoc] at this
  have e : U ++ ([f] ++ V) = U ++ f :: V := rfl
  rw [e] at this
  exact this
theorem fold_srt : ∀ (l pre acc : List FileD), Srt acc → Stb pre acc → Srt (l.foldl (fun out f => insGo f false out) acc) ∧ Stb (pre ++ l) (l.foldl (fun out f => insGo f false out) acc)
  | [], pre, acc, h1, h2 => ⟨h1, by rw [List.append_nil]; exact h2⟩
  | f :: l, pre, acc, h1, h2 => by
    obtain ⟨a, b⟩ := ins_srt (f := f) h1
    have := fold_srt l (pre ++ [f]) (insGo f false acc) a ((h2.app (Stb.refl [f])).trans b)
    rw [List.append_assoc] at this
    exact this
theorem sortS_srt (l : List FileD) : Srt (sortS l) ∧ Stb l (sortS l) := fold_srt l [] [] srt_nil (Stb.refl _)
/-- What is sorted, those of one path as they stood, is what the reference makes. -/
theorem sort_is {l L : List FileD} (h1 : Srt L) (h2 : Stb l L) : L = sortS l := srt_uniq h1 (sortS_srt l).1 fun p => (h2.2 p).symm.trans ((sortS_srt l).2.2 p)
end Go.Proofs.YtjhbmcgaehpadaaDoor
/- The library's stable sort over files: a row of the call's own; swapRange, rotate. -/
namespace Go.Proofs.YtjhbmcgaehpadaaDoor
open Go.RowKit
set_option linter.unusedVariables false

/-- A row of files that the call owns: its block, its content. -/
structure FRow (W : World) (B g n cap : Nat) (L : List FileD) : Prop where
  len : L.length = n
  own : W.ownsRow B 58 3 (.slice (some ⟨g, 0, none⟩) n cap) n (fcells L)
theorem set_mid {α : Type} (A B : List α) (x y : α) : (A ++ x :: B).set A.length y = A ++ y :: B := by
  rw [List.set_append_right _ _ (Nat.le_refl _), Nat.sub_self]; rfl
theorem get_mid {α : Type} (A B : List α) (x : α) : (A ++ x :: B)[A.length]? = some x := by
  rw [List.getElem?_append_right (Nat.le_refl _), Nat.sub_self]; rfl
theorem swap_mid {α : Type} (A B C : List α) (x y : α) : ((A ++ x :: (B ++ y :: C)).set A.length y).set (A.length + 1 + B.length) x = A ++ y :: (B ++ x :: C) := by
  rw [set_mid]
  have e : A ++ y :: (B ++ y :: C) = (A ++ y :: B) ++ y :: C := by rw [List.append_assoc]; rfl
  have l : A.length + 1 + B.length = (A ++ y :: B).length := by rw [List.length_append, List.length_cons]; omega
  rw [e, l, set_mid, List.append_assoc]
  rfl
theorem fcell_len (f : FileD) : (fcell f).length = 3 := rfl
theorem fcells_cons (f : FileD) (l : List FileD) : fcells (f :: l) = .string f.path :: .int .i64 f.mode :: .string f.data :: fcells l := rfl
theorem set_cells : ∀ (l : List FileD) (i : Nat) (h : FileD), (((fcells l).set (i * 3) (.string h.path)).set (i * 3 + 1) (.int .i64 h.mode)).set (i * 3 + 2) (.string h.data) = fcells (l.set i h)
  | [], i, h => by rw [List.set_nil, show fcells [] = [] from rfl, List.set_nil, List.set_nil, List.set_nil]
  | f :: l, 0, h => rfl
  | f :: l, i + 1, h => by
    have e : (i + 1) * 3 = i * 3 + 3 := by omega
    rw [e, fcells_cons, show (f :: l).set (i + 1) h = f :: l.set i h from rfl, fcells_cons, ← set_cells l i h]
    rfl
section
variable {W w0 : World} {B g n cap : Nat} {L : List FileD}
theorem FRow.lt (h : FRow W B g n cap L) : B ≤ g ∧ g < W.heap.size := h.own.lt g rfl
theorem FRow.get (h : FRow W B g n cap L) {i : Nat} {f : FileD} (hi : L[i]? = some f) : W.cell? ⟨g, i * 3, none⟩ = some (.string f.path) ∧ W.cell? ⟨g, i * 3 + 1, none⟩ = some (.int .i64 f.mode) ∧ W.cell? ⟨g, i * 3 + 2, none⟩ = some (.string f.data) := by
  have hil : i < n := by
    rw [← h.len]
    rcases Nat.lt_or_ge i L.length with h1 | h1
    · exact h1
    · rw [List.getElem?_eq_none h1] at hi; cases hi
  obtain ⟨h0, h1, h2⟩ := fcell_at hi
  exact ⟨(h.own.cellAt _ (by omega)).trans h0, (h.own.cellAt _ (by omega)).trans h1, (h.own.cellAt _ (by omega)).trans h2⟩
theorem FRow.fz (h : FRow W B g n cap L) (j : Nat) : W.frozen? ⟨g, j, none⟩ = false := h.own.frozenAt j
theorem FRow.below {W' : World} (h : FRow W B g n cap L) (hb : Below W.heap.size W W') : FRow W' B g n cap L := ⟨h.len, own_below h.own hb⟩
theorem FRow.drew (h : FRow W B g n cap L) : FRow W.drew B g n cap L := ⟨h.len, h.own⟩
theorem FRow.put (h : FRow W B g n cap L) (i : Nat) (f : FileD) : FRow (((W.setCell ⟨g, i * 3, none⟩ (.string f.path)).setCell ⟨g, i * 3 + 1, none⟩ (.int .i64 f.mode)).setCell ⟨g, i * 3 + 2, none⟩ (.string f.data)) B g n cap (L.set i f) := by
  refine ⟨by rw [List.length_set]; exact h.len, ?_⟩
  have := (((h.own.stored (i * 3) (.string f.path)).1.stored (i * 3 + 1) (.int .i64 f.mode)).1.stored (i * 3 + 2) (.string f.data)).1
  rw [set_cells] at this
  exact this
theorem put_below (h : Below B w0 W) (hg : B ≤ g) (i : Nat) (f : FileD) : Below B w0 (((W.setCell ⟨g, i * 3, none⟩ (.string f.path)).setCell ⟨g, i * 3 + 1, none⟩ (.int .i64 f.mode)).setCell ⟨g, i * 3 + 2, none⟩ (.string f.data)) :=
  ((h.setCell (p := ⟨g, i * 3, none⟩) hg _).setCell (p := ⟨g, i * 3 + 1, none⟩) hg _).setCell (p := ⟨g, i * 3 + 2, none⟩) hg _
end
/-- What a step of the sort leaves: the same row with another content, and nothing else that stood. -/
def RowOut (w0 : World) (B g n cap : Nat) (L' : List FileD) (e : Ending) (w' : World) : Prop := e = .returned (.tuple #[]) ∧ FRow w' B g n cap L' ∧ Below B w0 w'
def swapK (P X M Y S : List FileD) (k : Nat) : List FileD := P ++ (Y.take k ++ X.drop k) ++ M ++ (X.take k ++ Y.drop k) ++ S
theorem swapK_zero (P X M Y S : List FileD) : swapK P X M Y S 0 = P ++ X ++ M ++ Y ++ S := by unfold swapK; simp
theorem swapK_end {P X M Y S : List FileD} {n : Nat} (h1 : X.length = n) (h2 : Y.length = n) : swapK P X M Y S n = P ++ Y ++ M ++ X ++ S := by
  unfold swapK
  rw [List.take_of_length_le (by omega), List.drop_eq_nil_of_le (by omega), List.take_of_length_le (by omega), List.drop_eq_nil_of_le (by omega), List.append_nil, List.append_nil]
theorem swapK_form {P X M Y S : List FileD} {n k : Nat} (h1 : X.length = n) (h2 : Y.length = n) {x y : FileD} (hx : X[k]? = some x) (hy : Y[k]? = some y) (hk : k < n) :
    ∃ A Q C, A.length = P.length + k ∧ A.length + 1 + Q.length = P.length + X.length + M.length + k ∧ swapK P X M Y S k = A ++ x :: (Q ++ y :: C) ∧ swapK P X M Y S (k + 1) = A ++ y :: (Q ++ x :: C) := by
  refine ⟨P ++ Y.take k, X.drop (k + 1) ++ M ++ X.take k, Y.drop (k + 1) ++ S, ?_, ?_, ?_, ?_⟩
  · rw [List.length_append, List.length_take]; omega
  · simp only [List.length_append, List.length_take, List.length_drop]; omega
  · unfold swapK
    rw [drop_head hx, drop_head hy]
    simp only [List.append_assoc, List.cons_append]
  · unfold swapK
    rw [List.take_add_one, List.take_add_one, hx, hy]
    simp only [List.append_assoc, List.cons_append, Option.toList_some, List.nil_append]
def SwR (w0 : World) (B g N cap : Nat) (P X M Y S : List FileD) (n : Nat) (v : Value) (wr : World) : Prop := ∃ k : Nat, k ≤ n ∧ v = .int .i64 k ∧ Hid (FRow wr B g N cap (swapK P X M Y S k)) ∧ Hid (Below B w0 wr)
set_option maxHeartbeats 4000000 in
set_option maxRecDepth 100000 in
theorem swapr_any (w0 W : World) (B g N cap : Nat) (P X M Y S : List FileD) (n : Nat) (va vb vn : Int) (cmp : Value) (hN : N ≤ 100000) (hB : Below B w0 W) (h : FRow W B g N cap (P ++ X ++ M ++ Y ++ S)) (h1 : X.length = n) (h2 : Y.length = n)
    (ea : va = P.length) (eb : vb = ((P.length + n + M.length : Nat) : Int)) (en : vn = n) :
    Calls Tryd.prog 117 #[.slice (some ⟨g, 0, none⟩) N cap, .int .i64 va, .int .i64 vb, .int .i64 vn, cmp] W (RowOut w0 B g N cap (P ++ Y ++ M ++ X ++ S)) := by
  have hlen := h.len
  simp only [List.length_append] at hlen
  obtain ⟨a, ha⟩ : ∃ a, a = P.length := ⟨_, rfl⟩
  obtain ⟨b, hb⟩ : ∃ b, b = P.length + n + M.length := ⟨_, rfl⟩
  rw [← ha] at ea
  rw [← hb] at eb
  subst ea eb en
  have Ha := Lib.hid ha
  have Hb := Lib.hid hb
  have H1 := Lib.hid h1
  have H2 := Lib.hid h2
  have hbN : b + n ≤ N := by omega
  have hab : a + n ≤ b := by omega
  have hgB := h.lt.1
  have HS : Hid (FRow W B g N cap (swapK P X M Y S 0)) := Lib.hid (by rw [swapK_zero]; exact h)
  have HB := Lib.hid hB
  have HE : Hid (swapK P X M Y S n = P ++ Y ++ M ++ X ++ S) := Lib.hid (swapK_end h1 h2)
  clear ha hb h1 h2 hlen h hB
  go_enter Tryd.func117, Tryd.ntmps117
  go_wp2
  go_loopw [10] (fun v wr => SwR w0 B g N cap P X M Y S n v wr) (fun v _ => n - (intOf v).toNat)
  case atStart => unfold SwR; exact ⟨0, Nat.zero_le _, rfl, HS, HB⟩
  case round =>
    unfold SwR at hrel
    obtain ⟨k, hk, rfl, HR, HBr⟩ := hrel
    by_cases hlt : k < n
    · have kl : (k : Int) < n := by omega
      obtain ⟨x, hx⟩ : ∃ x, X[k]? = some x := ⟨_, List.getElem?_eq_getElem (by rw [H1.out]; exact hlt)⟩
      obtain ⟨y, hy⟩ : ∃ y, Y[k]? = some y := ⟨_, List.getElem?_eq_getElem (by rw [H2.out]; exact hlt)⟩
      obtain ⟨A1, Q1, C1, l1, l2, f1, f2⟩ := swapK_form (P := P) (M := M) (S := S) H1.out H2.out hx hy hlt
      have hr := HR.out
      have hx' : (swapK P X M Y S k)[a + k]? = some x := by rw [f1, Ha.out, ← l1]; exact get_mid _ _ _
      have hy' : (swapK P X M Y S k)[b + k]? = some y := by
        rw [f1, show b + k = (A1 ++ x :: Q1).length by rw [List.length_append, List.length_cons, Hb.out]; have := H1.out; omega]
        rw [show A1 ++ x :: (Q1 ++ y :: C1) = (A1 ++ x :: Q1) ++ y :: C1 by rw [List.append_assoc]; rfl]
        exact get_mid _ _ _
      obtain ⟨x0, x1, x2⟩ := hr.get hx'
      obtain ⟨y0, y1, y2⟩ := hr.get hy'
      have p0 := hr.fz ((a + k) * 3)
      have p1 := hr.fz ((a + k) * 3 + 1)
      have p2 := hr.fz ((a + k) * 3 + 2)
      have p3 := hr.fz ((b + k) * 3)
      have p4 := hr.fz ((b + k) * 3 + 1)
      have p5 := hr.fz ((b + k) * 3 + 2)
      have ne : a + k ≠ b + k := by omega
      have HNX : Hid (((swapK P X M Y S k).set (a + k) y).set (b + k) x = swapK P X M Y S (k + 1)) := Lib.hid (by
        rw [f1, f2, Ha.out, Hb.out, ← l1, show P.length + n + M.length + k = A1.length + 1 + Q1.length by have := H1.out; omega]
        exact swap_mid _ _ _ _ _)
      clear hx hy hx' hy' l1 l2 f1 f2 hr
      go_wp2
      go_region
      go_wp2
      go_roundw
      case rel => unfold SwR; exact ⟨k + 1, by omega, by go_num, Lib.hid (by have := ((HR.out.put (a + k) y).put (b + k) x).drew; rw [HNX.out] at this; exact this), Lib.hid (put_below (put_below HBr.out hgB (a + k) y) hgB (b + k) x).drew⟩
      case measure => simp [intOf] <;> omega
    · have kl : ¬ (k : Int) < n := by omega
      have hkn : k = n := by omega
      have hr := HR.out
      rw [hkn, HE.out] at hr
      have HR2 := Lib.hid hr
      clear hr hkn
      go_wp2
      go_end0
      unfold RowOut
      exact ⟨rfl, by have := HR2.out; simp only [List.append_assoc] at this ⊢; exact this, HBr.out⟩
end Go.Proofs.YtjhbmcgaehpadaaDoor
/- The library's stable sort over files: rotate. -/
namespace Go.Proofs.YtjhbmcgaehpadaaDoor
open Go.RowKit
set_option linter.unusedVariables false

def RoR (w0 : World) (B g N cap m : Nat) (T : List FileD) (vi vj : Value) (wr : World) : Prop := ∃ (i j : Nat) (P X Y S : List FileD), vi = .int .i64 i ∧ vj = .int .i64 j ∧ 0 < i ∧ 0 < j ∧ i ≤ m ∧ m + j ≤ N ∧ Hid (X.length = i) ∧ Hid (Y.length = j) ∧ Hid (P.length + i = m) ∧ Hid (P ++ Y ++ X ++ S = T) ∧ Hid (FRow wr B g N cap (P ++ X ++ Y ++ S)) ∧ Hid (Below B w0 wr)
theorem row_len {W : World} {B g n cap : Nat} {L : List FileD} (h : FRow W B g n cap L) : L.length = n := h.len
set_option maxHeartbeats 4000000 in
set_option maxRecDepth 100000 in
theorem rot_any (w0 W : World) (B g N cap : Nat) (P X Y S : List FileD) (va vm vb : Int) (cmp : Value) (hN : N ≤ 100000) (hB : Below B w0 W) (h : FRow W B g N cap (P ++ X ++ Y ++ S)) (hx : 0 < X.length) (hy : 0 < Y.length)
    (ea : va = P.length) (em : vm = ((P.length + X.length : Nat) : Int)) (eb : vb = ((P.length + X.length + Y.length : Nat) : Int)) :
    Calls Tryd.prog 111 #[.slice (some ⟨g, 0, none⟩) N cap, .int .i64 va, .int .i64 vm, .int .i64 vb, cmp] W (RowOut w0 B g N cap (P ++ Y ++ X ++ S)) := by
  have hlen := h.len
  simp only [List.length_append] at hlen
  obtain ⟨i0, hi0⟩ : ∃ i, X.length = i := ⟨_, rfl⟩
  obtain ⟨j0, hj0⟩ : ∃ j, Y.length = j := ⟨_, rfl⟩
  obtain ⟨a, ha⟩ : ∃ a, P.length = a := ⟨_, rfl⟩
  obtain ⟨T, hT⟩ : ∃ T, P ++ Y ++ X ++ S = T := ⟨_, rfl⟩
  rw [hT]
  rw [ha] at ea
  rw [ha, hi0] at em
  rw [ha, hi0, hj0] at eb
  rw [hi0] at hx
  rw [hj0] at hy
  obtain ⟨m, hm⟩ : ∃ m, m = a + i0 := ⟨_, rfl⟩
  rw [← hm] at em eb
  subst ea em eb
  have HX := Lib.hid hi0
  have HY := Lib.hid hj0
  have HP : Hid (P.length + i0 = m) := Lib.hid (by rw [ha]; exact hm.symm)
  have HT := Lib.hid hT
  have HR := Lib.hid h
  have HB := Lib.hid hB
  have q1 : i0 ≤ m := by omega
  have q2 : m + j0 ≤ N := by omega
  have e1 : (m : Int) - a = i0 := by omega
  have e2 : ((m + j0 : Nat) : Int) - m = j0 := by omega
  have E1 := Lib.hid e1
  have E2 := Lib.hid e2
  have q3 : a ≤ m := by omega
  obtain ⟨b, hb⟩ : ∃ b, b = m + j0 := ⟨_, rfl⟩
  have q4 : b ≤ N := by omega
  have q5 : m ≤ b := by omega
  rw [← hb] at E2 ⊢
  clear hb hi0 hj0 ha hT hm h hB e1 e2 hlen
  go_enter Tryd.func111, Tryd.ntmps111
  go_wp2
  go_loopw [10, 11] (fun vi vj wr => RoR w0 B g N cap m T vi vj wr) (fun vi vj _ => (intOf vi).toNat + (intOf vj).toNat)
  case atStart => unfold RoR; exact ⟨i0, j0, P, X, Y, S, by rw [E1.out], by rw [E2.out], hx, hy, q1, q2, HX, HY, HP, HT, HR, HB⟩
  case round =>
    clear HX HY HP HT HR HB hx hy q1 q2 q3 q4 q5 E1 E2
    unfold RoR at hrel
    obtain ⟨i, j, P, X, Y, S, rfl, rfl, hi, hj, him, hjN, HX, HY, HP, HT, HR, HB⟩ := hrel
    have hpl := HP.out
    rcases Nat.lt_trichotomy i j with hlt | hlt | hlt
    · have n1 : ((i : Int) != j) = true := by simp; omega
      have n2 : ¬ (j : Int) < i := by omega
      have hr : FRow wr B g N cap (P ++ X ++ Y.take (j - i) ++ Y.drop (j - i) ++ S) := by
        have := HR.out
        have e : P ++ X ++ Y.take (j - i) ++ Y.drop (j - i) ++ S = P ++ X ++ Y ++ S := by rw [List.append_assoc (P ++ X), List.take_append_drop]
        rw [e]; exact this
      have SX := Lib.hid (fun cmp => swapr_any w0 wr B g N cap P X (Y.take (j - i)) (Y.drop (j - i)) S i ((m : Int) - i) ((m : Int) + j - i) i cmp hN HB.out hr HX.out (by rw [List.length_drop, HY.out]; omega) (by omega) (by rw [List.length_take, HY.out]; omega) rfl)
      unfold RowOut at SX
      have e3 : ((j : Int) - i) = ((j - i : Nat) : Int) := by omega
      have E3 := Lib.hid e3
      have HX2 : Hid ((Y.drop (j - i)).length = i) := Lib.hid (by rw [List.length_drop, HY.out]; omega)
      have HY2 : Hid ((Y.take (j - i)).length = j - i) := Lib.hid (by rw [List.length_take, HY.out]; omega)
      have HT2 : Hid (P ++ Y.take (j - i) ++ Y.drop (j - i) ++ (X ++ S) = T) := Lib.hid (by rw [← HT.out, List.append_assoc P, List.take_append_drop]; simp only [List.append_assoc])
      clear hpl hr e3
      go_wp2_with (go_at_call 117; (with_reducible refine (SX.out _).mono ?_); rintro x w2 ⟨rfl, hr2, hb2⟩; have HR2 := Lib.hid hr2; have HB2 := Lib.hid hb2; clear hr2 hb2)
      go_roundw
      case rel => unfold RoR; exact ⟨i, j - i, P, Y.drop (j - i), Y.take (j - i), X ++ S, rfl, by rw [E3.out], hi, by omega, him, by omega, HX2, HY2, HP, HT2, Lib.hid (by have := HR2.out; rw [List.append_assoc (P ++ Y.drop (j - i) ++ Y.take (j - i))] at this; exact this), HB2⟩
      case measure => simp [intOf] <;> omega
    · subst hlt
      have n1 : ((i : Int) != i) = false := by simp
      have hr : FRow wr B g N cap (P ++ X ++ [] ++ Y ++ S) := by rw [List.append_nil]; exact HR.out
      have SX := Lib.hid (fun cmp => swapr_any w0 wr B g N cap P X [] Y S i ((m : Int) - i) m i cmp hN HB.out hr HX.out HY.out (by omega) (by simp; omega) rfl)
      unfold RowOut at SX
      rw [List.append_nil] at SX
      rw [HT.out] at SX
      clear hpl hr
      go_wp2_with (go_at_call 117; (with_reducible refine (SX.out _).mono ?_); rintro x w2 ⟨rfl, hr2, hb2⟩)
      go_end0
      unfold RowOut
      exact ⟨rfl, hr2, hb2⟩
    · have n1 : ((i : Int) != j) = true := by simp; omega
      have n2 : (j : Int) < i := by omega
      have hr : FRow wr B g N cap (P ++ X.take j ++ X.drop j ++ Y ++ S) := by
        have := HR.out
        have e : P ++ X.take j ++ X.drop j ++ Y ++ S = P ++ X ++ Y ++ S := by rw [List.append_assoc P, List.take_append_drop]
        rw [e]; exact this
      have SX := Lib.hid (fun cmp => swapr_any w0 wr B g N cap P (X.take j) (X.drop j) Y S j ((m : Int) - i) m j cmp hN HB.out hr (by rw [List.length_take, HX.out]; omega) HY.out (by omega) (by rw [List.length_drop, HX.out]; omega) rfl)
      unfold RowOut at SX
      have e3 : ((i : Int) - j) = ((i - j : Nat) : Int) := by omega
      have E3 := Lib.hid e3
      have HX2 : Hid ((X.drop j).length = i - j) := Lib.hid (by rw [List.length_drop, HX.out])
      have HY2 : Hid ((X.take j).length = j) := Lib.hid (by rw [List.length_take, HX.out]; omega)
      have HT2 : Hid (P ++ Y ++ X.take j ++ X.drop j ++ S = T) := Lib.hid (by rw [← HT.out, List.append_assoc (P ++ Y), List.take_append_drop])
      have HP2 : Hid ((P ++ Y).length + (i - j) = m) := Lib.hid (by rw [List.length_append, HY.out]; omega)
      clear hpl hr e3
      go_wp2_with (go_at_call 117; (with_reducible refine (SX.out _).mono ?_); rintro x w2 ⟨rfl, hr2, hb2⟩; have HR2 := Lib.hid hr2; have HB2 := Lib.hid hb2; clear hr2 hb2)
      go_roundw
      case rel => unfold RoR; exact ⟨i - j, j, P ++ Y, X.drop j, X.take j, S, by rw [E3.out], rfl, by omega, hj, by omega, hjN, HX2, HY2, HP2, HT2, HR2, HB2⟩
      case measure => simp [intOf] <;> omega
end Go.Proofs.YtjhbmcgaehpadaaDoor
/- The library's stable sort over files: the comparison, insertion sort. -/
namespace Go.Proofs.YtjhbmcgaehpadaaDoor
open Go.RowKit
set_option linter.unusedVariables false

set_option maxRecDepth 100000 in
theorem cmp_any (f h : FileD) (w : World) (hf : FOk f) (hh : FOk h) :
    Calls Tryd.prog 83 #[.agg #[.string f.path, .int .i64 f.mode, .string f.data], .agg #[.string h.path, .int .i64 h.mode, .string h.data]] w fun e w' => e = .returned (.int .i64 (ordL (fk f) (fk h))) ∧ Below w.heap.size w w' := by
  have HO := Lib.hid (fun W => order_any f.path h.path W hf.1 hh.1)
  have hB1 := ((Below.refl w.heap.size w).alloc (Nat.le_refl _) (.cells #[.string f.path, .int .i64 f.mode, .string f.data] 58)).alloc (by simp) (.cells #[.string h.path, .int .i64 h.mode, .string h.data] 58)
  unfold fk
  go_enter Tryd.func83, Tryd.ntmps83
  go_wp2_with (go_at_call 18; (with_reducible refine (HO.out _).mono ?_); rintro e w2 ⟨rfl, m, rfl⟩)
  go_ret
  exact ⟨rfl, below_drewN hB1 _⟩
theorem swap_adj {α : Type} (A C : List α) (u x : α) : ((A ++ u :: x :: C).set (A.length + 1) u).set A.length x = A ++ x :: u :: C := by
  have e : A ++ u :: x :: C = (A ++ [u]) ++ x :: C := by rw [List.append_assoc]; rfl
  have l : A.length + 1 = (A ++ [u]).length := by rw [List.length_append]; rfl
  rw [e, l, set_mid, List.append_assoc]
  exact set_mid _ _ _ _
def SortOut (w0 : World) (B g N cap : Nat) (P X S : List FileD) (e : Ending) (w' : World) : Prop := ∃ Z, e = .returned (.tuple #[]) ∧ Srt Z ∧ Stb X Z ∧ FRow w' B g N cap (P ++ Z ++ S) ∧ Below B w0 w'
def IoR (w0 : World) (B g N cap a : Nat) (P X S : List FileD) (v : Value) (wr : World) : Prop := ∃ (k t : Nat) (Z : List FileD), v = .int .i64 t ∧ t = a + k ∧ 1 ≤ k ∧ (k ≤ X.length ∨ k = 1) ∧ Hid (Srt Z) ∧ Hid (Stb (X.take k) Z) ∧ Hid (FRow wr B g N cap (P ++ Z ++ X.drop k ++ S)) ∧ Hid (Below B w0 wr)
def InR2 (w0 : World) (B g N cap a : Nat) (P Z R : List FileD) (x : FileD) (v : Value) (wr : World) : Prop := ∃ (j : Nat) (U V : List FileD), v = .int .i64 j ∧ Hid (j = a + U.length) ∧ Hid (U ++ V = Z) ∧ Hid (∀ v ∈ V, flt x v) ∧ Hid (FRow wr B g N cap (P ++ U ++ x :: V ++ R)) ∧ Hid (Below B w0 wr)
theorem last_form {U : List FileD} (h : U ≠ []) : ∃ U' u, U = U' ++ [u] := ⟨U.dropLast, U.getLast h, (List.dropLast_concat_getLast h).symm⟩
set_option maxHeartbeats 4000000 in
set_option maxRecDepth 100000 in
theorem ins_any (w0 W : World) (B g N cap : Nat) (P X S : List FileD) (va vb : Int) (hN : N ≤ 100000) (hB : Below B w0 W) (h : FRow W B g N cap (P ++ X ++ S)) (hX : ∀ f ∈ X, FOk f)
    (ea : va = P.length) (eb : vb = ((P.length + X.length : Nat) : Int)) :
    Calls Tryd.prog 104 #[.slice (some ⟨g, 0, none⟩) N cap, .int .i64 va, .int .i64 vb, (.func (.func 83) #[] #[])] W (SortOut w0 B g N cap P X S) := by
  have hlen := h.len
  simp only [List.length_append] at hlen
  obtain ⟨n, hn⟩ : ∃ n, X.length = n := ⟨_, rfl⟩
  obtain ⟨a, ha⟩ : ∃ a, P.length = a := ⟨_, rfl⟩
  obtain ⟨b, hb⟩ : ∃ b, b = a + n := ⟨_, rfl⟩
  rw [ha] at ea
  rw [ha, hn, ← hb] at eb
  subst ea eb
  have Hn := Lib.hid hn
  have Ha := Lib.hid ha
  have hbN : b ≤ N := by omega
  have hb1 : b ≤ a + n := by omega
  have hb2 : a + n ≤ b := by omega
  have hgB := h.lt.1
  have HR : Hid (FRow W B g N cap (P ++ X.take 1 ++ X.drop 1 ++ S)) := Lib.hid (by rw [List.append_assoc P, List.take_append_drop]; exact h)
  have HS : Hid (Srt (X.take 1)) := Lib.hid (by
    cases X with
    | nil => exact srt_nil
    | cons x X => exact srt_one x)
  have HB := Lib.hid hB
  have HX := Lib.hid hX
  clear hn ha hlen h hB hX hb
  go_enter Tryd.func104, Tryd.ntmps104
  go_wp2
  go_loopw [8, 9] (fun v _ wr => IoR w0 B g N cap a P X S v wr) (fun v _ _ => b - (intOf v).toNat)
  case atStart => unfold IoR; exact ⟨1, a + 1, X.take 1, by go_num, rfl, Nat.le_refl _, .inr rfl, HS, Lib.hid (Stb.refl _), HR, HB⟩
  case round =>
    unfold IoR at hrel
    clear HR HS HB
    obtain ⟨k, t, Z, rfl, htk, hk1, hkn, HZ, HST, HR, HBr⟩ := hrel
    have Htk := Lib.hid htk
    obtain ⟨w1, rfl⟩ : ∃ w1, w1 = wr := ⟨_, rfl⟩
    by_cases hlt : t < b
    · have tl : (t : Int) < b := by omega
      have hkX : k < X.length := by rw [Hn.out]; omega
      obtain ⟨x, hx⟩ : ∃ x, X[k]? = some x := ⟨_, List.getElem?_eq_getElem hkX⟩
      have hzl : Z.length = k := by rw [← HST.out.1, List.length_take]; omega
      have HFx := Lib.hid (HX.out x (List.mem_of_getElem? hx))
      obtain ⟨R, hR⟩ : ∃ R, R = X.drop (k + 1) ++ S := ⟨_, rfl⟩
      have HRR := Lib.hid hR
      have HR2 : Hid (FRow w1 B g N cap (P ++ Z ++ x :: [] ++ R)) := Lib.hid (by
        have := HR.out
        rw [drop_head hx] at this
        rw [hR]
        simp only [List.append_assoc, List.cons_append, List.nil_append] at this ⊢
        exact this)
      have HJ : Hid (t = a + Z.length) := Lib.hid (by rw [hzl]; exact htk)
      have HTX : Hid (X.take (k + 1) = X.take k ++ [x]) := Lib.hid (by rw [List.take_add_one, hx]; rfl)
      have HFZ : Hid (∀ z ∈ Z, FOk z) := Lib.hid fun z hz => HX.out z (List.mem_of_mem_take (HST.out.mem.2 hz))
      have HZN : Hid (Z ++ [] = Z) := Lib.hid (List.append_nil _)
      clear hx hzl hR htk HR
      go_wp2
      go_loopw [9] (fun v wr => InR2 w0 B g N cap a P Z R x v wr) (fun v _ => (intOf v).toNat)
      case atStart => unfold InR2; exact ⟨t, Z, [], rfl, HJ, HZN, Lib.hid (by simp), HR2, HBr⟩
      case round =>
        unfold InR2 at hrel
        clear HR2 HBr HJ HZN
        obtain ⟨j, U, V, rfl, HJ, HUV, HFV, HR, HBr⟩ := hrel
        by_cases hU : U = []
        · have hja : j = a := by rw [HJ.out, hU]; rfl
          have d1 : decide ((a : Int) < j) = false := decide_eq_false (by omega)
          have d2 : decide (a < j) = false := decide_eq_false (by omega)
          have hz := HZ.out
          rw [← HUV.out] at hz
          have hi := ins_stb (f := x) hz (by rw [hU]; simp) HFV.out
          have HI := Lib.hid hi
          have HSB : Hid (Stb (X.take (k + 1)) (U ++ [x] ++ V)) := Lib.hid (by rw [HTX.out]; exact (HST.out.app (Stb.refl [x])).trans (by rw [← HUV.out]; exact hi.2))
          clear hU hja hz hi
          go_wp2
          (refine wp_region_cls (by kernel_rfl) (by kernel_rfl) ?_; (repeat (go_big_quiet_step ((fail)))); refine wpQuiet_nil ?_; intro w9 hw'; obtain ⟨⟨w9', hb9⟩, hw''⟩ := hw'; subst hw'')
          go_wp2
          (go_roundw; (case rel => unfold IoR; exact ⟨k + 1, t + 1, U ++ [x] ++ V, by go_num, by have := Htk.out; omega, by omega, .inl (by omega), Lib.hid HI.out.1, HSB, Lib.hid (by have := HR.out.below hb9; rw [HRR.out] at this; simp only [List.append_assoc, List.cons_append, List.nil_append] at this ⊢; exact this), Lib.hid (HBr.out.trans (hb9.mono (Nat.le_trans hgB (Nat.le_of_lt HR.out.lt.2))))⟩); (case measure => simp [intOf] <;> omega))
        · obtain ⟨U', u, hU'⟩ := last_form hU
          subst hU'
          obtain ⟨j', rfl⟩ : ∃ j', j = j' + 1 := ⟨a + U'.length, by rw [HJ.out, List.length_append]; rfl⟩
          have hj := HJ.out
          rw [List.length_append, List.length_cons, List.length_nil] at hj
          have d1 : decide ((a : Int) < (j' : Int) + 1) = true := decide_eq_true (by omega)
          have d2 : decide (a < j' + 1) = true := decide_eq_true (by omega)
          have eL : P ++ (U' ++ [u]) ++ x :: V ++ R = (P ++ U') ++ u :: x :: (V ++ R) := by simp only [List.append_assoc, List.cons_append, List.nil_append]
          have hA : (P ++ U').length = j' := by rw [List.length_append, Ha.out]; omega
          have hr := HR.out
          rw [eL] at hr
          have hu : ((P ++ U') ++ u :: x :: (V ++ R))[j']? = some u := by rw [← hA]; exact get_mid _ _ _
          have hx' : ((P ++ U') ++ u :: x :: (V ++ R))[j' + 1]? = some x := by
            rw [show (P ++ U') ++ u :: x :: (V ++ R) = ((P ++ U') ++ [u]) ++ x :: (V ++ R) by simp only [List.append_assoc, List.cons_append, List.nil_append], show j' + 1 = ((P ++ U') ++ [u]).length by rw [List.length_append, hA]; rfl]
            exact get_mid _ _ _
          have HU := Lib.hid (fun (W : World) (hb : Below wr.heap.size wr W) => (hr.below hb).get hu)
          have HXC := Lib.hid (fun (W : World) (hb : Below wr.heap.size wr W) => (hr.below hb).get hx')
          have hjN : j' + 1 < N := by
            have := hr.len
            simp only [List.length_append, List.length_cons] at this hA
            omega
          obtain ⟨y0, y1, y2⟩ := hr.get hu
          obtain ⟨x0, x1, x2⟩ := hr.get hx'
          have HC := Lib.hid (fun W => cmp_any x u W HFx.out (HFZ.out u (by rw [← HUV.out]; simp)))
          have hs := ordL_neg (fk x) (fk u)
          have HCC : Hid (∀ p : Cls wr, Calls Tryd.prog 83 #[.agg #[.string x.path, .int .i64 x.mode, .string x.data], .agg #[.string u.path, .int .i64 u.mode, .string u.data]] p.n fun e w' => e = .returned (.int .i64 (ordL (fk x) (fk u))) ∧ Below p.n.heap.size p.n w') := Lib.hid fun p => HC.out p.n
          have x0' := cell_cls x0
          have x1' := cell_cls x1
          have x2' := cell_cls x2
          have y0' := cell_cls y0
          have y1' := cell_cls y1
          have y2' := cell_cls y2
          have HRW := Lib.hid hr
          have k0 : (0 : Int) ≤ j' := by omega
          have k1 : (j' : Int) < N := by omega
          have k2 : (j' : Int) + 1 < N := by omega
          by_cases hlt2 : flt x u
          · have hS : ordL (fk x) (fk u) < 0 := hs.2 hlt2
            have HSW : Hid (((P ++ U' ++ u :: x :: (V ++ R)).set (j' + 1) u).set j' x = P ++ U' ++ x :: (u :: V) ++ R) := Lib.hid (by
              rw [← hA, swap_adj]
              simp only [List.append_assoc, List.cons_append])
            have HFV2 : Hid (∀ v ∈ u :: V, flt x v) := Lib.hid fun v hv => by
              rcases List.mem_cons.1 hv with rfl | hv
              · exact hlt2
              · exact HFV.out v hv
            have HUV2 : Hid (U' ++ (u :: V) = Z) := Lib.hid (by rw [← HUV.out]; simp)
            have HJ2 : Hid (j' = a + U'.length) := Lib.hid (by omega)
            generalize ordL (fk x) (fk u) = Q at *
            clear x0 x1 x2 y0 y1 y2 hs hlt2 hr hu hx' hA eL hj hU HC
            go_wp2
            (refine wp_region_cls (by kernel_rfl) (by kernel_rfl) ?_; (repeat (go_big_quiet_step ((go_at_call 83; with_reducible exact cls_call (HCC.out _))))); refine wpQuiet_nil ?_; intro w9 hw'; obtain ⟨⟨w9', hb9⟩, hw''⟩ := hw'; subst hw'')
            obtain ⟨x0, x1, x2⟩ := HXC.out w9 hb9
            obtain ⟨y0, y1, y2⟩ := HU.out w9 hb9
            have HR9 := Lib.hid (HRW.out.below hb9)
            have p0 := HR9.out.fz ((j' + 1) * 3)
            have p1 := HR9.out.fz ((j' + 1) * 3 + 1)
            have p2 := HR9.out.fz ((j' + 1) * 3 + 2)
            have p3 := HR9.out.fz (j' * 3)
            have p4 := HR9.out.fz (j' * 3 + 1)
            have p5 := HR9.out.fz (j' * 3 + 2)
            have HB9 := Lib.hid (HBr.out.trans (hb9.mono (Nat.le_trans hgB (Nat.le_of_lt HR.out.lt.2))))
            clear x0' x1' x2' y0' y1' y2'
            go_wp2
            go_region
            go_wp2
            go_roundw
            case rel => unfold InR2; exact ⟨j', U', u :: V, by go_num, HJ2, HUV2, HFV2, Lib.hid (by have := ((HR9.out.put (j' + 1) u).put j' x).drew; rw [HSW.out] at this; exact this), Lib.hid (put_below (put_below HB9.out hgB (j' + 1) u) hgB j' x).drew⟩
            case measure => simp [intOf] <;> omega
          · have hS : ¬ ordL (fk x) (fk u) < 0 := fun h => hlt2 (hs.1 h)
            have dS : decide (ordL (fk x) (fk u) < 0) = false := decide_eq_false hS
            obtain ⟨U, hUe⟩ : ∃ U, U = U' ++ [u] := ⟨_, rfl⟩
            have hz := HZ.out
            rw [← HUV.out, ← hUe] at hz
            have hi := ins_stb (f := x) hz (by
              rw [hUe]
              intro y hy
              have hz1 := (srt_app.1 hz).1
              rw [hUe] at hz1
              rcases List.mem_append.1 hy with hy | hy
              · exact fle_trans ((srt_app.1 hz1).2.2 y hy u (by simp)) (not_flt.1 hlt2)
              · rw [List.mem_singleton] at hy; rw [hy]; exact not_flt.1 hlt2) HFV.out
            have HI := Lib.hid hi
            rw [← hUe] at HUV HR
            have HSB : Hid (Stb (X.take (k + 1)) (U ++ [x] ++ V)) := Lib.hid (by rw [HTX.out]; exact (HST.out.app (Stb.refl [x])).trans (by rw [← HUV.out]; exact hi.2))
            generalize ordL (fk x) (fk u) = Q at *
            clear x0 x1 x2 y0 y1 y2 hs hlt2 hr hu hx' hA eL hj hU HC hz hi hUe
            go_wp2
            (refine wp_region_cls (by kernel_rfl) (by kernel_rfl) ?_; (repeat (go_big_quiet_step ((go_at_call 83; with_reducible exact cls_call (HCC.out _))))); refine wpQuiet_nil ?_; intro w9 hw'; obtain ⟨⟨w9', hb9⟩, hw''⟩ := hw'; subst hw'')
            clear x0' x1' x2' y0' y1' y2'
            go_wp2
            (go_roundw; (case rel => unfold IoR; exact ⟨k + 1, t + 1, U ++ [x] ++ V, by go_num, by have := Htk.out; omega, by omega, .inl (by omega), Lib.hid HI.out.1, HSB, Lib.hid (by have := HR.out.below hb9; rw [HRR.out] at this; simp only [List.append_assoc, List.cons_append, List.nil_append] at this ⊢; exact this), Lib.hid (HBr.out.trans (hb9.mono (Nat.le_trans hgB (Nat.le_of_lt HR.out.lt.2))))⟩); (case measure => simp [intOf] <;> omega))
    · have tl : ¬ (t : Int) < b := by omega
      have hkn' : X.length ≤ k := by rw [Hn.out]; omega
      have hst := HST.out
      have hr := HR.out
      rw [List.take_of_length_le hkn'] at hst
      rw [List.drop_eq_nil_of_le hkn', List.append_nil] at hr
      have HST2 := Lib.hid hst
      have HR2 := Lib.hid hr
      clear hst hr hkn' htk
      go_wp2
      go_end0
      unfold SortOut
      exact ⟨Z, rfl, HZ.out, HST2.out, HR2.out, HBr.out⟩
end Go.Proofs.YtjhbmcgaehpadaaDoor
