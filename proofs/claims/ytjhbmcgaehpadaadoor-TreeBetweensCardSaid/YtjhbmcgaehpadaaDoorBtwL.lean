/- The plain law of Between: the reference's gathering, sorting and looking is the merge. No program in sight. -/
import Derived.Test.YtjhbmcgaehpadaaDoorBtwP
namespace Go.Proofs.YtjhbmcgaehpadaaDoor
open Go.RowKit
set_option linter.unusedVariables false

/-! ### lists in a strict order -/
section
variable {α : Type} {R : α → α → Prop}
theorem pw_ext (hi : ∀ x, ¬ R x x) (ht : ∀ x y z, R x y → R y z → R x z) : ∀ l m : List α, l.Pairwise R → m.Pairwise R → (∀ x, x ∈ l ↔ x ∈ m) → l = m
  | [], [], _, _, _ => rfl
  | [], y :: m, _, _, h => absurd ((h y).2 (by simp)) (by simp)
  | x :: l, [], _, _, h => absurd ((h x).1 (by simp)) (by simp)
  | x :: l, y :: m, h1, h2, h => by
    rw [List.pairwise_cons] at h1 h2
    have e : x = y := by
      rcases List.mem_cons.1 ((h x).1 (by simp)) with e | hx
      · exact e
      · rcases List.mem_cons.1 ((h y).2 (by simp)) with e | hy
        · exact e.symm
        · exact absurd (ht _ _ _ (h1.1 y hy) (h2.1 x hx)) (hi x)
    subst e
    rw [pw_ext hi ht l m h1.2 h2.2 fun z => ⟨fun hz => by
      rcases List.mem_cons.1 ((h z).1 (List.mem_cons_of_mem _ hz)) with e | hm
      · subst e; exact absurd (h1.1 z hz) (hi z)
      · exact hm, fun hz => by
      rcases List.mem_cons.1 ((h z).2 (List.mem_cons_of_mem _ hz)) with e | hm
      · subst e; exact absurd (h2.1 z hz) (hi z)
      · exact hm⟩]
end
def pord (p q : ByteArray) : Int := ordS p.data.toList q.data.toList
theorem pord_irr (p : ByteArray) : ¬ pord p p < 0 := by
  have := (ordS_zero p.data.toList p.data.toList).2 rfl
  unfold pord
  omega
theorem pord_trans {p q r : ByteArray} (h1 : pord p q < 0) (h2 : pord q r < 0) : pord p r < 0 := by
  unfold pord at *
  have h3 := ordS_trans _ _ _ (Int.le_of_lt h1) (Int.le_of_lt h2)
  by_cases h4 : ordS p.data.toList r.data.toList = 0
  · have h5 := (ordS_zero _ _).1 h4
    rw [← h5] at h2
    have h6 := ordS_flip p.data.toList q.data.toList
    omega
  · omega
theorem pord_ne {p q : ByteArray} (h : pord p q < 0) : p ≠ q := fun e => pord_irr p (by rw [← e] at h; exact h)
theorem pord_gt {p q : ByteArray} (h : ¬ pord p q < 0) (hn : p ≠ q) : pord q p < 0 := by
  unfold pord at *
  have h1 := ordS_flip p.data.toList q.data.toList
  have h2 : ordS p.data.toList q.data.toList ≠ 0 := fun e => hn (ba_ext ((ordS_zero _ _).1 e))
  omega
theorem ordL_lt (p q : ByteArray) : ordL p.data.toList q.data.toList < 0 ↔ pord p q < 0 := by
  have := sgn_ord p.data.toList q.data.toList
  unfold pord
  unfold sgnI at this
  split at this <;> (try split at this) <;> omega
theorem ordL_gt (p q : ByteArray) : 0 < ordL p.data.toList q.data.toList ↔ pord q p < 0 := by
  have := sgn_ord p.data.toList q.data.toList
  have h2 := ordS_flip p.data.toList q.data.toList
  unfold pord
  unfold sgnI at this
  split at this <;> (try split at this) <;> omega
theorem ordL_eq {p q : ByteArray} (h1 : ¬ ordL p.data.toList q.data.toList < 0) (h2 : ¬ 0 < ordL p.data.toList q.data.toList) : p = q := by
  have h3 : sgnI (ordL p.data.toList q.data.toList) = 0 := by unfold sgnI; rw [if_neg h1, if_neg h2]
  rw [sgn_ord] at h3
  exact ba_ext ((ordS_zero _ _).1 h3)

/-! ### the reference's Sort -/
def FR (f g : FileD) : Prop := pord f.path g.path < 0
theorem insGo_true (f : FileD) : ∀ l, insGo f true l = l
  | [] => rfl
  | g :: r => by rw [insGo, if_neg (by simp), insGo_true f r]
theorem insGo_mem (f : FileD) : ∀ (l : List FileD) (x : FileD), x ∈ insGo f false l ↔ x = f ∨ x ∈ l
  | [], x => by simp [insGo]
  | g :: r, x => by
    rw [insGo]
    split
    · rw [insGo_true]; simp
    · simp only [List.mem_cons, insGo_mem f r x]
      constructor
      · rintro (h | h | h)
        · exact .inr (.inl h)
        · exact .inl h
        · exact .inr (.inr h)
      · rintro (h | h | h)
        · exact .inr (.inl h)
        · exact .inl h
        · exact .inr (.inr h)
theorem insGo_pw (f : FileD) : ∀ l : List FileD, l.Pairwise FR → (∀ g ∈ l, f.path ≠ g.path) → (insGo f false l).Pairwise FR
  | [], _, _ => by simp [insGo]
  | g :: r, h, hn => by
    rw [List.pairwise_cons] at h
    rw [insGo]
    split
    · rename_i hc
      rw [insGo_true]
      have hfg : FR f g := hc.2
      refine List.pairwise_cons.2 ⟨fun x hx => ?_, List.pairwise_cons.2 h⟩
      rcases List.mem_cons.1 hx with rfl | hx
      · exact hfg
      · exact pord_trans hfg (h.1 x hx)
    · rename_i hc
      have hgf : FR g f := pord_gt (p := f.path) (fun hh => hc ⟨rfl, hh⟩) (hn g (by simp))
      refine List.pairwise_cons.2 ⟨fun x hx => ?_, insGo_pw f r h.2 fun x hx => hn x (by simp [hx])⟩
      rcases (insGo_mem f r x).1 hx with rfl | hx
      · exact hgf
      · exact h.1 x hx
theorem fold_sort : ∀ (l acc : List FileD), acc.Pairwise FR → l.Pairwise (fun f g => f.path ≠ g.path) → (∀ f ∈ l, ∀ g ∈ acc, f.path ≠ g.path) →
    (l.foldl (fun out f => insGo f false out) acc).Pairwise FR ∧ ∀ x, x ∈ l.foldl (fun out f => insGo f false out) acc ↔ x ∈ l ∨ x ∈ acc
  | [], acc, h, _, _ => ⟨h, fun x => by simp⟩
  | f :: l, acc, h, hl, hd => by
    rw [List.pairwise_cons] at hl
    have := fold_sort l (insGo f false acc) (insGo_pw f acc h (hd f (by simp))) hl.2 (fun x hx g hg => by
      rcases (insGo_mem f acc g).1 hg with rfl | hg
      · exact (hl.1 x hx).symm
      · exact hd x (by simp [hx]) g hg)
    refine ⟨this.1, fun x => ?_⟩
    rw [List.foldl_cons, this.2 x, insGo_mem, List.mem_cons]
    constructor
    · rintro (h | h | h)
      · exact .inl (.inr h)
      · exact .inl (.inl h)
      · exact .inr h
    · rintro ((h | h) | h)
      · exact .inr (.inl h)
      · exact .inl h
      · exact .inr (.inr h)

/-! ### looking -/
def lookI (p : ByteArray) : List ItemD → Option ItemD
  | [] => none
  | f :: r => if f.path = p then some f else lookI p r
theorem look_some {p : ByteArray} {f : ItemD} : ∀ {l : List ItemD}, lookI p l = some f → f ∈ l ∧ f.path = p
  | g :: r, h => by
    rw [lookI] at h
    split at h
    · injection h with h; subst h; exact ⟨by simp, by assumption⟩
    · exact ⟨List.mem_cons_of_mem _ (look_some h).1, (look_some h).2⟩
theorem look_none {p : ByteArray} : ∀ {l : List ItemD}, lookI p l = none ↔ ∀ f ∈ l, f.path ≠ p
  | [] => by simp [lookI]
  | g :: r => by
    rw [lookI]
    split
    · rename_i h; simp [h]
    · rename_i h
      rw [look_none]
      simp [h]
theorem look_skip {p : ByteArray} {f : ItemD} {l : List ItemD} (h : f.path ≠ p) : lookI p (f :: l) = lookI p l := by rw [lookI, if_neg h]
theorem look_hit {p : ByteArray} {f : ItemD} {l : List ItemD} (h : f.path = p) : lookI p (f :: l) = some f := by rw [lookI, if_pos h]
theorem place_none {p : ByteArray} : ∀ {k : Nat} {l : List ItemD}, lookI p l = none → placeGo p k l = -1
  | _, [], _ => rfl
  | k, f :: l, h => by
    rw [lookI] at h
    rw [placeGo]
    split at h
    · cases h
    · rename_i hn; rw [if_neg hn]; exact place_none h
theorem place_some {p : ByteArray} {f : ItemD} : ∀ {k : Nat} {l : List ItemD}, lookI p l = some f → ∃ i : Nat, placeGo p k l = ((k + i : Nat) : Int) ∧ l[i]? = some f
  | k, g :: l, h => by
    rw [lookI] at h
    rw [placeGo]
    split at h
    · rename_i hn; injection h with h; subst h; rw [if_pos hn]; exact ⟨0, by simp, rfl⟩
    · rename_i hn
      rw [if_neg hn]
      obtain ⟨i, h1, h2⟩ := place_some (k := k + 1) h
      exact ⟨i + 1, by rw [h1]; congr 1; omega, by simpa using h2⟩

/-- What became of one path. -/
def entC (a b : List ItemD) (p : ByteArray) : List ChD := match lookI p b with
  | none => [⟨1, p⟩]
  | some g => match lookI p a with
    | none => [⟨2, p⟩]
    | some f => if f.size ≠ g.size ∨ f.mark ≠ g.mark then [⟨3, p⟩] else if f.mode ≠ g.mode then [⟨4, p⟩] else []
def pfile (p : ByteArray) : FileD := ⟨p, 0, ⟨#[]⟩⟩
/-- The paths that the reference gathers. -/
def gath (a b : List ItemD) : List FileD := a.map (fun f => pfile f.path) ++ (b.filter fun g => (lookI g.path a).isNone).map fun g => pfile g.path
def refC (a b : List ItemD) : List ChD := (sortS (gath a b)).flatMap fun h => entC a b h.path

/-! ### the merge's paths -/
def uniGo : Nat → List ItemD → List ItemD → List ByteArray
  | 0, _, _ => []
  | _ + 1, [], [] => []
  | n + 1, f :: a, [] => f.path :: uniGo n a []
  | n + 1, [], g :: b => g.path :: uniGo n [] b
  | n + 1, f :: a, g :: b => if ordL f.path.data.toList g.path.data.toList < 0 then f.path :: uniGo n a (g :: b) else if 0 < ordL f.path.data.toList g.path.data.toList then g.path :: uniGo n (f :: a) b else f.path :: uniGo n a b
def IR (f g : ItemD) : Prop := pord f.path g.path < 0
theorem uni_mem : ∀ (n : Nat) (a b : List ItemD), a.length + b.length ≤ n → ∀ p, p ∈ uniGo n a b ↔ (∃ f ∈ a, f.path = p) ∨ ∃ g ∈ b, g.path = p
  | 0, a, b, h, p => by
    obtain rfl : a = [] := List.eq_nil_of_length_eq_zero (by omega)
    obtain rfl : b = [] := List.eq_nil_of_length_eq_zero (by omega)
    simp [uniGo]
  | n + 1, [], [], _, p => by simp [uniGo]
  | n + 1, f :: a, [], h, p => by
    rw [uniGo, List.mem_cons, uni_mem n a [] (by simp at h ⊢; omega)]
    simp [eq_comm]
  | n + 1, [], g :: b, h, p => by
    rw [uniGo, List.mem_cons, uni_mem n [] b (by simp at h ⊢; omega)]
    simp [eq_comm]
  | n + 1, f :: a, g :: b, h, p => by
    rw [uniGo]
    split
    · rw [List.mem_cons, uni_mem n a (g :: b) (by simp at h ⊢; omega)]
      simp [eq_comm, or_assoc]
    · split
      · rw [List.mem_cons, uni_mem n (f :: a) b (by simp at h ⊢; omega)]
        simp only [List.mem_cons, exists_eq_or_imp]
        constructor
        · rintro (h | h | h)
          · exact .inr (.inl h.symm)
          · exact .inl h
          · exact .inr (.inr h)
        · rintro (h | h | h)
          · exact .inr (.inl h)
          · exact .inl h.symm
          · exact .inr (.inr h)
      · rename_i h1 h2
        have e := ordL_eq h1 h2
        rw [List.mem_cons, uni_mem n a b (by simp at h ⊢; omega)]
        simp only [List.mem_cons, exists_eq_or_imp]
        constructor
        · rintro (h | h | h)
          · exact .inl (.inl h.symm)
          · exact .inl (.inr h)
          · exact .inr (.inr h)
        · rintro ((h | h) | h | h)
          · exact .inl h.symm
          · exact .inr (.inl h)
          · exact .inl (by rw [e]; exact h.symm)
          · exact .inr (.inr h)
theorem uni_pw : ∀ (n : Nat) (a b : List ItemD), a.length + b.length ≤ n → a.Pairwise IR → b.Pairwise IR → (uniGo n a b).Pairwise (fun p q => pord p q < 0)
  | 0, a, b, h, _, _ => by simp [uniGo]
  | n + 1, [], [], _, _, _ => by simp [uniGo]
  | n + 1, f :: a, [], h, ha, hb => by
    rw [List.pairwise_cons] at ha
    rw [uniGo]
    refine List.pairwise_cons.2 ⟨fun p hp => ?_, uni_pw n a [] (by simp at h ⊢; omega) ha.2 hb⟩
    rcases (uni_mem n a [] (by simp at h ⊢; omega) p).1 hp with ⟨x, hx, rfl⟩ | ⟨x, hx, rfl⟩
    · exact ha.1 x hx
    · simp at hx
  | n + 1, [], g :: b, h, ha, hb => by
    rw [List.pairwise_cons] at hb
    rw [uniGo]
    refine List.pairwise_cons.2 ⟨fun p hp => ?_, uni_pw n [] b (by simp at h ⊢; omega) ha hb.2⟩
    rcases (uni_mem n [] b (by simp at h ⊢; omega) p).1 hp with ⟨x, hx, rfl⟩ | ⟨x, hx, rfl⟩
    · simp at hx
    · exact hb.1 x hx
  | n + 1, f :: a, g :: b, h, ha, hb => by
    have ha0 := ha
    have hb0 := hb
    rw [List.pairwise_cons] at ha hb
    rw [uniGo]
    split
    · rename_i h1
      have h1 := (ordL_lt _ _).1 h1
      refine List.pairwise_cons.2 ⟨fun p hp => ?_, uni_pw n a (g :: b) (by simp at h ⊢; omega) ha.2 hb0⟩
      rcases (uni_mem n a (g :: b) (by simp at h ⊢; omega) p).1 hp with ⟨x, hx, rfl⟩ | ⟨x, hx, rfl⟩
      · exact ha.1 x hx
      · rcases List.mem_cons.1 hx with rfl | hx
        · exact h1
        · exact pord_trans h1 (hb.1 x hx)
    · split
      · rename_i h2
        have h2 := (ordL_gt _ _).1 h2
        refine List.pairwise_cons.2 ⟨fun p hp => ?_, uni_pw n (f :: a) b (by simp at h ⊢; omega) ha0 hb.2⟩
        rcases (uni_mem n (f :: a) b (by simp at h ⊢; omega) p).1 hp with ⟨x, hx, rfl⟩ | ⟨x, hx, rfl⟩
        · rcases List.mem_cons.1 hx with rfl | hx
          · exact h2
          · exact pord_trans h2 (ha.1 x hx)
        · exact hb.1 x hx
      · rename_i h1 h2
        have e := ordL_eq h1 h2
        refine List.pairwise_cons.2 ⟨fun p hp => ?_, uni_pw n a b (by simp at h ⊢; omega) ha.2 hb.2⟩
        rcases (uni_mem n a b (by simp at h ⊢; omega) p).1 hp with ⟨x, hx, rfl⟩ | ⟨x, hx, rfl⟩
        · exact ha.1 x hx
        · rw [e]; exact hb.1 x hx
theorem ent_skip_a {f : ItemD} {a b : List ItemD} {p : ByteArray} (h : f.path ≠ p) : entC (f :: a) b p = entC a b p := by unfold entC; rw [look_skip h]
theorem ent_skip_b {g : ItemD} {a b : List ItemD} {p : ByteArray} (h : g.path ≠ p) : entC a (g :: b) p = entC a b p := by unfold entC; rw [look_skip h]
theorem ent_gone {a b : List ItemD} {p : ByteArray} (h : ∀ g ∈ b, g.path ≠ p) : entC a b p = [⟨1, p⟩] := by unfold entC; rw [look_none.2 h]
theorem ent_came {g : ItemD} {a b : List ItemD} (h : ∀ f ∈ a, f.path ≠ g.path) : entC a (g :: b) g.path = [⟨2, g.path⟩] := by unfold entC; rw [look_hit rfl, look_none.2 h]
theorem ent_both {f g : ItemD} {a b : List ItemD} (h : f.path = g.path) : entC (f :: a) (g :: b) f.path = sameC f g := by unfold entC sameC; rw [look_hit h.symm, look_hit rfl]
theorem flat_cons_congr {l : List ByteArray} {P Q : ByteArray → List ChD} (h : ∀ p ∈ l, P p = Q p) : l.flatMap P = l.flatMap Q := by
  induction l with
  | nil => rfl
  | cons x l ih => rw [List.flatMap_cons, List.flatMap_cons, h x (by simp), ih fun p hp => h p (by simp [hp])]
theorem btw_uni : ∀ (n : Nat) (a b : List ItemD), a.length + b.length ≤ n → a.Pairwise IR → b.Pairwise IR → btwGo n a b = (uniGo n a b).flatMap (entC a b)
  | 0, a, b, h, _, _ => by simp [uniGo, btwGo]
  | n + 1, [], [], _, _, _ => by simp [uniGo, btwGo]
  | n + 1, f :: a, [], h, ha, hb => by
    have ha0 := List.pairwise_cons.1 ha
    rw [uniGo, btwGo, List.flatMap_cons, ent_gone (by simp), btw_uni n a [] (by simp at h ⊢; omega) ha0.2 hb]
    rw [flat_cons_congr (Q := entC (f :: a) []) fun p hp => ?_]
    · rfl
    · rcases (uni_mem n a [] (by simp at h ⊢; omega) p).1 hp with ⟨x, hx, rfl⟩ | ⟨x, hx, rfl⟩
      · exact (ent_skip_a (pord_ne (ha0.1 x hx))).symm
      · simp at hx
  | n + 1, [], g :: b, h, ha, hb => by
    have hb0 := List.pairwise_cons.1 hb
    rw [uniGo, btwGo, List.flatMap_cons, ent_came (by simp), btw_uni n [] b (by simp at h ⊢; omega) ha hb0.2]
    rw [flat_cons_congr (Q := entC [] (g :: b)) fun p hp => ?_]
    · rfl
    · rcases (uni_mem n [] b (by simp at h ⊢; omega) p).1 hp with ⟨x, hx, rfl⟩ | ⟨x, hx, rfl⟩
      · simp at hx
      · exact (ent_skip_b (pord_ne (hb0.1 x hx))).symm
  | n + 1, f :: a, g :: b, h, ha, hb => by
    have ha0 := List.pairwise_cons.1 ha
    have hb0 := List.pairwise_cons.1 hb
    rw [uniGo, btwGo]
    by_cases h1 : ordL f.path.data.toList g.path.data.toList < 0
    · rw [if_pos h1, if_pos h1]
      have h1 := (ordL_lt _ _).1 h1
      have hfb : ∀ x ∈ g :: b, f.path ≠ x.path := by
        intro x hx
        rcases List.mem_cons.1 hx with rfl | hx
        · exact pord_ne h1
        · exact pord_ne (pord_trans h1 (hb0.1 x hx))
      rw [List.flatMap_cons, ent_gone (fun x hx => (hfb x hx).symm), btw_uni n a (g :: b) (by simp at h ⊢; omega) ha0.2 hb]
      rw [flat_cons_congr (Q := entC (f :: a) (g :: b)) fun p hp => ?_]
      · rfl
      · rcases (uni_mem n a (g :: b) (by simp at h ⊢; omega) p).1 hp with ⟨x, hx, rfl⟩ | ⟨x, hx, rfl⟩
        · exact (ent_skip_a (pord_ne (ha0.1 x hx))).symm
        · exact (ent_skip_a (hfb x hx)).symm
    · rw [if_neg h1, if_neg h1]
      by_cases h2 : 0 < ordL f.path.data.toList g.path.data.toList
      · rw [if_pos h2, if_pos h2]
        have h2 := (ordL_gt _ _).1 h2
        have hga : ∀ x ∈ f :: a, g.path ≠ x.path := by
          intro x hx
          rcases List.mem_cons.1 hx with rfl | hx
          · exact pord_ne h2
          · exact pord_ne (pord_trans h2 (ha0.1 x hx))
        rw [List.flatMap_cons, ent_came (fun x hx => (hga x hx).symm), btw_uni n (f :: a) b (by simp at h ⊢; omega) ha hb0.2]
        rw [flat_cons_congr (Q := entC (f :: a) (g :: b)) fun p hp => ?_]
        · rfl
        · rcases (uni_mem n (f :: a) b (by simp at h ⊢; omega) p).1 hp with ⟨x, hx, rfl⟩ | ⟨x, hx, rfl⟩
          · exact (ent_skip_b (hga x hx)).symm
          · exact (ent_skip_b (pord_ne (hb0.1 x hx))).symm
      · rw [if_neg h2, if_neg h2]
        have e := ordL_eq h1 h2
        rw [List.flatMap_cons, ent_both e, btw_uni n a b (by simp at h ⊢; omega) ha0.2 hb0.2]
        rw [flat_cons_congr (Q := entC (f :: a) (g :: b)) fun p hp => ?_]
        have : f.path ≠ p := by
          rcases (uni_mem n a b (by simp at h ⊢; omega) p).1 hp with ⟨x, hx, rfl⟩ | ⟨x, hx, rfl⟩
          · exact pord_ne (ha0.1 x hx)
          · rw [e]; exact pord_ne (hb0.1 x hx)
        rw [ent_skip_a this, ent_skip_b (e ▸ this)]

/-! ### a manifest that is right stands in the strict order -/
theorem paths_chain : ∀ (q : List UInt8) (l : List (List UInt8)), pathsGo (some q) l = 0 → (q :: l).Pairwise (fun x y => ordS x y < 0)
  | q, [], _ => by simp
  | q, s :: r, h => by
    rw [pathsGo] at h
    split at h
    · rename_i hs
      have ih := paths_chain s r h
      unfold stepE at hs
      split at hs
      · rename_i hp
        have h1 : ¬ 0 < ordL q s := fun hh => by simp [pairE, hh] at hs
        have h2 : ordL q s ≠ 0 := fun hh => by simp [pairE, hh] at hs
        have h3 : ordS q s < 0 := by
          have := sgn_ord q s
          unfold sgnI at this
          rw [if_pos (by omega)] at this
          omega
        refine List.pairwise_cons.2 ⟨fun x hx => ?_, ih⟩
        rcases List.mem_cons.1 hx with rfl | hx
        · exact h3
        · exact pord_trans (p := ⟨q.toArray⟩) (q := ⟨s.toArray⟩) (r := ⟨x.toArray⟩) (by simpa [pord] using h3) (by simpa [pord] using (List.pairwise_cons.1 ih).1 x hx) |> fun h => by simpa [pord] using h
      · rename_i hp; exact absurd hs hp
    · rename_i hs; exact absurd h hs
theorem paths_pw {l : List (List UInt8)} (h : pathsE l = 0) : l.Pairwise (fun x y => ordS x y < 0) := by
  unfold pathsE at h
  split at h
  · cases h
  · cases l with
    | nil => simp
    | cons s r =>
      rw [pathsGo] at h
      split at h
      · exact paths_chain s r h
      · rename_i hs; exact absurd h hs
theorem right_pw {l : List ItemD} (h : rightE l = 0) : l.length ≤ 256 ∧ l.Pairwise IR := by
  unfold rightE at h
  split at h
  · rename_i h0
    refine ⟨?_, ?_⟩
    · unfold pathsE at h0
      split at h0
      · cases h0
      · rename_i hn
        simp [lists, ipaths] at hn
        exact hn
    · have := paths_pw h0
      unfold lists ipaths at this
      rw [List.map_map, List.pairwise_map] at this
      exact this
  · rename_i h0; exact absurd h h0
theorem gath_ne {a b : List ItemD} (ha : a.Pairwise IR) (hb : b.Pairwise IR) : (gath a b).Pairwise (fun f g => f.path ≠ g.path) := by
  unfold gath
  rw [List.pairwise_append]
  refine ⟨?_, ?_, ?_⟩
  · rw [List.pairwise_map]
    exact ha.imp fun h => pord_ne h
  · rw [List.pairwise_map]
    exact (hb.filter _).imp fun h => pord_ne h
  · intro x hx y hy
    obtain ⟨f, hf, rfl⟩ := List.mem_map.1 hx
    obtain ⟨g, hg, rfl⟩ := List.mem_map.1 hy
    have := (List.mem_filter.1 hg).2
    rw [Option.isNone_iff_eq_none, look_none] at this
    exact this f hf
theorem refC_btw {a b : List ItemD} (h0 : rightE a = 0) (h1 : rightE b = 0) : refC a b = btwL a b := by
  obtain ⟨_, ha⟩ := right_pw h0
  obtain ⟨_, hb⟩ := right_pw h1
  have hs := fold_sort (gath a b) [] List.Pairwise.nil (gath_ne ha hb) (by simp)
  have e : sortS (gath a b) = (uniGo (a.length + b.length) a b).map pfile := by
    refine pw_ext (R := FR) (fun x => pord_irr _) (fun x y z => pord_trans) _ _ hs.1 ?_ ?_
    · rw [List.pairwise_map]
      exact uni_pw _ a b (Nat.le_refl _) ha hb
    · intro x
      rw [show x ∈ sortS (gath a b) ↔ x ∈ gath a b ∨ x ∈ [] from hs.2 x]
      simp only [List.not_mem_nil, or_false]
      unfold gath
      rw [List.mem_append, List.mem_map, List.mem_map, List.mem_map]
      constructor
      · rintro (⟨f, hf, rfl⟩ | ⟨g, hg, rfl⟩)
        · exact ⟨f.path, (uni_mem _ a b (Nat.le_refl _) _).2 (.inl ⟨f, hf, rfl⟩), rfl⟩
        · exact ⟨g.path, (uni_mem _ a b (Nat.le_refl _) _).2 (.inr ⟨g, (List.mem_filter.1 hg).1, rfl⟩), rfl⟩
      · rintro ⟨p, hp, rfl⟩
        rcases (uni_mem _ a b (Nat.le_refl _) _).1 hp with ⟨f, hf, rfl⟩ | ⟨g, hg, rfl⟩
        · exact .inl ⟨f, hf, rfl⟩
        · by_cases hl : lookI g.path a = none
          · exact .inr ⟨g, List.mem_filter.2 ⟨hg, by rw [hl]; rfl⟩, rfl⟩
          · obtain ⟨f, hf⟩ := Option.ne_none_iff_exists'.1 hl
            obtain ⟨h1, h2⟩ := look_some hf
            exact .inl ⟨f, h1, by rw [h2]⟩
  unfold refC btwL
  rw [e, btw_uni _ a b (Nat.le_refl _) ha hb, List.flatMap_map]
  rfl
end Go.Proofs.YtjhbmcgaehpadaaDoor
