/- Chapter 22: orders, plain: what is found holds; where nothing is found there is none.; Chapter 22: a history's copy without marks; whether a history may be.; Chapter 22: whether a history may be.; Chapter 22: whether a history may be (the document's).; Chapter 22: looking for an order, plain: marks do not matter; what Order answers. -/
import Derived.Test.YtakdngcgjahafaaDoorSpB
import Derived.Laws.OwnMore
/- Chapter 22: orders, plain: what is found holds; where nothing is found there is none. -/
namespace Go.Proofs.YtakdngcgjahafaaDoor
open Go.RowKit
set_option linter.unusedVariables false

open Classical in
/-- Does a log answer an event so? -/
noncomputable def tells (g : LogD) (e : EvD) : Bool :=
  if openE e then ((doP g (callOf e)).2.err == 0) else decide ((doP g (callOf e)).2 = ansOf e)
def atI (l : List EvD) (i : Int) : Option EvD := if i < 0 then none else l[i.toNat]?
noncomputable def holdsGo (st : LogD → EvD → Bool) (l : List EvD) : List Int → List Bool → LogD → Bool
  | [], d, _ => overP l d
  | i :: s, d, g => match atI l i with
    | none => false
    | some e => !(d.getD i.toNat true) && freeGo i.toNat e.asked 0 l d && st g e && holdsGo st l s (d.set i.toNat true) (doP g (callOf e)).1
def ints (o : List Nat) : List Int := o.map fun (i : Nat) => (i : Int)
theorem over_iff : ∀ (l : List EvD) (d : List Bool), overP l d = true ↔ ∀ (k : Nat) (e : EvD), l[k]? = some e → d[k]? = some false → openE e = true
  | [], d => by simp [overP]
  | e :: l, [] => by simp [overP]
  | e :: l, q :: d => by
    rw [overP, Bool.and_eq_true, over_iff l d]
    constructor
    · rintro ⟨h1, h2⟩ k x hx hq
      cases k with
      | zero =>
        simp at hx hq
        subst hx hq
        simpa using h1
      | succ k => exact h2 k x (by simpa using hx) (by simpa using hq)
    · intro h
      refine ⟨?_, fun k x hx hq => h (k + 1) x (by simpa using hx) (by simpa using hq)⟩
      cases q with
      | true => rfl
      | false => rw [h 0 e rfl rfl]; rfl
theorem free_iff (i : Nat) (a : Int) : ∀ (l : List EvD) (d : List Bool) (j : Nat), freeGo i a j l d = true ↔ ∀ (k : Nat) (e : EvD), l[k]? = some e → d[k]? = some false → j + k ≠ i → openE e = false → ¬ e.told < a
  | [], d, j => by simp [freeGo]
  | e :: l, [], j => by simp [freeGo]
  | e :: l, q :: d, j => by
    rw [freeGo, Bool.and_eq_true, free_iff i a l d (j + 1)]
    constructor
    · rintro ⟨h1, h2⟩ k x hx hq hne ho
      cases k with
      | zero =>
        simp at hx hq
        subst hx hq
        have hj : (j == i) = false := by rw [beq_eq_false_iff_ne]; omega
        rw [hj, ho] at h1
        simpa using h1
      | succ k => exact h2 k x (by simpa using hx) (by simpa using hq) (by omega) ho
    · intro h
      refine ⟨?_, fun k x hx hq hne ho => h (k + 1) x (by simpa using hx) (by simpa using hq) (by omega) ho⟩
      cases q with
      | true => rfl
      | false =>
        by_cases hj : j = i
        · subst hj; simp
        · cases ho : openE e with
          | true => simp
          | false =>
            have := h 0 e rfl rfl (by omega) ho
            simp [this]
theorem at_nat {l : List EvD} {i : Nat} : atI l (i : Int) = l[i]? := by
  unfold atI
  rw [if_neg (by omega), Int.toNat_natCast]
theorem holds_cons {st : LogD → EvD → Bool} {l : List EvD} {i : Nat} {s : List Int} {d : List Bool} {g : LogD} {e : EvD} (h : l[i]? = some e) :
    holdsGo st l ((i : Int) :: s) d g = (!(d.getD i true) && freeGo i e.asked 0 l d && st g e && holdsGo st l s (d.set i true) (doP g (callOf e)).1) := by
  rw [holdsGo, at_nat, h, Int.toNat_natCast]
theorem tries_le {rc : LogD → List Bool → Int → List Nat → FindR} (hr : ∀ g d left o, (rc g d left o).left ≤ left) (l : List EvD) (g : LogD) : ∀ (rest : List EvD) (i : Nat) (d : List Bool) (left : Int) (o : List Nat),
    (triesP rc l g i rest d left o).left ≤ left
  | [], i, d, left, o => by rw [triesP]; exact Int.le_refl _
  | e :: rest, i, d, left, o => by
    rw [triesP]
    by_cases hc : (d.getD i true || !(freeGo i e.asked 0 l d) || !(takes g e)) = true
    · rw [if_pos hc]; exact tries_le hr l g rest (i + 1) d left o
    · rw [if_neg hc]
      simp only []
      have h1 := hr (doP g (callOf e)).1 (d.set i true) left (o ++ [i])
      by_cases hk : (rc (doP g (callOf e)).1 (d.set i true) left (o ++ [i])).ok = true
      · rw [if_pos hk]; exact h1
      · rw [if_neg hk]
        exact Int.le_trans (tries_le hr l g rest (i + 1) _ _ _) h1
theorem find_le : ∀ (n : Nat) (l : List EvD) (g : LogD) (d : List Bool) (left : Int) (o : List Nat), (findP n l g d left o).left ≤ left
  | 0, l, g, d, left, o => by rw [findP]; exact Int.le_refl _
  | n + 1, l, g, d, left, o => by
    rw [findP]
    by_cases h1 : overP l d = true
    · rw [if_pos h1]; exact Int.le_refl _
    · rw [if_neg h1]
      by_cases h2 : left - 1 < 0
      · rw [if_pos h2]; show left - 1 ≤ left; omega
      · rw [if_neg h2]
        have := tries_le (find_le n l) l g l 0 d (left - 1) o
        omega
theorem getD_false {d : List Bool} {i : Nat} (h : d.getD i true = false) : d[i]? = some false := by
  rw [List.getD_eq_getElem?_getD] at h
  cases hx : d[i]? with
  | none => rw [hx] at h; cases h
  | some q => rw [hx] at h; simp at h; rw [h]
theorem tries_sound {rc : LogD → List Bool → Int → List Nat → FindR} {l : List EvD} (hv : Leaves rc)
    (hr : ∀ g d left o, (rc g d left o).ok = true → ∃ s, (rc g d left o).o = o ++ s ∧ holdsGo takes l (ints s) d g = true) (g : LogD) : ∀ (rest : List EvD) (i : Nat) (d : List Bool) (left : Int) (o : List Nat),
    rest = l.drop i → (triesP rc l g i rest d left o).ok = true → ∃ s, (triesP rc l g i rest d left o).o = o ++ s ∧ holdsGo takes l (ints s) d g = true
  | [], i, d, left, o, _, h => by rw [triesP] at h; cases h
  | e :: rest, i, d, left, o, hd, h => by
    have he : l[i]? = some e := by rw [← List.head?_drop, ← hd]; rfl
    have hd2 : rest = l.drop (i + 1) := by rw [← List.tail_drop, ← hd]; rfl
    rw [triesP] at h ⊢
    by_cases hc : (d.getD i true || !(freeGo i e.asked 0 l d) || !(takes g e)) = true
    · rw [if_pos hc] at h ⊢
      exact tries_sound hv hr g rest (i + 1) d left o hd2 h
    · rw [if_neg hc] at h ⊢
      simp only [] at h ⊢
      simp only [Bool.or_eq_true, Bool.not_eq_true', not_or, Bool.not_eq_true, Bool.not_eq_false] at hc
      obtain ⟨⟨c1, c2⟩, c3⟩ := hc
      by_cases hk : (rc (doP g (callOf e)).1 (d.set i true) left (o ++ [i])).ok = true
      · rw [if_pos hk]
        obtain ⟨s, h1, h2⟩ := hr _ _ _ _ hk
        refine ⟨i :: s, by rw [h1]; simp, ?_⟩
        show holdsGo takes l ((i : Int) :: ints s) d g = true
        rw [holds_cons he, c1, c2, c3, h2]
        rfl
      · rw [if_neg hk] at h ⊢
        obtain ⟨h1, h2⟩ := hv _ _ _ _ (by simpa using hk)
        rw [h1, h2, set_back c1, List.dropLast_concat] at h ⊢
        exact tries_sound hv hr g rest (i + 1) d _ o hd2 h
theorem find_sound : ∀ (n : Nat) (l : List EvD) (g : LogD) (d : List Bool) (left : Int) (o : List Nat), (findP n l g d left o).ok = true → ∃ s, (findP n l g d left o).o = o ++ s ∧ holdsGo takes l (ints s) d g = true
  | 0, l, g, d, left, o, h => by rw [findP] at h; cases h
  | n + 1, l, g, d, left, o, h => by
    rw [findP] at h ⊢
    by_cases h1 : overP l d = true
    · rw [if_pos h1]
      exact ⟨[], by simp, by rw [ints, List.map_nil, holdsGo]; exact h1⟩
    · rw [if_neg h1] at h ⊢
      by_cases h2 : left - 1 < 0
      · rw [if_pos h2] at h; cases h
      · rw [if_neg h2] at h ⊢
        exact tries_sound (find_leaves n l) (fun g d left o => find_sound n l g d left o) g l 0 d _ o rfl h
theorem tries_none {rc : LogD → List Bool → Int → List Nat → FindR} {l : List EvD} (hv : Leaves rc) (hle : ∀ g d left o, (rc g d left o).left ≤ left) (g : LogD) (d : List Bool)
    (hr : ∀ i e, l[i]? = some e → d[i]? = some false → ∀ left o, (rc (doP g (callOf e)).1 (d.set i true) left o).ok = false → 0 ≤ (rc (doP g (callOf e)).1 (d.set i true) left o).left → ∀ s, holdsGo takes l s (d.set i true) (doP g (callOf e)).1 = false) : ∀ (rest : List EvD) (i : Nat) (left : Int) (o : List Nat),
    rest = l.drop i → (triesP rc l g i rest d left o).ok = false → 0 ≤ (triesP rc l g i rest d left o).left → ∀ (j : Nat) (s : List Int), i ≤ j → holdsGo takes l ((j : Int) :: s) d g = false
  | [], i, left, o, hd, _, _, j, s, hij => by
    have : l[j]? = none := by
      rw [List.getElem?_eq_none_iff]
      have := congrArg List.length hd
      rw [List.length_drop] at this
      simp at this
      omega
    rw [holdsGo, at_nat, this]
  | e :: rest, i, left, o, hd, h, h0, j, s, hij => by
    have he : l[i]? = some e := by rw [← List.head?_drop, ← hd]; rfl
    have hd2 : rest = l.drop (i + 1) := by rw [← List.tail_drop, ← hd]; rfl
    rw [triesP] at h h0
    by_cases hc : (d.getD i true || !(freeGo i e.asked 0 l d) || !(takes g e)) = true
    · rw [if_pos hc] at h h0
      by_cases hj : j = i
      · subst hj
        rw [holds_cons he]
        simp only [Bool.or_eq_true, Bool.not_eq_true'] at hc
        rcases hc with (hc | hc) | hc <;> rw [hc] <;> simp
      · exact tries_none hv hle g d hr rest (i + 1) left o hd2 h h0 j s (by omega)
    · rw [if_neg hc] at h h0
      simp only [] at h h0
      simp only [Bool.or_eq_true, Bool.not_eq_true', not_or, Bool.not_eq_true, Bool.not_eq_false] at hc
      obtain ⟨⟨c1, c2⟩, c3⟩ := hc
      by_cases hk : (rc (doP g (callOf e)).1 (d.set i true) left (o ++ [i])).ok = true
      · rw [if_pos hk, hk] at h; cases h
      · have hk' : (rc (doP g (callOf e)).1 (d.set i true) left (o ++ [i])).ok = false := by simpa using hk
        rw [if_neg hk] at h h0
        obtain ⟨h1, h2⟩ := hv _ _ _ _ hk'
        rw [h1, h2, set_back c1, List.dropLast_concat] at h h0
        have hl0 : 0 ≤ (rc (doP g (callOf e)).1 (d.set i true) left (o ++ [i])).left := Int.le_trans h0 (tries_le hle l g rest (i + 1) d _ o)
        by_cases hj : j = i
        · subst hj
          rw [holds_cons he, hr j e he (getD_false c1) left _ hk' hl0 s, Bool.and_false]
        · exact tries_none hv hle g d hr rest (i + 1) _ o hd2 h h0 j s (by omega)
theorem undone_set' : ∀ {d : List Bool} {i : Nat}, d[i]? = some false → ((d.set i true).filter fun q => !q).length + 1 = (d.filter fun q => !q).length
  | [], i, h => by simp at h
  | q :: d, 0, h => by
    simp at h
    subst h
    simp
  | q :: d, i + 1, h => by
    have := undone_set' (d := d) (i := i) (by simpa using h)
    cases q <;> simp at this ⊢ <;> omega
theorem find_none : ∀ (n : Nat) (l : List EvD) (g : LogD) (d : List Bool) (left : Int) (o : List Nat), (d.filter fun q => !q).length + 1 ≤ n → (findP n l g d left o).ok = false → 0 ≤ (findP n l g d left o).left → ∀ s, holdsGo takes l s d g = false
  | 0, l, g, d, left, o, hn, h, h0, s => by omega
  | n + 1, l, g, d, left, o, hn, h, h0, s => by
    rw [findP] at h h0
    by_cases h1 : overP l d = true
    · rw [if_pos h1] at h; cases h
    · rw [if_neg h1] at h h0
      by_cases h2 : left - 1 < 0
      · rw [if_pos h2] at h0
        simp only [] at h0
        omega
      · rw [if_neg h2] at h h0
        cases s with
        | nil => rw [holdsGo]; simpa using h1
        | cons i s =>
          by_cases hi : i < 0
          · rw [holdsGo]; unfold atI; rw [if_pos hi]
          · obtain ⟨j, rfl⟩ := Int.eq_ofNat_of_zero_le (show 0 ≤ i by omega)
            refine tries_none (find_leaves n l) (find_le n l) g d ?_ l 0 (left - 1) o rfl h h0 j s (Nat.zero_le _)
            intro i e he hd left o hk hl s
            exact find_none n l _ _ left o (by have := undone_set' hd; omega) hk hl s
/-- What need not stand may be left out. -/
theorem do_still {g : LogD} {k : CallD} (h1 : k.kind ≠ 1) (h5 : k.kind ≠ 5) : (doP g k).1 = g := by
  unfold doP
  rw [if_neg h1]
  repeat' split
  all_goals first | rfl | (exfalso; omega)
def Dlike (l : List EvD) (d d' : List Bool) : Prop := d.length = d'.length ∧ (∀ k : Nat, d'[k]? = some true → d[k]? = some true) ∧ ∀ (k : Nat) (e : EvD), l[k]? = some e → openE e = false → d[k]? = d'[k]?
theorem Dlike.refl (l : List EvD) (d : List Bool) : Dlike l d d := ⟨rfl, fun _ h => h, fun _ _ _ _ => rfl⟩
theorem Dlike.over {l : List EvD} {d d' : List Bool} (h : Dlike l d d') (ho : overP l d = true) : overP l d' = true := by
  rw [over_iff] at ho ⊢
  intro k e he hd
  cases hx : openE e with
  | true => rfl
  | false => rw [← hx]; exact ho k e he ((h.2.2 k e he hx).trans hd)
theorem Dlike.free {l : List EvD} {d d' : List Bool} (h : Dlike l d d') {i : Nat} {a : Int} (ho : freeGo i a 0 l d = true) : freeGo i a 0 l d' = true := by
  rw [free_iff] at ho ⊢
  intro k e he hd hne hx
  exact ho k e he ((h.2.2 k e he hx).trans hd) hne hx
theorem Dlike.set {l : List EvD} {d d' : List Bool} (h : Dlike l d d') (i : Nat) : Dlike l (d.set i true) (d'.set i true) := by
  refine ⟨by rw [List.length_set, List.length_set]; exact h.1, fun k hk => ?_, fun k e he hx => ?_⟩
  · rw [List.getElem?_set] at hk ⊢
    by_cases hki : i = k
    · rw [if_pos hki] at hk ⊢; rw [h.1]; exact hk
    · rw [if_neg hki] at hk ⊢; exact h.2.1 k hk
  · rw [List.getElem?_set, List.getElem?_set, h.1, h.2.2 k e he hx]
theorem Dlike.skip {l : List EvD} {d d' : List Bool} (h : Dlike l d d') {i : Nat} {e : EvD} (he : l[i]? = some e) (hx : openE e = true) : Dlike l (d.set i true) d' := by
  refine ⟨by rw [List.length_set]; exact h.1, fun k hk => ?_, fun k e' he' hx' => ?_⟩
  · rw [List.getElem?_set]
    have h1 := h.2.1 k hk
    by_cases hki : i = k
    · subst hki
      have : i < d.length := by
        rcases Nat.lt_or_ge i d.length with h | h
        · exact h
        · rw [List.getElem?_eq_none h] at h1; cases h1
      rw [if_pos rfl, if_pos this]
    · rw [if_neg hki]; exact h1
  · rw [List.getElem?_set]
    by_cases hki : i = k
    · subst hki
      rw [he] at he'
      injection he' with he'
      subst he'
      rw [hx] at hx'; cases hx'
    · rw [if_neg hki]; exact h.2.2 k e' he' hx'
theorem Dlike.getD {l : List EvD} {d d' : List Bool} (h : Dlike l d d') {i : Nat} (hd : d.getD i true = false) : d'.getD i true = false := by
  have h1 := getD_false hd
  have hl : i < d'.length := by
    rcases Nat.lt_or_ge i d'.length with h' | h'
    · exact h'
    · rw [List.getElem?_eq_none (by rw [h.1]; exact h')] at h1; cases h1
  rw [List.getD_eq_getElem?_getD, List.getElem?_eq_getElem hl]
  cases hq : d'[i] with
  | false => rfl
  | true =>
    have := h.2.1 i (by rw [List.getElem?_eq_getElem hl, hq])
    rw [this] at h1; cases h1
theorem takes_of_tells {g : LogD} {e : EvD} (h : tells g e = true) (hc : openE e = true → e.kind = 1 ∨ e.kind = 5) : takes g e = true := by
  unfold tells at h
  unfold takes
  cases hx : openE e with
  | true =>
    rw [hx] at h hc
    rw [if_pos rfl] at h ⊢
    rw [h]
    rcases hc rfl with h | h <;> rw [h] <;> rfl
  | false =>
    rw [hx] at h
    rw [if_neg Bool.false_ne_true] at h ⊢
    exact h
theorem tells_of_takes {g : LogD} {e : EvD} (h : takes g e = true) : tells g e = true := by
  unfold takes at h
  unfold tells
  cases hx : openE e with
  | true =>
    rw [hx] at h
    rw [if_pos rfl] at h ⊢
    rw [Bool.and_eq_true] at h
    exact h.2
  | false =>
    rw [hx] at h
    rw [if_neg Bool.false_ne_true] at h ⊢
    exact h
theorem holds_takes (l : List EvD) : ∀ (s : List Int) (d d' : List Bool) (g : LogD), Dlike l d d' → holdsGo tells l s d g = true → ∃ s', holdsGo takes l s' d' g = true
  | [], d, d', g, hd, h => ⟨[], by rw [holdsGo] at h ⊢; exact hd.over h⟩
  | i :: s, d, d', g, hd, h => by
    rw [holdsGo] at h
    by_cases hi : i < 0
    · unfold atI at h; rw [if_pos hi] at h; cases h
    · obtain ⟨j, rfl⟩ := Int.eq_ofNat_of_zero_le (show 0 ≤ i by omega)
      rw [at_nat] at h
      cases he : l[j]? with
      | none => rw [he] at h; cases h
      | some e =>
        rw [he, Int.toNat_natCast] at h
        simp only [Bool.and_eq_true, Bool.not_eq_true'] at h
        obtain ⟨⟨⟨h1, h2⟩, h3⟩, h4⟩ := h
        by_cases hx : openE e = true ∧ ¬ (e.kind = 1 ∨ e.kind = 5)
        · rw [do_still (fun h => hx.2 (.inl h)) (fun h => hx.2 (.inr h))] at h4
          exact holds_takes l s _ d' g (hd.skip he hx.1) h4
        · obtain ⟨s', hs⟩ := holds_takes l s _ _ _ (hd.set j) h4
          refine ⟨(j : Int) :: s', ?_⟩
          rw [holds_cons he, hd.getD h1, hd.free h2, takes_of_tells h3 (fun h => Classical.byContradiction fun hn => hx ⟨h, hn⟩), hs]
          rfl
theorem holds_tells (l : List EvD) : ∀ (s : List Int) (d : List Bool) (g : LogD), holdsGo takes l s d g = true → holdsGo tells l s d g = true
  | [], d, g, h => h
  | i :: s, d, g, h => by
    rw [holdsGo] at h ⊢
    cases he : atI l i with
    | none => rw [he] at h; cases h
    | some e =>
      rw [he] at h
      simp only [Bool.and_eq_true, Bool.not_eq_true'] at h ⊢
      obtain ⟨⟨⟨h1, h2⟩, h3⟩, h4⟩ := h
      exact ⟨⟨⟨h1, h2⟩, tells_of_takes h3⟩, holds_tells l s _ _ h4⟩
end Go.Proofs.YtakdngcgjahafaaDoor
/- Chapter 22: a history's copy without marks; whether a history may be. -/
namespace Go.Proofs.YtakdngcgjahafaaDoor
open Go.RowKit
set_option linter.unusedVariables false

theorem infoEv : (Tryd.prog.info? 54).map (fun i => (i.zero, i.size, i.bytes)) = some (some (.agg #[.int .i64 0, .int .i64 0, .int .i64 0, .int .i64 0, .slice none 0 0, .int .i64 0, .int .i64 0, .int .i64 0, .slice none 0 0, .slice none 0 0]), 10, 128) := by kernel_rfl
theorem ecells_one (l : List EvD) : ∀ u ∈ ecells l, u.oneCell' = true := by
  intro u hu
  unfold ecells at hu
  obtain ⟨r, hr, hu⟩ := List.mem_flatten.1 hu
  obtain ⟨e, _, rfl⟩ := List.mem_map.1 hr
  unfold ecell at hu
  simp at hu
  rcases hu with rfl | rfl | rfl | rfl | rfl | rfl | rfl | rfl | rfl | rfl <;> rfl
theorem ev_zero : (Value.agg #[.int .i64 0, .int .i64 0, .int .i64 0, .int .i64 0, .slice none 0 0, .int .i64 0, .int .i64 0, .int .i64 0, .slice none 0 0, .slice none 0 0]).cells.size = 10 := rfl
set_option maxHeartbeats 1000000 in
set_option maxRecDepth 100000 in
theorem clone_ev (A : Option Addr) (c : Nat) (L : List EvD) (w : World) (hl : L.length ≤ 1048576) (ha : Arr w w.heap.size 10 A L.length (ecells L)) :
    Calls Tryd.prog 60 #[.slice A L.length c] w fun e w' => ∃ v, e = .returned v ∧ w'.ownsRow w.heap.size 54 10 v L.length (ecells L) ∧ Below w.heap.size w w' := by
  obtain ⟨i0, hi0, hz0, hz1, hz2⟩ := info_parts infoEv
  have HA := Lib.hid ha
  have q23 : ∀ (w : World) (a : Option Addr) (n c n' c' : Nat), (binOp .eql 43 (.slice a n c) (.slice none n' c')).run Tryd.prog w = .ok (.bool a.isNone) w := fun w a n c n' c' => Lib.run_eql_slice_nil w _ _ a n c n' c' Tryd.underlying43
  have hown : (w.alloc (.cells #[] 54)).ownsRow w.heap.size 54 10 (.slice (some ⟨w.heap.size, 0, none⟩) 0 0) 0 [] := World.ownsRow_lit w #[] 0 (Nat.le_refl _) (by simp [maxLen]) (by simp)
  have hB : Below w.heap.size w (w.alloc (.cells #[] 54)) := (Below.refl _ _).alloc (Nat.le_refl _) _
  have hone := Lib.hid (ecells_one L)
  clear ha
  cases A with
  | none =>
    have hl0 : L = [] := by
      have h := HA.out.2
      rcases Nat.eq_zero_or_pos L.length with h0 | h0
      · exact List.eq_nil_of_length_eq_zero h0
      · obtain ⟨b, o, e, _⟩ := h h0
        cases e
    subst hl0
    clear HA
    go_enter Tryd.func60, Tryd.ntmps60
    go_wp2
    go_ret
    exact ⟨_, rfl, World.ownsRow_nil _ _ _ _, Below.refl _ _⟩
  | some ad =>
    go_enter Tryd.func60, Tryd.ntmps60
    go_wp2_with (at_builtin; refine wpList_append_arr _ rfl _ _ 43 rfl Tryd.underlying43 hi0 hz0 hz1 hz2 ev_zero (by decide) hown rfl rfl (HA.out.below hB) hone.out (by rw [Nat.zero_add]; unfold maxLen; omega) (by rw [Nat.zero_add]; omega) hB.size ?_; intro v' w' hown' hgr' hat')
    go_ret
    exact ⟨_, rfl, by simpa using hown', hB.grown hgr' (by simp) (fun k hk => by simp [Value.ownBlock] at hk; omega)⟩
def noM (e : EvD) : EvD := { e with mA := none, mN := 0, mC := 0 }
theorem noM_len (l : List EvD) : (l.map noM).length = l.length := by rw [List.length_map]
theorem ecells_app (l m : List EvD) : ecells (l ++ m) = ecells l ++ ecells m := by unfold ecells; rw [List.map_append, List.flatten_append]
theorem mid_len (l : List EvD) {k : Nat} (hk : k ≤ l.length) : ((l.take k).map noM ++ l.drop k).length = l.length := by simp; omega
theorem unmark_step {l : List EvD} {k : Nat} {e : EvD} (h : l[k]? = some e) : (ecells ((l.take k).map noM ++ l.drop k)).set (k * 10 + 9) (.slice none 0 0) = ecells ((l.take (k + 1)).map noM ++ l.drop (k + 1)) := by
  have hk : k < l.length := by
    rcases Nat.lt_or_ge k l.length with h' | h'
    · exact h'
    · rw [List.getElem?_eq_none h'] at h; cases h
  rw [drop_head h, List.take_add_one, h, Option.toList_some, List.map_append, List.append_assoc, ecells_app, ecells_app]
  have hl : (ecells ((l.take k).map noM)).length = k * 10 := by rw [ecells_len, List.length_map, List.length_take]; congr 1; omega
  rw [List.set_append_right _ _ (by omega), hl, show k * 10 + 9 - k * 10 = 9 by omega]
  congr 1
set_option maxHeartbeats 2000000 in
set_option maxRecDepth 100000 in
theorem unmark_any (A : Option Addr) (c : Nat) (L : List EvD) (w : World) (hl : L.length ≤ 1048576) (ha : Arr w w.heap.size 10 A L.length (ecells L)) :
    Calls Tryd.prog 40 #[.slice A L.length c] w fun e w' => ∃ v, e = .returned v ∧ w'.ownsRow w.heap.size 54 10 v L.length (ecells (L.map noM)) ∧ Below w.heap.size w w' := by
  have CL := Lib.hid (clone_ev A c L w hl ha)
  clear ha
  have hl0 : Hid (L.length = 0 → L = []) := Lib.hid List.eq_nil_of_length_eq_zero
  go_enter Tryd.func40, Tryd.ntmps40
  go_wp2_with (go_at_call 60; (with_reducible refine (CL.out).mono ?_); rintro e w1 ⟨v, rfl, hown, hb1⟩; obtain ⟨A1, c1, rfl, hcap1, _, _⟩ := own_arr hown; have HO := Lib.hid hown)
  go_loopw [9] (fun v wr => ∃ k : Nat, k ≤ L.length ∧ v = .int .i64 k ∧ Hid (wr.ownsRow w.heap.size 54 10 (.slice A1 L.length c1) L.length (ecells ((L.take k).map noM ++ L.drop k))) ∧ Below w.heap.size w wr) (fun v _ => L.length - (intOf v).toNat)
  case atStart => exact ⟨0, Nat.zero_le _, rfl, Lib.hid (by simpa using hown), hb1⟩
  case round =>
    obtain ⟨k, hk, rfl, HK, hB⟩ := hrel
    by_cases hlt : k < L.length
    · obtain ⟨e, he⟩ : ∃ e, L[k]? = some e := ⟨_, List.getElem?_eq_getElem hlt⟩
      have kl : (k : Int) < L.length := by omega
      have hown2 := HK.out
      obtain ⟨g, cg, hA1, hgb, _⟩ := hown2.form (by omega)
      injection hA1 with hA1 _ hc1
      subst hA1 hc1
      obtain ⟨s1, s2⟩ := hown2.stored (k * 10 + 9) (.slice none 0 0)
      have hgl := (hown2.lt g rfl).1
      have hfz := hown2.frozenAt (k * 10 + 9)
      obtain ⟨x, hx⟩ : ∃ x, ((L.take k).map noM ++ L.drop k)[k]? = some x := ⟨_, List.getElem?_eq_getElem (by rw [mid_len L hk]; omega)⟩
      have hce := hown2.cellAt (k * 10 + 9) (by omega)
      rw [ecell_get hx (by omega)] at hce
      rw [unmark_step he] at s1
      have S1 := Lib.hid s1
      have hB2 := Lib.hid (hB.grown s2 hB.size (fun j hj => by injection hj with hj; omega))
      have hce2 : wr.cell? ⟨g, k * 10 + 9, none⟩ = some (.slice x.mA x.mN x.mC) := hce
      clear s1 s2 hown2 HK hce he hx
      go_wp2
      go_roundw
      case rel => exact ⟨k + 1, by omega, by go_num, S1, hB2.out⟩
      case measure => simp [intOf] <;> omega
    · have hkl : k = L.length := by omega
      have H := HK.out
      rw [hkl, List.take_length, List.drop_length, List.append_nil] at H
      have kl : ¬ (k : Int) < L.length := by omega
      clear HK
      go_wp2
      go_ret
      exact ⟨_, rfl, H, hB⟩
end Go.Proofs.YtakdngcgjahafaaDoor
/- Chapter 22: whether a history may be. -/
namespace Go.Proofs.YtakdngcgjahafaaDoor
open Go.RowKit
set_option linter.unusedVariables false

def goodE (e : EvD) : Bool := !(decide (e.asked < 1)) && !(decide (e.told < 0)) && !(decide (0 < e.told) && decide (e.told < e.asked))
def rightP (l : List EvD) : Bool := decide (l.length ≤ 256) && l.all goodE
set_option maxHeartbeats 4000000 in
set_option maxRecDepth 100000 in
theorem evs_right (A : Option Addr) (c : Nat) (L : List EvD) (w : World) (hl : L.length ≤ 9223372036854775807) (ha : Arr w w.heap.size 10 A L.length (ecells L)) :
    Calls Tryd.prog 28 #[.slice A L.length c] w fun x w' => x = .returned (.bool (rightP L)) ∧ Below w.heap.size w w' := by
  by_cases hbig : 256 < L.length
  · have kl : (256 : Int) < L.length := by omega
    rw [show rightP L = false by unfold rightP; rw [decide_eq_false (by omega)]; rfl]
    clear ha
    go_enter Tryd.func28, Tryd.ntmps28
    go_wp2
    go_ret
    exact ⟨rfl, Below.refl _ _⟩
  · obtain ⟨R, hR⟩ : ∃ R, R = L.all goodE := ⟨_, rfl⟩
    rw [show rightP L = R by unfold rightP; rw [decide_eq_true (by omega), hR]; rfl]
    have HR : Hid ((L.drop 0).all goodE = R) := Lib.hid (by rw [hR]; rfl)
    have kb : ¬ (256 : Int) < L.length := by omega
    have HA := Lib.hid ha
    clear hR ha
    go_enter Tryd.func28, Tryd.ntmps28
    go_wp2
    go_loopw [10] (fun v wr => ∃ k : Nat, k ≤ L.length ∧ v = .int .i64 k ∧ Hid ((L.drop k).all goodE = R) ∧ Below w.heap.size w wr) (fun v _ => L.length - (intOf v).toNat)
    case atStart => exact ⟨0, Nat.zero_le _, rfl, HR, Below.refl _ _⟩
    case round =>
      obtain ⟨k, hk, rfl, HK, hB⟩ := hrel
      by_cases hlt : k < L.length
      · obtain ⟨e, he⟩ : ∃ e, L[k]? = some e := ⟨_, List.getElem?_eq_getElem hlt⟩
        have kl : (k : Int) < L.length := by omega
        obtain ⟨b1, o1, rfl, hb1, hcell⟩ := HA.out.2 (by omega)
        obtain ⟨c0, c1, c2, c3, c4, c5, c6, c7, c8, c9⟩ := ev_cells (fun i u h => (hB.cell (p := ⟨b1, o1 + i, none⟩) hb1).trans (hcell i u h)) he
        have H := HK.out
        rw [drop_head he, List.all_cons] at H
        have hB1 : Below w.heap.size w (wr.alloc (.cells #[Value.int .i64 e.asked, .int .i64 e.told, .int .i64 e.kind, .int .i64 e.gen, .slice e.fA e.files.length e.fC, .int .i64 e.err, .int .i64 e.agen, .int .i64 e.floor, .slice e.aA e.afiles.length e.aC, .slice e.mA e.mN e.mC] 54)) := hB.alloc hB.size _
        clear he hcell HK
        by_cases h1 : e.asked < 1
        · have HST := Lib.hid (show false = R by rw [← H]; simp [goodE, h1])
          clear H
          go_wp2
          go_ret
          exact ⟨by rw [← HST.out]; rfl, hB1⟩
        · by_cases h2 : e.told < 0
          · have HST := Lib.hid (show false = R by rw [← H]; simp [goodE, h2])
            clear H
            go_wp2
            go_ret
            exact ⟨by rw [← HST.out]; rfl, hB1⟩
          · by_cases h3 : 0 < e.told
            · by_cases h4 : e.told < e.asked
              · have HST := Lib.hid (show false = R by rw [← H]; simp [goodE, h3, h4])
                clear H
                go_wp2
                go_ret
                exact ⟨by rw [← HST.out]; rfl, hB1⟩
              · have HST := Lib.hid (show (L.drop (k + 1)).all goodE = R by rw [← H]; simp [goodE, h1, h2, h4])
                clear H
                go_wp2
                go_roundw
                case rel => exact ⟨k + 1, by omega, by go_num, HST, hB1⟩
                case measure => simp [intOf] <;> omega
            · have HST := Lib.hid (show (L.drop (k + 1)).all goodE = R by rw [← H]; simp [goodE, h1, h2, h3])
              clear H
              go_wp2
              go_roundw
              case rel => exact ⟨k + 1, by omega, by go_num, HST, hB1⟩
              case measure => simp [intOf] <;> omega
      · have H := HK.out
        rw [List.drop_eq_nil_of_le (by omega : L.length ≤ k)] at H
        have HST := Lib.hid (show true = R by rw [← H]; rfl)
        clear H HK
        have kl : ¬ (k : Int) < L.length := by omega
        go_wp2
        go_ret
        exact ⟨by rw [← HST.out]; rfl, hB⟩
end Go.Proofs.YtakdngcgjahafaaDoor
/- Chapter 22: whether a history may be (the document's). -/
namespace Go.Proofs.YtakdngcgjahafaaDoor
open Go.RowKit
set_option linter.unusedVariables false

set_option maxHeartbeats 4000000 in
set_option maxRecDepth 100000 in
theorem evs_right_ref (A : Option Addr) (c : Nat) (L : List EvD) (w : World) (hl : L.length ≤ 9223372036854775807) (ha : Arr w w.heap.size 10 A L.length (ecells L)) :
    Calls Tryd.prog 21 #[.slice A L.length c] w fun x w' => x = .returned (.bool (rightP L)) ∧ Below w.heap.size w w' := by
  obtain ⟨R, hR⟩ : ∃ R, R = L.all goodE := ⟨_, rfl⟩
  obtain ⟨T, hT⟩ : ∃ T, T = rightP L := ⟨_, rfl⟩
  have HT : Hid (T = (decide (L.length ≤ 256) && R)) := Lib.hid (by rw [hT, hR]; rfl)
  rw [← hT]
  have HR : Hid ((L.drop 0).all goodE = R) := Lib.hid (by rw [hR]; rfl)
  have HA := Lib.hid ha
  clear hR ha hT
  go_enter Tryd.func21, Tryd.ntmps21
  go_wp2
  go_loopw [3] (fun v wr => ∃ k : Nat, k ≤ L.length ∧ v = .int .i64 k ∧ Hid ((L.drop k).all goodE = R) ∧ Below w.heap.size w wr) (fun v _ => L.length - (intOf v).toNat)
  case atStart => exact ⟨0, Nat.zero_le _, rfl, HR, Below.refl _ _⟩
  case round =>
    obtain ⟨k, hk, rfl, HK, hB⟩ := hrel
    by_cases hlt : k < L.length
    · obtain ⟨e, he⟩ : ∃ e, L[k]? = some e := ⟨_, List.getElem?_eq_getElem hlt⟩
      have kl : (k : Int) < L.length := by omega
      obtain ⟨b1, o1, rfl, hb1, hcell⟩ := HA.out.2 (by omega)
      obtain ⟨c0, c1, c2, c3, c4, c5, c6, c7, c8, c9⟩ := ev_cells (fun i u h => (hB.cell (p := ⟨b1, o1 + i, none⟩) hb1).trans (hcell i u h)) he
      have H := HK.out
      rw [drop_head he, List.all_cons] at H
      clear he hcell HK
      by_cases h1 : e.asked < 1
      · have HST := Lib.hid (show false = R by rw [← H]; simp [goodE, h1])
        clear H
        go_wp2
        go_quiet (fail)
        go_wp2
        go_ret
        exact ⟨by rw [HT.out, ← HST.out, Bool.and_false]; rfl, drewb hB⟩
      · have d1 : decide (e.asked < 1) = false := decide_eq_false h1
        by_cases h2 : e.told < 0
        · have HST := Lib.hid (show false = R by rw [← H]; simp [goodE, h2])
          clear H
          go_wp2
          go_quiet (fail)
          go_wp2
          go_ret
          exact ⟨by rw [HT.out, ← HST.out, Bool.and_false]; rfl, drewb hB⟩
        · have d2 : decide (e.told < 0) = false := decide_eq_false h2
          by_cases h3 : 0 < e.told
          · by_cases h4 : e.told < e.asked
            · have HST := Lib.hid (show false = R by rw [← H]; simp [goodE, h3, h4])
              clear H
              go_wp2
              go_quiet (fail)
              go_wp2
              go_ret
              exact ⟨by rw [HT.out, ← HST.out, Bool.and_false]; rfl, drewb hB⟩
            · have d4 : decide (e.told < e.asked) = false := decide_eq_false h4
              have HST := Lib.hid (show (L.drop (k + 1)).all goodE = R by rw [← H]; simp [goodE, h1, h2, h4])
              clear H
              go_wp2
              go_quiet (fail)
              go_wp2
              go_roundw
              case rel => exact ⟨k + 1, by omega, by go_num, HST, drewb hB⟩
              case measure => simp [intOf] <;> omega
          · have d3 : decide (0 < e.told) = false := decide_eq_false h3
            have HST := Lib.hid (show (L.drop (k + 1)).all goodE = R by rw [← H]; simp [goodE, h1, h2, h3])
            clear H
            go_wp2
            go_quiet (fail)
            go_wp2
            go_roundw
            case rel => exact ⟨k + 1, by omega, by go_num, HST, drewb hB⟩
            case measure => simp [intOf] <;> omega
    · have H := HK.out
      rw [List.drop_eq_nil_of_le (by omega : L.length ≤ k)] at H
      have HST := Lib.hid (show true = R by rw [← H]; rfl)
      clear H HK
      have kl : ¬ (k : Int) < L.length := by omega
      by_cases hbig : L.length ≤ 256
      · have kb : (L.length : Int) ≤ 256 := by omega
        go_wp2
        go_ret
        exact ⟨by rw [HT.out, ← HST.out, decide_eq_true hbig]; rfl, hB⟩
      · have kb : ¬ (L.length : Int) ≤ 256 := by omega
        go_wp2
        go_ret
        exact ⟨by rw [HT.out, decide_eq_false hbig]; rfl, hB⟩
end Go.Proofs.YtakdngcgjahafaaDoor
/- Chapter 22: looking for an order, plain: marks do not matter; what Order answers. -/
namespace Go.Proofs.YtakdngcgjahafaaDoor
open Go.RowKit
set_option linter.unusedVariables false

theorem over_noM : ∀ (l : List EvD) (d : List Bool), overP (l.map noM) d = overP l d
  | [], _ => by simp [overP]
  | e :: l, [] => by simp [overP]
  | e :: l, q :: d => by
    rw [List.map_cons, overP, overP, over_noM l d]
    rfl
theorem freeGo_noM (i : Nat) (a : Int) : ∀ (l : List EvD) (d : List Bool) (k : Nat), freeGo i a k (l.map noM) d = freeGo i a k l d
  | [], _, _ => by simp [freeGo]
  | e :: l, [], _ => by simp [freeGo]
  | e :: l, q :: d, k => by
    rw [List.map_cons, freeGo, freeGo, freeGo_noM i a l d (k + 1)]
    rfl
theorem takes_noM (g : LogD) (e : EvD) : takes g (noM e) = takes g e := rfl
theorem tells_noM (g : LogD) (e : EvD) : tells g (noM e) = tells g e := rfl
theorem tries_noM (rc : LogD → List Bool → Int → List Nat → FindR) (l : List EvD) (g : LogD) : ∀ (rest : List EvD) (i : Nat) (d : List Bool) (left : Int) (o : List Nat),
    triesP rc (l.map noM) g i (rest.map noM) d left o = triesP rc l g i rest d left o
  | [], _, _, _, _ => rfl
  | e :: rest, i, d, left, o => by
    rw [List.map_cons, triesP, triesP, freeGo_noM, takes_noM, tries_noM rc l g rest (i + 1) d left o]
    have h : ∀ (d' : List Bool) (left' : Int) (o' : List Nat), triesP rc (l.map noM) g (i + 1) (rest.map noM) d' left' o' = triesP rc l g (i + 1) rest d' left' o' := fun d' left' o' => tries_noM rc l g rest (i + 1) d' left' o'
    simp only [h]
    rfl
theorem find_noM : ∀ (n : Nat) (l : List EvD), findP n (l.map noM) = findP n l
  | 0, l => by funext g d left o; rfl
  | n + 1, l => by
    funext g d left o
    rw [findP, findP, over_noM, find_noM n l, tries_noM]
noncomputable def orderP (l : List EvD) (steps : Int) : Int × List Nat :=
  if rightP l = false ∨ steps < 0 then (1, [])
  else if (findP 257 l ⟨0, []⟩ (List.replicate l.length false) steps []).ok then (0, (findP 257 l ⟨0, []⟩ (List.replicate l.length false) steps []).o)
  else if (findP 257 l ⟨0, []⟩ (List.replicate l.length false) steps []).left < 0 then (7, []) else (8, [])
noncomputable def holdsP (l : List EvD) (s : List Int) : Bool := rightP l && holdsGo tells l s (List.replicate l.length false) ⟨0, []⟩
theorem undone_rep (n : Nat) : ((List.replicate n false).filter fun q => !q).length = n := by
  rw [List.filter_replicate_of_pos (by rfl), List.length_replicate]
theorem right_len {l : List EvD} (h : rightP l = true) : l.length ≤ 256 := by
  unfold rightP at h
  rw [Bool.and_eq_true] at h
  exact of_decide_eq_true h.1
theorem order_ok {l : List EvD} {steps : Int} (h : (orderP l steps).1 = 0) : rightP l = true ∧ 0 ≤ steps ∧ holdsGo takes l (ints (orderP l steps).2) (List.replicate l.length false) ⟨0, []⟩ = true := by
  unfold orderP at h ⊢
  by_cases h1 : rightP l = false ∨ steps < 0
  · rw [if_pos h1] at h; cases h
  · rw [if_neg h1] at h ⊢
    by_cases h2 : (findP 257 l ⟨0, []⟩ (List.replicate l.length false) steps []).ok = true
    · rw [if_pos h2]
      obtain ⟨s, e, hs⟩ := find_sound _ _ _ _ _ _ h2
      rw [List.nil_append] at e
      refine ⟨?_, by omega, by rw [e]; exact hs⟩
      cases hr : rightP l
      · exact absurd (.inl hr) h1
      · rfl
    · rw [if_neg h2] at h
      by_cases h3 : (findP 257 l ⟨0, []⟩ (List.replicate l.length false) steps []).left < 0
      · rw [if_pos h3] at h; cases h
      · rw [if_neg h3] at h; cases h
theorem order_holds {l : List EvD} {steps : Int} (h : (orderP l steps).1 = 0) : holdsP l (ints (orderP l steps).2) = true := by
  obtain ⟨h1, _, h3⟩ := order_ok h
  unfold holdsP
  rw [h1, holds_tells _ _ _ _ h3]
  rfl
theorem order_err {l : List EvD} {steps : Int} (h : (orderP l steps).1 ≠ 0) : (orderP l steps).2 = [] := by
  unfold orderP at h ⊢
  by_cases h1 : rightP l = false ∨ steps < 0
  · rw [if_pos h1]
  · rw [if_neg h1] at h ⊢
    by_cases h2 : (findP 257 l ⟨0, []⟩ (List.replicate l.length false) steps []).ok = true
    · rw [if_pos h2] at h
      exact absurd rfl h
    · rw [if_neg h2]
      by_cases h3 : (findP 257 l ⟨0, []⟩ (List.replicate l.length false) steps []).left < 0
      · rw [if_pos h3]
      · rw [if_neg h3]
theorem order_err1 {l : List EvD} {steps : Int} : (orderP l steps).1 = 1 ↔ (rightP l = false ∨ steps < 0) := by
  unfold orderP
  by_cases h1 : rightP l = false ∨ steps < 0
  · rw [if_pos h1]; exact ⟨fun _ => h1, fun _ => rfl⟩
  · rw [if_neg h1]
    refine ⟨fun h => ?_, fun h => absurd h h1⟩
    by_cases h2 : (findP 257 l ⟨0, []⟩ (List.replicate l.length false) steps []).ok = true
    · rw [if_pos h2] at h; cases h
    · rw [if_neg h2] at h
      by_cases h3 : (findP 257 l ⟨0, []⟩ (List.replicate l.length false) steps []).left < 0
      · rw [if_pos h3] at h; cases h
      · rw [if_neg h3] at h; cases h
theorem order_is {l : List EvD} {steps : Int} : (orderP l steps).1 = 0 ∨ (orderP l steps).1 = 1 ∨ (orderP l steps).1 = 7 ∨ (orderP l steps).1 = 8 := by
  unfold orderP
  repeat' split
  all_goals simp
theorem order_none {l : List EvD} {steps : Int} (h : (orderP l steps).1 = 8) : ∀ s, holdsGo tells l s (List.replicate l.length false) ⟨0, []⟩ = false := by
  have hr : rightP l = true := by
    cases hr : rightP l with
    | true => rfl
    | false =>
      have := order_err1.2 (.inl hr : rightP l = false ∨ steps < 0)
      rw [this] at h; cases h
  intro s
  cases hs : holdsGo tells l s (List.replicate l.length false) ⟨0, []⟩ with
  | false => rfl
  | true =>
    exfalso
    obtain ⟨s', hs'⟩ := holds_takes l s _ _ _ (Dlike.refl _ _) hs
    unfold orderP at h
    by_cases h1 : rightP l = false ∨ steps < 0
    · rw [if_pos h1] at h; cases h
    · rw [if_neg h1] at h
      by_cases h2 : (findP 257 l ⟨0, []⟩ (List.replicate l.length false) steps []).ok = true
      · rw [if_pos h2] at h; cases h
      · rw [if_neg h2] at h
        by_cases h3 : (findP 257 l ⟨0, []⟩ (List.replicate l.length false) steps []).left < 0
        · rw [if_pos h3] at h; cases h
        · have := find_none 257 l ⟨0, []⟩ (List.replicate l.length false) steps [] (by rw [undone_rep]; have := right_len hr; omega) (by simpa using h2) (by omega) s'
          rw [this] at hs'; cases hs'
end Go.Proofs.YtakdngcgjahafaaDoor
