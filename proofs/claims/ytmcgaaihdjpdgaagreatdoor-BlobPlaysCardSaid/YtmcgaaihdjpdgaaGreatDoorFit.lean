/- Patterns, as tables tell them: row by row from the front, or from behind; what a tree's files are told, as plain data. -/
import Derived.Test.YtmcgaaihdjpdgaaGreatDoorTreePlain2
import Derived.Test.YtmcgaaihdjpdgaaGreatDoorLiftRecs
namespace Go.Proofs.YtmcgaaihdjpdgaaGreatDoor
open Go.RowKit
set_option linter.unusedVariables false

section
variable {α β : Type} (star : α → Bool) (one : α → β → Bool)
def anyTail (f : List β → Bool) : List β → Bool
  | [] => f []
  | x :: r => f (x :: r) || anyTail f r
def headIs (g : β → List β → Bool) : List β → Bool
  | [] => false
  | x :: r => g x r
def fitB : List α → List β → Bool
  | [], s => s.isEmpty
  | a :: p, s => if star a then anyTail (fitB p) s else headIs (fun x r => one a x && fitB p r) s
theorem fitB_iff : ∀ (p : List α) (s : List β), fitB star one p s = true ↔ Fit star one p s
  | [], s => by simp [fitB, Fit]
  | a :: p, s => by
    rw [fitB]
    cases ha : star a
    · rw [if_neg (by simp), fit_cons star one ha]
      cases s with
      | nil => simp [headIs]
      | cons x r =>
        rw [headIs, Bool.and_eq_true, fitB_iff p r]
        constructor
        · intro h; exact ⟨x, r, rfl, h.1, h.2⟩
        · rintro ⟨x', r', he, h1, h2⟩
          injection he with e1 e2
          subst e1; subst e2
          exact ⟨h1, h2⟩
    · rw [if_pos rfl]
      induction s with
      | nil =>
        rw [fit_star star one ha, anyTail, fitB_iff p []]
        simp
      | cons x r ih =>
        rw [fit_star star one ha, anyTail, Bool.or_eq_true, fitB_iff p (x :: r), ih]
        constructor
        · rintro (h | h)
          · exact .inl h
          · exact .inr ⟨x, r, rfl, h⟩
        · rintro (h | ⟨x', r', he, h⟩)
          · exact .inl h
          · injection he with e1 e2; subst e1; subst e2; exact .inr h
theorem take_snoc {γ : Type} {l : List γ} {k : Nat} {a : γ} (h : l[k]? = some a) : l.take (k + 1) = l.take k ++ [a] := by rw [List.take_add_one, h]; rfl
theorem drop_head {γ : Type} {l : List γ} {k : Nat} {a : γ} (h : l[k]? = some a) : l.drop k = a :: l.drop (k + 1) := by
  obtain ⟨hk, e⟩ := List.getElem?_eq_some_iff.1 h
  rw [List.drop_eq_getElem_cons hk, e]
variable {p : List α} {s : List β} {a : α} {x : β} {i k : Nat}
/-! from the front: k of the pattern, i of what is told -/
theorem front_zero (hi : i ≤ s.length) : fitB star one (p.take 0) (s.take i) = decide (i = 0) := by
  rw [List.take_zero, fitB]
  cases i with
  | zero => simp
  | succ i =>
    have : (s.take (i + 1)).isEmpty = false := by
      rw [List.isEmpty_eq_false_iff]
      intro h
      have := congrArg List.length h
      rw [List.length_take, List.length_nil] at this
      omega
    rw [this]
    simp
theorem front_star0 (hp : p[k]? = some a) (ha : star a = true) : fitB star one (p.take (k + 1)) (s.take 0) = fitB star one (p.take k) (s.take 0) := by
  rw [Bool.eq_iff_iff, fitB_iff, fitB_iff, take_snoc hp, fit_star_end star one ha]
  constructor
  · rintro (h | ⟨y, r, he, h⟩)
    · exact h
    · simp at he
  · exact .inl
theorem front_star (hp : p[k]? = some a) (ha : star a = true) (hs : s[i]? = some x) :
    fitB star one (p.take (k + 1)) (s.take (i + 1)) = (fitB star one (p.take k) (s.take (i + 1)) || fitB star one (p.take (k + 1)) (s.take i)) := by
  rw [Bool.eq_iff_iff, Bool.or_eq_true, fitB_iff, fitB_iff, fitB_iff, take_snoc hp, fit_star_end star one ha]
  constructor
  · rintro (h | ⟨y, r, he, h⟩)
    · exact .inl h
    · rw [take_snoc hs] at he
      obtain ⟨e1, e2⟩ := List.append_inj' he rfl
      rw [e1]
      exact .inr h
  · rintro (h | h)
    · exact .inl h
    · exact .inr ⟨x, s.take i, take_snoc hs, h⟩
theorem front_one0 (hp : p[k]? = some a) (ha : star a = false) : fitB star one (p.take (k + 1)) (s.take 0) = false := by
  rw [Bool.eq_false_iff]
  intro h
  rw [fitB_iff, take_snoc hp, fit_cons_end star one ha] at h
  obtain ⟨y, r, he, _⟩ := h
  simp at he
theorem front_one (hp : p[k]? = some a) (ha : star a = false) (hs : s[i]? = some x) :
    fitB star one (p.take (k + 1)) (s.take (i + 1)) = (fitB star one (p.take k) (s.take i) && one a x) := by
  rw [Bool.eq_iff_iff, Bool.and_eq_true, fitB_iff, fitB_iff, take_snoc hp, fit_cons_end star one ha]
  constructor
  · rintro ⟨y, r, he, h1, h2⟩
    rw [take_snoc hs] at he
    obtain ⟨e1, e2⟩ := List.append_inj' he rfl
    injection e2 with e2
    rw [e1, e2]
    exact ⟨h2, h1⟩
  · rintro ⟨h1, h2⟩
    exact ⟨x, s.take i, take_snoc hs, h2, h1⟩
/-! from behind -/
theorem back_end (hi : i ≤ s.length) : fitB star one (p.drop p.length) (s.drop i) = decide (i = s.length) := by
  rw [List.drop_length, fitB]
  by_cases h : i = s.length
  · rw [h, List.drop_length]; simp
  · have : (s.drop i).isEmpty = false := by
      rw [List.isEmpty_eq_false_iff]
      intro he
      have := congrArg List.length he
      rw [List.length_drop] at this
      simp at this
      omega
    rw [this]
    simp [h]
theorem back_star (hp : p[k]? = some a) (ha : star a = true) (hs : s[i]? = some x) :
    fitB star one (p.drop k) (s.drop i) = (fitB star one (p.drop (k + 1)) (s.drop i) || fitB star one (p.drop k) (s.drop (i + 1))) := by
  rw [drop_head hp, drop_head hs, fitB, if_pos ha, anyTail, fitB, if_pos ha]
theorem back_star_end (hp : p[k]? = some a) (ha : star a = true) :
    fitB star one (p.drop k) (s.drop s.length) = fitB star one (p.drop (k + 1)) (s.drop s.length) := by
  rw [drop_head hp, List.drop_length, fitB, if_pos ha, anyTail]
theorem back_one (hp : p[k]? = some a) (ha : star a = false) (hs : s[i]? = some x) :
    fitB star one (p.drop k) (s.drop i) = (one a x && fitB star one (p.drop (k + 1)) (s.drop (i + 1))) := by
  rw [drop_head hp, drop_head hs, fitB, if_neg (by simp [ha]), headIs]
theorem back_one_end (hp : p[k]? = some a) (ha : star a = false) : fitB star one (p.drop k) (s.drop s.length) = false := by
  rw [drop_head hp, List.drop_length, fitB, if_neg (by simp [ha]), headIs]
end
theorem anyTail_map {β γ : Type} (g : β → γ) (f : List γ → Bool) (f' : List β → Bool) (h : ∀ s, f (s.map g) = f' s) : ∀ s, anyTail f (s.map g) = anyTail f' s
  | [] => h []
  | x :: r => by
    have h1 := h (x :: r)
    rw [List.map_cons] at h1 ⊢
    rw [anyTail, anyTail, anyTail_map g f f' h r, h1]
theorem fitB_map {α β γ δ : Type} (star : γ → Bool) (one : γ → δ → Bool) (f : α → γ) (g : β → δ) : ∀ (p : List α) (s : List β), fitB star one (p.map f) (s.map g) = fitB (fun a => star (f a)) (fun a b => one (f a) (g b)) p s
  | [], s => by simp [fitB]
  | a :: p, s => by
    have ih := fitB_map star one f g p
    rw [List.map_cons, fitB, fitB]
    cases star (f a)
    · rw [if_neg (by simp), if_neg (by simp)]
      cases s with
      | nil => rfl
      | cons x r => rw [List.map_cons, headIs, headIs, ih]
    · rw [if_pos rfl, if_pos rfl]
      exact anyTail_map g _ _ ih s

def nameStar (c : UInt8) : Bool := c == 42
def nameOne (c x : UInt8) : Bool := c == 63 || c == x
/-- Does a name fit a pattern? -/
def inNameB (p s : List UInt8) : Bool := fitB nameStar nameOne p s
def pathStar (p : List UInt8) : Bool := p == [42, 42]
/-- Does a path fit a pattern, where both may be? -/
def matchL (p s : List UInt8) : Bool := fitB pathStar inNameB (splitL p) (splitL s)
def matchB (p s : List UInt8) : Bool := patE p == 0 && (pathE s == 0 && matchL p s)

/-! ### a row of bools -/
def brow (n : Nat) (f : Nat → Bool) : Array Value := ((List.range n).map fun j => Value.bool (f j)).toArray
theorem brow_size (n : Nat) (f : Nat → Bool) : (brow n f).size = n := by unfold brow; simp
theorem brow_get {n : Nat} (f : Nat → Bool) {i : Nat} (h : i < n) : (brow n f)[i]? = some (.bool (f i)) := by unfold brow; simp [h]
theorem brow_congr {n : Nat} {f g : Nat → Bool} (h : ∀ j, j < n → f j = g j) : brow n f = brow n g := by
  unfold brow
  congr 1
  exact List.map_congr_left fun j hj => by rw [h j (List.mem_range.1 hj)]
theorem brow_set (n : Nat) (f : Nat → Bool) (i : Nat) (b : Bool) : (brow n f).setIfInBounds i (.bool b) = brow n (fun j => if j = i then b else f j) := by
  apply Array.ext_getElem?
  intro j
  rw [Array.getElem?_setIfInBounds]
  by_cases hj : j < n
  · by_cases h : i = j
    · subst h; rw [if_pos rfl, if_pos (by rw [brow_size]; exact hj), brow_get _ hj, if_pos rfl]
    · rw [if_neg h, brow_get _ hj, brow_get _ hj, if_neg (fun e => h e.symm)]
  · have e1 : (brow n (fun j => if j = i then b else f j))[j]? = none := Array.getElem?_eq_none (by rw [brow_size]; omega)
    have e2 : (brow n f)[j]? = none := Array.getElem?_eq_none (by rw [brow_size]; omega)
    rw [e1, e2]
    split
    · rw [brow_size, if_neg (by omega)]
    · rfl

section
variable {w : World} {g : Nat} {t : TypeId} {n j : Nat} {F : Nat → Bool} {v : Bool}
theorem Blk.bput (h : Blk w g t (brow n (fun i => if i < j then F i else false))) (hv : F j = v) : Blk (w.setCell ⟨g, j, none⟩ (.bool v)) g t (brow n (fun i => if i < j + 1 then F i else false)) := by
  have h2 := h.set_ j (.bool v)
  rw [brow_set] at h2
  rwa [brow_congr (g := fun i => if i < j + 1 then F i else false)] at h2
  intro i _
  by_cases e : i = j
  · subst e; simp [hv]
  · by_cases h3 : i < j
    · rw [if_neg e, if_pos h3, if_pos (by omega)]
    · rw [if_neg e, if_neg h3, if_neg (by omega)]
theorem Blk.bskip (h : Blk w g t (brow n (fun i => if i < j then F i else false))) (hv : F j = false) : Blk w g t (brow n (fun i => if i < j + 1 then F i else false)) := by
  rwa [brow_congr (g := fun i => if i < j + 1 then F i else false)] at h
  intro i _
  by_cases e : i = j
  · subst e; simp [hv]
  · by_cases h3 : i < j
    · rw [if_pos h3, if_pos (by omega)]
    · rw [if_neg h3, if_neg (by omega)]
theorem Blk.bdone (h : Blk w g t (brow n (fun i => if i < j then F i else false))) (hj : n ≤ j) : Blk w g t (brow n F) := by
  rwa [brow_congr (g := F)] at h
  intro i hi
  rw [if_pos (by omega)]
theorem Blk.bget (h : Blk w g t (brow n F)) {i : Nat} (hi : i < n) : w.cell? ⟨g, i, none⟩ = some (.bool (F i)) := (h.cell i).trans (brow_get F hi)
end

/-! ### paths together; files -/
def pairE : Option (List UInt8) → List UInt8 → Int
  | none, _ => 0
  | some q, s => if 0 < ordL q s then 12 else if ordL q s = 0 ∨ within s q = true then 9 else 0
def stepE (q : Option (List UInt8)) (s : List UInt8) : Int := if pathE s = 0 then pairE q s else pathE s
def pathsGo : Option (List UInt8) → List (List UInt8) → Int
  | _, [] => 0
  | q, s :: r => if stepE q s = 0 then pathsGo (some s) r else stepE q s
def pathsE (l : List (List UInt8)) : Int := if 256 < l.length then 7 else pathsGo none l
def prevAt (l : List (List UInt8)) (k : Nat) : Option (List UInt8) := if k = 0 then none else l[k - 1]?
structure FileD where
  path : ByteArray
  mode : Int
  data : ByteArray
def fcell (f : FileD) : List Value := [.string f.path, .int .i64 f.mode, .string f.data]
def fcells (l : List FileD) : List Value := (l.map fcell).flatten
def fileE (f : FileD) : Int := if 0 ≤ f.mode ∧ f.mode ≤ 511 then if 65536 < f.data.size then 4 else 0 else 11
def filesE : List FileD → Int
  | [] => 0
  | f :: r => if fileE f = 0 then filesE r else fileE f
def checkE (l : List FileD) : Int := if pathsE (l.map (·.path.data.toList)) = 0 then filesE l else pathsE (l.map (·.path.data.toList))
theorem paths_step {l : List (List UInt8)} {k : Nat} {s : List UInt8} (h : l[k]? = some s) (hs : stepE (prevAt l k) s = 0) : pathsGo (prevAt l k) (l.drop k) = pathsGo (prevAt l (k + 1)) (l.drop (k + 1)) := by
  rw [drop_head h, pathsGo, if_pos hs]
  unfold prevAt
  rw [if_neg (by omega), Nat.add_sub_cancel, h]
theorem paths_stop {l : List (List UInt8)} {k : Nat} {s : List UInt8} (h : l[k]? = some s) (hs : stepE (prevAt l k) s ≠ 0) : pathsGo (prevAt l k) (l.drop k) = stepE (prevAt l k) s := by
  rw [drop_head h, pathsGo, if_neg hs]
theorem paths_end {l : List (List UInt8)} {k : Nat} (q : Option (List UInt8)) (h : l.length ≤ k) : pathsGo q (l.drop k) = 0 := by rw [List.drop_eq_nil_of_le h, pathsGo]
theorem files_step {l : List FileD} {k : Nat} {f : FileD} (h : l[k]? = some f) (hs : fileE f = 0) : filesE (l.drop k) = filesE (l.drop (k + 1)) := by rw [drop_head h, filesE, if_pos hs]
theorem files_stop {l : List FileD} {k : Nat} {f : FileD} (h : l[k]? = some f) (hs : fileE f ≠ 0) : filesE (l.drop k) = fileE f := by rw [drop_head h, filesE, if_neg hs]
theorem files_end {l : List FileD} {k : Nat} (h : l.length ≤ k) : filesE (l.drop k) = 0 := by rw [List.drop_eq_nil_of_le h, filesE]
theorem fcell_at {l : List FileD} {k : Nat} {f : FileD} (h : l[k]? = some f) : (fcells l)[k * 3]? = some (.string f.path) ∧ (fcells l)[k * 3 + 1]? = some (.int .i64 f.mode) ∧ (fcells l)[k * 3 + 2]? = some (.string f.data) := by
  have hl : ∀ r ∈ l.map fcell, r.length = 3 := by
    intro r hr
    obtain ⟨f, _, rfl⟩ := List.mem_map.1 hr
    rfl
  have hx : (l.map fcell)[k]? = some (fcell f) := by rw [List.getElem?_map, h]; rfl
  unfold fcells
  exact ⟨by rw [show k * 3 = k * 3 + 0 from rfl, flat_at _ k 0 _ hl hx (by omega)]; rfl, by rw [flat_at _ k 1 _ hl hx (by omega)]; rfl, by rw [flat_at _ k 2 _ hl hx (by omega)]; rfl⟩
end Go.Proofs.YtmcgaaihdjpdgaaGreatDoor
