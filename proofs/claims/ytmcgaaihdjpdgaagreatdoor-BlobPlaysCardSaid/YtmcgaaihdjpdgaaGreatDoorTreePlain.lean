/- Chapter 9 as plain data: the order of texts, names and paths, patterns: no program in sight. -/
import Derived.Test.YtmcgaaihdjpdgaaGreatDoorBase
namespace Go.Proofs.YtmcgaaihdjpdgaaGreatDoor
open Go.RowKit
set_option linter.unusedVariables false

/-! ### how two texts stand -/
/-- The program's number. -/
def ordL : List UInt8 → List UInt8 → Int
  | [], b => -(b.length : Int)
  | x :: a, [] => ((x :: a).length : Int)
  | x :: a, y :: b => if x = y then ordL a b else if x = 47 then -1 else if y = 47 then 1 else (x.toNat : Int) - (y.toNat : Int)
/-- A slash stands ahead of all. -/
def key (x : UInt8) : Nat := if x = 47 then 0 else x.toNat + 1
/-- -1, 0, 1. -/
def ordS : List UInt8 → List UInt8 → Int
  | [], [] => 0
  | [], _ :: _ => -1
  | _ :: _, [] => 1
  | x :: a, y :: b => if key x < key y then -1 else if key y < key x then 1 else ordS a b
def sgnI (n : Int) : Int := if n < 0 then -1 else if 0 < n then 1 else 0

theorem key_inj {x y : UInt8} (h : key x = key y) : x = y := by
  unfold key at h
  split at h
  · rename_i hx
    split at h
    · rename_i hy; rw [hx, hy]
    · omega
  · split at h
    · omega
    · exact UInt8.toNat_inj.1 (by omega)
theorem sgn_ord : ∀ a b, sgnI (ordL a b) = ordS a b
  | [], [] => rfl
  | [], y :: b => by
    unfold ordL ordS sgnI
    rw [if_pos (by simp)]
  | x :: a, [] => by
    unfold ordL ordS sgnI
    rw [if_neg (by simp; omega), if_pos (by simp)]
  | x :: a, y :: b => by
    rw [ordL, ordS]
    by_cases hxy : x = y
    · rw [if_pos hxy, hxy, if_neg (Nat.lt_irrefl _), if_neg (Nat.lt_irrefl _)]
      exact sgn_ord a b
    · rw [if_neg hxy]
      have hn : x.toNat ≠ y.toNat := fun h => hxy (UInt8.toNat_inj.1 h)
      by_cases hx : x = 47
      · have hy : y ≠ 47 := fun h => hxy (by rw [hx, h])
        rw [if_pos hx, if_pos (by unfold key; rw [if_pos hx, if_neg hy]; omega)]
        rfl
      · rw [if_neg hx]
        by_cases hy : y = 47
        · rw [if_pos hy, if_neg (by unfold key; rw [if_pos hy, if_neg hx]; omega), if_pos (by unfold key; rw [if_pos hy, if_neg hx]; omega)]
          rfl
        · rw [if_neg hy]
          have kx : key x = x.toNat + 1 := if_neg hx
          have ky : key y = y.toNat + 1 := if_neg hy
          rw [kx, ky]
          unfold sgnI
          by_cases hlt : x.toNat < y.toNat
          · rw [if_pos (by omega), if_pos (by omega)]
          · rw [if_neg (by omega), if_pos (by omega), if_neg (by omega), if_pos (by omega)]
theorem ordS_flip : ∀ a b, ordS b a = -ordS a b
  | [], [] => rfl
  | [], y :: b => rfl
  | x :: a, [] => rfl
  | x :: a, y :: b => by
    rw [ordS, ordS]
    by_cases h1 : key x < key y
    · rw [if_neg (by omega), if_pos h1, if_pos h1]; rfl
    · by_cases h2 : key y < key x
      · rw [if_pos h2, if_neg h1, if_pos h2]
      · rw [if_neg h2, if_neg h1, if_neg h1, if_neg h2]
        exact ordS_flip a b
theorem ordS_zero : ∀ a b, ordS a b = 0 ↔ a = b
  | [], [] => by simp [ordS]
  | [], y :: b => by simp [ordS]
  | x :: a, [] => by simp [ordS]
  | x :: a, y :: b => by
    rw [ordS]
    by_cases h1 : key x < key y
    · rw [if_pos h1]
      constructor
      · intro h; cases h
      · intro h; injection h with h _; rw [h] at h1; omega
    · by_cases h2 : key y < key x
      · rw [if_neg h1, if_pos h2]
        constructor
        · intro h; cases h
        · intro h; injection h with h _; rw [h] at h2; omega
      · rw [if_neg h1, if_neg h2, ordS_zero a b]
        have : x = y := key_inj (by omega)
        rw [this]
        simp
theorem ordS_cases : ∀ a b, ordS a b = -1 ∨ ordS a b = 0 ∨ ordS a b = 1
  | [], [] => .inr (.inl rfl)
  | [], y :: b => .inl rfl
  | x :: a, [] => .inr (.inr rfl)
  | x :: a, y :: b => by
    rw [ordS]
    by_cases h1 : key x < key y
    · rw [if_pos h1]; exact .inl rfl
    · by_cases h2 : key y < key x
      · rw [if_neg h1, if_pos h2]; exact .inr (.inr rfl)
      · rw [if_neg h1, if_neg h2]; exact ordS_cases a b
theorem ordS_trans : ∀ a b c, ordS a b ≤ 0 → ordS b c ≤ 0 → ordS a c ≤ 0
  | [], b, [], _, _ => Int.le_refl _
  | [], b, z :: c, _, _ => by show (-1 : Int) ≤ 0; omega
  | x :: a, [], c, h, _ => by
    have : ordS (x :: a) [] = 1 := rfl
    omega
  | x :: a, y :: b, [], _, h => by
    have : ordS (y :: b) [] = 1 := rfl
    omega
  | x :: a, y :: b, z :: c, h1, h2 => by
    rw [ordS] at h1 h2 ⊢
    by_cases k1 : key x < key y
    · by_cases k2 : key y < key z
      · rw [if_pos (by omega)]; omega
      · by_cases k3 : key z < key y
        · rw [if_neg k2, if_pos k3] at h2; omega
        · rw [if_pos (by omega)]; omega
    · by_cases k1' : key y < key x
      · rw [if_neg k1, if_pos k1'] at h1; omega
      · rw [if_neg k1, if_neg k1'] at h1
        by_cases k2 : key y < key z
        · rw [if_pos (by omega)]; omega
        · by_cases k3 : key z < key y
          · rw [if_neg k2, if_pos k3] at h2; omega
          · rw [if_neg k2, if_neg k3] at h2
            rw [if_neg (by omega), if_neg (by omega)]
            exact ordS_trans a b c h1 h2
/-- What TreeOrderly says. -/
theorem orderly (a b c : List UInt8) : 0 < ordS a b ∨ 0 < ordS b c ∨ (ordS a c ≤ 0 ∧ (ordS a c < 0 ∨ (ordS a b = 0 ∧ ordS b c = 0))) := by
  by_cases h1 : 0 < ordS a b
  · exact .inl h1
  · by_cases h2 : 0 < ordS b c
    · exact .inr (.inl h2)
    · have h3 := ordS_trans a b c (by omega) (by omega)
      refine .inr (.inr ⟨h3, ?_⟩)
      by_cases h4 : ordS a c < 0
      · exact .inl h4
      · right
        have h5 : a = c := (ordS_zero a c).1 (by omega)
        subst h5
        have h6 := ordS_flip a b
        omega

/-! ### names and paths -/
/-- A text parted at its slashes. -/
def splitL : List UInt8 → List (List UInt8)
  | [] => [[]]
  | c :: r => if c = 47 then [] :: splitL r else match splitL r with | [] => [[c]] | x :: xs => (c :: x) :: xs
theorem splitL_ne : ∀ t, splitL t ≠ []
  | [] => by simp [splitL]
  | c :: r => by
    rw [splitL]
    split
    · simp
    · split <;> simp
def nameOk (l : List UInt8) : Bool := !(l == []) && !(l == [46]) && !(l == [46, 46]) && decide (l.length ≤ 32) && l.all (fun c => decide (33 ≤ c.toNat) && decide (c.toNat ≤ 126))
def pathE (t : List UInt8) : Int := if 200 < t.length then 4 else if (splitL t).all nameOk then 0 else 10
/-- A name of a pattern: a letter in the place of each * and ?. -/
def plainL (l : List UInt8) : List UInt8 := l.map fun c => if c = 42 ∨ c = 63 then 97 else c
def patNameOk (l : List UInt8) : Bool := l == [42, 42] || nameOk (plainL l)
def patE (t : List UInt8) : Int := if 200 < t.length then 4 else if (splitL t).all patNameOk then 0 else 10
/-- Does a path lie in another one? -/
def within (s i : List UInt8) : Bool := decide (i.length < s.length) && (s.take i.length == i) && (s.getD i.length 0 == 47)

/-! ### patterns: some of whose parts stand for any many, others for one -/
section
variable {α β : Type} (star : α → Bool) (one : α → β → Bool)
/-- Each part's share of what is told. -/
def Share (a : α) (w : List β) : Prop := if star a then True else ∃ x, w = [x] ∧ one a x = true
/-- The parts' shares, one behind the other. -/
def Fit : List α → List β → Prop
  | [], s => s = []
  | a :: p, s => ∃ w r, s = w ++ r ∧ Share star one a w ∧ Fit p r
theorem fit_app : ∀ (p q : List α) (s : List β), Fit star one (p ++ q) s ↔ ∃ u v, s = u ++ v ∧ Fit star one p u ∧ Fit star one q v
  | [], q, s => by
    constructor
    · intro h; exact ⟨[], s, rfl, rfl, h⟩
    · rintro ⟨u, v, rfl, hu, hv⟩
      have hu : u = [] := hu
      subst hu
      exact hv
  | a :: p, q, s => by
    constructor
    · rintro ⟨w, r, rfl, hw, hr⟩
      obtain ⟨u, v, rfl, hu, hv⟩ := (fit_app p q r).1 hr
      exact ⟨w ++ u, v, by rw [List.append_assoc], ⟨w, u, rfl, hw, hu⟩, hv⟩
    · rintro ⟨u, v, rfl, ⟨w, r, rfl, hw, hr⟩, hv⟩
      exact ⟨w, r ++ v, by rw [List.append_assoc], hw, (fit_app p q _).2 ⟨r, v, rfl, hr, hv⟩⟩
theorem fit_one (a : α) (s : List β) : Fit star one [a] s ↔ Share star one a s := by
  constructor
  · rintro ⟨w, r, rfl, hw, hr⟩
    have hr : r = [] := hr
    subst hr
    rwa [List.append_nil]
  · intro h
    exact ⟨s, [], (List.append_nil s).symm, h, rfl⟩
/-- From the front: a part that stands for any many. -/
theorem fit_star {a : α} (ha : star a = true) (p : List α) : ∀ s : List β, Fit star one (a :: p) s ↔ Fit star one p s ∨ ∃ x r, s = x :: r ∧ Fit star one (a :: p) r := by
  intro s
  constructor
  · rintro ⟨w, r, rfl, _, hr⟩
    cases w with
    | nil => exact .inl hr
    | cons x w => exact .inr ⟨x, w ++ r, rfl, w, r, rfl, by unfold Share; rw [if_pos ha]; trivial, hr⟩
  · rintro (h | ⟨x, r, rfl, w, r', rfl, _, hr⟩)
    · exact ⟨[], s, rfl, by unfold Share; rw [if_pos ha]; trivial, h⟩
    · exact ⟨x :: w, r', rfl, by unfold Share; rw [if_pos ha]; trivial, hr⟩
theorem fit_cons {a : α} (ha : star a = false) (p : List α) (s : List β) : Fit star one (a :: p) s ↔ ∃ x r, s = x :: r ∧ one a x = true ∧ Fit star one p r := by
  constructor
  · rintro ⟨w, r, rfl, hw, hr⟩
    unfold Share at hw
    rw [if_neg (by simp [ha])] at hw
    obtain ⟨x, rfl, hx⟩ := hw
    exact ⟨x, r, rfl, hx, hr⟩
  · rintro ⟨x, r, rfl, hx, hr⟩
    exact ⟨[x], r, rfl, by unfold Share; rw [if_neg (by simp [ha])]; exact ⟨x, rfl, hx⟩, hr⟩
/-- From behind. -/
theorem fit_star_end {a : α} (ha : star a = true) (p : List α) : ∀ s : List β, Fit star one (p ++ [a]) s ↔ Fit star one p s ∨ ∃ x r, s = r ++ [x] ∧ Fit star one (p ++ [a]) r := by
  intro s
  constructor
  · intro h
    obtain ⟨u, v, rfl, hu, hv⟩ := (fit_app star one p [a] s).1 h
    rcases List.eq_nil_or_concat v with rfl | ⟨v', x, rfl⟩
    · left; rwa [List.append_nil]
    · right
      refine ⟨x, u ++ v', by simp, (fit_app star one p [a] _).2 ⟨u, v', rfl, hu, (fit_one star one a v').2 (by unfold Share; rw [if_pos ha]; trivial)⟩⟩
  · rintro (h | ⟨x, r, rfl, h⟩)
    · exact (fit_app star one p [a] s).2 ⟨s, [], (List.append_nil s).symm, h, (fit_one star one a []).2 (by unfold Share; rw [if_pos ha]; trivial)⟩
    · obtain ⟨u, v, rfl, hu, hv⟩ := (fit_app star one p [a] r).1 h
      exact (fit_app star one p [a] _).2 ⟨u, v ++ [x], by rw [List.append_assoc], hu, (fit_one star one a _).2 (by unfold Share; rw [if_pos ha]; trivial)⟩
theorem fit_cons_end {a : α} (ha : star a = false) (p : List α) (s : List β) : Fit star one (p ++ [a]) s ↔ ∃ x r, s = r ++ [x] ∧ one a x = true ∧ Fit star one p r := by
  constructor
  · intro h
    obtain ⟨u, v, rfl, hu, hv⟩ := (fit_app star one p [a] s).1 h
    have hv := (fit_one star one a v).1 hv
    unfold Share at hv
    rw [if_neg (by simp [ha])] at hv
    obtain ⟨x, rfl, hx⟩ := hv
    exact ⟨x, u, rfl, hx, hu⟩
  · rintro ⟨x, r, rfl, hx, hr⟩
    exact (fit_app star one p [a] _).2 ⟨r, [x], rfl, hr, (fit_one star one a _).2 (by unfold Share; rw [if_neg (by simp [ha])]; exact ⟨x, rfl, hx⟩)⟩
end
end Go.Proofs.YtmcgaaihdjpdgaaGreatDoor
