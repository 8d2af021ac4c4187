/- Chapter 8 as plain data: the pressed text, how long it is, no program in sight. -/
import Derived.Test.YtennmnoghipnfaaRdLaws
namespace Go.Proofs.Ytennmnoghipnfaa
open Go.RowKit
set_option linter.unusedVariables false

/-- The i-th byte of a text (0 behind its end). -/
def bat (t : List UInt8) (i : Nat) : UInt8 := t.getD i 0

/-- How many bytes stand alike at two places, at most n. -/
def al (t : List UInt8) (a b : Nat) : Nat → Nat
  | 0 => 0
  | n + 1 => if b < t.length ∧ bat t a = bat t b then al t (a + 1) (b + 1) n + 1 else 0

theorem al_le (t : List UInt8) (n : Nat) : ∀ a b, al t a b n ≤ n := by
  induction n with
  | zero => intro a b; exact Nat.le_refl _
  | succ n ih =>
    intro a b
    rw [al]
    split
    · have := ih (a + 1) (b + 1); omega
    · omega
theorem al_end (t : List UInt8) (n : Nat) : ∀ a b, b ≤ t.length → b + al t a b n ≤ t.length := by
  induction n with
  | zero => intro a b h; simpa [al] using h
  | succ n ih =>
    intro a b h
    rw [al]
    split
    · rename_i h2
      have := ih (a + 1) (b + 1) (by omega); omega
    · omega
theorem al_eq (t : List UInt8) (n : Nat) : ∀ a b j, j < al t a b n → bat t (a + j) = bat t (b + j) := by
  induction n with
  | zero => intro a b j h; simp [al] at h
  | succ n ih =>
    intro a b j h
    rw [al] at h
    split at h
    · rename_i h2
      cases j with
      | zero => exact h2.2
      | succ j =>
        have := ih (a + 1) (b + 1) j (by omega)
        rw [show a + (j + 1) = a + 1 + j by omega, show b + (j + 1) = b + 1 + j by omega]
        exact this
    · omega
theorem al_ge (t : List UInt8) (k : Nat) : ∀ n a b, k ≤ n → b + k ≤ t.length → (∀ j, j < k → bat t (a + j) = bat t (b + j)) → k ≤ al t a b n := by
  induction k with
  | zero => intros; omega
  | succ k ih =>
    intro n a b hn hb he
    cases n with
    | zero => omega
    | succ n =>
      rw [al, if_pos ⟨by omega, by simpa using he 0 (by omega)⟩]
      have := ih n (a + 1) (b + 1) (by omega) (by omega) (fun j hj => by
        have := he (j + 1) (by omega)
        rwa [show a + (j + 1) = a + 1 + j by omega, show b + (j + 1) = b + 1 + j by omega] at this)
      omega

/-- Of the distances 1 to m, the nearest of those with most bytes alike (at least four), and how many: f says how many. -/
def best (f : Nat → Nat) : Nat → Nat × Nat
  | 0 => (0, 0)
  | m + 1 => let q := best f m; if 4 ≤ f (m + 1) ∧ q.2 < f (m + 1) then (m + 1, f (m + 1)) else q

theorem best_cases (f : Nat → Nat) (m : Nat) : best f m = (0, 0) ∨ (1 ≤ (best f m).1 ∧ (best f m).1 ≤ m ∧ 4 ≤ (best f m).2 ∧ (best f m).2 = f (best f m).1) := by
  induction m with
  | zero => exact .inl rfl
  | succ m ih =>
    simp only [best]
    split
    · rename_i h
      exact .inr ⟨by simp, by simp, h.1, rfl⟩
    · rcases ih with h | h
      · exact .inl h
      · exact .inr ⟨h.1, by omega, h.2.2⟩
theorem best_ge (f : Nat → Nat) (m : Nat) : ∀ d, 1 ≤ d → d ≤ m → 4 ≤ f d → f d ≤ (best f m).2 := by
  induction m with
  | zero => intros; omega
  | succ m ih =>
    intro d h1 h2 h4
    simp only [best]
    by_cases hd : d = m + 1
    · subst hd
      split
      · exact Nat.le_refl _
      · rename_i h; omega
    · have := ih d h1 (by omega) h4
      split
      · rename_i h; show f d ≤ f (m + 1); omega
      · exact this
theorem best_same (f : Nat → Nat) {m : Nat} : ∀ k, (∀ d, m < d → d ≤ m + k → f d < 4) → best f (m + k) = best f m := by
  intro k
  induction k with
  | zero => intro _; rfl
  | succ k ih =>
    intro h
    have := ih (fun d h1 h2 => h d h1 (by omega))
    rw [show m + (k + 1) = (m + k) + 1 by omega]
    simp only [best]
    rw [if_neg (by have := h (m + k + 1) (by omega) (by omega); omega), this]
theorem best_full (f : Nat → Nat) {m : Nat} : ∀ k, (∀ d, f d ≤ (best f m).2) → best f (m + k) = best f m := by
  intro k
  induction k with
  | zero => intro _; rfl
  | succ k ih =>
    intro h
    have := ih h
    rw [show m + (k + 1) = (m + k) + 1 by omega]
    simp only [best]
    rw [this, if_neg (by have := h (m + k + 1); omega)]
/-- What stands at a place ahead so far back. -/
def alf (t : List UInt8) (at_ d : Nat) : Nat := al t (at_ - d) at_ 259
def bst (t : List UInt8) (at_ : Nat) : Nat × Nat := best (alf t at_) (min at_ 4096)

theorem bst_cases (t : List UInt8) {at_ : Nat} (h : at_ ≤ t.length) : bst t at_ = (0, 0) ∨ (1 ≤ (bst t at_).1 ∧ (bst t at_).1 ≤ at_ ∧ (bst t at_).1 ≤ 4096 ∧ 4 ≤ (bst t at_).2 ∧ (bst t at_).2 ≤ 259 ∧ at_ + (bst t at_).2 ≤ t.length ∧
    ∀ j, j < (bst t at_).2 → bat t (at_ - (bst t at_).1 + j) = bat t (at_ + j)) := by
  unfold bst
  rcases best_cases (alf t at_) (min at_ 4096) with hc | ⟨h1, h2, h3, h4⟩
  · exact .inl hc
  · refine .inr ⟨h1, by omega, by omega, h3, ?_, ?_, ?_⟩
    · rw [h4]; exact al_le _ _ _ _
    · rw [h4]; exact al_end _ _ _ _ h
    · intro j hj
      rw [h4] at hj
      exact al_eq _ _ _ _ j hj
theorem bst_z (t : List UInt8) {at_ : Nat} (h : at_ ≤ t.length) (h0 : (bst t at_).2 = 0) : bst t at_ = (0, 0) := by
  rcases bst_cases t h with hc | hc
  · exact hc
  · omega

/-- Bytes from one place to another as a plain run. -/
def run_ (t : List UInt8) (a b : Nat) : List UInt8 := if a < b then numL (2 * (b - a)) ++ (t.take b).drop a else []

/-- What is told of a text from a place on; what is plain was gathered from another on. -/
def prs (t : List UInt8) (at_ from_ : Nat) : List UInt8 :=
  if h : at_ < t.length then
    if h0 : (bst t at_).2 = 0 then prs t (at_ + 1) from_
    else run_ t from_ at_ ++ numL (2 * ((bst t at_).2 - 4) + 1) ++ numL ((bst t at_).1 - 1) ++ prs t (at_ + (bst t at_).2) (at_ + (bst t at_).2)
  else run_ t from_ t.length
termination_by t.length - at_

theorem prs_end {t : List UInt8} {a f : Nat} (h : t.length ≤ a) : prs t a f = run_ t f t.length := by rw [prs, dif_neg (by omega)]
theorem prs_one {t : List UInt8} {a f : Nat} (h : a < t.length) (h0 : (bst t a).2 = 0) : prs t a f = prs t (a + 1) f := by rw [prs, dif_pos h, dif_pos h0]
theorem prs_cp {t : List UInt8} {a f : Nat} (h : a < t.length) (h0 : (bst t a).2 ≠ 0) :
    prs t a f = run_ t f a ++ numL (2 * ((bst t a).2 - 4) + 1) ++ numL ((bst t a).1 - 1) ++ prs t (a + (bst t a).2) (a + (bst t a).2) := by rw [prs, dif_pos h, dif_neg h0]

/-- A text, pressed. -/
def pressL (t : List UInt8) : List UInt8 := numL t.length ++ prs t 0 0

/-! ### how long -/
theorem numL_1 {n : Nat} (h : n < 128) : (numL n).length = 1 := by rw [numL_lt h]; rfl
theorem numL_2 {n : Nat} (h : n < 16384) : (numL n).length ≤ 2 := numL_len_le 1 n (by omega)
theorem numL_3 {n : Nat} (h : n < 2097152) : (numL n).length ≤ 3 := numL_len_le 2 n (by omega)
theorem numL_4 {n : Nat} (h : n < 268435456) : (numL n).length ≤ 4 := numL_len_le 3 n (by omega)

theorem run_len {t : List UInt8} {a b : Nat} (hb : b ≤ t.length) (hab : a < b) : (run_ t a b).length = (numL (2 * (b - a))).length + (b - a) := by
  unfold run_
  rw [if_pos hab]
  simp
  omega
theorem run_nil {t : List UInt8} {a b : Nat} (hab : b ≤ a) : run_ t a b = [] := if_neg (by omega)

theorem run_len5 {t : List UInt8} {a b : Nat} (hb : b ≤ t.length) (hN : t.length ≤ 1048576) : (run_ t a b).length ≤ 5 * (b - a) := by
  by_cases hab : a < b
  · rw [run_len hb hab]
    have := numL_4 (n := 2 * (b - a)) (by omega)
    omega
  · rw [run_nil (by omega)]; simp
theorem prs_len5 {t : List UInt8} (hN : t.length ≤ 1048576) (n : Nat) : ∀ a f, f ≤ a → a ≤ t.length → t.length - a = n → (prs t a f).length ≤ 5 * (t.length - f) := by
  induction n using Nat.strongRecOn with
  | _ n ih =>
    intro a f hf ha hn
    by_cases hlt : a < t.length
    · by_cases h0 : (bst t a).2 = 0
      · rw [prs_one hlt h0]
        exact ih (t.length - (a + 1)) (by omega) _ _ (by omega) (by omega) rfl
      · rw [prs_cp hlt h0]
        rcases bst_cases t ha with hc | ⟨h1, h2, h3, h4, h5, h6, _⟩
        · rw [hc] at h0; simp at h0
        · have := ih (t.length - (a + (bst t a).2)) (by omega) _ _ (Nat.le_refl (a + (bst t a).2)) h6 rfl
          have hr := run_len5 (a := f) (b := a) ha hN
          have e1 := numL_2 (n := 2 * ((bst t a).2 - 4) + 1) (by omega)
          have e2 := numL_2 (n := (bst t a).1 - 1) (by omega)
          simp only [List.length_append]
          omega
    · rw [prs_end (by omega)]
      exact run_len5 (Nat.le_refl _) hN

theorem run_len64 {t : List UInt8} {a b : Nat} (hb : b ≤ t.length) (hab : a < b) (hN : t.length ≤ 20000) : (run_ t a b).length ≤ (b - a) + 1 + (b - a) / 64 := by
  rw [run_len hb hab]
  by_cases h1 : 2 * (b - a) < 128
  · have := numL_1 h1; omega
  · by_cases h2 : 2 * (b - a) < 16384
    · have := numL_2 h2; omega
    · have := numL_3 (n := 2 * (b - a)) (by omega); omega
theorem cp_len {n d : Nat} (h4 : 4 ≤ n) (h5 : n ≤ 259) (h1 : 1 ≤ d) (h2 : d ≤ 4096) : (numL (2 * (n - 4) + 1)).length + (numL (d - 1)).length + 1 ≤ n ∧ (numL (2 * (n - 4) + 1)).length + (numL (d - 1)).length ≤ 4 := by
  have e2 := numL_2 (n := d - 1) (by omega)
  by_cases h : 2 * (n - 4) + 1 < 128
  · have := numL_1 h; omega
  · have := numL_2 (n := 2 * (n - 4) + 1) (by omega); omega
theorem prs_len64 {t : List UInt8} (hN : t.length ≤ 20000) (n : Nat) : ∀ a f, f ≤ a → a ≤ t.length → t.length - a = n → (prs t a f).length ≤ (t.length - f) + (t.length - f) / 64 + 1 := by
  induction n using Nat.strongRecOn with
  | _ n ih =>
    intro a f hf ha hn
    by_cases hlt : a < t.length
    · by_cases h0 : (bst t a).2 = 0
      · rw [prs_one hlt h0]
        exact ih (t.length - (a + 1)) (by omega) _ _ (by omega) (by omega) rfl
      · rw [prs_cp hlt h0]
        rcases bst_cases t ha with hc | ⟨h1, h2, h3, h4, h5, h6, _⟩
        · rw [hc] at h0; simp at h0
        · have := ih (t.length - (a + (bst t a).2)) (by omega) _ _ (Nat.le_refl (a + (bst t a).2)) h6 rfl
          have e := (cp_len h4 h5 h1 h3).1
          simp only [List.length_append]
          by_cases hfa : f < a
          · have hr := run_len64 ha hfa hN
            omega
          · rw [run_nil (by omega)]
            simp only [List.length_nil]
            omega
    · rw [prs_end (by omega)]
      by_cases hfa : f < t.length
      · have hr := run_len64 (Nat.le_refl _) hfa hN
        omega
      · rw [run_nil (by omega)]; simp

theorem press_bound {t : List UInt8} (hN : t.length ≤ 20000) : (pressL t).length ≤ t.length + t.length / 64 + 6 := by
  unfold pressL
  have h := prs_len64 hN t.length 0 0 (by omega) (by omega) rfl
  have := numL_3 (n := t.length) (by omega)
  simp only [List.length_append]
  omega
theorem press_len5 {t : List UInt8} (hN : t.length ≤ 1048576) : (pressL t).length ≤ 5 * t.length + 4 := by
  unfold pressL
  have h := prs_len5 hN t.length 0 0 (by omega) (by omega) rfl
  have := numL_4 (n := t.length) (by omega)
  simp only [List.length_append]
  omega
theorem press_ne (t : List UInt8) : pressL t ≠ [] := by unfold pressL; simp [numL_ne]
theorem press_pos (t : List UInt8) : 0 < (pressL t).length := List.length_pos_iff.2 (press_ne t)

/-! ### a text that stands twice -/
/-- From place L on, what stands L ahead stands there. -/
def Twice (t : List UInt8) (L : Nat) : Prop := t.length = 2 * L ∧ ∀ j, L ≤ j → j < 2 * L → bat t (j - L) = bat t j

theorem twice_bst {t : List UInt8} {L a : Nat} (h : Twice t L) (hL : L ≤ 4000) (ha : L ≤ a) (h4 : a + 4 ≤ 2 * L) : min 259 (2 * L - a) ≤ (bst t a).2 := by
  have hk : min 259 (2 * L - a) ≤ alf t a L := by
    unfold alf
    refine al_ge t _ _ _ _ (by omega) (by rw [h.1]; omega) fun j hj => ?_
    have := h.2 (a + j) (by omega) (by omega)
    rw [show a - L + j = a + j - L by omega]
    exact this
  have := best_ge (alf t a) (min a 4096) L (by omega) (by omega) (by omega)
  unfold bst
  omega
theorem twice_tail {t : List UInt8} {L : Nat} (h : Twice t L) (hL : L ≤ 4000) (n : Nat) : ∀ a, L ≤ a → a ≤ 2 * L → 2 * L - a = n → (prs t a a).length ≤ 4 * (n / 259 + 1) := by
  induction n using Nat.strongRecOn with
  | _ n ih =>
    intro a ha ha2 hn
    have hT := h.1
    by_cases h4 : a + 4 ≤ 2 * L
    · have hb := twice_bst h hL ha h4
      rcases bst_cases t (at_ := a) (by omega) with hc | ⟨h1, h2, h3, h4', h5, h6, _⟩
      · rw [hc] at hb; simp at hb; omega
      · rw [prs_cp (by omega) (by omega), run_nil (Nat.le_refl _)]
        have e := (cp_len h4' h5 h1 h3).2
        have hih := ih (2 * L - (a + (bst t a).2)) (by omega) (a + (bst t a).2) (by omega) (by omega) rfl
        simp only [List.length_append, List.length_nil]
        by_cases hz : a + (bst t a).2 = 2 * L
        · rw [hz, prs_end (by omega), run_nil (by omega)]
          simp only [List.length_nil]
          omega
        · have h259 : (bst t a).2 = 259 := by omega
          rw [h259] at hih e ⊢
          have : (2 * L - (a + 259)) / 259 + 1 ≤ n / 259 := by omega
          omega
    · have : ∀ k, k + a ≤ 2 * L → (prs t (a + (2 * L - a - k)) a).length ≤ 4 := by
        intro k
        induction k with
        | zero =>
          intro _
          rw [prs_end (by omega)]
          by_cases hz : a < t.length
          · rw [run_len (Nat.le_refl _) hz, numL_1 (by omega)]; omega
          · rw [run_nil (by omega)]; simp
        | succ k ihk =>
          intro hk
          have hz : (bst t (a + (2 * L - a - (k + 1)))).2 = 0 := by
            rcases bst_cases t (at_ := a + (2 * L - a - (k + 1))) (by omega) with hc | ⟨_, _, _, h4', _, h6, _⟩
            · rw [hc]
            · omega
          rw [prs_one (by omega) hz, show a + (2 * L - a - (k + 1)) + 1 = a + (2 * L - a - k) by omega]
          exact ihk (by omega)
      have := this (2 * L - a) (by omega)
      rw [show a + (2 * L - a - (2 * L - a)) = a by omega] at this
      omega
theorem twice_len {t : List UInt8} {L : Nat} (h : Twice t L) (hL : L ≤ 4000) (hL4 : 4 ≤ L) (n : Nat) : ∀ a f, f ≤ a → a ≤ L → L - a = n → (prs t a f).length ≤ (L - f) + (L - f) / 64 + 5 + 4 * (L / 259 + 1) := by
  induction n using Nat.strongRecOn with
  | _ n ih =>
    intro a f hf ha hn
    have hT := h.1
    have hN : t.length ≤ 20000 := by omega
    by_cases h0 : (bst t a).2 = 0
    · rw [prs_one (by omega) h0]
      by_cases hlt : a < L
      · exact ih (L - (a + 1)) (by omega) _ _ (by omega) (by omega) rfl
      · have := twice_bst h hL (a := a) (by omega) (by omega)
        omega
    · rw [prs_cp (by omega) h0]
      rcases bst_cases t (at_ := a) (by omega) with hc | ⟨h1, h2, h3, h4, h5, h6, _⟩
      · rw [hc] at h0; simp at h0
      · have e := (cp_len h4 h5 h1 h3)
        have hr : (run_ t f a).length ≤ (a - f) + (if f < a then 1 else 0) + (a - f) / 64 := by
          by_cases hfa : f < a
          · have := run_len64 (t := t) (by omega) hfa hN
            rw [if_pos hfa]; omega
          · rw [run_nil (by omega)]; simp
        have hr1 : (if f < a then 1 else 0) ≤ 1 := by split <;> omega
        simp only [List.length_append]
        by_cases hin : a + (bst t a).2 ≤ L
        · have := ih (L - (a + (bst t a).2)) (by omega) _ _ (Nat.le_refl (a + (bst t a).2)) hin rfl
          omega
        · have := twice_tail h hL _ (a + (bst t a).2) (by omega) (by omega) rfl
          have hd : (2 * L - (a + (bst t a).2)) / 259 ≤ L / 259 := Nat.div_le_div_right (by omega)
          omega
theorem twice_press {t : List UInt8} {L : Nat} (h : Twice t L) (hL : L ≤ 4000) (hL4 : 4 ≤ L) : (pressL t).length ≤ L + L / 64 + 6 + 4 * (L / 259 + 1) + 8 := by
  unfold pressL
  have := twice_len h hL hL4 L 0 0 (by omega) (by omega) rfl
  have hT := h.1
  have := numL_2 (n := t.length) (by omega)
  simp only [List.length_append]
  omega
theorem twice_app (t : List UInt8) : Twice (t ++ t) t.length := by
  refine ⟨by simp; omega, fun j h1 h2 => ?_⟩
  unfold bat
  rw [List.getD_eq_getElem?_getD, List.getD_eq_getElem?_getD, List.getElem?_append_left (by omega), List.getElem?_append_right h1]

/-! ### the example -/
theorem awake_press : pressL [97, 97, 97, 97, 97, 97, 97, 97, 97] = [9, 2, 97, 9, 0] := by
  have b0 : bst [97, 97, 97, 97, 97, 97, 97, 97, 97] 0 = (0, 0) := by decide
  have b1 : bst [97, 97, 97, 97, 97, 97, 97, 97, 97] 1 = (1, 8) := by decide
  unfold pressL
  rw [prs_one (by decide) (by rw [b0]), prs_cp (by decide) (by rw [b1]; decide), b1, prs_end (by decide)]
  unfold run_
  rw [if_pos (by decide), if_neg (by decide), numL_lt (by decide), numL_lt (by decide), numL_lt (by decide), numL_lt (by decide)]
  decide
end Go.Proofs.Ytennmnoghipnfaa
