/- Plain laws of a reader's lists: no program in sight. -/
import Derived.Test.YtjhbmcgaehpadaaDoorListPlain
namespace Go.Proofs.YtjhbmcgaehpadaaDoor
open Go.RowKit

theorem rdNumGo_s (f : Nat) : ∀ (i n : Nat) (r : Rd), (rdNumGo f i n r).2.s = r.s := by
  induction f with
  | zero => intro i n r; rfl
  | succ f ih =>
    intro i n r
    have hb := rdByte_s r
    rw [rdNumGo]
    simp only []
    split
    · exact hb
    · split
      · exact hb
      · split
        · exact hb
        · rw [ih]; exact hb
theorem rdNum_s (r : Rd) : (rdNum r).2.s = r.s := rdNumGo_s 9 0 0 r

theorem rdByte_adv {r : Rd} (h : (rdByte r).2.e = 0) : r.at_ + 1 = (rdByte r).2.at_ ∧ r.e = 0 := by
  unfold rdByte at h ⊢
  split
  · rename_i h0
    rw [if_pos h0] at h
    exact absurd h h0
  · rename_i h0
    rw [if_neg h0] at h
    split
    · exact ⟨rfl, by simpa using h0⟩
    · rename_i h1
      rw [dif_neg h1] at h
      simp at h
theorem rdNumGo_adv (f : Nat) : ∀ (i n : Nat) (r : Rd), (rdNumGo f i n r).2.e = 0 → r.at_ ≤ (rdNumGo f i n r).2.at_ ∧ (0 < f → r.at_ + 1 ≤ (rdNumGo f i n r).2.at_) ∧ r.e = 0 := by
  induction f with
  | zero => intro i n r h; exact ⟨Nat.le_refl _, fun h => absurd h (by omega), h⟩
  | succ f ih =>
    intro i n r h
    rw [rdNumGo] at h ⊢
    simp only [] at h ⊢
    split
    · rename_i h0
      rw [if_pos h0] at h
      exact absurd h h0
    · rename_i h0
      rw [if_neg h0] at h
      have h0' : (rdByte r).2.e = 0 := by simpa using h0
      obtain ⟨ha, he⟩ := rdByte_adv h0'
      split
      · rename_i h1
        rw [if_pos h1] at h
        simp at h
      · rename_i h1
        rw [if_neg h1] at h
        split
        · exact ⟨by show r.at_ ≤ (rdByte r).2.at_; omega, fun _ => by show r.at_ + 1 ≤ (rdByte r).2.at_; omega, he⟩
        · rename_i h2
          rw [if_neg h2] at h
          have := ih _ _ _ h
          exact ⟨by omega, fun _ => by omega, he⟩
theorem rdNum_adv {r : Rd} (h : (rdNum r).2.e = 0) : r.at_ + 1 ≤ (rdNum r).2.at_ ∧ r.e = 0 :=
  have := rdNumGo_adv 9 0 0 r h
  ⟨this.2.1 (by omega), this.2.2⟩

theorem rdNumGo_err (f : Nat) : ∀ (i n : Nat) (r : Rd), (rdNumGo f i n r).2.e ≠ 0 → 0 < f → (rdNumGo f i n r).1 = 0 := by
  induction f with
  | zero => intro i n r h hf; omega
  | succ f ih =>
    intro i n r h _
    rw [rdNumGo] at h ⊢
    simp only [] at h ⊢
    split
    · rfl
    · rename_i h0
      rw [if_neg h0] at h
      split
      · rfl
      · rename_i h1
        rw [if_neg h1] at h
        split
        · rename_i h2
          rw [if_pos h2] at h
          exact absurd h h0
        · rename_i h2
          rw [if_neg h2] at h
          rcases Nat.eq_zero_or_pos f with hf | hf
          · subst hf
            simp only [rdNumGo] at h
            exact absurd h h0
          · exact ih _ _ _ h hf
theorem rdNum_err {r : Rd} (h : (rdNum r).2.e ≠ 0) : (rdNum r).1 = 0 := rdNumGo_err 9 0 0 r h (by omega)

theorem rdCount_s (r : Rd) (m : Int) : (rdCount r m).2.s = r.s := by
  unfold rdCount
  simp only []
  split <;> exact rdNum_s r
theorem rdCount_pos {r : Rd} {m : Int} (h : 0 < (rdCount r m).1) : (rdCount r m).2.e = 0 := by
  unfold rdCount at h ⊢
  simp only [] at h ⊢
  split
  · rename_i h0
    rw [if_pos h0] at h
    simp at h
  · rename_i h0
    rw [if_neg h0] at h
    by_cases he : (rdNum r).2.e = 0
    · exact he
    · have := rdNum_err he
      omega
theorem rdCount_adv {r : Rd} {m : Int} (h : (rdCount r m).2.e = 0) : r.at_ + 1 ≤ (rdCount r m).2.at_ ∧ r.e = 0 := by
  unfold rdCount at h ⊢
  simp only [] at h ⊢
  split
  · rename_i h0
    rw [if_pos h0] at h
    simp at h
  · rename_i h0
    rw [if_neg h0] at h
    exact rdNum_adv h
theorem rdCount_ok' {r : Rd} {m : Int} (h : r.ok) : (rdCount r m).2.ok := by
  unfold rdCount
  simp only []
  split <;> exact rdNum_ok h
theorem rdRaw_s (r : Rd) (n : Int) : (rdRaw r n).2.s = r.s := by
  unfold rdRaw
  (repeat' split) <;> rfl
theorem rdRaw_ok {r : Rd} {n : Int} (h : r.ok) : (rdRaw r n).2.ok := by
  unfold rdRaw
  split
  · exact h
  · split
    · exact h
    · split
      · exact h
      · rename_i h1 h2
        refine ⟨?_, h.2⟩
        show r.at_ + n.toNat ≤ r.s.size
        omega
theorem rdRaw_adv {r : Rd} {n : Int} (h : (rdRaw r n).2.e = 0) : r.at_ ≤ (rdRaw r n).2.at_ ∧ r.e = 0 := by
  unfold rdRaw at h ⊢
  split
  · rename_i h0
    rw [if_pos h0] at h
    exact absurd h h0
  · rename_i h0
    rw [if_neg h0] at h
    have h0' : r.e = 0 := by simpa using h0
    split
    · exact ⟨Nat.le_refl _, h0'⟩
    · split
      · exact ⟨Nat.le_refl _, h0'⟩
      · exact ⟨Nat.le_add_right _ _, h0'⟩
theorem rdText_s (r : Rd) (m : Int) : (rdText r m).2.s = r.s := by
  unfold rdText
  simp only []
  rw [rdRaw_s, rdCount_s]
theorem rdText_ok {r : Rd} {m : Int} (h : r.ok) : (rdText r m).2.ok := by
  unfold rdText
  exact rdRaw_ok (rdCount_ok' h)
theorem rdText_adv {r : Rd} {m : Int} (h : (rdText r m).2.e = 0) : r.at_ + 1 ≤ (rdText r m).2.at_ ∧ r.e = 0 := by
  unfold rdText at h ⊢
  simp only [] at h ⊢
  obtain ⟨h1, h2⟩ := rdRaw_adv h
  obtain ⟨h3, h4⟩ := rdCount_adv h2
  exact ⟨by omega, h4⟩

/-- A number as an int's cell. -/
def natV (n : Nat) : Value := .int .i64 n

/-- Where a list's reading stands: so many are read, so many are to come. -/
def NumsAt (n : Nat) (r1 : Rd) (j : Nat) (done : List Nat) (st : Rd) : Prop := rdNumsGo n r1 = (done ++ (rdNumsGo (n - j) st).1, (rdNumsGo (n - j) st).2)
theorem NumsAt.start (n : Nat) (r1 : Rd) : NumsAt n r1 0 [] r1 := rfl
theorem NumsAt.step {n : Nat} {r1 : Rd} {j : Nat} {done : List Nat} {st : Rd} (h : NumsAt n r1 j done st) (hj : j < n) (he : (rdNum st).2.e = 0) : NumsAt n r1 (j + 1) (done ++ [(rdNum st).1]) (rdNum st).2 := by
  unfold NumsAt at h ⊢
  rw [h, show n - j = (n - (j + 1)) + 1 by omega, rdNumsGo]
  simp only []
  rw [if_neg (by simpa using he)]
  simp
theorem NumsAt.err {n : Nat} {r1 : Rd} {j : Nat} {done : List Nat} {st : Rd} (h : NumsAt n r1 j done st) (hj : j < n) (he : (rdNum st).2.e ≠ 0) : (rdNumsGo n r1).2 = (rdNum st).2 := by
  unfold NumsAt at h
  rw [h, show n - j = (n - (j + 1)) + 1 by omega, rdNumsGo]
  simp only []
  rw [if_pos he]
theorem NumsAt.fin {n : Nat} {r1 : Rd} {j : Nat} {done : List Nat} {st : Rd} (h : NumsAt n r1 j done st) (hj : n ≤ j) : rdNumsGo n r1 = (done, st) := by
  unfold NumsAt at h
  rw [h, show n - j = 0 by omega, rdNumsGo]
  simp
def TextsAt (m : Int) (n : Nat) (r1 : Rd) (j : Nat) (done : List ByteArray) (st : Rd) : Prop := rdTextsGo n m r1 = (done ++ (rdTextsGo (n - j) m st).1, (rdTextsGo (n - j) m st).2)
theorem TextsAt.start (m : Int) (n : Nat) (r1 : Rd) : TextsAt m n r1 0 [] r1 := rfl
theorem TextsAt.step {m : Int} {n : Nat} {r1 : Rd} {j : Nat} {done : List ByteArray} {st : Rd} (h : TextsAt m n r1 j done st) (hj : j < n) (he : (rdText st m).2.e = 0) : TextsAt m n r1 (j + 1) (done ++ [(rdText st m).1]) (rdText st m).2 := by
  unfold TextsAt at h ⊢
  rw [h, show n - j = (n - (j + 1)) + 1 by omega, rdTextsGo]
  simp only []
  rw [if_neg (by simpa using he)]
  simp
theorem TextsAt.err {m : Int} {n : Nat} {r1 : Rd} {j : Nat} {done : List ByteArray} {st : Rd} (h : TextsAt m n r1 j done st) (hj : j < n) (he : (rdText st m).2.e ≠ 0) : (rdTextsGo n m r1).2 = (rdText st m).2 := by
  unfold TextsAt at h
  rw [h, show n - j = (n - (j + 1)) + 1 by omega, rdTextsGo]
  simp only []
  rw [if_pos he]
theorem TextsAt.fin {m : Int} {n : Nat} {r1 : Rd} {j : Nat} {done : List ByteArray} {st : Rd} (h : TextsAt m n r1 j done st) (hj : n ≤ j) : rdTextsGo n m r1 = (done, st) := by
  unfold TextsAt at h
  rw [h, show n - j = 0 by omega, rdTextsGo]
  simp

theorem rdNums_err {r : Rd} {m : Int} {st : Rd} (h : (rdNumsGo (rdCount r m).1 (rdCount r m).2).2 = st) (he : st.e ≠ 0) : rdNums r m = ([], st) := by
  unfold rdNums
  simp only []
  rw [h, if_pos he]
theorem rdNums_fin {r : Rd} {m : Int} {done : List Nat} {st : Rd} (h : rdNumsGo (rdCount r m).1 (rdCount r m).2 = (done, st)) (he : st.e = 0 ∨ done = []) : rdNums r m = (done, st) := by
  unfold rdNums
  simp only []
  rw [h]
  rcases he with he | rfl
  · rw [if_neg (by simpa using he)]
  · split <;> rfl
theorem rdTexts_err {r : Rd} {m k : Int} {st : Rd} (h : (rdTextsGo (rdCount r m).1 k (rdCount r m).2).2 = st) (he : st.e ≠ 0) : rdTexts r m k = ([], st) := by
  unfold rdTexts
  simp only []
  rw [h, if_pos he]
theorem rdTexts_fin {r : Rd} {m k : Int} {done : List ByteArray} {st : Rd} (h : rdTextsGo (rdCount r m).1 k (rdCount r m).2 = (done, st)) (he : st.e = 0 ∨ done = []) : rdTexts r m k = (done, st) := by
  unfold rdTexts
  simp only []
  rw [h]
  rcases he with he | rfl
  · rw [if_neg (by simpa using he)]
  · split <;> rfl
end Go.Proofs.YtjhbmcgaehpadaaDoor
