/- strings.Compare: the shelf's contract, laid.; Chapter 11: texts that are kept, by their marks (plain).; Chapter 11: the place of a mark.; Chapter 11: blobs that nobody gave, or without a book. -/
import Derived.Test.YtmcgaaihdjpdgaaGreatDoorProg
import Derived.Shelf.Lay
import Derived.Shelf.Small.Strs
import Derived.Ground.NamesProg
import Derived.Test.YtmcgaaihdjpdgaaGreatDoorTreeWB
import Derived.Lib.Bytealg
import Derived.Test.YtmcgaaihdjpdgaaGreatDoorTreeMix
import Derived.Test.YtmcgaaihdjpdgaaGreatDoorMarkA
/- strings.Compare: the shelf's contract, laid. -/
namespace Go.Proofs.YtmcgaaihdjpdgaaGreatDoor
open Go.Shelf Go.RowKit
shelf_lay Lays.n106 Nm 106 at Tryz as laysCompare
end Go.Proofs.YtmcgaaihdjpdgaaGreatDoor
/- Chapter 11: texts that are kept, by their marks (plain). -/
namespace Go.Proofs.YtmcgaaihdjpdgaaGreatDoor
open Go.RowKit
set_option linter.unusedVariables false

def cmpB (a b : ByteArray) : Int := Lib.compareBytes a.data.toList b.data.toList
theorem cmpL_self : ∀ a : List UInt8, Lib.compareBytes a a = 0
  | [] => rfl
  | a :: xs => by rw [Lib.compareBytes, if_neg (by simp [UInt8.lt_irrefl]), if_neg (by simp [UInt8.lt_irrefl])]; exact cmpL_self xs
theorem u8_tri (a b : UInt8) : a < b ∨ a = b ∨ b < a := by
  rcases Nat.lt_trichotomy a.toNat b.toNat with h | h | h
  · exact .inl (UInt8.lt_iff_toNat_lt.2 h)
  · exact .inr (.inl (UInt8.toNat_inj.1 h))
  · exact .inr (.inr (UInt8.lt_iff_toNat_lt.2 h))
theorem u8_asym {a b : UInt8} (h : a < b) : ¬ b < a := fun g => by
  have := UInt8.lt_iff_toNat_lt.1 h
  have := UInt8.lt_iff_toNat_lt.1 g
  omega
theorem u8_trans {a b c : UInt8} (h : a < b) (g : b < c) : a < c := UInt8.lt_iff_toNat_lt.2 (Nat.lt_trans (UInt8.lt_iff_toNat_lt.1 h) (UInt8.lt_iff_toNat_lt.1 g))
theorem cmpL_zero : ∀ a b : List UInt8, Lib.compareBytes a b = 0 ↔ a = b
  | [], [] => by simp [Lib.compareBytes]
  | [], _ :: _ => by simp [Lib.compareBytes]
  | _ :: _, [] => by simp [Lib.compareBytes]
  | a :: xs, b :: ys => by
    rw [Lib.compareBytes]
    rcases u8_tri a b with h | h | h
    · rw [if_pos h]
      constructor
      · intro e; omega
      · intro e; injection e with e1 e2; subst e1; exact absurd h (UInt8.lt_irrefl a)
    · subst h
      rw [if_neg (UInt8.lt_irrefl a), if_neg (UInt8.lt_irrefl a), cmpL_zero xs ys]
      simp
    · rw [if_neg (u8_asym h), if_pos h]
      constructor
      · intro e; omega
      · intro e; injection e with e1 e2; subst e1; exact absurd h (UInt8.lt_irrefl a)
theorem cmpL_flip : ∀ a b : List UInt8, Lib.compareBytes b a = -Lib.compareBytes a b
  | [], [] => rfl
  | [], _ :: _ => rfl
  | _ :: _, [] => rfl
  | a :: xs, b :: ys => by
    rw [Lib.compareBytes, Lib.compareBytes]
    rcases u8_tri a b with h | h | h
    · rw [if_neg (u8_asym h), if_pos h, if_pos h]; rfl
    · subst h
      rw [if_neg (UInt8.lt_irrefl a), if_neg (UInt8.lt_irrefl a), if_neg (UInt8.lt_irrefl a), if_neg (UInt8.lt_irrefl a)]
      exact cmpL_flip xs ys
    · rw [if_pos h, if_neg (u8_asym h), if_pos h]
theorem cmpL_trans : ∀ a b c : List UInt8, Lib.compareBytes a b < 0 → Lib.compareBytes b c < 0 → Lib.compareBytes a c < 0
  | [], [], c, h, _ => by simp [Lib.compareBytes] at h
  | [], _ :: _, [], _, h => by simp [Lib.compareBytes] at h
  | [], _ :: _, _ :: _, _, _ => by simp [Lib.compareBytes]
  | _ :: _, [], _, h, _ => by simp [Lib.compareBytes] at h
  | a :: xs, b :: ys, [], _, h => by simp [Lib.compareBytes] at h
  | a :: xs, b :: ys, c :: vs, h, g => by
    rw [Lib.compareBytes] at h g ⊢
    rcases u8_tri a b with h1 | h1 | h1
    · rcases u8_tri b c with g1 | g1 | g1
      · rw [if_pos (u8_trans h1 g1)]; decide
      · subst g1; rw [if_pos h1]; decide
      · rw [if_neg (u8_asym g1), if_pos g1] at g; omega
    · subst h1
      rcases u8_tri a c with g1 | g1 | g1
      · rw [if_pos g1]; decide
      · subst g1
        rw [if_neg (UInt8.lt_irrefl a), if_neg (UInt8.lt_irrefl a)] at h g ⊢
        exact cmpL_trans xs ys vs h g
      · rw [if_neg (u8_asym g1), if_pos g1] at g; omega
    · rw [if_neg (u8_asym h1), if_pos h1] at h; omega
theorem cmpB_self (a : ByteArray) : cmpB a a = 0 := cmpL_self _
theorem cmpB_zero (a b : ByteArray) : cmpB a b = 0 ↔ a = b := by
  unfold cmpB
  rw [cmpL_zero]
  exact ⟨fun h => ba_ext h, fun h => by rw [h]⟩
theorem cmpB_flip (a b : ByteArray) : cmpB b a = -cmpB a b := cmpL_flip _ _
theorem cmpB_trans {a b c : ByteArray} (h : cmpB a b < 0) (g : cmpB b c < 0) : cmpB a c < 0 := cmpL_trans _ _ _ h g
/-- A text that is kept: its mark, and how many lead to it. -/
structure KpD where
  mark : ByteArray
  text : ByteArray
  refs : Int
def kcell (k : KpD) : List Value := [.string k.mark, .string k.text, .int .i64 k.refs]
def kcells (l : List KpD) : List Value := (l.map kcell).flatten
/-- In the order of the marks. -/
def KSrt (l : List KpD) : Prop := l.Pairwise fun a b => cmpB a.mark b.mark < 0
def lookK (m : ByteArray) (l : List KpD) : Option KpD := l.find? fun k => decide (k.mark = m)
/-- The place of a mark. -/
def placeK (m : ByteArray) : List KpD → Nat
  | [] => 0
  | k :: r => if cmpB k.mark m < 0 then placeK m r + 1 else 0
theorem placeK_le (m : ByteArray) : ∀ l : List KpD, placeK m l ≤ l.length
  | [] => Nat.le_refl _
  | k :: r => by
    rw [placeK]
    split
    · have := placeK_le m r; simp; exact this
    · exact Nat.zero_le _
theorem placeK_lo (m : ByteArray) : ∀ (l : List KpD) (i : Nat) (k : KpD), i < placeK m l → l[i]? = some k → cmpB k.mark m < 0
  | [], i, k, h, _ => by simp [placeK] at h
  | x :: r, i, k, h, hk => by
    rw [placeK] at h
    by_cases hx : cmpB x.mark m < 0
    · rw [if_pos hx] at h
      cases i with
      | zero => simp at hk; subst hk; exact hx
      | succ i => exact placeK_lo m r i k (by omega) (by simpa using hk)
    · rw [if_neg hx] at h; omega
theorem placeK_hi (m : ByteArray) : ∀ (l : List KpD), KSrt l → ∀ (i : Nat) (k : KpD), placeK m l ≤ i → l[i]? = some k → ¬ cmpB k.mark m < 0
  | [], _, i, k, _, hk => by simp at hk
  | x :: r, hs, i, k, h, hk => by
    have hs' := List.pairwise_cons.1 hs
    rw [placeK] at h
    by_cases hx : cmpB x.mark m < 0
    · rw [if_pos hx] at h
      cases i with
      | zero => omega
      | succ i => exact placeK_hi m r hs'.2 i k (by omega) (by simpa using hk)
    · cases i with
      | zero => simp at hk; subst hk; exact hx
      | succ i =>
        have hmem : k ∈ r := List.mem_of_getElem? (by simpa using hk)
        intro hc
        exact hx (cmpB_trans (hs'.1 k hmem) hc)
/-- A search that has come to an end has come to the place. -/
theorem placeK_is {m : ByteArray} {l : List KpD} (hs : KSrt l) {i : Nat} (hi : i ≤ l.length) (h1 : ∀ k, 0 < i → l[i - 1]? = some k → cmpB k.mark m < 0) (h2 : ∀ k, l[i]? = some k → ¬ cmpB k.mark m < 0) : placeK m l = i := by
  have hp := placeK_le m l
  rcases Nat.lt_trichotomy (placeK m l) i with h | h | h
  · obtain ⟨k, hk⟩ : ∃ k, l[i - 1]? = some k := ⟨_, List.getElem?_eq_getElem (by omega)⟩
    exact absurd (h1 k (by omega) hk) (placeK_hi m l hs (i - 1) k (by omega) hk)
  · exact h
  · obtain ⟨k, hk⟩ : ∃ k, l[i]? = some k := ⟨_, List.getElem?_eq_getElem (by omega)⟩
    exact absurd (placeK_lo m l i k h hk) (h2 k hk)
theorem look_place {m : ByteArray} {l : List KpD} (hs : KSrt l) : (∃ k, l[placeK m l]? = some k ∧ k.mark = m ∧ lookK m l = some k) ∨ ((∀ k, l[placeK m l]? = some k → k.mark ≠ m) ∧ lookK m l = none) := by
  by_cases h : ∃ k, l[placeK m l]? = some k ∧ k.mark = m
  · obtain ⟨k, hk, hm⟩ := h
    refine .inl ⟨k, hk, hm, ?_⟩
    unfold lookK
    rw [List.find?_eq_some_iff_append]
    refine ⟨decide_eq_true hm, l.take (placeK m l), l.drop (placeK m l + 1), by rw [← drop_head hk, List.take_append_drop], fun x hx => ?_⟩
    obtain ⟨j, hj⟩ := List.getElem?_of_mem hx
    rw [List.getElem?_take] at hj
    by_cases h1 : j < placeK m l
    · rw [if_pos h1] at hj
      have := placeK_lo m l j x h1 hj
      simp
      intro e
      rw [e, cmpB_self] at this
      omega
    · rw [if_neg h1] at hj; cases hj
  · refine .inr ⟨fun k hk hm => h ⟨k, hk, hm⟩, ?_⟩
    unfold lookK
    rw [List.find?_eq_none]
    intro x hx
    obtain ⟨j, hj⟩ := List.getElem?_of_mem hx
    simp
    intro e
    rcases Nat.lt_trichotomy j (placeK m l) with h1 | h1 | h1
    · have := placeK_lo m l j x h1 hj
      rw [e, cmpB_self] at this
      omega
    · exact h ⟨x, by rw [← h1]; exact hj, e⟩
    · obtain ⟨y, hy⟩ : ∃ y, l[placeK m l]? = some y := ⟨_, List.getElem?_eq_getElem (by
        rcases Nat.lt_or_ge j l.length with h2 | h2
        · omega
        · rw [List.getElem?_eq_none h2] at hj; cases hj)⟩
      have h3 := placeK_hi m l hs _ y (Nat.le_refl _) hy
      have hjl : j < l.length := by
        rcases Nat.lt_or_ge j l.length with h2 | h2
        · exact h2
        · rw [List.getElem?_eq_none h2] at hj; cases hj
      have h4 := (List.pairwise_iff_getElem.1 hs) (placeK m l) j (by omega) hjl h1
      rw [List.getElem?_eq_getElem (by omega)] at hy
      rw [List.getElem?_eq_getElem hjl] at hj
      injection hy with hy
      injection hj with hj
      rw [hy, hj, e] at h4
      exact h3 h4
end Go.Proofs.YtmcgaaihdjpdgaaGreatDoor
/- Chapter 11: the place of a mark. -/
namespace Go.Proofs.YtmcgaaihdjpdgaaGreatDoor
open Go.Shelf Go.RowKit
set_option linter.unusedVariables false

theorem compare_any (a b : ByteArray) (w : World) : Calls Tryz.prog 74 #[.string a, .string b] w fun e w' => e = .returned (.int .i64 (cmpB a b)) ∧ w' = w := Any.strings_Compare laysCompare a b w
set_option maxRecDepth 100000 in
theorem plc_any (k : KpD) (m : ByteArray) (w : World) : Calls Tryz.prog 73 #[.agg #[.string k.mark, .string k.text, .int .i64 k.refs], .string m] w fun e w' => e = .returned (.int .i64 (cmpB k.mark m)) ∧ Below w.heap.size w w' := by
  have HO := Lib.hid (fun W => compare_any k.mark m W)
  have hB1 := (Below.refl w.heap.size w).alloc (Nat.le_refl _) (.cells #[.string k.mark, .string k.text, .int .i64 k.refs] 60)
  go_enter Tryz.func73, Tryz.ntmps73
  go_wp2_with (go_at_call 74; (with_reducible refine (HO.out _).mono ?_); rintro e w2 ⟨rfl, rfl⟩)
  go_ret
  exact ⟨rfl, hB1⟩
theorem kcells_len (l : List KpD) : (kcells l).length = l.length * 3 := by
  unfold kcells
  induction l with
  | nil => rfl
  | cons k l ih => rw [List.map_cons, List.flatten_cons, List.length_append, ih, List.length_cons]; simp [kcell]; omega
theorem kcells_app (l m : List KpD) : kcells (l ++ m) = kcells l ++ kcells m := by unfold kcells; rw [List.map_append, List.flatten_append]
theorem kcells_cons (k : KpD) (l : List KpD) : kcells (k :: l) = kcell k ++ kcells l := rfl
theorem kcell_at : ∀ {l : List KpD} {i : Nat} {k : KpD}, l[i]? = some k → (kcells l)[i * 3]? = some (.string k.mark) ∧ (kcells l)[i * 3 + 1]? = some (.string k.text) ∧ (kcells l)[i * 3 + 2]? = some (.int .i64 k.refs)
  | [], i, k, h => by simp at h
  | x :: l, 0, k, h => by simp at h; subst h; exact ⟨rfl, rfl, rfl⟩
  | x :: l, i + 1, k, h => by
    obtain ⟨a, b, c⟩ := kcell_at (l := l) (i := i) (k := k) (by simpa using h)
    have e : (i + 1) * 3 = i * 3 + 3 := by omega
    rw [e]
    exact ⟨a, b, c⟩
theorem kept_cells {w : World} {b o i : Nat} {l : List KpD} {k : KpD} (hc : ∀ j u, (kcells l)[j]? = some u → w.cell? ⟨b, o + j, none⟩ = some u) (h : l[i]? = some k) :
    w.cell? ⟨b, o + i * 3, none⟩ = some (.string k.mark) ∧ w.cell? ⟨b, o + i * 3 + 1, none⟩ = some (.string k.text) ∧ w.cell? ⟨b, o + i * 3 + 2, none⟩ = some (.int .i64 k.refs) := by
  obtain ⟨h0, h1, h2⟩ := kcell_at h
  exact ⟨hc _ _ h0, by rw [Nat.add_assoc]; exact hc _ _ h1, by rw [Nat.add_assoc]; exact hc _ _ h2⟩
def foundK (m : ByteArray) (l : List KpD) : Bool := (lookK m l).isSome
def PlOut (m : ByteArray) (l : List KpD) (w : World) (e : Ending) (w' : World) : Prop := e = .returned (.tuple #[.int .i64 (placeK m l : Nat), .bool (foundK m l)]) ∧ Below w.heap.size w w'
def BkR (w : World) (m : ByteArray) (l : List KpD) (vi vj : Value) (wr : World) : Prop := ∃ (i j : Nat), i ≤ j ∧ j ≤ l.length ∧ vi = .int .i64 i ∧ vj = .int .i64 j ∧ Hid (∀ k, 0 < i → l[i - 1]? = some k → cmpB k.mark m < 0) ∧ Hid (∀ k, l[j]? = some k → 0 ≤ cmpB k.mark m) ∧ Below w.heap.size w wr
set_option maxHeartbeats 2000000 in
set_option maxRecDepth 100000 in
theorem bsk_any (A : Option Addr) (c : Nat) (l : List KpD) (m : ByteArray) (w : World) (hl : l.length ≤ 100000) (hs : KSrt l) (ha : Arr w w.heap.size 3 A l.length (kcells l)) :
    Calls Tryz.prog 72 #[.slice A l.length c, .string m, .func (.func 73) #[] #[]] w (PlOut m l w) := by
  have HA := Lib.hid ha
  have HS := Lib.hid hs
  clear ha hs
  go_enter Tryz.func72, Tryz.ntmps72
  go_wp2
  go_loopw [9, 10] (fun vi vj wr => BkR w m l vi vj wr) (fun vi vj _ => (intOf vj).toNat - (intOf vi).toNat)
  case atStart => unfold BkR; exact ⟨0, l.length, Nat.zero_le _, Nat.le_refl _, rfl, rfl, Lib.hid (fun k h => absurd h (by omega)), Lib.hid (fun k hk => by rw [List.getElem?_eq_none (Nat.le_refl _)] at hk; cases hk), Below.refl _ _⟩
  case round =>
    unfold BkR at hrel
    obtain ⟨i, j, hij, hjl, rfl, rfl, HLO, HHI, hB⟩ := hrel
    by_cases hlt : i < j
    · obtain ⟨M, hM, hM1, hM2⟩ : ∃ M : Nat, ((i : Int) + (j : Int)) / 2 = (M : Int) ∧ i ≤ M ∧ M < j := ⟨(i + j) / 2, by omega, by omega, by omega⟩
      obtain ⟨k, hk⟩ : ∃ k, l[M]? = some k := ⟨_, List.getElem?_eq_getElem (by omega)⟩
      obtain ⟨b, o, rfl, hb, hcell⟩ := HA.out.2 (by omega)
      obtain ⟨c0, c1, c2⟩ := kept_cells (fun i u h => (hB.cell (p := ⟨b, o + i, none⟩) hb).trans (hcell i u h)) hk
      have HC := Lib.hid (fun W => plc_any k m W)
      have Ml : (M : Int) < l.length := by omega
      have HK := Lib.hid hk
      by_cases hO : cmpB k.mark m < 0
      · have HLO2 : Hid (∀ k', 0 < M + 1 → l[M + 1 - 1]? = some k' → cmpB k'.mark m < 0) := Lib.hid fun k' _ h => by
          rw [Nat.add_sub_cancel, HK.out] at h
          injection h with h
          rw [← h]; exact hO
        generalize cmpB k.mark m = S at *
        clear hk hcell
        go_wp2_with (go_at_call 73; (with_reducible refine (HC.out _).mono ?_); rintro e w1 ⟨rfl, hb1⟩)
        go_roundw
        case rel => unfold BkR; exact ⟨M + 1, j, by omega, hjl, by go_num, rfl, HLO2, HHI, below_on hB hb1⟩
        case measure => simp [intOf] <;> omega
      · have HHI2 : Hid (∀ k', l[M]? = some k' → 0 ≤ cmpB k'.mark m) := Lib.hid fun k' h => by
          rw [HK.out] at h
          injection h with h
          rw [← h]; omega
        generalize cmpB k.mark m = S at *
        clear hk hcell
        go_wp2_with (go_at_call 73; (with_reducible refine (HC.out _).mono ?_); rintro e w1 ⟨rfl, hb1⟩)
        go_roundw
        case rel => unfold BkR; exact ⟨i, M, by omega, by omega, rfl, rfl, HLO, HHI2, below_on hB hb1⟩
        case measure => simp [intOf] <;> omega
    · have hij2 : i = j := by omega
      subst hij2
      have hp := placeK_is HS.out hjl HLO.out (fun k hk h => by have := HHI.out k hk; omega)
      have HP := Lib.hid hp
      have hf := look_place (m := m) HS.out
      rw [hp] at hf
      clear hp
      by_cases hil : i < l.length
      · obtain ⟨k, hk⟩ : ∃ k, l[i]? = some k := ⟨_, List.getElem?_eq_getElem hil⟩
        obtain ⟨b, o, rfl, hb, hcell⟩ := HA.out.2 (by omega)
        obtain ⟨c0, c1, c2⟩ := kept_cells (fun i u h => (hB.cell (p := ⟨b, o + i, none⟩) hb).trans (hcell i u h)) hk
        have HC := Lib.hid (fun W => plc_any k m W)
        have il : (i : Int) < l.length := by omega
        by_cases he : k.mark = m
        · have HF : Hid (foundK m l = true) := Lib.hid (by
            rcases hf with ⟨k', h1, h2, h3⟩ | ⟨h1, h2⟩
            · unfold foundK; rw [h3]; rfl
            · exact absurd he (h1 k hk))
          have h0 : cmpB k.mark m = 0 := (cmpB_zero _ _).2 he
          rw [h0] at HC
          clear hf hk hcell h0 he
          go_wp2_with (go_at_call 73; (with_reducible refine (HC.out _).mono ?_); rintro e w1 ⟨rfl, hb1⟩)
          go_ret2
          unfold PlOut
          exact ⟨by rw [HP.out, HF.out]; rfl, below_on hB hb1⟩
        · have HF : Hid (foundK m l = false) := Lib.hid (by
            rcases hf with ⟨k', h1, h2, h3⟩ | ⟨h1, h2⟩
            · rw [hk] at h1; injection h1 with h1; exact absurd (h1 ▸ h2) he
            · unfold foundK; rw [h2]; rfl)
          have h0 : (cmpB k.mark m == 0) = false := by rw [beq_eq_false_iff_ne]; exact fun h => he ((cmpB_zero _ _).1 h)
          generalize cmpB k.mark m = S at *
          clear hf hk hcell he
          go_wp2_with (go_at_call 73; (with_reducible refine (HC.out _).mono ?_); rintro e w1 ⟨rfl, hb1⟩)
          go_ret2
          unfold PlOut
          exact ⟨by rw [HP.out, HF.out]; rfl, below_on hB hb1⟩
      · have HF : Hid (foundK m l = false) := Lib.hid (by
          rcases hf with ⟨k', h1, h2, h3⟩ | ⟨h1, h2⟩
          · rw [List.getElem?_eq_none (by omega)] at h1; cases h1
          · unfold foundK; rw [h2]; rfl)
        have il : ¬ (i : Int) < l.length := by omega
        clear hf
        go_wp2
        go_ret2
        unfold PlOut
        exact ⟨by rw [HP.out, HF.out]; rfl, hB⟩
theorem tcellsK {W : World} {g : Nat} {t : TypeId} {a b c : Value} (h : Blk W g t #[a, b, c]) : W.cell? ⟨g, 0, none⟩ = some a ∧ W.cell? ⟨g, 1, none⟩ = some b ∧ W.cell? ⟨g, 2, none⟩ = some c ∧ W.frozen? ⟨g, 0, none⟩ = false ∧ W.frozen? ⟨g, 1, none⟩ = false ∧ W.frozen? ⟨g, 2, none⟩ = false := ⟨h.cell 0, h.cell 1, h.cell 2, h.frozen 0, h.frozen 1, h.frozen 2⟩
/-- Blobs: their block, their row of texts, their row of roots. -/
structure BlobAt (w : World) (B b : Nat) (VB VL VR : Value) (l : List KpD) (R : List ByteArray) : Prop where
  blk : Blk w b 52 #[VB, VL, VR]
  row : w.ownsRow B 60 3 VL l.length (kcells l)
  roots : w.ownsRow B 9 1 VR R.length (R.map Value.string)
  srt : KSrt l
theorem BlobAt.below {w w' : World} {B b : Nat} {VB VL VR : Value} {l : List KpD} {R : List ByteArray} (h : BlobAt w B b VB VL VR l R) (hb : Below w.heap.size w w') : BlobAt w' B b VB VL VR l R := ⟨h.blk.below hb h.blk.lt, own_below h.row hb, own_below h.roots hb, h.srt⟩
set_option maxRecDepth 100000 in
theorem place_any (B b : Nat) (VB VL VR : Value) (l : List KpD) (R : List ByteArray) (m : ByteArray) (w : World) (hl : l.length ≤ 100000) (h : BlobAt w B b VB VL VR l R) :
    Calls Tryz.prog 42 #[.pointer (some ⟨b, 0, none⟩), .string m] w (PlOut m l w) := by
  obtain ⟨A, c, rfl, _, ha, _⟩ := own_arr h.row
  obtain ⟨k0, k1, k2, _, _, _⟩ := tcellsK h.blk
  have BS := Lib.hid (bsk_any A c l m w hl h.srt ha)
  unfold PlOut at BS
  clear ha h
  go_enter Tryz.func42, Tryz.ntmps42
  go_wp2_with (go_at_call 72; (with_reducible refine (BS.out).mono ?_); rintro e w2 ⟨rfl, hb⟩)
  go_ret2
  unfold PlOut
  exact ⟨rfl, hb⟩
end Go.Proofs.YtmcgaaihdjpdgaaGreatDoor
/- Chapter 11: blobs that nobody gave, or without a book. -/
namespace Go.Proofs.YtmcgaaihdjpdgaaGreatDoor
open Go.RowKit
set_option linter.unusedVariables false

set_option maxRecDepth 100000 in
theorem mno_nil (w : World) : Calls Tryz.prog 44 #[.pointer none] w fun e w' => e = .returned (.bool true) ∧ w' = w := by
  go_enter Tryz.func44, Tryz.ntmps44
  go_wp2
  go_ret
  exact ⟨rfl, rfl⟩
set_option maxRecDepth 100000 in
theorem rdy_nil (w : World) : Calls Tryz.prog 38 #[.pointer none] w fun e w' => e = .returned (.bool false) ∧ w' = w := by
  have H := Lib.hid mno_nil
  go_enter Tryz.func38, Tryz.ntmps38
  go_wp2_with (go_at_call 44; (with_reducible refine (H.out _).mono ?_); rintro e w2 ⟨rfl, rfl⟩)
  go_ret
  exact ⟨rfl, rfl⟩
set_option maxRecDepth 100000 in
theorem non_nil (w : World) : Calls Tryz.prog 18 #[.pointer none] w fun e w' => e = .returned (.bool true) ∧ w' = w := by
  go_enter Tryz.func18, Tryz.ntmps18
  go_wp2
  go_ret
  exact ⟨rfl, rfl⟩
/-- Blobs without a book. -/
def NoB (w : World) (b : Nat) : Prop := Blk w b 52 #[.pointer none, .slice none 0 0, .slice none 0 0]
set_option maxRecDepth 100000 in
theorem non_nob (b : Nat) (w : World) (h : NoB w b) : Calls Tryz.prog 18 #[.pointer (some ⟨b, 0, none⟩)] w fun e w' => e = .returned (.bool true) ∧ w' = w := by
  obtain ⟨k0, k1, k2, _, _, _⟩ := tcellsK h
  have H := Lib.hid rdy_nil
  clear h
  go_enter Tryz.func18, Tryz.ntmps18
  go_wp2_with (go_at_call 38; (with_reducible refine (H.out _).mono ?_); rintro e w2 ⟨rfl, rfl⟩)
  go_ret
  exact ⟨rfl, rfl⟩
/-- What blobs are that keep nothing: nobody's, or without a book. -/
def Empt (w : World) (v : Value) : Prop := v = .pointer none ∨ ∃ b, v = .pointer (some ⟨b, 0, none⟩) ∧ NoB w b
theorem non_empt (v : Value) (w : World) (h : Empt w v) : Calls Tryz.prog 18 #[v] w fun e w' => e = .returned (.bool true) ∧ w' = w := by
  rcases h with rfl | ⟨b, rfl, h⟩
  · exact non_nil w
  · exact non_nob b w h
set_option maxRecDepth 100000 in
theorem put_no (v : Value) (s : ByteArray) (w : World) (h : Empt w v) : Calls Tryz.prog 24 #[v, .string s] w fun e w' => e = .returned (.tuple #[.string ⟨#[]⟩, .int .i64 15]) ∧ w' = w := by
  have H := Lib.hid (non_empt v w h)
  clear h
  go_enter Tryz.func24, Tryz.ntmps24
  go_wp2_with (go_at_call 18; (with_reducible refine (H.out).mono ?_); rintro e w2 ⟨rfl, rfl⟩)
  go_ret2
  exact ⟨rfl, rfl⟩
set_option maxRecDepth 100000 in
theorem drp_no (v : Value) (s : ByteArray) (w : World) (h : Empt w v) : Calls Tryz.prog 29 #[v, .string s] w fun e w' => e = .returned (.int .i64 15) ∧ w' = w := by
  have H := Lib.hid (non_empt v w h)
  clear h
  go_enter Tryz.func29, Tryz.ntmps29
  go_wp2_with (go_at_call 18; (with_reducible refine (H.out).mono ?_); rintro e w2 ⟨rfl, rfl⟩)
  go_ret
  exact ⟨rfl, rfl⟩
set_option maxRecDepth 100000 in
theorem cnt_no (v : Value) (w : World) (h : Empt w v) : Calls Tryz.prog 15 #[v] w fun e w' => e = .returned (.int .i64 0) ∧ w' = w := by
  have H := Lib.hid (non_empt v w h)
  clear h
  go_enter Tryz.func15, Tryz.ntmps15
  go_wp2_with (go_at_call 18; (with_reducible refine (H.out).mono ?_); rintro e w2 ⟨rfl, rfl⟩)
  go_ret
  exact ⟨rfl, rfl⟩
set_option maxRecDepth 100000 in
theorem ref_no (v : Value) (s : ByteArray) (w : World) (h : Empt w v) : Calls Tryz.prog 27 #[v, .string s] w fun e w' => e = .returned (.int .i64 0) ∧ w' = w := by
  have H := Lib.hid (non_empt v w h)
  clear h
  go_enter Tryz.func27, Tryz.ntmps27
  go_wp2_with (go_at_call 18; (with_reducible refine (H.out).mono ?_); rintro e w2 ⟨rfl, rfl⟩)
  go_ret
  exact ⟨rfl, rfl⟩
set_option maxRecDepth 100000 in
theorem sav_no (v u : Value) (w : World) (h : Empt w v) : Calls Tryz.prog 20 #[v, u] w fun e w' => e = .returned (.tuple #[.string ⟨#[]⟩, .int .i64 15]) ∧ w' = w := by
  have H := Lib.hid (non_empt v w h)
  clear h
  go_enter Tryz.func20, Tryz.ntmps20
  go_wp2_with (go_at_call 18; (with_reducible refine (H.out).mono ?_); rintro e w2 ⟨rfl, rfl⟩)
  go_ret2
  exact ⟨rfl, rfl⟩
set_option maxRecDepth 100000 in
theorem get_no (v : Value) (s : ByteArray) (w : World) (h : Empt w v) : Calls Tryz.prog 30 #[v, .string s] w fun e w' => e = .returned (.tuple #[.string ⟨#[]⟩, .int .i64 15]) ∧ w' = w := by
  have H := Lib.hid (non_empt v w h)
  clear h
  go_enter Tryz.func30, Tryz.ntmps30
  go_wp2_with (go_at_call 18; (with_reducible refine (H.out).mono ?_); rintro e w2 ⟨rfl, rfl⟩)
  go_ret2
  exact ⟨rfl, rfl⟩
set_option maxRecDepth 100000 in
theorem frg_no (v : Value) (s : ByteArray) (w : World) (h : Empt w v) : Calls Tryz.prog 36 #[v, .string s] w fun e w' => e = .returned (.int .i64 15) ∧ w' = w := by
  have H := Lib.hid (non_empt v w h)
  clear h
  go_enter Tryz.func36, Tryz.ntmps36
  go_wp2_with (go_at_call 18; (with_reducible refine (H.out).mono ?_); rintro e w2 ⟨rfl, rfl⟩)
  go_ret
  exact ⟨rfl, rfl⟩
set_option maxRecDepth 100000 in
theorem byt_no (v : Value) (w : World) (h : Empt w v) : Calls Tryz.prog 16 #[v] w fun e w' => e = .returned (.int .i64 0) ∧ w' = w := by
  have H := Lib.hid (non_empt v w h)
  clear h
  go_enter Tryz.func16, Tryz.ntmps16
  go_wp2_with (go_at_call 18; (with_reducible refine (H.out).mono ?_); rintro e w2 ⟨rfl, rfl⟩)
  go_ret
  exact ⟨rfl, rfl⟩
set_option maxRecDepth 100000 in
theorem rts_no (v : Value) (w : World) (h : Empt w v) : Calls Tryz.prog 17 #[v] w fun e w' => e = .returned (.slice none 0 0) ∧ w' = w := by
  have H := Lib.hid (non_empt v w h)
  clear h
  go_enter Tryz.func17, Tryz.ntmps17
  go_wp2_with (go_at_call 18; (with_reducible refine (H.out).mono ?_); rintro e w2 ⟨rfl, rfl⟩)
  go_ret
  exact ⟨rfl, rfl⟩
set_option maxRecDepth 100000 in
theorem chk_no (v : Value) (w : World) (h : Empt w v) : Calls Tryz.prog 7 #[v] w fun e w' => e = .returned (.bool false) ∧ w' = w := by
  have H := Lib.hid (non_empt v w h)
  clear h
  go_enter Tryz.func7, Tryz.ntmps7
  go_wp2_with (go_at_call 18; (with_reducible refine (H.out).mono ?_); rintro e w2 ⟨rfl, rfl⟩)
  go_ret
  exact ⟨rfl, rfl⟩
set_option maxRecDepth 100000 in
theorem new_any (p : Option Addr) (w : World) : Calls Tryz.prog 10 #[.pointer p] w fun e w' => e = .returned (.pointer (some ⟨w.heap.size, 0, none⟩)) ∧ w' = w.alloc (.cells #[.pointer p, .slice none 0 0, .slice none 0 0] 52) := by
  go_enter Tryz.func10, Tryz.ntmps10
  go_wp2
  go_ret
  exact ⟨rfl, rfl⟩
end Go.Proofs.YtmcgaaihdjpdgaaGreatDoor
