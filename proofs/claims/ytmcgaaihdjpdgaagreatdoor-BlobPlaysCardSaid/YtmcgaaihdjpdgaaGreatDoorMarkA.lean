/- The walk through numbered.; The walks through the ideal book: Ideal, none, Mark, Is.; The walk through Items.; The walk through TreeItems. -/
import Derived.Test.YtmcgaaihdjpdgaaGreatDoorTreeWB
import Derived.Test.YtmcgaaihdjpdgaaGreatDoorNumPlain
import Derived.Laws.IdiomStrings
import Derived.Maps.OwnSet
import Derived.Test.YtmcgaaihdjpdgaaGreatDoorTreeMix
import Derived.Deep.RegionHeld3
import Derived.Deep.AppendLies
import Derived.Test.YtmcgaaihdjpdgaaGreatDoorImBackPl
import Derived.Test.YtmcgaaihdjpdgaaGreatDoorCls
/- The walk through numbered. -/
namespace Go.Proofs.YtmcgaaihdjpdgaaGreatDoor
open Go.RowKit
set_option linter.unusedVariables false

def numT (n : Nat) : List UInt8 := (n % 256).toUInt8 :: (n / 256).toUInt8 :: List.replicate 30 0
def numTS (n : Nat) : ByteArray := ⟨(numT n).toArray⟩
theorem numTS_size (n : Nat) : (numTS n).size = 32 := rfl
theorem numTS_inj {a b : Nat} (ha : a ≤ 65535) (hb : b ≤ 65535) (h : numTS a = numTS b) : a = b := by
  have e : (numT a) = (numT b) := by
    have := congrArg (fun x : ByteArray => x.data.toList) h
    exact this
  unfold numT at e
  injection e with e1 e2
  injection e2 with e2 _
  have h1 := congrArg UInt8.toNat e1
  have h2 := congrArg UInt8.toNat e2
  rw [toUInt8_toNat _ (by omega), toUInt8_toNat _ (by omega)] at h1 h2
  omega
def nrow (n k : Nat) : Array Value :=
  if k = 0 then (Value.int .u8 0 :: Value.int .u8 0 :: List.replicate 30 (Value.int .u8 0)).toArray
  else if k = 1 then (Value.int .u8 (n % 256 : Nat) :: Value.int .u8 0 :: List.replicate 30 (Value.int .u8 0)).toArray
  else (Value.int .u8 (n % 256 : Nat) :: Value.int .u8 (n / 256 : Nat) :: List.replicate 30 (Value.int .u8 0)).toArray
theorem nrow_0 (n : Nat) : nrow n 0 = (Value.int .u8 0 :: Value.int .u8 0 :: List.replicate 30 (Value.int .u8 0)).toArray := rfl
theorem nrow_s (n k : Nat) (h : 2 ≤ k) : nrow n k = (Value.int .u8 (n % 256 : Nat) :: Value.int .u8 (n / 256 : Nat) :: List.replicate 30 (Value.int .u8 0)).toArray := by
  unfold nrow
  rw [if_neg (by omega), if_neg (by omega)]
theorem rep_zero {α : Type} (x : α) (n i : Nat) (h : i < n) : (List.replicate n x)[i]? = some x := by rw [List.getElem?_eq_getElem (by simpa using h)]; simp
theorem nrow_get {n k : Nat} (h : k < 32) : (nrow n k)[k]? = some (.int .u8 0) := by
  rcases (by omega : k = 0 ∨ k = 1 ∨ 2 ≤ k) with rfl | rfl | hp
  · rfl
  · rfl
  · rw [nrow_s n k hp]
    obtain ⟨j, rfl⟩ : ∃ j, k = j + 1 + 1 := ⟨k - 2, by omega⟩
    simp only [List.getElem?_toArray, List.getElem?_cons_succ]
    exact rep_zero _ _ _ (by omega)
theorem nrow_first (n : Nat) : (nrow n 0).setIfInBounds 0 (.int .u8 (n % 256 : Nat)) = nrow n 1 := rfl
theorem nrow_second (n : Nat) : (nrow n 1).setIfInBounds 1 (.int .u8 (n / 256 : Nat)) = nrow n 2 := rfl
theorem nrow_next {n k : Nat} (h0 : 2 ≤ k) (h : k < 32) : (nrow n k).setIfInBounds k (.int .u8 0) = nrow n (k + 1) := by
  have hg := nrow_get (n := n) h
  rw [nrow_s n (k + 1) (by omega), ← nrow_s n k h0]
  apply Array.ext_getElem?
  intro i
  rw [Array.getElem?_setIfInBounds]
  split
  · rename_i e
    subst e
    rw [hg]
    split
    · rfl
    · rename_i hh
      exact absurd (Array.getElem?_eq_some_iff.1 hg).1 hh
  · rfl
theorem nrow_end (n j : Nat) (h : j < 32) (hn : n ≤ 65535) : (nrow n 32)[j]? = ((numT n)[j]?).map fun u => Value.int .u8 (u.toNat : Int) := by
  rw [nrow_s n 32 (by decide)]
  unfold numT
  rcases (by omega : j = 0 ∨ j = 1 ∨ 2 ≤ j) with rfl | rfl | hp
  · simp only [List.getElem?_toArray, List.getElem?_cons_zero, Option.map_some, toUInt8_toNat (n % 256) (by omega)]
  · simp only [List.getElem?_toArray, List.getElem?_cons_succ, List.getElem?_cons_zero, Option.map_some, toUInt8_toNat (n / 256) (by omega)]
  · obtain ⟨i, rfl⟩ : ∃ i, j = i + 1 + 1 := ⟨j - 2, by omega⟩
    simp only [List.getElem?_toArray, List.getElem?_cons_succ]
    rw [rep_zero _ _ _ (by omega), rep_zero _ _ _ (by omega)]
    rfl
theorem infoU8 : (Tryz.prog.info? 5).map (fun i => (i.zero, i.size, i.bytes)) = some (some (.int .u8 0), 1, 1) := by kernel_rfl
theorem make_32 (W : World) : ∃ W1, (Instr.makeSlice 104 (.int .i64 32) (.int .i64 32)).run Tryz.prog W = .ok (.slice (some ⟨W.heap.size, 0, none⟩) 32 32) W1 ∧
    Blk W1 W.heap.size 5 (nrow 0 0) ∧ Below W.heap.size W W1 ∧ W1.heap.size = W.heap.size + 1 := by
  have h := run_make_row' (P := Tryz.prog) 104 5 (.int .u8 0) 1 Tryz.underlying104 infoU8 rfl .i64 .i64 32 (by decide) (by decide) W
  have e : madeCells #[.int .u8 0] 32 = nrow 0 0 := by
    apply Array.ext_getElem?
    intro j
    unfold madeCells
    rw [Array.getElem?_map, Array.getElem?_range]
    by_cases hj : j < 32
    · rw [if_pos (by simpa using hj)]
      rcases Nat.eq_zero_or_pos j with rfl | hp
      · simp [Nat.mod_one, nrow]
      · rw [nrow_0]
        rcases (by omega : j = 1 ∨ 2 ≤ j) with rfl | hp
        · simp [Nat.mod_one]
        · obtain ⟨i, rfl⟩ : ∃ i, j = i + 1 + 1 := ⟨j - 2, by omega⟩
          simp only [List.getElem?_toArray, List.getElem?_cons_succ]
          rw [rep_zero _ _ _ (by omega)]
          simp [Nat.mod_one]
    · rw [if_neg (by simpa using hj), Array.getElem?_eq_none (by rw [nrow_0]; simp; omega)]
      rfl
  rw [e] at h
  exact ⟨_, h, Blk.new _ _ _, (Below.refl _ W).alloc (Nat.le_refl _) _, by simp⟩
theorem conv_32 (n B C : Nat) (w : World) (hn : n ≤ 65535) (h : Blk w B 5 (nrow n 32)) : (convert 104 9 (.slice (some ⟨B, 0, none⟩) 32 C)).run Tryz.prog w = .ok (.string (numTS n)) w := by
  have := run_convert_bytes_back (P := Tryz.prog) w 104 9 5 ⟨B, 0, none⟩ C (numT n) Tryz.underlying104 Tryz.underlying5 Tryz.underlying9 (by
    intro j hj
    have hadd : (⟨B, 0, none⟩ : Addr).add j = ⟨B, j, none⟩ := by unfold Addr.add; split <;> simp_all
    rw [hadd, h.cell j, nrow_end n j hj hn, List.getElem?_eq_getElem hj]
    rfl)
  exact this
set_option maxHeartbeats 1000000 in
set_option maxRecDepth 100000 in
theorem numbered_any (n : Nat) (w : World) (hn : n ≤ 65535) :
    Calls Tryz.prog 46 #[.int .i64 n] w fun e w' => e = .returned (.string (numTS n)) ∧ Below w.heap.size w w' := by
  obtain ⟨W1, hmk, hrow, hB, hz⟩ := make_32 w
  go_enter Tryz.func46, Tryz.ntmps46
  go_wp2
  go_loopw [8] (fun v wr => ∃ (k : Nat), k ≤ 32 ∧ v = .int .i64 k ∧ Hid (Blk wr w.heap.size 5 (nrow n k)) ∧ Below w.heap.size w wr) (fun v _ => 32 - (intOf v).toNat)
  case atStart => exact ⟨0, Nat.zero_le _, rfl, Lib.hid hrow, hB⟩
  case round =>
    obtain ⟨k, hk, rfl, H, hB⟩ := hrel
    by_cases hlt : k < 32
    · have c1 := (H.out.cell k).trans (nrow_get hlt)
      have f1 := H.out.frozen k
      have i0 : 0 ≤ (k : Int) := by omega
      have i1 : (k : Int) < 32 := by omega
      by_cases h0 : k = 0
      · subst h0
        have e0 : (n : Int) / 2 ^ (8 * min (0 : Int) 7).toNat % 256 = (n % 256 : Nat) := by
          rw [show (8 * min (0 : Int) 7).toNat = 0 by decide]
          omega
        have hst := H.out.set_ 0 (.int .u8 (n % 256 : Nat))
        rw [nrow_first] at hst
        have hst := Lib.hid hst
        go_wp2
        go_roundw
        case rel => exact ⟨1, by omega, rfl, hst, hB.setCell (Nat.le_refl _) _⟩
        case measure => decide
      · by_cases h1 : k = 1
        · subst h1
          have e0 : (n : Int) / 2 ^ (8 * min (1 : Int) 7).toNat % 256 = (n / 256 : Nat) := by
            rw [show (8 * min (1 : Int) 7).toNat = 8 by decide]
            omega
          have hst := H.out.set_ 1 (.int .u8 (n / 256 : Nat))
          rw [nrow_second] at hst
          have hst := Lib.hid hst
          go_wp2
          go_roundw
          case rel => exact ⟨2, by omega, rfl, hst, hB.setCell (Nat.le_refl _) _⟩
          case measure => decide
        have h2 : 2 ≤ k := by omega
        by_cases h7 : 7 < k
        · have j7 : (7 : Int) < k := by omega
          have hmn : min (k : Int) 7 = 7 := by omega
          have hst := fun u => (H.out.set_ k u).set_ k (.int .u8 0)
          simp only [Array.setIfInBounds_setIfInBounds, nrow_next h2 hlt] at hst
          have hst := Lib.hid hst
          go_wp2
          go_roundw
          case rel => exact ⟨k + 1, by omega, by go_num, Lib.hid (hst.out _), (hB.setCell (Nat.le_refl _) _).setCell (Nat.le_refl _) _⟩
          case measure => simp [intOf] <;> omega
        · have j7 : ¬ (7 : Int) < k := by omega
          have hmn : min (k : Int) 7 = k := by omega
          have e0 : (n : Int) / 2 ^ (8 * k) % 256 = 0 := by
            rcases (by omega : k = 2 ∨ k = 3 ∨ k = 4 ∨ k = 5 ∨ k = 6 ∨ k = 7) with rfl | rfl | rfl | rfl | rfl | rfl <;> simp <;> omega
          have hst := H.out.set_ k (.int .u8 0)
          rw [nrow_next h2 hlt] at hst
          have hst := Lib.hid hst
          go_wp2
          go_roundw
          case rel => exact ⟨k + 1, by omega, by go_num, hst, hB.setCell (Nat.le_refl _) _⟩
          case measure => simp [intOf] <;> omega
    · have hke : k = 32 := by omega
      subst hke
      have hcv := conv_32 n w.heap.size 32 wr hn H.out
      clear H
      go_wp2
      go_ret
      exact ⟨rfl, hB⟩
end Go.Proofs.YtmcgaaihdjpdgaaGreatDoor
/- The walks through the ideal book: Ideal, none, Mark, Is. -/
namespace Go.Proofs.YtmcgaaihdjpdgaaGreatDoor
open Go.RowKit
open Go.Maps (Keyed IsMap)
set_option linter.unusedVariables false

theorem key_law : Keyed Tryz.prog 9 := Maps.string_keyed Tryz.underlying9
theorem zint (w : World) : (zeroValue 3).run Tryz.prog w = .ok (.int .i64 0) w := by kernel_rfl
/-- The book: of its cells these alone are read. -/
noncomputable def bkC (m : Nat) : Array Value := (Tryz.zeroCells71.setIfInBounds 74 (Value.bool true)).setIfInBounds 73 (Value.map (some m))
def Bk (w : World) (b m : Nat) : Prop := Blk w b 71 (bkC m)
theorem Bk.cells {w : World} {b m : Nat} (h : Bk w b m) : w.cell? ⟨b, 72, none⟩ = some (.bool false) ∧ w.cell? ⟨b, 73, none⟩ = some (.map (some m)) ∧ w.cell? ⟨b, 74, none⟩ = some (.bool true) := ⟨(h.cell 72).trans (by rfl), (h.cell 73).trans (by rfl), (h.cell 74).trans (by rfl)⟩
/-- What is seen. -/
abbrev MapAt (w : World) (m n : Nat) (D : DataW Unit) : Prop := w.ownsMap Tryz.prog 9 (plainElem Tryz.prog 3) m n D
theorem MapAt.below {w w' : World} {m n B : Nat} {D : DataW Unit} (h : MapAt w m n D) (hb : Below B w w') (hm : m < B) : MapAt w' m n D := by
  obtain ⟨es, clock, hg, F, hs, hD⟩ := h
  exact ⟨es, clock, (hb.block m hm).trans hg, F, hs, hD⟩
theorem Bk.ne {w : World} {b m n : Nat} {D : DataW Unit} {k : Nat} (h : Bk w b k) (h' : MapAt w m n D) : b ≠ m := by
  rintro rfl
  obtain ⟨es, clock, hg, _⟩ := h'
  unfold Bk Blk at h
  rw [hg] at h
  cases h
def kl (s : ByteArray) : Lit := .string s.data.toList
/-- A text has a mark. -/
def Marked (D : DataW Unit) (s q : ByteArray) : Prop := ∃ c : Nat, c ≤ 65535 ∧ Maps.has D (kl s) = true ∧ D.atKey (kl s) (.lit (.int .i64 0)) = .lit (.int .i64 c) ∧ q = numTS c
def GoodD (D : DataW Unit) (n : Nat) : Prop := (∀ k, Maps.has D k = true → ∃ c : Nat, c ≤ n ∧ c ≤ Maps.size D ∧ D.atKey k (.lit (.int .i64 0)) = .lit (.int .i64 c)) ∧
  ∀ k k' d, Maps.has D k = true → Maps.has D k' = true → D.atKey k (.lit (.int .i64 0)) = d → D.atKey k' (.lit (.int .i64 0)) = d → k = k'
theorem good_nil : GoodD (.map []) 0 := by
  refine ⟨fun k h => ?_, fun k k' d h => ?_⟩ <;> exact absurd h (by simp [Maps.has])
theorem kl_key (s : ByteArray) : WideAt.IsKeyLit (kl s) := trivial
theorem lit_inj {a b : Int} (h : (DataW.lit (.int .i64 a) : DataW Unit) = .lit (.int .i64 b)) : a = b := by
  injection h with h
  injection h
theorem good_put {D : DataW Unit} {n : Nat} (h : GoodD D n) (hm : IsMap D) (ht : Maps.Tidy D) (s : ByteArray) (hn : Maps.has D (kl s) = false) (hz : Maps.size D ≤ n) : GoodD (D.put (kl s) (.lit (.int .i64 ((Maps.size D + 1 : Nat) : Int)))) (n + 1) := by
  have hsz := Maps.size_put ht (k := kl s) (.lit (.int .i64 ((Maps.size D + 1 : Nat) : Int)))
  rw [hn, if_neg (by simp)] at hsz
  refine ⟨fun k hk => ?_, fun k k' d hk hk' h1 h2 => ?_⟩
  · by_cases e : k = kl s
    · subst e
      exact ⟨Maps.size D + 1, by omega, by rw [hsz]; exact Nat.le_refl _, Maps.atKey_put_same hm (kl_key s) _ _⟩
    · rw [Maps.has_put_other e] at hk
      obtain ⟨x, h1, h2, h3⟩ := h.1 k hk
      exact ⟨x, by omega, by rw [hsz]; omega, (Maps.atKey_put_other e _ _).trans h3⟩
  · by_cases e : k = kl s
    · by_cases e' : k' = kl s
      · rw [e, e']
      · exfalso
        rw [Maps.has_put_other e'] at hk'
        obtain ⟨x, g1, g2, g3⟩ := h.1 k' hk'
        rw [Maps.atKey_put_other e', g3] at h2
        subst e
        rw [Maps.atKey_put_same hm (kl_key s)] at h1
        rw [← h1] at h2
        have := lit_inj h2
        omega
    · by_cases e' : k' = kl s
      · exfalso
        rw [Maps.has_put_other e] at hk
        obtain ⟨x, g1, g2, g3⟩ := h.1 k hk
        rw [Maps.atKey_put_other e, g3] at h1
        subst e'
        rw [Maps.atKey_put_same hm (kl_key s)] at h2
        rw [← h1] at h2
        have := lit_inj h2
        omega
      · rw [Maps.has_put_other e] at hk
        rw [Maps.has_put_other e'] at hk'
        rw [Maps.atKey_put_other e] at h1
        rw [Maps.atKey_put_other e'] at h2
        exact h.2 k k' d hk hk' h1 h2
theorem good_mono {D : DataW Unit} {n : Nat} (h : GoodD D n) : GoodD D (n + 1) := ⟨fun k hk => by obtain ⟨c, h1, h2⟩ := h.1 k hk; exact ⟨c, by omega, h2⟩, h.2⟩
theorem marked_fun {D : DataW Unit} {s q q' : ByteArray} (h : Marked D s q) (h' : Marked D s q') : q = q' := by
  obtain ⟨c, _, _, h1, rfl⟩ := h
  obtain ⟨c', _, _, h2, rfl⟩ := h'
  have := lit_inj (h1.symm.trans h2)
  rw [show c = c' by omega]
theorem kl_inj {s s' : ByteArray} (h : kl s = kl s') : s = s' := by
  unfold kl at h
  injection h with h
  exact ByteArray.ext (Array.toList_inj.1 h)
theorem marked_inj {D : DataW Unit} {n : Nat} (hg : GoodD D n) {s s' q : ByteArray} (h : Marked D s q) (h' : Marked D s' q) : s = s' := by
  obtain ⟨c, c1, c2, c3, rfl⟩ := h
  obtain ⟨c', d1, d2, d3, e⟩ := h'
  have := numTS_inj c1 d1 e
  subst this
  exact kl_inj (hg.2 _ _ _ c2 d2 c3 d3)
theorem marked_size {D : DataW Unit} {s q : ByteArray} (h : Marked D s q) : q.size = 32 := by
  obtain ⟨c, _, _, _, rfl⟩ := h
  exact numTS_size c
theorem marked_put {D : DataW Unit} {s s' q : ByteArray} {d : DataW Unit} (h : Marked D s q) (hn : Maps.has D (kl s') = false) : Marked (D.put (kl s') d) s q := by
  obtain ⟨c, h1, h2, h3, h4⟩ := h
  have e : kl s ≠ kl s' := fun e => by rw [e, hn] at h2; cases h2
  exact ⟨c, h1, by rw [Maps.has_put_other e]; exact h2, by rw [Maps.atKey_put_other e]; exact h3, h4⟩
theorem marked_new {D : DataW Unit} {s : ByteArray} {c : Nat} (hm : IsMap D) (hc : c ≤ 65535) : Marked (D.put (kl s) (.lit (.int .i64 c))) s (numTS c) :=
  ⟨c, hc, Maps.has_put_same hm (kl_key s) _, Maps.atKey_put_same hm (kl_key s) _ _, rfl⟩

set_option maxHeartbeats 1000000 in
set_option maxRecDepth 100000 in
theorem ideal_any (w : World) :
    Calls Tryz.prog 9 #[] w fun e w' => e = .returned (.pointer (some ⟨w.heap.size + 1, 0, none⟩)) ∧ Bk w' (w.heap.size + 1) w.heap.size ∧ MapAt w' w.heap.size 0 (.map []) ∧ Below w.heap.size w w' ∧ w'.heap.size = w.heap.size + 2 := by
  have hmm := @run_makeMap Tryz.prog
  go_enter Tryz.func9, Tryz.ntmps9
  go_wp2
  go_ret
  refine ⟨rfl, ?_, (World.ownsMap_made (H := Unit) w Tryz.prog 9 (plainElem Tryz.prog 3)).alloc _, ((Below.refl _ w).alloc (Nat.le_refl _) _).alloc (by simp) _, by simp⟩
  have := Blk.new (w.alloc (.map #[] 0)) 71 (bkC w.heap.size)
  rw [show (w.alloc (.map #[] 0)).heap.size = w.heap.size + 1 by simp] at this
  exact this
set_option maxHeartbeats 1000000 in
set_option maxRecDepth 100000 in
theorem none_any (b m : Nat) (w : World) (h : Bk w b m) :
    Calls Tryz.prog 44 #[.pointer (some ⟨b, 0, none⟩)] w fun e w' => e = .returned (.bool false) ∧ Below w.heap.size w w' := by
  obtain ⟨c1, c2, c3⟩ := h.cells
  clear h
  go_enter Tryz.func44, Tryz.ntmps44
  go_wp2
  go_ret
  exact ⟨rfl, Below.refl _ _⟩
theorem grown_of_below {w w' : World} {row : Option Nat} (hb : Below w.heap.size w w') : w.grownBy w' row := by
  obtain ⟨a, b, c, d, e⟩ := hb
  exact ⟨a, b, c, d, fun i h _ => e i h⟩
theorem wf_small {c : Int} (h0 : 0 ≤ c) (h1 : c ≤ 65535) : (Lit.int .i64 c).wf = true := by
  simp only [Lit.wf, IntKind.min, IntKind.max, IntKind.signed, IntKind.bits, Bool.and_eq_true, decide_eq_true_eq, if_true]
  omega

set_option maxHeartbeats 1000000 in
set_option maxRecDepth 100000 in
theorem is_any (b m n : Nat) (D : DataW Unit) (s q : ByteArray) (w : World) (h : Bk w b m) (hown : MapAt w m n D) (hs : s.size ≤ 9223372036854775807) (hq : Marked D s q) :
    Calls Tryz.prog 26 #[.pointer (some ⟨b, 0, none⟩), .string s, .string q] w fun e w' => e = .returned (.bool true) ∧ Below w.heap.size w w' := by
  obtain ⟨c, hc, hhas, hat0, rfl⟩ := hq
  have hkey := WideMaps.keyOf_string_mk (P := Tryz.prog) Tryz.underlying9 (s := s) (by unfold maxLen; omega)
  have HN := Lib.hid (fun W => none_any b m W)
  have HM := Lib.hid (fun W => numbered_any c W hc)
  generalize numTS c = q at *
  have HO := Lib.hid hown
  have HB := Lib.hid h
  have hlt := hown.lt
  have HH := Lib.hid hhas
  have HA := Lib.hid hat0
  clear hown h hc hhas hat0
  go_enter Tryz.func26, Tryz.ntmps26
  go_wp2_with (first
    | (go_at_call 44; (with_reducible refine (HN.out _ HB.out).mono ?_); rintro e w1 ⟨rfl, hb1⟩; have HO := Lib.hid (MapAt.below HO.out hb1 hlt); have HB1 : Bk w1 b m := Blk.below HB.out hb1 HB.out.lt; obtain ⟨c1, c2, c3⟩ := HB1.cells)
    | (at_lookup; refine wpList_lookup_own_ok_int _ rfl _ _ 49 rfl 9 3 .i64 key_law Tryz.underlying49 Tryz.underlying3 (zint _) m n D rfl HO.out _ _ rfl hkey ?_; intro cL hat hwc; rw [show Maps.has D (.string s.data.toList) = true from HH.out]; obtain rfl := lit_inj (hat.symm.trans HA.out))
    | (go_at_call 46; (with_reducible refine (HM.out _).mono ?_); rintro e w2 ⟨rfl, hb2⟩))
  go_ret
  exact ⟨rfl, below_on hb1 hb2⟩

set_option maxHeartbeats 1000000 in
set_option maxRecDepth 100000 in
theorem mark_any (b m n : Nat) (D : DataW Unit) (s : ByteArray) (w : World) (h : Bk w b m) (hown : MapAt w m n D) (hg : GoodD D n) (hn : n ≤ 65000) (hs : s.size ≤ 9223372036854775807) :
    Calls Tryz.prog 28 #[.pointer (some ⟨b, 0, none⟩), .string s] w fun e w' => ∃ q D', e = .returned (.string q) ∧ q.size = 32 ∧ Marked D' s q ∧ (∀ s' q', Marked D s' q' → Marked D' s' q') ∧ Bk w' b m ∧ MapAt w' m (n + 1) D' ∧ GoodD D' (n + 1) ∧ w.grownBy w' (some m) := by
  have hkey := WideMaps.keyOf_string_mk (P := Tryz.prog) Tryz.underlying9 (s := s) (by unfold maxLen; omega)
  have HN := Lib.hid (fun W => none_any b m W)
  have hlt := hown.lt
  have hne := h.ne hown
  have hsz := hown.size_le
  have him := hown.isMap
  have hti := hown.tidy key_law
  have HO := Lib.hid hown
  have HB := Lib.hid h
  by_cases hhas : Maps.has D (kl s) = true
  · obtain ⟨c, hc, _, hat0⟩ := hg.1 _ hhas
    have HM := Lib.hid (fun W => numbered_any c W (by omega))
    have HD : Hid (Marked D s (numTS c)) := Lib.hid ⟨c, by omega, hhas, hat0, rfl⟩
    have hq := numTS_size c
    generalize numTS c = q at *
    have HH := Lib.hid hhas
    have HA := Lib.hid hat0
    have HG := Lib.hid hg
    clear hown h hhas hat0 hg hc hti
    go_enter Tryz.func28, Tryz.ntmps28
    go_wp2_with (first
      | (go_at_call 44; (with_reducible refine (HN.out _ HB.out).mono ?_); rintro e w1 ⟨rfl, hb1⟩; have HO := Lib.hid (MapAt.below HO.out hb1 hlt); have HB1 : Bk w1 b m := Blk.below HB.out hb1 HB.out.lt; obtain ⟨c1, c2, c3⟩ := HB1.cells)
      | (at_lookup; refine wpList_lookup_own_ok_int _ rfl _ _ 49 rfl 9 3 .i64 key_law Tryz.underlying49 Tryz.underlying3 (zint _) m n D rfl HO.out _ _ rfl hkey ?_; intro cL hat hwc; rw [show Maps.has D (.string s.data.toList) = true from HH.out]; obtain rfl := lit_inj (hat.symm.trans HA.out))
      | (go_at_call 46; (with_reducible refine (HM.out _).mono ?_); rintro e w2 ⟨rfl, hb2⟩))
    go_ret
    exact ⟨q, D, rfl, hq, HD.out, fun _ _ h => h, Blk.below HB1 hb2 (Blk.lt HB1), (MapAt.below HO.out hb2 HO.out.lt).mono (by omega), good_mono HG.out, grown_of_below (below_on hb1 hb2)⟩
  · have hhas : Maps.has D (kl s) = false := by simpa using hhas
    have hput0 := good_put hg him hti s hhas hsz
    obtain ⟨Z, hZ⟩ : ∃ Z, Maps.size D = Z := ⟨_, rfl⟩
    rw [hZ] at hsz hput0
    have hM := fun W => numbered_any (Z + 1) W (by omega)
    have hput := Lib.hid hput0
    have hnew : Hid (Marked (D.put (kl s) (.lit (.int .i64 ((Z + 1 : Nat) : Int)))) s (numTS (Z + 1))) := Lib.hid (marked_new him (by omega))
    have hold : Hid (∀ s' q', Marked D s' q' → Marked (D.put (kl s) (.lit (.int .i64 ((Z + 1 : Nat) : Int)))) s' q') := Lib.hid (fun s' q' hh => marked_put hh hhas)
    have hcast : ((Z + 1 : Nat) : Int) = (Z : Int) + 1 := rfl
    rw [hcast] at hput hnew hold
    simp only [hcast] at hM
    have hq := numTS_size (Z + 1)
    generalize numTS (Z + 1) = q at *
    have HM := Lib.hid hM
    have HH := Lib.hid hhas
    have HZ := Lib.hid hZ
    have hwf : (Lit.int .i64 ((Z : Int) + 1)).wf = true := wf_small (by omega) (by omega)
    clear hown h hhas hg hM hcast him hti hput0
    go_enter Tryz.func28, Tryz.ntmps28
    go_wp2_with (first
      | (go_at_call 44; (with_reducible refine (HN.out _ HB.out).mono ?_); rintro e w1 ⟨rfl, hb1⟩; have HO := Lib.hid (MapAt.below HO.out hb1 hlt); have HB1 : Bk w1 b m := Blk.below HB.out hb1 HB.out.lt; obtain ⟨c1, c2, c3⟩ := HB1.cells)
      | (at_lookup; refine wpList_lookup_own_ok_int _ rfl _ _ 49 rfl 9 3 .i64 key_law Tryz.underlying49 Tryz.underlying3 (zint _) m n D rfl HO.out _ _ rfl hkey ?_; intro cL hat hwc; rw [show Maps.has D (.string s.data.toList) = false from HH.out])
      | (at_len; refine wpList_len_own _ rfl _ 49 rfl 9 3 Tryz.underlying49 _ m n D rfl HO.out ?_; rw [HZ.out])
      | (at_mapUpdate; refine wpList_mapUpdate_own _ rfl _ _ _ 49 rfl 9 3 key_law Tryz.underlying49 _ m n D rfl HO.out (by unfold maxLen; omega) _ _ _ rfl rfl hkey _ [] (plainElem_int Tryz.underlying3 hwf) ?_; intro w3 hown3 hgrow3; have HB3 : Bk w3 b m := Blk.grown HB1 hgrow3 (by simpa using hne))
      | (go_at_call 46; (with_reducible refine (HM.out _).mono ?_); rintro e w2 ⟨rfl, hb2⟩))
    go_ret
    exact ⟨q, _, rfl, hq, hnew.out, hold.out, Blk.below HB3 hb2 (Blk.lt HB3), MapAt.below hown3 hb2 hown3.lt, hput.out, ((grown_of_below hb1).trans hgrow3).trans (grown_of_below hb2)⟩
end Go.Proofs.YtmcgaaihdjpdgaaGreatDoor
/- The walk through Items. -/
namespace Go.Proofs.YtmcgaaihdjpdgaaGreatDoor
open Go.RowKit
open Go.Maps (Keyed IsMap)
set_option linter.unusedVariables false

def mkI (f : FileD) (q : ByteArray) : ItemD := ⟨f.path, f.mode, f.data.size, q⟩
/-- Items that are a list of files with marks that a book holds. -/
def ItFits (D : DataW Unit) (l : List FileD) (acc : List ItemD) : Prop := acc.length = l.length ∧ ∀ (i : Nat) (f : FileD), l[i]? = some f → ∃ q, acc[i]? = some (mkI f q) ∧ q.size = 32 ∧ Marked D f.data q
theorem itfits_nil (D : DataW Unit) : ItFits D [] [] := ⟨rfl, fun i f h => by simp at h⟩
theorem itfits_snoc {D D' : DataW Unit} {l : List FileD} {acc : List ItemD} {k : Nat} {f : FileD} {q : ByteArray} (h : ItFits D (l.take k) acc) (hf : l[k]? = some f) (hq : q.size = 32) (hm : Marked D' f.data q) (ho : ∀ s' q', Marked D s' q' → Marked D' s' q') :
    ItFits D' (l.take (k + 1)) (acc ++ [mkI f q]) := by
  obtain ⟨hl, ha⟩ := h
  have hk : k < l.length := (List.getElem?_eq_some_iff.1 hf).1
  have hlk : acc.length = k := by rw [hl, List.length_take]; omega
  rw [take_snoc hf]
  refine ⟨by simp [hl], fun i g hg => ?_⟩
  by_cases hi : i < k
  · rw [List.getElem?_append_left (by rw [List.length_take]; omega)] at hg
    obtain ⟨q', h1, h2, h3⟩ := ha i g hg
    exact ⟨q', by rw [List.getElem?_append_left (by omega)]; exact h1, h2, ho _ _ h3⟩
  · rw [List.getElem?_append_right (by rw [List.length_take]; omega)] at hg
    have hi0 : i - (l.take k).length = 0 := by
      rcases Nat.eq_zero_or_pos (i - (l.take k).length) with h | h
      · exact h
      · rw [List.getElem?_eq_none (by simp only [List.length_cons, List.length_nil]; omega)] at hg; cases hg
    rw [hi0] at hg
    injection hg with hg
    subst hg
    have : i = k := by rw [List.length_take] at hi0; omega
    subst this
    exact ⟨q, by rw [List.getElem?_append_right (by omega), hlk, Nat.sub_self]; rfl, hq, hm⟩
theorem box3 {W W' : World} {g m : Nat} {t : TypeId} {f : FileD} (h : Blk W g t #[.string f.path, .int .i64 f.mode, .string f.data]) (gr : W.grownBy W' (some m)) (hne : g ≠ m) :
    W'.cell? ⟨g, 0, none⟩ = some (.string f.path) ∧ W'.cell? ⟨g, 1, none⟩ = some (.int .i64 f.mode) ∧ W'.cell? ⟨g, 2, none⟩ = some (.string f.data) :=
  have h' : Blk W' g t #[.string f.path, .int .i64 f.mode, .string f.data] := h.grown gr (by simpa using hne)
  ⟨h'.cell 0, h'.cell 1, h'.cell 2⟩
theorem more_base {W w5 : World} {n : Nat} {row : Option Nat} (h : n ≤ W.heap.size) (g : W.grownBy w5 row) (o : Obj) : n ≤ (w5.alloc o).heap.size := by
  have := g.size
  simp
  omega
theorem alloc_size1 (w : World) (o : Obj) : (w.alloc o).heap.size = w.heap.size + 1 := by simp
theorem csi_len (a b : ByteArray) (m n : Int) : (#[Value.string a, .int .i64 m, .int .i64 n, .string b] : Array Value).toList.length = 1 * 4 := rfl
theorem own_far {w : World} {base : Nat} {e : TypeId} {size n : Nat} {v : Value} {xs : List Value} (h : w.ownsRow base e size v n xs) : some w.heap.size ≠ v.ownBlock := fun e => by have := (h.lt _ e.symm).2; omega
theorem boxFar {W W' W6 : World} {g m : Nat} {t : TypeId} {f : FileD} {o : Obj} {row : Option Nat} (h : Blk W g t #[.string f.path, .int .i64 f.mode, .string f.data]) (gr : W.grownBy W' (some m)) (g6 : (W'.alloc o).grownBy W6 row) (hne : g ≠ m) (hr : some g ≠ row) :
    W6.cell? ⟨g, 0, none⟩ = some (.string f.path) ∧ W6.cell? ⟨g, 1, none⟩ = some (.int .i64 f.mode) ∧ W6.cell? ⟨g, 2, none⟩ = some (.string f.data) :=
  have h' : Blk W6 g t #[.string f.path, .int .i64 f.mode, .string f.data] := Blk.grown (Blk.alloc (h.grown gr (by simpa using hne)) o) g6 hr
  ⟨h'.cell 0, h'.cell 1, h'.cell 2⟩
/-- Everything below m is as it was; the book is well. -/
structure At (w : World) (b m n : Nat) (D : DataW Unit) : Prop where
  bk : Bk w b m
  mp : MapAt w m n D
theorem At.below {w w' : World} {b m n B : Nat} {D : DataW Unit} (h : At w b m n D) (hb : Below B w w') (h1 : b < B) (h2 : m < B) : At w' b m n D := ⟨Blk.below h.bk hb h1, MapAt.below h.mp hb h2⟩
theorem At.alloc {w : World} {b m n : Nat} {D : DataW Unit} (h : At w b m n D) (o : Obj) : At (w.alloc o) b m n D := ⟨Blk.alloc h.bk o, World.ownsMap.alloc h.mp o⟩
theorem At.grown {w w' : World} {b m n : Nat} {D : DataW Unit} {row : Option Nat} (h : At w b m n D) (g : w.grownBy w' row) (h1 : some b ≠ row) (h2 : some m ≠ row) : At w' b m n D := ⟨Blk.grown h.bk g h1, World.ownsMap.kept h.mp g h2⟩

theorem cell_ne_map {w : World} {g o m n : Nat} {D : DataW Unit} {u : Value} (h : w.cell? ⟨g, o, none⟩ = some u) (h' : MapAt w m n D) : g ≠ m := by
  rintro rfl
  obtain ⟨es, clock, hg, _⟩ := h'
  unfold World.cell? at h
  rw [hg] at h
  simp at h
theorem grown_cell {w w' : World} {g o m : Nat} (h : w.grownBy w' (some m)) (hg : g < w.heap.size) (hne : g ≠ m) : w'.cell? ⟨g, o, none⟩ = w.cell? ⟨g, o, none⟩ := World.cell?_of_block (w := w) (h.block g hg (fun e => hne (by injection e)))
theorem fcells_some {l : List FileD} {k : Nat} (h : k < l.length) : ∃ u, (fcells l)[k * 3]? = some u := by
  cases l with
  | nil => simp at h
  | cons f l =>
    refine ⟨_, List.getElem?_eq_getElem (l := fcells (f :: l)) (i := k * 3) ?_⟩
    rw [fcells_len]
    omega
theorem below_grown0 {w w' : World} {m : Nat} (h : w.grownBy w' (some m)) (hm : m ≤ w.heap.size) : Below m w w' := by
  obtain ⟨a, b, c, d, e⟩ := h
  exact ⟨a, b, c, d, fun i hi => e i (by omega) (fun x => by injection x with x; omega)⟩

set_option maxHeartbeats 2000000 in
set_option maxRecDepth 100000 in
theorem items_gen (b m n : Nat) (D0 : DataW Unit) (A : Option Addr) (c : Nat) (l : List FileD) (w : World) (hn : n + l.length ≤ 65000) (hz : l.length ≤ 60) (hx : ∀ f ∈ l, FOk f)
    (ha : Arr w w.heap.size 3 A l.length (fcells l)) (hm : Ml w) (hat : At w b m n D0) (hgd : GoodD D0 n) :
    Calls Tryz.prog 40 #[.pointer (some ⟨b, 0, none⟩), .slice A l.length c] w fun e w' => (checkE l ≠ 0 ∧ e = .returned (.tuple #[.slice none 0 0, .int .i64 (checkE l)]) ∧ Below w.heap.size w w') ∨
      (checkE l = 0 ∧ ∃ A' c' acc D, e = .returned (.tuple #[.slice A' l.length c', .int .i64 0]) ∧ ItFits D l acc ∧ Arr w' w'.heap.size 4 A' l.length (icells acc) ∧ At w' b m (n + l.length) D ∧ GoodD D (n + l.length) ∧ (∀ s q, Marked D0 s q → Marked D s q) ∧ w.grownBy w' (some m)) := by
  obtain ⟨i1, gi0, gz0, gz1, gz2⟩ := info_parts infoItem
  have hbl := Blk.lt hat.bk
  have hmlt := hat.mp.lt
  have hbm := hat.bk.ne hat.mp
  have hC := Lib.hid (check_any A c l w (by omega) hx ha hm)
  have HG0 := Lib.hid hgd
  have HM0 := Lib.hid hat.mp
  clear hgd
  have HX := Lib.hid hx
  have HA := Lib.hid ha
  clear ha hx
  by_cases hE : checkE l = 0
  · rw [hE] at hC
    go_enter Tryz.func40, Tryz.ntmps40
    go_wp2_with (go_at_call 67; (with_reducible refine hC.out.mono ?_); rintro e w1 ⟨rfl, hb1⟩)
    have hs1 := hb1.size
    have hat1 := hat.below hb1 hbl hmlt
    have hB1 : w.grownBy w1 (some m) := grown_of_below hb1
    go_loopw [7, 17] (fun vo v wr => ∃ (k : Nat) (acc : List ItemD) (D : DataW Unit), k ≤ l.length ∧ v = .int .i64 k ∧ wr.ownsRow w1.heap.size 58 4 vo acc.length (icells acc) ∧ acc.length = k ∧ Hid (ItFits D (l.take k) acc) ∧ Hid (GoodD D (n + k)) ∧ Hid (∀ s q, Marked D0 s q → Marked D s q) ∧ At wr b m (n + k) D ∧ w1.heap.size ≤ wr.heap.size ∧ w.grownBy wr (some m)) (fun _ v _ => l.length - (intOf v).toNat)
    case atStart => exact ⟨0, [], _, Nat.zero_le _, rfl, World.ownsRow_nil _ _ _ _, rfl, Lib.hid (itfits_nil _), HG0, Lib.hid (fun _ _ h => h), hat1, Nat.le_refl _, hB1⟩
    case round =>
      obtain ⟨k, acc, D, hk, rfl, hown, hal, HF, HG, HMO, hat, hzz, hB⟩ := hrel
      have hbse := hB.size
      by_cases hlt : k < l.length
      · obtain ⟨f, hf⟩ : ∃ f, l[k]? = some f := ⟨_, List.getElem?_eq_getElem hlt⟩
        obtain ⟨bA, oA, rfl, hbA, hcell⟩ := HA.out.2 (by omega)
        have hAm : bA ≠ m := by
          obtain ⟨u, hu⟩ := fcells_some hlt
          exact cell_ne_map (hcell _ u hu) HM0.out
        obtain ⟨c0, c1, c2⟩ := file_cells (fun i u h => (grown_cell hB hbA hAm).trans (hcell i u h)) hf
        have hfx := (HX.out f (List.mem_of_getElem? hf)).2
        have hbox := Blk.new wr 64 #[.string f.path, .int .i64 f.mode, .string f.data]
        have hk0 := hbox.cell 0
        have hk1 := hbox.cell 1
        have hk2 := hbox.cell 2
        have hatA := hat.alloc (.cells #[.string f.path, .int .i64 f.mode, .string f.data] 64)
        have hatD : At (wr.alloc (.cells #[.string f.path, .int .i64 f.mode, .string f.data] 64)).drew b m (n + k) D := ⟨hatA.bk, hatA.mp⟩
        have hownA := hown.alloc (.cells #[.string f.path, .int .i64 f.mode, .string f.data] 64)
        have hboxD : Blk (wr.alloc (.cells #[.string f.path, .int .i64 f.mode, .string f.data] 64)).drew wr.heap.size 64 #[.string f.path, .int .i64 f.mode, .string f.data] := hbox
        have hovb := own_far hown
        have hownD : (wr.alloc (.cells #[.string f.path, .int .i64 f.mode, .string f.data] 64)).drew.ownsRow w1.heap.size 58 4 _ acc.length (icells acc) := hownA
        have hBA : w.grownBy (wr.alloc (.cells #[.string f.path, .int .i64 f.mode, .string f.data] 64)) (some m) := hB.trans (grown_of_below ((Below.refl _ wr).alloc (Nat.le_refl _) _))
        have HMK := Lib.hid (fun W (h : At W b m (n + k) D) => mark_any b m (n + k) D f.data W h.bk h.mp HG.out (by omega) hfx)
        have kl : (k : Int) < l.length := by omega
        have hne : wr.heap.size ≠ m := by omega
        have HFI := Lib.hid hf
        have hwm : m < wr.heap.size := by omega
        have hwb : b < wr.heap.size := by omega
        have hzA : w1.heap.size ≤ (wr.alloc (.cells #[.string f.path, .int .i64 f.mode, .string f.data] 64)).heap.size := by simp; omega
        have hzD : w1.heap.size ≤ (wr.alloc (.cells #[.string f.path, .int .i64 f.mode, .string f.data] 64)).drew.heap.size := hzA
        have hBD : w.grownBy (wr.alloc (.cells #[.string f.path, .int .i64 f.mode, .string f.data] 64)).drew (some m) := hBA.trans ⟨rfl, rfl, rfl, Nat.le_refl _, fun _ _ _ => rfl⟩
        have hmx : acc.length + 1 ≤ maxLen := by unfold maxLen; omega
        have hby : (acc.length + 1) * 48 ≤ 140737488355328 := by omega
        have h04 : 0 < 4 := by decide
        have h01 : 0 < 1 := by decide
        have hnb := own_ne hownA (b := m) (by omega)
        clear hcell hk0 hk1 hk2 hf
        go_wp2
        go_region_held3 (fun w' => w'.cell? ⟨wr.heap.size, 0, none⟩ = some (.string f.path) ∧ w'.cell? ⟨wr.heap.size, 1, none⟩ = some (.int .i64 f.mode) ∧ w'.cell? ⟨wr.heap.size, 2, none⟩ = some (.string f.data))
          (first | exact ⟨hbox.cell 0, hbox.cell 1, hbox.cell 2⟩ | exact box3 hboxD g5 hne | exact box3 hboxD (g5.trans (World.grownBy_alloc _ _ _)) hne | exact boxFar hboxD g5 hgrow6 hne hovb)
          (first
            | (go_at_call 28; refine (HMK.out _ hatD).mono ?_; rintro e w5 ⟨q, D5, rfl, hq5, hm5, ho5, hbk5, hmp5, hg5, g5⟩; have hown5 := World.ownsRow.kept hownD g5 (.inr hnb); have hflag : Hid True := Lib.hid trivial)
            | (clear hflag; refine step_append_lies _ rfl (.tmp 21) (.tmp 34) 53 rfl w1.heap.size 58 i1 _ 4 48 Tryz.underlying53 gi0 gz0 gz1 gz2 item_zero h04 _ acc.length (icells acc) rfl (hown5.alloc _) ⟨w5.heap.size, 0, none⟩ 1 1 #[Value.string f.path, .int .i64 f.mode, .int .i64 f.data.size, .string q].toList rfl (csi_len f.path q f.mode f.data.size) (World.news_of_block (cs := #[Value.string f.path, .int .i64 f.mode, .int .i64 f.data.size, .string q]) (t := 58) (fr := (0, 0)) (heap_alloc_new w5 _)) (item_one f.path q f.mode f.data.size) h01 hmx hby (more_base hzD g5 _) (w5.heap.size + 1) (alloc_size1 _ _) ?_; intro gg cap w6 hown6 hgrow6 hat6 hlt6))
        have hB5 := hBD.trans g5
        have hB6 : w.grownBy w6 (some m) := by
          have h1 : w.grownBy (w5.alloc (.cells #[Value.string f.path, .int .i64 f.mode, .int .i64 f.data.size, .string q] 58)) (some m) := hB5.trans (grown_of_below ((Below.refl _ w5).alloc (Nat.le_refl _) _))
          obtain ⟨x1, x2, x3, x4, x5⟩ := hgrow6
          obtain ⟨y1, y2, y3, y4, y5⟩ := h1
          exact ⟨x1.trans y1, x2.trans y2, x3.trans y3, Nat.le_trans y4 x4, fun i hi hne => (x5 i (Nat.lt_of_lt_of_le hi y4) (fun e => by have := (hown5.lt i e.symm).1; omega)).trans (y5 i hi hne)⟩
        have hM6 : Hid (∀ s q, Marked D0 s q → Marked D5 s q) := Lib.hid (fun s q h => ho5 s q (HMO.out s q h))
        have hA6 : At w6 b m (n + (k + 1)) D5 := ((At.mk hbk5 hmp5).alloc (.cells #[Value.string f.path, .int .i64 f.mode, .int .i64 f.data.size, .string q] 58)).grown hgrow6 (fun e => own_ne hown5 (by omega) e.symm) (fun e => own_ne hown5 (by omega) e.symm)
        have hF6 := Lib.hid (itfits_snoc HF.out HFI.out hq5 hm5 ho5)
        have hz6 : w1.heap.size ≤ w6.heap.size := by
          have h1 := Nat.le_trans hzD g5.size
          have h2 := hgrow6.size
          rw [alloc_size1] at h2
          omega
        go_wp2
        go_roundw
        case rel => exact ⟨k + 1, acc ++ [mkI f q], D5, by omega, by go_num, by have h := hown6; rw [hal] at h; rw [List.length_append, icells_snoc, hal]; exact h, by simp [hal], hF6, Lib.hid hg5, hM6, hA6, hz6, hB6⟩
        case measure => simp [intOf] <;> omega
      · have hke : k = l.length := by omega
        subst hke
        have HF2 := HF.out
        rw [List.take_length] at HF2
        obtain ⟨A', c', rfl, hcap, ha', hfr⟩ := own_arr hown
        rw [hal] at ha'
        have HF3 := Lib.hid HF2
        have HA3 := Lib.hid ha'
        clear HF HF2 ha'
        go_wp2
        go_ret2
        exact .inr ⟨hE, A', c', acc, D, by rw [hal]; rfl, HF3.out, HA3.out, hat, HG.out, HMO.out, hB⟩
  · have hE' : (checkE l == 0) = false := by rw [beq_eq_false_iff_ne]; exact hE
    have hE2 : (checkE l != 0) = true := by rw [bne_iff_ne]; exact hE
    generalize checkE l = E at *
    go_enter Tryz.func40, Tryz.ntmps40
    go_wp2_with (go_at_call 67; (with_reducible refine hC.out.mono ?_); rintro e w1 ⟨rfl, hb1⟩)
    go_ret2
    exact .inl ⟨hE, rfl, hb1⟩
theorem items_any (b m : Nat) (A : Option Addr) (c : Nat) (l : List FileD) (w : World) (hz : l.length ≤ 60) (hx : ∀ f ∈ l, FOk f)
    (ha : Arr w m 3 A l.length (fcells l)) (hm : Ml w) (hat : At w b m 0 (.map [])) (hbm : m < b) :
    Calls Tryz.prog 40 #[.pointer (some ⟨b, 0, none⟩), .slice A l.length c] w fun e w' => (checkE l ≠ 0 ∧ e = .returned (.tuple #[.slice none 0 0, .int .i64 (checkE l)]) ∧ Below m w w' ∧ w.heap.size ≤ w'.heap.size) ∨
      (checkE l = 0 ∧ ∃ A' c' acc D n, e = .returned (.tuple #[.slice A' l.length c', .int .i64 0]) ∧ ItFits D l acc ∧ Arr w' w'.heap.size 4 A' l.length (icells acc) ∧ At w' b m n D ∧ Below m w w' ∧ w.heap.size ≤ w'.heap.size) := by
  have hmlt := hat.mp.lt
  refine (items_gen b m 0 (.map []) A c l w (by omega) hz hx (ha.more (by omega)) hm hat good_nil).mono ?_
  rintro e w' (⟨h1, h2, h3⟩ | ⟨h1, A', c', acc, D, h2, h3, h4, h5, h6, h7, h8⟩)
  · exact .inl ⟨h1, h2, h3.mono (by omega), h3.size⟩
  · exact .inr ⟨h1, A', c', acc, D, _, h2, h3, h4, h5, below_grown0 h8 (by omega), h8.size⟩
end Go.Proofs.YtmcgaaihdjpdgaaGreatDoor
/- The walk through TreeItems. -/
namespace Go.Proofs.YtmcgaaihdjpdgaaGreatDoor
open Go.RowKit
set_option linter.unusedVariables false

theorem filesE_all : ∀ (l : List FileD), filesE l = 0 → ∀ x ∈ l, fileE x = 0
  | [], _, x, hx => by cases hx
  | f :: r, h, x, hx => by
    rw [filesE] at h
    by_cases h0 : fileE f = 0
    · rw [if_pos h0] at h
      rcases List.mem_cons.1 hx with rfl | hx
      · exact h0
      · exact filesE_all r h x hx
    · rw [if_neg h0] at h; exact absurd h h0
theorem itemsE_of : ∀ (l : List ItemD), (∀ x ∈ l, itemE x = 0) → itemsE l = 0
  | [], _ => by rw [itemsE]
  | f :: r, h => by rw [itemsE, if_pos (h f (by simp))]; exact itemsE_of r (fun x hx => h x (by simp [hx]))
theorem fit_item {f : FileD} {q : ByteArray} (h : fileE f = 0) (hq : q.size = 32) : itemE (mkI f q) = 0 := by
  unfold fileE at h
  unfold itemE mkI
  simp only []
  split at h
  · rename_i h1
    split at h
    · rename_i h2
      exact absurd h (by decide)
    · rename_i h2
      rw [if_pos h1, if_pos ⟨by omega, by omega⟩, if_pos hq]
  · exact absurd h (by decide)
theorem fits_right {D : DataW Unit} {l : List FileD} {acc : List ItemD} (h : ItFits D l acc) (hc : checkE l = 0) : rightE acc = 0 := by
  obtain ⟨hl, ha⟩ := h
  have hp : lists (ipaths acc) = l.map (·.path.data.toList) := by
    apply List.ext_getElem?
    intro i
    unfold lists ipaths
    rw [List.map_map, List.getElem?_map, List.getElem?_map]
    by_cases hi : i < l.length
    · obtain ⟨f, hf⟩ : ∃ f, l[i]? = some f := ⟨_, List.getElem?_eq_getElem hi⟩
      obtain ⟨q, h1, _, _⟩ := ha i f hf
      rw [h1, hf]
      rfl
    · rw [List.getElem?_eq_none (by omega), List.getElem?_eq_none (by omega)]
      rfl
  unfold checkE at hc
  unfold rightE
  rw [hp]
  by_cases h0 : pathsE (l.map (·.path.data.toList)) = 0
  · rw [if_pos h0] at hc
    rw [if_pos h0]
    refine itemsE_of _ fun x hx => ?_
    obtain ⟨i, hi, rfl⟩ := List.mem_iff_getElem.1 hx
    obtain ⟨f, hf⟩ : ∃ f, l[i]? = some f := ⟨_, List.getElem?_eq_getElem (by omega)⟩
    obtain ⟨q, h1, h2, _⟩ := ha i f hf
    rw [List.getElem?_eq_getElem hi] at h1
    injection h1 with h1
    rw [h1]
    exact fit_item (filesE_all _ hc f (List.mem_of_getElem? hf)) h2
  · rw [if_neg h0] at hc
    exact absurd hc h0

end Go.Proofs.YtmcgaaihdjpdgaaGreatDoor
