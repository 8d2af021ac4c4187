/- The walks through the ideal book: Ideal, none, Mark, Is. -/
import Derived.Test.YtjhbmcgaehpadaaDoorMark1
import Derived.Maps.OwnSet
namespace Go.Proofs.YtjhbmcgaehpadaaDoor
open Go.RowKit
open Go.Maps (Keyed IsMap)
set_option linter.unusedVariables false

theorem key_law : Keyed Tryd.prog 9 := Maps.string_keyed Tryd.underlying9
theorem zint (w : World) : (zeroValue 3).run Tryd.prog w = .ok (.int .i64 0) w := by kernel_rfl
/-- The book: of its cells these alone are read. -/
noncomputable def bkC (m : Nat) : Array Value := (Tryd.zeroCells89.setIfInBounds 74 (Value.bool true)).setIfInBounds 73 (Value.map (some m))
def Bk (w : World) (b m : Nat) : Prop := Blk w b 89 (bkC m)
theorem Bk.cells {w : World} {b m : Nat} (h : Bk w b m) : w.cell? ⟨b, 72, none⟩ = some (.bool false) ∧ w.cell? ⟨b, 73, none⟩ = some (.map (some m)) ∧ w.cell? ⟨b, 74, none⟩ = some (.bool true) := ⟨(h.cell 72).trans (by rfl), (h.cell 73).trans (by rfl), (h.cell 74).trans (by rfl)⟩
/-- What is seen. -/
abbrev MapAt (w : World) (m n : Nat) (D : DataW Unit) : Prop := w.ownsMap Tryd.prog 9 (plainElem Tryd.prog 3) m n D
theorem MapAt.below {w w' : World} {m n B : Nat} {D : DataW Unit} (h : MapAt w m n D) (hb : Below B w w') (hm : m < B) : MapAt w' m n D := by
  obtain ⟨es, clock, hg, F, hs, hD⟩ := h
  exact ⟨es, clock, (hb.block m hm).trans hg, F, hs, hD⟩
theorem Bk.ne {w : World} {b m n : Nat} {D : DataW Unit} {k : Nat} (h : Bk w b k) (h' : MapAt w m n D) : b ≠ m := by
  rintro rfl
  obtain ⟨es, clock, hg, _⟩ := h'
  unfold Bk Blk at h
  rw [hg] at h
  cases h
def kl (s : ByteArray) : Lit := .string s.data.toList
/-- A text has a mark. -/
def Marked (D : DataW Unit) (s q : ByteArray) : Prop := ∃ c : Nat, c ≤ 255 ∧ Maps.has D (kl s) = true ∧ D.atKey (kl s) (.lit (.int .i64 0)) = .lit (.int .i64 c) ∧ q = numTS c
def GoodD (D : DataW Unit) (n : Nat) : Prop := ∀ k, Maps.has D k = true → ∃ c : Nat, c ≤ n ∧ D.atKey k (.lit (.int .i64 0)) = .lit (.int .i64 c)
theorem good_nil : GoodD (.map []) 0 := by
  intro k h
  exact absurd h (by simp [Maps.has])
theorem kl_key (s : ByteArray) : WideAt.IsKeyLit (kl s) := trivial
theorem good_put {D : DataW Unit} {n c : Nat} (h : GoodD D n) (hm : IsMap D) (s : ByteArray) (hc : c ≤ n + 1) : GoodD (D.put (kl s) (.lit (.int .i64 c))) (n + 1) := by
  intro k hk
  by_cases e : k = kl s
  · subst e
    exact ⟨c, hc, Maps.atKey_put_same hm (kl_key s) _ _⟩
  · rw [Maps.has_put_other e] at hk
    obtain ⟨x, h1, h2⟩ := h k hk
    exact ⟨x, by omega, (Maps.atKey_put_other e _ _).trans h2⟩
theorem good_mono {D : DataW Unit} {n : Nat} (h : GoodD D n) : GoodD D (n + 1) := fun k hk => by obtain ⟨c, h1, h2⟩ := h k hk; exact ⟨c, by omega, h2⟩
theorem marked_put {D : DataW Unit} {s s' q : ByteArray} {d : DataW Unit} (h : Marked D s q) (hn : Maps.has D (kl s') = false) : Marked (D.put (kl s') d) s q := by
  obtain ⟨c, h1, h2, h3, h4⟩ := h
  have e : kl s ≠ kl s' := fun e => by rw [e, hn] at h2; cases h2
  exact ⟨c, h1, by rw [Maps.has_put_other e]; exact h2, by rw [Maps.atKey_put_other e]; exact h3, h4⟩
theorem marked_new {D : DataW Unit} {s : ByteArray} {c : Nat} (hm : IsMap D) (hc : c ≤ 255) : Marked (D.put (kl s) (.lit (.int .i64 c))) s (numTS c) :=
  ⟨c, hc, Maps.has_put_same hm (kl_key s) _, Maps.atKey_put_same hm (kl_key s) _ _, rfl⟩

set_option maxHeartbeats 1000000 in
set_option maxRecDepth 100000 in
theorem ideal_any (w : World) :
    Calls Tryd.prog 36 #[] w fun e w' => e = .returned (.pointer (some ⟨w.heap.size + 1, 0, none⟩)) ∧ Bk w' (w.heap.size + 1) w.heap.size ∧ MapAt w' w.heap.size 0 (.map []) ∧ Below w.heap.size w w' ∧ w'.heap.size = w.heap.size + 2 := by
  have hmm := @run_makeMap Tryd.prog
  go_enter Tryd.func36, Tryd.ntmps36
  go_wp2
  go_ret
  refine ⟨rfl, ?_, (World.ownsMap_made (H := Unit) w Tryd.prog 9 (plainElem Tryd.prog 3)).alloc _, ((Below.refl _ w).alloc (Nat.le_refl _) _).alloc (by simp) _, by simp⟩
  have := Blk.new (w.alloc (.map #[] 0)) 89 (bkC w.heap.size)
  rw [show (w.alloc (.map #[] 0)).heap.size = w.heap.size + 1 by simp] at this
  exact this
set_option maxHeartbeats 1000000 in
set_option maxRecDepth 100000 in
theorem none_any (b m : Nat) (w : World) (h : Bk w b m) :
    Calls Tryd.prog 66 #[.pointer (some ⟨b, 0, none⟩)] w fun e w' => e = .returned (.bool false) ∧ Below w.heap.size w w' := by
  obtain ⟨c1, c2, c3⟩ := h.cells
  clear h
  go_enter Tryd.func66, Tryd.ntmps66
  go_wp2
  go_ret
  exact ⟨rfl, Below.refl _ _⟩
theorem grown_of_below {w w' : World} {row : Option Nat} (hb : Below w.heap.size w w') : w.grownBy w' row := by
  obtain ⟨a, b, c, d, e⟩ := hb
  exact ⟨a, b, c, d, fun i h _ => e i h⟩
theorem lit_inj {a b : Int} (h : (DataW.lit (.int .i64 a) : DataW Unit) = .lit (.int .i64 b)) : a = b := by
  injection h with h
  injection h
theorem wf_small {c : Int} (h0 : 0 ≤ c) (h1 : c ≤ 255) : (Lit.int .i64 c).wf = true := by
  simp only [Lit.wf, IntKind.min, IntKind.max, IntKind.signed, IntKind.bits, Bool.and_eq_true, decide_eq_true_eq, if_true]
  omega

set_option maxHeartbeats 1000000 in
set_option maxRecDepth 100000 in
theorem is_any (b m n : Nat) (D : DataW Unit) (s q : ByteArray) (w : World) (h : Bk w b m) (hown : MapAt w m n D) (hs : s.size ≤ 9223372036854775807) (hq : Marked D s q) :
    Calls Tryd.prog 38 #[.pointer (some ⟨b, 0, none⟩), .string s, .string q] w fun e w' => e = .returned (.bool true) ∧ Below w.heap.size w w' := by
  obtain ⟨c, hc, hhas, hat0, rfl⟩ := hq
  have hkey := WideMaps.keyOf_string_mk (P := Tryd.prog) Tryd.underlying9 (s := s) (by unfold maxLen; omega)
  have HN := Lib.hid (fun W => none_any b m W)
  have HM := Lib.hid (fun W => numbered_any c W hc)
  generalize numTS c = q at *
  have HO := Lib.hid hown
  have HB := Lib.hid h
  have hlt := hown.lt
  have HH := Lib.hid hhas
  have HA := Lib.hid hat0
  clear hown h hc hhas hat0
  go_enter Tryd.func38, Tryd.ntmps38
  go_wp2_with (first
    | (go_at_call 66; (with_reducible refine (HN.out _ HB.out).mono ?_); rintro e w1 ⟨rfl, hb1⟩; have HO := Lib.hid (MapAt.below HO.out hb1 hlt); have HB1 : Bk w1 b m := Blk.below HB.out hb1 HB.out.lt; obtain ⟨c1, c2, c3⟩ := HB1.cells)
    | (at_lookup; refine wpList_lookup_own_ok_int _ rfl _ _ 82 rfl 9 3 .i64 key_law Tryd.underlying82 Tryd.underlying3 (zint _) m n D rfl HO.out _ _ rfl hkey ?_; intro cL hat hwc; rw [show Maps.has D (.string s.data.toList) = true from HH.out]; obtain rfl := lit_inj (hat.symm.trans HA.out))
    | (go_at_call 68; (with_reducible refine (HM.out _).mono ?_); rintro e w2 ⟨rfl, hb2⟩))
  go_ret
  exact ⟨rfl, below_on hb1 hb2⟩

set_option maxHeartbeats 1000000 in
set_option maxRecDepth 100000 in
theorem mark_any (b m n : Nat) (D : DataW Unit) (s : ByteArray) (w : World) (h : Bk w b m) (hown : MapAt w m n D) (hg : GoodD D n) (hn : n ≤ 254) (hs : s.size ≤ 9223372036854775807) :
    Calls Tryd.prog 65 #[.pointer (some ⟨b, 0, none⟩), .string s] w fun e w' => ∃ q D', e = .returned (.string q) ∧ q.size = 32 ∧ Marked D' s q ∧ (∀ s' q', Marked D s' q' → Marked D' s' q') ∧ Bk w' b m ∧ MapAt w' m (n + 1) D' ∧ GoodD D' (n + 1) ∧ w.grownBy w' (some m) := by
  have hkey := WideMaps.keyOf_string_mk (P := Tryd.prog) Tryd.underlying9 (s := s) (by unfold maxLen; omega)
  have HN := Lib.hid (fun W => none_any b m W)
  have hlt := hown.lt
  have hne := h.ne hown
  have hsz := hown.size_le
  have him := hown.isMap
  have HO := Lib.hid hown
  have HB := Lib.hid h
  by_cases hhas : Maps.has D (kl s) = true
  · obtain ⟨c, hc, hat0⟩ := hg _ hhas
    have HM := Lib.hid (fun W => numbered_any c W (by omega))
    have HD : Hid (Marked D s (numTS c)) := Lib.hid ⟨c, by omega, hhas, hat0, rfl⟩
    have hq := numTS_size c
    generalize numTS c = q at *
    have HH := Lib.hid hhas
    have HA := Lib.hid hat0
    have HG := Lib.hid hg
    clear hown h hhas hat0 hg hc
    go_enter Tryd.func65, Tryd.ntmps65
    go_wp2_with (first
      | (go_at_call 66; (with_reducible refine (HN.out _ HB.out).mono ?_); rintro e w1 ⟨rfl, hb1⟩; have HO := Lib.hid (MapAt.below HO.out hb1 hlt); have HB1 : Bk w1 b m := Blk.below HB.out hb1 HB.out.lt; obtain ⟨c1, c2, c3⟩ := HB1.cells)
      | (at_lookup; refine wpList_lookup_own_ok_int _ rfl _ _ 82 rfl 9 3 .i64 key_law Tryd.underlying82 Tryd.underlying3 (zint _) m n D rfl HO.out _ _ rfl hkey ?_; intro cL hat hwc; rw [show Maps.has D (.string s.data.toList) = true from HH.out]; obtain rfl := lit_inj (hat.symm.trans HA.out))
      | (go_at_call 68; (with_reducible refine (HM.out _).mono ?_); rintro e w2 ⟨rfl, hb2⟩))
    go_ret
    exact ⟨q, D, rfl, hq, HD.out, fun _ _ h => h, Blk.below HB1 hb2 (Blk.lt HB1), (MapAt.below HO.out hb2 HO.out.lt).mono (by omega), good_mono HG.out, grown_of_below (below_on hb1 hb2)⟩
  · have hhas : Maps.has D (kl s) = false := by simpa using hhas
    obtain ⟨Z, hZ⟩ : ∃ Z, Maps.size D = Z := ⟨_, rfl⟩
    rw [hZ] at hsz
    have hM := fun W => numbered_any (Z + 1) W (by omega)
    have hput : Hid (GoodD (D.put (kl s) (.lit (.int .i64 ((Z + 1 : Nat) : Int)))) (n + 1)) := Lib.hid (good_put hg him s (by omega))
    have hnew : Hid (Marked (D.put (kl s) (.lit (.int .i64 ((Z + 1 : Nat) : Int)))) s (numTS (Z + 1))) := Lib.hid (marked_new him (by omega))
    have hold : Hid (∀ s' q', Marked D s' q' → Marked (D.put (kl s) (.lit (.int .i64 ((Z + 1 : Nat) : Int)))) s' q') := Lib.hid (fun s' q' hh => marked_put hh hhas)
    have hcast : ((Z + 1 : Nat) : Int) = (Z : Int) + 1 := rfl
    rw [hcast] at hput hnew hold
    simp only [hcast] at hM
    have hq := numTS_size (Z + 1)
    generalize numTS (Z + 1) = q at *
    have HM := Lib.hid hM
    have HH := Lib.hid hhas
    have HZ := Lib.hid hZ
    have hwf : (Lit.int .i64 ((Z : Int) + 1)).wf = true := wf_small (by omega) (by omega)
    clear hown h hhas hg hM hcast him
    go_enter Tryd.func65, Tryd.ntmps65
    go_wp2_with (first
      | (go_at_call 66; (with_reducible refine (HN.out _ HB.out).mono ?_); rintro e w1 ⟨rfl, hb1⟩; have HO := Lib.hid (MapAt.below HO.out hb1 hlt); have HB1 : Bk w1 b m := Blk.below HB.out hb1 HB.out.lt; obtain ⟨c1, c2, c3⟩ := HB1.cells)
      | (at_lookup; refine wpList_lookup_own_ok_int _ rfl _ _ 82 rfl 9 3 .i64 key_law Tryd.underlying82 Tryd.underlying3 (zint _) m n D rfl HO.out _ _ rfl hkey ?_; intro cL hat hwc; rw [show Maps.has D (.string s.data.toList) = false from HH.out])
      | (at_len; refine wpList_len_own _ rfl _ 82 rfl 9 3 Tryd.underlying82 _ m n D rfl HO.out ?_; rw [HZ.out])
      | (at_mapUpdate; refine wpList_mapUpdate_own _ rfl _ _ _ 82 rfl 9 3 key_law Tryd.underlying82 _ m n D rfl HO.out (by unfold maxLen; omega) _ _ _ rfl rfl hkey _ [] (plainElem_int Tryd.underlying3 hwf) ?_; intro w3 hown3 hgrow3; have HB3 : Bk w3 b m := Blk.grown HB1 hgrow3 (by simpa using hne))
      | (go_at_call 68; (with_reducible refine (HM.out _).mono ?_); rintro e w2 ⟨rfl, hb2⟩))
    go_ret
    exact ⟨q, _, rfl, hq, hnew.out, hold.out, Blk.below HB3 hb2 (Blk.lt HB3), MapAt.below hown3 hb2 hown3.lt, hput.out, ((grown_of_below hb1).trans hgrow3).trans (grown_of_below hb2)⟩
end Go.Proofs.YtjhbmcgaehpadaaDoor
