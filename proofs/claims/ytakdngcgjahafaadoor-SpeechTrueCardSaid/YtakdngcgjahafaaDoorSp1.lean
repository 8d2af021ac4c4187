/- Chapter 22: what a call does on a log, as plain data; the answer that has a generation's tree. -/
import Derived.Test.YtakdngcgjahafaaDoorIm9
import Derived.Test.YtakdngcgjahafaaDoorImBackPl
namespace Go.Proofs.YtakdngcgjahafaaDoor
open Go.RowKit
set_option linter.unusedVariables false

structure CallD where
  kind : Int
  gen : Int
  files : List FileD
structure AnsD where
  err : Int
  gen : Int
  floor : Int
  files : List FileD
structure LogD where
  floor : Int
  trees : List ByteArray
def hasP (l : LogD) (gen : Int) : AnsD :=
  if 0 ≤ gen ∧ gen < l.floor then ⟨18, 0, 0, []⟩
  else if gen < 0 ∨ (l.trees.length : Int) ≤ gen then ⟨8, 0, 0, []⟩
  else ⟨0, gen, l.floor, (treeOf (l.trees.getD gen.toNat ⟨#[]⟩)).2⟩
def doP (l : LogD) (k : CallD) : LogD × AnsD :=
  if k.kind = 1 then
    if ofE k.files ≠ 0 then (l, ⟨ofE k.files, 0, 0, []⟩)
    else if 32 ≤ (l.trees.length : Int) - l.floor then (l, ⟨7, 0, 0, []⟩)
    else (⟨l.floor, l.trees ++ [ofS k.files]⟩, ⟨0, l.trees.length, l.floor, []⟩)
  else if k.kind = 2 then (l, hasP l ((l.trees.length : Int) - 1))
  else if k.kind = 3 then if k.gen < 0 then (l, ⟨2, 0, 0, []⟩) else (l, hasP l k.gen)
  else if k.kind = 4 ∨ k.kind = 6 then (l, ⟨0, l.trees.length, l.floor, []⟩)
  else if k.kind = 5 then
    if k.gen < 0 then (l, ⟨2, 0, 0, []⟩)
    else if k.gen ≤ l.floor then (l, ⟨0, l.trees.length, l.floor, []⟩)
    else if (l.trees.length : Int) ≤ k.gen then (l, ⟨2, 0, 0, []⟩)
    else (⟨k.gen, l.trees⟩, ⟨0, l.trees.length, k.gen, []⟩)
  else (l, ⟨1, 0, 0, []⟩)
/-- An answer as it comes back. -/
def AnsOut (w : World) (a : AnsD) (e : Ending) (w' : World) : Prop := ∃ B d, e = .returned (.agg #[.int .i64 a.err, .int .i64 a.gen, .int .i64 a.floor, .slice B a.files.length d, .slice none 0 0]) ∧
  w'.ownsRow w.heap.size 69 3 (.slice B a.files.length d) a.files.length (fcells a.files) ∧ Below w.heap.size w w'
theorem acells {W : World} {g : Nat} {t : TypeId} {a b c d e : Value} (h : Blk W g t #[a, b, c, d, e]) :
    W.cell? ⟨g, 0, none⟩ = some a ∧ W.cell? ⟨g, 1, none⟩ = some b ∧ W.cell? ⟨g, 2, none⟩ = some c ∧ W.cell? ⟨g, 3, none⟩ = some d ∧ W.cell? ⟨g, 4, none⟩ = some e ∧
    W.frozen? ⟨g, 0, none⟩ = false ∧ W.frozen? ⟨g, 1, none⟩ = false ∧ W.frozen? ⟨g, 2, none⟩ = false ∧ W.frozen? ⟨g, 3, none⟩ = false ∧ W.frozen? ⟨g, 4, none⟩ = false :=
  ⟨h.cell 0, h.cell 1, h.cell 2, h.cell 3, h.cell 4, h.frozen 0, h.frozen 1, h.frozen 2, h.frozen 3, h.frozen 4⟩
theorem str_at {L : List ByteArray} {k : Nat} {s : ByteArray} (h : L[k]? = some s) : (L.map Value.string)[k]? = some (.string s) := by rw [List.getElem?_map, h]; rfl
theorem Blk.new' {w : World} {g : Nat} (h : g = w.heap.size) (t : TypeId) (cs : Array Value) : Blk (w.alloc (.cells cs t)) g t cs := by
  subst h
  exact Blk.new w t cs
set_option maxHeartbeats 2000000 in
set_option maxRecDepth 100000 in
theorem restore_any (fl : Int) (A : Option Addr) (c : Nat) (L : List ByteArray) (gen : Int) (w : World) (hs : ∀ s ∈ L, s.size ≤ 9223372036854775807)
    (ha : Arr w w.heap.size 1 A L.length (L.map Value.string)) (hm : Ml w) :
    Calls Tryd.prog 37 #[.agg #[.int .i64 fl, .slice A L.length c], .int .i64 gen] w (AnsOut w (hasP ⟨fl, L⟩ gen)) := by
  by_cases hg0 : gen < 0
  · rw [show hasP ⟨fl, L⟩ gen = ⟨8, 0, 0, []⟩ by unfold hasP; rw [if_neg (by omega), if_pos (.inl hg0)]]
    have g1 : ¬ 0 ≤ gen := by omega
    go_enter Tryd.func37, Tryd.ntmps37
    go_wp2
    have hz := (Blk.new' (w := w.alloc (.cells #[Value.int .i64 fl, .slice A L.length c] 25)) (g := w.heap.size + 1) (by simp) 34 #[Value.int .i64 8, .int .i64 0, .int .i64 0, .slice none 0 0, .slice none 0 0]); obtain ⟨t0, t1, t2, t3, t4, _⟩ := acells hz; refine bodyPost_ret (v := .agg #[.int .i64 8, .int .i64 0, .int .i64 0, .slice none 0 0, .slice none 0 0]) (by simp [results, Tryd.results37, go_sem, t0, t1, t2, t3, t4]) rfl ?_; exact ⟨none, 0, rfl, World.ownsRow_nil _ _ _ _, ((Below.refl _ w).alloc (Nat.le_refl _) _).alloc (by simp) _⟩
  · obtain ⟨k, rfl⟩ := Int.eq_ofNat_of_zero_le (show 0 ≤ gen by omega)
    by_cases hg1 : (k : Int) < fl
    · rw [show hasP ⟨fl, L⟩ k = ⟨18, 0, 0, []⟩ by unfold hasP; rw [if_pos ⟨by omega, hg1⟩]]
      go_enter Tryd.func37, Tryd.ntmps37
      go_wp2
      have hz := (Blk.new' (w := w.alloc (.cells #[Value.int .i64 fl, .slice A L.length c] 25)) (g := w.heap.size + 1) (by simp) 34 #[Value.int .i64 18, .int .i64 0, .int .i64 0, .slice none 0 0, .slice none 0 0]); obtain ⟨t0, t1, t2, t3, t4, _⟩ := acells hz; refine bodyPost_ret (v := .agg #[.int .i64 18, .int .i64 0, .int .i64 0, .slice none 0 0, .slice none 0 0]) (by simp [results, Tryd.results37, go_sem, t0, t1, t2, t3, t4]) rfl ?_; exact ⟨none, 0, rfl, World.ownsRow_nil _ _ _ _, ((Below.refl _ w).alloc (Nat.le_refl _) _).alloc (by simp) _⟩
    · by_cases hg2 : L.length ≤ k
      · rw [show hasP ⟨fl, L⟩ k = ⟨8, 0, 0, []⟩ by unfold hasP; rw [if_neg (by show ¬ (_ ∧ (k : Int) < fl); omega), if_pos (.inr (by show (L.length : Int) ≤ k; omega))]]
        have g2 : ¬ (k : Int) < L.length := by omega
        go_enter Tryd.func37, Tryd.ntmps37
        go_wp2
        have hz := (Blk.new' (w := w.alloc (.cells #[Value.int .i64 fl, .slice A L.length c] 25)) (g := w.heap.size + 1) (by simp) 34 #[Value.int .i64 8, .int .i64 0, .int .i64 0, .slice none 0 0, .slice none 0 0]); obtain ⟨t0, t1, t2, t3, t4, _⟩ := acells hz; refine bodyPost_ret (v := .agg #[.int .i64 8, .int .i64 0, .int .i64 0, .slice none 0 0, .slice none 0 0]) (by simp [results, Tryd.results37, go_sem, t0, t1, t2, t3, t4]) rfl ?_; exact ⟨none, 0, rfl, World.ownsRow_nil _ _ _ _, ((Below.refl _ w).alloc (Nat.le_refl _) _).alloc (by simp) _⟩
      · obtain ⟨s, hk⟩ : ∃ s, L[k]? = some s := ⟨_, List.getElem?_eq_getElem (by omega)⟩
        have hss := hs s (List.mem_of_getElem? hk)
        rw [show hasP ⟨fl, L⟩ k = ⟨0, k, fl, (treeOf s).2⟩ by unfold hasP; rw [if_neg (by show ¬ (_ ∧ (k : Int) < fl); omega), if_neg (by show ¬ (_ ∨ (L.length : Int) ≤ k); omega)]; simp [hk]]
        have g2 : (k : Int) < L.length := by omega
        obtain ⟨b, o, rfl, hb, hcell⟩ := ha.2 (by omega)
        have hc := hcell k _ (str_at hk)
        have F1 := Lib.hid (fun W hm' => tree_any s W hss hm')
        generalize treeOf s = T at *
        obtain ⟨E, Fs⟩ := T
        unfold TreeOut at F1
        have hB : Below w.heap.size w ((w.alloc (.cells #[Value.int .i64 fl, .slice (some ⟨b, o, none⟩) L.length c] 25)).alloc (.cells #[Value.int .i64 0, .int .i64 0, .int .i64 0, .slice none 0 0, .slice none 0 0] 34)) := ((Below.refl _ w).alloc (Nat.le_refl _) _).alloc (by simp) _
        have hl := (Blk.new w 25 #[Value.int .i64 fl, .slice (some ⟨b, o, none⟩) L.length c]).alloc (.cells #[Value.int .i64 0, .int .i64 0, .int .i64 0, .slice none 0 0, .slice none 0 0] 34)
        have hz := Blk.new' (w := w.alloc (.cells #[Value.int .i64 fl, .slice (some ⟨b, o, none⟩) L.length c] 25)) (g := w.heap.size + 1) (by simp) 34 #[Value.int .i64 0, .int .i64 0, .int .i64 0, .slice none 0 0, .slice none 0 0]
        have HL := Lib.hid hl
        have HZ := Lib.hid hz
        clear ha hcell hl hz hs hk
        go_enter Tryd.func37, Tryd.ntmps37
        go_wp2_with (go_at_call 58; (with_reducible refine (F1.out _ (hm.on hB)).mono ?_); rintro e w3 ⟨vf, rfl, hown, hb3⟩; obtain ⟨A3, c3, rfl, hcap3, ha3, hfr3⟩ := own_arr hown; have hl3 := HL.out.below hb3 (by simp; omega); have hz3 := HZ.out.below hb3 (by simp); obtain ⟨p0, p1, _, _⟩ := hcells hl3; obtain ⟨q0, q1, q2, q3, q4, q5, q6, q7, q8, q9⟩ := acells hz3; have hB3 := below_on hB hb3)
        have hz9 : Blk _ (w.heap.size + 1) 34 #[Value.int .i64 0, .int .i64 k, .int .i64 fl, .slice A3 Fs.length c3, .slice none 0 0] := ((((hz3.set_ 0 (.int .i64 0)).set_ 1 (.int .i64 k)).set_ 2 (.int .i64 fl)).set_ 3 (.slice A3 Fs.length c3)).set_ 4 (.slice none 0 0)
        obtain ⟨t0, t1, t2, t3, t4, _⟩ := acells hz9
        refine bodyPost_ret (v := .agg #[.int .i64 0, .int .i64 k, .int .i64 fl, .slice A3 Fs.length c3, .slice none 0 0]) (by simp [results, Tryd.results37, go_sem, t0, t1, t2, t3, t4]) rfl ?_
        have hq := Nat.le_add_right w.heap.size 1
        have hbl := HZ.out.lt
        have hne := own_ne hown hbl
        have hbs := hB.size
        exact ⟨_, _, rfl, own_mono (own_setbox (own_setbox (own_setbox (own_setbox (own_setbox hown hne) hne) hne) hne) hne) hbs, ((((hB3.setCell (p := ⟨w.heap.size + 1, 0, none⟩) hq _).setCell (p := ⟨w.heap.size + 1, 1, none⟩) hq _).setCell (p := ⟨w.heap.size + 1, 2, none⟩) hq _).setCell (p := ⟨w.heap.size + 1, 3, none⟩) hq _).setCell (p := ⟨w.heap.size + 1, 4, none⟩) hq _⟩
set_option maxHeartbeats 2000000 in
set_option maxRecDepth 100000 in
theorem has_any (fl : Int) (A : Option Addr) (c : Nat) (L : List ByteArray) (gen : Int) (w : World) (hs : ∀ s ∈ L, s.size ≤ 9223372036854775807)
    (ha : Arr w w.heap.size 1 A L.length (L.map Value.string)) :
    Calls Tryd.prog 38 #[.agg #[.int .i64 fl, .slice A L.length c], .int .i64 gen] w (AnsOut w (hasP ⟨fl, L⟩ gen)) := by
  by_cases hg0 : gen < 0
  · rw [show hasP ⟨fl, L⟩ gen = ⟨8, 0, 0, []⟩ by unfold hasP; rw [if_neg (by omega), if_pos (.inl hg0)]]
    have g1 : ¬ 0 ≤ gen := by omega
    go_enter Tryd.func38, Tryd.ntmps38
    go_wp2
    have hz := (Blk.new' (w := w.alloc (.cells #[Value.int .i64 fl, .slice A L.length c] 27)) (g := w.heap.size + 1) (by simp) 34 #[Value.int .i64 8, .int .i64 0, .int .i64 0, .slice none 0 0, .slice none 0 0]); obtain ⟨t0, t1, t2, t3, t4, _⟩ := acells hz; refine bodyPost_ret (v := .agg #[.int .i64 8, .int .i64 0, .int .i64 0, .slice none 0 0, .slice none 0 0]) (by simp [results, Tryd.results38, go_sem, t0, t1, t2, t3, t4]) rfl ?_; exact ⟨none, 0, rfl, World.ownsRow_nil _ _ _ _, ((Below.refl _ w).alloc (Nat.le_refl _) _).alloc (by simp) _⟩
  · obtain ⟨k, rfl⟩ := Int.eq_ofNat_of_zero_le (show 0 ≤ gen by omega)
    by_cases hg1 : (k : Int) < fl
    · rw [show hasP ⟨fl, L⟩ k = ⟨18, 0, 0, []⟩ by unfold hasP; rw [if_pos ⟨by omega, hg1⟩]]
      go_enter Tryd.func38, Tryd.ntmps38
      go_wp2
      have hz := (Blk.new' (w := w.alloc (.cells #[Value.int .i64 fl, .slice A L.length c] 27)) (g := w.heap.size + 1) (by simp) 34 #[Value.int .i64 18, .int .i64 0, .int .i64 0, .slice none 0 0, .slice none 0 0]); obtain ⟨t0, t1, t2, t3, t4, _⟩ := acells hz; refine bodyPost_ret (v := .agg #[.int .i64 18, .int .i64 0, .int .i64 0, .slice none 0 0, .slice none 0 0]) (by simp [results, Tryd.results38, go_sem, t0, t1, t2, t3, t4]) rfl ?_; exact ⟨none, 0, rfl, World.ownsRow_nil _ _ _ _, ((Below.refl _ w).alloc (Nat.le_refl _) _).alloc (by simp) _⟩
    · by_cases hg2 : L.length ≤ k
      · rw [show hasP ⟨fl, L⟩ k = ⟨8, 0, 0, []⟩ by unfold hasP; rw [if_neg (by show ¬ (_ ∧ (k : Int) < fl); omega), if_pos (.inr (by show (L.length : Int) ≤ k; omega))]]
        have g2 : ¬ (k : Int) < L.length := by omega
        go_enter Tryd.func38, Tryd.ntmps38
        go_wp2
        have hz := (Blk.new' (w := w.alloc (.cells #[Value.int .i64 fl, .slice A L.length c] 27)) (g := w.heap.size + 1) (by simp) 34 #[Value.int .i64 8, .int .i64 0, .int .i64 0, .slice none 0 0, .slice none 0 0]); obtain ⟨t0, t1, t2, t3, t4, _⟩ := acells hz; refine bodyPost_ret (v := .agg #[.int .i64 8, .int .i64 0, .int .i64 0, .slice none 0 0, .slice none 0 0]) (by simp [results, Tryd.results38, go_sem, t0, t1, t2, t3, t4]) rfl ?_; exact ⟨none, 0, rfl, World.ownsRow_nil _ _ _ _, ((Below.refl _ w).alloc (Nat.le_refl _) _).alloc (by simp) _⟩
      · obtain ⟨s, hk⟩ : ∃ s, L[k]? = some s := ⟨_, List.getElem?_eq_getElem (by omega)⟩
        have hss := hs s (List.mem_of_getElem? hk)
        rw [show hasP ⟨fl, L⟩ k = ⟨0, k, fl, (treeOf s).2⟩ by unfold hasP; rw [if_neg (by show ¬ (_ ∧ (k : Int) < fl); omega), if_neg (by show ¬ (_ ∨ (L.length : Int) ≤ k); omega)]; simp [hk]]
        have g2 : (k : Int) < L.length := by omega
        obtain ⟨b, o, rfl, hb, hcell⟩ := ha.2 (by omega)
        have hc := hcell k _ (str_at hk)
        have F1 := Lib.hid (fun W => tree_ref s W hss)
        generalize treeOf s = T at *
        obtain ⟨E, Fs⟩ := T
        unfold TreeOut at F1
        have hB : Below w.heap.size w ((w.alloc (.cells #[Value.int .i64 fl, .slice (some ⟨b, o, none⟩) L.length c] 27)).alloc (.cells #[Value.int .i64 0, .int .i64 0, .int .i64 0, .slice none 0 0, .slice none 0 0] 34)) := ((Below.refl _ w).alloc (Nat.le_refl _) _).alloc (by simp) _
        have hl := (Blk.new w 27 #[Value.int .i64 fl, .slice (some ⟨b, o, none⟩) L.length c]).alloc (.cells #[Value.int .i64 0, .int .i64 0, .int .i64 0, .slice none 0 0, .slice none 0 0] 34)
        have hz := Blk.new' (w := w.alloc (.cells #[Value.int .i64 fl, .slice (some ⟨b, o, none⟩) L.length c] 27)) (g := w.heap.size + 1) (by simp) 34 #[Value.int .i64 0, .int .i64 0, .int .i64 0, .slice none 0 0, .slice none 0 0]
        have HL := Lib.hid hl
        have HZ := Lib.hid hz
        clear ha hcell hl hz hs hk
        go_enter Tryd.func38, Tryd.ntmps38
        go_wp2_with (go_at_call 59; (with_reducible refine (F1.out _).mono ?_); rintro e w3 ⟨vf, rfl, hown, hb3⟩; obtain ⟨A3, c3, rfl, hcap3, ha3, hfr3⟩ := own_arr hown; have hl3 := HL.out.below hb3 (by simp; omega); have hz3 := HZ.out.below hb3 (by simp); obtain ⟨p0, p1, _, _⟩ := hcells hl3; obtain ⟨q0, q1, q2, q3, q4, q5, q6, q7, q8, q9⟩ := acells hz3; have hB3 := below_on hB hb3)
        have hz9 : Blk _ (w.heap.size + 1) 34 #[Value.int .i64 0, .int .i64 k, .int .i64 fl, .slice A3 Fs.length c3, .slice none 0 0] := ((((hz3.set_ 0 (.int .i64 0)).set_ 1 (.int .i64 k)).set_ 2 (.int .i64 fl)).set_ 3 (.slice A3 Fs.length c3)).set_ 4 (.slice none 0 0)
        obtain ⟨t0, t1, t2, t3, t4, _⟩ := acells hz9
        refine bodyPost_ret (v := .agg #[.int .i64 0, .int .i64 k, .int .i64 fl, .slice A3 Fs.length c3, .slice none 0 0]) (by simp [results, Tryd.results38, go_sem, t0, t1, t2, t3, t4]) rfl ?_
        have hq := Nat.le_add_right w.heap.size 1
        have hbl := HZ.out.lt
        have hne := own_ne hown hbl
        have hbs := hB.size
        exact ⟨_, _, rfl, own_mono (own_setbox (own_setbox (own_setbox (own_setbox (own_setbox hown hne) hne) hne) hne) hne) hbs, ((((hB3.setCell (p := ⟨w.heap.size + 1, 0, none⟩) hq _).setCell (p := ⟨w.heap.size + 1, 1, none⟩) hq _).setCell (p := ⟨w.heap.size + 1, 2, none⟩) hq _).setCell (p := ⟨w.heap.size + 1, 3, none⟩) hq _).setCell (p := ⟨w.heap.size + 1, 4, none⟩) hq _⟩
end Go.Proofs.YtakdngcgjahafaaDoor
