/- The walk through TreeBetweens. -/
import Derived.Test.YtjhbmcgaehpadaaDoorBtw4
import Derived.Test.YtjhbmcgaehpadaaDoorLiftItems
namespace Go.Proofs.YtjhbmcgaehpadaaDoor
open Go.RowKit
set_option linter.unusedVariables false

theorem btwGo_len : ∀ (n : Nat) (a b : List ItemD), (btwGo n a b).length ≤ n
  | 0, _, _ => by simp [btwGo]
  | n + 1, [], [] => by simp [btwGo]
  | n + 1, f :: a, [] => by rw [btwGo, List.length_cons]; have := btwGo_len n a []; omega
  | n + 1, [], g :: b => by rw [btwGo, List.length_cons]; have := btwGo_len n [] b; omega
  | n + 1, f :: a, g :: b => by
    have h1 := btwGo_len n a (g :: b)
    have h2 := btwGo_len n (f :: a) b
    have h3 := btwGo_len n a b
    have h4 : (sameC f g).length ≤ 1 := by
      unfold sameC
      split
      · simp
      · split <;> simp
    rw [btwGo]
    split
    · rw [List.length_cons]; omega
    · split
      · rw [List.length_cons]; omega
      · rw [List.length_append]; omega
def btwR (a b : List ItemD) : List ChD := if btwE a b = 0 then btwL a b else []
set_option maxHeartbeats 1000000 in
set_option maxRecDepth 100000 in
theorem btw_bad (A B : Option Addr) (c d : Nat) (a b : List ItemD) (w : World) (hz : a.length ≤ 256) (hz2 : b.length ≤ 256) (hx : ∀ f ∈ a, IOk f) (hy : ∀ f ∈ b, IOk f)
    (ha : Arr w w.heap.size 4 A a.length (icells a)) (hb : Arr w w.heap.size 4 B b.length (icells b)) (hm : Ml w) (h : btwE a b ≠ 0) :
    Calls Tryd.prog 29 #[.slice A a.length c, .slice B b.length d] w fun e w' => e = .returned (.tuple #[.slice none 0 0, .int .i64 (btwE a b)]) ∧ Below w.heap.size w w' := by
  have F1 := Lib.hid (right_any A c a w (by omega) hx ha hm)
  have F2 := Lib.hid (fun W (hh : Below w.heap.size w W) => right_any B d b W (by omega) hy ((hb.below hh).more hh.size) (hm.on hh))
  unfold btwE at *
  clear ha hb hx hy
  generalize rightE a = E at *
  generalize rightE b = F at *
  by_cases h0 : E = 0
  · subst h0
    rw [if_pos rfl] at h ⊢
    have e0 : (F == 0) = false := by rw [beq_eq_false_iff_ne]; exact h
    go_enter Tryd.func29, Tryd.ntmps29
    go_wp2_with (first
      | (go_at_call 34; (with_reducible refine F1.out.mono ?_); rintro e w1 ⟨rfl, hb1⟩)
      | (go_at_call 34; (with_reducible refine (F2.out _ hb1).mono ?_); rintro e w2 ⟨rfl, hb2⟩))
    go_ret2
    exact ⟨rfl, below_on hb1 hb2⟩
  · rw [if_neg h0] at h ⊢
    have e0 : (E == 0) = false := by rw [beq_eq_false_iff_ne]; exact h0
    go_enter Tryd.func29, Tryd.ntmps29
    go_wp2_with (go_at_call 34; (with_reducible refine F1.out.mono ?_); rintro e w1 ⟨rfl, hb1⟩)
    go_ret2
    exact ⟨rfl, hb1⟩
set_option maxHeartbeats 1000000 in
set_option maxRecDepth 100000 in
theorem btw_ref_bad (A B : Option Addr) (c d : Nat) (a b : List ItemD) (w : World) (hz : a.length ≤ 256) (hz2 : b.length ≤ 256) (hx : ∀ f ∈ a, IOk f) (hy : ∀ f ∈ b, IOk f)
    (ha : Arr w w.heap.size 4 A a.length (icells a)) (hb : Arr w w.heap.size 4 B b.length (icells b)) (h : btwE a b ≠ 0) :
    Calls Tryd.prog 30 #[.slice A a.length c, .slice B b.length d] w fun e w' => e = .returned (.tuple #[.slice none 0 0, .int .i64 (btwE a b)]) ∧ Below w.heap.size w w' := by
  have F1 := Lib.hid (right_ref A c a w (by omega) hx ha)
  have F2 := Lib.hid (fun W (hh : Below w.heap.size w W) => right_ref B d b W (by omega) hy ((hb.below hh).more hh.size))
  unfold btwE at *
  clear ha hb hx hy
  generalize rightE a = E at *
  generalize rightE b = F at *
  by_cases h0 : E = 0
  · subst h0
    rw [if_pos rfl] at h ⊢
    have e0 : (F == 0) = false := by rw [beq_eq_false_iff_ne]; exact h
    go_enter Tryd.func30, Tryd.ntmps30
    go_wp2_with (first
      | (go_at_call 35; (with_reducible refine F1.out.mono ?_); rintro e w1 ⟨rfl, hb1⟩)
      | (go_at_call 35; (with_reducible refine (F2.out _ hb1).mono ?_); rintro e w2 ⟨rfl, hb2⟩))
    go_ret2
    exact ⟨rfl, below_on hb1 hb2⟩
  · rw [if_neg h0] at h ⊢
    have e0 : (E == 0) = false := by rw [beq_eq_false_iff_ne]; exact h0
    go_enter Tryd.func30, Tryd.ntmps30
    go_wp2_with (go_at_call 35; (with_reducible refine F1.out.mono ?_); rintro e w1 ⟨rfl, hb1⟩)
    go_ret2
    exact ⟨rfl, hb1⟩
theorem btwE_zero {a b : List ItemD} (h : btwE a b = 0) : rightE a = 0 ∧ rightE b = 0 := by
  unfold btwE at h
  by_cases h0 : rightE a = 0
  · rw [if_pos h0] at h; exact ⟨h0, h⟩
  · rw [if_neg h0] at h; exact absurd h h0
theorem btwR_len (a b : List ItemD) : (btwR a b).length ≤ a.length + b.length := by
  unfold btwR
  split
  · exact btwGo_len _ a b
  · simp
def ChOut (w : World) (R : List ChD) (E : Int) (e : Ending) (w' : World) : Prop := ∃ A' c', e = .returned (.tuple #[.slice A' R.length c', .int .i64 E]) ∧ Arr w' w'.heap.size 2 A' R.length (ccells R) ∧ Below w.heap.size w w'
theorem btw_full (A B : Option Addr) (c d : Nat) (a b : List ItemD) (w : World) (hz : a.length ≤ 256) (hz2 : b.length ≤ 256) (hc : a.length ≤ c) (hd : b.length ≤ d) (hx : ∀ f ∈ a, IOk f) (hy : ∀ f ∈ b, IOk f)
    (ha : Arr w w.heap.size 4 A a.length (icells a)) (hb : Arr w w.heap.size 4 B b.length (icells b)) (hm : Ml w) :
    Calls Tryd.prog 29 #[.slice A a.length c, .slice B b.length d] w (ChOut w (btwR a b) (btwE a b)) := by
  by_cases h : btwE a b = 0
  · obtain ⟨h0, h1⟩ := btwE_zero h
    refine (btw_any A B c d a b w hz hz2 hc hd hx hy ha hb hm h0 h1).mono ?_
    rintro e w' ⟨A', c', he, ha', hb'⟩
    unfold ChOut btwR
    rw [if_pos h, h]
    exact ⟨A', c', he, ha', hb'⟩
  · refine (btw_bad A B c d a b w hz hz2 hx hy ha hb hm h).mono ?_
    rintro e w' ⟨he, hb'⟩
    unfold ChOut btwR
    rw [if_neg h]
    exact ⟨none, 0, he, Arr.nil _ _ _ _, hb'⟩
theorem btw_ref_full (A B : Option Addr) (c d : Nat) (a b : List ItemD) (w : World) (hz : a.length ≤ 256) (hz2 : b.length ≤ 256) (hx : ∀ f ∈ a, IOk f) (hy : ∀ f ∈ b, IOk f)
    (ha : Arr w w.heap.size 4 A a.length (icells a)) (hb : Arr w w.heap.size 4 B b.length (icells b)) :
    Calls Tryd.prog 30 #[.slice A a.length c, .slice B b.length d] w (ChOut w (btwR a b) (btwE a b)) := by
  by_cases h : btwE a b = 0
  · obtain ⟨h0, h1⟩ := btwE_zero h
    refine (btw_ref A B c d a b w hz hz2 hx hy ha hb h0 h1).mono ?_
    rintro e w' ⟨A', c', he, ha', hb'⟩
    rw [refC_btw h0 h1] at he ha'
    unfold ChOut btwR
    rw [if_pos h, h]
    exact ⟨A', c', he, ha', hb'⟩
  · refine (btw_ref_bad A B c d a b w hz hz2 hx hy ha hb h).mono ?_
    rintro e w' ⟨he, hb'⟩
    unfold ChOut btwR
    rw [if_neg h]
    exact ⟨none, 0, he, Arr.nil _ _ _ _, hb'⟩
theorem ccell_at {l : List ChD} {k : Nat} {f : ChD} (h : l[k]? = some f) : (ccells l)[k * 2]? = some (.int .i64 f.kind) ∧ (ccells l)[k * 2 + 1]? = some (.string f.path) := by
  have hl : ∀ r ∈ l.map (fun c : ChD => [Value.int .i64 c.kind, Value.string c.path]), r.length = 2 := by
    intro r hr
    obtain ⟨f, _, rfl⟩ := List.mem_map.1 hr
    rfl
  have hx : (l.map (fun c : ChD => [Value.int .i64 c.kind, Value.string c.path]))[k]? = some [Value.int .i64 f.kind, Value.string f.path] := by rw [List.getElem?_map, h]; rfl
  unfold ccells
  rw [List.flatMap_def]
  exact ⟨by rw [show k * 2 = k * 2 + 0 from rfl, flat_at _ k 0 _ hl hx (by omega)]; rfl, by rw [flat_at _ k 1 _ hl hx (by omega)]; rfl⟩
theorem ch_cells {w : World} {b o k : Nat} {l : List ChD} {f : ChD} (hc : ∀ i u, (ccells l)[i]? = some u → w.cell? ⟨b, o + i, none⟩ = some u) (h : l[k]? = some f) :
    w.cell? ⟨b, o + k * 2, none⟩ = some (.int .i64 f.kind) ∧ w.cell? ⟨b, o + k * 2 + 1, none⟩ = some (.string f.path) := by
  obtain ⟨h0, h1⟩ := ccell_at h
  exact ⟨hc _ _ h0, by rw [Nat.add_assoc]; exact hc _ _ h1⟩
set_option maxHeartbeats 2000000 in
set_option maxRecDepth 100000 in
theorem law_betweens (A : Option Addr) (c : Nat) (a : List ItemD) (B : Option Addr) (d : Nat) (b : List ItemD) (w : World)
    (hz : a.length * 48 ≤ 140737488351232) (hc : a.length ≤ c) (hx : ∀ f ∈ a, IOk f) (ha : Arr w w.heap.size 4 A a.length (icells a))
    (hz2 : b.length * 48 ≤ 140737488351232) (hd : b.length ≤ d) (hy : ∀ f ∈ b, IOk f) (hb : Arr w w.heap.size 4 B b.length (icells b)) (hm : Ml w) :
    Calls Tryd.prog 8 #[.slice A a.length c, .slice B b.length d] w fun e w' => e = .returned (.bool true) ∧ Below w.heap.size w w' := by
  have HA := Lib.hid awake_any
  have hB : Below w.heap.size w w := Below.refl _ _
  by_cases h1 : 60 < a.length
  · have h1' : (60 : Int) < a.length := by omega
    clear ha hb hx hy
    go_enter Tryd.func8, Tryd.ntmps8
    go_wp2_with (go_at_call 16; (with_reducible refine (HA.out _ (hm.on hB)).mono ?_); rintro e w1 ⟨rfl, hb1⟩; have hB := below_on hB hb1)
    go_ret
    exact ⟨rfl, hB⟩
  · have h1' : ¬ (60 : Int) < a.length := by omega
    by_cases h2 : 60 < b.length
    · have h2' : (60 : Int) < b.length := by omega
      clear ha hb hx hy
      go_enter Tryd.func8, Tryd.ntmps8
      go_wp2_with (go_at_call 16; (with_reducible refine (HA.out _ (hm.on hB)).mono ?_); rintro e w1 ⟨rfl, hb1⟩; have hB := below_on hB hb1)
      go_ret
      exact ⟨rfl, hB⟩
    · have h2' : ¬ (60 : Int) < b.length := by omega
      have F1 := Lib.hid (btw_full A B c d a b w (by omega) (by omega) hc hd hx hy ha hb hm)
      have F2 := Lib.hid (fun W (hh : Below w.heap.size w W) => btw_ref_full A B c d a b W (by omega) (by omega) hx hy ((ha.below hh).more hh.size) ((hb.below hh).more hh.size))
      have hRl := btwR_len a b
      generalize btwR a b = R at *
      generalize btwE a b = E at *
      clear ha hb hx hy
      unfold ChOut at F1 F2
      go_enter Tryd.func8, Tryd.ntmps8
      go_wp2_with (first
        | (go_at_call 29; (with_reducible refine F1.out.mono ?_); rintro e w1 ⟨A1, c1, rfl, ha1, hb1⟩; have HA1 := Lib.hid ha1; clear ha1)
        | (go_at_call 30; (with_reducible refine (F2.out _ hb1).mono ?_); rintro e w2 ⟨A2, c2, rfl, ha2, hb2⟩; have HA2 := Lib.hid ha2; clear ha2))
      have hB2 := below_on hb1 hb2
      go_loopw [9] (fun v wr => ∃ (k : Nat), k ≤ R.length ∧ v = .int .i64 k ∧ Below w2.heap.size w2 wr) (fun v _ => R.length - (intOf v).toNat)
      case atStart => exact ⟨0, Nat.zero_le _, rfl, Below.refl _ _⟩
      case round =>
        obtain ⟨k, hk, rfl, hB3⟩ := hrel
        by_cases hlt : k < R.length
        · obtain ⟨f, hf⟩ : ∃ f, R[k]? = some f := ⟨_, List.getElem?_eq_getElem hlt⟩
          obtain ⟨b1, o1, rfl, hbb1, hcell1⟩ := HA1.out.2 (by omega)
          obtain ⟨b2, o2, rfl, hbb2, hcell2⟩ := HA2.out.2 (by omega)
          have hs2 := hb2.size
          obtain ⟨x0, x1⟩ := ch_cells (fun i u h => (hB3.cell (p := ⟨b1, o1 + i, none⟩) (by show b1 < _; omega)).trans ((hb2.cell (p := ⟨b1, o1 + i, none⟩) hbb1).trans (hcell1 i u h))) hf
          obtain ⟨y0, y1⟩ := ch_cells (fun i u h => (hB3.cell (p := ⟨b2, o2 + i, none⟩) hbb2).trans (hcell2 i u h)) hf
          have kl : (k : Int) < R.length := by omega
          clear hf hcell1 hcell2
          go_wp2
          go_quiet (fail)
          go_wp2
          go_roundw
          case rel => exact ⟨k + 1, by omega, by go_num, below_drewN hB3 _⟩
          case measure => simp [intOf] <;> omega
        · have hB4 := below_on hB2 hB3
          go_wp2_with (go_at_call 16; (with_reducible refine (HA.out _ (hm.on hB4)).mono ?_); rintro e w5 ⟨rfl, hb5⟩; have hB5 := below_on hB4 hb5)
          go_ret
          exact ⟨rfl, hB5⟩
end Go.Proofs.YtjhbmcgaehpadaaDoor
