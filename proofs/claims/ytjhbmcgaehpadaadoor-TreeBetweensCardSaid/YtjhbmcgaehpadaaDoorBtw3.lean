/- The walk through Between. -/
import Derived.Test.YtjhbmcgaehpadaaDoorBtwP
import Derived.Test.YtjhbmcgaehpadaaDoorTreeOf1
import Derived.Test.YtjhbmcgaehpadaaDoorCls
namespace Go.Proofs.YtjhbmcgaehpadaaDoor
open Go.RowKit
set_option linter.unusedVariables false

theorem infoCh : (Tryd.prog.info? 44).map (fun i => (i.zero, i.size, i.bytes)) = some (some (.agg #[.int .i64 0, .string ⟨#[]⟩]), 2, 24) := by kernel_rfl
def ccells (l : List ChD) : List Value := l.flatMap fun c => [Value.int .i64 c.kind, Value.string c.path]
theorem ccells_snoc (l : List ChD) (k : Int) (p : ByteArray) : ccells (l ++ [⟨k, p⟩]) = ccells l ++ (#[Value.int .i64 k, Value.string p] : Array Value).toList := by unfold ccells; rw [List.flatMap_append]; rfl
theorem ch_one (k : Int) (p : ByteArray) : ∀ u ∈ (#[Value.int .i64 k, Value.string p] : Array Value).toList, u.oneCell' = true := by simp [Value.oneCell']
theorem ch_zero : (Value.agg #[.int .i64 0, .string ⟨#[]⟩]).cells.size = 2 := rfl
theorem icells_cons (f : ItemD) (a : List ItemD) : icells (f :: a) = [Value.string f.path, .int .i64 f.mode, .int .i64 f.size, .string f.mark] ++ icells a := rfl
theorem arr_tail {w : World} {B b o c : Nat} {f : ItemD} {a : List ItemD} (h : Arr w B 4 (some ⟨b, o, none⟩) (f :: a).length (icells (f :: a))) (hc : (f :: a).length ≤ c) :
    Arr w B 4 (if c = 1 then some ⟨b, o, none⟩ else some ⟨b, o + 4, none⟩) a.length (icells a) := by
  rcases Nat.eq_zero_or_pos a.length with h0 | h0
  · have : a = [] := List.eq_nil_of_length_eq_zero h0
    subst this
    exact Arr.nil _ _ _ _
  · rw [List.length_cons] at hc
    rw [if_neg (by omega)]
    have hl := h.1
    rw [icells_cons] at hl
    refine ⟨by simp at hl ⊢; omega, fun _ => ?_⟩
    obtain ⟨b2, o2, e, hb, hcell⟩ := h.2 (by simp)
    injection e with e
    injection e with e1 e2 e3
    subst e1
    subst e2
    refine ⟨b, o + 4, rfl, hb, fun i u hu => ?_⟩
    have := hcell (4 + i) u (by rw [icells_cons, List.getElem?_append_right (by simp)]; simpa using hu)
    rwa [← Nat.add_assoc] at this
theorem below_drewB {B : Nat} {a w : World} (h : Below B a w) (n : Nat) : Below B a (w.drewN n) := ⟨h.os, h.tape, h.output, h.size, h.block⟩
theorem own_drewN {w : World} {base : Nat} {e : TypeId} {size n : Nat} {v : Value} {xs : List Value} (h : w.ownsRow base e size v n xs) (m : Nat) : (w.drewN m).ownsRow base e size v n xs := h
def BRel (w : World) (R : List ChD) (va vb vo : Value) (wr : World) : Prop := ∃ (a b : List ItemD) (A B : Option Addr) (c d : Nat) (out : List ChD), va = .slice A a.length c ∧ vb = .slice B b.length d ∧ a.length ≤ c ∧ b.length ≤ d ∧ a.length + b.length + out.length ≤ 1024 ∧
  Hid (Arr wr w.heap.size 4 A a.length (icells a)) ∧ Hid (Arr wr w.heap.size 4 B b.length (icells b)) ∧ Hid (∀ f ∈ a, IOk f) ∧ Hid (∀ f ∈ b, IOk f) ∧ wr.ownsRow w.heap.size 44 2 vo out.length (ccells out) ∧ Hid (out ++ btwGo (a.length + b.length) a b = R) ∧ Below w.heap.size w wr
set_option maxHeartbeats 4000000 in
set_option maxRecDepth 100000 in
theorem btw_any (A B : Option Addr) (c d : Nat) (a b : List ItemD) (w : World) (hz : a.length ≤ 256) (hz2 : b.length ≤ 256) (hc : a.length ≤ c) (hd : b.length ≤ d) (hx : ∀ f ∈ a, IOk f) (hy : ∀ f ∈ b, IOk f)
    (ha : Arr w w.heap.size 4 A a.length (icells a)) (hb : Arr w w.heap.size 4 B b.length (icells b)) (hm : Ml w) (h0 : rightE a = 0) (h1 : rightE b = 0) :
    Calls Tryd.prog 29 #[.slice A a.length c, .slice B b.length d] w fun e w' => ∃ A' c', e = .returned (.tuple #[.slice A' (btwL a b).length c', .int .i64 0]) ∧ Arr w' w'.heap.size 2 A' (btwL a b).length (ccells (btwL a b)) ∧ Below w.heap.size w w' := by
  obtain ⟨i1, gi0, gz0, gz1, gz2⟩ := info_parts infoCh
  have F1 := Lib.hid (right_any A c a w (by omega) hx ha hm)
  have F2 := Lib.hid (fun W (hh : Below w.heap.size w W) => right_any B d b W (by omega) hy ((hb.below hh).more hh.size) (hm.on hh))
  rw [h0] at F1
  rw [h1] at F2
  generalize hR : btwL a b = R
  have HR : Hid ([] ++ btwGo (a.length + b.length) a b = R) := Lib.hid hR
  clear hR h0 h1
  have HAA := Lib.hid ha
  have HBB := Lib.hid hb
  have HX := Lib.hid hx
  have HY := Lib.hid hy
  clear ha hb hx hy
  go_enter Tryd.func29, Tryd.ntmps29
  go_wp2_with (first
    | (go_at_call 34; (with_reducible refine F1.out.mono ?_); rintro e w1 ⟨rfl, hb1⟩)
    | (go_at_call 34; (with_reducible refine (F2.out _ hb1).mono ?_); rintro e w2 ⟨rfl, hb2⟩))
  have hB0 := below_on hb1 hb2
  go_loopw [0, 1, 8] (fun va vb vo wr => BRel w R va vb vo wr) (fun va vb _ _ => match va, vb with | .slice _ n _, .slice _ m _ => n + m | _, _ => 0)
  case atStart => unfold BRel; exact ⟨a, b, A, B, c, d, [], rfl, rfl, hc, hd, by simp; omega, Lib.hid (HAA.out.below hB0), Lib.hid (HBB.out.below hB0), HX, HY, World.ownsRow_nil _ _ _ _, HR, hB0⟩
  case round =>
    unfold BRel at hrel
    obtain ⟨a, b, A, B, c, d, out, rfl, rfl, hc, hd, hlen, HA, HB, HX, HY, hown, H, hBw⟩ := hrel
    have hs := hBw.size
    cases a with
    | nil =>
      cases b with
      | nil =>
        have hr := H.out
        simp only [List.length_nil, btwGo, List.append_nil] at hr
        subst hr
        obtain ⟨A', c', rfl, hcap, ha', hfr⟩ := own_arr hown
        have HA' := Lib.hid ha'
        clear H ha'
        go_wp2
        go_ret2
        exact ⟨A', c', rfl, HA'.out, hBw⟩
      | cons g b =>
        obtain ⟨bB, oB, rfl, hbB, hcell⟩ := HB.out.2 (by simp)
        obtain ⟨c0, c1, c2, c3⟩ := item_cells (l := g :: b) (k := 0) (f := g) hcell rfl
        rw [Nat.zero_mul, Nat.add_zero] at c0
        have k1 : (0 : Int) < (g :: b).length := by simp
        have hlen2 : 0 + (b.length + 1) + out.length ≤ 1024 := hlen
        have hst := Lib.hid (show (out ++ [⟨2, g.path⟩]) ++ btwGo (([] : List ItemD).length + b.length) [] b = R by have := H.out; rw [List.length_cons, ← Nat.add_assoc, btwGo] at this; simpa using this)
        clear hcell H
        go_wp2_with (at_builtin; refine wpList_push rfl _ _ _ rfl Tryd.underlying40 gi0 gz0 gz1 gz2 ch_zero (by decide) hown rfl rfl rfl (ch_one 2 g.path) (by unfold maxLen; omega) (by omega) hs ?_; intro g6 cap6 w6 hown6 hgr6 hat6; have hB6 := hBw.grown hgr6 hs (fun j hj => (hown.lt j hj).1))
        have ht := Lib.hid ((arr_tail HB.out hd).below ((Below.refl w.heap.size wr).grown hgr6 hs (fun j hj => (hown.lt j hj).1)))
        have hxa := Lib.hid (fun x hx => HY.out x (List.mem_cons_of_mem _ hx))
        rw [List.length_cons] at hd
        go_roundw
        case rel => unfold BRel; exact ⟨[], b, A, _, c, d - 1, out ++ [⟨2, g.path⟩], rfl, rfl, hc, by omega, by simp; omega, Lib.hid (Arr.nil _ _ _ _), ht, HX, hxa, by rw [List.length_append, ccells_snoc]; exact hown6, hst, hB6⟩
        case measure => simp
    | cons f a =>
      cases b with
      | nil =>
        obtain ⟨bA, oA, rfl, hbA, hcell⟩ := HA.out.2 (by simp)
        obtain ⟨c0, c1, c2, c3⟩ := item_cells (l := f :: a) (k := 0) (f := f) hcell rfl
        rw [Nat.zero_mul, Nat.add_zero] at c0
        have k1 : (0 : Int) < (f :: a).length := by simp
        have hlen2 : a.length + 1 + 0 + out.length ≤ 1024 := hlen
        have hst := Lib.hid (show (out ++ [⟨1, f.path⟩]) ++ btwGo (a.length + ([] : List ItemD).length) a [] = R by have := H.out; rw [List.length_cons, show a.length + 1 + ([] : List ItemD).length = (a.length + ([] : List ItemD).length) + 1 from rfl, btwGo] at this; simpa using this)
        clear hcell H
        go_wp2_with (at_builtin; refine wpList_push rfl _ _ _ rfl Tryd.underlying40 gi0 gz0 gz1 gz2 ch_zero (by decide) hown rfl rfl rfl (ch_one 1 f.path) (by unfold maxLen; omega) (by omega) hs ?_; intro g6 cap6 w6 hown6 hgr6 hat6; have hB6 := hBw.grown hgr6 hs (fun j hj => (hown.lt j hj).1))
        have ht := Lib.hid ((arr_tail HA.out hc).below ((Below.refl w.heap.size wr).grown hgr6 hs (fun j hj => (hown.lt j hj).1)))
        have hxa := Lib.hid (fun x hx => HX.out x (List.mem_cons_of_mem _ hx))
        rw [List.length_cons] at hc
        go_roundw
        case rel => unfold BRel; exact ⟨a, [], _, B, c - 1, d, out ++ [⟨1, f.path⟩], rfl, rfl, by omega, hd, by simp; omega, ht, Lib.hid (Arr.nil _ _ _ _), hxa, HY, by rw [List.length_append, ccells_snoc]; exact hown6, hst, hB6⟩
        case measure => simp
      | cons g b =>
        obtain ⟨bA, oA, rfl, hbA, hcell⟩ := HA.out.2 (by simp)
        obtain ⟨c0, c1, c2, c3⟩ := item_cells (l := f :: a) (k := 0) (f := f) hcell rfl
        obtain ⟨bB, oB, rfl, hbB, hcellB⟩ := HB.out.2 (by simp)
        obtain ⟨e0, e1, e2, e3⟩ := item_cells (l := g :: b) (k := 0) (f := g) hcellB rfl
        rw [Nat.zero_mul, Nat.add_zero] at c0 c1 c2 c3 e0 e1 e2 e3
        have k1 : (0 : Int) < (f :: a).length := by simp
        have k2 : (0 : Int) < (g :: b).length := by simp
        have hlen2 : a.length + 1 + (b.length + 1) + out.length ≤ 1024 := hlen
        have hownQ : ∀ n, (wr.drewN n).ownsRow w.heap.size 44 2 _ out.length (ccells out) := fun n => hown
        have HO := Lib.hid (fun W => order_any f.path g.path W (HX.out f (by simp)).1 (HY.out g (by simp)).1)
        have HOB := Lib.hid (fun W => (HO.out W).mono fun e w' ⟨he, m, hw⟩ => (⟨he, by rw [hw]; exact below_drewN (Below.refl _ _) m⟩ : e = Ending.returned (Value.int IntKind.i64 (ordL f.path.data.toList g.path.data.toList)) ∧ Below W.heap.size W w'))
        have hH := H.out
        rw [List.length_cons, List.length_cons, show a.length + 1 + (b.length + 1) = (a.length + b.length + 1) + 1 by omega, btwGo] at hH
        generalize ordL f.path.data.toList g.path.data.toList = S at *
        clear hcell hcellB H
        by_cases hS : S < 0
        · rw [if_pos hS] at hH
          have hst := Lib.hid (show (out ++ [⟨1, f.path⟩]) ++ btwGo (a.length + (g :: b).length) a (g :: b) = R by rw [List.length_cons, ← Nat.add_assoc]; simpa using hH)
          clear hH
          have q1 : (0 : Int) < (a.length : Int) + 1 := by omega
          have q2 : (0 : Int) < (b.length : Int) + 1 := by omega
          have q3 : (0 : Int) < ((a.length + 1 : Nat) : Int) := by omega
          have q4 : (0 : Int) < ((b.length + 1 : Nat) : Int) := by omega
          have q5 : 0 < a.length + 1 := by omega
          have q6 : 0 < b.length + 1 := by omega
          go_wp2
          have c0' := cell_cls c0
          have e0' := cell_cls e0
          refine wp_region_cls (by kernel_rfl) (by kernel_rfl) ?_
          repeat (go_big_quiet_step ((go_at_call 18; with_reducible exact cls_call (HOB.out _))))
          refine wpQuiet_nil ?_
          intro _ hw'
          obtain ⟨⟨w9, hb9⟩, hw''⟩ := hw'
          subst hw''
          clear c0' e0'
          have hown9 := own_below hown hb9
          have hB9 := hBw.trans (hb9.mono hs)
          have hs9 := hB9.size
          have c9 := (hb9.cell (p := ⟨bA, oA, none⟩) (by show bA < _; omega)).trans c0
          go_wp2_with (at_builtin; refine wpList_push rfl _ _ _ rfl Tryd.underlying40 gi0 gz0 gz1 gz2 ch_zero (by decide) hown9 rfl rfl rfl (ch_one 1 f.path) (by unfold maxLen; omega) (by omega) hs9 ?_; intro g6 cap6 w6 hown6 hgr6 hat6; have hB6 := hB9.grown hgr6 hs9 (fun j hj => (hown9.lt j hj).1); have hC6 := (hb9.mono hs).grown hgr6 hs9 (fun j hj => (hown9.lt j hj).1))
          have ht := Lib.hid ((arr_tail HA.out hc).below hC6)
          have ht2 := Lib.hid (HB.out.below hC6)
          have hxa := Lib.hid (fun x hx => HX.out x (List.mem_cons_of_mem _ hx))
          rw [List.length_cons] at hc
          go_roundw
          case rel => unfold BRel; exact ⟨a, g :: b, _, _, c - 1, d, out ++ [⟨1, f.path⟩], rfl, rfl, by omega, hd, by simp; omega, ht, ht2, hxa, HY, by rw [List.length_append, ccells_snoc]; exact hown6, hst, hB6⟩
          case measure => simp
        · by_cases hG : 0 < S
          · rw [if_neg hS, if_pos hG] at hH
            have hst := Lib.hid (show (out ++ [⟨2, g.path⟩]) ++ btwGo ((f :: a).length + b.length) (f :: a) b = R by rw [List.length_cons, show a.length + 1 + b.length = a.length + b.length + 1 by omega]; simpa using hH)
            clear hH
            have q1 : (0 : Int) < (a.length : Int) + 1 := by omega
            have q2 : (0 : Int) < (b.length : Int) + 1 := by omega
            have q3 : (0 : Int) < ((a.length + 1 : Nat) : Int) := by omega
            have q4 : (0 : Int) < ((b.length + 1 : Nat) : Int) := by omega
            have q5 : 0 < a.length + 1 := by omega
            have q6 : 0 < b.length + 1 := by omega
            go_wp2
            have c0' := cell_cls c0
            have e0' := cell_cls e0
            refine wp_region_cls (by kernel_rfl) (by kernel_rfl) ?_
            repeat (go_big_quiet_step ((go_at_call 18; with_reducible exact cls_call (HOB.out _))))
            refine wpQuiet_nil ?_
            intro _ hw'
            obtain ⟨⟨w9, hb9⟩, hw''⟩ := hw'
            subst hw''
            clear c0' e0'
            have hown9 := own_below hown hb9
            have hB9 := hBw.trans (hb9.mono hs)
            have hs9 := hB9.size
            have c9 := (hb9.cell (p := ⟨bB, oB, none⟩) (by show bB < _; omega)).trans e0
            go_wp2_with (at_builtin; refine wpList_push rfl _ _ _ rfl Tryd.underlying40 gi0 gz0 gz1 gz2 ch_zero (by decide) hown9 rfl rfl rfl (ch_one 2 g.path) (by unfold maxLen; omega) (by omega) hs9 ?_; intro g6 cap6 w6 hown6 hgr6 hat6; have hB6 := hB9.grown hgr6 hs9 (fun j hj => (hown9.lt j hj).1); have hC6 := (hb9.mono hs).grown hgr6 hs9 (fun j hj => (hown9.lt j hj).1))
            have ht := Lib.hid ((arr_tail HB.out hd).below hC6)
            have ht2 := Lib.hid (HA.out.below hC6)
            have hxa := Lib.hid (fun x hx => HY.out x (List.mem_cons_of_mem _ hx))
            rw [List.length_cons] at hd
            go_roundw
            case rel => unfold BRel; exact ⟨f :: a, b, _, _, c, d - 1, out ++ [⟨2, g.path⟩], rfl, rfl, hc, by omega, by simp; omega, ht2, ht, HX, hxa, by rw [List.length_append, ccells_snoc]; exact hown6, hst, hB6⟩
            case measure => simp
          · have hS0 : S = 0 := by omega
            subst hS0
            rw [if_neg hS, if_neg hG] at hH
            have c0' := cell_cls c0
            have e0' := cell_cls e0
            rw [btw_fuel (a.length + b.length + 1) (a.length + b.length) a b (by omega) (Nat.le_refl _)] at hH
            have z1 : f.size ≠ g.size ∨ f.mark ≠ g.mark → sameC f g = [⟨3, f.path⟩] := fun h => if_pos h
            have z2 : ¬ (f.size ≠ g.size ∨ f.mark ≠ g.mark) → f.mode ≠ g.mode → sameC f g = [⟨4, f.path⟩] := fun h h2 => by unfold sameC; rw [if_neg h, if_pos h2]
            have z3 : ¬ (f.size ≠ g.size ∨ f.mark ≠ g.mark) → ¬ f.mode ≠ g.mode → sameC f g = [] := fun h h2 => by unfold sameC; rw [if_neg h, if_neg h2]
            have q1' : (0 : Int) < (a.length : Int) + 1 := by omega
            have q2' : (0 : Int) < (b.length : Int) + 1 := by omega
            have q3' : (0 : Int) < ((a.length + 1 : Nat) : Int) := by omega
            have q4' : (0 : Int) < ((b.length + 1 : Nat) : Int) := by omega
            have q5' : 0 < a.length + 1 := by omega
            have q6' : 0 < b.length + 1 := by omega
            have m1 : (1 : Int) ≤ (a.length : Int) + 1 := by omega
            have m2 : (1 : Int) ≤ (b.length : Int) + 1 := by omega
            have m3 : (1 : Int) ≤ ((a.length + 1 : Nat) : Int) := by omega
            have m4 : (1 : Int) ≤ ((b.length + 1 : Nat) : Int) := by omega
            by_cases q1 : f.size = g.size
            · by_cases q2 : f.mark = g.mark
              · by_cases q3 : f.mode = g.mode
                · clear z1 z2
                  have hst := Lib.hid (show (out) ++ btwGo (a.length + b.length) a b = R by rw [z3 (by simp [q1, q2]) (by simp [q3])] at hH; simpa using hH)
                  clear hH
                  have r1 : (f.size != g.size) = false := by simp [q1]
                  have r2 : (f.mark.toList != g.mark.toList) = false := by simp [q2]
                  have r2' : (f.mark.toList == g.mark.toList) = true := by simp [q2]
                  have r3 : (f.mode != g.mode) = false := by simp [q3]
                  go_wp2
                  refine wp_region_cls (by kernel_rfl) (by kernel_rfl) ?_
                  repeat (go_big_quiet_step ((go_at_call 18; with_reducible exact cls_call (HOB.out _))))
                  refine wpQuiet_nil ?_
                  intro _ hw'
                  obtain ⟨⟨w9, hb9⟩, hw''⟩ := hw'
                  subst hw''
                  clear c0' e0'
                  have hown9 := own_below hown hb9
                  have hB9 := hBw.trans (hb9.mono hs)
                  have hs9 := hB9.size
                  have x0 := (hb9.cell (p := ⟨bA, oA, none⟩) (by show bA < _; omega)).trans c0
                  have x1 := (hb9.cell (p := ⟨bA, oA + 1, none⟩) (by show bA < _; omega)).trans c1
                  have x2 := (hb9.cell (p := ⟨bA, oA + 2, none⟩) (by show bA < _; omega)).trans c2
                  have x3 := (hb9.cell (p := ⟨bA, oA + 3, none⟩) (by show bA < _; omega)).trans c3
                  have y1 := (hb9.cell (p := ⟨bB, oB + 1, none⟩) (by show bB < _; omega)).trans e1
                  have y2 := (hb9.cell (p := ⟨bB, oB + 2, none⟩) (by show bB < _; omega)).trans e2
                  have y3 := (hb9.cell (p := ⟨bB, oB + 3, none⟩) (by show bB < _; omega)).trans e3
                  have hownQ9 := own_drewN hown9
                  clear c0 c1 c2 c3 e0 e1 e2 e3
                  go_wp2
                  go_quiet (fail)
                  go_wp2
                  go_quiet (fail)
                  go_wp2
                  go_quiet (fail)
                  go_wp2
                  have hC6 := hb9.mono hs
                  have ht := Lib.hid (arr_tail HA.out hc)
                  have ht2 := Lib.hid (arr_tail HB.out hd)
                  have hxa := Lib.hid (fun x hx => HX.out x (List.mem_cons_of_mem _ hx))
                  have hya := Lib.hid (fun x hx => HY.out x (List.mem_cons_of_mem _ hx))
                  rw [List.length_cons] at hc hd
                  go_roundw
                  case rel => unfold BRel; exact ⟨a, b, _, _, c - 1, d - 1, out, rfl, rfl, by omega, by omega, by omega, Lib.hid (ht.out.below (below_drewB (below_drewB (below_drewB hC6 _) _) _)), Lib.hid (ht2.out.below (below_drewB (below_drewB (below_drewB hC6 _) _) _)), hxa, hya, hown9, hst, (below_drewB (below_drewB (below_drewB hB9 _) _) _)⟩
                  case measure => simp <;> omega
                · clear z1 z3
                  have hst := Lib.hid (show (out ++ [⟨4, f.path⟩]) ++ btwGo (a.length + b.length) a b = R by rw [z2 (by simp [q1, q2]) q3] at hH; simpa using hH)
                  clear hH
                  have r1 : (f.size != g.size) = false := by simp [q1]
                  have r2 : (f.mark.toList != g.mark.toList) = false := by simp [q2]
                  have r2' : (f.mark.toList == g.mark.toList) = true := by simp [q2]
                  have r3 : (f.mode != g.mode) = true := by simp [q3]
                  go_wp2
                  refine wp_region_cls (by kernel_rfl) (by kernel_rfl) ?_
                  repeat (go_big_quiet_step ((go_at_call 18; with_reducible exact cls_call (HOB.out _))))
                  refine wpQuiet_nil ?_
                  intro _ hw'
                  obtain ⟨⟨w9, hb9⟩, hw''⟩ := hw'
                  subst hw''
                  clear c0' e0'
                  have hown9 := own_below hown hb9
                  have hB9 := hBw.trans (hb9.mono hs)
                  have hs9 := hB9.size
                  have x0 := (hb9.cell (p := ⟨bA, oA, none⟩) (by show bA < _; omega)).trans c0
                  have x1 := (hb9.cell (p := ⟨bA, oA + 1, none⟩) (by show bA < _; omega)).trans c1
                  have x2 := (hb9.cell (p := ⟨bA, oA + 2, none⟩) (by show bA < _; omega)).trans c2
                  have x3 := (hb9.cell (p := ⟨bA, oA + 3, none⟩) (by show bA < _; omega)).trans c3
                  have y1 := (hb9.cell (p := ⟨bB, oB + 1, none⟩) (by show bB < _; omega)).trans e1
                  have y2 := (hb9.cell (p := ⟨bB, oB + 2, none⟩) (by show bB < _; omega)).trans e2
                  have y3 := (hb9.cell (p := ⟨bB, oB + 3, none⟩) (by show bB < _; omega)).trans e3
                  have hownQ9 := own_drewN hown9
                  clear c0 c1 c2 c3 e0 e1 e2 e3
                  go_wp2
                  go_quiet (fail)
                  go_wp2
                  go_quiet (fail)
                  go_wp2_with (at_builtin; refine wpList_push rfl _ _ _ rfl Tryd.underlying40 gi0 gz0 gz1 gz2 ch_zero (by decide) (hownQ9 _) rfl rfl rfl (ch_one 4 f.path) (by unfold maxLen; omega) (by omega) hs9 ?_; intro g6 cap6 w6 hown6 hgr6 hat6; have hB6 := (below_drewN hB9 _).grown hgr6 hs9 (fun j hj => (hown9.lt j hj).1); have hC6 := (below_drewB (hb9.mono hs) _).grown hgr6 hs9 (fun j hj => (hown9.lt j hj).1))
                  go_quiet (fail)
                  go_wp2
                  have ht := Lib.hid ((arr_tail HA.out hc).below hC6)
                  have ht2 := Lib.hid ((arr_tail HB.out hd).below hC6)
                  have hxa := Lib.hid (fun x hx => HX.out x (List.mem_cons_of_mem _ hx))
                  have hya := Lib.hid (fun x hx => HY.out x (List.mem_cons_of_mem _ hx))
                  rw [List.length_cons] at hc hd
                  go_roundw
                  case rel => unfold BRel; exact ⟨a, b, _, _, c - 1, d - 1, out ++ [⟨4, f.path⟩], rfl, rfl, by omega, by omega, by simp; omega, ht, ht2, hxa, hya, by rw [List.length_append, ccells_snoc]; exact hown6, hst, below_drewN hB6 _⟩
                  case measure => simp <;> omega
              · clear z2 z3
                have hst := Lib.hid (show (out ++ [⟨3, f.path⟩]) ++ btwGo (a.length + b.length) a b = R by rw [z1 (.inr q2)] at hH; simpa using hH)
                clear hH
                have r1 : (f.size != g.size) = false := by simp [q1]
                have r2 : (f.mark.toList == g.mark.toList) = false := str_ne q2
                have r2' : (f.mark.toList != g.mark.toList) = true := by rw [bne, r2]; rfl
                go_wp2
                refine wp_region_cls (by kernel_rfl) (by kernel_rfl) ?_
                repeat (go_big_quiet_step ((go_at_call 18; with_reducible exact cls_call (HOB.out _))))
                refine wpQuiet_nil ?_
                intro _ hw'
                obtain ⟨⟨w9, hb9⟩, hw''⟩ := hw'
                subst hw''
                clear c0' e0'
                have hown9 := own_below hown hb9
                have hB9 := hBw.trans (hb9.mono hs)
                have hs9 := hB9.size
                have x0 := (hb9.cell (p := ⟨bA, oA, none⟩) (by show bA < _; omega)).trans c0
                have x1 := (hb9.cell (p := ⟨bA, oA + 1, none⟩) (by show bA < _; omega)).trans c1
                have x2 := (hb9.cell (p := ⟨bA, oA + 2, none⟩) (by show bA < _; omega)).trans c2
                have x3 := (hb9.cell (p := ⟨bA, oA + 3, none⟩) (by show bA < _; omega)).trans c3
                have y1 := (hb9.cell (p := ⟨bB, oB + 1, none⟩) (by show bB < _; omega)).trans e1
                have y2 := (hb9.cell (p := ⟨bB, oB + 2, none⟩) (by show bB < _; omega)).trans e2
                have y3 := (hb9.cell (p := ⟨bB, oB + 3, none⟩) (by show bB < _; omega)).trans e3
                have hownQ9 := own_drewN hown9
                clear c0 c1 c2 c3 e0 e1 e2 e3
                go_wp2
                go_quiet (fail)
                go_wp2_with (at_builtin; refine wpList_push rfl _ _ _ rfl Tryd.underlying40 gi0 gz0 gz1 gz2 ch_zero (by decide) (hownQ9 _) rfl rfl rfl (ch_one 3 f.path) (by unfold maxLen; omega) (by omega) hs9 ?_; intro g6 cap6 w6 hown6 hgr6 hat6; have hB6 := (below_drewN hB9 _).grown hgr6 hs9 (fun j hj => (hown9.lt j hj).1); have hC6 := (below_drewB (hb9.mono hs) _).grown hgr6 hs9 (fun j hj => (hown9.lt j hj).1))
                go_quiet (fail)
                go_wp2
                have ht := Lib.hid ((arr_tail HA.out hc).below hC6)
                have ht2 := Lib.hid ((arr_tail HB.out hd).below hC6)
                have hxa := Lib.hid (fun x hx => HX.out x (List.mem_cons_of_mem _ hx))
                have hya := Lib.hid (fun x hx => HY.out x (List.mem_cons_of_mem _ hx))
                rw [List.length_cons] at hc hd
                go_roundw
                case rel => unfold BRel; exact ⟨a, b, _, _, c - 1, d - 1, out ++ [⟨3, f.path⟩], rfl, rfl, by omega, by omega, by simp; omega, ht, ht2, hxa, hya, by rw [List.length_append, ccells_snoc]; exact hown6, hst, below_drewN hB6 _⟩
                case measure => simp <;> omega
            · clear z2 z3
              have hst := Lib.hid (show (out ++ [⟨3, f.path⟩]) ++ btwGo (a.length + b.length) a b = R by rw [z1 (.inl q1)] at hH; simpa using hH)
              clear hH
              have r1 : (f.size != g.size) = true := by simp [q1]
              go_wp2
              refine wp_region_cls (by kernel_rfl) (by kernel_rfl) ?_
              repeat (go_big_quiet_step ((go_at_call 18; with_reducible exact cls_call (HOB.out _))))
              refine wpQuiet_nil ?_
              intro _ hw'
              obtain ⟨⟨w9, hb9⟩, hw''⟩ := hw'
              subst hw''
              clear c0' e0'
              have hown9 := own_below hown hb9
              have hB9 := hBw.trans (hb9.mono hs)
              have hs9 := hB9.size
              have x0 := (hb9.cell (p := ⟨bA, oA, none⟩) (by show bA < _; omega)).trans c0
              have x1 := (hb9.cell (p := ⟨bA, oA + 1, none⟩) (by show bA < _; omega)).trans c1
              have x2 := (hb9.cell (p := ⟨bA, oA + 2, none⟩) (by show bA < _; omega)).trans c2
              have x3 := (hb9.cell (p := ⟨bA, oA + 3, none⟩) (by show bA < _; omega)).trans c3
              have y1 := (hb9.cell (p := ⟨bB, oB + 1, none⟩) (by show bB < _; omega)).trans e1
              have y2 := (hb9.cell (p := ⟨bB, oB + 2, none⟩) (by show bB < _; omega)).trans e2
              have y3 := (hb9.cell (p := ⟨bB, oB + 3, none⟩) (by show bB < _; omega)).trans e3
              have hownQ9 := own_drewN hown9
              clear c0 c1 c2 c3 e0 e1 e2 e3
              go_wp2
              go_quiet (fail)
              go_wp2_with (at_builtin; refine wpList_push rfl _ _ _ rfl Tryd.underlying40 gi0 gz0 gz1 gz2 ch_zero (by decide) (hownQ9 _) rfl rfl rfl (ch_one 3 f.path) (by unfold maxLen; omega) (by omega) hs9 ?_; intro g6 cap6 w6 hown6 hgr6 hat6; have hB6 := (below_drewN hB9 _).grown hgr6 hs9 (fun j hj => (hown9.lt j hj).1); have hC6 := (below_drewB (hb9.mono hs) _).grown hgr6 hs9 (fun j hj => (hown9.lt j hj).1))
              go_quiet (fail)
              go_wp2
              have ht := Lib.hid ((arr_tail HA.out hc).below hC6)
              have ht2 := Lib.hid ((arr_tail HB.out hd).below hC6)
              have hxa := Lib.hid (fun x hx => HX.out x (List.mem_cons_of_mem _ hx))
              have hya := Lib.hid (fun x hx => HY.out x (List.mem_cons_of_mem _ hx))
              rw [List.length_cons] at hc hd
              go_roundw
              case rel => unfold BRel; exact ⟨a, b, _, _, c - 1, d - 1, out ++ [⟨3, f.path⟩], rfl, rfl, by omega, by omega, by simp; omega, ht, ht2, hxa, hya, by rw [List.length_append, ccells_snoc]; exact hown6, hst, below_drewN hB6 _⟩
              case measure => simp <;> omega
end Go.Proofs.YtjhbmcgaehpadaaDoor
