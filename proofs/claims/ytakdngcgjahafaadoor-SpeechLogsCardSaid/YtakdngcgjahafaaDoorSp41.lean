/- Chapter 22: the walk through Logs. -/
import Derived.Test.YtakdngcgjahafaaDoorSp26
import Derived.IntWalk
namespace Go.Proofs.YtakdngcgjahafaaDoor
open Go.RowKit
set_option linter.unusedVariables false

/-- Where a Do's result lies. -/
def HCutB (b0 : Nat) (tL tA : TypeId) (wr : World) (g : LogD) (a : AnsD) (u v : Value) (wx : World) : Prop := ∃ g9 g10 A3 C3 A4 C4, u = .pointer (some ⟨g9, 0, none⟩) ∧ v = .pointer (some ⟨g10, 0, none⟩) ∧
  Blk wx g9 tL #[.int .i64 g.floor, .slice A3 g.trees.length C3] ∧ Blk wx g10 tA #[.int .i64 a.err, .int .i64 a.gen, .int .i64 a.floor, .slice A4 a.files.length C4, .slice none 0 0] ∧
  wx.ownsRow b0 9 1 (.slice A3 g.trees.length C3) g.trees.length (g.trees.map Value.string) ∧ wx.ownsRow 0 69 3 (.slice A4 a.files.length C4) a.files.length (fcells a.files) ∧ Below wr.heap.size wr wx ∧ wr.heap.size ≤ g9
section
variable {tL tA : TypeId} {wr w3 : World} {g : LogD} {a : AnsD} {A3 A4 : Option Addr} {C3 C4 b gL gA b0 : Nat} {x1 x2 y1 y2 y3 y4 y5 : Value}
theorem cutB_E1 (hv : w3.ownsRow b0 9 1 (.slice A3 g.trees.length C3) g.trees.length (g.trees.map Value.string)) (hu : w3.ownsRow b 69 3 (.slice A4 a.files.length C4) a.files.length (fcells a.files)) (hb : Below wr.heap.size wr w3) : HCutB b0 tL tA wr g a (.pointer (some ⟨w3.heap.size, 0, none⟩)) (.pointer (some ⟨w3.heap.size + 1, 0, none⟩)) ((w3.alloc (.cells #[Value.int .i64 g.floor, .slice A3 g.trees.length C3] tL)).alloc (.cells #[Value.int .i64 a.err, .int .i64 a.gen, .int .i64 a.floor, .slice A4 a.files.length C4, .slice none 0 0] tA)) :=
  ⟨_, _, A3, C3, A4, C4, rfl, rfl, (Blk.new w3 tL #[Value.int .i64 g.floor, .slice A3 g.trees.length C3]).alloc _, Blk.new' (by simp) _ _, (hv.alloc _).alloc _, own_mono ((hu.alloc _).alloc _) (Nat.zero_le _), bel2' (bel2' hb _) _, hb.size⟩
theorem cutB_E2 (hv : w3.ownsRow b0 9 1 (.slice A3 g.trees.length C3) g.trees.length (g.trees.map Value.string)) (hu : w3.ownsRow b 69 3 (.slice A4 a.files.length C4) a.files.length (fcells a.files)) (hb : Below wr.heap.size wr w3) : HCutB b0 tL tA wr g a (.pointer (some ⟨w3.heap.size + 1, 0, none⟩)) (.pointer (some ⟨w3.heap.size, 0, none⟩)) ((w3.alloc (.cells #[Value.int .i64 a.err, .int .i64 a.gen, .int .i64 a.floor, .slice A4 a.files.length C4, .slice none 0 0] tA)).alloc (.cells #[Value.int .i64 g.floor, .slice A3 g.trees.length C3] tL)) :=
  ⟨_, _, A3, C3, A4, C4, rfl, rfl, Blk.new' (by simp) _ _, (Blk.new w3 tA #[Value.int .i64 a.err, .int .i64 a.gen, .int .i64 a.floor, .slice A4 a.files.length C4, .slice none 0 0]).alloc _, (hv.alloc _).alloc _, own_mono ((hu.alloc _).alloc _) (Nat.zero_le _), bel2' (bel2' hb _) _, Nat.le_succ_of_le hb.size⟩
theorem cutB_E3 (hL : Blk w3 gL tL #[x1, x2]) (hg : wr.heap.size ≤ gL) (h1 : 9 ≠ tL) (h2 : 69 ≠ tL) (hv : w3.ownsRow b0 9 1 (.slice A3 g.trees.length C3) g.trees.length (g.trees.map Value.string)) (hu : w3.ownsRow b 69 3 (.slice A4 a.files.length C4) a.files.length (fcells a.files)) (hb : Below wr.heap.size wr w3) : HCutB b0 tL tA wr g a (.pointer (some ⟨gL, 0, none⟩)) (.pointer (some ⟨w3.heap.size, 0, none⟩)) (((w3.setCell ⟨gL, 0, none⟩ (.int .i64 g.floor)).setCell ⟨gL, 1, none⟩ (.slice A3 g.trees.length C3)).alloc (.cells #[Value.int .i64 a.err, .int .i64 a.gen, .int .i64 a.floor, .slice A4 a.files.length C4, .slice none 0 0] tA)) :=
  ⟨_, _, A3, C3, A4, C4, rfl, rfl, (setL_blk hL _ _).alloc _, Blk.new' (by simp) _ _, (setL_own hL hv h1 _ _).alloc _, own_mono ((setL_own hL hu h2 _ _).alloc _) (Nat.zero_le _), bel2' (setL_be hb hg _ _) _, hg⟩
theorem cutB_E4 (hA : Blk w3 gA tA #[y1, y2, y3, y4, y5]) (hg : wr.heap.size ≤ gA) (h1 : 9 ≠ tA) (h2 : 69 ≠ tA) (hv : w3.ownsRow b0 9 1 (.slice A3 g.trees.length C3) g.trees.length (g.trees.map Value.string)) (hu : w3.ownsRow b 69 3 (.slice A4 a.files.length C4) a.files.length (fcells a.files)) (hb : Below wr.heap.size wr w3) : HCutB b0 tL tA wr g a (.pointer (some ⟨w3.heap.size, 0, none⟩)) (.pointer (some ⟨gA, 0, none⟩)) ((((((w3.setCell ⟨gA, 0, none⟩ (.int .i64 a.err)).setCell ⟨gA, 1, none⟩ (.int .i64 a.gen)).setCell ⟨gA, 2, none⟩ (.int .i64 a.floor)).setCell ⟨gA, 3, none⟩ (.slice A4 a.files.length C4)).setCell ⟨gA, 4, none⟩ (.slice none 0 0)).alloc (.cells #[Value.int .i64 g.floor, .slice A3 g.trees.length C3] tL)) :=
  ⟨_, _, A3, C3, A4, C4, rfl, rfl, Blk.new' (by simp) _ _, (setA_blk hA _ _ _ _ _).alloc _, (setA_own hA hv h1 _ _ _ _ _).alloc _, own_mono ((setA_own hA hu h2 _ _ _ _ _).alloc _) (Nat.zero_le _), bel2' (setA_be hb hg _ _ _ _ _) _, hb.size⟩
theorem cutB_E5 (hL : Blk w3 gL tL #[x1, x2]) (hA : Blk w3 gA tA #[y1, y2, y3, y4, y5]) (hgL : wr.heap.size ≤ gL) (hgA : wr.heap.size ≤ gA) (hne : tL ≠ tA) (h1 : 9 ≠ tL) (h2 : 69 ≠ tL) (h3 : 9 ≠ tA) (h4 : 69 ≠ tA) (hv : w3.ownsRow b0 9 1 (.slice A3 g.trees.length C3) g.trees.length (g.trees.map Value.string)) (hu : w3.ownsRow b 69 3 (.slice A4 a.files.length C4) a.files.length (fcells a.files)) (hb : Below wr.heap.size wr w3) :
    HCutB b0 tL tA wr g a (.pointer (some ⟨gL, 0, none⟩)) (.pointer (some ⟨gA, 0, none⟩)) (((((((w3.setCell ⟨gL, 0, none⟩ (.int .i64 g.floor)).setCell ⟨gL, 1, none⟩ (.slice A3 g.trees.length C3)).setCell ⟨gA, 0, none⟩ (.int .i64 a.err)).setCell ⟨gA, 1, none⟩ (.int .i64 a.gen)).setCell ⟨gA, 2, none⟩ (.int .i64 a.floor)).setCell ⟨gA, 3, none⟩ (.slice A4 a.files.length C4)).setCell ⟨gA, 4, none⟩ (.slice none 0 0)) := by
  have hLA := Blk.ne_ hL hA hne
  have hA2 := setL_far hA hLA.symm (.int .i64 g.floor) (.slice A3 g.trees.length C3)
  exact ⟨_, _, A3, C3, A4, C4, rfl, rfl, setA_far (setL_blk hL _ _) hLA _ _ _ _ _, setA_blk hA2 _ _ _ _ _, setA_own hA2 (setL_own hL hv h1 _ _) h3 _ _ _ _ _, own_mono (setA_own hA2 (setL_own hL hu h2 _ _) h4 _ _ _ _ _) (Nat.zero_le _), setA_be (setL_be hb hgL _ _) hgA _ _ _ _ _, hgL⟩
theorem cutB_E6 (hL : Blk w3 gL tL #[x1, x2]) (hA : Blk w3 gA tA #[y1, y2, y3, y4, y5]) (hgL : wr.heap.size ≤ gL) (hgA : wr.heap.size ≤ gA) (hne : tL ≠ tA) (h1 : 9 ≠ tL) (h2 : 69 ≠ tL) (h3 : 9 ≠ tA) (h4 : 69 ≠ tA) (hv : w3.ownsRow b0 9 1 (.slice A3 g.trees.length C3) g.trees.length (g.trees.map Value.string)) (hu : w3.ownsRow b 69 3 (.slice A4 a.files.length C4) a.files.length (fcells a.files)) (hb : Below wr.heap.size wr w3) :
    HCutB b0 tL tA wr g a (.pointer (some ⟨gL, 0, none⟩)) (.pointer (some ⟨gA, 0, none⟩)) (((((((w3.setCell ⟨gA, 0, none⟩ (.int .i64 a.err)).setCell ⟨gA, 1, none⟩ (.int .i64 a.gen)).setCell ⟨gA, 2, none⟩ (.int .i64 a.floor)).setCell ⟨gA, 3, none⟩ (.slice A4 a.files.length C4)).setCell ⟨gA, 4, none⟩ (.slice none 0 0)).setCell ⟨gL, 0, none⟩ (.int .i64 g.floor)).setCell ⟨gL, 1, none⟩ (.slice A3 g.trees.length C3)) := by
  have hLA := Blk.ne_ hL hA hne
  have hL2 := setA_far hL hLA (.int .i64 a.err) (.int .i64 a.gen) (.int .i64 a.floor) (.slice A4 a.files.length C4) (.slice none 0 0)
  exact ⟨_, _, A3, C3, A4, C4, rfl, rfl, setL_blk hL2 _ _, setL_far (setA_blk hA _ _ _ _ _) hLA.symm _ _, setL_own hL2 (setA_own hA hv h3 _ _ _ _ _) h1 _ _, own_mono (setL_own hL2 (setA_own hA hu h4 _ _ _ _ _) h2 _ _) (Nat.zero_le _), setL_be (setA_be hb hgA _ _ _ _ _) hgL _ _, hgL⟩
end
/-- Logs as they lie in a row. -/
structure LgE where
  g : LogD
  A : Option Addr
  c : Nat
def lcell (x : LgE) : List Value := [.int .i64 x.g.floor, .slice x.A x.g.trees.length x.c]
def lcells (l : List LgE) : List Value := (l.map lcell).flatten
theorem lcells_len (l : List LgE) : (lcells l).length = l.length * 2 := by
  unfold lcells
  rw [flat_len_eq (c := 2) _ (by intro r hr; obtain ⟨f, _, rfl⟩ := List.mem_map.1 hr; rfl), List.length_map]
theorem lcell_get {l : List LgE} {k : Nat} {e : LgE} (h : l[k]? = some e) {j : Nat} (hj : j < 2) : (lcells l)[k * 2 + j]? = (lcell e)[j]? :=
  flat_at (c := 2) _ k j (lcell e) (by intro r hr; obtain ⟨f, _, rfl⟩ := List.mem_map.1 hr; rfl) (by rw [List.getElem?_map, h]; rfl) hj
structure LogRow (W : World) (b : Nat) (V : Value) (es : List LgE) : Prop where
  row : W.ownsRow b 25 2 V es.length (lcells es)
  tr : ∀ x ∈ es, W.ownsRow b 9 1 (.slice x.A x.g.trees.length x.c) x.g.trees.length (x.g.trees.map Value.string)
theorem LogRow.below {W W' : World} {b : Nat} {V : Value} {es : List LgE} (h : LogRow W b V es) (hb : Below W.heap.size W W') : LogRow W' b V es := ⟨own_below h.row hb, fun x hx => own_below (h.tr x hx) hb⟩
theorem LogRow.push {W W' : World} {b : Nat} {V V' : Value} {es : List LgE} {x : LgE} (h : LogRow W b V es) (g : W.grownBy W' V.ownBlock) (hr : W'.ownsRow b 25 2 V' (es.length + 1) (lcells es ++ lcell x))
    (hx : W.ownsRow b 9 1 (.slice x.A x.g.trees.length x.c) x.g.trees.length (x.g.trees.map Value.string)) : LogRow W' b V' (es ++ [x]) := by
  have he : lcells (es ++ [x]) = lcells es ++ lcell x := by unfold lcells; rw [List.map_append, List.flatten_append]; simp
  refine ⟨by rw [he, List.length_append]; exact hr, fun y hy => ?_⟩
  rcases List.mem_append.1 hy with hy | hy
  · exact (h.tr y hy).kept g (own_apart (h.tr y hy) h.row (by decide))
  · rw [List.mem_singleton] at hy; subst hy
    exact hx.kept g (own_apart hx h.row (by decide))
def nextL (l : List EvD) (g : LogD) (i : Int) : LogD := match atI l i with | some e => (doP g (callOf e)).1 | none => g
def stA (l : List EvD) (s : List Int) : LogD := s.foldl (nextL l) ⟨0, []⟩
theorem stA_snoc (l : List EvD) (s : List Int) {k : Nat} {i : Nat} {e : EvD} (hk : s[k]? = some (i : Int)) (he : l[i]? = some e) : stA l (s.take (k + 1)) = (doP (stA l (s.take k)) (callOf e)).1 := by
  unfold stA
  rw [List.take_add_one, hk, Option.toList_some, List.foldl_append]
  show nextL l _ (i : Int) = _
  unfold nextL
  rw [at_nat, he]
theorem holds_in {st : LogD → EvD → Bool} {l : List EvD} : ∀ (s : List Int) (d : List Bool) (g : LogD), holdsGo st l s d g = true → ∀ i ∈ s, 0 ≤ i ∧ i < l.length
  | [], _, _, _, i, hi => by cases hi
  | j :: s, d, g, h, i, hi => by
    rw [holdsGo] at h
    by_cases hj : j < 0
    · unfold atI at h; rw [if_pos hj] at h; cases h
    · obtain ⟨m, rfl⟩ := Int.eq_ofNat_of_zero_le (show 0 ≤ j by omega)
      rw [at_nat] at h
      cases he : l[m]? with
      | none => rw [he] at h; cases h
      | some e =>
        rw [he] at h
        simp only [Bool.and_eq_true] at h
        rcases List.mem_cons.1 hi with rfl | hi
        · have : m < l.length := by
            rcases Nat.lt_or_ge m l.length with h | h
            · exact h
            · rw [List.getElem?_eq_none h] at he; cases he
          omega
        · exact holds_in s _ _ h.2 i hi
theorem holds_len {st : LogD → EvD → Bool} {l : List EvD} : ∀ (s : List Int) (d : List Bool) (g : LogD), holdsGo st l s d g = true → s.length ≤ undone d
  | [], _, _, _ => Nat.zero_le _
  | j :: s, d, g, h => by
    rw [holdsGo] at h
    cases he : atI l j with
    | none => rw [he] at h; cases h
    | some e =>
      rw [he] at h
      simp only [Bool.and_eq_true, Bool.not_eq_true'] at h
      obtain ⟨⟨⟨h1, _⟩, _⟩, h4⟩ := h
      have := holds_len s _ _ h4
      have h2 := undone_set (getD_false h1)
      simp
      omega
theorem stA_good (l : List EvD) (s : List Int) : ∀ k : Nat, GoodL (stA l (s.take k)) k
  | 0 => ⟨Int.le_refl _, Int.le_refl _, Nat.le_refl _, by simp [stA]⟩
  | k + 1 => by
    have h := stA_good l s k
    have h' : GoodL (stA l (s.take k)) (k + 1) := ⟨h.f0, h.f1, Nat.le_succ_of_le h.n, h.s⟩
    cases hk : s[k]? with
    | none =>
      have : s.take (k + 1) = s.take k := by rw [List.take_add_one, hk]; simp
      rw [this]; exact h'
    | some i =>
      have : stA l (s.take (k + 1)) = nextL l (stA l (s.take k)) i := by
        unfold stA
        rw [List.take_add_one, hk, Option.toList_some, List.foldl_append]
        rfl
      rw [this]
      unfold nextL
      cases atI l i with
      | none => exact h'
      | some e => exact do_good h _
theorem logs_snoc {l : List EvD} {s : List Int} {es : List LgE} {k : Nat} {y : LgE} (h1 : es.length = k + 1) (h2 : ∀ (j : Nat) (x : LgE), es[j]? = some x → x.g = stA l (s.take j)) (h3 : stA l (s.take (k + 1)) = y.g) :
    ∀ (j : Nat) (x : LgE), (es ++ [y])[j]? = some x → x.g = stA l (s.take j) := by
  intro j x hx
  rcases Nat.lt_or_ge j es.length with hlt | hge
  · rw [List.getElem?_append_left hlt] at hx
    exact h2 j x hx
  · rw [List.getElem?_append_right hge] at hx
    rcases Nat.eq_or_lt_of_le hge with he | hl
    · rw [← he, Nat.sub_self] at hx
      simp at hx
      rw [← hx, ← h3, ← he, h1]
    · rw [List.getElem?_eq_none (by simp; omega)] at hx; cases hx
/-- What Logs tells where the order holds. -/
def LogsYes (w : World) (l : List EvD) (s : List Int) (e : Ending) (w' : World) : Prop := ∃ V es, e = .returned (.tuple #[V, .int .i64 0]) ∧ LogRow w' w.heap.size V es ∧ es.length = s.length + 1 ∧ (∀ (k : Nat) (x : LgE), es[k]? = some x → x.g = stA l (s.take k)) ∧ Below w.heap.size w w'
theorem infoLG : (Tryd.prog.info? 25).map (fun i => (i.zero, i.size, i.bytes)) = some (some (.agg #[.int .i64 0, .slice none 0 0]), 2, 32) := by kernel_rfl
def LogR (w : World) (l : List EvD) (s : List Int) (vo v : Value) (wr : World) : Prop := ∃ (k : Nat) (es : List LgE), k ≤ s.length ∧ v = .int .i64 k ∧ Hid (es.length = k + 1) ∧ Hid (∀ (j : Nat) (x : LgE), es[j]? = some x → x.g = stA l (s.take j)) ∧ Hid (LogRow wr w.heap.size vo es) ∧ Below w.heap.size w wr
set_option maxHeartbeats 1000000 in
set_option maxRecDepth 100000 in
theorem logs_no (w : World) (hm : Ml w) {V : Value} {l : List EvD} (hh : Hist w V l) (hE : ∀ e ∈ l, EFit e) (hl : l.length ≤ 1048576) (SA : Option Addr) (SC : Nat) (s : List Int) (hs : s.length ≤ 9223372036854775807) (hsa : Arr w w.heap.size 1 SA s.length (s.map fun (i : Int) => Value.int .i64 i)) (hH : holdsP l s = false) :
    Calls Tryd.prog 34 #[V, .slice SA s.length SC] w fun e w' => e = .returned (.tuple #[.slice none 0 0, .int .i64 8]) ∧ Below w.heap.size w w' := by
  have HO := Lib.hid (holds_any w hm hh hE hl SA SC s hs hsa)
  rw [hH] at HO
  clear hh hE hsa hH hm
  go_enter Tryd.func34, Tryd.ntmps34
  go_wp2_with (go_at_call 27; (with_reducible refine (HO.out).mono ?_); rintro x w1 ⟨rfl, hb1⟩)
  go_ret2
  exact ⟨rfl, hb1⟩
set_option maxHeartbeats 8000000 in
set_option maxRecDepth 100000 in
theorem logs_yes (w : World) (hm : Ml w) {V : Value} {l : List EvD} (hh : Hist w V l) (hE : ∀ e ∈ l, EFit e) (hl : l.length ≤ 1048576) (SA : Option Addr) (SC : Nat) (s : List Int) (hs : s.length ≤ 9223372036854775807) (hsa : Arr w w.heap.size 1 SA s.length (s.map fun (i : Int) => Value.int .i64 i)) (hH : holdsP l s = true) :
    Calls Tryd.prog 34 #[V, .slice SA s.length SC] w (LogsYes w l s) := by
  obtain ⟨iL, fi0, fz0, fz1, fz2⟩ := info_parts infoLG
  have HO := Lib.hid (holds_any w hm hh hE hl SA SC s hs hsa)
  rw [hH] at HO
  obtain ⟨h1, h2⟩ : rightP l = true ∧ holdsGo tells l s (List.replicate l.length false) ⟨0, []⟩ = true := by
    unfold holdsP at hH; rw [Bool.and_eq_true] at hH; exact hH
  have hl2 := right_len h1
  have hin := holds_in _ _ _ h2
  have hsl := holds_len _ _ _ h2
  have hsl2 : s.length ≤ 256 := Nat.le_trans hsl (by have := undone_rep l.length; unfold undone; omega)
  have HIN := Lib.hid hin
  have HH := Lib.hid hh
  have HE := Lib.hid hE
  have HS := Lib.hid hsa
  have HM := Lib.hid hm
  obtain ⟨A, c, rfl, hcap, ha, _⟩ := own_arr hh.row
  have HA := Lib.hid ha
  clear hh hE hsa hH hm h1 h2 hin hsl ha
  go_enter Tryd.func34, Tryd.ntmps34
  go_wp2_with (go_at_call 27; (with_reducible refine (HO.out).mono ?_); rintro x w1 ⟨rfl, hb1⟩)
  have hw2 : Below w.heap.size w (w1.alloc (.cells #[Value.int .i64 0, .slice none 0 0] 25)) := hb1.alloc hb1.size _
  have HR0 : Hid (LogRow (w1.alloc (.cells #[Value.int .i64 0, .slice none 0 0] 25)) w.heap.size (.slice (some ⟨w1.heap.size, 0, none⟩) 1 1) [⟨⟨0, []⟩, none, 0⟩]) :=
    Lib.hid ⟨World.ownsRow_lit w1 #[Value.int .i64 0, .slice none 0 0] 1 hb1.size (by simp [maxLen]) (by simp), fun x hx => by rw [List.mem_singleton] at hx; subst hx; exact World.ownsRow_nil _ _ _ _⟩
  go_loopw [6, 19] (fun vo v wr => LogR w l s vo v wr) (fun _ v _ => s.length - (intOf v).toNat)
  case atStart => unfold LogR; exact ⟨0, [⟨⟨0, []⟩, none, 0⟩], Nat.zero_le _, rfl, Lib.hid rfl, Lib.hid (fun j x hx => by
    cases j with
    | zero => simp at hx; subst hx; rfl
    | succ j => simp at hx), HR0, hw2⟩
  case round =>
    unfold LogR at hrel
    obtain ⟨k, es, hk, rfl, HEL, HES, HR, hB⟩ := hrel
    by_cases hlt : k < s.length
    · obtain ⟨i, hi⟩ : ∃ i, s[k]? = some i := ⟨_, List.getElem?_eq_getElem hlt⟩
      obtain ⟨hi0, hi1⟩ := HIN.out i (List.mem_of_getElem? hi)
      obtain ⟨j, rfl⟩ := Int.eq_ofNat_of_zero_le hi0
      obtain ⟨sb, so, rfl, hsb, hscell⟩ := HS.out.2 (by omega)
      have s0 : wr.cell? ⟨sb, so + k, none⟩ = some (.int .i64 (j : Int)) := (hB.cell (p := ⟨sb, so + k, none⟩) hsb).trans (hscell k _ (by rw [List.getElem?_map, hi]; rfl))
      have kl : (k : Int) < s.length := by omega
      have jl : (j : Int) < l.length := hi1
      obtain ⟨e, he⟩ : ∃ e, l[j]? = some e := ⟨_, List.getElem?_eq_getElem (by omega)⟩
      obtain ⟨x, hx⟩ : ∃ x, es[k]? = some x := ⟨_, List.getElem?_eq_getElem (by have := HEL.out; omega)⟩
      have hxg := HES.out k x hx
      have hgl := stA_good l s k
      rw [← hxg] at hgl
      have hsn := stA_snoc l s hi he
      rw [← hxg] at hsn
      have hEe := HE.out e (List.mem_of_getElem? he)
      have hfs := HH.out.fs e (List.mem_of_getElem? he)
      have hvx := HR.out.tr x (List.mem_of_getElem? hx)
      have hrow := HR.out.row
      obtain ⟨OA, OC, rfl, hoc, hoa, _⟩ := own_arr hrow
      have hel := HEL.out
      rw [hel] at hoa
      obtain ⟨ob, oo, rfl, hob, hocell⟩ := hoa.2 (by omega)
      obtain ⟨b1, o1, rfl, hb1', hcell⟩ := HA.out.2 (by omega)
      have DC := Lib.hid (fun X (h : Below wr.heap.size wr X) => do_anyB x.g.floor e.kind e.gen (.slice x.A x.g.trees.length x.c) x.g.trees e.fA e.fC e.files X (fun s hs => Nat.le_trans (hgl.s s hs) (by omega)) (Nat.le_trans hgl.n (by omega)) hgl.f0 hgl.f1 (Nat.le_trans hEe.2.1 (by omega)) hEe.1 (own_below hvx h) (own_slice (own_below hfs (hB.trans (h.mono hB.size)))) (HM.out.on (hB.trans (h.mono hB.size))) (Nat.le_trans hB.size h.size))
      rw [show doP ⟨x.g.floor, x.g.trees⟩ ⟨e.kind, e.gen, e.files⟩ = doP x.g (callOf e) from rfl] at DC
      generalize doP x.g (callOf e) = DR at *
      obtain ⟨⟨fl3, L3⟩, ⟨er3, ge3, fo3, F3⟩⟩ := DR
      unfold DoOutB at DC
      simp only [] at DC hsn
      obtain ⟨w2, rfl⟩ : ∃ x, x = wr := ⟨_, rfl⟩
      have hS : ∀ W, Below w2.heap.size w2 W → (W.cell? ⟨ob, oo + k * 2, none⟩ = some (.int .i64 x.g.floor) ∧ W.cell? ⟨ob, oo + k * 2 + 1, none⟩ = some (.slice x.A x.g.trees.length x.c) ∧ W.cell? ⟨b1, o1 + j * 10 + 2, none⟩ = some (.int .i64 e.kind) ∧ W.cell? ⟨b1, o1 + j * 10 + 3, none⟩ = some (.int .i64 e.gen) ∧ W.cell? ⟨b1, o1 + j * 10 + 4, none⟩ = some (.slice e.fA e.files.length e.fC)) := fun W h => by
        have cc := ev_cells (fun i u h' => ((hB.trans (h.mono hB.size)).cell (p := ⟨b1, o1 + i, none⟩) hb1').trans (hcell i u h')) he
        have d0 := (h.cell (p := ⟨ob, oo + (k * 2 + 0), none⟩) hob).trans (hocell (k * 2 + 0) _ (lcell_get hx (j := 0) (by omega)))
        have d1 := (h.cell (p := ⟨ob, oo + (k * 2 + 1), none⟩) hob).trans (hocell (k * 2 + 1) _ (lcell_get hx (j := 1) (by omega)))
        exact ⟨d0, d1, cc.2.2.1, cc.2.2.2.1, cc.2.2.2.2.1⟩
      have HS7 := Lib.hid hS
      have hwr : IntKind.i64.wrap ((es.length : Int) - 1) = (k : Int) := by rw [IntWalk.i64_in _ (by omega)]; omega
      have hkk : (k : Int) < (es.length : Int) := by omega
      have k0 := Nat.le_refl w2.heap.size
      have k5 : w2.heap.size ≤ w2.heap.size + 1 := Nat.le_succ _
      have k1 : (9 : TypeId) ≠ 25 := by decide
      have k2 : (69 : TypeId) ≠ 25 := by decide
      have k3 : (9 : TypeId) ≠ 34 := by decide
      have k4 : (69 : TypeId) ≠ 34 := by decide
      have k6 : (25 : TypeId) ≠ 34 := by decide
      have hb2 : Below w2.heap.size w2 w2 := Below.refl _ _
      have HX := Lib.hid hx
      have HXG := Lib.hid hxg
      have HSN := Lib.hid hsn
      have hwb := hB.size
      clear hS hcell hocell hx hxg hsn he hi hscell hgl hEe hfs hvx hrow hoa hi0
      clear hel
      go_wp2
      go_cut [9, 10, 19] from 19 to 42 (fun u v v19 wx => v19 = .int .i64 k ∧ HCutB w.heap.size 25 34 w2 ⟨fl3, L3⟩ ⟨er3, ge3, fo3, F3⟩ u v wx)
      case first =>
        go_region_held3 (fun w' => (w'.cell? ⟨ob, oo + k * 2, none⟩ = some (.int .i64 x.g.floor) ∧ w'.cell? ⟨ob, oo + k * 2 + 1, none⟩ = some (.slice x.A x.g.trees.length x.c) ∧ w'.cell? ⟨b1, o1 + j * 10 + 2, none⟩ = some (.int .i64 e.kind) ∧ w'.cell? ⟨b1, o1 + j * 10 + 3, none⟩ = some (.int .i64 e.gen) ∧ w'.cell? ⟨b1, o1 + j * 10 + 4, none⟩ = some (.slice e.fA e.files.length e.fC))) ((refine HS7.out _ ?_; (repeat (first | (with_reducible exact hb2) | (with_reducible exact hbw3) | (with_reducible refine Below.drew ?_) | (with_reducible refine bel2 ?_ _) | (with_reducible refine belset ?_ (by first | exact k0 | exact k5 | exact hle3 | exact Nat.le_succ_of_le hle3) _))))) (first | (go_at_call 14; (with_reducible refine (DC.out w2.drew hb2.drew).mono ?_); rintro x w3 ⟨V7, U7, rfl, hv3, hu3, hb3⟩; obtain ⟨A3, C3, rfl, _, _, _⟩ := own_arr hv3; obtain ⟨A4, C4, rfl, _, _, _⟩ := own_arr hu3; have HV3 := Lib.hid hv3; have HU3 := Lib.hid hu3; have hbw3 := below_on hb2.drew hb3; have HB3 := Lib.hid hbw3; have hle3 := hbw3.size; clear hv3 hu3) | ((go_at_call 14; (with_reducible refine (DC.out (w2.alloc (.cells #[Value.int .i64 0, .slice none 0 0] 25)).drew (bel2 hb2 _).drew).mono ?_); rintro x w3 ⟨V7, U7, rfl, hv3, hu3, hb3⟩; obtain ⟨A3, C3, rfl, _, _, _⟩ := own_arr hv3; obtain ⟨A4, C4, rfl, _, _, _⟩ := own_arr hu3; have HV3 := Lib.hid hv3; have HU3 := Lib.hid hu3; have hbw3 := below_on (bel2 hb2 _).drew hb3; have HB3 := Lib.hid hbw3; have hle3 := hbw3.size; clear hv3 hu3); have zL := (Blk.new w2 25 #[Value.int .i64 0, .slice none 0 0]).drew.below hb3 (by show _ < (w2.alloc _).heap.size; simp); obtain ⟨z0, z1, z2, z3⟩ := hcells zL; have z4 := fun o => (hcells (zL.alloc o)).1; have z5 := fun o => (hcells (zL.alloc o)).2.1; have z6 := fun o => (hcells (zL.alloc o)).2.2.1; have z7 := fun o => (hcells (zL.alloc o)).2.2.2; have n0 := zL.lt; have n1 : ¬ w2.heap.size = w3.heap.size := (by omega); have n2 : ¬ w3.heap.size = w2.heap.size := (by omega); have ZL := Lib.hid zL; clear zL) | ((go_at_call 14; (with_reducible refine (DC.out (w2.alloc (.cells #[Value.int .i64 0, .int .i64 0, .int .i64 0, .slice none 0 0, .slice none 0 0] 34)).drew (bel2 hb2 _).drew).mono ?_); rintro x w3 ⟨V7, U7, rfl, hv3, hu3, hb3⟩; obtain ⟨A3, C3, rfl, _, _, _⟩ := own_arr hv3; obtain ⟨A4, C4, rfl, _, _, _⟩ := own_arr hu3; have HV3 := Lib.hid hv3; have HU3 := Lib.hid hu3; have hbw3 := below_on (bel2 hb2 _).drew hb3; have HB3 := Lib.hid hbw3; have hle3 := hbw3.size; clear hv3 hu3); have zA := (Blk.new w2 34 #[Value.int .i64 0, .int .i64 0, .int .i64 0, .slice none 0 0, .slice none 0 0]).drew.below hb3 (by show _ < (w2.alloc _).heap.size; simp); obtain ⟨y0, y1, y2, y3, y4, y5, y6, y7, y8, y9⟩ := acells zA; have v0 := fun o => (acells (zA.alloc o)).1; have v1 := fun o => (acells (zA.alloc o)).2.1; have v2 := fun o => (acells (zA.alloc o)).2.2.1; have v3 := fun o => (acells (zA.alloc o)).2.2.2.1; have v4 := fun o => (acells (zA.alloc o)).2.2.2.2.1; have v5 := fun o => (acells (zA.alloc o)).2.2.2.2.2.1; have v6 := fun o => (acells (zA.alloc o)).2.2.2.2.2.2.1; have v7 := fun o => (acells (zA.alloc o)).2.2.2.2.2.2.2.1; have v8 := fun o => (acells (zA.alloc o)).2.2.2.2.2.2.2.2.1; have v9 := fun o => (acells (zA.alloc o)).2.2.2.2.2.2.2.2.2; have n0 := zA.lt; have n1 : ¬ w2.heap.size = w3.heap.size := (by omega); have n2 : ¬ w3.heap.size = w2.heap.size := (by omega); have ZA := Lib.hid zA; clear zA) | ((go_at_call 14; (with_reducible refine (DC.out ((w2.alloc (.cells #[Value.int .i64 0, .slice none 0 0] 25)).alloc (.cells #[Value.int .i64 0, .int .i64 0, .int .i64 0, .slice none 0 0, .slice none 0 0] 34)).drew (bel2 (bel2 hb2 _) _).drew).mono ?_); rintro x w3 ⟨V7, U7, rfl, hv3, hu3, hb3⟩; obtain ⟨A3, C3, rfl, _, _, _⟩ := own_arr hv3; obtain ⟨A4, C4, rfl, _, _, _⟩ := own_arr hu3; have HV3 := Lib.hid hv3; have HU3 := Lib.hid hu3; have hbw3 := below_on (bel2 (bel2 hb2 _) _).drew hb3; have HB3 := Lib.hid hbw3; have hle3 := hbw3.size; clear hv3 hu3); have zL := ((Blk.new w2 25 #[Value.int .i64 0, .slice none 0 0]).alloc (.cells #[Value.int .i64 0, .int .i64 0, .int .i64 0, .slice none 0 0, .slice none 0 0] 34)).drew.below hb3 (by show _ < ((w2.alloc _).alloc _).heap.size; simp; omega); have zA := (Blk.new' (w := w2.alloc (.cells #[Value.int .i64 0, .slice none 0 0] 25)) (g := w2.heap.size + 1) (by simp) 34 #[Value.int .i64 0, .int .i64 0, .int .i64 0, .slice none 0 0, .slice none 0 0]).drew.below hb3 (by show _ < ((w2.alloc _).alloc _).heap.size; simp); obtain ⟨z0, z1, z2, z3⟩ := hcells zL; obtain ⟨y0, y1, y2, y3, y4, y5, y6, y7, y8, y9⟩ := acells zA; have zL2 := setA_far zL (by omega : w2.heap.size ≠ w2.heap.size + 1) (.int .i64 er3) (.int .i64 ge3) (.int .i64 fo3) (.slice A4 F3.length C4) (.slice none 0 0); have zA2 := setL_far zA (by omega : w2.heap.size + 1 ≠ w2.heap.size) (.int .i64 fl3) (.slice A3 L3.length C3); obtain ⟨z4, z5, z6, z7⟩ := hcells zL2; obtain ⟨v0, v1, v2, v3, v4, v5, v6, v7, v8, v9⟩ := acells zA2; have ZL := Lib.hid zL; have ZA := Lib.hid zA; clear zL zA zL2 zA2) | ((go_at_call 14; (with_reducible refine (DC.out ((w2.alloc (.cells #[Value.int .i64 0, .int .i64 0, .int .i64 0, .slice none 0 0, .slice none 0 0] 34)).alloc (.cells #[Value.int .i64 0, .slice none 0 0] 25)).drew (bel2 (bel2 hb2 _) _).drew).mono ?_); rintro x w3 ⟨V7, U7, rfl, hv3, hu3, hb3⟩; obtain ⟨A3, C3, rfl, _, _, _⟩ := own_arr hv3; obtain ⟨A4, C4, rfl, _, _, _⟩ := own_arr hu3; have HV3 := Lib.hid hv3; have HU3 := Lib.hid hu3; have hbw3 := below_on (bel2 (bel2 hb2 _) _).drew hb3; have HB3 := Lib.hid hbw3; have hle3 := hbw3.size; clear hv3 hu3); have zA := ((Blk.new w2 34 #[Value.int .i64 0, .int .i64 0, .int .i64 0, .slice none 0 0, .slice none 0 0]).alloc (.cells #[Value.int .i64 0, .slice none 0 0] 25)).drew.below hb3 (by show _ < ((w2.alloc _).alloc _).heap.size; simp; omega); have zL := (Blk.new' (w := w2.alloc (.cells #[Value.int .i64 0, .int .i64 0, .int .i64 0, .slice none 0 0, .slice none 0 0] 34)) (g := w2.heap.size + 1) (by simp) 25 #[Value.int .i64 0, .slice none 0 0]).drew.below hb3 (by show _ < ((w2.alloc _).alloc _).heap.size; simp); obtain ⟨z0, z1, z2, z3⟩ := hcells zL; obtain ⟨y0, y1, y2, y3, y4, y5, y6, y7, y8, y9⟩ := acells zA; have zL2 := setA_far zL (by omega : w2.heap.size + 1 ≠ w2.heap.size) (.int .i64 er3) (.int .i64 ge3) (.int .i64 fo3) (.slice A4 F3.length C4) (.slice none 0 0); have zA2 := setL_far zA (by omega : w2.heap.size ≠ w2.heap.size + 1) (.int .i64 fl3) (.slice A3 L3.length C3); obtain ⟨z4, z5, z6, z7⟩ := hcells zL2; obtain ⟨v0, v1, v2, v3, v4, v5, v6, v7, v8, v9⟩ := acells zA2; have ZL := Lib.hid zL; have ZA := Lib.hid zA; clear zL zA zL2 zA2) | (fail))
        all_goals (try go_wp2_with fail)
        all_goals go_meet
        all_goals (refine ⟨rfl, ?_⟩; (first | (with_reducible exact cutB_E1 (g := ⟨fl3, L3⟩) (a := ⟨er3, ge3, fo3, F3⟩) HV3.out HU3.out HB3.out) | (with_reducible exact cutB_E2 (g := ⟨fl3, L3⟩) (a := ⟨er3, ge3, fo3, F3⟩) HV3.out HU3.out HB3.out) | (with_reducible exact cutB_E3 (g := ⟨fl3, L3⟩) (a := ⟨er3, ge3, fo3, F3⟩) ZL.out k0 k1 k2 HV3.out HU3.out HB3.out) | (with_reducible exact cutB_E4 (g := ⟨fl3, L3⟩) (a := ⟨er3, ge3, fo3, F3⟩) ZA.out k0 k3 k4 HV3.out HU3.out HB3.out) | (with_reducible exact cutB_E5 (g := ⟨fl3, L3⟩) (a := ⟨er3, ge3, fo3, F3⟩) ZL.out ZA.out k0 k5 k6 k1 k2 k3 k4 HV3.out HU3.out HB3.out) | (with_reducible exact cutB_E6 (g := ⟨fl3, L3⟩) (a := ⟨er3, ge3, fo3, F3⟩) ZL.out ZA.out k0 k5 k6 k1 k2 k3 k4 HV3.out HU3.out HB3.out) | (with_reducible exact cutB_E5 (g := ⟨fl3, L3⟩) (a := ⟨er3, ge3, fo3, F3⟩) ZL.out ZA.out k5 k0 k6 k1 k2 k3 k4 HV3.out HU3.out HB3.out) | (with_reducible exact cutB_E6 (g := ⟨fl3, L3⟩) (a := ⟨er3, ge3, fo3, F3⟩) ZL.out ZA.out k5 k0 k6 k1 k2 k3 k4 HV3.out HU3.out HB3.out)))
      case rest =>
        obtain ⟨rfl, g9, g10, A3, C3, A4, C4, rfl, rfl, hL9, hA10, hv9, hu9, hbc, hg9⟩ := hcut
        obtain ⟨l0, l1, _, _⟩ := hcells hL9
        have HRC := Lib.hid (HR.out.below hbc)
        have HV9 := Lib.hid hv9
        have hwc := hB.trans (hbc.mono hB.size)
        have HWC := Lib.hid hwc
        clear hL9 hA10 hv9 hu9 hwr
        go_wp2_with (at_builtin; (have hrow := HRC.out.row); refine wpList_push rfl _ _ _ rfl Tryd.underlying65 fi0 fz0 fz1 fz2 rfl (by decide) hrow rfl rfl rfl (by intro u hu; simp at hu; rcases hu with rfl | rfl <;> rfl) (by have := HEL.out; unfold maxLen; omega) (by have := HEL.out; omega) HWC.out.size ?_; intro g7 cap7 w7 hown7 hgr7 hat7; have HR7 := Lib.hid (HRC.out.push (x := ⟨⟨fl3, L3⟩, A3, C3⟩) hgr7 hown7 HV9.out); have hB7 := HWC.out.grown hgr7 HWC.out.size (fun j hj => (hrow.lt j hj).1); clear hown7 hrow)
        go_roundw
        case rel => unfold LogR; exact ⟨k + 1, es ++ [⟨⟨fl3, L3⟩, A3, C3⟩], by omega, by go_num, Lib.hid (by rw [List.length_append, HEL.out]; rfl), Lib.hid (logs_snoc HEL.out HES.out HSN.out), HR7, hB7⟩
        case measure => simp [intOf] <;> omega
    · have hkl : k = s.length := by omega
      have kl : ¬ (k : Int) < s.length := by omega
      go_wp2
      go_ret2
      unfold LogsYes
      exact ⟨_, es, rfl, HR.out, by rw [HEL.out, hkl], HES.out, hB⟩
end Go.Proofs.YtakdngcgjahafaaDoor
