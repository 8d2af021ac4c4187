/- Chapter 22: Order, on any history.; Chapter 22's example. -/
import Derived.Test.YtakdngcgjahafaaDoorSp15
import Derived.Test.YtakdngcgjahafaaDoorSpC
/- Chapter 22: Order, on any history. -/
namespace Go.Proofs.YtakdngcgjahafaaDoor
open Go.RowKit
set_option linter.unusedVariables false

def OrderOut (w : World) (p : Int × List Nat) (e : Ending) (w' : World) : Prop := ∃ U, e = .returned (.tuple #[U, .int .i64 p.1]) ∧ w'.ownsRow w.heap.size 3 1 U p.2.length (p.2.map fun (i : Nat) => Value.int .i64 (i : Int)) ∧ Below w.heap.size w w'
set_option maxRecDepth 100000 in
theorem made_done (n : Nat) (hn : n ≤ 256) (W : World) : (Instr.makeSlice 51 (.int .i64 n) (.int .i64 n)).run Tryd.prog W = .ok (.slice (some ⟨W.heap.size, 0, none⟩) n n) (W.alloc (.cells (drow (List.replicate n false)) 4)) := by
  obtain ⟨i0, hi, hz0, hz1, hz2⟩ := info_parts infoBool
  have hr := run_make (P := Tryd.prog) W 51 4 i0 (.bool false) Tryd.underlying51 hi hz0 .i64 .i64 n n (by omega) (Int.le_refl _) (by rw [hz2]; omega) (by omega)
  rw [Int.toNat_natCast, hz1, Nat.mul_one] at hr
  rw [hr]
  congr 3
  apply Array.ext_getElem?
  intro j
  unfold madeCells drow
  rw [Array.getElem?_map, Array.getElem?_range, List.getElem?_toArray, List.getElem?_map, List.getElem?_replicate]
  by_cases hj : j < n
  · rw [if_pos hj, if_pos hj]
    show some ((#[Value.bool false] : Array Value)[j % 1]!) = _
    rw [Nat.mod_one]
    rfl
  · rw [if_neg hj, if_neg hj]
    rfl
theorem fnd_new {W : World} {b D : Nat} {V : Value} {l : List EvD} {n : Nat} (hn : l.length = n) (hD : Blk W D 4 (drow (List.replicate n false))) (hb : b ≤ D) (hs : b ≤ W.heap.size) (hh : Hist W V l) (steps : Int) :
    Fnd (W.alloc (.cells #[V, .slice (some ⟨D, 0, none⟩) n n, .int .i64 steps, .slice none 0 0] 77)) b W.heap.size D V l (List.replicate n false) steps (.slice none 0 0) [] := by
  subst hn
  exact ⟨Blk.new _ _ _, hD.alloc _, World.ownsRow_nil _ _ _ _, hh.below ((Below.refl _ _).alloc (Nat.le_refl _) _), hs, hb, List.length_replicate⟩
theorem hist_noM {w W : World} {V V' : Value} {l : List EvD} {base : Nat} (h : Hist w V l) (hb : Below w.heap.size w W) (hr : W.ownsRow base 54 10 V' l.length (ecells (l.map noM))) : Hist W V' (l.map noM) := by
  refine ⟨by rw [noM_len]; exact own_mono hr (Nat.zero_le _), fun e he => ?_, fun e he => ?_⟩
  · obtain ⟨x, hx, rfl⟩ := List.mem_map.1 he
    exact own_below (h.fs x hx) hb
  · obtain ⟨x, hx, rfl⟩ := List.mem_map.1 he
    exact own_below (h.an x hx) hb
/-- The search from the beginning. -/
theorem find_all {w W : World} (hm : Ml w) (hB : Below w.heap.size w W) {F D : Nat} {V : Value} {l : List EvD} (hl : l.length ≤ 256) (hE : ∀ e ∈ l, EFit e) {steps : Int} (h0 : 0 ≤ steps) (h1 : steps ≤ 4611686018427387904)
    (hf : Fnd W w.heap.size F D V (l.map noM) (List.replicate l.length false) steps (.slice none 0 0) []) :
    Calls Tryd.prog 41 #[.pointer (some ⟨F, 0, none⟩), .agg #[.int .i64 0, .slice none 0 0]] W (FindOut W w.heap.size F D V (l.map noM) (findP 257 l ⟨0, []⟩ (List.replicate l.length false) steps [])) := by
  have h := find_any w hm (F := F) (D := D) (V := V) (l := l.map noM) (by rw [noM_len]; exact hl) (fun e he => by obtain ⟨x, hx, rfl⟩ := List.mem_map.1 he; exact hE x hx) 257 ⟨0, []⟩ (List.replicate l.length false) steps [] W (.slice none 0 0) (.slice none 0 0) (by omega)
    (by have := undone_rep l.length; unfold undone; omega) ⟨by decide, by decide, by decide, by simp⟩ (by omega) h1 (by simp) hf hB (World.ownsRow_nil _ _ _ _)
  rw [find_noM] at h
  exact h
theorem Fnd.pubs {W : World} {b F D : Nat} {V U : Value} {l : List EvD} {d : List Bool} {left : Int} {o : List Nat} (h : Fnd W b F D V l d left U o) : W.cell? ⟨F, 2, none⟩ = some (.int .i64 left) ∧ W.cell? ⟨F, 3, none⟩ = some U := ⟨h.cells.2.2.1, h.cells.2.2.2.1⟩
set_option maxHeartbeats 4000000 in
set_option maxRecDepth 100000 in
theorem ord_any (w : World) (hm : Ml w) {V : Value} {l : List EvD} (hh : Hist w V l) (hE : ∀ e ∈ l, EFit e) (hl : l.length ≤ 1048576) {steps : Int} (h1 : steps ≤ 4611686018427387904) :
    Calls Tryd.prog 20 #[V, .int .i64 steps] w (OrderOut w (orderP l steps)) := by
  obtain ⟨A, c, rfl, hcap, ha, _⟩ := own_arr hh.row
  have RG := Lib.hid (evs_right A c l w (by omega) ha)
  by_cases hr : rightP l = false ∨ steps < 0
  · rw [show orderP l steps = (1, []) by unfold orderP; rw [if_pos hr]]
    clear ha
    cases hrr : rightP l with
    | false =>
      rw [hrr] at RG
      clear hr hrr
      go_enter Tryd.func20, Tryd.ntmps20
      go_wp2_with (go_at_call 28; (with_reducible refine (RG.out).mono ?_); rintro x w1 ⟨rfl, hb1⟩)
      go_ret2
      exact ⟨_, rfl, World.ownsRow_nil _ _ _ _, hb1⟩
    | true =>
      have hs : steps < 0 := by rcases hr with h | h; (rw [hrr] at h; cases h); exact h
      rw [hrr] at RG
      clear hr hrr
      go_enter Tryd.func20, Tryd.ntmps20
      go_wp2_with (go_at_call 28; (with_reducible refine (RG.out).mono ?_); rintro x w1 ⟨rfl, hb1⟩)
      go_ret2
      exact ⟨_, rfl, World.ownsRow_nil _ _ _ _, hb1⟩
  · have hrr : rightP l = true := by
      cases h : rightP l
      · exact absurd (.inl h) hr
      · rfl
    have h0 : 0 ≤ steps := by omega
    have hs : ¬ steps < 0 := by omega
    have hl2 := right_len hrr
    rw [hrr] at RG
    have HH := Lib.hid hh
    have UN := Lib.hid (fun X (h : Below w.heap.size w X) => unmark_any A c l X (by omega) ((ha.below h).more h.size))
    have hmk := made_done l.length hl2
    have FN := Lib.hid (fun X (h : Below w.heap.size w X) F D V hf => find_all hm h (F := F) (D := D) (V := V) hl2 hE h0 h1 hf)
    have hO : orderP l steps = if (findP 257 l ⟨0, []⟩ (List.replicate l.length false) steps []).ok = true then (0, (findP 257 l ⟨0, []⟩ (List.replicate l.length false) steps []).o) else if (findP 257 l ⟨0, []⟩ (List.replicate l.length false) steps []).left < 0 then (7, []) else (8, []) := by
      unfold orderP; rw [if_neg hr]
    generalize orderP l steps = P at *
    generalize findP 257 l ⟨0, []⟩ (List.replicate l.length false) steps [] = r at *
    have HO := Lib.hid hO
    clear hO hr hrr ha hh hE
    go_enter Tryd.func20, Tryd.ntmps20
    go_wp2_with (go_at_call 28; (with_reducible refine (RG.out).mono ?_); rintro x w1 ⟨rfl, hb1⟩; have HB1 := Lib.hid hb1; have HB1a := Lib.hid (hb1.alloc hb1.size (.cells (drow (List.replicate l.length false)) 4)).drew; clear hb1)
    go_region_with (first | (go_at_call 40; (with_reducible refine (UN.out w1.drew HB1.out.drew).mono ?_); rintro x w2 ⟨V2, rfl, hv2, hb2⟩; obtain ⟨A2, c2, rfl, _, _, _⟩ := own_arr hv2; have hfn := (fnd_new (noM_len l) (Blk.new w2 4 (drow (List.replicate l.length false))) (Nat.le_trans HB1.out.size hb2.size) (by rw [World.size_alloc]; exact Nat.le_succ_of_le (Nat.le_trans HB1.out.size hb2.size)) (hist_noM HH.out ((below_on HB1.out.drew hb2).alloc (below_on HB1.out.drew hb2).size (.cells (drow (List.replicate l.length false)) 4)) (own_below hv2 ((Below.refl _ w2).alloc (Nat.le_refl _) (.cells (drow (List.replicate l.length false)) 4)))) steps); rw [World.size_alloc] at hfn; have HFN := Lib.hid hfn; clear hfn; have HB3 := Lib.hid (((below_on HB1.out.drew hb2).alloc (below_on HB1.out.drew hb2).size (.cells (drow (List.replicate l.length false)) 4)).alloc (by simp; exact Nat.le_succ_of_le (below_on HB1.out.drew hb2).size) (.cells #[.slice A2 l.length c2, .slice (some ⟨w2.heap.size, 0, none⟩) l.length l.length, .int .i64 steps, .slice none 0 0] 77)); clear hv2) | (go_at_call 40; (with_reducible refine (UN.out (w1.alloc (.cells (drow (List.replicate l.length false)) 4)).drew HB1a.out).mono ?_); rintro x w2 ⟨V2, rfl, hv2, hb2⟩; obtain ⟨A2, c2, rfl, _, _, _⟩ := own_arr hv2; have HFN := Lib.hid (fnd_new (noM_len l) ((Blk.new w1 4 (drow (List.replicate l.length false))).drew.below hb2 (by show _ < (w1.alloc _).heap.size; simp)) HB1.out.drew.size (Nat.le_trans HB1a.out.size hb2.size) (hist_noM HH.out (below_on HB1a.out hb2) hv2) steps); have HB3 := Lib.hid ((below_on HB1a.out hb2).alloc (below_on HB1a.out hb2).size (.cells #[.slice A2 l.length c2, .slice (some ⟨w1.heap.size, 0, none⟩) l.length l.length, .int .i64 steps, .slice none 0 0] 77)); clear hv2) | (fail))
    all_goals
      obtain ⟨ok, d9, left, o9⟩ := r
      cases ok with
      | true =>
        have hP : P = (0, o9) := HO.out
        subst hP
        (go_wp2_with (go_at_call 41; (with_reducible refine (FN.out _ HB3.out _ _ _ HFN.out).mono ?_); rintro x w3 ⟨rfl, U3, hf3, hk3⟩; obtain ⟨f2, f3⟩ := hf3.pubs))
        go_ret2
        unfold OrderOut
        exact ⟨_, rfl, hf3.ord, HB3.out.trans (hk3.below HB3.out.size hf3.bF hf3.bD)⟩
      | false =>
        by_cases hlf : left < 0
        · have hP : P = (7, []) := by have h := HO.out; simpa [hlf] using h
          subst hP
          clear HO
          (go_wp2_with (go_at_call 41; (with_reducible refine (FN.out _ HB3.out _ _ _ HFN.out).mono ?_); rintro x w3 ⟨rfl, U3, hf3, hk3⟩; obtain ⟨f2, f3⟩ := hf3.pubs))
          go_ret2
          unfold OrderOut
          exact ⟨_, rfl, World.ownsRow_nil _ _ _ _, HB3.out.trans (hk3.below HB3.out.size hf3.bF hf3.bD)⟩
        · have hP : P = (8, []) := by have h := HO.out; simpa [hlf] using h
          subst hP
          clear HO
          (go_wp2_with (go_at_call 41; (with_reducible refine (FN.out _ HB3.out _ _ _ HFN.out).mono ?_); rintro x w3 ⟨rfl, U3, hf3, hk3⟩; obtain ⟨f2, f3⟩ := hf3.pubs))
          go_ret2
          unfold OrderOut
          exact ⟨_, rfl, World.ownsRow_nil _ _ _ _, HB3.out.trans (hk3.below HB3.out.size hf3.bF hf3.bD)⟩
end Go.Proofs.YtakdngcgjahafaaDoor
/- Chapter 22's example. -/
namespace Go.Proofs.YtakdngcgjahafaaDoor
open Go.RowKit
set_option linter.unusedVariables false

def axFile : FileD := ⟨⟨#[97]⟩, 0, ⟨#[120]⟩⟩
def ax1 (b : Nat) : EvD := ⟨1, 2, 1, 0, some ⟨b, 0, none⟩, 1, [axFile], 0, 0, 0, none, 0, [], none, 0, 0⟩
def ax2 (b : Nat) : EvD := ⟨3, 4, 2, 0, none, 0, [], 0, 0, 0, some ⟨b, 0, none⟩, 1, [axFile], none, 0, 0⟩
theorem ax_of : ofE [axFile] = 0 := by kernel_rfl
theorem ax_do1 (b : Nat) : doP ⟨0, []⟩ (callOf (ax1 b)) = (⟨0, [ofS [axFile]]⟩, ⟨0, 0, 0, []⟩) := by
  unfold doP
  rw [if_pos (show (callOf (ax1 b)).kind = 1 from rfl), if_neg (by show ¬ ofE [axFile] ≠ 0; rw [ax_of]; simp), if_neg (by decide)]
  rfl
theorem ax_do2 (b : Nat) : doP ⟨0, [ofS [axFile]]⟩ (callOf (ax2 b)) = (⟨0, [ofS [axFile]]⟩, ⟨0, 0, 0, [axFile]⟩) := by
  unfold doP
  rw [if_neg (show ¬ (callOf (ax2 b)).kind = 1 from (by decide : ¬ (2 : Int) = 1)), if_pos (show (callOf (ax2 b)).kind = 2 from rfl)]
  unfold hasP
  rw [if_neg (by decide), if_neg (by decide)]
  show (_, (⟨0, 0, 0, (treeOf (ofS [axFile])).2⟩ : AnsD)) = _
  rw [tree_back ax_of]
theorem ax_t1 (b : Nat) : takes ⟨0, []⟩ (ax1 b) = true := by
  unfold takes
  rw [if_neg (show ¬ openE (ax1 b) = true from (by decide : ¬ false = true)), ax_do1]
  exact @decide_eq_true _ (Classical.propDecidable _) rfl
theorem ax_t2 (b : Nat) : takes ⟨0, [ofS [axFile]]⟩ (ax2 b) = true := by
  unfold takes
  rw [if_neg (show ¬ openE (ax2 b) = true from (by decide : ¬ false = true)), ax_do2]
  exact @decide_eq_true _ (Classical.propDecidable _) rfl
theorem ax_order (b : Nat) : orderP [ax1 b, ax2 b] 100 = (0, [0, 1]) := by
  have hr : rightP [ax1 b, ax2 b] = true := rfl
  have h3 : findP 255 [ax1 b, ax2 b] ⟨0, [ofS [axFile]]⟩ [true, true] 98 [0, 1] = ⟨true, [true, true], 98, [0, 1]⟩ := by
    rw [findP, if_pos (show overP [ax1 b, ax2 b] [true, true] = true from rfl)]
  have h2 : findP 256 [ax1 b, ax2 b] ⟨0, [ofS [axFile]]⟩ [true, false] 99 [0] = ⟨true, [true, true], 98, [0, 1]⟩ := by
    rw [findP, if_neg (by show ¬ false = true; decide), if_neg (by decide), triesP, if_pos (show ([true, false].getD 0 true || !freeGo 0 (ax1 b).asked 0 [ax1 b, ax2 b] [true, false] || !takes ⟨0, [ofS [axFile]]⟩ (ax1 b)) = true from by simp), triesP, if_neg (by rw [ax_t2]; show ¬ (false || !true || !true) = true; decide)]
    simp only [ax_do2]
    have e : findP 255 [ax1 b, ax2 b] ⟨0, [ofS [axFile]]⟩ ([true, false].set (0 + 1) true) (99 - 1) ([0] ++ [0 + 1]) = ⟨true, [true, true], 98, [0, 1]⟩ := h3
    rw [e]
    rfl
  have h1 : findP 257 [ax1 b, ax2 b] ⟨0, []⟩ [false, false] 100 [] = ⟨true, [true, true], 98, [0, 1]⟩ := by
    rw [findP, if_neg (by show ¬ false = true; decide), if_neg (by decide), triesP, if_neg (by rw [ax_t1]; show ¬ (false || !true || !true) = true; decide)]
    simp only [ax_do1]
    have e : findP 256 [ax1 b, ax2 b] ⟨0, [ofS [axFile]]⟩ ([false, false].set 0 true) (100 - 1) ([] ++ [0]) = ⟨true, [true, true], 98, [0, 1]⟩ := h2
    rw [e]
    rfl
  unfold orderP
  rw [hr, if_neg (by decide)]
  show (if (findP 257 [ax1 b, ax2 b] ⟨0, []⟩ [false, false] 100 []).ok = true then (0, (findP 257 [ax1 b, ax2 b] ⟨0, []⟩ [false, false] 100 []).o) else _) = _
  rw [h1]
  rfl
theorem ax_hist (w : World) : Hist ((w.alloc (.cells #[.string ⟨#[97]⟩, .int .i64 0, .string ⟨#[120]⟩] 69)).alloc (.cells #[.int .i64 1, .int .i64 2, .int .i64 1, .int .i64 0, .slice (some ⟨w.heap.size, 0, none⟩) 1 1, .int .i64 0, .int .i64 0, .int .i64 0, .slice none 0 0, .slice none 0 0, .int .i64 3, .int .i64 4, .int .i64 2, .int .i64 0, .slice none 0 0, .int .i64 0, .int .i64 0, .int .i64 0, .slice (some ⟨w.heap.size, 0, none⟩) 1 1, .slice none 0 0] 54)) (.slice (some ⟨w.heap.size + 1, 0, none⟩) 2 2) [ax1 w.heap.size, ax2 w.heap.size] := by
  have h1 : (w.alloc (.cells #[.string ⟨#[97]⟩, .int .i64 0, .string ⟨#[120]⟩] 69)).ownsRow 0 69 3 (.slice (some ⟨w.heap.size, 0, none⟩) 1 1) 1 (fcells [axFile]) := World.ownsRow_lit w _ 1 (Nat.zero_le _) (by unfold maxLen; omega) (by rfl)
  have h2 := h1.alloc (.cells #[.int .i64 1, .int .i64 2, .int .i64 1, .int .i64 0, .slice (some ⟨w.heap.size, 0, none⟩) 1 1, .int .i64 0, .int .i64 0, .int .i64 0, .slice none 0 0, .slice none 0 0, .int .i64 3, .int .i64 4, .int .i64 2, .int .i64 0, .slice none 0 0, .int .i64 0, .int .i64 0, .int .i64 0, .slice (some ⟨w.heap.size, 0, none⟩) 1 1, .slice none 0 0] 54)
  have h3 : ((w.alloc (.cells #[.string ⟨#[97]⟩, .int .i64 0, .string ⟨#[120]⟩] 69)).alloc (.cells #[.int .i64 1, .int .i64 2, .int .i64 1, .int .i64 0, .slice (some ⟨w.heap.size, 0, none⟩) 1 1, .int .i64 0, .int .i64 0, .int .i64 0, .slice none 0 0, .slice none 0 0, .int .i64 3, .int .i64 4, .int .i64 2, .int .i64 0, .slice none 0 0, .int .i64 0, .int .i64 0, .int .i64 0, .slice (some ⟨w.heap.size, 0, none⟩) 1 1, .slice none 0 0] 54)).ownsRow 0 54 10 (.slice (some ⟨(w.alloc (.cells #[.string ⟨#[97]⟩, .int .i64 0, .string ⟨#[120]⟩] 69)).heap.size, 0, none⟩) 2 2) 2 (ecells [ax1 w.heap.size, ax2 w.heap.size]) := World.ownsRow_lit (w.alloc (.cells #[.string ⟨#[97]⟩, .int .i64 0, .string ⟨#[120]⟩] 69)) _ 2 (Nat.zero_le _) (by unfold maxLen; omega) (by rfl)
  rw [World.size_alloc] at h3
  refine ⟨h3, fun e he => ?_, fun e he => ?_⟩
  · rcases List.mem_cons.1 he with rfl | he
    · exact h2
    · rw [List.mem_singleton] at he
      subst he
      exact World.ownsRow_nil _ _ _ _
  · rcases List.mem_cons.1 he with rfl | he
    · exact World.ownsRow_nil _ _ _ _
    · rw [List.mem_singleton] at he
      subst he
      exact h2
theorem ax_fit (b : Nat) : ∀ e ∈ [ax1 b, ax2 b], EFit e := by
  intro e he
  rcases List.mem_cons.1 he with rfl | he
  · exact ⟨fun f hf => by simp [ax1] at hf; subst hf; exact ⟨by decide, by decide⟩, by simp [ax1], by simp [ax1]⟩
  · rw [List.mem_singleton] at he
    subst he
    exact ⟨fun f hf => by simp [ax2] at hf, by simp [ax2], by simp [ax2]⟩
set_option maxHeartbeats 2000000 in
set_option maxRecDepth 100000 in
theorem awake22 (w : World) (hm : Ml w) : Calls Tryd.prog 18 #[] w fun e w' => e = .returned (.bool true) ∧ Below w.heap.size w w' := by
  have hB : Below w.heap.size w ((w.alloc (.cells #[.string ⟨#[97]⟩, .int .i64 0, .string ⟨#[120]⟩] 69)).alloc (.cells #[.int .i64 1, .int .i64 2, .int .i64 1, .int .i64 0, .slice (some ⟨w.heap.size, 0, none⟩) 1 1, .int .i64 0, .int .i64 0, .int .i64 0, .slice none 0 0, .slice none 0 0, .int .i64 3, .int .i64 4, .int .i64 2, .int .i64 0, .slice none 0 0, .int .i64 0, .int .i64 0, .int .i64 0, .slice (some ⟨w.heap.size, 0, none⟩) 1 1, .slice none 0 0] 54)) := ((Below.refl _ w).alloc (Nat.le_refl _) _).alloc (by simp) _
  have OR := Lib.hid (ord_any ((w.alloc (.cells #[.string ⟨#[97]⟩, .int .i64 0, .string ⟨#[120]⟩] 69)).alloc (.cells #[.int .i64 1, .int .i64 2, .int .i64 1, .int .i64 0, .slice (some ⟨w.heap.size, 0, none⟩) 1 1, .int .i64 0, .int .i64 0, .int .i64 0, .slice none 0 0, .slice none 0 0, .int .i64 3, .int .i64 4, .int .i64 2, .int .i64 0, .slice none 0 0, .int .i64 0, .int .i64 0, .int .i64 0, .slice (some ⟨w.heap.size, 0, none⟩) 1 1, .slice none 0 0] 54)) (hm.on hB) (ax_hist w) (ax_fit _) (by simp) (steps := 100) (by omega))
  rw [ax_order] at OR
  go_enter Tryd.func18, Tryd.ntmps18
  go_wp2_with (go_at_call 20; (with_reducible refine (OR.out).mono ?_); rintro x w2 ⟨U, rfl, ho, hb2⟩; obtain ⟨g, c, rfl, _, _⟩ := ho.form (by simp); have u0 := ho.cellAt 0 (by simp); have u1 := ho.cellAt 1 (by simp))
  go_ret
  exact ⟨rfl, below_on hB hb2⟩
end Go.Proofs.YtakdngcgjahafaaDoor
