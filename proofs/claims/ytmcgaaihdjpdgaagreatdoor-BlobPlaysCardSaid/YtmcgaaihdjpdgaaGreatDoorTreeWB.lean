/- The walks through inName and Match.; The walks through Pattern and Match.; The walks through paths and Check.; The walk through Check, and awake.; Check of any files; chapter 9's examples. -/
import Derived.Test.YtmcgaaihdjpdgaaGreatDoorTreeWalk3
import Derived.Test.YtmcgaaihdjpdgaaGreatDoorFit
import Derived.Deep.OwnRows
import Derived.Lib.AppendStr
import Derived.KernelRfl
/- The walks through inName and Match. -/
namespace Go.Proofs.YtmcgaaihdjpdgaaGreatDoor
open Go.RowKit
set_option linter.unusedVariables false

theorem infoBool : (Tryz.prog.info? 4).map (fun i => (i.zero, i.size, i.bytes)) = some (some (.bool false), 1, 1) := by kernel_rfl
/-- Row k of the table. -/
def inRow (p s : List UInt8) (k i : Nat) : Bool := fitB nameStar nameOne (p.take k) (s.take i)
theorem bt_some {l : List UInt8} {i : Nat} (h : i < l.length) : l[i]? = some (bt l i) := by
  unfold bt
  rw [List.getD_eq_getElem?_getD, List.getElem?_eq_getElem h]
  rfl
section
variable {p s : List UInt8} {k i : Nat}
theorem inRow_zero (hi : i ≤ s.length) : inRow p s 0 i = decide (i = 0) := front_zero _ _ hi
theorem inRow_star0 (hk : k < p.length) (hc : bt p k = 42) : inRow p s (k + 1) 0 = inRow p s k 0 := front_star0 _ _ (bt_some hk) (by rw [hc]; rfl)
theorem inRow_star (hk : k < p.length) (hi : i < s.length) (hc : bt p k = 42) : inRow p s (k + 1) (i + 1) = (inRow p s k (i + 1) || inRow p s (k + 1) i) := front_star _ _ (bt_some hk) (by rw [hc]; rfl) (bt_some hi)
theorem notStar {c : UInt8} (h : c ≠ 42) : nameStar c = false := by unfold nameStar; rw [beq_eq_false_iff_ne]; exact h
theorem inRow_one0 (hk : k < p.length) (hc : bt p k ≠ 42) : inRow p s (k + 1) 0 = false := front_one0 _ _ (bt_some hk) (notStar hc)
theorem inRow_one (hk : k < p.length) (hi : i < s.length) (hc : bt p k ≠ 42) : inRow p s (k + 1) (i + 1) = (inRow p s k i && nameOne (bt p k) (bt s i)) := front_one _ _ (bt_some hk) (notStar hc) (bt_some hi)
theorem inRow_end (hk : p.length ≤ k) (hi : s.length ≤ i) : inRow p s k i = inNameB p s := by unfold inRow inNameB; rw [List.take_of_length_le hk, List.take_of_length_le hi]
end
theorem brow_start {w : World} {g : Nat} {t : TypeId} {n : Nat} {p s : List UInt8} (h : Blk w g t (brow (n + 1) fun _ => false)) (hn : n = s.length) : Blk (w.setCell ⟨g, 0, none⟩ (.bool true)) g t (brow (n + 1) (inRow p s 0)) := by
  have h2 := h.set_ 0 (.bool true)
  rw [brow_set] at h2
  rwa [brow_congr (g := inRow p s 0)] at h2
  intro i hi
  rw [inRow_zero (by omega)]
  by_cases e : i = 0
  · simp [e]
  · simp [e]

end Go.Proofs.YtmcgaaihdjpdgaaGreatDoor
/- The walks through Pattern and Match. -/
namespace Go.Proofs.YtmcgaaihdjpdgaaGreatDoor
open Go.RowKit
set_option linter.unusedVariables false

/-! ### Match -/
/-- Row k of the table. -/
def mtRow (p s : List ByteArray) (k i : Nat) : Bool := fitB (fun a : ByteArray => pathStar a.data.toList) (fun a b : ByteArray => inNameB a.data.toList b.data.toList) (p.take k) (s.take i)
section
variable {p s : List ByteArray} {k i : Nat} {x y : ByteArray}
theorem mtRow_zero (hi : i ≤ s.length) : mtRow p s 0 i = decide (i = 0) := front_zero _ _ hi
theorem star2 : pathStar (⟨#[42, 42]⟩ : ByteArray).data.toList = true := rfl
theorem notStar2 (h : x ≠ ⟨#[42, 42]⟩) : pathStar x.data.toList = false := by unfold pathStar; rw [beq_eq_false_iff_ne]; exact fun e => h (ba_ext e)
theorem mtRow_star0 (hk : p[k]? = some ⟨#[42, 42]⟩) : mtRow p s (k + 1) 0 = mtRow p s k 0 := front_star0 _ _ hk star2
theorem mtRow_star (hk : p[k]? = some ⟨#[42, 42]⟩) (hi : s[i]? = some y) : mtRow p s (k + 1) (i + 1) = (mtRow p s k (i + 1) || mtRow p s (k + 1) i) := front_star _ _ hk star2 hi
theorem mtRow_one0 (hk : p[k]? = some x) (hc : x ≠ ⟨#[42, 42]⟩) : mtRow p s (k + 1) 0 = false := front_one0 _ _ hk (notStar2 hc)
theorem mtRow_one (hk : p[k]? = some x) (hc : x ≠ ⟨#[42, 42]⟩) (hi : s[i]? = some y) : mtRow p s (k + 1) (i + 1) = (mtRow p s k i && inNameB x.data.toList y.data.toList) := front_one _ _ hk (notStar2 hc) hi
end
theorem mtRow_end {p s : ByteArray} {k i : Nat} (hk : (pieces p).length ≤ k) (hi : (pieces s).length ≤ i) : mtRow (pieces p) (pieces s) k i = matchL p.data.toList s.data.toList := by
  unfold mtRow matchL
  rw [List.take_of_length_le hk, List.take_of_length_le hi, ← pieces_list, ← pieces_list, fitB_map]
theorem mtRow_start {w : World} {g : Nat} {t : TypeId} {p s : List ByteArray} (h : Blk w g t (brow (s.length + 1) fun _ => false)) : Blk (w.setCell ⟨g, 0, none⟩ (.bool true)) g t (brow (s.length + 1) (mtRow p s 0)) := by
  have h2 := h.set_ 0 (.bool true)
  rw [brow_set] at h2
  rwa [brow_congr (g := mtRow p s 0)] at h2
  intro i hi
  rw [mtRow_zero (by omega)]
  by_cases e : i = 0
  · simp [e]
  · simp [e]
theorem patE_long {p : ByteArray} (h : patE p.data.toList = 0) : p.size ≤ 200 := by
  rcases Nat.lt_or_ge 200 p.size with h2 | h2
  · unfold patE at h
    rw [if_pos (by rw [← bt_size]; exact h2)] at h
    cases h
  · exact h2
theorem pathE_long {p : ByteArray} (h : pathE p.data.toList = 0) : p.size ≤ 200 := by
  rcases Nat.lt_or_ge 200 p.size with h2 | h2
  · unfold pathE at h
    rw [if_pos (by rw [← bt_size]; exact h2)] at h
    cases h
  · exact h2
theorem str_cell {w : World} {g : Nat} {t : TypeId} {l : List ByteArray} {k : Nat} {x : ByteArray} (h : Blk w g t (l.map Value.string).toArray) (hx : l[k]? = some x) : w.cell? ⟨g, k, none⟩ = some (.string x) := by
  rw [h.cell]
  simp [hx]

end Go.Proofs.YtmcgaaihdjpdgaaGreatDoor
/- The walks through paths and Check. -/
namespace Go.Proofs.YtmcgaaihdjpdgaaGreatDoor
open Go.RowKit
set_option linter.unusedVariables false

theorem stepE_bad {q : Option (List UInt8)} {s : List UInt8} (h : pathE s ≠ 0) : stepE q s = pathE s := if_neg h
theorem stepE_first {s : List UInt8} (h : pathE s = 0) : stepE none s = 0 := if_pos h
theorem stepE_order {q s : List UInt8} (h : pathE s = 0) (h1 : 0 < ordL q s) : stepE (some q) s = 12 := by rw [stepE, if_pos h, pairE, if_pos h1]
theorem stepE_same {q s : List UInt8} (h : pathE s = 0) (h1 : ordL q s = 0) : stepE (some q) s = 9 := by rw [stepE, if_pos h, pairE, if_neg (by omega), if_pos (.inl h1)]
theorem stepE_in {q s : List UInt8} (h : pathE s = 0) (h1 : ordL q s < 0) (h2 : within s q = true) : stepE (some q) s = 9 := by rw [stepE, if_pos h, pairE, if_neg (by omega), if_pos (.inr h2)]
theorem stepE_ok {q s : List UInt8} (h : pathE s = 0) (h1 : ordL q s < 0) (h2 : within s q = false) : stepE (some q) s = 0 := by rw [stepE, if_pos h, pairE, if_neg (by omega), if_neg (by rw [h2]; simp; omega)]
def lists (l : List ByteArray) : List (List UInt8) := l.map (·.data.toList)
theorem lists_at {l : List ByteArray} {k : Nat} {x : ByteArray} (h : l[k]? = some x) : (lists l)[k]? = some x.data.toList := by unfold lists; rw [List.getElem?_map, h]; rfl
theorem lists_len (l : List ByteArray) : (lists l).length = l.length := by unfold lists; simp
theorem prev_zero (l : List (List UInt8)) : prevAt l 0 = none := rfl
theorem prev_succ {l : List (List UInt8)} {i : Nat} {x : List UInt8} (h : l[i]? = some x) : prevAt l (i + 1) = some x := by unfold prevAt; rw [if_neg (by omega)]; exact h

set_option maxHeartbeats 1000000 in
set_option maxRecDepth 100000 in
theorem paths_in (b o c : Nat) (l : List ByteArray) (w : World) (hl : l.length ≤ 256) (hx : ∀ x ∈ l, x.size ≤ 9223372036854775807) (hb : b < w.heap.size)
    (hc : ∀ i u, (l.map Value.string)[i]? = some u → w.cell? ⟨b, o + i, none⟩ = some u) (hm : Ml w) :
    Calls Tryz.prog 87 #[.slice (some ⟨b, o, none⟩) l.length c] w fun e w' => e = .returned (.int .i64 (pathsGo none (lists l))) ∧ Below w.heap.size w w' := by
  have hx := Lib.hid hx
  have hc := Lib.hid hc
  have hn : ¬ (256 : Int) < l.length := by omega
  generalize hR : pathsGo none (lists l) = R
  have HR : Hid (pathsGo (prevAt (lists l) 0) ((lists l).drop 0) = R) := Lib.hid hR
  clear hR
  go_enter Tryz.func87, Tryz.ntmps87
  go_wp2
  go_loopw [12] (fun v wr => ∃ (k : Nat), k ≤ l.length ∧ v = .int .i64 k ∧ Hid (pathsGo (prevAt (lists l) k) ((lists l).drop k) = R) ∧ Below w.heap.size w wr) (fun v _ => l.length - (intOf v).toNat)
  case atStart => exact ⟨0, Nat.zero_le _, rfl, HR, Below.refl _ _⟩
  case round =>
    obtain ⟨k, hk, rfl, H, hB⟩ := hrel
    have hmr := hm.on hB
    have hbr : b < wr.heap.size := Nat.lt_of_lt_of_le hb hB.size
    by_cases hlt : k < l.length
    · obtain ⟨x, hxk⟩ : ∃ x, l[k]? = some x := ⟨_, List.getElem?_eq_getElem hlt⟩
      have cc : wr.cell? ⟨b, o + k, none⟩ = some (.string x) := (hB.cell (p := ⟨b, o + k, none⟩) hb).trans (hc.out k _ (by simp [hxk]))
      have hxs := hx.out x (List.mem_of_getElem? hxk)
      have hp := fun W h => path_any x W hxs h
      have HX := Lib.hid (lists_at hxk)
      clear hxk
      by_cases h0 : pathE x.data.toList = 0
      · rw [h0] at hp
        have HP := Lib.hid hp
        clear hp
        rcases k with _ | i
        · rw [Nat.add_zero] at cc
          have hst := Lib.hid ((paths_step HX.out (stepE_first h0)).symm.trans H.out)
          clear H h0
          go_wp2_with (go_at_call 96; with_reducible refine (HP.out _ hmr).mono ?_; rintro e w1 ⟨rfl, hb1⟩)
          go_roundw
          case rel => exact ⟨0 + 1, by omega, by go_num, hst, below_on hB hb1⟩
          case measure => simp [intOf] <;> omega
        · obtain ⟨y, hyk⟩ : ∃ y, l[i]? = some y := ⟨_, List.getElem?_eq_getElem (by omega)⟩
          have cy : wr.cell? ⟨b, o + i, none⟩ = some (.string y) := (hB.cell (p := ⟨b, o + i, none⟩) hb).trans (hc.out i _ (by simp [hyk]))
          have hys := hx.out y (List.mem_of_getElem? hyk)
          have hpv := prev_succ (lists_at hyk)
          have ho := fun W => order_any y x W hys hxs
          have hw := fun W => within_any x y W hxs hys
          have i1 : ((i : Int) + 1) - 1 = i := by omega
          have sord := fun h1 => stepE_order h0 (q := y.data.toList) (s := x.data.toList) h1
          have ssam := fun h1 => stepE_same h0 (q := y.data.toList) (s := x.data.toList) h1
          have sin := fun h1 h2 => stepE_in h0 (q := y.data.toList) (s := x.data.toList) h1 h2
          have sok := fun h1 h2 => stepE_ok h0 (q := y.data.toList) (s := x.data.toList) h1 h2
          rw [← hpv] at sord ssam sin sok
          generalize ordL y.data.toList x.data.toList = d at *
          generalize within x.data.toList y.data.toList = bw at *
          have HO := Lib.hid ho
          have HW := Lib.hid hw
          clear hyk hpv ho hw h0
          by_cases d1 : 0 < d
          · have hr := (paths_stop HX.out (by rw [sord d1]; decide)).symm.trans H.out
            rw [sord d1] at hr
            have hr := Lib.hid hr
            clear H sord ssam sin sok
            go_wp2_with (first
              | (go_at_call 96; with_reducible refine (HP.out _ hmr).mono ?_; rintro e w1 ⟨rfl, hb1⟩; have cy1 := (hb1.cell (p := ⟨b, o + i, none⟩) hbr).trans cy)
              | (go_at_call 97; with_reducible refine (HO.out _).mono ?_; rintro e w2 ⟨rfl, m2, rfl⟩))
            go_ret
            exact ⟨by rw [← hr.out]; rfl, below_drewN (below_on hB hb1) _⟩
          · by_cases d2 : d = 0
            · have hr := (paths_stop HX.out (by rw [ssam d2]; decide)).symm.trans H.out
              rw [ssam d2] at hr
              have hr := Lib.hid hr
              have d3 : (d == 0) = true := by rw [d2]; rfl
              clear H sord ssam sin sok d2
              go_wp2_with (first
                | (go_at_call 96; with_reducible refine (HP.out _ hmr).mono ?_; rintro e w1 ⟨rfl, hb1⟩; have cy1 := (hb1.cell (p := ⟨b, o + i, none⟩) hbr).trans cy)
                | (go_at_call 97; with_reducible refine (HO.out _).mono ?_; rintro e w2 ⟨rfl, m2, rfl⟩))
              go_ret
              exact ⟨by rw [← hr.out]; rfl, below_drewN (below_on hB hb1) _⟩
            · have d3 : (d == 0) = false := by rw [beq_eq_false_iff_ne]; exact d2
              cases bw
              · have hst := Lib.hid ((paths_step HX.out (sok (by omega) rfl)).symm.trans H.out)
                clear H sord ssam sin sok
                go_wp2_with (first
                  | (go_at_call 96; with_reducible refine (HP.out _ hmr).mono ?_; rintro e w1 ⟨rfl, hb1⟩; have cy1 := (hb1.cell (p := ⟨b, o + i, none⟩) hbr).trans cy)
                  | (go_at_call 97; with_reducible refine (HO.out _).mono ?_; rintro e w2 ⟨rfl, m2, rfl⟩)
                  | (go_at_call 98; with_reducible refine (HW.out _).mono ?_; rintro e w3 ⟨rfl, hb3⟩))
                go_roundw
                case rel => exact ⟨i + 1 + 1, by omega, by go_num, hst, below_on (below_drewN (below_on hB hb1) _) hb3⟩
                case measure => simp [intOf] <;> omega
              · have hr := (paths_stop HX.out (by rw [sin (by omega) rfl]; decide)).symm.trans H.out
                rw [sin (by omega) rfl] at hr
                have hr := Lib.hid hr
                clear H sord ssam sin sok
                go_wp2_with (first
                  | (go_at_call 96; with_reducible refine (HP.out _ hmr).mono ?_; rintro e w1 ⟨rfl, hb1⟩; have cy1 := (hb1.cell (p := ⟨b, o + i, none⟩) hbr).trans cy)
                  | (go_at_call 97; with_reducible refine (HO.out _).mono ?_; rintro e w2 ⟨rfl, m2, rfl⟩)
                  | (go_at_call 98; with_reducible refine (HW.out _).mono ?_; rintro e w3 ⟨rfl, hb3⟩))
                go_ret
                exact ⟨by rw [← hr.out]; rfl, below_on (below_drewN (below_on hB hb1) _) hb3⟩
      · have hr := (paths_stop HX.out (by rw [stepE_bad h0]; exact h0)).symm.trans H.out
        rw [stepE_bad h0] at hr
        have h3 : (pathE x.data.toList == 0) = false := by rw [beq_eq_false_iff_ne]; exact h0
        generalize pathE x.data.toList = E at *
        have hr := Lib.hid hr
        have HP := Lib.hid hp
        clear H hp
        go_wp2_with (go_at_call 96; with_reducible refine (HP.out _ hmr).mono ?_; rintro e w1 ⟨rfl, hb1⟩)
        go_ret
        exact ⟨by rw [← hr.out]; rfl, below_on hB hb1⟩
    · have hr := H.out
      rw [paths_end _ (by rw [lists_len]; omega)] at hr
      have hr := Lib.hid hr
      clear H
      go_wp2
      go_ret
      exact ⟨by rw [← hr.out]; rfl, hB⟩

theorem paths_any (A : Option Addr) (c : Nat) (l : List ByteArray) (w : World) (hx : ∀ x ∈ l, x.size ≤ 9223372036854775807) (hlen : l.length ≤ 9223372036854775807)
    (hc : Arr w w.heap.size 1 A l.length (l.map Value.string)) (hm : Ml w) :
    Calls Tryz.prog 87 #[.slice A l.length c] w fun e w' => e = .returned (.int .i64 (pathsE (lists l))) ∧ Below w.heap.size w w' := by
  by_cases h : 256 < l.length
  · have h' : (256 : Int) < l.length := by omega
    rw [show pathsE (lists l) = 7 from if_pos (by rw [lists_len]; exact h)]
    go_enter Tryz.func87, Tryz.ntmps87
    go_wp2
    go_ret
    exact ⟨rfl, Below.refl _ _⟩
  · rw [show pathsE (lists l) = pathsGo none (lists l) from if_neg (by rw [lists_len]; exact h)]
    by_cases h0 : 0 < l.length
    · obtain ⟨b, o, rfl, hb, hcell⟩ := hc.2 h0
      exact paths_in b o c l w (by omega) hx hb hcell hm
    · have : l = [] := List.eq_nil_of_length_eq_zero (by omega)
      subst this
      rw [show pathsGo none (lists []) = 0 from rfl]
      show Calls _ _ #[.slice A 0 c] _ _
      go_enter Tryz.func87, Tryz.ntmps87
      go_wp2
      go_loopw [12] (fun v wr => v = .int .i64 0 ∧ wr = w) (fun v _ => 0)
      case atStart => exact ⟨rfl, rfl⟩
      case round =>
        obtain ⟨rfl, rfl⟩ := hrel
        go_wp2
        go_ret
        exact ⟨rfl, Below.refl _ _⟩
end Go.Proofs.YtmcgaaihdjpdgaaGreatDoor
/- The walk through Check, and awake. -/
namespace Go.Proofs.YtmcgaaihdjpdgaaGreatDoor
open Go.RowKit
set_option linter.unusedVariables false

theorem infoStr' : (Tryz.prog.info? 9).map (fun i => (i.zero, i.size, i.bytes)) = some (some (.string ByteArray.empty), 1, 16) := infoStr
theorem str_one (s : ByteArray) : ∀ u ∈ (#[Value.string s] : Array Value).toList, u.oneCell' = true := by simp [Value.oneCell']
def fpaths (l : List FileD) : List ByteArray := l.map (·.path)
theorem fpaths_lists (l : List FileD) : lists (fpaths l) = l.map (·.path.data.toList) := by unfold lists fpaths; rw [List.map_map]; rfl
theorem fpaths_take {l : List FileD} {k : Nat} {f : FileD} (h : l[k]? = some f) : (fpaths (l.take (k + 1))).map Value.string = (fpaths (l.take k)).map Value.string ++ [.string f.path] := by
  rw [take_snoc h]
  unfold fpaths
  simp
theorem fpaths_len (l : List FileD) : (fpaths l).length = l.length := by unfold fpaths; simp
theorem fileE_mode {f : FileD} (h : ¬ (0 ≤ f.mode ∧ f.mode ≤ 511)) : fileE f = 11 := if_neg h
theorem fileE_long {f : FileD} (h : 0 ≤ f.mode ∧ f.mode ≤ 511) (h2 : 65536 < f.data.size) : fileE f = 4 := by unfold fileE; rw [if_pos h, if_pos h2]
theorem fileE_ok {f : FileD} (h : 0 ≤ f.mode ∧ f.mode ≤ 511) (h2 : ¬ 65536 < f.data.size) : fileE f = 0 := by unfold fileE; rw [if_pos h, if_neg h2]
/-- The cells of a file that lies in a slice. -/
theorem file_cells {w : World} {b o k : Nat} {l : List FileD} {f : FileD} (hc : ∀ i u, (fcells l)[i]? = some u → w.cell? ⟨b, o + i, none⟩ = some u) (h : l[k]? = some f) :
    w.cell? ⟨b, o + k * 3, none⟩ = some (.string f.path) ∧ w.cell? ⟨b, o + k * 3 + 1, none⟩ = some (.int .i64 f.mode) ∧ w.cell? ⟨b, o + k * 3 + 2, none⟩ = some (.string f.data) := by
  obtain ⟨h0, h1, h2⟩ := fcell_at h
  exact ⟨hc _ _ h0, by rw [Nat.add_assoc]; exact hc _ _ h1, by rw [Nat.add_assoc]; exact hc _ _ h2⟩

set_option maxHeartbeats 1000000 in
set_option maxRecDepth 100000 in
theorem check_in (b o c : Nat) (l : List FileD) (w : World) (hn : 0 < l.length) (hz : l.length ≤ 8796093022208) (hx : ∀ f ∈ l, f.path.size ≤ 9223372036854775807 ∧ f.data.size ≤ 9223372036854775807) (hb : b < w.heap.size)
    (hc : ∀ i u, (fcells l)[i]? = some u → w.cell? ⟨b, o + i, none⟩ = some u) (hm : Ml w) :
    Calls Tryz.prog 67 #[.slice (some ⟨b, o, none⟩) l.length c] w fun e w' => e = .returned (.int .i64 (checkE l)) ∧ Below w.heap.size w w' := by
  have hx := Lib.hid hx
  have hc := Lib.hid hc
  obtain ⟨i0, hi0, hz0, hz1, hz2⟩ := info_parts infoStr
  have hp := fun A c W h1 h2 h3 => paths_any A c (fpaths l) W h1 h2 h3
  rw [fpaths_len] at hp
  rw [show checkE l = if pathsE (lists (fpaths l)) = 0 then filesE l else pathsE (lists (fpaths l)) by rw [fpaths_lists]; rfl]
  generalize pathsE (lists (fpaths l)) = E at *
  have HP := Lib.hid hp
  clear hp
  generalize hR : filesE l = R
  have HR : Hid (filesE (l.drop 0) = R) := Lib.hid hR
  clear hR
  go_enter Tryz.func67, Tryz.ntmps67
  go_wp2
  go_loopw [3, 11] (fun v3 v wr => ∃ (k : Nat), k ≤ l.length ∧ v = .int .i64 k ∧ wr.ownsRow w.heap.size 9 1 v3 k ((fpaths (l.take k)).map Value.string) ∧ Below w.heap.size w wr) (fun _ v _ => l.length - (intOf v).toNat)
  case atStart => exact ⟨0, Nat.zero_le _, rfl, World.ownsRow_nil _ _ _ _, Below.refl _ _⟩
  case round =>
    obtain ⟨k, hk, rfl, hown, hB⟩ := hrel
    have hbse := hB.size
    by_cases hlt : k < l.length
    · obtain ⟨f, hf⟩ : ∃ f, l[k]? = some f := ⟨_, List.getElem?_eq_getElem hlt⟩
      obtain ⟨c0, c1, c2⟩ := file_cells (fun i u h => (hB.cell (p := ⟨b, o + i, none⟩) hb).trans (hc.out i u h)) hf
      have HT := Lib.hid (fpaths_take hf)
      clear hf
      have hown' := hown.alloc (.cells #[.string f.path, .int .i64 f.mode, .string f.data] 64)
      have hB' := hB.alloc hbse (.cells #[.string f.path, .int .i64 f.mode, .string f.data] 64)
      go_wp2_with (at_builtin; refine wpList_push rfl _ _ _ rfl Tryz.underlying47 hi0 hz0 hz1 hz2 rfl (by decide) hown' rfl (by rw [World.size_alloc]; rfl) rfl (str_one f.path) (by unfold maxLen; omega) (by omega) (by simp; omega) ?_; intro g2 cap2 w1 hown1 hgr1 hat1)
      have hB3 := hB'.grown hgr1 hB'.size (fun j hj => (hown'.lt j hj).1)
      go_roundw
      case rel => exact ⟨k + 1, by omega, by go_num, by rw [HT.out]; exact hown1, hB3⟩
      case measure => simp [intOf] <;> omega
    · have he : l.take k = l := List.take_of_length_le (by omega)
      rw [he] at hown
      obtain ⟨A', c', rfl, hcap, ha, hfr⟩ := own_arr hown
      have hke : k = l.length := by omega
      subst hke
      have hmr := hm.on hB
      have hpc := HP.out A' c' wr (fun x hx2 => by
        unfold fpaths at hx2
        obtain ⟨f, hf, rfl⟩ := List.mem_map.1 hx2
        exact (hx.out f hf).1) (by omega) ha hmr
      have HPC := Lib.hid hpc
      clear hpc ha hfr he hown
      by_cases hE : E = 0
      · subst hE
        go_wp2_with (go_at_call 87; with_reducible refine HPC.out.mono ?_; rintro e w1 ⟨rfl, hb1⟩)
        have hB1 := below_on hB hb1
        clear HPC
        go_loopw [28] (fun v wr => ∃ (k : Nat), k ≤ l.length ∧ v = .int .i64 k ∧ Hid (filesE (l.drop k) = R) ∧ Below w.heap.size w wr) (fun v _ => l.length - (intOf v).toNat)
        case atStart => exact ⟨0, Nat.zero_le _, rfl, HR, hB1⟩
        case round =>
          obtain ⟨k, hk, rfl, H, hB2⟩ := hrel
          by_cases hlt : k < l.length
          · obtain ⟨f, hf⟩ : ∃ f, l[k]? = some f := ⟨_, List.getElem?_eq_getElem hlt⟩
            obtain ⟨c0, c1, c2⟩ := file_cells (fun i u h => (hB2.cell (p := ⟨b, o + i, none⟩) hb).trans (hc.out i u h)) hf
            have hxf := hx.out f (List.mem_of_getElem? hf)
            have hst := fun h => (files_step hf h).symm.trans H.out
            have hsp := fun h => (files_stop hf h).symm.trans H.out
            have hwd := hB2.size
            have hbr : b < wr.heap.size := Nat.lt_of_lt_of_le hb hwd
            have HM := Lib.hid (fun W => mode_any f.mode W)
            have fm := fileE_mode (f := f)
            have fl := fileE_long (f := f)
            have fo := fileE_ok (f := f)
            have hB3 := hB2.alloc hwd (.cells #[.string f.path, .int .i64 f.mode, .string f.data] 64)
            generalize f.mode = m at *
            by_cases h1 : 0 ≤ m ∧ m ≤ 511
            · have hm1 : (decide (0 ≤ m) && decide (m ≤ 511)) = true := by simpa using h1
              rw [hm1] at HM
              by_cases h2 : 65536 < f.data.size
              · have hr := hsp (by rw [fl h1 h2]; decide)
                rw [fl h1 h2] at hr
                have hr := Lib.hid hr
                have h3 : (65536 : Int) < f.data.size := by omega
                clear hst hsp fm fl fo H hm1 h1 h2
                go_wp2_with (go_at_call 88; with_reducible refine (HM.out _).mono ?_; rintro e w2 ⟨rfl, rfl⟩)
                go_ret
                exact ⟨by rw [← hr.out]; rfl, hB3⟩
              · have hr := Lib.hid (hst (fo h1 h2))
                have h3 : ¬ (65536 : Int) < f.data.size := by omega
                clear hst hsp fm fl fo H hm1 h1 h2
                go_wp2_with (go_at_call 88; with_reducible refine (HM.out _).mono ?_; rintro e w2 ⟨rfl, rfl⟩)
                go_roundw
                case rel => exact ⟨k + 1, by omega, by go_num, hr, hB3⟩
                case measure => simp [intOf] <;> omega
            · have hm1 : (decide (0 ≤ m) && decide (m ≤ 511)) = false := by rw [Bool.eq_false_iff]; intro h; exact h1 (by simpa using h)
              rw [hm1] at HM
              have hr := hsp (by rw [fm h1]; decide)
              rw [fm h1] at hr
              have hr := Lib.hid hr
              clear hst hsp fm fl fo H hm1 h1
              go_wp2_with (go_at_call 88; with_reducible refine (HM.out _).mono ?_; rintro e w2 ⟨rfl, rfl⟩)
              go_ret
              exact ⟨by rw [← hr.out]; rfl, hB3⟩
          · have hr := H.out
            rw [files_end (by omega)] at hr
            have hr := Lib.hid hr
            clear H
            go_wp2
            go_ret
            exact ⟨by rw [← hr.out]; rfl, hB2⟩
      · have hE' : (E == 0) = false := by rw [beq_eq_false_iff_ne]; exact hE
        go_wp2_with (go_at_call 87; with_reducible refine HPC.out.mono ?_; rintro e w1 ⟨rfl, hb1⟩)
        go_ret
        exact ⟨rfl, below_on hB hb1⟩
end Go.Proofs.YtmcgaaihdjpdgaaGreatDoor
/- Check of any files; chapter 9's examples. -/
namespace Go.Proofs.YtmcgaaihdjpdgaaGreatDoor
open Go.RowKit
set_option linter.unusedVariables false

def FOk (f : FileD) : Prop := f.path.size ≤ 9223372036854775807 ∧ f.data.size ≤ 9223372036854775807
theorem check_any (A : Option Addr) (c : Nat) (l : List FileD) (w : World) (hz : l.length ≤ 8796093022208) (hx : ∀ f ∈ l, FOk f)
    (hc : Arr w w.heap.size 3 A l.length (fcells l)) (hm : Ml w) :
    Calls Tryz.prog 67 #[.slice A l.length c] w fun e w' => e = .returned (.int .i64 (checkE l)) ∧ Below w.heap.size w w' := by
  by_cases h0 : 0 < l.length
  · obtain ⟨b, o, rfl, hb, hcell⟩ := hc.2 h0
    exact check_in b o c l w h0 hz hx hb hcell hm
  · have : l = [] := List.eq_nil_of_length_eq_zero (by omega)
    subst this
    rw [show checkE [] = 0 from rfl]
    show Calls _ _ #[.slice A 0 c] _ _
    have HP : Hid (∀ W, Ml W → Calls Tryz.prog 87 #[.slice none 0 0] W fun e w' => e = .returned (.int .i64 0) ∧ Below W.heap.size W w') :=
      Lib.hid fun W h => paths_any none 0 [] W (by simp) (by simp) (Arr.nil _ _ _ _) h
    go_enter Tryz.func67, Tryz.ntmps67
    go_wp2
    go_loopw [3, 11] (fun v3 v wr => v3 = .slice none 0 0 ∧ v = .int .i64 0 ∧ wr = w) (fun _ v _ => 0)
    case atStart => exact ⟨rfl, rfl, rfl⟩
    case round =>
      obtain ⟨rfl, rfl, rfl⟩ := hrel
      go_wp2_with (go_at_call 87; with_reducible refine (HP.out _ hm).mono ?_; rintro e w1 ⟨rfl, hb1⟩)
      go_loopw [28] (fun v w2 => v = .int .i64 0 ∧ w2 = w1) (fun v _ => 0)
      case atStart => exact ⟨rfl, rfl⟩
      case round =>
        obtain ⟨rfl, rfl⟩ := hrel
        go_wp2
        go_ret
        exact ⟨rfl, hb1⟩

def twoFiles : List FileD := [⟨⟨#[97]⟩, 0, ⟨#[]⟩⟩, ⟨⟨#[97, 47, 98]⟩, 0, ⟨#[]⟩⟩]
theorem check_two (w : World) (hm : Ml w) (b : Nat) (hk : Blk w b 64 (fcells twoFiles).toArray) : Calls Tryz.prog 67 #[.slice (some ⟨b, 0, none⟩) 2 2] w fun e w' => e = .returned (.int .i64 9) ∧ Below w.heap.size w w' := by
  have := check_any (some ⟨b, 0, none⟩) 2 twoFiles w (by decide) (by intro f hf; simp [twoFiles] at hf; rcases hf with rfl | rfl <;> exact ⟨by decide, by decide⟩)
    ⟨by decide, fun _ => ⟨b, 0, rfl, hk.lt, fun i u hu => by rw [Nat.zero_add, hk.cell]; simpa using hu⟩⟩ hm
  rwa [show checkE twoFiles = 9 by kernel_rfl] at this

end Go.Proofs.YtmcgaaihdjpdgaaGreatDoor
