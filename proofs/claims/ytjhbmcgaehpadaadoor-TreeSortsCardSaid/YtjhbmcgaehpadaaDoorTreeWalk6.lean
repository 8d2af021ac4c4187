/- The walks through paths and Check. -/
import Derived.Test.YtjhbmcgaehpadaaDoorTreeWalk5
namespace Go.Proofs.YtjhbmcgaehpadaaDoor
open Go.RowKit
set_option linter.unusedVariables false

theorem stepE_bad {q : Option (List UInt8)} {s : List UInt8} (h : pathE s ≠ 0) : stepE q s = pathE s := if_neg h
theorem stepE_first {s : List UInt8} (h : pathE s = 0) : stepE none s = 0 := if_pos h
theorem stepE_order {q s : List UInt8} (h : pathE s = 0) (h1 : 0 < ordL q s) : stepE (some q) s = 12 := by rw [stepE, if_pos h, pairE, if_pos h1]
theorem stepE_same {q s : List UInt8} (h : pathE s = 0) (h1 : ordL q s = 0) : stepE (some q) s = 9 := by rw [stepE, if_pos h, pairE, if_neg (by omega), if_pos (.inl h1)]
theorem stepE_in {q s : List UInt8} (h : pathE s = 0) (h1 : ordL q s < 0) (h2 : within s q = true) : stepE (some q) s = 9 := by rw [stepE, if_pos h, pairE, if_neg (by omega), if_pos (.inr h2)]
theorem stepE_ok {q s : List UInt8} (h : pathE s = 0) (h1 : ordL q s < 0) (h2 : within s q = false) : stepE (some q) s = 0 := by rw [stepE, if_pos h, pairE, if_neg (by omega), if_neg (by rw [h2]; simp; omega)]
def lists (l : List ByteArray) : List (List UInt8) := l.map (·.data.toList)
theorem lists_at {l : List ByteArray} {k : Nat} {x : ByteArray} (h : l[k]? = some x) : (lists l)[k]? = some x.data.toList := by unfold lists; rw [List.getElem?_map, h]; rfl
theorem lists_len (l : List ByteArray) : (lists l).length = l.length := by unfold lists; simp
theorem prev_zero (l : List (List UInt8)) : prevAt l 0 = none := rfl
theorem prev_succ {l : List (List UInt8)} {i : Nat} {x : List UInt8} (h : l[i]? = some x) : prevAt l (i + 1) = some x := by unfold prevAt; rw [if_neg (by omega)]; exact h

set_option maxHeartbeats 1000000 in
set_option maxRecDepth 100000 in
theorem paths_in (b o c : Nat) (l : List ByteArray) (w : World) (hl : l.length ≤ 256) (hx : ∀ x ∈ l, x.size ≤ 9223372036854775807) (hb : b < w.heap.size)
    (hc : ∀ i u, (l.map Value.string)[i]? = some u → w.cell? ⟨b, o + i, none⟩ = some u) (hm : Ml w) :
    Calls Tryd.prog 48 #[.slice (some ⟨b, o, none⟩) l.length c] w fun e w' => e = .returned (.int .i64 (pathsGo none (lists l))) ∧ Below w.heap.size w w' := by
  have hx := Lib.hid hx
  have hc := Lib.hid hc
  have hn : ¬ (256 : Int) < l.length := by omega
  generalize hR : pathsGo none (lists l) = R
  have HR : Hid (pathsGo (prevAt (lists l) 0) ((lists l).drop 0) = R) := Lib.hid hR
  clear hR
  go_enter Tryd.func48, Tryd.ntmps48
  go_wp2
  go_loopw [12] (fun v wr => ∃ (k : Nat), k ≤ l.length ∧ v = .int .i64 k ∧ Hid (pathsGo (prevAt (lists l) k) ((lists l).drop k) = R) ∧ Below w.heap.size w wr) (fun v _ => l.length - (intOf v).toNat)
  case atStart => exact ⟨0, Nat.zero_le _, rfl, HR, Below.refl _ _⟩
  case round =>
    obtain ⟨k, hk, rfl, H, hB⟩ := hrel
    have hmr := hm.on hB
    have hbr : b < wr.heap.size := Nat.lt_of_lt_of_le hb hB.size
    by_cases hlt : k < l.length
    · obtain ⟨x, hxk⟩ : ∃ x, l[k]? = some x := ⟨_, List.getElem?_eq_getElem hlt⟩
      have cc : wr.cell? ⟨b, o + k, none⟩ = some (.string x) := (hB.cell (p := ⟨b, o + k, none⟩) hb).trans (hc.out k _ (by simp [hxk]))
      have hxs := hx.out x (List.mem_of_getElem? hxk)
      have hp := fun W h => path_any x W hxs h
      have HX := Lib.hid (lists_at hxk)
      clear hxk
      by_cases h0 : pathE x.data.toList = 0
      · rw [h0] at hp
        have HP := Lib.hid hp
        clear hp
        rcases k with _ | i
        · rw [Nat.add_zero] at cc
          have hst := Lib.hid ((paths_step HX.out (stepE_first h0)).symm.trans H.out)
          clear H h0
          go_wp2_with (go_at_call 14; with_reducible refine (HP.out _ hmr).mono ?_; rintro e w1 ⟨rfl, hb1⟩)
          go_roundw
          case rel => exact ⟨0 + 1, by omega, by go_num, hst, below_on hB hb1⟩
          case measure => simp [intOf] <;> omega
        · obtain ⟨y, hyk⟩ : ∃ y, l[i]? = some y := ⟨_, List.getElem?_eq_getElem (by omega)⟩
          have cy : wr.cell? ⟨b, o + i, none⟩ = some (.string y) := (hB.cell (p := ⟨b, o + i, none⟩) hb).trans (hc.out i _ (by simp [hyk]))
          have hys := hx.out y (List.mem_of_getElem? hyk)
          have hpv := prev_succ (lists_at hyk)
          have ho := fun W => order_any y x W hys hxs
          have hw := fun W => within_any x y W hxs hys
          have i1 : ((i : Int) + 1) - 1 = i := by omega
          have sord := fun h1 => stepE_order h0 (q := y.data.toList) (s := x.data.toList) h1
          have ssam := fun h1 => stepE_same h0 (q := y.data.toList) (s := x.data.toList) h1
          have sin := fun h1 h2 => stepE_in h0 (q := y.data.toList) (s := x.data.toList) h1 h2
          have sok := fun h1 h2 => stepE_ok h0 (q := y.data.toList) (s := x.data.toList) h1 h2
          rw [← hpv] at sord ssam sin sok
          generalize ordL y.data.toList x.data.toList = d at *
          generalize within x.data.toList y.data.toList = bw at *
          have HO := Lib.hid ho
          have HW := Lib.hid hw
          clear hyk hpv ho hw h0
          by_cases d1 : 0 < d
          · have hr := (paths_stop HX.out (by rw [sord d1]; decide)).symm.trans H.out
            rw [sord d1] at hr
            have hr := Lib.hid hr
            clear H sord ssam sin sok
            go_wp2_with (first
              | (go_at_call 14; with_reducible refine (HP.out _ hmr).mono ?_; rintro e w1 ⟨rfl, hb1⟩; have cy1 := (hb1.cell (p := ⟨b, o + i, none⟩) hbr).trans cy)
              | (go_at_call 18; with_reducible refine (HO.out _).mono ?_; rintro e w2 ⟨rfl, m2, rfl⟩))
            go_ret
            exact ⟨by rw [← hr.out]; rfl, below_drewN (below_on hB hb1) _⟩
          · by_cases d2 : d = 0
            · have hr := (paths_stop HX.out (by rw [ssam d2]; decide)).symm.trans H.out
              rw [ssam d2] at hr
              have hr := Lib.hid hr
              have d3 : (d == 0) = true := by rw [d2]; rfl
              clear H sord ssam sin sok d2
              go_wp2_with (first
                | (go_at_call 14; with_reducible refine (HP.out _ hmr).mono ?_; rintro e w1 ⟨rfl, hb1⟩; have cy1 := (hb1.cell (p := ⟨b, o + i, none⟩) hbr).trans cy)
                | (go_at_call 18; with_reducible refine (HO.out _).mono ?_; rintro e w2 ⟨rfl, m2, rfl⟩))
              go_ret
              exact ⟨by rw [← hr.out]; rfl, below_drewN (below_on hB hb1) _⟩
            · have d3 : (d == 0) = false := by rw [beq_eq_false_iff_ne]; exact d2
              cases bw
              · have hst := Lib.hid ((paths_step HX.out (sok (by omega) rfl)).symm.trans H.out)
                clear H sord ssam sin sok
                go_wp2_with (first
                  | (go_at_call 14; with_reducible refine (HP.out _ hmr).mono ?_; rintro e w1 ⟨rfl, hb1⟩; have cy1 := (hb1.cell (p := ⟨b, o + i, none⟩) hbr).trans cy)
                  | (go_at_call 18; with_reducible refine (HO.out _).mono ?_; rintro e w2 ⟨rfl, m2, rfl⟩)
                  | (go_at_call 86; with_reducible refine (HW.out _).mono ?_; rintro e w3 ⟨rfl, hb3⟩))
                go_roundw
                case rel => exact ⟨i + 1 + 1, by omega, by go_num, hst, below_on (below_drewN (below_on hB hb1) _) hb3⟩
                case measure => simp [intOf] <;> omega
              · have hr := (paths_stop HX.out (by rw [sin (by omega) rfl]; decide)).symm.trans H.out
                rw [sin (by omega) rfl] at hr
                have hr := Lib.hid hr
                clear H sord ssam sin sok
                go_wp2_with (first
                  | (go_at_call 14; with_reducible refine (HP.out _ hmr).mono ?_; rintro e w1 ⟨rfl, hb1⟩; have cy1 := (hb1.cell (p := ⟨b, o + i, none⟩) hbr).trans cy)
                  | (go_at_call 18; with_reducible refine (HO.out _).mono ?_; rintro e w2 ⟨rfl, m2, rfl⟩)
                  | (go_at_call 86; with_reducible refine (HW.out _).mono ?_; rintro e w3 ⟨rfl, hb3⟩))
                go_ret
                exact ⟨by rw [← hr.out]; rfl, below_on (below_drewN (below_on hB hb1) _) hb3⟩
      · have hr := (paths_stop HX.out (by rw [stepE_bad h0]; exact h0)).symm.trans H.out
        rw [stepE_bad h0] at hr
        have h3 : (pathE x.data.toList == 0) = false := by rw [beq_eq_false_iff_ne]; exact h0
        generalize pathE x.data.toList = E at *
        have hr := Lib.hid hr
        have HP := Lib.hid hp
        clear H hp
        go_wp2_with (go_at_call 14; with_reducible refine (HP.out _ hmr).mono ?_; rintro e w1 ⟨rfl, hb1⟩)
        go_ret
        exact ⟨by rw [← hr.out]; rfl, below_on hB hb1⟩
    · have hr := H.out
      rw [paths_end _ (by rw [lists_len]; omega)] at hr
      have hr := Lib.hid hr
      clear H
      go_wp2
      go_ret
      exact ⟨by rw [← hr.out]; rfl, hB⟩

theorem paths_any (A : Option Addr) (c : Nat) (l : List ByteArray) (w : World) (hx : ∀ x ∈ l, x.size ≤ 9223372036854775807) (hlen : l.length ≤ 9223372036854775807)
    (hc : Arr w w.heap.size 1 A l.length (l.map Value.string)) (hm : Ml w) :
    Calls Tryd.prog 48 #[.slice A l.length c] w fun e w' => e = .returned (.int .i64 (pathsE (lists l))) ∧ Below w.heap.size w w' := by
  by_cases h : 256 < l.length
  · have h' : (256 : Int) < l.length := by omega
    rw [show pathsE (lists l) = 7 from if_pos (by rw [lists_len]; exact h)]
    go_enter Tryd.func48, Tryd.ntmps48
    go_wp2
    go_ret
    exact ⟨rfl, Below.refl _ _⟩
  · rw [show pathsE (lists l) = pathsGo none (lists l) from if_neg (by rw [lists_len]; exact h)]
    by_cases h0 : 0 < l.length
    · obtain ⟨b, o, rfl, hb, hcell⟩ := hc.2 h0
      exact paths_in b o c l w (by omega) hx hb hcell hm
    · have : l = [] := List.eq_nil_of_length_eq_zero (by omega)
      subst this
      rw [show pathsGo none (lists []) = 0 from rfl]
      show Calls _ _ #[.slice A 0 c] _ _
      go_enter Tryd.func48, Tryd.ntmps48
      go_wp2
      go_loopw [12] (fun v wr => v = .int .i64 0 ∧ wr = w) (fun v _ => 0)
      case atStart => exact ⟨rfl, rfl⟩
      case round =>
        obtain ⟨rfl, rfl⟩ := hrel
        go_wp2
        go_ret
        exact ⟨rfl, Below.refl _ _⟩
end Go.Proofs.YtjhbmcgaehpadaaDoor
