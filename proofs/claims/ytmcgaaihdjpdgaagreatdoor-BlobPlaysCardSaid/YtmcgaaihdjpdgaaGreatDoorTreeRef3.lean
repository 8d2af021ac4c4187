/- The walks through the reference's together, Check. -/
import Derived.Test.YtmcgaaihdjpdgaaGreatDoorTreeRef2
import Derived.IntWalk
namespace Go.Proofs.YtmcgaaihdjpdgaaGreatDoor
open Go.RowKit
set_option linter.unusedVariables false

theorem ordS_sgn (q s : List UInt8) : ordS s q = -sgnI (ordL q s) := by rw [sgn_ord, ordS_flip]
theorem ordL_zero (q s : List UInt8) : ordL q s = 0 ↔ q = s := by
  rw [← ordS_zero, ← sgn_ord]
  unfold sgnI
  constructor
  · intro h; rw [h]; rfl
  · intro h
    split at h
    · cases h
    · split at h
      · cases h
      · omega
theorem quiet_add_left {P : Program} {f : FuncId} {args : Array Value} {w : World} {a n : Nat} {v : Value}
    (h : Calls P f args (w.drewN (a + n)) fun e w' => e = .returned v ∧ w.drewN (a + n) = w') :
    Calls P f args (w.drewN (a + n)) fun e w'' => e = .returned v ∧ ∃ m, w'' = w.drewN (a + m) :=
  h.mono fun _ _ ⟨he, hm⟩ => ⟨he, n, hm.symm⟩
theorem quiet_left {P : Program} {f : FuncId} {args : Array Value} {w : World} {n : Nat} {v : Value}
    (h : Calls P f args (w.drewN n) fun e w' => e = .returned v ∧ w.drewN n = w') : Calls P f args (w.drewN n) fun e w'' => e = .returned v ∧ ∃ m, w'' = w.drewN m :=
  h.mono fun _ _ ⟨he, hm⟩ => ⟨he, n, hm.symm⟩
theorem idx_facts {n : Nat} (i : Nat) (h : i + 1 < n) (hn : n ≤ 256) : (i : Int) + 1 < n ∧ 0 ≤ (i : Int) + 1 ∧ ((i : Int) + 1).toNat = i + 1 ∧ (i : Int) < n ∧ 0 ≤ (i : Int) ∧ IntKind.i64.wrap (i : Int) = i :=
  ⟨by omega, by omega, by omega, by omega, by omega, IntWalk.i64_in _ (by omega)⟩
set_option maxHeartbeats 2000000 in
set_option maxRecDepth 100000 in
theorem together_in (b o c : Nat) (l : List ByteArray) (w : World) (hl : l.length ≤ 256) (hx : ∀ x ∈ l, x.size ≤ 9223372036854775807) (hb : b < w.heap.size)
    (hc : ∀ i u, (l.map Value.string)[i]? = some u → w.cell? ⟨b, o + i, none⟩ = some u) :
    Calls Tryz.prog 48 #[.slice (some ⟨b, o, none⟩) l.length c] w fun e w' => e = .returned (.int .i64 (pathsGo none (lists l))) ∧ Below w.heap.size w w' := by
  have hx := Lib.hid hx
  have hc := Lib.hid hc
  have hn : ¬ (256 : Int) < l.length := by omega
  generalize hR : pathsGo none (lists l) = R
  have HR : Hid (pathsGo (prevAt (lists l) 0) ((lists l).drop 0) = R) := Lib.hid hR
  clear hR
  go_enter Tryz.func48, Tryz.ntmps48
  go_wp2
  go_loopw [3] (fun v wr => ∃ (k : Nat), k ≤ l.length ∧ v = .int .i64 k ∧ Hid (pathsGo (prevAt (lists l) k) ((lists l).drop k) = R) ∧ Below w.heap.size w wr) (fun v _ => l.length - (intOf v).toNat)
  case atStart => exact ⟨0, Nat.zero_le _, rfl, HR, Below.refl _ _⟩
  case round =>
    obtain ⟨k, hk, rfl, H, hB⟩ := hrel
    have hbr : b < wr.heap.size := Nat.lt_of_lt_of_le hb hB.size
    by_cases hlt : k < l.length
    · obtain ⟨x, hxk⟩ : ∃ x, l[k]? = some x := ⟨_, List.getElem?_eq_getElem hlt⟩
      have cc : wr.cell? ⟨b, o + k, none⟩ = some (.string x) := (hB.cell (p := ⟨b, o + k, none⟩) hb).trans (hc.out k _ (by simp [hxk]))
      have hxs := hx.out x (List.mem_of_getElem? hxk)
      have hp := fun W => path_ref x W hxs
      have HX := Lib.hid (lists_at hxk)
      have hx2 := hxk
      clear hxk
      have i2 : (k : Int) < l.length := by omega
      by_cases h0 : pathE x.data.toList = 0
      · rw [h0] at hp
        have HP := Lib.hid hp
        clear hp
        rcases k with _ | i
        · rw [Nat.add_zero] at cc
          have hst := Lib.hid ((paths_step HX.out (stepE_first h0)).symm.trans H.out)
          have d0 : decide ((0 : Int) < 0) = false := rfl
          clear H h0 hx2
          go_wp2_with (go_at_call 79; with_reducible refine (HP.out _).mono ?_; rintro e w1 ⟨rfl, hb1⟩)
          go_quiet (fail)
          go_wp2
          go_quiet (fail)
          go_wp2
          go_roundw
          case rel => exact ⟨0 + 1, by omega, by go_num, hst, below_drewN (below_on hB hb1) _⟩
          case measure => simp [intOf] <;> omega
        · obtain ⟨y, hyk⟩ : ∃ y, l[i]? = some y := ⟨_, List.getElem?_eq_getElem (by omega)⟩
          have cy : wr.cell? ⟨b, o + i, none⟩ = some (.string y) := (hB.cell (p := ⟨b, o + i, none⟩) hb).trans (hc.out i _ (by simp [hyk]))
          have hys := hx.out y (List.mem_of_getElem? hyk)
          have hpv := prev_succ (lists_at hyk)
          have ho := fun W => order_ref x y W hxs hys
          rw [ordS_sgn] at ho
          have hw := fun W => within_ref x y W (by have := pathE_long h0; omega) hys
          have hidx := Lib.hid (idx_facts (n := l.length) i (by omega) (by omega))
          clear i2
          have sord := fun h1 => stepE_order h0 (q := y.data.toList) (s := x.data.toList) h1
          have ssam := fun h1 => stepE_same h0 (q := y.data.toList) (s := x.data.toList) h1
          have sin := fun h1 h2 => stepE_in h0 (q := y.data.toList) (s := x.data.toList) h1 h2
          have sok := fun h1 h2 => stepE_ok h0 (q := y.data.toList) (s := x.data.toList) h1 h2
          have heq : (x.toList == y.toList) = decide (ordL y.data.toList x.data.toList = 0) := by
            rw [ByteArray.toList_eq, ByteArray.toList_eq]
            by_cases h : ordL y.data.toList x.data.toList = 0
            · rw [decide_eq_true h, (ordL_zero _ _).1 h]; simp
            · rw [decide_eq_false h, beq_eq_false_iff_ne]; exact fun e => h ((ordL_zero _ _).2 e.symm)
          rw [← hpv] at sord ssam sin sok
          generalize ordL y.data.toList x.data.toList = d at *
          generalize within x.data.toList y.data.toList = bw at *
          clear hyk hpv h0 hx2
          by_cases d1 : 0 < d
          · have hr := (paths_stop HX.out (by rw [sord d1]; decide)).symm.trans H.out
            rw [sord d1] at hr
            have hr := Lib.hid hr
            rw [show -sgnI d = -1 by unfold sgnI; rw [if_neg (by omega), if_pos d1]] at ho
            have HO := Lib.hid ho
            have HW := Lib.hid hw
            clear H sord ssam sin sok ho hw heq d1
            go_wp2_with (go_at_call 79; with_reducible refine (HP.out _).mono ?_; rintro e w1 ⟨rfl, hb1⟩; have cy1 := (hb1.cell (p := ⟨b, o + i, none⟩) hbr).trans cy; have cx1 := (hb1.cell (p := ⟨b, o + (i + 1), none⟩) hbr).trans cc)
            obtain ⟨j1, j2, j3, j4, j5, j6⟩ := hidx.out
            go_quiet ((go_at_call 80; exact quiet_left (HO.out _)))
            go_wp2
            go_ret
            exact ⟨by rw [← hr.out]; rfl, below_drewN (below_on hB hb1) _⟩
          · have ho2 : ∀ W, Calls Tryz.prog 80 #[.string x, .string y] W fun e w' => e = .returned (.int .i64 (if d = 0 then 0 else 1)) ∧ W = w' := by
              intro W
              have := ho W
              rwa [show -sgnI d = if d = 0 then 0 else 1 by
                unfold sgnI
                by_cases h : d = 0
                · rw [if_pos h, if_neg (by omega), if_neg (by omega)]; rfl
                · rw [if_neg h, if_pos (by omega)]; rfl] at this
            by_cases d2 : d = 0
            · have hr := (paths_stop HX.out (by rw [ssam d2]; decide)).symm.trans H.out
              rw [ssam d2] at hr
              have hr := Lib.hid hr
              rw [if_pos d2] at ho2
              have e1 : (x.toList == y.toList) = true := by rw [heq, decide_eq_true d2]
              have HO := Lib.hid ho2
              clear H sord ssam sin sok ho hw heq d1 d2 ho2
              go_wp2_with (go_at_call 79; with_reducible refine (HP.out _).mono ?_; rintro e w1 ⟨rfl, hb1⟩; have cy1 := (hb1.cell (p := ⟨b, o + i, none⟩) hbr).trans cy; have cx1 := (hb1.cell (p := ⟨b, o + (i + 1), none⟩) hbr).trans cc)
              obtain ⟨j1, j2, j3, j4, j5, j6⟩ := hidx.out
              go_quiet ((go_at_call 80; exact quiet_left (HO.out _)))
              go_wp2
              go_quiet (fail)
              go_wp2
              go_ret
              exact ⟨by rw [← hr.out]; rfl, by first | exact below_drewN (below_on hB hb1) _ | exact below_drewN (below_drewN (below_on hB hb1) _) _⟩
            · rw [if_neg d2] at ho2
              have e1 : (x.toList == y.toList) = false := by rw [heq, decide_eq_false d2]
              have HO := Lib.hid ho2
              have HW := Lib.hid hw
              cases bw
              · have hst := Lib.hid ((paths_step HX.out (sok (by omega) rfl)).symm.trans H.out)
                clear H sord ssam sin sok ho hw heq d1 d2 ho2
                go_wp2_with (go_at_call 79; with_reducible refine (HP.out _).mono ?_; rintro e w1 ⟨rfl, hb1⟩; have cy1 := (hb1.cell (p := ⟨b, o + i, none⟩) hbr).trans cy; have cx1 := (hb1.cell (p := ⟨b, o + (i + 1), none⟩) hbr).trans cc)
                obtain ⟨j1, j2, j3, j4, j5, j6⟩ := hidx.out
                go_quiet ((go_at_call 80; exact quiet_left (HO.out _)))
                go_wp2
                go_quiet ((go_at_call 81; exact quiet_add_left (HW.out _)))
                go_wp2
                clear j1 j2 j3 j4 j5 j6
                go_roundw
                case rel => exact ⟨i + 1 + 1, by omega, by go_num, hst, by first | exact below_drewN (below_on hB hb1) _ | exact below_drewN (below_drewN (below_on hB hb1) _) _⟩
                case measure => simp [intOf] <;> omega
              · have hr := (paths_stop HX.out (by rw [sin (by omega) rfl]; decide)).symm.trans H.out
                rw [sin (by omega) rfl] at hr
                have hr := Lib.hid hr
                clear H sord ssam sin sok ho hw heq d1 d2 ho2
                go_wp2_with (go_at_call 79; with_reducible refine (HP.out _).mono ?_; rintro e w1 ⟨rfl, hb1⟩; have cy1 := (hb1.cell (p := ⟨b, o + i, none⟩) hbr).trans cy; have cx1 := (hb1.cell (p := ⟨b, o + (i + 1), none⟩) hbr).trans cc)
                obtain ⟨j1, j2, j3, j4, j5, j6⟩ := hidx.out
                go_quiet ((go_at_call 80; exact quiet_left (HO.out _)))
                go_wp2
                go_quiet ((go_at_call 81; exact quiet_add_left (HW.out _)))
                go_wp2
                go_ret
                exact ⟨by rw [← hr.out]; rfl, by first | exact below_drewN (below_on hB hb1) _ | exact below_drewN (below_drewN (below_on hB hb1) _) _⟩
      · have hr := (paths_stop HX.out (by rw [stepE_bad h0]; exact h0)).symm.trans H.out
        rw [stepE_bad h0] at hr
        have h3 : (pathE x.data.toList == 0) = false := by rw [beq_eq_false_iff_ne]; exact h0
        generalize pathE x.data.toList = E at *
        have hr := Lib.hid hr
        have HP := Lib.hid hp
        clear H hp hx2
        go_wp2_with (go_at_call 79; with_reducible refine (HP.out _).mono ?_; rintro e w1 ⟨rfl, hb1⟩)
        go_ret
        exact ⟨by rw [← hr.out]; rfl, below_on hB hb1⟩
    · have hr := H.out
      rw [paths_end _ (by rw [lists_len]; omega)] at hr
      have hr := Lib.hid hr
      clear H
      go_wp2
      go_ret
      exact ⟨by rw [← hr.out]; rfl, hB⟩
theorem together_any (A : Option Addr) (c : Nat) (l : List ByteArray) (w : World) (hx : ∀ x ∈ l, x.size ≤ 9223372036854775807) (hlen : l.length ≤ 9223372036854775807)
    (hc : Arr w w.heap.size 1 A l.length (l.map Value.string)) :
    Calls Tryz.prog 48 #[.slice A l.length c] w fun e w' => e = .returned (.int .i64 (pathsE (lists l))) ∧ Below w.heap.size w w' := by
  by_cases h : 256 < l.length
  · have h' : (256 : Int) < l.length := by omega
    rw [show pathsE (lists l) = 7 from if_pos (by rw [lists_len]; exact h)]
    go_enter Tryz.func48, Tryz.ntmps48
    go_wp2
    go_ret
    exact ⟨rfl, Below.refl _ _⟩
  · rw [show pathsE (lists l) = pathsGo none (lists l) from if_neg (by rw [lists_len]; exact h)]
    by_cases h0 : 0 < l.length
    · obtain ⟨b, o, rfl, hb, hcell⟩ := hc.2 h0
      exact together_in b o c l w (by omega) hx hb hcell
    · have : l = [] := List.eq_nil_of_length_eq_zero (by omega)
      subst this
      rw [show pathsGo none (lists []) = 0 from rfl]
      show Calls _ _ #[.slice A 0 c] _ _
      go_enter Tryz.func48, Tryz.ntmps48
      go_wp2
      go_loop [3] (fun v => v = .int .i64 0) (fun v => 0)
      case atStart => exact rfl
      case round =>
        obtain rfl := hrel
        go_wp2
        go_ret
        exact ⟨rfl, Below.refl _ _⟩

set_option maxHeartbeats 1000000 in
set_option maxRecDepth 100000 in
theorem check_ref_in (b o c : Nat) (l : List FileD) (w : World) (hn : 0 < l.length) (hz : l.length ≤ 8796093022208) (hx : ∀ f ∈ l, FOk f) (hb : b < w.heap.size)
    (hc : ∀ i u, (fcells l)[i]? = some u → w.cell? ⟨b, o + i, none⟩ = some u) :
    Calls Tryz.prog 32 #[.slice (some ⟨b, o, none⟩) l.length c] w fun e w' => e = .returned (.int .i64 (checkE l)) ∧ Below w.heap.size w w' := by
  have hx := Lib.hid hx
  have hc := Lib.hid hc
  obtain ⟨i0, hi0, hz0, hz1, hz2⟩ := info_parts infoStr
  have hp := fun A c W h1 h2 => together_any A c (fpaths l) W h1 h2
  rw [fpaths_len] at hp
  rw [show checkE l = if pathsE (lists (fpaths l)) = 0 then filesE l else pathsE (lists (fpaths l)) by rw [fpaths_lists]; rfl]
  generalize pathsE (lists (fpaths l)) = E at *
  have HP := Lib.hid hp
  clear hp
  generalize hR : filesE l = R
  have HR : Hid (filesE (l.drop 0) = R) := Lib.hid hR
  clear hR
  go_enter Tryz.func32, Tryz.ntmps32
  go_wp2
  go_loopw [3, 4] (fun v3 v wr => ∃ (k : Nat), k ≤ l.length ∧ v = .int .i64 k ∧ wr.ownsRow w.heap.size 9 1 v3 k ((fpaths (l.take k)).map Value.string) ∧ Below w.heap.size w wr) (fun _ v _ => l.length - (intOf v).toNat)
  case atStart => exact ⟨0, Nat.zero_le _, rfl, World.ownsRow_nil _ _ _ _, Below.refl _ _⟩
  case round =>
    obtain ⟨k, hk, rfl, hown, hB⟩ := hrel
    have hbse := hB.size
    by_cases hlt : k < l.length
    · obtain ⟨f, hf⟩ : ∃ f, l[k]? = some f := ⟨_, List.getElem?_eq_getElem hlt⟩
      obtain ⟨c0, c1, c2⟩ := file_cells (fun i u h => (hB.cell (p := ⟨b, o + i, none⟩) hb).trans (hc.out i u h)) hf
      have HT := Lib.hid (fpaths_take hf)
      clear hf
      go_wp2_with (at_builtin; refine wpList_push rfl _ _ _ rfl Tryz.underlying47 hi0 hz0 hz1 hz2 rfl (by decide) hown rfl rfl rfl (str_one f.path) (by unfold maxLen; omega) (by omega) (by omega) ?_; intro g2 cap2 w1 hown1 hgr1 hat1)
      have hB3 := hB.grown hgr1 hbse (fun j hj => (hown.lt j hj).1)
      go_roundw
      case rel => exact ⟨k + 1, by omega, by go_num, by rw [HT.out]; exact hown1, hB3⟩
      case measure => simp [intOf] <;> omega
    · have he : l.take k = l := List.take_of_length_le (by omega)
      rw [he] at hown
      obtain ⟨A', c', rfl, hcap, ha, hfr⟩ := own_arr hown
      have hke : k = l.length := by omega
      subst hke
      have hpc := HP.out A' c' wr (fun x hx2 => by
        unfold fpaths at hx2
        obtain ⟨f, hf, rfl⟩ := List.mem_map.1 hx2
        exact (hx.out f hf).1) (by omega) ha
      have HPC := Lib.hid hpc
      clear hpc ha hfr he hown
      by_cases hE : E = 0
      · subst hE
        go_wp2_with (go_at_call 48; with_reducible refine HPC.out.mono ?_; rintro e w1 ⟨rfl, hb1⟩)
        have hB1 := below_on hB hb1
        clear HPC
        go_loop [6] (fun v => ∃ (k : Nat), k ≤ l.length ∧ v = .int .i64 k ∧ Hid (filesE (l.drop k) = R)) (fun v => l.length - (intOf v).toNat)
        case atStart => exact ⟨0, Nat.zero_le _, rfl, HR⟩
        case round =>
          obtain ⟨k, hk, rfl, H⟩ := hrel
          by_cases hlt : k < l.length
          · obtain ⟨f, hf⟩ : ∃ f, l[k]? = some f := ⟨_, List.getElem?_eq_getElem hlt⟩
            obtain ⟨c0, c1, c2⟩ := file_cells (fun i u h => (hB1.cell (p := ⟨b, o + i, none⟩) hb).trans (hc.out i u h)) hf
            have hxf := hx.out f (List.mem_of_getElem? hf)
            have hst := fun h => (files_step hf h).symm.trans H.out
            have hsp := fun h => (files_stop hf h).symm.trans H.out
            have fm := fileE_mode (f := f)
            have fl := fileE_long (f := f)
            have fo := fileE_ok (f := f)
            clear hf hxf H
            generalize f.mode = m at *
            by_cases h1 : 0 ≤ m
            · by_cases h1' : m ≤ 511
              · by_cases h2 : 65536 < f.data.size
                · have hr := hsp (by rw [fl ⟨h1, h1'⟩ h2]; decide)
                  rw [fl ⟨h1, h1'⟩ h2] at hr
                  have hr := Lib.hid hr
                  have h3 : (65536 : Int) < f.data.size := by omega
                  clear hst hsp fm fl fo h2
                  go_wp2
                  go_ret
                  exact ⟨by rw [← hr.out]; rfl, hB1⟩
                · have hr := Lib.hid (hst (fo ⟨h1, h1'⟩ h2))
                  have h3 : ¬ (65536 : Int) < f.data.size := by omega
                  clear hst hsp fm fl fo h2
                  go_wp2
                  go_round
                  case rel => exact ⟨k + 1, by omega, by go_num, hr⟩
                  case measure => simp [intOf] <;> omega
              · have hr := hsp (by rw [fm (fun h => h1' h.2)]; decide)
                rw [fm (fun h => h1' h.2)] at hr
                have hr := Lib.hid hr
                clear hst hsp fm fl fo
                go_wp2
                go_ret
                exact ⟨by rw [← hr.out]; rfl, hB1⟩
            · have hr := hsp (by rw [fm (fun h => h1 h.1)]; decide)
              rw [fm (fun h => h1 h.1)] at hr
              have hr := Lib.hid hr
              clear hst hsp fm fl fo
              go_wp2
              go_ret
              exact ⟨by rw [← hr.out]; rfl, hB1⟩
          · have hr := H.out
            rw [files_end (by omega)] at hr
            have hr := Lib.hid hr
            clear H
            go_wp2
            go_ret
            exact ⟨by rw [← hr.out]; rfl, hB1⟩
      · have hE' : (E == 0) = false := by rw [beq_eq_false_iff_ne]; exact hE
        go_wp2_with (go_at_call 48; with_reducible refine HPC.out.mono ?_; rintro e w1 ⟨rfl, hb1⟩)
        go_ret
        exact ⟨rfl, below_on hB hb1⟩
theorem check_ref (A : Option Addr) (c : Nat) (l : List FileD) (w : World) (hz : l.length ≤ 8796093022208) (hx : ∀ f ∈ l, FOk f)
    (hc : Arr w w.heap.size 3 A l.length (fcells l)) :
    Calls Tryz.prog 32 #[.slice A l.length c] w fun e w' => e = .returned (.int .i64 (checkE l)) ∧ Below w.heap.size w w' := by
  by_cases h0 : 0 < l.length
  · obtain ⟨b, o, rfl, hb, hcell⟩ := hc.2 h0
    exact check_ref_in b o c l w h0 hz hx hb hcell
  · have : l = [] := List.eq_nil_of_length_eq_zero (by omega)
    subst this
    rw [show checkE [] = 0 from rfl]
    show Calls _ _ #[.slice A 0 c] _ _
    have HP : Hid (∀ W, Calls Tryz.prog 48 #[.slice none 0 0] W fun e w' => e = .returned (.int .i64 0) ∧ Below W.heap.size W w') :=
      Lib.hid fun W => together_any none 0 [] W (by simp) (by simp) (Arr.nil _ _ _ _)
    go_enter Tryz.func32, Tryz.ntmps32
    go_wp2
    go_loop [3, 4] (fun v3 v => v3 = .slice none 0 0 ∧ v = .int .i64 0) (fun _ v => 0)
    case atStart => exact ⟨rfl, rfl⟩
    case round =>
      obtain ⟨rfl, rfl⟩ := hrel
      go_wp2_with (go_at_call 48; with_reducible refine (HP.out _).mono ?_; rintro e w1 ⟨rfl, hb1⟩)
      go_loop [6] (fun v => v = .int .i64 0) (fun v => 0)
      case atStart => exact rfl
      case round =>
        obtain rfl := hrel
        go_wp2
        go_ret
        exact ⟨rfl, hb1⟩
end Go.Proofs.YtmcgaaihdjpdgaaGreatDoor
