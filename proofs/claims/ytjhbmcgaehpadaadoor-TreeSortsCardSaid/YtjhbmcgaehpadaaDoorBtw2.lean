/- The walk through the reference's Sort. -/
import Derived.Test.YtjhbmcgaehpadaaDoorBtw1
namespace Go.Proofs.YtjhbmcgaehpadaaDoor
open Go.RowKit
set_option linter.unusedVariables false

def InRel (w1 : World) (f : FileD) (acc I : List FileD) (vn vd v : Value) (ws : World) : Prop := ∃ (k : Nat) (nx : List FileD) (d : Bool), k ≤ acc.length ∧ v = .int .i64 k ∧ vd = .bool d ∧ ws.ownsRow w1.heap.size 58 3 vn nx.length (fcells nx) ∧ nx.length ≤ 2 * k ∧ Hid (nx ++ insGo f d (acc.drop k) = I) ∧ Below w1.heap.size w1 ws
set_option maxHeartbeats 4000000 in
set_option maxRecDepth 100000 in
theorem sort_ref (A : Option Addr) (c : Nat) (l : List FileD) (w : World) (hz : l.length ≤ 1000) (hx : ∀ f ∈ l, FOk f) (ha : Arr w w.heap.size 3 A l.length (fcells l)) :
    Calls Tryd.prog 43 #[.slice A l.length c] w fun e w' => ∃ A' c', e = .returned (.slice A' l.length c') ∧ Arr w' w'.heap.size 3 A' l.length (fcells (sortS l)) ∧ Below w.heap.size w w' := by
  obtain ⟨i1, gi0, gz0, gz1, gz2⟩ := info_parts infoFile
  have HA := Lib.hid ha
  have HX := Lib.hid hx
  clear ha hx
  generalize hR : sortS l = R
  have HR : Hid ((l.drop 0).foldl (fun out f => insGo f false out) [] = R) := Lib.hid hR
  clear hR
  go_enter Tryd.func43, Tryd.ntmps43
  go_wp2
  go_loopw [3, 4] (fun vo v wr => ∃ (i : Nat) (acc : List FileD) (A' : Option Addr) (c' : Nat), i ≤ l.length ∧ v = .int .i64 i ∧ vo = .slice A' acc.length c' ∧ acc.length = i ∧ Hid (Arr wr wr.heap.size 3 A' acc.length (fcells acc)) ∧ Hid (∀ f ∈ acc, FOk f) ∧ Hid ((l.drop i).foldl (fun out f => insGo f false out) acc = R) ∧ Below w.heap.size w wr) (fun _ v _ => l.length - (intOf v).toNat)
  case atStart => exact ⟨0, [], none, 0, Nat.zero_le _, rfl, rfl, rfl, Lib.hid (Arr.nil _ _ _ _), Lib.hid (by simp), HR, Below.refl _ _⟩
  case round =>
    obtain ⟨i, acc, A', c', hi, rfl, rfl, hal, HO, HXA, H, hB⟩ := hrel
    by_cases hlt : i < l.length
    · obtain ⟨f, hf⟩ : ∃ f, l[i]? = some f := ⟨_, List.getElem?_eq_getElem hlt⟩
      obtain ⟨b, o, rfl, hb, hcell⟩ := HA.out.2 (by omega)
      have cf := Lib.hid (file_cells (fun i u h => (hB.cell (p := ⟨b, o + i, none⟩) hb).trans (hcell i u h)) hf)
      have hfx := HX.out f (List.mem_of_getElem? hf)
      have hst := Lib.hid ((sort_step hf).symm.trans H.out)
      have hnx := Lib.hid (insGo_all f FOk hfx false acc HXA.out)
      have hln := insGo_len f false acc
      generalize hI : insGo f false acc = I at *
      have HI : Hid ([] ++ insGo f false (acc.drop 0) = I) := Lib.hid (by rw [List.nil_append]; exact hI)
      have kl : (i : Int) < l.length := by omega
      have hwb := hB.size
      clear hI hf hcell H
      obtain ⟨w1, rfl⟩ : ∃ w1, w1 = wr := ⟨_, rfl⟩
      go_wp2
      go_loopw [5, 6, 7] (fun vn vd v ws => InRel w1 f acc I vn vd v ws) (fun _ _ v _ => acc.length - (intOf v).toNat)
      case atStart => unfold InRel; exact ⟨0, [], false, Nat.zero_le _, rfl, rfl, World.ownsRow_nil _ _ _ _, Nat.le_refl _, HI, Below.refl _ _⟩
      case round =>
        unfold InRel at hrel
        obtain ⟨k, nx, d, hk, rfl, rfl, hown, hnl, H, hB2⟩ := hrel
        have hs2 := hB2.size
        have cf2 := (hB2.cell (p := ⟨b, o + i * 3, none⟩) (by show b < _; omega)).trans cf.out.1
        have cf3 := (hB2.cell (p := ⟨b, o + i * 3 + 1, none⟩) (by show b < _; omega)).trans cf.out.2.1
        have cf4 := (hB2.cell (p := ⟨b, o + i * 3 + 2, none⟩) (by show b < _; omega)).trans cf.out.2.2
        by_cases hlt2 : k < acc.length
        · obtain ⟨g, hg⟩ : ∃ g, acc[k]? = some g := ⟨_, List.getElem?_eq_getElem hlt2⟩
          obtain ⟨b2, o2, rfl, hb2, hcell2⟩ := HO.out.2 (by omega)
          obtain ⟨d0, d1, d2⟩ := file_cells (fun i u h => (hB2.cell (p := ⟨b2, o2 + i, none⟩) hb2).trans (hcell2 i u h)) hg
          have hgx := HXA.out g (List.mem_of_getElem? hg)
          have hor := fun W => order_ref f.path g.path W hfx.1 hgx.1
          have kl2 : (k : Int) < acc.length := by omega
          have HCG := Lib.hid (fun (W : World) (hh : Below w1.heap.size w1 W) => file_cells (w := W) (fun i u h => (hh.cell (p := ⟨b2, o2 + i, none⟩) hb2).trans (hcell2 i u h)) hg)
          have hownQ : ∀ n, (wr.drewN n).ownsRow w1.heap.size 58 3 _ nx.length (fcells nx) := fun n => hown
          clear hcell2
          cases d
          · have h1 := insGo_new (f := f) hg
            have h2 := insGo_old (f := f) hg
            generalize ordS f.path.data.toList g.path.data.toList = S at *
            have HS := Lib.hid hor
            by_cases hS : S < 0
            · have hst2 := Lib.hid ((congrArg (nx ++ ·) (h1 hS)).symm.trans H.out)
              clear h1 h2 hg H hor
              go_wp2
              go_quiet ((go_at_call 84; exact quiet_left (HS.out _)))
              go_wp2_with (first
                | (at_builtin; refine wpList_push rfl _ _ _ rfl Tryd.underlying29 gi0 gz0 gz1 gz2 file_zero (by decide) (hownQ _) rfl rfl rfl (file_one f) (by unfold maxLen; omega) (by omega) hs2 ?_; intro g6 cap6 w6 hown6 hgr6 hat6; have hB6 := (below_drewN hB2 _).grown hgr6 hs2 (fun j hj => (hown.lt j hj).1); have hs6 := hB6.size; obtain ⟨d0, d1, d2⟩ := HCG.out _ hB6)
                | (at_builtin; refine wpList_push rfl _ _ _ rfl Tryd.underlying29 gi0 gz0 gz1 gz2 file_zero (by decide) hown6 rfl rfl rfl (file_one g) (by unfold maxLen; omega) (by omega) hs6 ?_; intro g7 cap7 w7 hown7 hgr7 hat7; have hB7 := hB6.grown hgr7 hs6 (fun j hj => (hown6.lt j hj).1)))
              go_roundw
              case rel => unfold InRel; exact ⟨_, _, _, ⟨k + 1, (nx ++ [f]) ++ [g], true, by omega, rfl, rfl, by rw [List.length_append, List.length_append, fcells_snoc, fcells_snoc]; exact hown7, by simp; omega, Lib.hid (by have := hst2.out; simpa using this), hB7⟩, rfl, rfl, rfl⟩
              case measure => simp [intOf] <;> omega
            · have hst2 := Lib.hid ((congrArg (nx ++ ·) (h2 hS)).symm.trans H.out)
              clear h1 h2 hg H hor
              go_wp2
              go_quiet ((go_at_call 84; exact quiet_left (HS.out _)))
              go_wp2_with (at_builtin; refine wpList_push rfl _ _ _ rfl Tryd.underlying29 gi0 gz0 gz1 gz2 file_zero (by decide) (hownQ _) rfl rfl rfl (file_one g) (by unfold maxLen; omega) (by omega) hs2 ?_; intro g6 cap6 w6 hown6 hgr6 hat6; have hB6 := (below_drewN hB2 _).grown hgr6 hs2 (fun j hj => (hown.lt j hj).1); have hs6 := hB6.size; obtain ⟨d0, d1, d2⟩ := HCG.out _ hB6)
              go_roundw
              case rel => unfold InRel; exact ⟨_, _, _, ⟨k + 1, nx ++ [g], false, by omega, rfl, rfl, by rw [List.length_append, fcells_snoc]; exact hown6, by simp; omega, Lib.hid (by have := hst2.out; simpa using this), hB6⟩, rfl, rfl, rfl⟩
              case measure => simp [intOf] <;> omega
          · have hst2 := Lib.hid ((congrArg (nx ++ ·) (insGo_done (f := f) hg)).symm.trans H.out)
            clear hg H hor
            go_wp2
            go_quiet (fail)
            go_wp2_with (at_builtin; refine wpList_push rfl _ _ _ rfl Tryd.underlying29 gi0 gz0 gz1 gz2 file_zero (by decide) (hownQ _) rfl rfl rfl (file_one g) (by unfold maxLen; omega) (by omega) hs2 ?_; intro g6 cap6 w6 hown6 hgr6 hat6; have hB6 := (below_drewN hB2 _).grown hgr6 hs2 (fun j hj => (hown.lt j hj).1); have hs6 := hB6.size; obtain ⟨d0, d1, d2⟩ := HCG.out _ hB6)
            go_roundw
            case rel => unfold InRel; exact ⟨_, _, _, ⟨k + 1, nx ++ [g], true, by omega, rfl, rfl, by rw [List.length_append, fcells_snoc]; exact hown6, by simp; omega, Lib.hid (by have := hst2.out; simpa using this), hB6⟩, rfl, rfl, rfl⟩
            case measure => simp [intOf] <;> omega
        · have hH := H.out
          rw [insGo_end f d (by omega)] at hH
          cases d
          · rw [if_neg (by simp)] at hH
            have HH := Lib.hid hH
            clear H hH
            go_wp2_with (at_builtin; refine wpList_push rfl _ _ _ rfl Tryd.underlying29 gi0 gz0 gz1 gz2 file_zero (by decide) hown rfl rfl rfl (file_one f) (by unfold maxLen; omega) (by omega) hs2 ?_; intro g6 cap6 w6 hown6 hgr6 hat6; have hB6 := hB2.grown hgr6 hs2 (fun j hj => (hown.lt j hj).1))
            have ha6 := own_slice hown6
            have hlen : nx.length + 1 = I.length := by rw [← HH.out]; simp
            go_roundw
            case rel => exact ⟨i + 1, I, _, _, by omega, by go_num, by rw [← hlen], by rw [hln]; simp; omega, Lib.hid (by rw [← HH.out, List.length_append, fcells_snoc]; exact ha6), hnx, hst, below_on hB (hB6.mono (by omega))⟩
            case measure => simp [intOf] <;> omega
          · rw [if_pos rfl, List.append_nil] at hH
            subst hH
            obtain ⟨A6, c6, rfl, hcap, ha6, hfr⟩ := own_arr hown
            have HA6 := Lib.hid ha6
            clear H ha6
            go_wp2
            go_roundw
            case rel => exact ⟨i + 1, nx, A6, c6, by omega, by go_num, rfl, by rw [hln]; simp; omega, HA6, hnx, hst, below_on hB (hB2.mono (by omega))⟩
            case measure => simp [intOf] <;> omega
    · have hr := (sort_end (l := l) (acc := acc) (k := i) (by omega)).symm.trans H.out
      subst hr
      have hil : acc.length = l.length := by omega
      rw [hil] at HO
      rw [hil]
      have HO2 := HO.out
      clear H
      go_wp2
      go_ret
      exact ⟨A', c', rfl, HO2, hB⟩
end Go.Proofs.YtjhbmcgaehpadaaDoor
