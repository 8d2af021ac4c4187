/- The walk through the reference's Filter. -/
import Derived.Test.YtjhbmcgaehpadaaDoorTreeFilter2
namespace Go.Proofs.YtjhbmcgaehpadaaDoor
open Go.RowKit
set_option linter.unusedVariables false

def onE (e : Int) (l : List ByteArray) : Int := if e = 0 then patsE l else e
theorem filtE_on (l : List FileD) (i o : List ByteArray) : filtE l i o = onE (onE (checkE l) i) o := by
  unfold filtE onE
  by_cases h : checkE l = 0
  · rw [if_pos h, if_pos h, patsE_app]
  · rw [if_neg h, if_neg h, if_neg h]
theorem onE_zero (l : List ByteArray) : onE 0 l = patsE l := if_pos rfl
theorem onE_bad {e : Int} (l : List ByteArray) (h : e ≠ 0) : onE e l = e := if_neg h
theorem onE_nil {l : List ByteArray} {k : Nat} (e : Int) (h : l.length ≤ k) : onE e (l.drop k) = e := by
  unfold onE
  rw [patsE_end h]
  by_cases h0 : e = 0
  · rw [if_pos h0, h0]
  · rw [if_neg h0]
theorem onE_step {l : List ByteArray} {k : Nat} {x : ByteArray} (h : l[k]? = some x) : onE 0 (l.drop k) = onE (patE x.data.toList) (l.drop (k + 1)) := by
  rw [onE_zero, drop_head h, patsE]
  rfl
theorem onE_exit {l : List ByteArray} {k : Nat} {e : Int} (h : ¬ (k < l.length ∧ e = 0)) : onE e (l.drop k) = e := by
  by_cases h0 : e = 0
  · exact onE_nil e (by
      rcases Nat.lt_or_ge k l.length with h1 | h1
      · exact absurd ⟨h1, h0⟩ h
      · exact h1)
  · exact onE_bad _ h0

set_option maxHeartbeats 4000000 in
set_option maxRecDepth 100000 in
theorem filter_ref (A : Option Addr) (c : Nat) (l : List FileD) (Ai : Option Addr) (ci : Nat) (li : List ByteArray) (Ao : Option Addr) (co : Nat) (lo : List ByteArray) (w : World)
    (hz : l.length ≤ 60) (hx : ∀ f ∈ l, FOk f) (ha : Arr w w.heap.size 3 A l.length (fcells l))
    (hi : li.length ≤ 8) (hix : ∀ x ∈ li, x.size ≤ 9223372036854775807) (hia : Arr w w.heap.size 1 Ai li.length (li.map Value.string))
    (ho : lo.length ≤ 8) (hox : ∀ x ∈ lo, x.size ≤ 9223372036854775807) (hoa : Arr w w.heap.size 1 Ao lo.length (lo.map Value.string)) :
    Calls Tryd.prog 27 #[.slice A l.length c, .slice Ai li.length ci, .slice Ao lo.length co] w (FilesOut w (filtL l li lo) (filtE l li lo)) := by
  obtain ⟨i1, gi0, gz0, gz1, gz2⟩ := info_parts infoFile
  have hC := Lib.hid (check_ref A c l w (by omega) hx ha)
  have HX := Lib.hid hx
  have HIX := Lib.hid hix
  have HOX := Lib.hid hox
  have HA := Lib.hid ha
  have HI := Lib.hid hia
  have HO := Lib.hid hoa
  unfold filtL
  rw [filtE_on]
  generalize checkE l = E at *
  clear hx hix hox ha hia hoa
  generalize hT : onE E li = T
  have HT : Hid (onE E (li.drop 0) = T) := Lib.hid hT
  clear hT
  generalize hU : onE T lo = U
  have HU : Hid (onE T (lo.drop 0) = U) := Lib.hid hU
  clear hU
  generalize hF : (if U = 0 then l.filter (keepB li lo) else []) = F
  have HF := Lib.hid hF
  clear hF
  go_enter Tryd.func27, Tryd.ntmps27
  go_wp2_with (go_at_call 20; (with_reducible refine hC.out.mono ?_); rintro e w1 ⟨rfl, hb1⟩)
  go_loopw [8, 9] (fun ve v wr => ∃ (k : Nat) (e : Int), k ≤ li.length ∧ v = .int .i64 k ∧ ve = .int .i64 e ∧ Hid (onE e (li.drop k) = T) ∧ Below w.heap.size w wr) (fun _ v _ => li.length - (intOf v).toNat)
  case atStart => exact ⟨0, E, Nat.zero_le _, rfl, rfl, HT, hb1⟩
  case round =>
    obtain ⟨k, e, hk, rfl, rfl, H, hB⟩ := hrel
    by_cases hgo : k < li.length ∧ e = 0
    · obtain ⟨hlt, rfl⟩ := hgo
      obtain ⟨x, hxk⟩ : ∃ x, li[k]? = some x := ⟨_, List.getElem?_eq_getElem hlt⟩
      obtain ⟨b, o, rfl, hb, hcell⟩ := HI.out.2 (by omega)
      have cc := (hB.cell (p := ⟨b, o + k, none⟩) hb).trans (hcell k (.string x) (by simp [hxk]))
      have hpt := fun W => pattern_ref x W (HIX.out x (List.mem_of_getElem? hxk))
      have hst := Lib.hid ((onE_step hxk).symm.trans H.out)
      have kl : (k : Int) < li.length := by omega
      clear hxk hcell H
      generalize patE x.data.toList = G at *
      have HM := Lib.hid hpt
      clear hpt
      go_wp2_with (go_at_call 22; with_reducible refine (HM.out _).mono ?_; rintro e w4 ⟨rfl, hb4⟩)
      go_roundw
      case rel => exact ⟨k + 1, G, by omega, by go_num, rfl, hst, below_on hB hb4⟩
      case measure => simp [intOf] <;> omega
    · have hee := (onE_exit hgo).symm.trans H.out
      subst hee
      have hex : (¬ (k : Int) < li.length) ∨ ((k : Int) < li.length ∧ (e == 0) = false) := by
        by_cases h : k < li.length
        · exact .inr ⟨by omega, by rw [beq_eq_false_iff_ne]; exact fun h2 => hgo ⟨h, h2⟩⟩
        · exact .inl (by omega)
      clear H hgo
      rcases hex with g1 | ⟨g1, g2⟩
      all_goals
        go_wp2
        go_loopw [8, 10] (fun ve v wr => ∃ (k : Nat) (e : Int), k ≤ lo.length ∧ v = .int .i64 k ∧ ve = .int .i64 e ∧ Hid (onE e (lo.drop k) = U) ∧ Below w.heap.size w wr) (fun _ v _ => lo.length - (intOf v).toNat)
        case atStart => exact ⟨0, e, Nat.zero_le _, rfl, rfl, HU, hB⟩
        case round =>
          obtain ⟨k, e, hk, rfl, rfl, H, hB⟩ := hrel
          by_cases hgo : k < lo.length ∧ e = 0
          · obtain ⟨hlt, rfl⟩ := hgo
            obtain ⟨x, hxk⟩ : ∃ x, lo[k]? = some x := ⟨_, List.getElem?_eq_getElem hlt⟩
            obtain ⟨b, o, rfl, hb, hcell⟩ := HO.out.2 (by omega)
            have cc := (hB.cell (p := ⟨b, o + k, none⟩) hb).trans (hcell k (.string x) (by simp [hxk]))
            have hpt := fun W => pattern_ref x W (HOX.out x (List.mem_of_getElem? hxk))
            have hst := Lib.hid ((onE_step hxk).symm.trans H.out)
            have kl : (k : Int) < lo.length := by omega
            clear hxk hcell H
            generalize patE x.data.toList = G at *
            have HM := Lib.hid hpt
            clear hpt
            go_wp2_with (go_at_call 22; with_reducible refine (HM.out _).mono ?_; rintro e w4 ⟨rfl, hb4⟩)
            go_roundw
            case rel => exact ⟨k + 1, G, by omega, by go_num, rfl, hst, below_on hB hb4⟩
            case measure => simp [intOf] <;> omega
          · have hee := (onE_exit hgo).symm.trans H.out
            subst hee
            by_cases he0 : e = 0
            · have hlk : ¬ (k : Int) < lo.length := fun h => hgo ⟨by omega, he0⟩
              subst he0
              have hF := HF.out
              rw [if_pos rfl] at hF
              have HF2 := Lib.hid hF
              clear H hgo hF HF
              go_wp2
              clear hlk
              go_loopw [11, 12] (fun vg v wr => ∃ (k : Nat), k ≤ l.length ∧ v = .int .i64 k ∧ wr.ownsRow w.heap.size 58 3 vg ((l.take k).filter (keepB li lo)).length (fcells ((l.take k).filter (keepB li lo))) ∧ Below w.heap.size w wr) (fun _ v _ => l.length - (intOf v).toNat)
              case atStart => exact ⟨0, Nat.zero_le _, rfl, World.ownsRow_nil _ _ _ _, hB⟩
              case round =>
                obtain ⟨k, hk, rfl, hown, hBn⟩ := hrel
                by_cases hlt : k < l.length
                · obtain ⟨f, hf⟩ : ∃ f, l[k]? = some f := ⟨_, List.getElem?_eq_getElem hlt⟩
                  obtain ⟨b, o, rfl, hb, hcell⟩ := HA.out.2 (by omega)
                  have HXB := Lib.hid (fun (W : World) (h : Below w.heap.size w W) => file_cells (fun i u hh => (h.cell (p := ⟨b, o + i, none⟩) hb).trans (hcell i u hh)) hf)
                  obtain ⟨c0, c1, c2⟩ := HXB.out _ hBn
                  have hfx := (HX.out f (List.mem_of_getElem? hf)).1
                  have hsn := Lib.hid (filter_snoc (g := keepB li lo) hf)
                  have hlen : ((l.take k).filter (keepB li lo)).length ≤ 60 := Nat.le_trans (List.length_filter_le _ _) (by rw [List.length_take]; omega)
                  have hfi := Lib.hid (fun W (hb : Below w.heap.size w W) => one_ref Ai ci li f.path W (by omega) HIX.out hfx ((HI.out.below hb).more hb.size))
                  have hfo := Lib.hid (fun W (hb : Below w.heap.size w W) => one_ref Ao co lo f.path W (by omega) HOX.out hfx ((HO.out.below hb).more hb.size))
                  have hBx : Below wr.heap.size wr wr := Below.refl _ _
                  have hkeep : keepB li lo f = ((li.isEmpty || oneB li f.path) && !oneB lo f.path) := rfl
                  have hno := fun (h : keepB li lo f = false) (W : World) (hb : Below wr.heap.size wr W) => show W.ownsRow w.heap.size 58 3 _ ((l.take (k + 1)).filter (keepB li lo)).length (fcells ((l.take (k + 1)).filter (keepB li lo))) by
                    rw [hsn.out, h, if_neg (by simp), List.append_nil]; exact own_below hown hb
                  have hyes := fun (h : keepB li lo f = true) => show (l.take (k + 1)).filter (keepB li lo) = (l.take k).filter (keepB li lo) ++ [f] by rw [hsn.out, h, if_pos rfl]
                  have kl : (k : Int) < l.length := by omega
                  clear hf hcell hsn
                  rw [hkeep] at hno hyes
                  clear hkeep
                  generalize oneB li f.path = bi at *
                  generalize oneB lo f.path = bo at *
                  by_cases he : li.length = 0
                  · have hie : li.isEmpty = true := by rw [List.isEmpty_iff]; exact List.eq_nil_of_length_eq_zero he
                    have t1 : ((li.length : Int) == 0) = true := by rw [beq_iff_eq]; omega
                    rw [hie] at hno hyes
                    clear hie he
                    cases bo
                    · have hy := Lib.hid (hyes rfl)
                      clear hno hyes
                      go_wp2_with (first
                        | (go_at_call 55; (with_reducible refine (hfo.out _ hBn).mono ?_); rintro e w5 ⟨rfl, hb5⟩; have hBn := below_on hBn hb5; have hBx := below_on hBx hb5; obtain ⟨k0, k1, k2⟩ := HXB.out _ hBn; have hs6 := hBn.size; have hown5 := own_below hown hBx)
                        | (at_builtin; refine wpList_push rfl _ _ _ rfl Tryd.underlying29 gi0 gz0 gz1 gz2 file_zero (by decide) hown5 rfl rfl rfl (file_one f) (by unfold maxLen; omega) (by omega) hs6 ?_; intro g6 cap6 w6 hown6 hgr6 hat6; have hBn := hBn.grown hgr6 hs6 (fun j hj => (hown5.lt j hj).1)))
                      go_roundw
                      case rel => exact ⟨k + 1, by omega, by go_num, by rw [hy.out, List.length_append, fcells_snoc]; exact hown6, hBn⟩
                      case measure => simp [intOf] <;> omega
                    · have hst := Lib.hid (hno (by simp))
                      clear hno hyes
                      go_wp2_with (go_at_call 55; (with_reducible refine (hfo.out _ hBn).mono ?_); rintro e w5 ⟨rfl, hb5⟩; have hBn := below_on hBn hb5; have hBx := below_on hBx hb5; obtain ⟨k0, k1, k2⟩ := HXB.out _ hBn; have hs6 := hBn.size; have hown5 := own_below hown hBx)
                      go_roundw
                      case rel => exact ⟨k + 1, by omega, by go_num, hst.out _ hBx, hBn⟩
                      case measure => simp [intOf] <;> omega
                  · have hie : li.isEmpty = false := by rw [List.isEmpty_eq_false_iff]; intro h; rw [h] at he; exact he rfl
                    have t1 : ((li.length : Int) == 0) = false := by rw [beq_eq_false_iff_ne]; omega
                    rw [hie] at hno hyes
                    clear hie he
                    cases bi
                    · have hst := Lib.hid (hno (by simp))
                      clear hno hyes
                      go_wp2_with (go_at_call 55; (with_reducible refine (hfi.out _ hBn).mono ?_); rintro e w4 ⟨rfl, hb4⟩; have hBn := below_on hBn hb4; have hBx := below_on hBx hb4; obtain ⟨k0, k1, k2⟩ := HXB.out _ hBn; have hs6 := hBn.size; have hown5 := own_below hown hBx)
                      go_roundw
                      case rel => exact ⟨k + 1, by omega, by go_num, hst.out _ hBx, hBn⟩
                      case measure => simp [intOf] <;> omega
                    · cases bo
                      · have hy := Lib.hid (hyes rfl)
                        clear hno hyes
                        go_wp2_with (first
                          | (go_at_call 55; (with_reducible refine (hfi.out _ hBn).mono ?_); rintro e w4 ⟨rfl, hb4⟩; have hBn := below_on hBn hb4; have hBx := below_on hBx hb4; obtain ⟨k0, k1, k2⟩ := HXB.out _ hBn; have hs6 := hBn.size; have hown5 := own_below hown hBx)
                          | (go_at_call 55; (with_reducible refine (hfo.out _ hBn).mono ?_); rintro e w5 ⟨rfl, hb5⟩; have hBn := below_on hBn hb5; have hBx := below_on hBx hb5; obtain ⟨k0, k1, k2⟩ := HXB.out _ hBn; have hs6 := hBn.size; have hown5 := own_below hown hBx)
                          | (at_builtin; refine wpList_push rfl _ _ _ rfl Tryd.underlying29 gi0 gz0 gz1 gz2 file_zero (by decide) hown5 rfl rfl rfl (file_one f) (by unfold maxLen; omega) (by omega) hs6 ?_; intro g6 cap6 w6 hown6 hgr6 hat6; have hBn := hBn.grown hgr6 hs6 (fun j hj => (hown5.lt j hj).1)))
                        go_roundw
                        case rel => exact ⟨k + 1, by omega, by go_num, by rw [hy.out, List.length_append, fcells_snoc]; exact hown6, hBn⟩
                        case measure => simp [intOf] <;> omega
                      · have hst := Lib.hid (hno (by simp))
                        clear hno hyes
                        go_wp2_with (first
                          | (go_at_call 55; (with_reducible refine (hfi.out _ hBn).mono ?_); rintro e w4 ⟨rfl, hb4⟩; have hBn := below_on hBn hb4; have hBx := below_on hBx hb4; obtain ⟨k0, k1, k2⟩ := HXB.out _ hBn; have hs6 := hBn.size; have hown5 := own_below hown hBx)
                          | (go_at_call 55; (with_reducible refine (hfo.out _ hBn).mono ?_); rintro e w5 ⟨rfl, hb5⟩; have hBn := below_on hBn hb5; have hBx := below_on hBx hb5; obtain ⟨k0, k1, k2⟩ := HXB.out _ hBn; have hs6 := hBn.size; have hown5 := own_below hown hBx))
                        go_roundw
                        case rel => exact ⟨k + 1, by omega, by go_num, hst.out _ hBx, hBn⟩
                        case measure => simp [intOf] <;> omega
                · have he : l.take k = l := List.take_of_length_le (by omega)
                  rw [he, HF2.out] at hown
                  obtain ⟨A', c', rfl, hcap, ha', hfr⟩ := own_arr hown
                  have HA' := Lib.hid ha'
                  have HFR := Lib.hid hfr
                  clear hown ha' hfr
                  go_wp2
                  go_ret2
                  exact ⟨A', c', rfl, HA'.out, HFR.out, hcap, hBn⟩
            · have hE' : (e == 0) = false := by rw [beq_eq_false_iff_ne]; exact he0
              have hF := HF.out
              rw [if_neg he0] at hF
              subst hF
              clear H hgo he0
              by_cases hlk : (k : Int) < lo.length
              all_goals
                go_wp2
                go_ret2
                exact ⟨none, 0, rfl, Arr.nil _ _ _ _, Fresh.none _, Nat.le_refl _, hB⟩
end Go.Proofs.YtjhbmcgaehpadaaDoor
