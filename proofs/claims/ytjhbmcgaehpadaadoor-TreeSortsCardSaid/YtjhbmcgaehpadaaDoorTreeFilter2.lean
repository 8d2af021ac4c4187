/- The walk through Filter. -/
import Derived.Test.YtjhbmcgaehpadaaDoorTreeFilter1
namespace Go.Proofs.YtjhbmcgaehpadaaDoor
open Go.RowKit
set_option linter.unusedVariables false

/-- What is wrong with some patterns, the first of them. -/
def patsE : List ByteArray → Int
  | [] => 0
  | p :: r => if patE p.data.toList = 0 then patsE r else patE p.data.toList
theorem patsE_step {l : List ByteArray} {k : Nat} {x : ByteArray} (h : l[k]? = some x) (h0 : patE x.data.toList = 0) : patsE (l.drop k) = patsE (l.drop (k + 1)) := by rw [drop_head h, patsE, if_pos h0]
theorem patsE_stop {l : List ByteArray} {k : Nat} {x : ByteArray} (h : l[k]? = some x) (h0 : patE x.data.toList ≠ 0) : patsE (l.drop k) = patE x.data.toList := by rw [drop_head h, patsE, if_neg h0]
theorem patsE_end {l : List ByteArray} {k : Nat} (h : l.length ≤ k) : patsE (l.drop k) = 0 := by rw [List.drop_eq_nil_of_le h, patsE]
theorem patsE_app : ∀ l m : List ByteArray, patsE (l ++ m) = if patsE l = 0 then patsE m else patsE l
  | [], m => by rw [List.nil_append, patsE, if_pos rfl]
  | p :: l, m => by
    rw [List.cons_append, patsE, patsE]
    by_cases h : patE p.data.toList = 0
    · rw [if_pos h, if_pos h, patsE_app l m]
    · rw [if_neg h, if_neg h, if_neg h]
def keepB (i o : List ByteArray) (f : FileD) : Bool := (i.isEmpty || oneB i f.path) && !oneB o f.path
def filtE (l : List FileD) (i o : List ByteArray) : Int := if checkE l = 0 then patsE (i ++ o) else checkE l
def filtL (l : List FileD) (i o : List ByteArray) : List FileD := if filtE l i o = 0 then l.filter (keepB i o) else []
/-- A new list of files, and a number. -/
def FilesOut (w : World) (l : List FileD) (E : Int) (e : Ending) (w' : World) : Prop := ∃ A c, e = .returned (.tuple #[.slice A l.length c, .int .i64 E]) ∧ Arr w' w'.heap.size 3 A l.length (fcells l) ∧ Fresh w.heap.size A ∧ l.length ≤ c ∧ Below w.heap.size w w'
theorem infoFile : (Tryd.prog.info? 58).map (fun i => (i.zero, i.size, i.bytes)) = some (some (.agg #[.string ⟨#[]⟩, .int .i64 0, .string ⟨#[]⟩]), 3, 40) := by kernel_rfl
theorem file_one (f : FileD) : ∀ u ∈ (#[Value.string f.path, .int .i64 f.mode, .string f.data] : Array Value).toList, u.oneCell' = true := by simp [Value.oneCell']
theorem file_zero : (Value.agg #[.string ⟨#[]⟩, .int .i64 0, .string ⟨#[]⟩]).cells.size = 3 := rfl
theorem filter_snoc {l : List FileD} {k : Nat} {f : FileD} {g : FileD → Bool} (h : l[k]? = some f) : (l.take (k + 1)).filter g = (l.take k).filter g ++ if g f then [f] else [] := by
  rw [take_snoc h, List.filter_append]
  congr 1
  by_cases hg : g f
  · simp [hg]
  · simp [hg]
theorem fcells_snoc (l : List FileD) (f : FileD) : fcells (l ++ [f]) = fcells l ++ (#[Value.string f.path, .int .i64 f.mode, .string f.data] : Array Value).toList := by rw [fcells_app]; rfl
theorem str_cells (L : List ByteArray) : ∀ u ∈ L.map Value.string, u.oneCell' = true := by
  intro u hu
  obtain ⟨x, _, rfl⟩ := List.mem_map.1 hu
  rfl

theorem box_cells {wr W : World} {t : TypeId} {f : FileD} (hbox : Blk (wr.alloc (.cells #[.string f.path, .int .i64 f.mode, .string f.data] t)) wr.heap.size t #[.string f.path, .int .i64 f.mode, .string f.data])
    (h : Below (wr.alloc (.cells #[.string f.path, .int .i64 f.mode, .string f.data] t)).heap.size (wr.alloc (.cells #[.string f.path, .int .i64 f.mode, .string f.data] t)) W) :
    W.cell? ⟨wr.heap.size, 0, none⟩ = some (.string f.path) ∧ W.cell? ⟨wr.heap.size, 1, none⟩ = some (.int .i64 f.mode) ∧ W.cell? ⟨wr.heap.size, 2, none⟩ = some (.string f.data) :=
  ⟨(h.cell (p := ⟨wr.heap.size, 0, none⟩) hbox.lt).trans (hbox.cell 0), (h.cell (p := ⟨wr.heap.size, 1, none⟩) hbox.lt).trans (hbox.cell 1), (h.cell (p := ⟨wr.heap.size, 2, none⟩) hbox.lt).trans (hbox.cell 2)⟩

set_option maxHeartbeats 2000000 in
set_option maxRecDepth 100000 in
theorem filter_any (A : Option Addr) (c : Nat) (l : List FileD) (Ai : Option Addr) (ci : Nat) (li : List ByteArray) (Ao : Option Addr) (co : Nat) (lo : List ByteArray) (w : World)
    (hz : l.length ≤ 60) (hx : ∀ f ∈ l, FOk f) (ha : Arr w w.heap.size 3 A l.length (fcells l))
    (hi : li.length ≤ 8) (hix : ∀ x ∈ li, x.size ≤ 9223372036854775807) (hia : Arr w w.heap.size 1 Ai li.length (li.map Value.string))
    (ho : lo.length ≤ 8) (hox : ∀ x ∈ lo, x.size ≤ 9223372036854775807) (hoa : Arr w w.heap.size 1 Ao lo.length (lo.map Value.string)) (hm : Ml w) :
    Calls Tryd.prog 26 #[.slice A l.length c, .slice Ai li.length ci, .slice Ao lo.length co] w (FilesOut w (filtL l li lo) (filtE l li lo)) := by
  obtain ⟨i0, hi0, hz0, hz1, hz2⟩ := info_parts infoStr
  obtain ⟨i1, gi0, gz0, gz1, gz2⟩ := info_parts infoFile
  have hC := Lib.hid (check_any A c l w (by omega) hx ha hm)
  have HX := Lib.hid hx
  have HIX := Lib.hid hix
  have HOX := Lib.hid hox
  have HA := Lib.hid ha
  have HI := Lib.hid hia
  have HO := Lib.hid hoa
  unfold filtL filtE
  generalize checkE l = E at *
  clear hx hix hox ha hia hoa
  by_cases hE : E = 0
  · subst hE
    rw [if_pos rfl]
    generalize hR : patsE (li ++ lo) = R
    have HR : Hid (patsE ((li ++ lo).drop 0) = R) := Lib.hid hR
    clear hR
    obtain ⟨P, hP⟩ : ∃ P, P = li ++ lo := ⟨_, rfl⟩
    have hPx : Hid (∀ x ∈ P, x.size ≤ 9223372036854775807) := Lib.hid (by
      intro x hx
      rw [hP] at hx
      rcases List.mem_append.1 hx with h | h
      · exact HIX.out x h
      · exact HOX.out x h)
    have hPl : P.length ≤ 16 := by rw [hP, List.length_append]; omega
    rw [← hP] at HR
    have HPP : Hid (P.length = 0 + li.length + lo.length ∧ P.map Value.string = ([] ++ li.map Value.string) ++ lo.map Value.string) := Lib.hid (by rw [hP]; simp)
    clear hP
    generalize hF : (if R = 0 then l.filter (keepB li lo) else []) = F
    have HF := Lib.hid hF
    clear hF
    have hB0 := Below.refl w.heap.size w
    go_enter Tryd.func26, Tryd.ntmps26
    go_wp2_with (first
      | (go_at_call 19; (with_reducible refine hC.out.mono ?_); rintro e w1 ⟨rfl, hb1⟩; have hs1 := hb1.size; have hown0 := own_empty w1 9 1 w.heap.size hs1; have hai := (HI.out.below hb1).alloc hs1 (.cells #[] 9); have hB1 := hb1.alloc hs1 (.cells #[] 9))
      | (at_builtin; refine wpList_append_arr _ rfl _ _ 33 rfl Tryd.underlying33 hi0 hz0 hz1 hz2 rfl (by decide) hown0 rfl rfl hai (str_cells li) (by unfold maxLen; omega) (by omega) hB1.size ?_; intro v2 w2 hown2 hgr2 hat2; have hB2 := hB1.grown hgr2 hB1.size (fun j hj => (hown0.lt j hj).1); have hao := HO.out.below hB2)
      | (at_builtin; refine wpList_append_arr _ rfl _ _ 33 rfl Tryd.underlying33 hi0 hz0 hz1 hz2 rfl (by decide) hown2 rfl rfl hao (str_cells lo) (by unfold maxLen; omega) (by omega) hB2.size ?_; intro v3 w3 hown3 hgr3 hat3; have hB3 := hB2.grown hgr3 hB2.size (fun j hj => (hown2.lt j hj).1); rw [← HPP.out.1, ← HPP.out.2] at hown3; obtain ⟨A3, c3, rfl, hcap3, ha3, hfr3⟩ := own_arr hown3; have HA3 := Lib.hid ha3; clear ha3))
    clear hai hao hown0 hown2 hown3 hgr2 hgr3 hat2 hat3 hfr3
    go_loopw [26] (fun v wr => ∃ (k : Nat), k ≤ P.length ∧ v = .int .i64 k ∧ Hid (patsE (P.drop k) = R) ∧ Below w3.heap.size w3 wr) (fun v _ => P.length - (intOf v).toNat)
    case atStart => exact ⟨0, Nat.zero_le _, rfl, HR, Below.refl _ _⟩
    case round =>
      obtain ⟨k, hk, rfl, H, hB⟩ := hrel
      have hB4 := below_on hB3 hB
      by_cases hlt : k < P.length
      · obtain ⟨x, hxk⟩ : ∃ x, P[k]? = some x := ⟨_, List.getElem?_eq_getElem hlt⟩
        obtain ⟨b, o, rfl, hb, hcell⟩ := HA3.out.2 (by omega)
        have cc := (hB.cell (p := ⟨b, o + k, none⟩) hb).trans (hcell k (.string x) (by simp [hxk]))
        have hxs := hPx.out x (List.mem_of_getElem? hxk)
        have hpt := fun W h => pattern_any x W hxs h
        have h1 := fun h => (patsE_step hxk h).symm.trans H.out
        have h2 := fun h => (patsE_stop hxk h).symm.trans H.out
        clear hxk hcell H
        generalize patE x.data.toList = G at *
        have HM := Lib.hid hpt
        have hmr := hm.on hB4
        by_cases hG : G = 0
        · have hst := Lib.hid (h1 hG)
          subst hG
          clear h1 h2 hpt
          go_wp2_with (go_at_call 21; with_reducible refine (HM.out _ hmr).mono ?_; rintro e w4 ⟨rfl, hb4⟩)
          go_roundw
          case rel => exact ⟨k + 1, by omega, by go_num, hst, below_on hB hb4⟩
          case measure => simp [intOf] <;> omega
        · have hr := h2 hG
          have hG' : (G == 0) = false := by rw [beq_eq_false_iff_ne]; exact hG
          have hF := HF.out
          rw [if_neg (by rw [← hr]; exact hG)] at hF
          subst hF
          subst hr
          clear h1 h2 hpt hG
          go_wp2_with (go_at_call 21; with_reducible refine (HM.out _ hmr).mono ?_; rintro e w4 ⟨rfl, hb4⟩)
          go_ret2
          exact ⟨none, 0, rfl, Arr.nil _ _ _ _, Fresh.none _, Nat.le_refl _, below_on hB4 hb4⟩
      · have hr := (patsE_end (l := P) (k := k) (by omega)).symm.trans H.out
        subst hr
        have hF := HF.out
        rw [if_pos rfl] at hF
        have HF2 := Lib.hid hF
        clear H hF HF
        go_wp2
        go_loopw [12, 38] (fun vg v wr => ∃ (k : Nat), k ≤ l.length ∧ v = .int .i64 k ∧ wr.ownsRow w.heap.size 58 3 vg ((l.take k).filter (keepB li lo)).length (fcells ((l.take k).filter (keepB li lo))) ∧ Below w.heap.size w wr) (fun _ v _ => l.length - (intOf v).toNat)
        case atStart => exact ⟨0, Nat.zero_le _, rfl, World.ownsRow_nil _ _ _ _, hB4⟩
        case round =>
          obtain ⟨k, hk, rfl, hown, hB5⟩ := hrel
          have hs5 := hB5.size
          by_cases hlt : k < l.length
          · obtain ⟨f, hf⟩ : ∃ f, l[k]? = some f := ⟨_, List.getElem?_eq_getElem hlt⟩
            obtain ⟨b, o, rfl, hb, hcell⟩ := HA.out.2 (by omega)
            obtain ⟨c0, c1, c2⟩ := file_cells (fun i u h => (hB5.cell (p := ⟨b, o + i, none⟩) hb).trans (hcell i u h)) hf
            have hfx := (HX.out f (List.mem_of_getElem? hf)).1
            have hsn := Lib.hid (filter_snoc (g := keepB li lo) hf)
            have hlen : ((l.take k).filter (keepB li lo)).length ≤ 60 := Nat.le_trans (List.length_filter_le _ _) (by rw [List.length_take]; omega)
            have hfi := Lib.hid (fun W (hb : Below w.heap.size w W) => fits_any Ai ci li f.path W (by omega) HIX.out hfx ((HI.out.below hb).more hb.size) (hm.on hb))
            have hfo := Lib.hid (fun W (hb : Below w.heap.size w W) => fits_any Ao co lo f.path W (by omega) HOX.out hfx ((HO.out.below hb).more hb.size) (hm.on hb))
            have hbox := Blk.new wr 58 #[.string f.path, .int .i64 f.mode, .string f.data]
            have hBn := hB5.alloc hs5 (.cells #[.string f.path, .int .i64 f.mode, .string f.data] 58)
            have hownb := hown.alloc (.cells #[.string f.path, .int .i64 f.mode, .string f.data] 58)
            have hBx0 : Below (wr.alloc (.cells #[.string f.path, .int .i64 f.mode, .string f.data] 58)).heap.size (wr.alloc (.cells #[.string f.path, .int .i64 f.mode, .string f.data] 58)) (wr.alloc (.cells #[.string f.path, .int .i64 f.mode, .string f.data] 58)) := Below.refl _ _
            have HXB := Lib.hid (fun (W : World) (h : Below (wr.alloc (.cells #[.string f.path, .int .i64 f.mode, .string f.data] 58)).heap.size (wr.alloc (.cells #[.string f.path, .int .i64 f.mode, .string f.data] 58)) W) => box_cells hbox h)
            have hkeep : keepB li lo f = ((li.isEmpty || oneB li f.path) && !oneB lo f.path) := rfl
            have hno := fun (h : keepB li lo f = false) (W : World) (hb : Below (wr.alloc (.cells #[.string f.path, .int .i64 f.mode, .string f.data] 58)).heap.size (wr.alloc (.cells #[.string f.path, .int .i64 f.mode, .string f.data] 58)) W) => show W.ownsRow w.heap.size 58 3 _ ((l.take (k + 1)).filter (keepB li lo)).length (fcells ((l.take (k + 1)).filter (keepB li lo))) by
              rw [hsn.out, h, if_neg (by simp), List.append_nil]; exact own_below hownb hb
            have hyes := fun (h : keepB li lo f = true) => show (l.take (k + 1)).filter (keepB li lo) = (l.take k).filter (keepB li lo) ++ [f] by rw [hsn.out, h, if_pos rfl]
            clear hf hcell hsn hbox
            rw [hkeep] at hno hyes
            clear hkeep
            generalize oneB li f.path = bi at *
            generalize oneB lo f.path = bo at *
            by_cases he : li.length = 0
            · have hie : li.isEmpty = true := by rw [List.isEmpty_iff]; exact List.eq_nil_of_length_eq_zero he
              have t1 : ((li.length : Int) == 0) = true := by rw [beq_iff_eq]; omega
              rw [hie] at hno hyes
              clear hie he
              cases bo
              · have hy := Lib.hid (hyes rfl)
                clear hno hyes
                go_wp2_with (first
                  | (go_at_call 54; (with_reducible refine (hfo.out _ hBn).mono ?_); rintro e w5 ⟨rfl, hb5⟩; have hBn := below_on hBn hb5; have hBx := hb5; obtain ⟨k0, k1, k2⟩ := HXB.out _ hBx; have hown5 := own_below hownb hBx; have hs6 := hBn.size)
                  | (at_builtin; refine wpList_push rfl _ _ _ rfl Tryd.underlying29 gi0 gz0 gz1 gz2 file_zero (by decide) hown5 rfl rfl rfl (file_one f) (by unfold maxLen; omega) (by omega) hs6 ?_; intro g6 cap6 w6 hown6 hgr6 hat6; have hBn := hBn.grown hgr6 hs6 (fun j hj => (hown5.lt j hj).1)))
                go_roundw
                case rel => exact ⟨k + 1, by omega, by go_num, by rw [hy.out, List.length_append, fcells_snoc]; exact hown6, hBn⟩
                case measure => simp [intOf] <;> omega
              · have hst := Lib.hid (hno (by simp))
                clear hno hyes
                go_wp2_with (go_at_call 54; (with_reducible refine (hfo.out _ hBn).mono ?_); rintro e w4 ⟨rfl, hb4⟩; have hBn := below_on hBn hb4)
                go_roundw
                case rel => exact ⟨k + 1, by omega, by go_num, hst.out _ hb4, hBn⟩
                case measure => simp [intOf] <;> omega
            · have hie : li.isEmpty = false := by rw [List.isEmpty_eq_false_iff]; intro h; rw [h] at he; exact he rfl
              have t1 : ((li.length : Int) == 0) = false := by rw [beq_eq_false_iff_ne]; omega
              rw [hie] at hno hyes
              clear hie he
              cases bi
              · have hst := Lib.hid (hno (by simp))
                clear hno hyes
                go_wp2_with (go_at_call 54; (with_reducible refine (hfi.out _ hBn).mono ?_); rintro e w4 ⟨rfl, hb4⟩; have hBn := below_on hBn hb4; have hBx := hb4; obtain ⟨k0, k1, k2⟩ := HXB.out _ hBx)
                go_roundw
                case rel => exact ⟨k + 1, by omega, by go_num, hst.out _ hBx, hBn⟩
                case measure => simp [intOf] <;> omega
              · cases bo
                · have hy := Lib.hid (hyes rfl)
                  clear hno hyes
                  go_wp2_with (first
                    | (go_at_call 54; (with_reducible refine (hfi.out _ hBn).mono ?_); rintro e w4 ⟨rfl, hb4⟩; have hBn := below_on hBn hb4; have hBx := hb4; obtain ⟨k0, k1, k2⟩ := HXB.out _ hBx)
                    | (go_at_call 54; (with_reducible refine (hfo.out _ hBn).mono ?_); rintro e w5 ⟨rfl, hb5⟩; have hBn := below_on hBn hb5; have hBx := below_on hBx hb5; obtain ⟨k0, k1, k2⟩ := HXB.out _ hBx; have hown5 := own_below hownb hBx; have hs6 := hBn.size)
                    | (at_builtin; refine wpList_push rfl _ _ _ rfl Tryd.underlying29 gi0 gz0 gz1 gz2 file_zero (by decide) hown5 rfl rfl rfl (file_one f) (by unfold maxLen; omega) (by omega) hs6 ?_; intro g6 cap6 w6 hown6 hgr6 hat6; have hBn := hBn.grown hgr6 hs6 (fun j hj => (hown5.lt j hj).1)))
                  go_roundw
                  case rel => exact ⟨k + 1, by omega, by go_num, by rw [hy.out, List.length_append, fcells_snoc]; exact hown6, hBn⟩
                  case measure => simp [intOf] <;> omega
                · have hst := Lib.hid (hno (by simp))
                  clear hno hyes
                  go_wp2_with (first
                    | (go_at_call 54; (with_reducible refine (hfi.out _ hBn).mono ?_); rintro e w4 ⟨rfl, hb4⟩; have hBn := below_on hBn hb4; have hBx := hb4; obtain ⟨k0, k1, k2⟩ := HXB.out _ hBx)
                    | (go_at_call 54; (with_reducible refine (hfo.out _ hBn).mono ?_); rintro e w5 ⟨rfl, hb5⟩; have hBn := below_on hBn hb5; have hBx := below_on hBx hb5; obtain ⟨k0, k1, k2⟩ := HXB.out _ hBx; have hown5 := own_below hownb hBx; have hs6 := hBn.size))
                  go_roundw
                  case rel => exact ⟨k + 1, by omega, by go_num, hst.out _ hBx, hBn⟩
                  case measure => simp [intOf] <;> omega
          · have he : l.take k = l := List.take_of_length_le (by omega)
            rw [he, HF2.out] at hown
            obtain ⟨A', c', rfl, hcap, ha', hfr⟩ := own_arr hown
            have HA' := Lib.hid ha'
            have HFR := Lib.hid hfr
            clear hown ha' hfr
            go_wp2
            go_ret2
            exact ⟨A', c', rfl, HA'.out, HFR.out, hcap, hB5⟩
  · have hE' : (E == 0) = false := by rw [beq_eq_false_iff_ne]; exact hE
    rw [if_neg hE, if_neg hE]
    go_enter Tryd.func26, Tryd.ntmps26
    go_wp2_with (go_at_call 19; (with_reducible refine hC.out.mono ?_); rintro e w1 ⟨rfl, hb1⟩)
    go_ret2
    exact ⟨none, 0, rfl, Arr.nil _ _ _ _, Fresh.none _, Nat.le_refl _, hb1⟩
end Go.Proofs.YtjhbmcgaehpadaaDoor
