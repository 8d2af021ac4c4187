/- Chapter 22: the walk through Holds. -/
import Derived.Test.YtakdngcgjahafaaDoorSpK
import Derived.Deep.Cut
import Derived.Deep.CutRange
import Derived.Deep.RegionHeld3
import Derived.Test.YtakdngcgjahafaaDoorCls
namespace Go.Proofs.YtakdngcgjahafaaDoor
open Go.RowKit
set_option linter.unusedVariables false

theorem SAMB1 {p : Prop} {W : World} {x : Ending} {w' : World} (h : TellsB p W x w') (hp : p) : x = .returned (.bool true) ∧ Below W.heap.size W w' := by
  obtain ⟨b, h1, h2, h3⟩ := h
  exact ⟨by rw [h1, h2.2 hp], h3⟩
theorem SAMB0 {p : Prop} {W : World} {x : Ending} {w' : World} (h : TellsB p W x w') (hp : ¬ p) : x = .returned (.bool false) ∧ Below W.heap.size W w' := by
  obtain ⟨b, h1, h2, h3⟩ := h
  have hb : b = false := by
    cases hb : b
    · rfl
    · exact absurd (h2.1 hb) hp
  exact ⟨by rw [h1, hb], h3⟩
theorem good_next {g : LogD} {d : List Bool} {j : Nat} (h1 : GoodL g (300 - undone d + 1)) (h2 : undone (d.set j true) + 1 = undone d) (h3 : undone d ≤ 300) : GoodL g (300 - undone (d.set j true)) :=
  ⟨h1.f0, h1.f1, Nat.le_trans h1.n (by omega), h1.s⟩
theorem Fnd.farG {w : World} {b F D G : Nat} {V U : Value} {l : List EvD} {d : List Bool} {left : Int} {o : List Nat} {cs : Array Value} (h : Fnd w b F D V l d left U o) (hG : Blk w G 25 cs) (u v : Value) : Fnd ((w.setCell ⟨G, 0, none⟩ u).setCell ⟨G, 1, none⟩ v) b F D V l d left U o := by
  have h1 := Blk.ne_ h.blk hG (by decide)
  have h2 := Blk.ne_ h.row hG (by decide)
  have h3 := own_blk_ne h.ord hG (by decide)
  have hG2 := hG.set_ 0 u
  exact ⟨(h.blk.far (p := ⟨G, 0, none⟩) h1 _).far (p := ⟨G, 1, none⟩) h1 _, (h.row.far (p := ⟨G, 0, none⟩) h2 _).far (p := ⟨G, 1, none⟩) h2 _, own_setbox (own_setbox h.ord h3) h3, (h.his.setFar hG (by decide) (by decide) _).setFar hG2 (by decide) (by decide) _, h.bF, h.bD, h.len⟩
def HoldR (w : World) (F D : Nat) (VN : Value) (l : List EvD) (G : Nat) (s : List Int) (R : Bool) (v : Value) (wr : World) : Prop := ∃ (k : Nat) (d : List Bool) (g : LogD) (V3 : Value), k ≤ s.length ∧ v = .int .i64 k ∧
  Hid (holdsGo tells l (s.drop k) d g = R) ∧ Hid (Fnd wr w.heap.size F D VN (l.map noM) d 0 (.slice none 0 0) []) ∧ Hid (Blk wr G 25 #[.int .i64 g.floor, V3]) ∧ Hid (wr.ownsRow 0 9 1 V3 g.trees.length (g.trees.map Value.string)) ∧
  Hid (GoodL g (300 - undone d)) ∧ Hid (Below w.heap.size w wr)
/-- What Holds has made. -/
def HNew (w : World) (l : List EvD) (u : Value) (wx : World) : Prop := ∃ F D A2 c2, u = .pointer (some ⟨F, 0, none⟩) ∧ Fnd wx w.heap.size F D (.slice A2 l.length c2) (l.map noM) (List.replicate l.length false) 0 (.slice none 0 0) [] ∧ Below w.heap.size w wx
set_option maxHeartbeats 8000000 in
set_option maxRecDepth 100000 in
theorem holds_any (w : World) (hm : Ml w) {V : Value} {l : List EvD} (hh : Hist w V l) (hE : ∀ e ∈ l, EFit e) (hl : l.length ≤ 1048576) (SA : Option Addr) (SC : Nat) (s : List Int) (hs : s.length ≤ 9223372036854775807) (hsa : Arr w w.heap.size 1 SA s.length (s.map fun (i : Int) => Value.int .i64 i)) :
    Calls Tryd.prog 27 #[V, .slice SA s.length SC] w fun e w' => e = .returned (.bool (holdsP l s)) ∧ Below w.heap.size w w' := by
  obtain ⟨A, c, rfl, hcap, ha, _⟩ := own_arr hh.row
  have RG := Lib.hid (evs_right A c l w (by omega) ha)
  cases hrr : rightP l with
  | false =>
    rw [show holdsP l s = false by unfold holdsP; rw [hrr]; rfl]
    rw [hrr] at RG
    clear ha hrr hsa
    go_enter Tryd.func27, Tryd.ntmps27
    go_wp2_with (go_at_call 28; (with_reducible refine (RG.out).mono ?_); rintro x w1 ⟨rfl, hb1⟩)
    go_ret
    exact ⟨rfl, hb1⟩
  | true =>
    obtain ⟨R, hR⟩ : ∃ R, R = holdsGo tells l s (List.replicate l.length false) ⟨0, []⟩ := ⟨_, rfl⟩
    rw [show holdsP l s = R by unfold holdsP; rw [hrr, hR]; rfl]
    have hl2 := right_len hrr
    rw [hrr] at RG
    have HH := Lib.hid hh
    have HE := Lib.hid hE
    have HS := Lib.hid hsa
    have HM := Lib.hid hm
    have HA := Lib.hid ha
    have UN := Lib.hid (fun X (h : Below w.heap.size w X) => unmark_any A c l X (by omega) ((ha.below h).more h.size))
    have hmk := made_done l.length hl2
    have HR : Hid (holdsGo tells l (s.drop 0) (List.replicate l.length false) ⟨0, []⟩ = R) := Lib.hid (by rw [hR]; rfl)
    clear ha hrr hsa hR hh hE hm
    go_enter Tryd.func27, Tryd.ntmps27
    go_wp2_with (go_at_call 28; (with_reducible refine (RG.out).mono ?_); rintro x w1 ⟨rfl, hb1⟩; have HB1 := Lib.hid hb1; have HB1a := Lib.hid (hb1.alloc hb1.size (.cells (drow (List.replicate l.length false)) 4)).drew; clear hb1)
    go_cut [5] from 12 to 97 (fun u wx => HNew w l u wx)
    case first =>
      go_region_with (first | (go_at_call 40; (with_reducible refine (UN.out w1.drew HB1.out.drew).mono ?_); rintro x w2 ⟨V2, rfl, hv2, hb2⟩; obtain ⟨A2, c2, rfl, _, _, _⟩ := own_arr hv2; have hfn := (fnd_new (noM_len l) (Blk.new w2 4 (drow (List.replicate l.length false))) (Nat.le_trans HB1.out.size hb2.size) (by rw [World.size_alloc]; exact Nat.le_succ_of_le (Nat.le_trans HB1.out.size hb2.size)) (hist_noM HH.out ((below_on HB1.out.drew hb2).alloc (below_on HB1.out.drew hb2).size (.cells (drow (List.replicate l.length false)) 4)) (own_below hv2 ((Below.refl _ w2).alloc (Nat.le_refl _) (.cells (drow (List.replicate l.length false)) 4)))) 0); rw [World.size_alloc] at hfn; have HFN := Lib.hid hfn; clear hfn; have HB3 := Lib.hid (((below_on HB1.out.drew hb2).alloc (below_on HB1.out.drew hb2).size (.cells (drow (List.replicate l.length false)) 4)).alloc (by simp; exact Nat.le_succ_of_le (below_on HB1.out.drew hb2).size) (.cells #[.slice A2 l.length c2, .slice (some ⟨w2.heap.size, 0, none⟩) l.length l.length, .int .i64 0, .slice none 0 0] 77)); clear hv2) | (go_at_call 40; (with_reducible refine (UN.out (w1.alloc (.cells (drow (List.replicate l.length false)) 4)).drew HB1a.out).mono ?_); rintro x w2 ⟨V2, rfl, hv2, hb2⟩; obtain ⟨A2, c2, rfl, _, _, _⟩ := own_arr hv2; have HFN := Lib.hid (fnd_new (noM_len l) ((Blk.new w1 4 (drow (List.replicate l.length false))).drew.below hb2 (by show _ < (w1.alloc _).heap.size; simp)) HB1.out.drew.size (Nat.le_trans HB1a.out.size hb2.size) (hist_noM HH.out (below_on HB1a.out hb2) hv2) 0); have HB3 := Lib.hid ((below_on HB1a.out hb2).alloc (below_on HB1a.out hb2).size (.cells #[.slice A2 l.length c2, .slice (some ⟨w1.heap.size, 0, none⟩) l.length l.length, .int .i64 0, .slice none 0 0] 77)); clear hv2) | (fail))
      all_goals (try go_wp2_with fail)
      all_goals go_meet
      all_goals exact ⟨_, _, _, _, rfl, HFN.out, HB3.out⟩
    case rest =>
      obtain ⟨F, D, A2, c2, rfl, hfn, hbn⟩ := hcut
      have hlb : Blk (wc.alloc (.cells #[Value.int .i64 0, .slice none 0 0] 25)) wc.heap.size 25 #[.int .i64 0, .slice none 0 0] := Blk.new wc _ _
      have HLB := Lib.hid hlb
      have HF0 := Lib.hid (hfn.below ((Below.refl _ wc).alloc (Nat.le_refl _) (.cells #[Value.int .i64 0, .slice none 0 0] 25)))
      have HBN := Lib.hid (hbn.alloc hbn.size (.cells #[Value.int .i64 0, .slice none 0 0] 25))
      have HG0 : Hid (GoodL ⟨0, []⟩ (300 - undone (List.replicate l.length false))) := Lib.hid ⟨by decide, by decide, by simp, by simp⟩
      have HGW := Lib.hid hbn.size
      clear hfn hbn hlb
      go_wp2
      generalize hG : wc.heap.size = G at *
      generalize wc.alloc (.cells #[Value.int .i64 0, .slice none 0 0] 25) = w4 at *
      clear hG
      go_loopw [25] (fun v wr => HoldR w F D (.slice A2 l.length c2) l G s R v wr) (fun v _ => s.length - (intOf v).toNat)
      case atStart => unfold HoldR; exact ⟨0, List.replicate l.length false, ⟨0, []⟩, _, Nat.zero_le _, rfl, HR, HF0, HLB, Lib.hid (World.ownsRow_nil _ _ _ _), HG0, HBN⟩
      case round =>
        unfold HoldR at hrel
        obtain ⟨k, d, g, V3, hk, rfl, HT, HFi, HGi, HVi, HGG, HBi⟩ := hrel
        by_cases hlt : k < s.length
        · obtain ⟨i, hi⟩ : ∃ i, s[k]? = some i := ⟨_, List.getElem?_eq_getElem hlt⟩
          obtain ⟨sb, so, rfl, hsb, hscell⟩ := HS.out.2 (by omega)
          have s0 : wr.cell? ⟨sb, so + k, none⟩ = some (.int .i64 i) := (HBi.out.cell (p := ⟨sb, so + k, none⟩) hsb).trans (hscell k _ (by rw [List.getElem?_map, hi]; rfl))
          have kl : (k : Int) < s.length := by omega
          have H := HT.out
          rw [drop_head hi, holdsGo] at H
          clear hi hscell
          by_cases hneg : i < 0
          · have HST := Lib.hid (show false = R by rw [← H]; unfold atI; rw [if_pos hneg])
            clear H
            go_wp2
            go_ret
            exact ⟨by rw [← HST.out]; rfl, HBi.out⟩
          · obtain ⟨j, rfl⟩ := Int.eq_ofNat_of_zero_le (show 0 ≤ i by omega)
            rw [at_nat] at H
            by_cases hjl : j < l.length
            · have jl : (j : Int) < l.length := by omega
              have jl2 : ¬ (l.length : Int) ≤ j := by omega
              obtain ⟨e, he⟩ : ∃ e, l[j]? = some e := ⟨_, List.getElem?_eq_getElem hjl⟩
              have hfi := HFi.out
              have hlen : d.length = l.length := by have := hfi.len; rw [noM_len] at this; exact this
              obtain ⟨q, hq⟩ : ∃ q, d[j]? = some q := ⟨_, List.getElem?_eq_getElem (by omega)⟩
              obtain ⟨a0, a1, a2, a3, a4, a5⟩ := hfi.cells
              rw [noM_len] at a1
              obtain ⟨x0, x1⟩ := hfi.done hq
              rw [he, Int.toNat_natCast] at H
              simp only [] at H
              have hdd : d.getD j true = q := by rw [List.getD_eq_getElem?_getD, hq]; rfl
              rw [hdd] at H
              have hen : (l.map noM)[j]? = some (noM e) := by rw [List.getElem?_map, he]; rfl
              have FR := Lib.hid (fun X (h : Below wr.heap.size wr X) => (by
                have := free_any X (hfi.below h) (by rw [noM_len]; exact hl2) hen
                rw [freeGo_noM] at this
                exact this : Calls Tryd.prog 44 #[.pointer (some ⟨F, 0, none⟩), .int .i64 (j : Int)] X fun x w' => x = .returned (.bool (freeGo j e.asked 0 l d)) ∧ Below X.heap.size X w'))
              cases q with
              | true =>
                have HST := Lib.hid (show false = R by rw [← H]; rfl)
                clear H
                go_wp2
                go_ret
                exact ⟨by rw [← HST.out]; rfl, HBi.out⟩
              | false =>
                cases hfr : freeGo j e.asked 0 l d with
                | false =>
                  rw [hfr] at FR H
                  have HST := Lib.hid (show false = R by rw [← H]; simp)
                  clear H hfr
                  go_wp2_with (go_at_call 44; (with_reducible refine (FR.out _ (Below.refl _ _)).mono ?_); rintro x w2 ⟨rfl, hb2⟩)
                  go_ret
                  exact ⟨by rw [← HST.out]; rfl, HBi.out.trans (hb2.mono HBi.out.size)⟩
                | true =>
                  rw [hfr] at FR H
                  have hgl := HGG.out
                  have hEe := HE.out e (List.mem_of_getElem? he)
                  have hfs := HH.out.fs e (List.mem_of_getElem? he)
                  obtain ⟨VA, VC, rfl, _, _, _⟩ := own_arr HVi.out
                  have DC := Lib.hid (fun X (h : Below wr.heap.size wr X) => do_any g.floor e.kind e.gen (.slice VA g.trees.length VC) g.trees e.fA e.fC e.files X (fun s hs => Nat.le_trans (hgl.s s hs) (by omega)) (Nat.le_trans hgl.n (by omega)) hgl.f0 hgl.f1 (Nat.le_trans hEe.2.1 (by omega)) hEe.1 (own_below HVi.out h) (own_slice (own_below hfs (HBi.out.trans (h.mono HBi.out.size)))) (HM.out.on (HBi.out.trans (h.mono HBi.out.size))))
                  rw [show doP ⟨g.floor, g.trees⟩ ⟨e.kind, e.gen, e.files⟩ = doP g (callOf e) from rfl] at DC
                  have htl : tells g e = if openE e then ((doP g (callOf e)).2.err == 0) else @decide ((doP g (callOf e)).2 = ansOf e) (Classical.propDecidable _) := rfl
                  rw [htl] at H
                  have hgd := Lib.hid (do_good hgl (callOf e))
                  generalize doP g (callOf e) = DR at *
                  obtain ⟨⟨fl3, L3⟩, ⟨er3, ge3, fo3, F3⟩⟩ := DR
                  unfold DoOut at DC
                  simp only [] at DC H
                  obtain ⟨b1, o1, rfl, hb1, hcell⟩ := HA.out.2 (by omega)
                  have HC := Lib.hid hcell
                  have HEE := Lib.hid he
                  clear hcell hgl hEe hfs htl
                  go_wp2_with (go_at_call 44; (with_reducible refine (FR.out _ (Below.refl _ _)).mono ?_); rintro x w2 ⟨rfl, hb2⟩)
                  go_cut [9, 10, 25] from 25 to 95 (fun u v v25 wx => v25 = .int .i64 k ∧ HCut 25 34 wr ⟨fl3, L3⟩ ⟨er3, ge3, fo3, F3⟩ u v wx)
                  case first =>
                    have hS : ∀ W, Below wr.heap.size wr W → (W.cell? ⟨G, 0, none⟩ = some (.int .i64 g.floor) ∧ W.cell? ⟨G, 1, none⟩ = some (.slice VA g.trees.length VC) ∧ W.cell? ⟨b1, o1 + j * 10 + 2, none⟩ = some (.int .i64 e.kind) ∧ W.cell? ⟨b1, o1 + j * 10 + 3, none⟩ = some (.int .i64 e.gen) ∧ W.cell? ⟨b1, o1 + j * 10 + 4, none⟩ = some (.slice e.fA e.files.length e.fC)) := fun W h => by
                      have a := HGi.out.below h HGi.out.lt
                      have c := ev_cells (fun i u h' => ((HBi.out.trans (h.mono HBi.out.size)).cell (p := ⟨b1, o1 + i, none⟩) hb1).trans (HC.out i u h')) HEE.out
                      exact ⟨a.cell 0, a.cell 1, c.2.2.1, c.2.2.2.1, c.2.2.2.2.1⟩
                    have HS7 := Lib.hid hS
                    have k0 := hb2.size
                    have k5 : wr.heap.size ≤ w2.heap.size + 1 := Nat.le_succ_of_le k0
                    have k1 : (9 : TypeId) ≠ 25 := by decide
                    have k2 : (69 : TypeId) ≠ 25 := by decide
                    have k3 : (9 : TypeId) ≠ 34 := by decide
                    have k4 : (69 : TypeId) ≠ 34 := by decide
                    have k6 : (25 : TypeId) ≠ 34 := by decide
                    clear hS H FR
                    go_region_held3 (fun w' => (w'.cell? ⟨G, 0, none⟩ = some (.int .i64 g.floor) ∧ w'.cell? ⟨G, 1, none⟩ = some (.slice VA g.trees.length VC) ∧ w'.cell? ⟨b1, o1 + j * 10 + 2, none⟩ = some (.int .i64 e.kind) ∧ w'.cell? ⟨b1, o1 + j * 10 + 3, none⟩ = some (.int .i64 e.gen) ∧ w'.cell? ⟨b1, o1 + j * 10 + 4, none⟩ = some (.slice e.fA e.files.length e.fC))) ((refine HS7.out _ ?_; (repeat (first | (with_reducible exact hb2) | (with_reducible exact hbw3) | (with_reducible refine Below.drew ?_) | (with_reducible refine bel2 ?_ _) | (with_reducible refine belset ?_ (by first | exact k0 | exact k5 | exact hle3 | exact Nat.le_succ_of_le hle3) _))))) (first | (go_at_call 14; (with_reducible refine (DC.out w2.drew hb2.drew).mono ?_); rintro x w3 ⟨V7, U7, rfl, hv3, hu3, hb3⟩; obtain ⟨A3, C3, rfl, _, _, _⟩ := own_arr hv3; obtain ⟨A4, C4, rfl, _, _, _⟩ := own_arr hu3; have HV3 := Lib.hid hv3; have HU3 := Lib.hid hu3; have hbw3 := below_on hb2.drew hb3; have HB3 := Lib.hid hbw3; have hle3 := hbw3.size; clear hv3 hu3) | ((go_at_call 14; (with_reducible refine (DC.out (w2.alloc (.cells #[Value.int .i64 0, .slice none 0 0] 25)).drew (bel2 hb2 _).drew).mono ?_); rintro x w3 ⟨V7, U7, rfl, hv3, hu3, hb3⟩; obtain ⟨A3, C3, rfl, _, _, _⟩ := own_arr hv3; obtain ⟨A4, C4, rfl, _, _, _⟩ := own_arr hu3; have HV3 := Lib.hid hv3; have HU3 := Lib.hid hu3; have hbw3 := below_on (bel2 hb2 _).drew hb3; have HB3 := Lib.hid hbw3; have hle3 := hbw3.size; clear hv3 hu3); have zL := (Blk.new w2 25 #[Value.int .i64 0, .slice none 0 0]).drew.below hb3 (by show _ < (w2.alloc _).heap.size; simp); obtain ⟨z0, z1, z2, z3⟩ := hcells zL; have z4 := fun o => (hcells (zL.alloc o)).1; have z5 := fun o => (hcells (zL.alloc o)).2.1; have z6 := fun o => (hcells (zL.alloc o)).2.2.1; have z7 := fun o => (hcells (zL.alloc o)).2.2.2; have n0 := zL.lt; have n1 : ¬ w2.heap.size = w3.heap.size := (by omega); have n2 : ¬ w3.heap.size = w2.heap.size := (by omega); have ZL := Lib.hid zL; clear zL) | ((go_at_call 14; (with_reducible refine (DC.out (w2.alloc (.cells #[Value.int .i64 0, .int .i64 0, .int .i64 0, .slice none 0 0, .slice none 0 0] 34)).drew (bel2 hb2 _).drew).mono ?_); rintro x w3 ⟨V7, U7, rfl, hv3, hu3, hb3⟩; obtain ⟨A3, C3, rfl, _, _, _⟩ := own_arr hv3; obtain ⟨A4, C4, rfl, _, _, _⟩ := own_arr hu3; have HV3 := Lib.hid hv3; have HU3 := Lib.hid hu3; have hbw3 := below_on (bel2 hb2 _).drew hb3; have HB3 := Lib.hid hbw3; have hle3 := hbw3.size; clear hv3 hu3); have zA := (Blk.new w2 34 #[Value.int .i64 0, .int .i64 0, .int .i64 0, .slice none 0 0, .slice none 0 0]).drew.below hb3 (by show _ < (w2.alloc _).heap.size; simp); obtain ⟨y0, y1, y2, y3, y4, y5, y6, y7, y8, y9⟩ := acells zA; have v0 := fun o => (acells (zA.alloc o)).1; have v1 := fun o => (acells (zA.alloc o)).2.1; have v2 := fun o => (acells (zA.alloc o)).2.2.1; have v3 := fun o => (acells (zA.alloc o)).2.2.2.1; have v4 := fun o => (acells (zA.alloc o)).2.2.2.2.1; have v5 := fun o => (acells (zA.alloc o)).2.2.2.2.2.1; have v6 := fun o => (acells (zA.alloc o)).2.2.2.2.2.2.1; have v7 := fun o => (acells (zA.alloc o)).2.2.2.2.2.2.2.1; have v8 := fun o => (acells (zA.alloc o)).2.2.2.2.2.2.2.2.1; have v9 := fun o => (acells (zA.alloc o)).2.2.2.2.2.2.2.2.2; have n0 := zA.lt; have n1 : ¬ w2.heap.size = w3.heap.size := (by omega); have n2 : ¬ w3.heap.size = w2.heap.size := (by omega); have ZA := Lib.hid zA; clear zA) | ((go_at_call 14; (with_reducible refine (DC.out ((w2.alloc (.cells #[Value.int .i64 0, .slice none 0 0] 25)).alloc (.cells #[Value.int .i64 0, .int .i64 0, .int .i64 0, .slice none 0 0, .slice none 0 0] 34)).drew (bel2 (bel2 hb2 _) _).drew).mono ?_); rintro x w3 ⟨V7, U7, rfl, hv3, hu3, hb3⟩; obtain ⟨A3, C3, rfl, _, _, _⟩ := own_arr hv3; obtain ⟨A4, C4, rfl, _, _, _⟩ := own_arr hu3; have HV3 := Lib.hid hv3; have HU3 := Lib.hid hu3; have hbw3 := below_on (bel2 (bel2 hb2 _) _).drew hb3; have HB3 := Lib.hid hbw3; have hle3 := hbw3.size; clear hv3 hu3); have zL := ((Blk.new w2 25 #[Value.int .i64 0, .slice none 0 0]).alloc (.cells #[Value.int .i64 0, .int .i64 0, .int .i64 0, .slice none 0 0, .slice none 0 0] 34)).drew.below hb3 (by show _ < ((w2.alloc _).alloc _).heap.size; simp; omega); have zA := (Blk.new' (w := w2.alloc (.cells #[Value.int .i64 0, .slice none 0 0] 25)) (g := w2.heap.size + 1) (by simp) 34 #[Value.int .i64 0, .int .i64 0, .int .i64 0, .slice none 0 0, .slice none 0 0]).drew.below hb3 (by show _ < ((w2.alloc _).alloc _).heap.size; simp); obtain ⟨z0, z1, z2, z3⟩ := hcells zL; obtain ⟨y0, y1, y2, y3, y4, y5, y6, y7, y8, y9⟩ := acells zA; have zL2 := setA_far zL (by omega : w2.heap.size ≠ w2.heap.size + 1) (.int .i64 er3) (.int .i64 ge3) (.int .i64 fo3) (.slice A4 F3.length C4) (.slice none 0 0); have zA2 := setL_far zA (by omega : w2.heap.size + 1 ≠ w2.heap.size) (.int .i64 fl3) (.slice A3 L3.length C3); obtain ⟨z4, z5, z6, z7⟩ := hcells zL2; obtain ⟨v0, v1, v2, v3, v4, v5, v6, v7, v8, v9⟩ := acells zA2; have ZL := Lib.hid zL; have ZA := Lib.hid zA; clear zL zA zL2 zA2) | ((go_at_call 14; (with_reducible refine (DC.out ((w2.alloc (.cells #[Value.int .i64 0, .int .i64 0, .int .i64 0, .slice none 0 0, .slice none 0 0] 34)).alloc (.cells #[Value.int .i64 0, .slice none 0 0] 25)).drew (bel2 (bel2 hb2 _) _).drew).mono ?_); rintro x w3 ⟨V7, U7, rfl, hv3, hu3, hb3⟩; obtain ⟨A3, C3, rfl, _, _, _⟩ := own_arr hv3; obtain ⟨A4, C4, rfl, _, _, _⟩ := own_arr hu3; have HV3 := Lib.hid hv3; have HU3 := Lib.hid hu3; have hbw3 := below_on (bel2 (bel2 hb2 _) _).drew hb3; have HB3 := Lib.hid hbw3; have hle3 := hbw3.size; clear hv3 hu3); have zA := ((Blk.new w2 34 #[Value.int .i64 0, .int .i64 0, .int .i64 0, .slice none 0 0, .slice none 0 0]).alloc (.cells #[Value.int .i64 0, .slice none 0 0] 25)).drew.below hb3 (by show _ < ((w2.alloc _).alloc _).heap.size; simp; omega); have zL := (Blk.new' (w := w2.alloc (.cells #[Value.int .i64 0, .int .i64 0, .int .i64 0, .slice none 0 0, .slice none 0 0] 34)) (g := w2.heap.size + 1) (by simp) 25 #[Value.int .i64 0, .slice none 0 0]).drew.below hb3 (by show _ < ((w2.alloc _).alloc _).heap.size; simp); obtain ⟨z0, z1, z2, z3⟩ := hcells zL; obtain ⟨y0, y1, y2, y3, y4, y5, y6, y7, y8, y9⟩ := acells zA; have zL2 := setA_far zL (by omega : w2.heap.size + 1 ≠ w2.heap.size) (.int .i64 er3) (.int .i64 ge3) (.int .i64 fo3) (.slice A4 F3.length C4) (.slice none 0 0); have zA2 := setL_far zA (by omega : w2.heap.size ≠ w2.heap.size + 1) (.int .i64 fl3) (.slice A3 L3.length C3); obtain ⟨z4, z5, z6, z7⟩ := hcells zL2; obtain ⟨v0, v1, v2, v3, v4, v5, v6, v7, v8, v9⟩ := acells zA2; have ZL := Lib.hid zL; have ZA := Lib.hid zA; clear zL zA zL2 zA2) | (fail))
                    all_goals (try go_wp2_with fail)
                    all_goals go_meet
                    all_goals (refine ⟨rfl, ?_⟩; (first | (with_reducible exact cut_E1 (g := ⟨fl3, L3⟩) (a := ⟨er3, ge3, fo3, F3⟩) HV3.out HU3.out HB3.out) | (with_reducible exact cut_E2 (g := ⟨fl3, L3⟩) (a := ⟨er3, ge3, fo3, F3⟩) HV3.out HU3.out HB3.out) | (with_reducible exact cut_E3 (g := ⟨fl3, L3⟩) (a := ⟨er3, ge3, fo3, F3⟩) ZL.out k0 k1 k2 HV3.out HU3.out HB3.out) | (with_reducible exact cut_E4 (g := ⟨fl3, L3⟩) (a := ⟨er3, ge3, fo3, F3⟩) ZA.out k0 k3 k4 HV3.out HU3.out HB3.out) | (with_reducible exact cut_E5 (g := ⟨fl3, L3⟩) (a := ⟨er3, ge3, fo3, F3⟩) ZL.out ZA.out k0 k5 k6 k1 k2 k3 k4 HV3.out HU3.out HB3.out) | (with_reducible exact cut_E6 (g := ⟨fl3, L3⟩) (a := ⟨er3, ge3, fo3, F3⟩) ZL.out ZA.out k0 k5 k6 k1 k2 k3 k4 HV3.out HU3.out HB3.out) | (with_reducible exact cut_E5 (g := ⟨fl3, L3⟩) (a := ⟨er3, ge3, fo3, F3⟩) ZL.out ZA.out k5 k0 k6 k1 k2 k3 k4 HV3.out HU3.out HB3.out) | (with_reducible exact cut_E6 (g := ⟨fl3, L3⟩) (a := ⟨er3, ge3, fo3, F3⟩) ZL.out ZA.out k5 k0 k6 k1 k2 k3 k4 HV3.out HU3.out HB3.out)))
                  case rest =>
                    obtain ⟨rfl, g9, g10, A3, C3, A4, C4, rfl, rfl, hL9, hA10, hv9, hu9, hbc, hg9⟩ := hcut
                    have hfc := hfi.below hbc
                    have ID := Lib.hid (fun X (h : Below wc.heap.size wc X) => idle_any X (hfc.below h) hen (by rw [noM_len]; exact hl2))
                    have hGl := HGi.out.lt
                    have hDl := hfi.row.lt
                    have HL9 := Lib.hid hL9
                    have HA10 := Lib.hid hA10
                    have HV9 := Lib.hid hv9
                    have HU9 := Lib.hid hu9
                    have HBC := Lib.hid hbc
                    have HFC := Lib.hid hfc
                    have hn1 : g9 ≠ D := by omega
                    have hwGG := HGW.out
                    have hd6 : undone d ≤ 300 := by have := undone_le d; omega
                    have hn2 : g9 ≠ G := by omega
                    have hoE : openE (noM e) = openE e := rfl
                    rw [hoE] at ID
                    have HEN := Lib.hid hen
                    have HQ := Lib.hid hq
                    have HUN := Lib.hid (undone_set hq)
                    have HEE2 := Lib.hid HEE.out
                    clear hfc hL9 hA10 hv9 hu9 hbc hoE hen hq FR HEE a0 a1 a2 a3 a4 a5 x0 x1
                    cases hO : openE e with
                    | true =>
                      rw [hO, if_pos rfl] at H
                      rw [hO] at ID
                      clear hO
                      by_cases hz : er3 = 0
                      · have HST := Lib.hid (show holdsGo tells l (s.drop (k + 1)) (d.set j true) ⟨fl3, L3⟩ = R by rw [← H, hz]; simp)
                        have g0 : (er3 != 0) = false := by simp [hz]
                        clear H hz
                        (go_wp2_with (go_at_call 45; (with_reducible refine (ID.out _ (Below.refl _ _)).mono ?_); rintro x w5 ⟨rfl, hb5⟩)); (have hA5 := HA10.out.below hb5 HA10.out.lt); (have HF5 := Lib.hid (HFC.out.below hb5)); (obtain ⟨y1, y2, y3, y4, y5, _⟩ := acells hA5); (have a1 := cell_cls y1); (have a2 := cell_cls y2); (have a3 := cell_cls y3); (have a4 := cell_cls y4); (have a5 := cell_cls y5); (obtain ⟨b0, b1', b2, b3, b4, b5⟩ := HF5.out.cells); (have f0 := cell_cls b0); (clear hA5 b0 b1' b2 b3 b4 b5 y1 y2 y3 y4 y5)
                        (refine wp_region_cls (by kernel_rfl) (by kernel_rfl) ?_); (repeat (go_big_quiet_step (((fail))))); (refine wpQuiet_nil ?_); (intro w9 hw'); (obtain ⟨⟨w9', hb9⟩, hw''⟩ := hw'); (subst hw''); (have HB9 := Lib.hid (below_on hb5 hb9)); (have hw9 := HBi.out.trans ((below_on HBC.out HB9.out).mono HBi.out.size))
                        (have hf9 := HF5.out.below hb9); (obtain ⟨F0, F1, _, _, _, _⟩ := hf9.cells); (rw [noM_len] at F1); (obtain ⟨x0, x1⟩ := hf9.done HQ.out); (have hX9 := HL9.out.below HB9.out HL9.out.lt); (have hX10 : Blk (w9.setCell ⟨D, j, none⟩ (.bool true)) g9 25 _ := hX9.far (p := ⟨D, j, none⟩) hn1 _); (obtain ⟨j0, j1, _, _⟩ := hcells hX10); (have hG9 := (HGi.out.below HBC.out HGi.out.lt).below HB9.out (Nat.lt_of_lt_of_le HGi.out.lt HBC.out.size)); (have hDG : G ≠ D := Blk.ne_ hG9 hf9.row (by decide)); (have hG10 : Blk (w9.setCell ⟨D, j, none⟩ (.bool true)) G 25 _ := hG9.far (p := ⟨D, j, none⟩) hDG _); (obtain ⟨j4, j5, j6, j7⟩ := hcells hG10); (have q1 : ¬ D = G := hDG.symm); (have q2 : ¬ G = D := hDG); (have q3 : ¬ g9 = D := hn1); (have q4 : ¬ D = g9 := hn1.symm); (have q5 : ¬ g9 = G := hn2); (have q6 : ¬ G = g9 := hn2.symm); (have HF9 := Lib.hid ((hf9.setDone j true).farG hG10 (.int .i64 fl3) (.slice A3 L3.length C3))); (have HG10 := Lib.hid (setL_blk hG10 (.int .i64 fl3) (.slice A3 L3.length C3))); (have hv9 := own_below HV9.out HB9.out); (have HVX := Lib.hid (setL_own hG10 (own_setbox (i := j) (u := .bool true) hv9 (own_blk_ne hv9 hf9.row (by decide))) (by decide) (.int .i64 fl3) (.slice A3 L3.length C3))); (have HBX := Lib.hid (setL_be (hw9.setCell (p := ⟨D, j, none⟩) hf9.bD (.bool true)) hwGG (.int .i64 fl3) (.slice A3 L3.length C3))); (clear hf9 hX9 hX10 hG9 hG10 hv9 hw9); go_wp2; go_roundw; (case rel => unfold HoldR; exact ⟨k + 1, d.set j true, ⟨fl3, L3⟩, _, by omega, by go_num, HST, HF9, HG10, HVX, Lib.hid (good_next hgd.out HUN.out hd6), HBX⟩); (case measure => simp [intOf] <;> omega)
                      · have HST := Lib.hid (show false = R by rw [← H]; simp [hz])
                        have g0 : (er3 != 0) = true := by simp [hz]
                        clear H hz
                        (go_wp2_with (go_at_call 45; (with_reducible refine (ID.out _ (Below.refl _ _)).mono ?_); rintro x w5 ⟨rfl, hb5⟩)); (have hA5 := HA10.out.below hb5 HA10.out.lt); (have HF5 := Lib.hid (HFC.out.below hb5)); (obtain ⟨y1, y2, y3, y4, y5, _⟩ := acells hA5); (have a1 := cell_cls y1); (have a2 := cell_cls y2); (have a3 := cell_cls y3); (have a4 := cell_cls y4); (have a5 := cell_cls y5); (obtain ⟨b0, b1', b2, b3, b4, b5⟩ := HF5.out.cells); (have f0 := cell_cls b0); (clear hA5 b0 b1' b2 b3 b4 b5 y1 y2 y3 y4 y5)
                        (refine wp_region_cls (by kernel_rfl) (by kernel_rfl) ?_); (repeat (go_big_quiet_step (((fail))))); (refine wpQuiet_nil ?_); (intro w9 hw'); (obtain ⟨⟨w9', hb9⟩, hw''⟩ := hw'); (subst hw''); (have HB9 := Lib.hid (below_on hb5 hb9)); (have hw9 := HBi.out.trans ((below_on HBC.out HB9.out).mono HBi.out.size))
                        go_wp2; go_ret; (exact ⟨by rw [← HST.out]; rfl, hw9⟩)
                    | false =>
                      rw [hO, if_neg Bool.false_ne_true] at H
                      rw [hO] at ID
                      clear hO
                      by_cases hz : (⟨er3, ge3, fo3, F3⟩ : AnsD) = ansOf e
                      · have HST := Lib.hid (show holdsGo tells l (s.drop (k + 1)) (d.set j true) ⟨fl3, L3⟩ = R by rw [← H, @decide_eq_true _ (Classical.propDecidable _) hz]; simp)
                        have HZ := Lib.hid hz
                        clear H hz
                        (go_wp2_with (go_at_call 45; (with_reducible refine (ID.out _ (Below.refl _ _)).mono ?_); rintro x w5 ⟨rfl, hb5⟩)); (have hA5 := HA10.out.below hb5 HA10.out.lt); (have HF5 := Lib.hid (HFC.out.below hb5)); (obtain ⟨y1, y2, y3, y4, y5, _⟩ := acells hA5); (have a1 := cell_cls y1); (have a2 := cell_cls y2); (have a3 := cell_cls y3); (have a4 := cell_cls y4); (have a5 := cell_cls y5); (obtain ⟨b0, b1', b2, b3, b4, b5⟩ := HF5.out.cells); (have f0 := cell_cls b0); (clear hA5 b0 b1' b2 b3 b4 b5 y1 y2 y3 y4 y5)
                        (have hna := HF5.out.his.row); (obtain ⟨NA, NC, hnv, _, hnr, _⟩ := own_arr hna); (rw [noM_len] at hnv hnr); (obtain ⟨b3, o3, rfl, hb3, hnc⟩ := hnr.2 (by omega)); (injection hnv with hnv1 _ hnv2); (subst hnv1 hnv2); (obtain ⟨_, _, _, _, _, e5, e6, e7, e8, e9⟩ := ev_cells hnc HEN.out); (have t5 : ∀ p : Cls w5, p.n.cell? ⟨b3, o3 + j * 10 + 5, none⟩ = some (.int .i64 e.err) := cell_cls e5); (have t6 : ∀ p : Cls w5, p.n.cell? ⟨b3, o3 + j * 10 + 6, none⟩ = some (.int .i64 e.agen) := cell_cls e6); (have t7 : ∀ p : Cls w5, p.n.cell? ⟨b3, o3 + j * 10 + 7, none⟩ = some (.int .i64 e.floor) := cell_cls e7); (have t8 : ∀ p : Cls w5, p.n.cell? ⟨b3, o3 + j * 10 + 8, none⟩ = some (.slice e.aA e.afiles.length e.aC) := cell_cls e8); (have t9 : ∀ p : Cls w5, p.n.cell? ⟨b3, o3 + j * 10 + 9, none⟩ = some (.slice none 0 0) := cell_cls e9); (have han := HH.out.an e (List.mem_of_getElem? HEE2.out)); (have hwx := HBi.out.trans ((below_on HBC.out hb5).mono HBi.out.size)); (have SMX := Lib.hid (fun (p : Cls w5) => ((same_any ⟨er3, ge3, fo3, F3⟩ ⟨e.err, e.agen, e.floor, e.afiles⟩ A4 e.aA C4 e.aC (.slice none 0 0) (.slice none 0 0) p.n (own_len HU9.out) (own_len han) (own_slice (own_below (own_below HU9.out hb5) p.h)) (own_slice (own_below (own_below han hwx) p.h)) rfl rfl).mono fun x w' h => SAMB1 h HZ.out))); (clear hna hnr hnc e5 e6 e7 e8 e9 han hwx hb3)
                        (refine wp_region_cls (by kernel_rfl) (by kernel_rfl) ?_); (repeat (go_big_quiet_step (((go_at_call 46; with_reducible exact cls_call (SMX.out _)))))); (refine wpQuiet_nil ?_); (intro w9 hw'); (obtain ⟨⟨w9', hb9⟩, hw''⟩ := hw'); (subst hw''); (have HB9 := Lib.hid (below_on hb5 hb9)); (have hw9 := HBi.out.trans ((below_on HBC.out HB9.out).mono HBi.out.size))
                        (have hf9 := HF5.out.below hb9); (obtain ⟨F0, F1, _, _, _, _⟩ := hf9.cells); (rw [noM_len] at F1); (obtain ⟨x0, x1⟩ := hf9.done HQ.out); (have hX9 := HL9.out.below HB9.out HL9.out.lt); (have hX10 : Blk (w9.setCell ⟨D, j, none⟩ (.bool true)) g9 25 _ := hX9.far (p := ⟨D, j, none⟩) hn1 _); (obtain ⟨j0, j1, _, _⟩ := hcells hX10); (have hG9 := (HGi.out.below HBC.out HGi.out.lt).below HB9.out (Nat.lt_of_lt_of_le HGi.out.lt HBC.out.size)); (have hDG : G ≠ D := Blk.ne_ hG9 hf9.row (by decide)); (have hG10 : Blk (w9.setCell ⟨D, j, none⟩ (.bool true)) G 25 _ := hG9.far (p := ⟨D, j, none⟩) hDG _); (obtain ⟨j4, j5, j6, j7⟩ := hcells hG10); (have q1 : ¬ D = G := hDG.symm); (have q2 : ¬ G = D := hDG); (have q3 : ¬ g9 = D := hn1); (have q4 : ¬ D = g9 := hn1.symm); (have q5 : ¬ g9 = G := hn2); (have q6 : ¬ G = g9 := hn2.symm); (have HF9 := Lib.hid ((hf9.setDone j true).farG hG10 (.int .i64 fl3) (.slice A3 L3.length C3))); (have HG10 := Lib.hid (setL_blk hG10 (.int .i64 fl3) (.slice A3 L3.length C3))); (have hv9 := own_below HV9.out HB9.out); (have HVX := Lib.hid (setL_own hG10 (own_setbox (i := j) (u := .bool true) hv9 (own_blk_ne hv9 hf9.row (by decide))) (by decide) (.int .i64 fl3) (.slice A3 L3.length C3))); (have HBX := Lib.hid (setL_be (hw9.setCell (p := ⟨D, j, none⟩) hf9.bD (.bool true)) hwGG (.int .i64 fl3) (.slice A3 L3.length C3))); (clear hf9 hX9 hX10 hG9 hG10 hv9 hw9); go_wp2; go_roundw; (case rel => unfold HoldR; exact ⟨k + 1, d.set j true, ⟨fl3, L3⟩, _, by omega, by go_num, HST, HF9, HG10, HVX, Lib.hid (good_next hgd.out HUN.out hd6), HBX⟩); (case measure => simp [intOf] <;> omega)
                      · have HST := Lib.hid (show false = R by rw [← H, @decide_eq_false _ (Classical.propDecidable _) hz]; simp)
                        have HZ := Lib.hid hz
                        clear H hz
                        (go_wp2_with (go_at_call 45; (with_reducible refine (ID.out _ (Below.refl _ _)).mono ?_); rintro x w5 ⟨rfl, hb5⟩)); (have hA5 := HA10.out.below hb5 HA10.out.lt); (have HF5 := Lib.hid (HFC.out.below hb5)); (obtain ⟨y1, y2, y3, y4, y5, _⟩ := acells hA5); (have a1 := cell_cls y1); (have a2 := cell_cls y2); (have a3 := cell_cls y3); (have a4 := cell_cls y4); (have a5 := cell_cls y5); (obtain ⟨b0, b1', b2, b3, b4, b5⟩ := HF5.out.cells); (have f0 := cell_cls b0); (clear hA5 b0 b1' b2 b3 b4 b5 y1 y2 y3 y4 y5)
                        (have hna := HF5.out.his.row); (obtain ⟨NA, NC, hnv, _, hnr, _⟩ := own_arr hna); (rw [noM_len] at hnv hnr); (obtain ⟨b3, o3, rfl, hb3, hnc⟩ := hnr.2 (by omega)); (injection hnv with hnv1 _ hnv2); (subst hnv1 hnv2); (obtain ⟨_, _, _, _, _, e5, e6, e7, e8, e9⟩ := ev_cells hnc HEN.out); (have t5 : ∀ p : Cls w5, p.n.cell? ⟨b3, o3 + j * 10 + 5, none⟩ = some (.int .i64 e.err) := cell_cls e5); (have t6 : ∀ p : Cls w5, p.n.cell? ⟨b3, o3 + j * 10 + 6, none⟩ = some (.int .i64 e.agen) := cell_cls e6); (have t7 : ∀ p : Cls w5, p.n.cell? ⟨b3, o3 + j * 10 + 7, none⟩ = some (.int .i64 e.floor) := cell_cls e7); (have t8 : ∀ p : Cls w5, p.n.cell? ⟨b3, o3 + j * 10 + 8, none⟩ = some (.slice e.aA e.afiles.length e.aC) := cell_cls e8); (have t9 : ∀ p : Cls w5, p.n.cell? ⟨b3, o3 + j * 10 + 9, none⟩ = some (.slice none 0 0) := cell_cls e9); (have han := HH.out.an e (List.mem_of_getElem? HEE2.out)); (have hwx := HBi.out.trans ((below_on HBC.out hb5).mono HBi.out.size)); (have SMX := Lib.hid (fun (p : Cls w5) => ((same_any ⟨er3, ge3, fo3, F3⟩ ⟨e.err, e.agen, e.floor, e.afiles⟩ A4 e.aA C4 e.aC (.slice none 0 0) (.slice none 0 0) p.n (own_len HU9.out) (own_len han) (own_slice (own_below (own_below HU9.out hb5) p.h)) (own_slice (own_below (own_below han hwx) p.h)) rfl rfl).mono fun x w' h => SAMB0 h HZ.out))); (clear hna hnr hnc e5 e6 e7 e8 e9 han hwx hb3)
                        (refine wp_region_cls (by kernel_rfl) (by kernel_rfl) ?_); (repeat (go_big_quiet_step (((go_at_call 46; with_reducible exact cls_call (SMX.out _)))))); (refine wpQuiet_nil ?_); (intro w9 hw'); (obtain ⟨⟨w9', hb9⟩, hw''⟩ := hw'); (subst hw''); (have HB9 := Lib.hid (below_on hb5 hb9)); (have hw9 := HBi.out.trans ((below_on HBC.out HB9.out).mono HBi.out.size))
                        go_wp2; go_ret; (exact ⟨by rw [← HST.out]; rfl, hw9⟩)
            · have jl2 : (l.length : Int) ≤ j := by omega
              have HST := Lib.hid (show false = R by rw [← H, List.getElem?_eq_none (by omega)])
              clear H
              go_wp2
              go_ret
              exact ⟨by rw [← HST.out]; rfl, HBi.out⟩
        · have kl : ¬ (k : Int) < s.length := by omega
          have H := HT.out
          rw [List.drop_eq_nil_of_le (by omega : s.length ≤ k), holdsGo] at H
          have OV := Lib.hid (over_any wr HFi.out (by rw [noM_len]; exact hl2))
          rw [over_noM, H] at OV
          clear H HT
          go_wp2_with (go_at_call 47; (with_reducible refine (OV.out).mono ?_); rintro x w2 ⟨rfl, hb2⟩)
          go_ret
          exact ⟨rfl, below_on HBi.out hb2⟩
end Go.Proofs.YtakdngcgjahafaaDoor
