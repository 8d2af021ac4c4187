/- The walk through SpeechLogs. -/
import Derived.Test.YtakdngcgjahafaaDoorSp41
import Derived.Test.YtakdngcgjahafaaDoorSp34
import Derived.Test.YtakdngcgjahafaaDoorSpG
namespace Go.Proofs.YtakdngcgjahafaaDoor
open Go.RowKit
set_option linter.unusedVariables false

theorem log_cells {W : World} {b o : Nat} {es : List LgE} (hc : ∀ i u, (lcells es)[i]? = some u → W.cell? ⟨b, o + i, none⟩ = some u) {k : Nat} {x : LgE} (h : es[k]? = some x) : W.cell? ⟨b, o + k * 2, none⟩ = some (.int .i64 x.g.floor) ∧ W.cell? ⟨b, o + k * 2 + 1, none⟩ = some (.slice x.A x.g.trees.length x.c) :=
  ⟨hc (k * 2 + 0) _ (lcell_get h (j := 0) (by omega)), hc (k * 2 + 1) _ (lcell_get h (j := 1) (by omega))⟩
theorem logs_same {a : LogD} {A B : Option Addr} {c d : Nat} {W : World} (ha : W.ownsRow 0 9 1 (.slice A a.trees.length c) a.trees.length (a.trees.map Value.string)) (hb : W.ownsRow 0 9 1 (.slice B a.trees.length d) a.trees.length (a.trees.map Value.string)) :
    Calls Tryd.prog 16 #[.agg #[.int .i64 a.floor, .slice A a.trees.length c], .agg #[.int .i64 a.floor, .slice B a.trees.length d]] W fun e w' => e = .returned (.bool true) ∧ Below W.heap.size W w' :=
  (logs_any a.floor a.floor A B c d a.trees a.trees W (own_len ha) (own_len hb) (own_slice ha) (own_slice hb)).mono fun e w' ⟨t, h1, h2, h3⟩ => ⟨by rw [h1, h2.2 ⟨rfl, rfl⟩], h3⟩
def LwR (w4 : World) (G : Nat) (l : List EvD) (s : List Int) (v : Value) (wr : World) : Prop := ∃ (k : Nat) (g : LogD) (VG : Value), k ≤ s.length ∧ v = .int .i64 k ∧ Hid (g = stA l (s.take k)) ∧ Hid (Blk wr G 27 #[.int .i64 g.floor, VG]) ∧ Hid (wr.ownsRow 0 9 1 VG g.trees.length (g.trees.map Value.string)) ∧ Below G w4 wr
set_option maxHeartbeats 8000000 in
set_option maxRecDepth 100000 in
theorem law_logs (A : Option Addr) (c : Nat) (l0 : List EvD) (SA : Option Addr) (SC : Nat) (s : List Int) (w : World) (hz : l0.length ≤ 9223372036854775807) (ha : Arr w w.heap.size 10 A l0.length (ecells l0)) (hi : ∀ e ∈ l0, EvIn w e)
    (zs : s.length * 8 ≤ 140737488351232) (hc1 : s.length ≤ SC) (hb1 : ∀ x ∈ s, -9223372036854775808 ≤ x ∧ x ≤ 9223372036854775807) (hsa : Arr w w.heap.size 1 SA s.length (s.map (Value.int .i64))) (hm : Ml w) :
    Calls Tryd.prog 11 #[.slice A l0.length c, .slice SA s.length SC] w fun e w' => e = .returned (.bool true) ∧ Below w.heap.size w w' := by
  have AW := Lib.hid (fun X (h : Below w.heap.size w X) => awake22 X (hm.on h))
  have SH0 := short_any A c l0 12 w hz (by omega) ha hi
  rw [show ((12 : Nat) : Int) = 12 from rfl] at SH0
  have SH := Lib.hid SH0
  clear SH0
  unfold ShortOut at SH
  have HM := Lib.hid hm
  have HS := Lib.hid hsa
  generalize l0.length = n0 at *
  clear ha hi hm hz hsa hb1 hc1
  go_enter Tryd.func11, Tryd.ntmps11
  go_wp2_with (go_at_call 19; (with_reducible refine (SH.out).mono ?_); rintro x w1 ⟨V, l, rfl, hg, hl8, hb1⟩; have HGW := Lib.hid hg; have HB1 := Lib.hid hb1; clear hg hb1)
  have hh := HGW.out.hist
  have hE : ∀ e ∈ l, EFit e := fun e he => (HGW.out.fit e he).1
  obtain ⟨LA, LC, rfl, _, hla, _⟩ := own_arr hh.row
  have hs1 := (HS.out.below HB1.out).more HB1.out.size
  have HR1 := Lib.hid (fun X (h : Below w1.heap.size w1 X) => holds_ref X (HM.out.on (HB1.out.trans (h.mono HB1.out.size))) (hh.below h) hE (by omega) SA SC s (by omega) ((hs1.below h).more h.size))
  have HH := Lib.hid hh
  have HE := Lib.hid hE
  have HLA := Lib.hid hla
  have HS1 := Lib.hid hs1
  cases hH : holdsP l s with
  | false =>
    have LO := Lib.hid (logs_no w1 (HM.out.on HB1.out) hh hE (by omega) SA SC s (by omega) hs1 hH)
    rw [hH] at HR1
    clear hh hE hla hs1 hH
    go_wp2_with (first
      | (go_at_call 34; (with_reducible refine (LO.out).mono ?_); rintro x wL ⟨rfl, hbL⟩)
      | (go_at_call 22; (with_reducible refine (HR1.out _ hbL).mono ?_); rintro x wM ⟨rfl, hbM⟩; have hBW := HB1.out.trans ((below_on hbL hbM).mono HB1.out.size))
      | (go_at_call 18; (with_reducible refine (AW.out _ hBW).mono ?_); rintro x w9 ⟨rfl, hb9⟩; have hB9 := below_on hBW hb9)
      | (fail))
    go_ret
    exact ⟨rfl, hB9⟩
  | true =>
    have LO := Lib.hid (logs_yes w1 (HM.out.on HB1.out) hh hE (by omega) SA SC s (by omega) hs1 hH)
    unfold LogsYes at LO
    rw [hH] at HR1
    obtain ⟨h1, h2⟩ : rightP l = true ∧ holdsGo tells l s (List.replicate l.length false) ⟨0, []⟩ = true := by
      unfold holdsP at hH; rw [Bool.and_eq_true] at hH; exact hH
    have HIN := Lib.hid (holds_in _ _ _ h2)
    have hsl := holds_len _ _ _ h2
    have hsl2 : s.length ≤ 256 := Nat.le_trans hsl (by have := undone_rep l.length; unfold undone; omega)
    clear hh hE hla hs1 hH h1 h2 hsl
    go_wp2_with (first
      | (go_at_call 34; (with_reducible refine (LO.out).mono ?_); rintro x wL ⟨V2, es, rfl, hlr, hel, hes, hbL⟩; obtain ⟨OA, OC, rfl, _, hoa, _⟩ := own_arr hlr.row; rw [hel] at hoa; have HLR2 := Lib.hid hlr; have HEL := Lib.hid hel; have HES := Lib.hid hes; have HOA := Lib.hid hoa; have HB2 := Lib.hid hbL; have hel3 : ((es.length : Int) != (s.length : Int) + 1) = false := (by rw [hel]; simp); clear hlr hel hes hoa)
      | (go_at_call 22; (with_reducible refine (HR1.out _ HB2.out).mono ?_); rintro x wM ⟨rfl, hbM⟩; have hbLM := below_on HB2.out hbM)
      | (fail))
    have hG0 := Blk.new wM 27 #[Value.int .i64 0, .slice none 0 0]
    have hb4 : Below wM.heap.size wM (wM.alloc (.cells #[Value.int .i64 0, .slice none 0 0] 27)) := (Below.refl _ _).alloc (Nat.le_refl _) _
    have hbx := below_on hbLM hb4
    have hby := below_on hbM hb4
    have HG0 := Lib.hid hG0
    have HBX := Lib.hid hbx
    have HBY := Lib.hid hby
    have hgw : w1.heap.size ≤ wM.heap.size := hbLM.size
    have hgL : wL.heap.size ≤ wM.heap.size := hbM.size
    clear hG0 hb4 hbx hby
    generalize hGG : wM.heap.size = G at *
    generalize wM.alloc (.cells #[Value.int .i64 0, .slice none 0 0] 27) = w4 at *
    clear hGG
    go_loopw [8] (fun v wr => LwR w4 G l s v wr) (fun v _ => s.length - (intOf v).toNat)
    case atStart => unfold LwR; exact ⟨0, ⟨0, []⟩, _, Nat.zero_le _, rfl, Lib.hid rfl, HG0, Lib.hid (World.ownsRow_nil _ _ _ _), Below.refl _ _⟩
    case round =>
      unfold LwR at hrel
      obtain ⟨k, g, VG, hk, rfl, HGS, HGi, HVG, hB⟩ := hrel
      have hBw1 := HBX.out.trans (hB.mono hgw)
      have hBwL := HBY.out.trans (hB.mono hgL)
      obtain ⟨x, hx⟩ : ∃ x, es[k]? = some x := ⟨_, List.getElem?_eq_getElem (by have := HEL.out; omega)⟩
      have hxg := HES.out k x hx
      obtain rfl : g = x.g := HGS.out.trans hxg.symm
      obtain ⟨GA, GC, rfl, _, _, _⟩ := own_arr HVG.out
      obtain ⟨ob, oo, rfl, hob, hocell⟩ := HOA.out.2 (by omega)
      have hvx := HLR2.out.tr x (List.mem_of_getElem? hx)
      have LGB := Lib.hid (fun X (h : Below wr.heap.size wr X) => logs_same (W := X) (a := x.g) (A := x.A) (B := GA) (c := x.c) (d := GC) (own_mono (own_below hvx (hBwL.trans (h.mono hBwL.size))) (Nat.zero_le _)) (own_below HVG.out h))
      have LCB : Hid (∀ p : Cls wr, Calls Tryd.prog 16 #[.agg #[.int .i64 x.g.floor, .slice x.A x.g.trees.length x.c], .agg #[.int .i64 x.g.floor, .slice GA x.g.trees.length GC]] p.n fun e w' => e = .returned (.bool true) ∧ Below p.n.heap.size p.n w') := Lib.hid fun p => LGB.out _ p.h
      obtain ⟨a0, a1⟩ := log_cells (fun i u h' => (hBwL.cell (p := ⟨ob, oo + i, none⟩) hob).trans (hocell i u h')) hx
      have y0 := cell_cls a0
      have y1 := cell_cls a1
      obtain ⟨c0, c1, _, _⟩ := hcells HGi.out
      have y2 := cell_cls c0
      have y3 := cell_cls c1
      have hkk : (k : Int) < es.length := by have := HEL.out; omega
      clear a0 a1 c0 c1 hocell
      by_cases hlt : k < s.length
      · obtain ⟨i, hi⟩ : ∃ i, s[k]? = some i := ⟨_, List.getElem?_eq_getElem hlt⟩
        obtain ⟨hi0, hi1⟩ := HIN.out i (List.mem_of_getElem? hi)
        obtain ⟨j, rfl⟩ := Int.eq_ofNat_of_zero_le hi0
        have kl : (k : Int) < s.length := by omega
        have jl : (j : Int) < l.length := hi1
        obtain ⟨e, he⟩ : ∃ e, l[j]? = some e := ⟨_, List.getElem?_eq_getElem (by omega)⟩
        obtain ⟨sb, so, rfl, hsb, hscell⟩ := HS1.out.2 (by omega)
        obtain ⟨b1, o1, rfl, hb1', hcell⟩ := HLA.out.2 (by omega)
        have hgl := stA_good l s k
        rw [← hxg] at hgl
        have hsn := stA_snoc l s hi he
        rw [← hxg] at hsn
        have hEe := HE.out e (List.mem_of_getElem? he)
        have hfs := HH.out.fs e (List.mem_of_getElem? he)
        have HCX := Lib.hid (fun X (h : Below wr.heap.size wr X) => ev_cells (fun i u h' => ((hBw1.trans (h.mono hBw1.size)).cell (p := ⟨b1, o1 + i, none⟩) hb1').trans (hcell i u h')) he)
        have HSX := Lib.hid (fun X (h : Below wr.heap.size wr X) => ((hBw1.trans (h.mono hBw1.size)).cell (p := ⟨sb, so + k, none⟩) hsb).trans (hscell k (.int .i64 (j : Int)) (by rw [List.getElem?_map, hi]; rfl)))
        have HDC := Lib.hid (fun W0 (h0 : Below wr.heap.size wr W0) X (h : Below W0.heap.size W0 X) => dp_any x.g.floor e.kind e.gen (.slice GA x.g.trees.length GC) x.g.trees e.fA e.fC e.files X (fun s hs => Nat.le_trans (hgl.s s hs) (by omega)) (Nat.le_trans hgl.n (by omega)) hgl.f0 hgl.f1 (Nat.le_trans hEe.2.1 (by omega)) hEe.1 (own_below HVG.out (below_on h0 h)) (own_slice (own_below hfs (hBw1.trans ((below_on h0 h).mono hBw1.size)))) (HM.out.on (HB1.out.trans ((hBw1.trans ((below_on h0 h).mono hBw1.size)).mono HB1.out.size))))
        rw [show doP ⟨x.g.floor, x.g.trees⟩ ⟨e.kind, e.gen, e.files⟩ = doP x.g (callOf e) from rfl] at HDC
        generalize doP x.g (callOf e) = DR at *
        obtain ⟨⟨fl3, L3⟩, ⟨er3, ge3, fo3, F3⟩⟩ := DR
        unfold DoOut at HDC
        simp only [] at HDC hsn
        have HSN := Lib.hid hsn
        clear hx hxg hsn he hi hscell hcell hgl hEe hfs hvx hi0 hBw1 hBwL
        go_wp2
        refine wp_region_cls (by kernel_rfl) (by kernel_rfl) ?_
        repeat (go_big_quiet_step ((go_at_call 16; with_reducible exact cls_call (LCB.out _))))
        refine wpQuiet_nil ?_
        intro w2 hw'
        obtain ⟨⟨w2', hb9⟩, hw''⟩ := hw'
        subst hw''
        have hb2 : Below w2.heap.size w2 w2 := Below.refl _ _
        have hG2 := HGi.out.below hb9 HGi.out.lt
        have DC := Lib.hid (HDC.out w2 hb9)
        have hS : ∀ W, Below w2.heap.size w2 W → (W.cell? ⟨G, 0, none⟩ = some (.int .i64 x.g.floor) ∧ W.cell? ⟨G, 1, none⟩ = some (.slice GA x.g.trees.length GC) ∧ W.cell? ⟨sb, so + k, none⟩ = some (.int .i64 (j : Int)) ∧ W.cell? ⟨b1, o1 + j * 10 + 2, none⟩ = some (.int .i64 e.kind) ∧ W.cell? ⟨b1, o1 + j * 10 + 3, none⟩ = some (.int .i64 e.gen) ∧ W.cell? ⟨b1, o1 + j * 10 + 4, none⟩ = some (.slice e.fA e.files.length e.fC)) := fun W h => by
          have a := hG2.below h hG2.lt
          have b := below_on hb9 h
          have cc := HCX.out W b
          exact ⟨a.cell 0, a.cell 1, HSX.out W b, cc.2.2.1, cc.2.2.2.1, cc.2.2.2.2.1⟩
        have HS7 := Lib.hid hS
        have HG2 := Lib.hid hG2
        have k0 := Nat.le_refl w2.heap.size
        have k5 : w2.heap.size ≤ w2.heap.size + 1 := Nat.le_succ _
        have z0 := k0
        have z1 := k5
        have k1 : (9 : TypeId) ≠ 27 := by decide
        have k2 : (69 : TypeId) ≠ 27 := by decide
        have k3 : (9 : TypeId) ≠ 34 := by decide
        have k4 : (69 : TypeId) ≠ 34 := by decide
        have k6 : (27 : TypeId) ≠ 34 := by decide
        clear hS hG2 y0 y1 y2 y3
        go_wp2
        go_cut [9, 10] from 44 to 70 (fun u v wx => HCut 27 34 w2 ⟨fl3, L3⟩ ⟨er3, ge3, fo3, F3⟩ u v wx)
        case first =>
          go_region_held3 (fun w' => (w'.cell? ⟨G, 0, none⟩ = some (.int .i64 x.g.floor) ∧ w'.cell? ⟨G, 1, none⟩ = some (.slice GA x.g.trees.length GC) ∧ w'.cell? ⟨sb, so + k, none⟩ = some (.int .i64 (j : Int)) ∧ w'.cell? ⟨b1, o1 + j * 10 + 2, none⟩ = some (.int .i64 e.kind) ∧ w'.cell? ⟨b1, o1 + j * 10 + 3, none⟩ = some (.int .i64 e.gen) ∧ w'.cell? ⟨b1, o1 + j * 10 + 4, none⟩ = some (.slice e.fA e.files.length e.fC))) ((refine HS7.out _ ?_; (repeat (first | (with_reducible exact hb2) | (with_reducible exact hbw3) | (with_reducible refine Below.drew ?_) | (with_reducible refine bel2 ?_ _) | (with_reducible refine belset ?_ (by first | exact Nat.le_refl _ | exact Nat.le_succ _ | exact hle3 | exact Nat.le_succ_of_le hle3) _))))) (first | (go_at_call 15; (with_reducible refine (DC.out w2.drew hb2.drew).mono ?_); rintro x w3 ⟨V7, U7, rfl, hv3, hu3, hb3⟩; obtain ⟨A3, C3, rfl, _, _, _⟩ := own_arr hv3; obtain ⟨A4, C4, rfl, _, _, _⟩ := own_arr hu3; have HV3 := Lib.hid hv3; have HU3 := Lib.hid hu3; have hbw3 := below_on hb2.drew hb3; have HB3 := Lib.hid hbw3; have hle3 := hbw3.size; clear hv3 hu3) | ((go_at_call 15; (with_reducible refine (DC.out (w2.alloc (.cells #[Value.int .i64 0, .slice none 0 0] 27)).drew (bel2 hb2 _).drew).mono ?_); rintro x w3 ⟨V7, U7, rfl, hv3, hu3, hb3⟩; obtain ⟨A3, C3, rfl, _, _, _⟩ := own_arr hv3; obtain ⟨A4, C4, rfl, _, _, _⟩ := own_arr hu3; have HV3 := Lib.hid hv3; have HU3 := Lib.hid hu3; have hbw3 := below_on (bel2 hb2 _).drew hb3; have HB3 := Lib.hid hbw3; have hle3 := hbw3.size; clear hv3 hu3); have zL := (Blk.new w2 27 #[Value.int .i64 0, .slice none 0 0]).drew.below hb3 (by show _ < (w2.alloc _).heap.size; simp); obtain ⟨z0, z1, z2, z3⟩ := hcells zL; have z4 := fun o => (hcells (zL.alloc o)).1; have z5 := fun o => (hcells (zL.alloc o)).2.1; have z6 := fun o => (hcells (zL.alloc o)).2.2.1; have z7 := fun o => (hcells (zL.alloc o)).2.2.2; have n0 := zL.lt; have n1 : ¬ w2.heap.size = w3.heap.size := (by omega); have n2 : ¬ w3.heap.size = w2.heap.size := (by omega); have ZL := Lib.hid zL; clear zL) | ((go_at_call 15; (with_reducible refine (DC.out (w2.alloc (.cells #[Value.int .i64 0, .int .i64 0, .int .i64 0, .slice none 0 0, .slice none 0 0] 34)).drew (bel2 hb2 _).drew).mono ?_); rintro x w3 ⟨V7, U7, rfl, hv3, hu3, hb3⟩; obtain ⟨A3, C3, rfl, _, _, _⟩ := own_arr hv3; obtain ⟨A4, C4, rfl, _, _, _⟩ := own_arr hu3; have HV3 := Lib.hid hv3; have HU3 := Lib.hid hu3; have hbw3 := below_on (bel2 hb2 _).drew hb3; have HB3 := Lib.hid hbw3; have hle3 := hbw3.size; clear hv3 hu3); have zA := (Blk.new w2 34 #[Value.int .i64 0, .int .i64 0, .int .i64 0, .slice none 0 0, .slice none 0 0]).drew.below hb3 (by show _ < (w2.alloc _).heap.size; simp); obtain ⟨y0, y1, y2, y3, y4, y5, y6, y7, y8, y9⟩ := acells zA; have v0 := fun o => (acells (zA.alloc o)).1; have v1 := fun o => (acells (zA.alloc o)).2.1; have v2 := fun o => (acells (zA.alloc o)).2.2.1; have v3 := fun o => (acells (zA.alloc o)).2.2.2.1; have v4 := fun o => (acells (zA.alloc o)).2.2.2.2.1; have v5 := fun o => (acells (zA.alloc o)).2.2.2.2.2.1; have v6 := fun o => (acells (zA.alloc o)).2.2.2.2.2.2.1; have v7 := fun o => (acells (zA.alloc o)).2.2.2.2.2.2.2.1; have v8 := fun o => (acells (zA.alloc o)).2.2.2.2.2.2.2.2.1; have v9 := fun o => (acells (zA.alloc o)).2.2.2.2.2.2.2.2.2; have n0 := zA.lt; have n1 : ¬ w2.heap.size = w3.heap.size := (by omega); have n2 : ¬ w3.heap.size = w2.heap.size := (by omega); have ZA := Lib.hid zA; clear zA) | ((go_at_call 15; (with_reducible refine (DC.out ((w2.alloc (.cells #[Value.int .i64 0, .slice none 0 0] 27)).alloc (.cells #[Value.int .i64 0, .int .i64 0, .int .i64 0, .slice none 0 0, .slice none 0 0] 34)).drew (bel2 (bel2 hb2 _) _).drew).mono ?_); rintro x w3 ⟨V7, U7, rfl, hv3, hu3, hb3⟩; obtain ⟨A3, C3, rfl, _, _, _⟩ := own_arr hv3; obtain ⟨A4, C4, rfl, _, _, _⟩ := own_arr hu3; have HV3 := Lib.hid hv3; have HU3 := Lib.hid hu3; have hbw3 := below_on (bel2 (bel2 hb2 _) _).drew hb3; have HB3 := Lib.hid hbw3; have hle3 := hbw3.size; clear hv3 hu3); have zL := ((Blk.new w2 27 #[Value.int .i64 0, .slice none 0 0]).alloc (.cells #[Value.int .i64 0, .int .i64 0, .int .i64 0, .slice none 0 0, .slice none 0 0] 34)).drew.below hb3 (by show _ < ((w2.alloc _).alloc _).heap.size; simp; omega); have zA := (Blk.new' (w := w2.alloc (.cells #[Value.int .i64 0, .slice none 0 0] 27)) (g := w2.heap.size + 1) (by simp) 34 #[Value.int .i64 0, .int .i64 0, .int .i64 0, .slice none 0 0, .slice none 0 0]).drew.below hb3 (by show _ < ((w2.alloc _).alloc _).heap.size; simp); obtain ⟨z0, z1, z2, z3⟩ := hcells zL; obtain ⟨y0, y1, y2, y3, y4, y5, y6, y7, y8, y9⟩ := acells zA; have zL2 := setA_far zL (by omega : w2.heap.size ≠ w2.heap.size + 1) (.int .i64 er3) (.int .i64 ge3) (.int .i64 fo3) (.slice A4 F3.length C4) (.slice none 0 0); have zA2 := setL_far zA (by omega : w2.heap.size + 1 ≠ w2.heap.size) (.int .i64 fl3) (.slice A3 L3.length C3); obtain ⟨z4, z5, z6, z7⟩ := hcells zL2; obtain ⟨v0, v1, v2, v3, v4, v5, v6, v7, v8, v9⟩ := acells zA2; have ZL := Lib.hid zL; have ZA := Lib.hid zA; clear zL zA zL2 zA2) | ((go_at_call 15; (with_reducible refine (DC.out ((w2.alloc (.cells #[Value.int .i64 0, .int .i64 0, .int .i64 0, .slice none 0 0, .slice none 0 0] 34)).alloc (.cells #[Value.int .i64 0, .slice none 0 0] 27)).drew (bel2 (bel2 hb2 _) _).drew).mono ?_); rintro x w3 ⟨V7, U7, rfl, hv3, hu3, hb3⟩; obtain ⟨A3, C3, rfl, _, _, _⟩ := own_arr hv3; obtain ⟨A4, C4, rfl, _, _, _⟩ := own_arr hu3; have HV3 := Lib.hid hv3; have HU3 := Lib.hid hu3; have hbw3 := below_on (bel2 (bel2 hb2 _) _).drew hb3; have HB3 := Lib.hid hbw3; have hle3 := hbw3.size; clear hv3 hu3); have zA := ((Blk.new w2 34 #[Value.int .i64 0, .int .i64 0, .int .i64 0, .slice none 0 0, .slice none 0 0]).alloc (.cells #[Value.int .i64 0, .slice none 0 0] 27)).drew.below hb3 (by show _ < ((w2.alloc _).alloc _).heap.size; simp; omega); have zL := (Blk.new' (w := w2.alloc (.cells #[Value.int .i64 0, .int .i64 0, .int .i64 0, .slice none 0 0, .slice none 0 0] 34)) (g := w2.heap.size + 1) (by simp) 27 #[Value.int .i64 0, .slice none 0 0]).drew.below hb3 (by show _ < ((w2.alloc _).alloc _).heap.size; simp); obtain ⟨z0, z1, z2, z3⟩ := hcells zL; obtain ⟨y0, y1, y2, y3, y4, y5, y6, y7, y8, y9⟩ := acells zA; have zL2 := setA_far zL (by omega : w2.heap.size + 1 ≠ w2.heap.size) (.int .i64 er3) (.int .i64 ge3) (.int .i64 fo3) (.slice A4 F3.length C4) (.slice none 0 0); have zA2 := setL_far zA (by omega : w2.heap.size ≠ w2.heap.size + 1) (.int .i64 fl3) (.slice A3 L3.length C3); obtain ⟨z4, z5, z6, z7⟩ := hcells zL2; obtain ⟨v0, v1, v2, v3, v4, v5, v6, v7, v8, v9⟩ := acells zA2; have ZL := Lib.hid zL; have ZA := Lib.hid zA; clear zL zA zL2 zA2) | (fail))
          all_goals (try go_wp2_with fail)
          all_goals go_meet
          all_goals (first | (with_reducible exact cut_E1 (g := ⟨fl3, L3⟩) (a := ⟨er3, ge3, fo3, F3⟩) HV3.out HU3.out HB3.out) | (with_reducible exact cut_E2 (g := ⟨fl3, L3⟩) (a := ⟨er3, ge3, fo3, F3⟩) HV3.out HU3.out HB3.out) | (with_reducible exact cut_E3 (g := ⟨fl3, L3⟩) (a := ⟨er3, ge3, fo3, F3⟩) ZL.out k0 k1 k2 HV3.out HU3.out HB3.out) | (with_reducible exact cut_E4 (g := ⟨fl3, L3⟩) (a := ⟨er3, ge3, fo3, F3⟩) ZA.out k0 k3 k4 HV3.out HU3.out HB3.out) | (with_reducible exact cut_E5 (g := ⟨fl3, L3⟩) (a := ⟨er3, ge3, fo3, F3⟩) ZL.out ZA.out k0 k5 k6 k1 k2 k3 k4 HV3.out HU3.out HB3.out) | (with_reducible exact cut_E6 (g := ⟨fl3, L3⟩) (a := ⟨er3, ge3, fo3, F3⟩) ZL.out ZA.out k0 k5 k6 k1 k2 k3 k4 HV3.out HU3.out HB3.out) | (with_reducible exact cut_E5 (g := ⟨fl3, L3⟩) (a := ⟨er3, ge3, fo3, F3⟩) ZL.out ZA.out k5 k0 k6 k1 k2 k3 k4 HV3.out HU3.out HB3.out) | (with_reducible exact cut_E6 (g := ⟨fl3, L3⟩) (a := ⟨er3, ge3, fo3, F3⟩) ZL.out ZA.out k5 k0 k6 k1 k2 k3 k4 HV3.out HU3.out HB3.out))
        case rest =>
          obtain ⟨g9, g10, A3, C3, A4, C4, rfl, rfl, hL9, hA10, hv9, hu9, hbc, hg9⟩ := hcut
          obtain ⟨l0, l1, _, _⟩ := hcells hL9
          have hGc := HG2.out.below hbc HG2.out.lt
          obtain ⟨m0, m1, m2, m3⟩ := hcells hGc
          have hlG := HG2.out.lt
          have q1 : ¬ g9 = G := by omega
          have q2 : ¬ G = g9 := by omega
          have hbw := hB.trans ((below_on hb9 hbc).mono (Nat.le_of_lt HGi.out.lt))
          have HGN := Lib.hid (setL_blk hGc (.int .i64 fl3) (.slice A3 L3.length C3))
          have HVN := Lib.hid (setL_own hGc hv9 (by decide) (.int .i64 fl3) (.slice A3 L3.length C3))
          have HBN := Lib.hid (setL_be hbw (Nat.le_refl G) (.int .i64 fl3) (.slice A3 L3.length C3))
          clear hL9 hA10 hv9 hu9 hGc hbw
          go_wp2
          go_roundw
          case rel => unfold LwR; exact ⟨k + 1, ⟨fl3, L3⟩, _, by omega, by go_num, Lib.hid HSN.out.symm, HGN, HVN, HBN.out⟩
          case measure => simp [intOf] <;> omega
      · have kl : ¬ (k : Int) < s.length := by omega
        have hks : k = s.length := by omega
        subst hks
        have hBw := HB1.out.trans (hBw1.mono HB1.out.size)
        have AWB : Hid (∀ p : Cls wr, Calls Tryd.prog 18 #[] p.n fun e w' => e = .returned (.bool true) ∧ Below p.n.heap.size p.n w') := Lib.hid fun p => AW.out _ (below_on hBw p.h)
        clear hx hxg hvx hBw1 hBwL
        go_wp2
        refine wp_region_cls (by kernel_rfl) (by kernel_rfl) ?_
        repeat (go_big_quiet_step ((first | (go_at_call 16; with_reducible exact cls_call (LCB.out _)) | (go_at_call 18; with_reducible exact cls_call (AWB.out _)) | (fail))))
        refine wpQuiet_nil ?_
        intro w2 hw'
        obtain ⟨⟨w2', hb9⟩, hw''⟩ := hw'
        subst hw''
        go_wp2
        go_ret
        exact ⟨rfl, below_on hBw hb9⟩
end Go.Proofs.YtakdngcgjahafaaDoor
