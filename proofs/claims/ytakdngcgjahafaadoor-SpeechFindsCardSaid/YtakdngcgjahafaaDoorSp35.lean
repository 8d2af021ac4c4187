/- Chapter 22: the document's can: all orders are tried. -/
import Derived.Test.YtakdngcgjahafaaDoorSp28
namespace Go.Proofs.YtakdngcgjahafaaDoor
open Go.RowKit
set_option linter.unusedVariables false

/-- Where no order is found there is none. -/
def CanOut (w : World) (l : List EvD) (d : List Bool) (g : LogD) (x : Ending) (w' : World) : Prop := ∃ t : Bool, x = .returned (.bool t) ∧ (t = true → ∃ s, holdsGo tells l s d g = true) ∧ Below w.heap.size w w'
def CanR (W : World) (n : Nat) (v : Value) (wr : World) : Prop := ∃ k : Nat, k ≤ n ∧ v = .int .i64 k ∧ Below W.heap.size W wr
theorem CanOut.none {w : World} {l : List EvD} {d : List Bool} {g : LogD} {w' : World} (h : Below w.heap.size w w') : CanOut w l d g (.returned (.bool false)) w' := ⟨false, rfl, fun h => (Bool.false_ne_true h).elim, h⟩
theorem own_lit0 (w : World) (o : Obj) (t : TypeId) : ((w.alloc o).alloc (.cells #[] t)).ownsRow (w.heap.size + 1) t 1 (.slice (some ⟨w.heap.size + 1, 0, none⟩) 0 0) 0 [] := by
  have h : ((w.alloc o).alloc (.cells #[] t)).ownsRow (w.alloc o).heap.size t 1 (.slice (some ⟨(w.alloc o).heap.size, 0, none⟩) 0 0) 0 [] := World.ownsRow_lit (w.alloc o) #[] 0 (Nat.le_refl _) (by simp [maxLen]) (by simp)
  rw [World.size_alloc] at h
  exact h
theorem map_set (d : List Bool) (k : Nat) (q : Bool) : (d.map Value.bool).set k (.bool q) = (d.set k q).map Value.bool := List.map_set.symm
set_option maxHeartbeats 8000000 in
set_option maxRecDepth 100000 in
theorem can_ref (w0 : World) (hm : Ml w0) {V : Value} {l : List EvD} (hl : l.length ≤ 256) (hE : ∀ e ∈ l, EFit e) : ∀ (n : Nat) (d : List Bool) (g : LogD) (W : World) (VD VG : Value), undone d < n → d.length = l.length → GoodL g (300 - undone d) →
    Below w0.heap.size w0 W → Hist W V l → W.ownsRow 0 4 1 VD l.length (d.map Value.bool) → W.ownsRow 0 9 1 VG g.trees.length (g.trees.map Value.string) →
    Calls Tryd.prog 23 #[V, VD, .agg #[.int .i64 g.floor, VG]] W (CanOut W l d g)
  | 0, d, g, W, VD, VG, h, _, _, _, _, _, _ => absurd h (Nat.not_lt_zero _)
  | n + 1, d, g, W, VD, VG, hun, hdl, hg, hw0, hh, hd, hv => by
    obtain ⟨i0, hi0, hz0, hz1, hz2⟩ := info_parts infoBool
    have IH := Lib.hid (can_ref w0 hm (V := V) hl hE n)
    have OV := Lib.hid (fun X (h : Below W.heap.size W X) => over_ref X (hh.below h) (own_below hd h) hdl hl)
    obtain ⟨GA, GC, rfl, _, _, _⟩ := own_arr hv
    obtain ⟨AD, CD, rfl, _, had, _⟩ := own_arr hd
    have NXX := Lib.hid (fun X (h : Below W.heap.size W X) (k : Nat) (e : EvD) (he : l[k]? = some e) => next_ref X (hm.on (hw0.trans (h.mono hw0.size))) (hh.below h) (own_below hd h) hdl hl he (hE e (List.mem_of_getElem? he)) hg (by omega) (own_below hv h))
    have HH := Lib.hid hh
    have HV := Lib.hid hv
    have HAD := Lib.hid had
    have HDd := Lib.hid hd
    have HG := Lib.hid hg
    have hX1 : Below W.heap.size W (W.alloc (.cells #[Value.int .i64 g.floor, .slice GA g.trees.length GC] 27)) := (Below.refl _ W).alloc (Nat.le_refl _) _
    have HB0 := Lib.hid (Blk.new W 27 #[Value.int .i64 g.floor, .slice GA g.trees.length GC])
    obtain ⟨V0, rfl⟩ : ∃ x, x = V := ⟨_, rfl⟩
    obtain ⟨A, c, rfl, _, _, _⟩ := own_arr hh.row
    cases hov : overP l d with
    | true =>
      have HT : Hid (∃ s, holdsGo tells l s d g = true) := Lib.hid ⟨[], by rw [holdsGo]; exact hov⟩
      rw [hov] at OV
      clear hh hv had hd hg hov IH NXX
      go_enter Tryd.func23, Tryd.ntmps23
      go_wp2_with (go_at_call 43; (with_reducible refine (OV.out _ hX1).mono ?_); rintro x w2 ⟨rfl, hb2⟩)
      go_ret
      exact ⟨true, rfl, fun _ => HT.out, below_on hX1 hb2⟩
    | false =>
      rw [hov] at OV
      clear hh hv had hd hg hov
      go_enter Tryd.func23, Tryd.ntmps23
      go_wp2_with (go_at_call 43; (with_reducible refine (OV.out _ hX1).mono ?_); rintro x w1 ⟨rfl, hb1⟩; have hB1 := below_on hX1 hb1)
      go_loopw [7] (fun v wr => CanR W l.length v wr ∧ Hid (Blk wr W.heap.size 27 #[Value.int .i64 g.floor, .slice GA g.trees.length GC])) (fun v _ => l.length - (intOf v).toNat)
      case atStart => unfold CanR; exact ⟨⟨0, Nat.zero_le _, rfl, hB1⟩, Lib.hid (HB0.out.below hb1 HB0.out.lt)⟩
      case round =>
        unfold CanR at hrel
        obtain ⟨⟨k, hk, rfl, hB⟩, HBB⟩ := hrel
        by_cases hlt : k < l.length
        · obtain ⟨e, he⟩ : ∃ e, l[k]? = some e := ⟨_, List.getElem?_eq_getElem hlt⟩
          obtain ⟨q, hq⟩ : ∃ q, d[k]? = some q := ⟨_, List.getElem?_eq_getElem (by omega)⟩
          have kl : (k : Int) < l.length := by omega
          obtain ⟨b2, o2, rfl, hb2', hdc⟩ := HAD.out.2 (by omega)
          have y0 := (hB.cell (p := ⟨b2, o2 + k, none⟩) hb2').trans (hdc k _ (by rw [List.getElem?_map, hq]; rfl))
          obtain ⟨z0, z1, _, _⟩ := hcells HBB.out
          cases q with
          | true =>
            clear hdc hq he
            go_wp2
            (go_roundw; (case rel => unfold CanR; exact ⟨⟨k + 1, by omega, by go_num, hB⟩, HBB⟩); (case measure => simp [intOf] <;> omega))
          | false =>
            have NX := Lib.hid (NXX.out wr hB k e he)
            unfold NextOut at NX
            have hgd := Lib.hid (do_good HG.out (callOf e))
            have hun2 := Lib.hid (undone_set hq)
            have HHT : Hid ((freeGo k e.asked 0 l d && tells g e) = true → ∀ s, holdsGo tells l s (d.set k true) (doP g (callOf e)).1 = true → ∃ s, holdsGo tells l s d g = true) := Lib.hid fun h s hs => ⟨(k : Int) :: s, by
              rw [holds_cons he, List.getD_eq_getElem?_getD, hq, hs]
              simpa using h⟩
            generalize doP g (callOf e) = DR at *
            obtain ⟨⟨fl3, L3⟩, AN⟩ := DR
            simp only [] at NX
            cases hT9 : (freeGo k e.asked 0 l d && tells g e) with
            | false =>
              have HT9 := Lib.hid hT9
              clear hT9 hdc hq he HHT
              go_wp2_with (go_at_call 42; (with_reducible refine (NX.out).mono ?_); rintro x w2 ⟨fl9, A9, n9, c9, t9, rfl, ht9, htt, hb2⟩; rw [HT9.out] at ht9; subst ht9)
              have hB9 := (below_on hB hb2).alloc (below_on hB hb2).size (.cells #[Value.int .i64 fl9, .slice A9 n9 c9] 27)
              (go_roundw; (case rel => unfold CanR; exact ⟨⟨k + 1, by omega, by go_num, hB9⟩, (Lib.hid ((HBB.out.below hb2 HBB.out.lt).alloc _))⟩); (case measure => simp [intOf] <;> omega))
            | true =>
              have HT9 := Lib.hid hT9
              have HHU := Lib.hid (HHT.out hT9)
              have HQ := Lib.hid hq
              clear hT9 hdc hq he HHT
              go_wp2_with (first
                | ((go_at_call 42; (with_reducible refine (NX.out).mono ?_); rintro x w2 ⟨fl9, A9, n9, c9, t9, rfl, ht9, htt, hb2⟩; rw [HT9.out] at ht9; subst ht9); obtain ⟨e1, e2, hv9⟩ := htt rfl; have e1' := e1.symm; subst e1'; subst e2; have hqx := ((below_on hB hb2).alloc (below_on hB hb2).size (.cells #[Value.int .i64 fl3, .slice A9 L3.length c9] 27)).alloc (by simp; exact Nat.le_succ_of_le (below_on hB hb2).size) (.cells #[] 4); have hnew := own_lit0 w2 (.cells #[Value.int .i64 fl3, .slice A9 L3.length c9] 27) 4; have HV9 := Lib.hid hv9; have HB2 := Lib.hid hb2; clear hv9 htt)
                | (at_builtin; refine wpList_append_arr _ rfl _ _ 51 rfl Tryd.underlying51 hi0 hz0 hz1 hz2 rfl (by decide) hnew rfl rfl (HAD.out.below hqx) (by intro u hu; obtain ⟨x, _, rfl⟩ := List.mem_map.1 hu; rfl) (by rw [Nat.zero_add]; unfold maxLen; omega) (by rw [Nat.zero_add]; omega) (by simp) ?_; intro v5 w5 hown5 hgr5 hat5; rw [Nat.zero_add, List.nil_append] at hown5; obtain ⟨g5, c5, rfl, hg5, _⟩ := hown5.form (by omega); have hst := (hown5.stored k (.bool true)).1; rw [map_set] at hst; have hfz := hown5.frozenAt k; have hce := hown5.cellAt k (by omega); rw [List.getElem?_map, HQ.out] at hce; have hce' : w5.cell? ⟨g5, k, none⟩ = some (.bool false) := hce; have hls := HB2.out.size; have hnx : w2.heap.size ≠ g5 := (by have := (hown5.lt g5 rfl).1; omega); have q1 : ¬ w2.heap.size = g5 := hnx; have q2 : ¬ g5 = w2.heap.size := hnx.symm; have hlx : Blk w5 w2.heap.size 27 #[Value.int .i64 fl3, .slice A9 L3.length c9] := ((Blk.new w2 27 #[Value.int .i64 fl3, .slice A9 L3.length c9]).alloc (.cells #[] 4)).grown hgr5 (by simp [Value.ownBlock]); obtain ⟨j0, j1, _, _⟩ := hcells (hlx.far (p := ⟨g5, k, none⟩) hnx (.bool true)); have hb25 := ((((Below.refl _ w2).alloc (Nat.le_refl _) (.cells #[Value.int .i64 fl3, .slice A9 L3.length c9] 27)).alloc (by simp) (.cells #[] 4)).grown hgr5 (by simp; omega) (fun q hq => by simp [Value.ownBlock] at hq; omega)).setCell (p := ⟨g5, k, none⟩) (by have := (hown5.lt g5 rfl).1; show _ ≤ g5; omega) (.bool true); have HST5 := Lib.hid hst; have HB25 := Lib.hid hb25; clear hst hown5 hce hb25)
                | (fail))
              go_at_call 23
              have hx1 := own_mono HST5.out (Nat.zero_le _)
              have hx2 := own_below HV9.out HB25.out
              have hbx := below_on hB (below_on HB2.out HB25.out)
              with_reducible refine (IH.out (d.set k true) ⟨fl3, L3⟩ _ _ (.slice A9 L3.length c9) (by have := hun2.out; omega) (by rw [List.length_set]; exact hdl) ?_ (hw0.trans (hbx.mono hw0.size)) (HH.out.below hbx) hx1 hx2).mono ?_
              · have h1 := hgd.out
                have h2 := hun2.out
                have h3 := undone_le d
                exact ⟨h1.f0, h1.f1, Nat.le_trans h1.n (by omega), h1.s⟩
              · rintro x w7 ⟨t, rfl, ht, hb7⟩
                have hB7 := below_on hbx hb7
                have HBB7 := Lib.hid ((HBB.out.below (below_on HB2.out HB25.out) HBB.out.lt).below hb7 (Nat.lt_of_lt_of_le HBB.out.lt (below_on HB2.out HB25.out).size))
                cases t with
                | true =>
                  have HT : Hid (∃ s, holdsGo tells l s d g = true) := Lib.hid (by obtain ⟨s, hs⟩ := ht rfl; exact HHU.out s hs)
                  clear ht
                  go_wp2
                  go_ret
                  exact ⟨true, rfl, fun _ => HT.out, hB7⟩
                | false =>
                  clear ht
                  go_wp2
                  (go_roundw; (case rel => unfold CanR; exact ⟨⟨k + 1, by omega, by go_num, hB7⟩, HBB7⟩); (case measure => simp [intOf] <;> omega))
        · have kl : ¬ (k : Int) < l.length := by omega
          go_wp2
          go_ret
          exact CanOut.none hB
end Go.Proofs.YtakdngcgjahafaaDoor
