/- Chapter 10: the walk through the reference's Told. -/
import Derived.Test.YtlfennooocmclaaDoorIm7
import Derived.RegionTactic
import Derived.ChangeAlike
namespace Go.Proofs.YtlfennooocmclaaDoor
open Go.RowKit
set_option linter.unusedVariables false

theorem infoSz : (Tryd.prog.info? 75).map (fun i => (i.zero, i.size, i.bytes)) = some (some (.agg #[.string ⟨#[]⟩, .int .i64 0, .string ⟨#[]⟩, .int .i64 0]), 4, 48) := by kernel_rfl
theorem sz_zero : (Value.agg #[.string ⟨#[]⟩, .int .i64 0, .string ⟨#[]⟩, .int .i64 0]).cells.size = 4 := rfl
theorem sz_one (t d : ByteArray) (m n : Int) : ∀ u ∈ (#[Value.string t, .int .i64 m, .string d, .int .i64 n] : Array Value).toList, u.oneCell' = true := by simp [Value.oneCell']
def scell (x : SzD) : List Value := [.string x.f.path, .int .i64 x.f.mode, .string x.f.data, .int .i64 (x.n : Int)]
def scells (l : List SzD) : List Value := (l.map scell).flatten
theorem scells_snoc (l : List SzD) (t d : ByteArray) (m : Int) (n : Nat) : scells (l ++ [⟨⟨t, m, d⟩, n⟩]) = scells l ++ (#[Value.string t, .int .i64 m, .string d, .int .i64 (n : Int)] : Array Value).toList := by
  unfold scells; rw [List.map_append, List.flatten_append]; rfl
theorem scell_at {l : List SzD} {k : Nat} {x : SzD} (h : l[k]? = some x) : (scells l)[k * 4]? = some (.string x.f.path) ∧ (scells l)[k * 4 + 1]? = some (.int .i64 x.f.mode) ∧ (scells l)[k * 4 + 2]? = some (.string x.f.data) ∧ (scells l)[k * 4 + 3]? = some (.int .i64 (x.n : Int)) := by
  have hl : ∀ r ∈ l.map scell, r.length = 4 := by
    intro r hr
    obtain ⟨f, _, rfl⟩ := List.mem_map.1 hr
    rfl
  have hx : (l.map scell)[k]? = some (scell x) := by rw [List.getElem?_map, h]; rfl
  unfold scells
  exact ⟨by rw [show k * 4 = k * 4 + 0 from rfl, flat_at _ k 0 _ hl hx (by omega)]; rfl, by rw [flat_at _ k 1 _ hl hx (by omega)]; rfl, by rw [flat_at _ k 2 _ hl hx (by omega)]; rfl, by rw [flat_at _ k 3 _ hl hx (by omega)]; rfl⟩
theorem qdr_alloc {w : World} {b : Nat} {r : Rd} (h : Qdr w b r) (o : Obj) : Qdr (w.alloc o) b r := Blk.alloc h o
theorem qdr_far {w : World} {b g i : Nat} {r : Rd} {u : Value} (h : Qdr w b r) (hg : b ≠ g) : Qdr (w.setCell ⟨g, i, none⟩ u) b r := Blk.far h hg u
theorem own_setbox {w : World} {base g i : Nat} {e : TypeId} {size n : Nat} {v u : Value} {xs : List Value} (h : w.ownsRow base e size v n xs) (hg : v.ownBlock ≠ some g) : (w.setCell ⟨g, i, none⟩ u).ownsRow base e size v n xs :=
  ((Fr.refl (fun k => k = g) w).setCell (p := ⟨g, i, none⟩) (.inl rfl) u).own h (fun k hk e => hg (by rw [hk, e]))
theorem own_new_ne {w : World} {base : Nat} {e : TypeId} {size n : Nat} {v : Value} {xs : List Value} (h : w.ownsRow base e size v n xs) : v.ownBlock ≠ some w.heap.size := fun e => Nat.lt_irrefl _ (h.lt _ e).2
theorem ne_some {a b : Nat} (h : a ≠ b) : some a ≠ some b := fun e => by injection e with e; exact h e
theorem hcells {W : World} {g : Nat} {t : TypeId} {u v : Value} (h : Blk W g t #[u, v]) : W.cell? ⟨g, 0, none⟩ = some u ∧ W.cell? ⟨g, 1, none⟩ = some v ∧ W.frozen? ⟨g, 0, none⟩ = false ∧ W.frozen? ⟨g, 1, none⟩ = false := ⟨h.cell 0, h.cell 1, h.frozen 0, h.frozen 1⟩
def ToldOut (w : World) (H : HdD) (e : Ending) (w' : World) : Prop := ∃ vo, e = .returned (.tuple #[.agg #[vo, .int .i64 (H.at_ : Int)], .int .i64 H.e]) ∧ w'.ownsRow w.heap.size 75 4 vo H.l.length (scells H.l) ∧ Below w.heap.size w w'
def QRel (w w2 : World) (N : Nat) (s : ByteArray) (H : HdD) (v : Value) (wr : World) : Prop := ∃ (k : Nat) (acc : List SzD) (r : Rd) (vo : Value), k ≤ N ∧ v = .int .i64 k ∧
  Hid (Blk wr w.heap.size 71 #[Value.slice none 0 0, .int .i64 0]) ∧ Hid (Blk wr (w.heap.size + 2) 71 #[vo, .int .i64 0]) ∧ wr.ownsRow w2.heap.size 75 4 vo acc.length (scells acc) ∧ acc.length ≤ k ∧
  Hid (∀ f ∈ hfiles acc, FOk f) ∧ Hid (Qdr wr (w.heap.size + 1) r) ∧ r.ok ∧ Hid (r.s = s) ∧ Hid (r.e = 0 → headEnd (headGo (N - k) acc r) = H) ∧ Hid (r.e ≠ 0 → H = ⟨r.e, [], 0⟩) ∧ w2.heap.size ≤ wr.heap.size ∧ Below w.heap.size w wr
set_option maxHeartbeats 4000000 in
set_option maxRecDepth 100000 in
theorem told_any (s : ByteArray) (w : World) (hs : s.size ≤ 524288) :
    Calls Tryd.prog 38 #[.string s] w (ToldOut w (headOf s)) := by
  obtain ⟨i1, gi0, gz0, gz1, gz2⟩ := info_parts infoFile
  obtain ⟨i2, si0, sz0, sz1, sz2⟩ := info_parts infoSz
  have ho0 : (⟨s, 0, 0⟩ : Rd).ok := ⟨Nat.zero_le _, by show s.size ≤ _; omega⟩
  have hct := fun b W h => qcount_any b ⟨s, 0, 0⟩ 256 W h ho0
  have ho1 := rdCount_ok' (m := 256) ho0
  have hs1 := rdCount_s ⟨s, 0, 0⟩ 256
  have hle := rdCount_most_ ⟨s, 0, 0⟩ (m := 256) (by decide)
  obtain ⟨H, hH⟩ : ∃ H, H = headOf s := ⟨_, rfl⟩
  rw [← hH]
  unfold headOf at hH
  have hpos := fun h => rdCount_pos (r := ⟨s, 0, 0⟩) (m := 256) h
  obtain ⟨N, r0, hx0⟩ : ∃ N r0, rdCount ⟨s, 0, 0⟩ 256 = (N, r0) := ⟨_, _, rfl⟩
  rw [hx0] at hct ho1 hs1 hle hH hpos
  simp only [] at hct ho1 hs1 hle hH hpos
  have HRS := Lib.hid hs1
  have HCT := Lib.hid hct
  have HEF : Hid (r0.e = 0 → headEnd (headGo (N - 0) [] r0) = H) := Lib.hid fun _ => hH.symm
  have HEB : Hid (r0.e ≠ 0 → H = ⟨r0.e, [], 0⟩) := Lib.hid fun h => by
    have hN : N = 0 := by
      rcases Nat.eq_zero_or_pos N with h0 | h0
      · exact h0
      · exact absurd (hpos h0) h
    rw [hH, hN]
    exact headEnd_bad h
  clear hct hs1 hx0 hH ho0 hpos
  have hr1 : Qdr ((w.alloc (.cells #[Value.slice none 0 0, .int .i64 0] 71)).alloc (.cells #[.string s, .int .i64 0, .int .i64 0] 90)) (w.heap.size + 1) ⟨s, 0, 0⟩ := by
    have h := Blk.new (w.alloc (.cells #[Value.slice none 0 0, .int .i64 0] 71)) 90 #[.string s, .int .i64 0, .int .i64 0]
    rwa [World.size_alloc] at h
  have hr1 := qdr_alloc hr1 (.cells #[Value.slice none 0 0, .int .i64 0] 71)
  have hza := ((Blk.new w 71 #[Value.slice none 0 0, .int .i64 0]).alloc (.cells #[.string s, .int .i64 0, .int .i64 0] 90)).alloc (.cells #[Value.slice none 0 0, .int .i64 0] 71)
  have hha : Blk (((w.alloc (.cells #[Value.slice none 0 0, .int .i64 0] 71)).alloc (.cells #[.string s, .int .i64 0, .int .i64 0] 90)).alloc (.cells #[Value.slice none 0 0, .int .i64 0] 71)) (w.heap.size + 2) 71 #[Value.slice none 0 0, .int .i64 0] := by
    have h := Blk.new ((w.alloc (.cells #[Value.slice none 0 0, .int .i64 0] 71)).alloc (.cells #[.string s, .int .i64 0, .int .i64 0] 90)) 71 #[Value.slice none 0 0, .int .i64 0]
    rwa [World.size_alloc, World.size_alloc] at h
  have hb1 : Below w.heap.size w (((w.alloc (.cells #[Value.slice none 0 0, .int .i64 0] 71)).alloc (.cells #[.string s, .int .i64 0, .int .i64 0] 90)).alloc (.cells #[Value.slice none 0 0, .int .i64 0] 71)) := (((Below.refl _ w).alloc (Nat.le_refl _) _).alloc (by simp) _).alloc (by simp; omega) _
  go_enter Tryd.func38, Tryd.ntmps38
  go_wp2_with (go_at_call 60; (with_reducible refine (HCT.out _ _ hr1).mono ?_); rintro e w2 ⟨rfl, hr2, hg2⟩)
  have hz2 := Blk.grown hza hg2 (ne_some (by omega))
  have hh2 := Blk.grown hha hg2 (ne_some (by omega))
  have hbl := Blk.lt hh2
  have hB2 : Below w.heap.size w w2 := hb1.grown hg2 hb1.size (fun j hj => by injection hj with hj; omega)
  have HZ2 := Lib.hid hz2
  have HH2 := Lib.hid hh2
  clear hza hha hb1 hz2 hh2 hr1
  go_loopw [7] (fun v wr => QRel w w2 N s H v wr) (fun v _ => N - (intOf v).toNat)
  case atStart => unfold QRel; exact ⟨0, [], r0, _, Nat.zero_le _, rfl, HZ2, HH2, World.ownsRow_nil _ _ _ _, Nat.le_refl _, Lib.hid (by simp [hfiles]), Lib.hid hr2, ho1, HRS, HEF, HEB, Nat.le_refl _, hB2⟩
  case round =>
    clear HZ2 HH2 hr2 HRS HEF HEB
    unfold QRel at hrel
    obtain ⟨k, acc, r, vo, hk, rfl, HZB, HHB, hown, hal, HI, HR, hok, hrs, HE1, HE2, hzz, hB⟩ := hrel
    have hbse := hB.size
    have hlt3 : w.heap.size + 2 < wr.heap.size := by omega
    have hlw : w.heap.size + 1 < wr.heap.size := by omega
    have hne : w.heap.size + 1 ≠ wr.heap.size := by omega
    have hq1 : w.heap.size + 1 < w2.heap.size := by omega
    have hq2 : w.heap.size + 2 < w2.heap.size := by omega
    have hng := own_new_ne hown
    have rc2 : wr.cell? ⟨w.heap.size + 1, 2, none⟩ = some (.int .i64 r.e) := HR.out.c2
    by_cases he0 : r.e = 0
    · by_cases hlt : k < N
      · obtain ⟨t, r1, m, r2, n, r3, h1, h2, h3, ⟨o1, o2, o3⟩, ⟨l1, l2, l3⟩, hs5⟩ := reads3 r hok
        have hc1 := fun W h => qtext_any (w.heap.size + 1) r 200 W h hok
        have hc2 := fun W h => qnum_any (w.heap.size + 1) r1 W h o1
        have hc3 := fun W h => qcount_any (w.heap.size + 1) r2 65536 W h o2
        rw [h1] at hc1
        rw [h2] at hc2
        rw [h3] at hc3
        simp only [] at hc1 hc2 hc3
        have HC1 := Lib.hid hc1
        have HC2 := Lib.hid hc2
        have HC3 := Lib.hid hc3
        have hN : N - k = (N - (k + 1)) + 1 := by omega
        have H2 := HE1.out he0
        rw [hN] at H2
        have hstep := Lib.hid (fun h0 => (congrArg headEnd (headGo_step (k := N - (k + 1)) (acc := acc) h1 h2 h3 h0)).symm.trans H2)
        have hstop := Lib.hid (fun h0 => H2.symm.trans (headGo_stop (k := N - (k + 1)) (acc := acc) h1 h2 h3 h0))
        have HRS3 : Hid (r3.s = s) := Lib.hid (hs5.trans hrs.out)
        have hts : t.size ≤ 524288 := by have := hrs.out; rw [this] at l1; omega
        have he' : (r.e == 0) = true := by rw [he0]; rfl
        have hd' : (k : Int) < N := by omega
        have HI2 : Hid (∀ f ∈ hfiles (acc ++ [(⟨⟨t, m, ⟨#[]⟩⟩, n⟩ : SzD)]), FOk f) := Lib.hid (by
          intro f hf
          rw [hfiles_snoc] at hf
          rcases List.mem_append.1 hf with h | h
          · exact HI.out f h
          · rw [List.mem_singleton] at h
            subst h
            exact ⟨by show t.size ≤ _; omega, by show (0 : Nat) ≤ _; omega⟩)
        clear hc1 hc2 hc3 h1 h2 h3 hN H2 HE1 HE2 hs5 hrs he0
        go_wp2_with (first
          | (go_at_call 61; (with_reducible refine (HC1.out _ (qdr_alloc HR.out (.cells #[Value.string ⟨#[]⟩, .int .i64 0, .string ⟨#[]⟩] 33))).mono ?_); rintro e w3 ⟨rfl, hr3, g3⟩; have hR3 := Lib.hid hr3; have hown3 := (hown.alloc (.cells #[Value.string ⟨#[]⟩, .int .i64 0, .string ⟨#[]⟩] 33)).kept g3 (.inr (own_ne hown hq1)); have hB3 := below_grown (hB.alloc hbse (.cells #[Value.string ⟨#[]⟩, .int .i64 0, .string ⟨#[]⟩] 33)) g3 (by omega); have hbox3 : Blk w3 wr.heap.size 33 #[Value.string ⟨#[]⟩, .int .i64 0, .string ⟨#[]⟩] := Blk.grown (Blk.new wr 33 #[Value.string ⟨#[]⟩, .int .i64 0, .string ⟨#[]⟩]) g3 (some_ne hlw); have y3 : w3.cell? ⟨wr.heap.size, 0, none⟩ = some (.string ⟨#[]⟩) := hbox3.cell 0; have z3 := hbox3.frozen 0; have hh3 := Lib.hid (Blk.grown (HHB.out.alloc (.cells #[Value.string ⟨#[]⟩, .int .i64 0, .string ⟨#[]⟩] 33)) g3 (ne_some (by omega))); have hz3 := Lib.hid (Blk.grown (HZB.out.alloc (.cells #[Value.string ⟨#[]⟩, .int .i64 0, .string ⟨#[]⟩] 33)) g3 (ne_some (by omega))))
          | (go_at_call 62; (with_reducible refine (HC2.out _ (qdr_far hR3.out hne)).mono ?_); rintro e w4 ⟨rfl, hr4, g4⟩; have hR4 := Lib.hid hr4; have hown4 := (own_setbox (i := 0) (u := .string t) hown3 hng).kept g4 (.inr (own_ne hown3 hq1)); have hB4 := below_grown (hB3.setCell (p := ⟨wr.heap.size, 0, none⟩) hbse _) g4 (by omega); have hbox4 : Blk w4 wr.heap.size 33 #[Value.string t, .int .i64 0, .string ⟨#[]⟩] := Blk.grown (hbox3.set_ 0 (.string t)) g4 (some_ne hlw); have y4 : w4.cell? ⟨wr.heap.size, 1, none⟩ = some (.int .i64 0) := hbox4.cell 1; have z4 := hbox4.frozen 1; have hh4 := Lib.hid (Blk.grown (hh3.out.far (p := ⟨wr.heap.size, 0, none⟩) (by show _ ≠ wr.heap.size; omega) (.string t)) g4 (ne_some (by omega))); have hz4 := Lib.hid (Blk.grown (hz3.out.far (p := ⟨wr.heap.size, 0, none⟩) (by show _ ≠ wr.heap.size; omega) (.string t)) g4 (ne_some (by omega))))
          | (go_at_call 60; (with_reducible refine (HC3.out _ (qdr_far hR4.out hne)).mono ?_); rintro e w5 ⟨rfl, hr5, g5⟩; have hR5 := Lib.hid hr5; have hown5 := (own_setbox (i := 1) (u := .int .i64 (m : Int)) hown4 hng).kept g5 (.inr (own_ne hown4 hq1)); have hB5 := below_grown (hB4.setCell (p := ⟨wr.heap.size, 1, none⟩) hbse _) g5 (by omega); have hbox5 : Blk w5 wr.heap.size 33 #[Value.string t, .int .i64 (m : Int), .string ⟨#[]⟩] := Blk.grown (hbox4.set_ 1 (.int .i64 (m : Int))) g5 (some_ne hlw); obtain ⟨k0, k1, k2⟩ := fbox_cells hbox5; have hh5 := Lib.hid (Blk.grown (hh4.out.far (p := ⟨wr.heap.size, 1, none⟩) (by show _ ≠ wr.heap.size; omega) (.int .i64 (m : Int))) g5 (ne_some (by omega))); have hz5 := Lib.hid (Blk.grown (hz4.out.far (p := ⟨wr.heap.size, 1, none⟩) (by show _ ≠ wr.heap.size; omega) (.int .i64 (m : Int))) g5 (ne_some (by omega))); obtain ⟨p0, p1, p2, p3⟩ := hcells hh5.out; have hs5 := hB5.size; have hlw5 := hbox5.lt; have hw5 : w2.heap.size ≤ w5.heap.size := by omega)
          | (at_builtin; refine wpList_push rfl _ _ _ rfl Tryd.underlying69 si0 sz0 sz1 sz2 sz_zero (by decide) hown5 rfl rfl rfl (sz_one t ⟨#[]⟩ m n) (by unfold maxLen; omega) (by omega) hw5 ?_; intro g7 cap7 w7 hown7 hgr7 hat7; have hh7 := Blk.grown hh5.out hgr7 (fun e => own_ne hown5 hq2 e.symm); obtain ⟨q0, q1, q2, q3⟩ := hcells hh7))
        have hR7 := Lib.hid (qdr_far (i := 0) (u := .slice (some ⟨g7, 0, none⟩) (acc.length + 1) cap7) (Blk.grown hR5.out hgr7 (fun e => own_ne hown5 hq1 e.symm) : Qdr w7 (w.heap.size + 1) r3) (show w.heap.size + 1 ≠ w.heap.size + 2 by omega))
        have hh8 := Lib.hid (show Blk _ _ _ #[Value.slice (some ⟨g7, 0, none⟩) (acc.length + 1) cap7, .int .i64 0] from hh7.set_ 0 (.slice (some ⟨g7, 0, none⟩) (acc.length + 1) cap7))
        have hz8 := Lib.hid (Blk.far (Blk.grown hz5.out hgr7 (fun e => own_ne hown5 (show w.heap.size < w2.heap.size by omega) e.symm)) (p := ⟨w.heap.size + 2, 0, none⟩) (by show w.heap.size ≠ w.heap.size + 2; omega) (.slice (some ⟨g7, 0, none⟩) (acc.length + 1) cap7))
        have hB7 := hB5.grown hgr7 hs5 (fun j hj => by have := (hown5.lt j hj).1; omega)
        have hB8 := hB7.setCell (p := ⟨w.heap.size + 2, 0, none⟩) (by show w.heap.size ≤ w.heap.size + 2; omega) (.slice (some ⟨g7, 0, none⟩) (acc.length + 1) cap7)
        have hown8 := own_setbox (i := 0) (u := .slice (some ⟨g7, 0, none⟩) (acc.length + 1) cap7) hown7 (own_ne hown7 hq2)
        have hz9 : w2.heap.size ≤ (w7.setCell ⟨w.heap.size + 2, 0, none⟩ (.slice (some ⟨g7, 0, none⟩) (acc.length + 1) cap7)).heap.size := by rw [World.size_setCell]; exact Nat.le_trans hw5 hgr7.size
        go_roundw
        case rel => unfold QRel; exact ⟨k + 1, acc ++ [⟨⟨t, m, ⟨#[]⟩⟩, n⟩], r3, _, by omega, by go_num, hz8, hh8, by rw [List.length_append, scells_snoc]; exact hown8, by simp; omega, HI2, hR7, o3, HRS3, hstep, hstop, hz9, hB8⟩
        case measure => simp [intOf] <;> omega
      · have hN0 : N - k = 0 := by omega
        have H2 := HE1.out he0
        rw [hN0] at H2
        have f2 := fun h2 => (headEnd_check (acc := acc) (r := r) he0 h2).symm.trans H2
        have f3 := fun h2 => (headEnd_ok (acc := acc) (r := r) he0 h2).symm.trans H2
        have hri := Lib.hid (fun A c W h => check_ref A c (hfiles acc) W (by rw [hfiles_len]; omega) HI.out h)
        rw [hfiles_len] at hri
        have he' : (r.e == 0) = true := by rw [he0]; rfl
        have hd' : ¬ (k : Int) < N := by omega
        have hE : checkE (acc.map (·.f)) = checkE (hfiles acc) := rfl
        rw [hE] at f2 f3
        generalize checkE (hfiles acc) = G at *
        have hRq : Qdr wr (w.heap.size + 1) r := HR.out
        have rc1 : wr.cell? ⟨w.heap.size + 1, 1, none⟩ = some (.int .i64 r.at_) := hRq.c1
        obtain ⟨A2, c2, rfl, hcap2, ha2, hfr2⟩ := own_arr hown
        have HA2 := Lib.hid ha2
        obtain ⟨p0, p1, p2, p3⟩ := hcells HHB.out
        obtain ⟨n0, n1, n2, n3⟩ := hcells HZB.out
        clear H2 HE1 HE2 hN0 hrs hE ha2 hRq he0
        go_wp2
        obtain ⟨w8, rfl⟩ : ∃ w8, w8 = wr := ⟨_, rfl⟩
        go_loopw [10, 11] (fun vl v wr => ∃ (j : Nat), j ≤ acc.length ∧ v = .int .i64 j ∧ wr.ownsRow w8.heap.size 33 3 vl j (fcells ((hfiles acc).take j)) ∧ Below w8.heap.size w8 wr) (fun _ v _ => acc.length - (intOf v).toNat)
        case atStart => exact ⟨0, Nat.zero_le _, rfl, World.ownsRow_nil _ _ _ _, Below.refl _ _⟩
        case round =>
          obtain ⟨j, hj, rfl, hownL, hBL⟩ := hrel
          have hbs8 := hBL.size
          have s0 := (hBL.cell (p := ⟨w.heap.size + 2, 0, none⟩) (by show w.heap.size + 2 < _; omega)).trans p0
          by_cases hlt2 : j < acc.length
          · obtain ⟨x, hx⟩ : ∃ x, acc[j]? = some x := ⟨_, List.getElem?_eq_getElem hlt2⟩
            obtain ⟨b, o, rfl, hb, hcell⟩ := HA2.out.2 (by omega)
            obtain ⟨y0, y1, y2, y3⟩ := scell_at hx
            have d0 := (hBL.cell (p := ⟨b, o + j * 4, none⟩) hb).trans (hcell _ _ y0)
            have d1 := (hBL.cell (p := ⟨b, o + (j * 4 + 1), none⟩) hb).trans (hcell _ _ y1)
            have d2 := (hBL.cell (p := ⟨b, o + (j * 4 + 2), none⟩) hb).trans (hcell _ _ y2)
            rw [← Nat.add_assoc] at d1 d2
            have hfx : (hfiles acc)[j]? = some x.f := by unfold hfiles; rw [List.getElem?_map, hx]; rfl
            have HT := Lib.hid (show fcells ((hfiles acc).take (j + 1)) = fcells ((hfiles acc).take j) ++ (#[Value.string x.f.path, .int .i64 x.f.mode, .string x.f.data] : Array Value).toList by rw [take_snoc hfx, fcells_snoc])
            have jl : (j : Int) < acc.length := by omega
            clear hx hcell y0 y1 y2 y3 hfx
            go_wp2_with (at_builtin; refine wpList_push rfl _ _ _ rfl Tryd.underlying22 gi0 gz0 gz1 gz2 file_zero (by decide) hownL rfl rfl rfl (file_one x.f) (by unfold maxLen; omega) (by omega) hbs8 ?_; intro g6 cap6 w6 hown6 hgr6 hat6; have hB6 := hBL.grown hgr6 hbs8 (fun j hj => (hownL.lt j hj).1))
            go_roundw
            case rel => exact ⟨j + 1, by omega, by go_num, by rw [HT.out]; exact hown6, hB6⟩
            case measure => simp [intOf] <;> omega
          · have hje : j = acc.length := by omega
            subst hje
            rw [show (hfiles acc).take acc.length = hfiles acc from List.take_of_length_le (by rw [hfiles_len]; exact Nat.le_refl _)] at hownL
            obtain ⟨A3, c3, rfl, hcap3, ha3, hfr3⟩ := own_arr hownL
            have HCK := Lib.hid (hri.out A3 c3 wr ha3)
            have hBw := below_on hB hBL
            clear ha3 hfr3
            by_cases hG : G = 0
            · have f3 := f3 hG
              subst f3
              have hG' : (G == 0) = true := by rw [hG]; rfl
              clear f2 hG
              go_wp2_with (go_at_call 33; (with_reducible refine HCK.out.mono ?_); rintro e w9 ⟨rfl, hb9⟩; have hBL9 := below_on hBL hb9; have t1 := (hBL9.cell (p := ⟨w.heap.size + 1, 1, none⟩) (by show w.heap.size + 1 < _; omega)).trans rc1; have hh9 := Blk.below HHB.out hBL9 (by omega); have hz9 := Blk.below HZB.out hBL9 (by omega); obtain ⟨u0, u1, u2, u3⟩ := hcells hh9; obtain ⟨v0, v1, v2, v3⟩ := hcells hz9; have hh10 : Blk (w9.setCell ⟨w.heap.size + 2, 1, none⟩ (.int .i64 (r.at_ : Int))) (w.heap.size + 2) 71 #[.slice A2 acc.length c2, .int .i64 (r.at_ : Int)] := hh9.set_ 1 _; have hz10 := hz9.far (p := ⟨w.heap.size + 2, 1, none⟩) (by show w.heap.size ≠ w.heap.size + 2; omega) (.int .i64 (r.at_ : Int)); obtain ⟨x0, x1, x2, x3⟩ := hcells hh10; obtain ⟨z0, z1, z2, z3⟩ := hcells hz10)
              have hz12 : Blk _ w.heap.size 71 #[.slice A2 acc.length c2, .int .i64 (r.at_ : Int)] := (hz10.set_ 0 (.slice A2 acc.length c2)).set_ 1 (.int .i64 (r.at_ : Int))
              obtain ⟨t0, t1', _, _⟩ := hcells hz12
              refine bodyPost_ret (v := .tuple #[.agg #[.slice A2 acc.length c2, .int .i64 (r.at_ : Int)], .int .i64 0]) (by simp [results, Tryd.results38, go_sem, t0, t1']) rfl ?_
              unfold ToldOut
              have hown9 := own_below hown hBL9
              have hBw9 := below_on hBw hb9
              exact ⟨_, rfl, own_mono (own_setbox (own_setbox (own_setbox hown9 (own_ne hown9 hq2)) (own_ne hown9 (show w.heap.size < w2.heap.size by omega))) (own_ne hown9 (show w.heap.size < w2.heap.size by omega))) (by omega), ((hBw9.setCell (p := ⟨w.heap.size + 2, 1, none⟩) (by show w.heap.size ≤ w.heap.size + 2; omega) _).setCell (p := ⟨w.heap.size, 0, none⟩) (Nat.le_refl _) _).setCell (p := ⟨w.heap.size, 1, none⟩) (Nat.le_refl _) _⟩
            · have f2 := f2 hG
              subst f2
              have hG' : (G == 0) = false := by rw [beq_eq_false_iff_ne]; exact hG
              clear f3 hG
              go_wp2_with (go_at_call 33; (with_reducible refine HCK.out.mono ?_); rintro e w9 ⟨rfl, hb9⟩; have hBL9 := below_on hBL hb9; have hz9 := Blk.below HZB.out hBL9 (by omega); obtain ⟨v0, v1, v2, v3⟩ := hcells hz9)
              have hz12 : Blk _ w.heap.size 71 #[Value.slice none 0 0, .int .i64 0] := (hz9.set_ 0 (.slice none 0 0)).set_ 1 (.int .i64 0)
              obtain ⟨t0, t1', _, _⟩ := hcells hz12
              refine bodyPost_ret (v := .tuple #[.agg #[.slice none 0 0, .int .i64 0], .int .i64 G]) (by simp [results, Tryd.results38, go_sem, t0, t1']) rfl ?_
              unfold ToldOut
              exact ⟨_, rfl, World.ownsRow_nil _ _ _ _, ((below_on hBw hb9).setCell (p := ⟨w.heap.size, 0, none⟩) (Nat.le_refl _) _).setCell (p := ⟨w.heap.size, 1, none⟩) (Nat.le_refl _) _⟩
    · have f1 := HE2.out he0
      subst f1
      have he' : (r.e == 0) = false := by rw [beq_eq_false_iff_ne]; exact he0
      obtain ⟨n0, n1, n2, n3⟩ := hcells HZB.out
      clear HE1 HE2 he0 hrs
      by_cases hlt : (k : Int) < N
      · go_wp2
        go_region
        all_goals
          go_wp2
          have hz12 : Blk _ w.heap.size 71 #[Value.slice none 0 0, .int .i64 0] := (((HZB.out).set_ 0 (.slice none 0 0)).set_ 1 (.int .i64 0)).drew
          obtain ⟨t0, t1', _, _⟩ := hcells hz12
          refine bodyPost_ret (v := .tuple #[.agg #[.slice none 0 0, .int .i64 0], .int .i64 r.e]) (by simp [results, Tryd.results38, go_sem, t0, t1']) rfl ?_
          unfold ToldOut
          exact ⟨_, rfl, World.ownsRow_nil _ _ _ _, Below.drew ((hB.setCell (p := ⟨w.heap.size, 0, none⟩) (Nat.le_refl _) _).setCell (p := ⟨w.heap.size, 1, none⟩) (Nat.le_refl _) _)⟩
      · go_wp2
        go_region
        all_goals
          go_wp2
          have hz12 : Blk _ w.heap.size 71 #[Value.slice none 0 0, .int .i64 0] := (((HZB.out).set_ 0 (.slice none 0 0)).set_ 1 (.int .i64 0)).drew
          obtain ⟨t0, t1', _, _⟩ := hcells hz12
          refine bodyPost_ret (v := .tuple #[.agg #[.slice none 0 0, .int .i64 0], .int .i64 r.e]) (by simp [results, Tryd.results38, go_sem, t0, t1']) rfl ?_
          unfold ToldOut
          exact ⟨_, rfl, World.ownsRow_nil _ _ _ _, Below.drew ((hB.setCell (p := ⟨w.heap.size, 0, none⟩) (Nat.le_refl _) _).setCell (p := ⟨w.heap.size, 1, none⟩) (Nat.le_refl _) _)⟩
end Go.Proofs.YtlfennooocmclaaDoor
