/- Chapter 10: the walk through the reference's Tree; cut. -/
import Derived.Test.YtlfennooocmclaaDoorIm8
namespace Go.Proofs.YtlfennooocmclaaDoor
open Go.RowKit
set_option linter.unusedVariables false

theorem xbox_cells {W : World} {g : Nat} {t : TypeId} {p d : ByteArray} {m n : Int} (h : Blk W g t #[.string p, .int .i64 m, .string d, .int .i64 n]) :
    W.cell? ⟨g, 0, none⟩ = some (.string p) ∧ W.cell? ⟨g, 1, none⟩ = some (.int .i64 m) ∧ W.cell? ⟨g, 2, none⟩ = some (.string d) ∧ W.cell? ⟨g, 3, none⟩ = some (.int .i64 n) := ⟨h.cell 0, h.cell 1, h.cell 2, h.cell 3⟩
def RTRel (w w2 : World) (s : ByteArray) (L : List SzD) (T : Int × List FileD) (va vo v : Value) (wr : World) : Prop := ∃ (k a : Nat) (done : List FileD), k ≤ L.length ∧ v = .int .i64 k ∧ va = .int .i64 a ∧ a ≤ s.size ∧
  wr.ownsRow w2.heap.size 33 3 vo done.length (fcells done) ∧ done.length ≤ k ∧ Hid (treeGo s (L.drop k) a done = T) ∧ Below w2.heap.size w2 wr
set_option maxHeartbeats 4000000 in
set_option maxRecDepth 100000 in
theorem tree_ref (s : ByteArray) (w : World) (hs : s.size ≤ 9223372036854775807) :
    Calls Tryd.prog 18 #[.string s] w (TreeOut w (treeOf s)) := by
  obtain ⟨i1, gi0, gz0, gz1, gz2⟩ := info_parts infoFile
  by_cases hbig : 524288 < s.size
  · have hb : (524288 : Int) < s.size := by omega
    rw [show treeOf s = (4, []) from if_pos hbig]
    go_enter Tryd.func18, Tryd.ntmps18
    go_wp2
    go_ret2
    unfold TreeOut
    exact ⟨_, rfl, World.ownsRow_nil _ _ _ _, Below.refl _ _⟩
  · have hb : ¬ (524288 : Int) < s.size := by omega
    have hh := told_any s w (by omega)
    obtain ⟨hfa, hfn⟩ := headOf_facts s hs
    have hLl := head_len s
    have hT : treeOf s = if (headOf s).e = 0 then treeGo s (headOf s).l (headOf s).at_ [] else ((headOf s).e, []) := if_neg hbig
    unfold ToldOut at hh
    rw [hT]
    clear hT
    generalize headOf s = H at *
    obtain ⟨E, L, a0⟩ := H
    simp only [] at *
    have HH := Lib.hid hh
    have HFN := Lib.hid hfn
    clear hh hfn
    by_cases hE : E = 0
    · subst hE
      rw [if_pos rfl]
      generalize hT : treeGo s L a0 [] = T
      have HT : Hid (treeGo s (L.drop 0) a0 [] = T) := Lib.hid hT
      clear hT
      go_enter Tryd.func18, Tryd.ntmps18
      go_wp2_with (go_at_call 38; (with_reducible refine HH.out.mono ?_); rintro e w1 ⟨vo, rfl, hown, hB⟩; obtain ⟨A2, c2, rfl, hcap2, ha2, hfr2⟩ := own_arr hown; have hB1 := hB.alloc hB.size (.cells #[.slice A2 L.length c2, .int .i64 (a0 : Int)] 71); have HA2 := Lib.hid (ha2.alloc (Nat.le_refl _) (.cells #[.slice A2 L.length c2, .int .i64 (a0 : Int)] 71)); obtain ⟨h0, h1, _, _⟩ := hcells (Blk.new w1 71 #[.slice A2 L.length c2, .int .i64 (a0 : Int)]); clear ha2 hfr2 hown)
      obtain ⟨w2, hw2⟩ : ∃ w2, w2 = w1.alloc (.cells #[.slice A2 L.length c2, .int .i64 (a0 : Int)] 71) := ⟨_, rfl⟩
      have hsz2 : w1.heap.size < w2.heap.size := by rw [hw2]; simp
      rw [← hw2] at hB1 HA2 h0 h1 ⊢
      have HW2 := Lib.hid hw2
      clear hw2
      go_loopw [6, 7, 8] (fun va vo v wr => RTRel w w2 s L T va vo v wr) (fun _ _ v _ => L.length - (intOf v).toNat)
      case atStart => unfold RTRel; exact ⟨0, a0, [], Nat.zero_le _, rfl, rfl, hfa, World.ownsRow_nil _ _ _ _, Nat.le_refl _, HT, Below.refl _ _⟩
      case round =>
        unfold RTRel at hrel
        clear HT
        obtain ⟨k, a, done, hk, rfl, rfl, ha, hownD, hdl, HK, hBB⟩ := hrel
        have hbse := hBB.size
        have q0 := (hBB.cell (p := ⟨w1.heap.size, 0, none⟩) hsz2).trans h0
        by_cases hlt : k < L.length
        · obtain ⟨x, hx⟩ : ∃ x, L[k]? = some x := ⟨_, List.getElem?_eq_getElem hlt⟩
          obtain ⟨b, o, rfl, hb2, hcell⟩ := HA2.out.2 (by omega)
          obtain ⟨y0, y1, y2, y3⟩ := scell_at hx
          have hb3 : b < w2.heap.size := by omega
          have d0 := (hBB.cell (p := ⟨b, o + k * 4, none⟩) hb3).trans (hcell _ _ y0)
          have d1 := (hBB.cell (p := ⟨b, o + (k * 4 + 1), none⟩) hb3).trans (hcell _ _ y1)
          have d2 := (hBB.cell (p := ⟨b, o + (k * 4 + 2), none⟩) hb3).trans (hcell _ _ y2)
          have d3 := (hBB.cell (p := ⟨b, o + (k * 4 + 3), none⟩) hb3).trans (hcell _ _ y3)
          rw [← Nat.add_assoc] at d1 d2 d3
          have hxn := HFN.out x (List.mem_of_getElem? hx)
          have kl : (k : Int) < L.length := by omega
          have hbox := Blk.new wr 75 #[.string x.f.path, .int .i64 x.f.mode, .string x.f.data, .int .i64 (x.n : Int)]
          obtain ⟨k0, k1, k2, k3⟩ := xbox_cells hbox
          by_cases hsh : s.size < a + x.n
          · have hd : (s.size : Int) - a < x.n := by omega
            have hst := (treeGo_short hx hsh).symm.trans HK.out
            subst hst
            have hBx := hBB.alloc hbse (.cells #[.string x.f.path, .int .i64 x.f.mode, .string x.f.data, .int .i64 (x.n : Int)] 75)
            clear hx y0 y1 y2 y3 HK hcell
            go_wp2
            go_ret2
            unfold TreeOut
            exact ⟨_, rfl, World.ownsRow_nil _ _ _ _, hB1.trans (hBx.mono hB1.size)⟩
          · have hd : ¬ (s.size : Int) - a < x.n := by omega
            have HST := Lib.hid ((treeGo_next hx hsh).symm.trans HK.out)
            have hBx := hBB.alloc hbse (.cells #[.string x.f.path, .int .i64 x.f.mode, .string (s.extract a (a + x.n)), .int .i64 (x.n : Int)] 75)
            have hownX := hownD.alloc (.cells #[.string x.f.path, .int .i64 x.f.mode, .string (s.extract a (a + x.n)), .int .i64 (x.n : Int)] 75)
            have hsX := hBx.size
            have hboxD := Blk.new wr 75 #[.string x.f.path, .int .i64 x.f.mode, .string (s.extract a (a + x.n)), .int .i64 (x.n : Int)]
            obtain ⟨j0, j1, j2, j3⟩ := xbox_cells hboxD
            have i0 : (0 : Int) ≤ (a : Int) := by omega
            have i1 : (a : Int) ≤ (a : Int) + x.n := by omega
            have i2 : (a : Int) + x.n ≤ s.size := by omega
            clear hx y0 y1 y2 y3 HK hcell hbox
            go_wp2_with (at_builtin; refine wpList_push rfl _ _ _ rfl Tryd.underlying22 gi0 gz0 gz1 gz2 file_zero (by decide) hownX rfl (by rw [World.size_alloc]; rfl) rfl (file_one ⟨x.f.path, x.f.mode, s.extract a (a + x.n)⟩) (by unfold maxLen; omega) (by omega) hsX ?_; intro g6 cap6 w6 hown6 hgr6 hat6; have hB6 := hBx.grown hgr6 hsX (fun j hj => (hownX.lt j hj).1); obtain ⟨m0, m1, m2, m3⟩ := xbox_cells (hboxD.grown hgr6 (fun e => own_new_ne hownD e.symm)))
            go_roundw
            case rel => unfold RTRel; exact ⟨k + 1, a + x.n, done ++ [⟨x.f.path, x.f.mode, s.extract a (a + x.n)⟩], by omega, by go_num, by go_num, by omega, by rw [List.length_append, fcells_snoc]; exact hown6, by simp; omega, HST, hB6⟩
            case measure => simp [intOf] <;> omega
        · have hkl : k = L.length := by omega
          subst hkl
          by_cases hend : a < s.size
          · have hd : (a : Int) < s.size := by omega
            have hst := (treeGo_long (Nat.le_refl _) hend).symm.trans HK.out
            subst hst
            clear HK
            go_wp2
            go_ret2
            unfold TreeOut
            exact ⟨_, rfl, World.ownsRow_nil _ _ _ _, hB1.trans (hBB.mono hB1.size)⟩
          · have hd : ¬ (a : Int) < s.size := by omega
            have hst := (treeGo_ok (Nat.le_refl _) hend).symm.trans HK.out
            have HST := Lib.hid hst
            clear HK hst
            go_wp2
            go_ret2
            have hst := HST.out
            subst hst
            unfold TreeOut
            exact ⟨_, rfl, own_mono hownD hB1.size, hB1.trans (hBB.mono hB1.size)⟩
    · rw [if_neg hE]
      have e0 : (E == 0) = false := by rw [beq_eq_false_iff_ne]; exact hE
      go_enter Tryd.func18, Tryd.ntmps18
      go_wp2_with (go_at_call 38; (with_reducible refine HH.out.mono ?_); rintro e w1 ⟨vo, rfl, hown, hB⟩; obtain ⟨A2, c2, rfl, hcap2, ha2, hfr2⟩ := own_arr hown; have hB1 := hB.alloc hB.size (.cells #[.slice A2 L.length c2, .int .i64 (a0 : Int)] 71); clear ha2 hfr2 hown)
      go_ret2
      unfold TreeOut
      exact ⟨_, rfl, World.ownsRow_nil _ _ _ _, hB1⟩
def cutS (s : ByteArray) : ByteArray := if 20000 < s.size then s.extract 0 20000 else s
theorem cut_size (s : ByteArray) : (cutS s).size ≤ 20000 := by
  unfold cutS
  split
  · simp; omega
  · omega
set_option maxRecDepth 100000 in
theorem cut_any (s : ByteArray) (w : World) (hs : s.size ≤ 9223372036854775807) : Calls Tryd.prog 16 #[.string s] w fun e w' => e = .returned (.string (cutS s)) ∧ w = w' := by
  unfold cutS
  by_cases h : 20000 < s.size
  · have hi : (20000 : Int) < s.size := by omega
    rw [if_pos h]
    go_enter Tryd.func16, Tryd.ntmps16
    go_wp2
    go_ret
    exact ⟨rfl, rfl⟩
  · have hi : ¬ (20000 : Int) < s.size := by omega
    rw [if_neg h]
    go_enter Tryd.func16, Tryd.ntmps16
    go_wp2
    go_ret
    exact ⟨rfl, rfl⟩
end Go.Proofs.YtlfennooocmclaaDoor
