/- Chapter 10: the walk through image.Tree. -/
import Derived.Test.YtlfennooocmclaaDoorIm6
namespace Go.Proofs.YtlfennooocmclaaDoor
open Go.RowKit
set_option linter.unusedVariables false

theorem headEnd_len (y : Int × List SzD × Rd) : (headEnd y).l.length ≤ 256 := by
  unfold headEnd
  by_cases h1 : y.1 = 0
  · rw [if_pos h1]
    by_cases h2 : checkE (y.2.1.map (·.f)) = 0
    · rw [if_pos h2]
      have := (check_good h2).1
      rwa [List.length_map] at this
    · rw [if_neg h2]; simp
  · rw [if_neg h1]; simp
theorem head_len (s : ByteArray) : (headOf s).l.length ≤ 256 := headEnd_len _
theorem set_cell {done rest : List FileD} {f : FileD} {k : Nat} (hk : done.length = k) (d : ByteArray) :
    (fcells (done ++ f :: rest)).set (k * 3 + 2) (.string d) = fcells ((done ++ [⟨f.path, f.mode, d⟩]) ++ rest) := by
  have h1 : (fcells done).length = k * 3 := by rw [fcells_len, hk]
  have e1 : fcells (done ++ f :: rest) = fcells done ++ (([Value.string f.path, .int .i64 f.mode, .string f.data] : List Value) ++ fcells rest) := by
    rw [fcells_app]; rfl
  have e2 : fcells ((done ++ [⟨f.path, f.mode, d⟩]) ++ rest) = fcells done ++ (([Value.string f.path, .int .i64 f.mode, .string d] : List Value) ++ fcells rest) := by
    rw [List.append_assoc, fcells_app]; rfl
  rw [e1, e2, List.set_append_right _ _ (by omega)]
  congr 1
  rw [h1, show k * 3 + 2 - k * 3 = 2 by omega]
  rfl
theorem hfiles_drop {l : List SzD} {k : Nat} {x : SzD} (h : l[k]? = some x) : (hfiles l).drop k = x.f :: (hfiles l).drop (k + 1) := by
  apply drop_head
  unfold hfiles
  rw [List.getElem?_map, h]
  rfl
theorem row_at {done rest : List FileD} {f : FileD} {k : Nat} (hk : done.length = k) : (done ++ f :: rest)[k]? = some f := by
  rw [List.getElem?_append_right (by omega), hk, Nat.sub_self]
  rfl
theorem ncell_at {l : List SzD} {k : Nat} {x : SzD} (h : l[k]? = some x) : (ncells l)[k]? = some (.int .i64 (x.n : Int)) := by unfold ncells; rw [List.getElem?_map, h]; rfl
def TRel (w : World) (s : ByteArray) (L : List SzD) (T : Int × List FileD) (vf vs va v : Value) (wr : World) : Prop := ∃ (k a : Nat) (done : List FileD), k ≤ L.length ∧ v = .int .i64 k ∧ va = .int .i64 a ∧ a ≤ s.size ∧
  wr.ownsRow w.heap.size 33 3 vf L.length (fcells (done ++ (hfiles L).drop k)) ∧ wr.ownsRow w.heap.size 3 1 vs L.length (ncells L) ∧ Hid (done.length = k) ∧ Hid (treeGo s (L.drop k) a done = T) ∧ Below w.heap.size w wr
set_option maxHeartbeats 4000000 in
set_option maxRecDepth 100000 in
theorem tree_any (s : ByteArray) (w : World) (hs : s.size ≤ 9223372036854775807) (hm : Ml w) :
    Calls Tryd.prog 17 #[.string s] w (TreeOut w (treeOf s)) := by
  by_cases hbig : 524288 < s.size
  · have hb : (524288 : Int) < s.size := by omega
    rw [show treeOf s = (4, []) from if_pos hbig]
    go_enter Tryd.func17, Tryd.ntmps17
    go_wp2
    go_ret2
    unfold TreeOut
    exact ⟨_, rfl, World.ownsRow_nil _ _ _ _, Below.refl _ _⟩
  · have hb : ¬ (524288 : Int) < s.size := by omega
    have hh := head_any s w (by omega) hm
    obtain ⟨hfa, hfn⟩ := headOf_facts s hs
    have hLl := head_len s
    have hT : treeOf s = if (headOf s).e = 0 then treeGo s (headOf s).l (headOf s).at_ [] else ((headOf s).e, []) := if_neg hbig
    unfold HeadOut at hh
    rw [hT]
    clear hT
    generalize headOf s = H at *
    obtain ⟨E, L, a0⟩ := H
    simp only [] at *
    have HH := Lib.hid hh
    have HFN := Lib.hid hfn
    clear hh hfn
    by_cases hE : E = 0
    · subst hE
      rw [if_pos rfl]
      generalize hT : treeGo s L a0 [] = T
      have HT : Hid (treeGo s (L.drop 0) a0 [] = T) := Lib.hid hT
      clear hT
      go_enter Tryd.func17, Tryd.ntmps17
      go_wp2_with (go_at_call 37; (with_reducible refine HH.out.mono ?_); rintro e w1 ⟨vf, vs, rfl, hown, hownS, hB⟩; obtain ⟨A2, c2, rfl, hcap2, ha2, hfr2⟩ := own_arr hownS; clear ha2 hfr2; obtain ⟨A1, c1, rfl, hcap1, ha1, hfr1⟩ := own_arr hown; clear ha1 hfr1)
      go_loopw [6, 25] (fun va v wr => TRel w s L T (.slice A1 L.length c1) (.slice A2 L.length c2) va v wr) (fun _ v _ => L.length - (intOf v).toNat)
      case atStart => unfold TRel; exact ⟨0, a0, [], Nat.zero_le _, rfl, rfl, hfa, hown, hownS, Lib.hid rfl, HT, hB⟩
      case round =>
        unfold TRel at hrel
        clear hown hownS hB HT
        obtain ⟨k, a, done, hk, rfl, rfl, ha, hown, hownS, HD, HK, hB⟩ := hrel
        by_cases hlt : k < L.length
        · obtain ⟨x, hx⟩ : ∃ x, L[k]? = some x := ⟨_, List.getElem?_eq_getElem hlt⟩
          have hdr := hfiles_drop hx
          rw [hdr] at hown
          obtain ⟨g1, cap1, e1, hg1, _⟩ := hown.form (by omega)
          obtain ⟨g2, cap2, e2, hg2, _⟩ := hownS.form (by omega)
          injection e1 with e1 _ e1'
          injection e2 with e2 _ e2'
          subst e1 e1' e2 e2'
          have hsz := (hownS.cellAt k (by omega)).trans (ncell_at hx)
          obtain ⟨y0, y1, y2⟩ := fcell_at (row_at (f := x.f) (rest := (hfiles L).drop (k + 1)) HD.out)
          have z2 := (hown.cellAt (k * 3 + 2) (by omega)).trans y2
          have zf := hown.frozenAt (k * 3 + 2)
          have hxn := HFN.out x (List.mem_of_getElem? hx)
          have kl : (k : Int) < L.length := by omega
          by_cases hsh : s.size < a + x.n
          · have hd : (s.size : Int) - a < x.n := by omega
            have hst := (treeGo_short hx hsh).symm.trans HK.out
            subst hst
            clear hdr hx y0 y1 y2 HK
            go_wp2
            go_ret2
            unfold TreeOut
            exact ⟨_, rfl, World.ownsRow_nil _ _ _ _, hB⟩
          · have hd : ¬ (s.size : Int) - a < x.n := by omega
            have HST := Lib.hid ((treeGo_next hx hsh).symm.trans HK.out)
            obtain ⟨hst1, hst2⟩ := hown.stored (k * 3 + 2) (.string (s.extract a (a + x.n)))
            rw [set_cell HD.out] at hst1
            have hownS2 := hownS.kept hst2 (own_apart hownS hown (by decide))
            have hB2 := hB.grown hst2 hB.size (fun j hj => by injection hj with hj; have := (hown.lt g1 rfl).1; omega)
            have HD2 : Hid ((done ++ [(⟨x.f.path, x.f.mode, s.extract a (a + x.n)⟩ : FileD)]).length = k + 1) := Lib.hid (by rw [List.length_append, HD.out]; rfl)
            have i0 : (0 : Int) ≤ (a : Int) := by omega
            have i1 : (a : Int) ≤ (a : Int) + x.n := by omega
            have i2 : (a : Int) + x.n ≤ s.size := by omega
            clear hdr hx y0 y1 y2 HK
            go_wp2
            go_roundw
            case rel => unfold TRel; exact ⟨k + 1, a + x.n, _, by omega, by go_num, by go_num, by omega, hst1, hownS2, HD2, HST, hB2⟩
            case measure => simp [intOf] <;> omega
        · have hkl : k = L.length := by omega
          subst hkl
          have hdr : (hfiles L).drop L.length = [] := List.drop_eq_nil_of_le (by rw [hfiles_len]; exact Nat.le_refl _)
          rw [hdr, List.append_nil] at hown
          by_cases hend : a < s.size
          · have hd : (a : Int) < s.size := by omega
            have hst := (treeGo_long (Nat.le_refl _) hend).symm.trans HK.out
            subst hst
            clear hdr HK
            go_wp2
            go_ret2
            unfold TreeOut
            exact ⟨_, rfl, World.ownsRow_nil _ _ _ _, hB⟩
          · have hd : ¬ (a : Int) < s.size := by omega
            have hst := (treeGo_ok (Nat.le_refl _) hend).symm.trans HK.out
            have HST := Lib.hid hst
            clear hdr HK hst
            go_wp2
            go_ret2
            have hst := HST.out
            subst hst
            unfold TreeOut
            exact ⟨_, rfl, by rw [HD.out]; exact hown, hB⟩
    · rw [if_neg hE]
      have e0 : (E == 0) = false := by rw [beq_eq_false_iff_ne]; exact hE
      go_enter Tryd.func17, Tryd.ntmps17
      go_wp2_with (go_at_call 37; (with_reducible refine HH.out.mono ?_); rintro e w1 ⟨vf, vs, rfl, hown, hownS, hB⟩)
      go_ret2
      unfold TreeOut
      exact ⟨_, rfl, World.ownsRow_nil _ _ _ _, hB⟩
end Go.Proofs.YtlfennooocmclaaDoor
