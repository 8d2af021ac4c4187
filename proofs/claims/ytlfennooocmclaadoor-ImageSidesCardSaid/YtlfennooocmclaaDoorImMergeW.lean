/- Chapter 10: Merge whatever the texts are; the walk through ImageMerges. -/
import Derived.Test.YtlfennooocmclaaDoorIm15
namespace Go.Proofs.YtlfennooocmclaaDoor
open Go.RowKit
set_option linter.unusedVariables false

set_option maxHeartbeats 4000000 in
set_option maxRecDepth 100000 in
theorem merge_any (s1 s2 s3 : ByteArray) (w : World) (hm : Ml w) (h1 : s1.size ≤ 524288) (h2 : s2.size ≤ 524288) (h3 : s3.size ≤ 524288) :
    Calls Tryd.prog 22 #[.string s1, .string s2, .string s3] w (MrOut w (mergeT (treeOf s1) (treeOf s2) (treeOf s3))) := by
  obtain ⟨E1, x, e1⟩ : ∃ E x, treeOf s1 = (E, x) := ⟨_, _, rfl⟩
  obtain ⟨E2, y, e2⟩ : ∃ E x, treeOf s2 = (E, x) := ⟨_, _, rfl⟩
  obtain ⟨E3, z, e3⟩ : ∃ E x, treeOf s3 = (E, x) := ⟨_, _, rfl⟩
  have T1 := fun W hm' => tree_any s1 W (by omega) hm'
  unfold TreeOut at T1
  have T2 := fun W hm' => tree_any s2 W (by omega) hm'
  unfold TreeOut at T2
  have T3 := fun W hm' => tree_any s3 W (by omega) hm'
  unfold TreeOut at T3
  rw [e1] at T1 ⊢
  rw [e2] at T2 ⊢
  rw [e3] at T3 ⊢
  simp only [] at T1 T2 T3
  have T1 := Lib.hid T1
  have T2 := Lib.hid T2
  have T3 := Lib.hid T3
  by_cases h01 : E1 = 0
  · subst h01
    by_cases h02 : E2 = 0
    · subst h02
      by_cases h03 : E3 = 0
      · subst h03
        exact merge_ok s1 s2 s3 x y z w hm h1 h2 h3 e1 e2 e3
      · have g0 : (E3 == 0) = false := by rw [beq_eq_false_iff_ne]; exact h03
        have hD : mergeT (0, x) (0, y) (E3, z) = ⟨⟨#[]⟩, [], E3⟩ := by unfold mergeT; simp only []; rw [if_neg (by decide), if_neg (by decide), if_pos h03]
        rw [hD]
        clear hD e1 e2 e3 h03
        go_enter Tryd.func22, Tryd.ntmps22
        go_wp2_with (first
          | (go_at_call 17; (with_reducible refine (T1.out _ hm).mono ?_); rintro e w1 ⟨v1, rfl, hown1, hb1⟩; obtain ⟨A1, c1, rfl, hcap1, ha1, hfr1⟩ := own_arr hown1; clear ha1 hown1 hfr1; have hB1 := hb1)
          | (go_at_call 17; (with_reducible refine (T2.out _ (hm.on hB1)).mono ?_); rintro e w2 ⟨v2, rfl, hown2, hb2⟩; obtain ⟨A2, c2, rfl, hcap2, ha2, hfr2⟩ := own_arr hown2; clear ha2 hown2 hfr2; have hB2 := below_on hB1 hb2)
          | (go_at_call 17; (with_reducible refine (T3.out _ (hm.on hB2)).mono ?_); rintro e w3 ⟨v3, rfl, hown3, hb3⟩; obtain ⟨A3, c3, rfl, hcap3, ha3, hfr3⟩ := own_arr hown3; clear ha3 hown3 hfr3; have hB3 := below_on hB2 hb3))
        go_ret3
        unfold MrOut
        exact ⟨_, _, rfl, Arr.nil _ _ _ _, hB3⟩
    · have g0 : (E2 == 0) = false := by rw [beq_eq_false_iff_ne]; exact h02
      have hD : mergeT (0, x) (E2, y) (E3, z) = ⟨⟨#[]⟩, [], E2⟩ := by unfold mergeT; simp only []; rw [if_neg (by decide), if_pos h02]
      rw [hD]
      clear hD e1 e2 e3 h02
      go_enter Tryd.func22, Tryd.ntmps22
      go_wp2_with (first
        | (go_at_call 17; (with_reducible refine (T1.out _ hm).mono ?_); rintro e w1 ⟨v1, rfl, hown1, hb1⟩; obtain ⟨A1, c1, rfl, hcap1, ha1, hfr1⟩ := own_arr hown1; clear ha1 hown1 hfr1; have hB1 := hb1)
        | (go_at_call 17; (with_reducible refine (T2.out _ (hm.on hB1)).mono ?_); rintro e w2 ⟨v2, rfl, hown2, hb2⟩; obtain ⟨A2, c2, rfl, hcap2, ha2, hfr2⟩ := own_arr hown2; clear ha2 hown2 hfr2; have hB2 := below_on hB1 hb2))
      go_ret3
      unfold MrOut
      exact ⟨_, _, rfl, Arr.nil _ _ _ _, hB2⟩
  · have g0 : (E1 == 0) = false := by rw [beq_eq_false_iff_ne]; exact h01
    have hD : mergeT (E1, x) (E2, y) (E3, z) = ⟨⟨#[]⟩, [], E1⟩ := by unfold mergeT; simp only []; rw [if_pos h01]
    rw [hD]
    clear hD e1 e2 e3 h01
    go_enter Tryd.func22, Tryd.ntmps22
    go_wp2_with (go_at_call 17; (with_reducible refine (T1.out _ hm).mono ?_); rintro e w1 ⟨v1, rfl, hown1, hb1⟩; obtain ⟨A1, c1, rfl, hcap1, ha1, hfr1⟩ := own_arr hown1; clear ha1 hown1 hfr1; have hB1 := hb1)
    go_ret3
    unfold MrOut
    exact ⟨_, _, rfl, Arr.nil _ _ _ _, hB1⟩
set_option maxHeartbeats 4000000 in
set_option maxRecDepth 100000 in
theorem merge_ref (s1 s2 s3 : ByteArray) (w : World) (h1 : s1.size ≤ 524288) (h2 : s2.size ≤ 524288) (h3 : s3.size ≤ 524288) :
    Calls Tryd.prog 23 #[.string s1, .string s2, .string s3] w (MrOut w (mergeT (treeOf s1) (treeOf s2) (treeOf s3))) := by
  obtain ⟨E1, x, e1⟩ : ∃ E x, treeOf s1 = (E, x) := ⟨_, _, rfl⟩
  obtain ⟨E2, y, e2⟩ : ∃ E x, treeOf s2 = (E, x) := ⟨_, _, rfl⟩
  obtain ⟨E3, z, e3⟩ : ∃ E x, treeOf s3 = (E, x) := ⟨_, _, rfl⟩
  have T1 := fun W => tree_ref s1 W (by omega)
  unfold TreeOut at T1
  have T2 := fun W => tree_ref s2 W (by omega)
  unfold TreeOut at T2
  have T3 := fun W => tree_ref s3 W (by omega)
  unfold TreeOut at T3
  rw [e1] at T1 ⊢
  rw [e2] at T2 ⊢
  rw [e3] at T3 ⊢
  simp only [] at T1 T2 T3
  have T1 := Lib.hid T1
  have T2 := Lib.hid T2
  have T3 := Lib.hid T3
  by_cases h01 : E1 = 0
  · subst h01
    by_cases h02 : E2 = 0
    · subst h02
      by_cases h03 : E3 = 0
      · subst h03
        exact merge_ref_ok s1 s2 s3 x y z w h1 h2 h3 e1 e2 e3
      · have g0 : (E3 == 0) = false := by rw [beq_eq_false_iff_ne]; exact h03
        have hD : mergeT (0, x) (0, y) (E3, z) = ⟨⟨#[]⟩, [], E3⟩ := by unfold mergeT; simp only []; rw [if_neg (by decide), if_neg (by decide), if_pos h03]
        rw [hD]
        clear hD e1 e2 e3 h03
        go_enter Tryd.func23, Tryd.ntmps23
        go_wp2_with (first
          | (go_at_call 18; (with_reducible refine (T1.out _).mono ?_); rintro e w1 ⟨v1, rfl, hown1, hb1⟩; obtain ⟨A1, c1, rfl, hcap1, ha1, hfr1⟩ := own_arr hown1; clear ha1 hown1 hfr1; have hB1 := hb1)
          | (go_at_call 18; (with_reducible refine (T2.out _).mono ?_); rintro e w2 ⟨v2, rfl, hown2, hb2⟩; obtain ⟨A2, c2, rfl, hcap2, ha2, hfr2⟩ := own_arr hown2; clear ha2 hown2 hfr2; have hB2 := below_on hB1 hb2)
          | (go_at_call 18; (with_reducible refine (T3.out _).mono ?_); rintro e w3 ⟨v3, rfl, hown3, hb3⟩; obtain ⟨A3, c3, rfl, hcap3, ha3, hfr3⟩ := own_arr hown3; clear ha3 hown3 hfr3; have hB3 := below_on hB2 hb3))
        go_ret3
        unfold MrOut
        exact ⟨_, _, rfl, Arr.nil _ _ _ _, hB3⟩
    · have g0 : (E2 == 0) = false := by rw [beq_eq_false_iff_ne]; exact h02
      have hD : mergeT (0, x) (E2, y) (E3, z) = ⟨⟨#[]⟩, [], E2⟩ := by unfold mergeT; simp only []; rw [if_neg (by decide), if_pos h02]
      rw [hD]
      clear hD e1 e2 e3 h02
      go_enter Tryd.func23, Tryd.ntmps23
      go_wp2_with (first
        | (go_at_call 18; (with_reducible refine (T1.out _).mono ?_); rintro e w1 ⟨v1, rfl, hown1, hb1⟩; obtain ⟨A1, c1, rfl, hcap1, ha1, hfr1⟩ := own_arr hown1; clear ha1 hown1 hfr1; have hB1 := hb1)
        | (go_at_call 18; (with_reducible refine (T2.out _).mono ?_); rintro e w2 ⟨v2, rfl, hown2, hb2⟩; obtain ⟨A2, c2, rfl, hcap2, ha2, hfr2⟩ := own_arr hown2; clear ha2 hown2 hfr2; have hB2 := below_on hB1 hb2))
      go_ret3
      unfold MrOut
      exact ⟨_, _, rfl, Arr.nil _ _ _ _, hB2⟩
  · have g0 : (E1 == 0) = false := by rw [beq_eq_false_iff_ne]; exact h01
    have hD : mergeT (E1, x) (E2, y) (E3, z) = ⟨⟨#[]⟩, [], E1⟩ := by unfold mergeT; simp only []; rw [if_pos h01]
    rw [hD]
    clear hD e1 e2 e3 h01
    go_enter Tryd.func23, Tryd.ntmps23
    go_wp2_with (go_at_call 18; (with_reducible refine (T1.out _).mono ?_); rintro e w1 ⟨v1, rfl, hown1, hb1⟩; obtain ⟨A1, c1, rfl, hcap1, ha1, hfr1⟩ := own_arr hown1; clear ha1 hown1 hfr1; have hB1 := hb1)
    go_ret3
    unfold MrOut
    exact ⟨_, _, rfl, Arr.nil _ _ _ _, hB1⟩
set_option maxHeartbeats 1000000 in
set_option maxRecDepth 100000 in
theorem texts_same (A : Option Addr) (c : Nat) (B : Option Addr) (d : Nat) (l : List ByteArray) (w : World) (hz : l.length ≤ 9223372036854775807)
    (ha : Arr w w.heap.size 1 A l.length (l.map Value.string)) (hb : Arr w w.heap.size 1 B l.length (l.map Value.string)) :
    Calls Tryd.prog 24 #[.slice A l.length c, .slice B l.length d] w fun e w' => e = .returned (.bool true) ∧ Below w.heap.size w w' := by
  have HA := Lib.hid ha
  have HB := Lib.hid hb
  clear ha hb
  go_enter Tryd.func24, Tryd.ntmps24
  go_wp2
  go_loopw [5] (fun v wr => ∃ (k : Nat), k ≤ l.length ∧ v = .int .i64 k ∧ Below w.heap.size w wr) (fun v _ => l.length - (intOf v).toNat)
  case atStart => exact ⟨0, Nat.zero_le _, rfl, Below.refl _ _⟩
  case round =>
    obtain ⟨k, hk, rfl, hB⟩ := hrel
    by_cases hlt : k < l.length
    · obtain ⟨x, hx⟩ : ∃ x, l[k]? = some x := ⟨_, List.getElem?_eq_getElem hlt⟩
      obtain ⟨b, o, rfl, hb, hcell⟩ := HA.out.2 (by omega)
      obtain ⟨b2, o2, rfl, hb2, hcell2⟩ := HB.out.2 (by omega)
      have c0 := (hB.cell (p := ⟨b, o + k, none⟩) hb).trans (hcell k (.string x) (by rw [List.getElem?_map, hx]; rfl))
      have d0 := (hB.cell (p := ⟨b2, o2 + k, none⟩) hb2).trans (hcell2 k (.string x) (by rw [List.getElem?_map, hx]; rfl))
      have kl : (k : Int) < l.length := by omega
      clear hx hcell hcell2
      go_wp2
      go_quiet (fail)
      go_wp2
      go_roundw
      case rel => exact ⟨k + 1, by omega, by go_num, below_drewN hB _⟩
      case measure => simp [intOf] <;> omega
    · go_wp2
      go_ret
      exact ⟨rfl, hB⟩
theorem mergeT_len (X Y Z : Int × List FileD) : (mergeT X Y Z).l.length ≤ X.2.length + Y.2.length + Z.2.length := by
  unfold mergeT
  split
  · simp
  · split
    · simp
    · split
      · simp
      · split
        · simp
        · simp only []
          unfold mTold
          exact Nat.le_trans (List.length_filter_le _ _) (p3_len _ _ _ _)
set_option maxHeartbeats 2000000 in
set_option maxRecDepth 100000 in
theorem law_merges (s1 s2 s3 : ByteArray) (w : World) (hs1 : s1.size ≤ 9223372036854775807) (hs2 : s2.size ≤ 9223372036854775807) (hs3 : s3.size ≤ 9223372036854775807) (hm : Ml w) :
    Calls Tryd.prog 8 #[.string s1, .string s2, .string s3] w fun e w' => e = .returned (.bool true) ∧ Below w.heap.size w w' := by
  have HA := Lib.hid awakeI_any
  have C1 := Lib.hid (fun W => cut_any s1 W hs1)
  have C2 := Lib.hid (fun W => cut_any s2 W hs2)
  have C3 := Lib.hid (fun W => cut_any s3 W hs3)
  have z1 := cut_size s1
  have z2 := cut_size s2
  have z3 := cut_size s3
  generalize cutS s1 = t1 at *
  generalize cutS s2 = t2 at *
  generalize cutS s3 = t3 at *
  have F1 := Lib.hid (fun W hm' => merge_any t1 t2 t3 W hm' (by omega) (by omega) (by omega))
  have F2 := Lib.hid (fun W => merge_ref t1 t2 t3 W (by omega) (by omega) (by omega))
  have hlen := mergeT_len (treeOf t1) (treeOf t2) (treeOf t3)
  have l1 := tree_len t1 (by omega)
  have l2 := tree_len t2 (by omega)
  have l3 := tree_len t3 (by omega)
  have hlen2 : (mergeT (treeOf t1) (treeOf t2) (treeOf t3)).l.length ≤ 768 := by omega
  clear hlen l1 l2 l3
  generalize mergeT (treeOf t1) (treeOf t2) (treeOf t3) = D at *
  obtain ⟨S, L, E⟩ := D
  unfold MrOut at F1 F2
  simp only [] at F1 F2 hlen2
  have F3 := Lib.hid (fun A c B d W (ha : Arr W W.heap.size 1 A L.length (L.map Value.string)) (hb : Arr W W.heap.size 1 B L.length (L.map Value.string)) => texts_same A c B d L W (by omega) ha hb)
  have hB : Below w.heap.size w w := Below.refl _ _
  go_enter Tryd.func8, Tryd.ntmps8
  go_wp2_with (first
    | (go_at_call 16; (with_reducible refine (C1.out _).mono ?_); rintro e w0 ⟨rfl, rfl⟩)
    | (go_at_call 16; (with_reducible refine (C2.out _).mono ?_); rintro e w0 ⟨rfl, rfl⟩)
    | (go_at_call 16; (with_reducible refine (C3.out _).mono ?_); rintro e w0 ⟨rfl, rfl⟩)
    | (go_at_call 22; (with_reducible refine (F1.out _ (hm.on hB)).mono ?_); rintro e w1 ⟨A1, c1, rfl, ha1, hb1⟩; have HA1 := Lib.hid ha1; clear ha1; have hB := below_on hB hb1)
    | (go_at_call 23; (with_reducible refine (F2.out _).mono ?_); rintro e w2 ⟨A2, c2, rfl, ha2, hb2⟩; have HA2 := Lib.hid ha2; clear ha2; have hB := below_on hB hb2; have HA1 := Lib.hid (Arr.on3 HA1.out hb2))
    | (go_at_call 24; (with_reducible refine (F3.out _ _ _ _ _ HA1.out HA2.out).mono ?_); rintro e w3 ⟨rfl, hb3⟩; have hB := below_on hB hb3)
    | (go_at_call 15; (with_reducible refine (HA.out _ (hm.on hB)).mono ?_); rintro e w5 ⟨rfl, hb5⟩; have hB := below_on hB hb5))
  go_ret
  exact ⟨rfl, hB⟩
end Go.Proofs.YtlfennooocmclaaDoor
