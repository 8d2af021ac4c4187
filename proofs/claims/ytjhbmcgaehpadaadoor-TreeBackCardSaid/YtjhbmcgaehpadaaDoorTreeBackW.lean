/- The walk through TreeBack. -/
import Derived.Test.YtjhbmcgaehpadaaDoorTreeOf2
import Derived.Test.YtjhbmcgaehpadaaDoorTreeBackP
import Derived.Test.YtjhbmcgaehpadaaDoorLiftItems
namespace Go.Proofs.YtjhbmcgaehpadaaDoor
open Go.RowKit
set_option linter.unusedVariables false

set_option maxHeartbeats 4000000 in
set_option maxRecDepth 100000 in
theorem law_back_in (A : Option Addr) (c : Nat) (l : List ItemD) (s s' : ByteArray) (w : World) (hs : s'.size ≤ 4000) (h : (4000 < s.size ∧ s' = s.extract 0 4000) ∨ (¬ 4000 < s.size ∧ s' = s)) (hsz : s.size ≤ 9223372036854775807)
    (hz : l.length * 48 ≤ 140737488351232) (hcap : l.length ≤ c) (hx : ∀ f ∈ l, IOk f) (ha : Arr w w.heap.size 4 A l.length (icells l)) (hm : Ml w) :
    Calls Tryd.prog 13 #[.slice A l.length c, .string s] w fun e w' => e = .returned (.bool true) ∧ Below w.heap.size w w' := by
  have HA := Lib.hid awake_any
  have hsome := some_any A c l.length w (by omega) hcap (arr_some ha)
  rw [← some_len] at hsome
  have HSO := Lib.hid hsome
  have ha' := ha.some_
  have hxx : ∀ f ∈ l.take 100, IOk f := fun f hf => hx f (List.mem_of_mem_take hf)
  have hl : (l.take 100).length ≤ 100 := by rw [List.length_take]; omega
  clear hsome ha hx
  generalize l.take 100 = l' at *
  have hB : Below w.heap.size w w := Below.refl _ _
  have F1 := Lib.hid (fun W (hb : Below w.heap.size w W) => bytes_any A c l' W (by omega) hxx ((ha'.below hb).more hb.size) (hm.on hb))
  have F2 := Lib.hid (fun W (hb : Below w.heap.size w W) => of_any (bytesS l') W (bytesS_len (by omega)) (hm.on hb))
  have F3 := Lib.hid (fun W (hb : Below w.heap.size w W) => of_any s' W (by omega) (hm.on hb))
  have hr := man_right s'
  have hlr := (rightE_zero hr).1
  have F4 := Lib.hid (fun A d W' (hb : Below w.heap.size w W') (h : Arr W' W'.heap.size 4 A (manOf s').2.length (icells (manOf s').2)) => bytes_any A d (manOf s').2 W' (by omega) (good_ok (good_of hr)) h (hm.on hb))
  rw [hr] at F4
  have F5 := Lib.hid (fun B d W (hb : Below w.heap.size w W) (h : Arr W W.heap.size 4 B l'.length (icells l')) => items_same B d A c l' W (by omega) h ((ha'.below hb).more hb.size))
  have hbk := @man_back l'
  have hcn := @man_canon s' (manOf s').2 (by omega)
  obtain ⟨G, L, hGL⟩ : ∃ G L, manOf s' = (G, L) := ⟨_, _, rfl⟩
  rw [hGL] at F3 F4 hcn
  simp only [] at F3 F4 hcn
  clear hr hlr hGL hxx
  by_cases hG : G = 0
  · have hcc := hcn (by rw [hG])
    rw [hcc] at F4
    have hG' : (G == 0) = true := by rw [hG]; rfl
    subst hG
    by_cases hE : rightE l' = 0
    · rw [hbk hE] at F2
      simp only [] at F2
      rw [hE] at F1
      clear hbk hcn ha' hcc hE hG'
      generalize bytesS l' = T at *
      rcases h with ⟨h1, rfl⟩ | ⟨h1, rfl⟩
      · have g1 : (4000 : Int) < s.size := by omega
        go_enter Tryd.func13, Tryd.ntmps13
        go_wp2_with (first
          | (go_at_call 31; (with_reducible refine HSO.out.mono ?_); rintro e w1 ⟨rfl, rfl⟩)
          | (go_at_call 32; (with_reducible refine (F1.out _ hB).mono ?_); rintro e w1 ⟨rfl, hb1⟩; have hB := below_on hB hb1)
          | (go_at_call 39; (with_reducible refine (F2.out _ hB).mono ?_); rintro e w2 ⟨A1, c1, rfl, ha1, _, _, hb1⟩; have HA1 := Lib.hid ha1; clear ha1; have hB := below_on hB hb1)
          | (go_at_call 39; (with_reducible refine (F3.out _ hB).mono ?_); rintro e w3 ⟨A2, c2, rfl, ha2, _, _, hb2⟩; have HA2 := Lib.hid ha2; clear ha2; have hB := below_on hB hb2; have HA1 := Lib.hid (Arr.on HA1.out hb2))
          | (go_at_call 32; (with_reducible refine (F4.out _ _ _ hB HA2.out).mono ?_); rintro e w4 ⟨rfl, hb4⟩; have hB := below_on hB hb4; have HA1 := Lib.hid (Arr.on HA1.out hb4))
          | (go_at_call 41; (with_reducible refine (F5.out _ _ _ hB HA1.out).mono ?_); rintro e w5 ⟨rfl, hb5⟩; have hB := below_on hB hb5)
          | (go_at_call 16; (with_reducible refine (HA.out _ (hm.on hB)).mono ?_); rintro e w1 ⟨rfl, hb1⟩; have hB := below_on hB hb1))
        go_ret
        exact ⟨rfl, hB⟩
      · have g1 : ¬ (4000 : Int) < s'.size := by omega
        go_enter Tryd.func13, Tryd.ntmps13
        go_wp2_with (first
          | (go_at_call 31; (with_reducible refine HSO.out.mono ?_); rintro e w1 ⟨rfl, rfl⟩)
          | (go_at_call 32; (with_reducible refine (F1.out _ hB).mono ?_); rintro e w1 ⟨rfl, hb1⟩; have hB := below_on hB hb1)
          | (go_at_call 39; (with_reducible refine (F2.out _ hB).mono ?_); rintro e w2 ⟨A1, c1, rfl, ha1, _, _, hb1⟩; have HA1 := Lib.hid ha1; clear ha1; have hB := below_on hB hb1)
          | (go_at_call 39; (with_reducible refine (F3.out _ hB).mono ?_); rintro e w3 ⟨A2, c2, rfl, ha2, _, _, hb2⟩; have HA2 := Lib.hid ha2; clear ha2; have hB := below_on hB hb2; have HA1 := Lib.hid (Arr.on HA1.out hb2))
          | (go_at_call 32; (with_reducible refine (F4.out _ _ _ hB HA2.out).mono ?_); rintro e w4 ⟨rfl, hb4⟩; have hB := below_on hB hb4; have HA1 := Lib.hid (Arr.on HA1.out hb4))
          | (go_at_call 41; (with_reducible refine (F5.out _ _ _ hB HA1.out).mono ?_); rintro e w5 ⟨rfl, hb5⟩; have hB := below_on hB hb5)
          | (go_at_call 16; (with_reducible refine (HA.out _ (hm.on hB)).mono ?_); rintro e w1 ⟨rfl, hb1⟩; have hB := below_on hB hb1))
        go_ret
        exact ⟨rfl, hB⟩
    · have hE' : (rightE l' == 0) = false := by rw [beq_eq_false_iff_ne]; exact hE
      have hE2 : (rightE l' != 0) = true := by rw [bne_iff_ne]; exact hE
      clear hbk hcn ha' hcc hG'
      generalize rightE l' = E at *
      generalize (manOf (bytesS l')).1 = F at *
      generalize (manOf (bytesS l')).2 = M at *
      generalize bytesS l' = T at *
      clear hE
      rcases h with ⟨h1, rfl⟩ | ⟨h1, rfl⟩
      · have g1 : (4000 : Int) < s.size := by omega
        go_enter Tryd.func13, Tryd.ntmps13
        go_wp2_with (first
          | (go_at_call 31; (with_reducible refine HSO.out.mono ?_); rintro e w1 ⟨rfl, rfl⟩)
          | (go_at_call 32; (with_reducible refine (F1.out _ hB).mono ?_); rintro e w1 ⟨rfl, hb1⟩; have hB := below_on hB hb1)
          | (go_at_call 39; (with_reducible refine (F2.out _ hB).mono ?_); rintro e w2 ⟨A1, c1, rfl, ha1, _, _, hb1⟩; have HA1 := Lib.hid ha1; clear ha1; have hB := below_on hB hb1)
          | (go_at_call 39; (with_reducible refine (F3.out _ hB).mono ?_); rintro e w3 ⟨A2, c2, rfl, ha2, _, _, hb2⟩; have HA2 := Lib.hid ha2; clear ha2; have hB := below_on hB hb2; have HA1 := Lib.hid (Arr.on HA1.out hb2))
          | (go_at_call 32; (with_reducible refine (F4.out _ _ _ hB HA2.out).mono ?_); rintro e w4 ⟨rfl, hb4⟩; have hB := below_on hB hb4; have HA1 := Lib.hid (Arr.on HA1.out hb4))
          | (go_at_call 41; (with_reducible refine (F5.out _ _ _ hB HA1.out).mono ?_); rintro e w5 ⟨rfl, hb5⟩; have hB := below_on hB hb5)
          | (go_at_call 16; (with_reducible refine (HA.out _ (hm.on hB)).mono ?_); rintro e w1 ⟨rfl, hb1⟩; have hB := below_on hB hb1))
        go_ret
        exact ⟨rfl, hB⟩
      · have g1 : ¬ (4000 : Int) < s'.size := by omega
        go_enter Tryd.func13, Tryd.ntmps13
        go_wp2_with (first
          | (go_at_call 31; (with_reducible refine HSO.out.mono ?_); rintro e w1 ⟨rfl, rfl⟩)
          | (go_at_call 32; (with_reducible refine (F1.out _ hB).mono ?_); rintro e w1 ⟨rfl, hb1⟩; have hB := below_on hB hb1)
          | (go_at_call 39; (with_reducible refine (F2.out _ hB).mono ?_); rintro e w2 ⟨A1, c1, rfl, ha1, _, _, hb1⟩; have HA1 := Lib.hid ha1; clear ha1; have hB := below_on hB hb1)
          | (go_at_call 39; (with_reducible refine (F3.out _ hB).mono ?_); rintro e w3 ⟨A2, c2, rfl, ha2, _, _, hb2⟩; have HA2 := Lib.hid ha2; clear ha2; have hB := below_on hB hb2; have HA1 := Lib.hid (Arr.on HA1.out hb2))
          | (go_at_call 32; (with_reducible refine (F4.out _ _ _ hB HA2.out).mono ?_); rintro e w4 ⟨rfl, hb4⟩; have hB := below_on hB hb4; have HA1 := Lib.hid (Arr.on HA1.out hb4))
          | (go_at_call 41; (with_reducible refine (F5.out _ _ _ hB HA1.out).mono ?_); rintro e w5 ⟨rfl, hb5⟩; have hB := below_on hB hb5)
          | (go_at_call 16; (with_reducible refine (HA.out _ (hm.on hB)).mono ?_); rintro e w1 ⟨rfl, hb1⟩; have hB := below_on hB hb1))
        go_ret
        exact ⟨rfl, hB⟩
  · have hG' : (G == 0) = false := by rw [beq_eq_false_iff_ne]; exact hG
    have hG2 : (G != 0) = true := by rw [bne_iff_ne]; exact hG
    clear hcn hG
    generalize bytesS L = Q at *
    by_cases hE : rightE l' = 0
    · rw [hbk hE] at F2
      simp only [] at F2
      rw [hE] at F1
      clear hbk ha' hE
      generalize bytesS l' = T at *
      rcases h with ⟨h1, rfl⟩ | ⟨h1, rfl⟩
      · have g1 : (4000 : Int) < s.size := by omega
        go_enter Tryd.func13, Tryd.ntmps13
        go_wp2_with (first
          | (go_at_call 31; (with_reducible refine HSO.out.mono ?_); rintro e w1 ⟨rfl, rfl⟩)
          | (go_at_call 32; (with_reducible refine (F1.out _ hB).mono ?_); rintro e w1 ⟨rfl, hb1⟩; have hB := below_on hB hb1)
          | (go_at_call 39; (with_reducible refine (F2.out _ hB).mono ?_); rintro e w2 ⟨A1, c1, rfl, ha1, _, _, hb1⟩; have HA1 := Lib.hid ha1; clear ha1; have hB := below_on hB hb1)
          | (go_at_call 39; (with_reducible refine (F3.out _ hB).mono ?_); rintro e w3 ⟨A2, c2, rfl, ha2, _, _, hb2⟩; have HA2 := Lib.hid ha2; clear ha2; have hB := below_on hB hb2; have HA1 := Lib.hid (Arr.on HA1.out hb2))
          | (go_at_call 32; (with_reducible refine (F4.out _ _ _ hB HA2.out).mono ?_); rintro e w4 ⟨rfl, hb4⟩; have hB := below_on hB hb4; have HA1 := Lib.hid (Arr.on HA1.out hb4))
          | (go_at_call 41; (with_reducible refine (F5.out _ _ _ hB HA1.out).mono ?_); rintro e w5 ⟨rfl, hb5⟩; have hB := below_on hB hb5)
          | (go_at_call 16; (with_reducible refine (HA.out _ (hm.on hB)).mono ?_); rintro e w1 ⟨rfl, hb1⟩; have hB := below_on hB hb1))
        go_ret
        exact ⟨rfl, hB⟩
      · have g1 : ¬ (4000 : Int) < s'.size := by omega
        go_enter Tryd.func13, Tryd.ntmps13
        go_wp2_with (first
          | (go_at_call 31; (with_reducible refine HSO.out.mono ?_); rintro e w1 ⟨rfl, rfl⟩)
          | (go_at_call 32; (with_reducible refine (F1.out _ hB).mono ?_); rintro e w1 ⟨rfl, hb1⟩; have hB := below_on hB hb1)
          | (go_at_call 39; (with_reducible refine (F2.out _ hB).mono ?_); rintro e w2 ⟨A1, c1, rfl, ha1, _, _, hb1⟩; have HA1 := Lib.hid ha1; clear ha1; have hB := below_on hB hb1)
          | (go_at_call 39; (with_reducible refine (F3.out _ hB).mono ?_); rintro e w3 ⟨A2, c2, rfl, ha2, _, _, hb2⟩; have HA2 := Lib.hid ha2; clear ha2; have hB := below_on hB hb2; have HA1 := Lib.hid (Arr.on HA1.out hb2))
          | (go_at_call 32; (with_reducible refine (F4.out _ _ _ hB HA2.out).mono ?_); rintro e w4 ⟨rfl, hb4⟩; have hB := below_on hB hb4; have HA1 := Lib.hid (Arr.on HA1.out hb4))
          | (go_at_call 41; (with_reducible refine (F5.out _ _ _ hB HA1.out).mono ?_); rintro e w5 ⟨rfl, hb5⟩; have hB := below_on hB hb5)
          | (go_at_call 16; (with_reducible refine (HA.out _ (hm.on hB)).mono ?_); rintro e w1 ⟨rfl, hb1⟩; have hB := below_on hB hb1))
        go_ret
        exact ⟨rfl, hB⟩
    · have hE' : (rightE l' == 0) = false := by rw [beq_eq_false_iff_ne]; exact hE
      have hE2 : (rightE l' != 0) = true := by rw [bne_iff_ne]; exact hE
      clear hbk ha'
      generalize rightE l' = E at *
      generalize (manOf (bytesS l')).1 = F at *
      generalize (manOf (bytesS l')).2 = M at *
      generalize bytesS l' = T at *
      clear hE
      rcases h with ⟨h1, rfl⟩ | ⟨h1, rfl⟩
      · have g1 : (4000 : Int) < s.size := by omega
        go_enter Tryd.func13, Tryd.ntmps13
        go_wp2_with (first
          | (go_at_call 31; (with_reducible refine HSO.out.mono ?_); rintro e w1 ⟨rfl, rfl⟩)
          | (go_at_call 32; (with_reducible refine (F1.out _ hB).mono ?_); rintro e w1 ⟨rfl, hb1⟩; have hB := below_on hB hb1)
          | (go_at_call 39; (with_reducible refine (F2.out _ hB).mono ?_); rintro e w2 ⟨A1, c1, rfl, ha1, _, _, hb1⟩; have HA1 := Lib.hid ha1; clear ha1; have hB := below_on hB hb1)
          | (go_at_call 39; (with_reducible refine (F3.out _ hB).mono ?_); rintro e w3 ⟨A2, c2, rfl, ha2, _, _, hb2⟩; have HA2 := Lib.hid ha2; clear ha2; have hB := below_on hB hb2; have HA1 := Lib.hid (Arr.on HA1.out hb2))
          | (go_at_call 32; (with_reducible refine (F4.out _ _ _ hB HA2.out).mono ?_); rintro e w4 ⟨rfl, hb4⟩; have hB := below_on hB hb4; have HA1 := Lib.hid (Arr.on HA1.out hb4))
          | (go_at_call 41; (with_reducible refine (F5.out _ _ _ hB HA1.out).mono ?_); rintro e w5 ⟨rfl, hb5⟩; have hB := below_on hB hb5)
          | (go_at_call 16; (with_reducible refine (HA.out _ (hm.on hB)).mono ?_); rintro e w1 ⟨rfl, hb1⟩; have hB := below_on hB hb1))
        go_ret
        exact ⟨rfl, hB⟩
      · have g1 : ¬ (4000 : Int) < s'.size := by omega
        go_enter Tryd.func13, Tryd.ntmps13
        go_wp2_with (first
          | (go_at_call 31; (with_reducible refine HSO.out.mono ?_); rintro e w1 ⟨rfl, rfl⟩)
          | (go_at_call 32; (with_reducible refine (F1.out _ hB).mono ?_); rintro e w1 ⟨rfl, hb1⟩; have hB := below_on hB hb1)
          | (go_at_call 39; (with_reducible refine (F2.out _ hB).mono ?_); rintro e w2 ⟨A1, c1, rfl, ha1, _, _, hb1⟩; have HA1 := Lib.hid ha1; clear ha1; have hB := below_on hB hb1)
          | (go_at_call 39; (with_reducible refine (F3.out _ hB).mono ?_); rintro e w3 ⟨A2, c2, rfl, ha2, _, _, hb2⟩; have HA2 := Lib.hid ha2; clear ha2; have hB := below_on hB hb2; have HA1 := Lib.hid (Arr.on HA1.out hb2))
          | (go_at_call 32; (with_reducible refine (F4.out _ _ _ hB HA2.out).mono ?_); rintro e w4 ⟨rfl, hb4⟩; have hB := below_on hB hb4; have HA1 := Lib.hid (Arr.on HA1.out hb4))
          | (go_at_call 41; (with_reducible refine (F5.out _ _ _ hB HA1.out).mono ?_); rintro e w5 ⟨rfl, hb5⟩; have hB := below_on hB hb5)
          | (go_at_call 16; (with_reducible refine (HA.out _ (hm.on hB)).mono ?_); rintro e w1 ⟨rfl, hb1⟩; have hB := below_on hB hb1))
        go_ret
        exact ⟨rfl, hB⟩
theorem law_back (A : Option Addr) (c : Nat) (l : List ItemD) (s : ByteArray) (w : World)
    (hz : l.length * 48 ≤ 140737488351232) (hcap : l.length ≤ c) (hx : ∀ f ∈ l, IOk f) (ha : Arr w w.heap.size 4 A l.length (icells l)) (hs : s.size ≤ 9223372036854775807) (hm : Ml w) :
    Calls Tryd.prog 13 #[.slice A l.length c, .string s] w fun e w' => e = .returned (.bool true) ∧ Below w.heap.size w w' := by
  by_cases h : 4000 < s.size
  · exact law_back_in A c l s (s.extract 0 4000) w (by simp; omega) (.inl ⟨h, rfl⟩) hs hz hcap hx ha hm
  · exact law_back_in A c l s s w (by omega) (.inr ⟨h, rfl⟩) hs hz hcap hx ha hm
end Go.Proofs.YtjhbmcgaehpadaaDoor
