/- The walk through ImageBack. -/
import Derived.Test.YtlfennooocmclaaDoorImBackPl
import Derived.Test.YtlfennooocmclaaDoorImTreesW
namespace Go.Proofs.YtlfennooocmclaaDoor
open Go.RowKit
set_option linter.unusedVariables false

theorem Arr.on3 {w w' : World} {size n : Nat} {A : Option Addr} {xs : List Value} (h : Arr w w.heap.size size A n xs) (hb : Below w.heap.size w w') : Arr w' w'.heap.size size A n xs := (h.below hb).more hb.size
theorem tree_good (s : ByteArray) (hs : s.size ≤ 9223372036854775807) {l : List FileD} {E : Int} (h : treeOf s = (E, l)) : ∀ f ∈ l, FOk f := by
  by_cases hE : E = 0
  · subst hE
    obtain ⟨h1, _⟩ := tree_canon hs h
    obtain ⟨_, hg⟩ := check_good (of_zero h1).1
    intro f hf
    have := hg f hf
    exact ⟨by have := this.long; omega, by have := this.data; omega⟩
  · have hn : l = [] := by
      unfold treeOf at h
      by_cases hb : 524288 < s.size
      · rw [if_pos hb] at h; injection h with _ h; exact h.symm
      · rw [if_neg hb] at h
        by_cases h0 : (headOf s).e = 0
        · rw [if_pos h0] at h
          have : ∀ (L : List SzD) (a : Nat) (acc : List FileD), (treeGo s L a acc).1 ≠ 0 → (treeGo s L a acc).2 = [] := by
            intro L
            induction L with
            | nil => intro a acc hn; rw [treeGo] at hn ⊢; split; rfl; rename_i h1; rw [if_neg h1] at hn; exact absurd rfl hn
            | cons x L ih => intro a acc hn; rw [treeGo] at hn ⊢; split; rfl; rename_i h1; rw [if_neg h1] at hn; exact ih _ _ hn
          have h2 := this (headOf s).l (headOf s).at_ [] (by rw [h]; exact hE)
          rw [h] at h2
          exact h2
        · rw [if_neg h0] at h; injection h with _ h; exact h.symm
    rw [hn]
    simp
set_option maxHeartbeats 4000000 in
set_option maxRecDepth 100000 in
theorem law_back (A : Option Addr) (c : Nat) (l : List FileD) (s : ByteArray) (w : World)
    (hz : l.length * 40 ≤ 140737488351232) (hcap : l.length ≤ c) (hxf : ∀ f ∈ l, FFit f) (ha : Arr w w.heap.size 3 A l.length (fcells l)) (hs : s.size ≤ 9223372036854775807) (hm : Ml w) :
    Calls Tryd.prog 6 #[.slice A l.length c, .string s] w fun e w' => e = .returned (.bool true) ∧ Below w.heap.size w w' := by
  have hx : ∀ f ∈ l, FOk f := fun f hf => (hxf f hf).1
  clear hxf
  have HA := Lib.hid awakeI_any
  have hfew := fewI_any A c l w (by omega) hx ha
  obtain ⟨h60, hxx⟩ := few_ok 60 0 l hx
  have hl' : (fewF l).length ≤ 60 := h60
  have hxx' : ∀ f ∈ fewF l, FOk f := hxx
  have hts : (ofS (fewF l)).size ≤ 524288 := by
    unfold ofS
    by_cases h : ofE (fewF l) = 0
    · rw [if_pos h, ba_size]; exact (of_zero h).2
    · rw [if_neg h]; show (0 : Nat) ≤ _; omega
  have F1 := Lib.hid (fun A' c' W (ha' : Arr W W.heap.size 3 A' (fewF l).length (fcells (fewF l))) hm' => of_any A' c' (fewF l) W (by omega) hxx' ha' hm')
  have F2 := Lib.hid (fun W hm' => tree_any (ofS (fewF l)) W (by omega) hm')
  have F5 := Lib.hid (fun A c B d W (ha : Arr W W.heap.size 3 A (fewF l).length (fcells (fewF l))) (hb : Arr W W.heap.size 3 B (fewF l).length (fcells (fewF l))) => files_same A c B d (fewF l) W (by omega) ha hb)
  have HC := Lib.hid (fun W => cut_any s W hs)
  have h2 := cut_size s
  have hback := fun h => tree_back (l := fewF l) h
  unfold LsOut at hfew
  unfold OfIs at F1
  clear h60 hxx hxx' ha hx
  generalize fewF l = l' at *
  generalize cutS s = t at *
  have hgo := fun E n h => tree_good t (by omega) (l := n) (E := E) h
  have hle := tree_len t (by omega)
  have F3 := Lib.hid (fun W hm' => tree_any t W (by omega) hm')
  have hcan := fun n h => tree_canon (s := t) (l := n) (by omega) h
  obtain ⟨G, n, hn⟩ : ∃ G n, treeOf t = (G, n) := ⟨_, _, rfl⟩
  have hgo := hgo G n hn
  have hcan := hcan n
  rw [hn] at F3 hle hcan
  clear hn
  unfold TreeOut at F2 F3
  simp only [] at F3 hle
  have F4 := Lib.hid (fun A' c' W (ha' : Arr W W.heap.size 3 A' n.length (fcells n)) hm' => of_any A' c' n W (by omega) hgo ha' hm')
  unfold OfIs at F4
  clear hgo
  generalize ofS l' = T at *
  generalize ofE l' = E at *
  have HF := Lib.hid hfew
  clear hfew
  have hB : Below w.heap.size w w := Below.refl _ _
  by_cases hE : E = 0
  · rw [hback hE] at F2
    simp only [] at F2
    subst hE
    clear hback
    by_cases hG : G = 0
    · subst hG
      obtain ⟨h5, h6⟩ := hcan rfl
      rw [h5, h6] at F4
      clear hcan h5 h6
      go_enter Tryd.func6, Tryd.ntmps6
      go_wp2_with (first | (go_at_call 11; (with_reducible refine HF.out.mono ?_); rintro e w1 ⟨A1, c1, rfl, ha1, hb1⟩; have HA1 := Lib.hid ha1; clear ha1; have hB := below_on hB hb1) | (go_at_call 16; (with_reducible refine (HC.out _).mono ?_); rintro e w0 ⟨rfl, rfl⟩) | (go_at_call 12; (with_reducible refine (F1.out _ _ _ HA1.out (hm.on hB)).mono ?_); rintro e w2 ⟨rfl, hb2⟩; have hB := below_on hB hb2; have HA1 := Lib.hid (Arr.on3 HA1.out hb2)) | (go_at_call 17; (with_reducible refine (F2.out _ (hm.on hB)).mono ?_); rintro e w3 ⟨vf3, rfl, hown3, hb3⟩; obtain ⟨A3, c3, rfl, hcap3, ha3, hfr3⟩ := own_arr hown3; have HA3 := Lib.hid ha3; clear ha3 hown3 hfr3; have hB := below_on hB hb3; have HA1 := Lib.hid (Arr.on3 HA1.out hb3)) | (go_at_call 17; (with_reducible refine (F3.out _ (hm.on hB)).mono ?_); rintro e w4 ⟨vf4, rfl, hown4, hb4⟩; obtain ⟨A4, c4, rfl, hcap4, ha4, hfr4⟩ := own_arr hown4; have HA4 := Lib.hid ha4; clear ha4 hown4 hfr4; have hB := below_on hB hb4; have HA1 := Lib.hid (Arr.on3 HA1.out hb4); have HA3 := Lib.hid (Arr.on3 HA3.out hb4)) | (go_at_call 12; (with_reducible refine (F4.out _ _ _ HA4.out (hm.on hB)).mono ?_); rintro e w5 ⟨rfl, hb5⟩; have hB := below_on hB hb5; have HA1 := Lib.hid (Arr.on3 HA1.out hb5); have HA3 := Lib.hid (Arr.on3 HA3.out hb5)) | (go_at_call 19; (with_reducible refine (F5.out _ _ _ _ _ HA3.out HA1.out).mono ?_); rintro e w6 ⟨rfl, hb6⟩; have hB := below_on hB hb6) | (go_at_call 15; (with_reducible refine (HA.out _ (hm.on hB)).mono ?_); rintro e w7 ⟨rfl, hb7⟩; have hB := below_on hB hb7))
      go_ret
      exact ⟨rfl, hB⟩
    · have e0 : (G == 0) = false := by rw [beq_eq_false_iff_ne]; exact hG
      have e1 : (G != 0) = true := by rw [bne_iff_ne]; exact hG
      clear hcan hG
      generalize ofS n = T5 at *
      generalize ofE n = E5 at *
      go_enter Tryd.func6, Tryd.ntmps6
      go_wp2_with (first | (go_at_call 11; (with_reducible refine HF.out.mono ?_); rintro e w1 ⟨A1, c1, rfl, ha1, hb1⟩; have HA1 := Lib.hid ha1; clear ha1; have hB := below_on hB hb1) | (go_at_call 16; (with_reducible refine (HC.out _).mono ?_); rintro e w0 ⟨rfl, rfl⟩) | (go_at_call 12; (with_reducible refine (F1.out _ _ _ HA1.out (hm.on hB)).mono ?_); rintro e w2 ⟨rfl, hb2⟩; have hB := below_on hB hb2; have HA1 := Lib.hid (Arr.on3 HA1.out hb2)) | (go_at_call 17; (with_reducible refine (F2.out _ (hm.on hB)).mono ?_); rintro e w3 ⟨vf3, rfl, hown3, hb3⟩; obtain ⟨A3, c3, rfl, hcap3, ha3, hfr3⟩ := own_arr hown3; have HA3 := Lib.hid ha3; clear ha3 hown3 hfr3; have hB := below_on hB hb3; have HA1 := Lib.hid (Arr.on3 HA1.out hb3)) | (go_at_call 17; (with_reducible refine (F3.out _ (hm.on hB)).mono ?_); rintro e w4 ⟨vf4, rfl, hown4, hb4⟩; obtain ⟨A4, c4, rfl, hcap4, ha4, hfr4⟩ := own_arr hown4; have HA4 := Lib.hid ha4; clear ha4 hown4 hfr4; have hB := below_on hB hb4; have HA1 := Lib.hid (Arr.on3 HA1.out hb4); have HA3 := Lib.hid (Arr.on3 HA3.out hb4)) | (go_at_call 12; (with_reducible refine (F4.out _ _ _ HA4.out (hm.on hB)).mono ?_); rintro e w5 ⟨rfl, hb5⟩; have hB := below_on hB hb5; have HA1 := Lib.hid (Arr.on3 HA1.out hb5); have HA3 := Lib.hid (Arr.on3 HA3.out hb5)) | (go_at_call 19; (with_reducible refine (F5.out _ _ _ _ _ HA3.out HA1.out).mono ?_); rintro e w6 ⟨rfl, hb6⟩; have hB := below_on hB hb6) | (go_at_call 15; (with_reducible refine (HA.out _ (hm.on hB)).mono ?_); rintro e w7 ⟨rfl, hb7⟩; have hB := below_on hB hb7))
      go_ret
      exact ⟨rfl, hB⟩
  · have e2 : (E == 0) = false := by rw [beq_eq_false_iff_ne]; exact hE
    have e3 : (E != 0) = true := by rw [bne_iff_ne]; exact hE
    clear hback hE
    generalize treeOf T = M at *
    obtain ⟨F, M⟩ := M
    simp only [] at F2
    by_cases hG : G = 0
    · subst hG
      obtain ⟨h5, h6⟩ := hcan rfl
      rw [h5, h6] at F4
      clear hcan h5 h6
      go_enter Tryd.func6, Tryd.ntmps6
      go_wp2_with (first | (go_at_call 11; (with_reducible refine HF.out.mono ?_); rintro e w1 ⟨A1, c1, rfl, ha1, hb1⟩; have HA1 := Lib.hid ha1; clear ha1; have hB := below_on hB hb1) | (go_at_call 16; (with_reducible refine (HC.out _).mono ?_); rintro e w0 ⟨rfl, rfl⟩) | (go_at_call 12; (with_reducible refine (F1.out _ _ _ HA1.out (hm.on hB)).mono ?_); rintro e w2 ⟨rfl, hb2⟩; have hB := below_on hB hb2; have HA1 := Lib.hid (Arr.on3 HA1.out hb2)) | (go_at_call 17; (with_reducible refine (F2.out _ (hm.on hB)).mono ?_); rintro e w3 ⟨vf3, rfl, hown3, hb3⟩; obtain ⟨A3, c3, rfl, hcap3, ha3, hfr3⟩ := own_arr hown3; have HA3 := Lib.hid ha3; clear ha3 hown3 hfr3; have hB := below_on hB hb3; have HA1 := Lib.hid (Arr.on3 HA1.out hb3)) | (go_at_call 17; (with_reducible refine (F3.out _ (hm.on hB)).mono ?_); rintro e w4 ⟨vf4, rfl, hown4, hb4⟩; obtain ⟨A4, c4, rfl, hcap4, ha4, hfr4⟩ := own_arr hown4; have HA4 := Lib.hid ha4; clear ha4 hown4 hfr4; have hB := below_on hB hb4; have HA1 := Lib.hid (Arr.on3 HA1.out hb4); have HA3 := Lib.hid (Arr.on3 HA3.out hb4)) | (go_at_call 12; (with_reducible refine (F4.out _ _ _ HA4.out (hm.on hB)).mono ?_); rintro e w5 ⟨rfl, hb5⟩; have hB := below_on hB hb5; have HA1 := Lib.hid (Arr.on3 HA1.out hb5); have HA3 := Lib.hid (Arr.on3 HA3.out hb5)) | (go_at_call 19; (with_reducible refine (F5.out _ _ _ _ _ HA3.out HA1.out).mono ?_); rintro e w6 ⟨rfl, hb6⟩; have hB := below_on hB hb6) | (go_at_call 15; (with_reducible refine (HA.out _ (hm.on hB)).mono ?_); rintro e w7 ⟨rfl, hb7⟩; have hB := below_on hB hb7))
      go_ret
      exact ⟨rfl, hB⟩
    · have e0 : (G == 0) = false := by rw [beq_eq_false_iff_ne]; exact hG
      have e1 : (G != 0) = true := by rw [bne_iff_ne]; exact hG
      clear hcan hG
      generalize ofS n = T5 at *
      generalize ofE n = E5 at *
      go_enter Tryd.func6, Tryd.ntmps6
      go_wp2_with (first | (go_at_call 11; (with_reducible refine HF.out.mono ?_); rintro e w1 ⟨A1, c1, rfl, ha1, hb1⟩; have HA1 := Lib.hid ha1; clear ha1; have hB := below_on hB hb1) | (go_at_call 16; (with_reducible refine (HC.out _).mono ?_); rintro e w0 ⟨rfl, rfl⟩) | (go_at_call 12; (with_reducible refine (F1.out _ _ _ HA1.out (hm.on hB)).mono ?_); rintro e w2 ⟨rfl, hb2⟩; have hB := below_on hB hb2; have HA1 := Lib.hid (Arr.on3 HA1.out hb2)) | (go_at_call 17; (with_reducible refine (F2.out _ (hm.on hB)).mono ?_); rintro e w3 ⟨vf3, rfl, hown3, hb3⟩; obtain ⟨A3, c3, rfl, hcap3, ha3, hfr3⟩ := own_arr hown3; have HA3 := Lib.hid ha3; clear ha3 hown3 hfr3; have hB := below_on hB hb3; have HA1 := Lib.hid (Arr.on3 HA1.out hb3)) | (go_at_call 17; (with_reducible refine (F3.out _ (hm.on hB)).mono ?_); rintro e w4 ⟨vf4, rfl, hown4, hb4⟩; obtain ⟨A4, c4, rfl, hcap4, ha4, hfr4⟩ := own_arr hown4; have HA4 := Lib.hid ha4; clear ha4 hown4 hfr4; have hB := below_on hB hb4; have HA1 := Lib.hid (Arr.on3 HA1.out hb4); have HA3 := Lib.hid (Arr.on3 HA3.out hb4)) | (go_at_call 12; (with_reducible refine (F4.out _ _ _ HA4.out (hm.on hB)).mono ?_); rintro e w5 ⟨rfl, hb5⟩; have hB := below_on hB hb5; have HA1 := Lib.hid (Arr.on3 HA1.out hb5); have HA3 := Lib.hid (Arr.on3 HA3.out hb5)) | (go_at_call 19; (with_reducible refine (F5.out _ _ _ _ _ HA3.out HA1.out).mono ?_); rintro e w6 ⟨rfl, hb6⟩; have hB := below_on hB hb6) | (go_at_call 15; (with_reducible refine (HA.out _ (hm.on hB)).mono ?_); rintro e w7 ⟨rfl, hb7⟩; have hB := below_on hB hb7))
      go_ret
      exact ⟨rfl, hB⟩
end Go.Proofs.YtlfennooocmclaaDoor
