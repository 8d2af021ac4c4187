/- The walk through ImageTrees. -/
import Derived.Test.YtlfennooocmclaaDoorIm9
namespace Go.Proofs.YtlfennooocmclaaDoor
open Go.RowKit
set_option linter.unusedVariables false

theorem treeGo_len (s : ByteArray) : ∀ (L : List SzD) (a : Nat) (acc : List FileD), (treeGo s L a acc).2.length ≤ L.length + acc.length
  | [], a, acc => by
    rw [treeGo]
    split <;> simp
  | x :: L, a, acc => by
    rw [treeGo]
    split
    · simp
    · have := treeGo_len s L (a + x.n) (acc ++ [⟨x.f.path, x.f.mode, s.extract a (a + x.n)⟩])
      simp at this ⊢
      omega
theorem tree_len (s : ByteArray) (hs : s.size ≤ 9223372036854775807) : (treeOf s).2.length ≤ 256 := by
  unfold treeOf
  split
  · simp
  · split
    · have h1 := treeGo_len s (headOf s).l (headOf s).at_ []
      have h2 := head_len s
      simp at h1
      omega
    · simp
set_option maxHeartbeats 2000000 in
set_option maxRecDepth 100000 in
theorem law_trees (s : ByteArray) (w : World) (hs : s.size ≤ 9223372036854775807) (hm : Ml w) :
    Calls Tryd.prog 5 #[.string s] w fun e w' => e = .returned (.bool true) ∧ Below w.heap.size w w' := by
  have HA := Lib.hid awakeI_any
  have HC := Lib.hid (cut_any s w hs)
  have h2 := cut_size s
  generalize cutS s = t at *
  have F1 := Lib.hid (fun W hm' => tree_any t W (by omega) hm')
  have F2 := Lib.hid (fun W => tree_ref t W (by omega))
  have hTl := tree_len t (by omega)
  generalize treeOf t = T at *
  obtain ⟨E, L⟩ := T
  unfold TreeOut at F1 F2
  simp only [] at F1 F2 hTl
  have F3 := Lib.hid (fun A c B d W (hl : L.length ≤ 9223372036854775807) (ha : Arr W W.heap.size 3 A L.length (fcells L)) (hb : Arr W W.heap.size 3 B L.length (fcells L)) => files_same A c B d L W hl ha hb)
  have hB : Below w.heap.size w w := Below.refl _ _
  go_enter Tryd.func5, Tryd.ntmps5
  go_wp2_with (first
    | (go_at_call 16; (with_reducible refine HC.out.mono ?_); rintro e w0 ⟨rfl, rfl⟩)
    | (go_at_call 17; (with_reducible refine (F1.out _ (hm.on hB)).mono ?_); rintro e w1 ⟨vf, rfl, hown, hb1⟩; obtain ⟨A1, c1, rfl, hcap1, ha1, hfr1⟩ := own_arr hown; have HA1 := Lib.hid ha1; clear ha1; have hB := below_on hB hb1)
    | (go_at_call 18; (with_reducible refine (F2.out _).mono ?_); rintro e w2 ⟨vf2, rfl, hown2, hb2⟩; obtain ⟨A2, c2, rfl, hcap2, ha2, hfr2⟩ := own_arr hown2; have HA2 := Lib.hid ha2; clear ha2; have hB := below_on hB hb2; have HA1' := Lib.hid ((HA1.out.below hb2).more hb2.size))
    | (go_at_call 19; (with_reducible refine (F3.out _ _ _ _ _ (by omega) HA1'.out HA2.out).mono ?_); rintro e w3 ⟨rfl, hb3⟩; have hB := below_on hB hb3)
    | (go_at_call 15; (with_reducible refine (HA.out _ (hm.on hB)).mono ?_); rintro e w5 ⟨rfl, hb5⟩; have hB := below_on hB hb5))
  go_ret
  exact ⟨rfl, hB⟩
end Go.Proofs.YtlfennooocmclaaDoor
