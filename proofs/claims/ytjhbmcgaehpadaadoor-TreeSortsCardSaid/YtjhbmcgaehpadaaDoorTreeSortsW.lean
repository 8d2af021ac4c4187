/- The walk through TreeSorts. -/
import Derived.Test.YtjhbmcgaehpadaaDoorSortB
import Derived.Test.YtjhbmcgaehpadaaDoorBtw2
import Derived.Test.YtjhbmcgaehpadaaDoorTreeFilter3
import Derived.Test.YtjhbmcgaehpadaaDoorTreeFiltersW
import Derived.Test.YtjhbmcgaehpadaaDoorCls
namespace Go.Proofs.YtjhbmcgaehpadaaDoor
open Go.RowKit
set_option linter.unusedVariables false

set_option maxHeartbeats 2000000 in
set_option maxRecDepth 100000 in
theorem law_sorts (A : Option Addr) (c : Nat) (l : List FileD) (w : World) (hz : l.length * 40 ≤ 140737488351232) (hcap : l.length ≤ c) (hx : ∀ f ∈ l, FFit f) (ha : Arr w w.heap.size 3 A l.length (fcells l)) (hm : Ml w) :
    Calls Tryd.prog 12 #[.slice A l.length c] w fun e w' => e = .returned (.bool true) ∧ Below w.heap.size w w' := by
  have HA := Lib.hid awake_any
  have hfew := few_any A c l.length w (by omega) hcap (arr_some ha)
  rw [← few_len] at hfew
  have HFEW := Lib.hid hfew
  have ha' := ha.few
  have hxx : ∀ f ∈ l.take 60, FOk f := fun f hf => (hx f (List.mem_of_mem_take hf)).1
  have hl60 : (l.take 60).length ≤ 60 := by rw [List.length_take]; omega
  clear hfew ha hx
  generalize l.take 60 = l' at *
  obtain ⟨i0, hi0, hz0, hz1, hz2⟩ := info_parts infoFile
  have hown : (w.alloc (.cells #[] 58)).ownsRow w.heap.size 58 3 (.slice (some ⟨w.heap.size, 0, none⟩) 0 0) 0 [] := World.ownsRow_lit w #[] 0 (Nat.le_refl _) (by simp [maxLen]) (by simp)
  have hB : Below w.heap.size w (w.alloc (.cells #[] 58)) := (Below.refl _ _).alloc (Nat.le_refl _) _
  have HL := Lib.hid ha'
  have HX := Lib.hid hxx
  have hone := Lib.hid (fcells_cell l')
  obtain ⟨n, hn⟩ : ∃ n, l'.length = n := ⟨_, rfl⟩
  have Hn := Lib.hid hn
  have HS := Lib.hid (fun A c W h => sort_any A c l' W (by omega) hxx h)
  have HR := Lib.hid (fun A c W h => sort_ref A c l' W (by omega) hxx h)
  have hls : (sortS l').length = n := by rw [← (sortS_srt l').2.1]; exact hn
  have F1 := Lib.hid (fun A c B d W h1 h2 => files_same A c B d (sortS l') W (by omega) h1 h2)
  have F2 := Lib.hid (fun A c B d W h1 h2 => files_same A c B d l' W (by omega) h1 h2)
  rw [hls] at F1
  rw [hn] at F2 HS HR HL HFEW
  have hn60 : n ≤ 60 := by omega
  clear ha' hxx hn hls
  go_enter Tryd.func12, Tryd.ntmps12
  go_wp2_with (first
    | (go_at_call 25; (with_reducible refine HFEW.out.mono ?_); rintro e w1 ⟨rfl, rfl⟩)
    | (at_builtin; refine wpList_append_arr _ rfl _ _ 29 rfl Tryd.underlying29 hi0 hz0 hz1 hz2 rfl (by decide) hown rfl rfl (HL.out.below hB) hone.out (by rw [Nat.zero_add]; unfold maxLen; omega) (by rw [Nat.zero_add]; omega) hB.size ?_; intro v' w' hown' hgr' hat'; have HB1 := Lib.hid (hB.grown hgr' (by simp) (fun k hk => by simp [Value.ownBlock] at hk; omega)); have hown2 := hown'; rw [Nat.zero_add, List.nil_append] at hown2; obtain ⟨A1, c1, rfl, _, _, _⟩ := own_arr hown2; have HV1 := Lib.hid hown2; clear hown' hown2)
    | (go_at_call 42; (with_reducible refine (HS.out _ _ _ ((HL.out.below HB1.out).more HB1.out.size)).mono ?_); rintro e w2 ⟨v2, rfl, hv2, hb2⟩; obtain ⟨A2, c2, rfl, _, _, _⟩ := own_arr hv2; have HV2 := Lib.hid hv2; have HB2 := Lib.hid (below_on HB1.out hb2); have HV3 := Lib.hid (own_below HV1.out hb2); clear hv2 hb2)
    | (go_at_call 43; (with_reducible refine (HR.out _ _ _ ((HL.out.below HB2.out).more HB2.out.size)).mono ?_); rintro e w3 ⟨A3, c3, rfl, ha3, hb3⟩; have HA3 := Lib.hid ha3; have HB3 := Lib.hid (below_on HB2.out hb3); have HV4 := Lib.hid (own_below HV3.out hb3); have HV5 := Lib.hid (own_below HV2.out hb3); clear ha3 hb3)
    | (go_at_call 28; (with_reducible refine (F1.out _ _ _ _ _ (own_slice HV5.out) HA3.out).mono ?_); rintro e w4 ⟨rfl, hb4⟩; have HB4 := Lib.hid (below_on HB3.out hb4); have HV6 := Lib.hid (own_below HV4.out hb4); clear hb4)
    | (go_at_call 28; (with_reducible refine (F2.out _ _ _ _ _ (own_slice HV6.out) ((HL.out.below HB4.out).more HB4.out.size)).mono ?_); rintro e w5 ⟨rfl, hb5⟩; have HB5 := Lib.hid (below_on HB4.out hb5); clear hb5)
    | (go_at_call 16; (with_reducible refine (HA.out _ (hm.on HB5.out)).mono ?_); rintro e w6 ⟨rfl, hb6⟩; have HB6 := Lib.hid (below_on HB5.out hb6))
    | (fail))
  go_ret
  exact ⟨rfl, HB6.out⟩
end Go.Proofs.YtjhbmcgaehpadaaDoor
