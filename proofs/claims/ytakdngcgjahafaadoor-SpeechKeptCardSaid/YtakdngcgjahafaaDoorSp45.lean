/- The walk through SpeechKept. -/
import Derived.Test.YtakdngcgjahafaaDoorSp44
import Derived.Test.YtakdngcgjahafaaDoorSp29
namespace Go.Proofs.YtakdngcgjahafaaDoor
open Go.RowKit
set_option linter.unusedVariables false

theorem stA_img (l : List EvD) (s : List Int) : ∀ (k : Nat) (t : ByteArray), t ∈ (stA l (s.take k)).trees → ∃ fs : List FileD, t = ofS fs ∧ ofE fs = 0
  | 0, t, h => by simp [stA] at h
  | k + 1, t, h => by
    cases hk : s[k]? with
    | none =>
      have : s.take (k + 1) = s.take k := by rw [List.take_add_one, hk]; simp
      rw [this] at h
      exact stA_img l s k t h
    | some i =>
      have : stA l (s.take (k + 1)) = nextL l (stA l (s.take k)) i := by
        unfold stA
        rw [List.take_add_one, hk, Option.toList_some, List.foldl_append]
        rfl
      rw [this] at h
      unfold nextL at h
      cases he : atI l i with
      | none => rw [he] at h; exact stA_img l s k t h
      | some e =>
        rw [he] at h
        change t ∈ (doP (stA l (s.take k)) (callOf e)).1.trees at h
        rcases do_trees (stA l (s.take k)) (callOf e) with h1 | ⟨_, h2, h3, _⟩
        · rw [h1] at h
          exact stA_img l s k t h
        · rw [h3] at h
          rcases List.mem_append.1 h with h | h
          · exact stA_img l s k t h
          · rw [List.mem_singleton] at h
            exact ⟨_, h, h2⟩
theorem tree_bent : ((treeOf ⟨#[98, 101, 110, 116]⟩).1 == 0) = false := by kernel_rfl
theorem not_bent {t : ByteArray} (h : ∃ fs : List FileD, t = ofS fs ∧ ofE fs = 0) : t ≠ ⟨#[98, 101, 110, 116]⟩ := by
  obtain ⟨fs, h1, h2⟩ := h
  intro h3
  have h4 := tree_back h2
  rw [← h1, h3] at h4
  have h5 := tree_bent
  rw [h4] at h5
  cases h5
theorem bent_false {t : ByteArray} (h : t ≠ ⟨#[98, 101, 110, 116]⟩) : (t.toList == [98, 101, 110, 116]) = false := by
  rw [beq_eq_false_iff_ne]
  intro e
  rw [ByteArray.toList_eq] at e
  exact h (ba_ext e)
theorem own_any_set {W : World} {b : Nat} {t : TypeId} {n : Nat} {v : Value} {xs : List Value} (h : W.ownsRow b t 1 v n xs) (g k : Nat) (u : Value) : ∃ xs', (W.setCell ⟨g, k, none⟩ u).ownsRow b t 1 v n xs' := by
  by_cases hg : v.ownBlock = some g
  · rcases h.2 with ⟨rfl, _⟩ | ⟨g', cap, cur, rfl, _⟩
    · cases hg
    · have : g' = g := by simpa [Value.ownBlock] using hg
      subst this
      exact ⟨_, (h.stored k u).1⟩
  · exact ⟨xs, own_setbox h hg⟩
/-- Rows of logs, whatever their trees hold. -/
structure KR (W : World) (b : Nat) (V : Value) (es : List LgE) : Prop where
  row : W.ownsRow b 25 2 V es.length (lcells es)
  tr : ∀ x ∈ es, ∃ xs, W.ownsRow b 9 1 (.slice x.A x.g.trees.length x.c) x.g.trees.length xs
theorem KR.of {W : World} {b : Nat} {V : Value} {es : List LgE} (h : LogRow W b V es) : KR W b V es := ⟨h.row, fun x hx => ⟨_, h.tr x hx⟩⟩
theorem KR.bend {W : World} {b : Nat} {V : Value} {es : List LgE} (h : KR W b V es) {g k c n : Nat} {xs : List Value} (hg : W.ownsRow b 9 1 (.slice (some ⟨g, 0, none⟩) n c) n xs) (u : Value) : KR (W.setCell ⟨g, k, none⟩ u) b V es := by
  refine ⟨own_setbox h.row ?_, fun x hx => ?_⟩
  · rcases own_apart h.row hg (by decide) with h1 | h1
    · rw [h1]; simp
    · exact h1
  · obtain ⟨ys, hy⟩ := h.tr x hx
    exact own_any_set hy g k u
theorem row_cells {W : World} {b ob oo n c : Nat} {es : List LgE} (h : W.ownsRow b 25 2 (.slice (some ⟨ob, oo, none⟩) n c) n (lcells es)) {k : Nat} {x : LgE} (hx : es[k]? = some x) (hn : 0 < n) : W.cell? ⟨ob, oo + k * 2, none⟩ = some (.int .i64 x.g.floor) ∧ W.cell? ⟨ob, oo + k * 2 + 1, none⟩ = some (.slice x.A x.g.trees.length x.c) := by
  obtain ⟨b2, o2, e, _, hc⟩ := (own_slice h).2 hn
  injection e with e
  injection e with e1 e2
  subst e1 e2
  exact log_cells hc hx
def KwO (w1 : World) (V : Value) (es : List LgE) (b : Nat) (v : Value) (wr : World) : Prop := ∃ k : Nat, k ≤ es.length ∧ v = .int .i64 k ∧ Hid (KR wr b V es) ∧ Below w1.heap.size w1 wr
def KwI (w1 : World) (V : Value) (es : List LgE) (b n : Nat) (v : Value) (wr : World) : Prop := ∃ j : Nat, j ≤ n ∧ v = .int .i64 j ∧ Hid (KR wr b V es) ∧ Below w1.heap.size w1 wr
set_option maxHeartbeats 8000000 in
set_option maxRecDepth 100000 in
theorem law_kept (A : Option Addr) (c : Nat) (l0 : List EvD) (SA : Option Addr) (SC : Nat) (s : List Int) (w : World) (hz : l0.length ≤ 9223372036854775807) (ha : Arr w w.heap.size 10 A l0.length (ecells l0)) (hi : ∀ e ∈ l0, EvIn w e)
    (zs : s.length * 8 ≤ 140737488351232) (hc1 : s.length ≤ SC) (hb1 : ∀ x ∈ s, -9223372036854775808 ≤ x ∧ x ≤ 9223372036854775807) (hsa : Arr w w.heap.size 1 SA s.length (s.map (Value.int .i64))) (hm : Ml w) :
    Calls Tryd.prog 12 #[.slice A l0.length c, .slice SA s.length SC] w fun e w' => e = .returned (.bool true) ∧ Below w.heap.size w w' := by
  have AW := Lib.hid (fun X (h : Below w.heap.size w X) => awake22 X (hm.on h))
  have SH0 := short_any A c l0 12 w hz (by omega) ha hi
  rw [show ((12 : Nat) : Int) = 12 from rfl] at SH0
  have SH := Lib.hid SH0
  clear SH0
  unfold ShortOut at SH
  have HM := Lib.hid hm
  have HS := Lib.hid hsa
  generalize l0.length = n0 at *
  clear ha hi hm hz hsa hb1 hc1
  go_enter Tryd.func12, Tryd.ntmps12
  go_wp2_with (go_at_call 19; (with_reducible refine (SH.out).mono ?_); rintro x w1 ⟨V, l, rfl, hg, hl8, hb1⟩; have HGW := Lib.hid hg; have HB1 := Lib.hid hb1; clear hg hb1)
  have hh := HGW.out.hist
  have hE : ∀ e ∈ l, EFit e := fun e he => (HGW.out.fit e he).1
  obtain ⟨LA, LC, rfl, _, hla, _⟩ := own_arr hh.row
  have hs1 := (HS.out.below HB1.out).more HB1.out.size
  have HR1 := Lib.hid (fun X (h : Below w1.heap.size w1 X) => holds_ref X (HM.out.on (HB1.out.trans (h.mono HB1.out.size))) (hh.below h) hE (by omega) SA SC s (by omega) ((hs1.below h).more h.size))
  cases hH : holdsP l s with
  | false =>
    have LO := Lib.hid (fun X (h : Below w1.heap.size w1 X) => logs_no X (HM.out.on (HB1.out.trans (h.mono HB1.out.size))) (hh.below h) hE (by omega) SA SC s (by omega) ((hs1.below h).more h.size) hH)
    rw [hH] at HR1
    clear hh hE hla hs1 hH
    go_wp2_with (first
      | (go_at_call 34; (with_reducible refine (LO.out _ (Below.refl _ _)).mono ?_); rintro x w2 ⟨rfl, hb2⟩)
      | (fail))
    go_loopw [7] (fun v wr => v = .int .i64 0 ∧ wr = w2) (fun _ _ => 0)
    case atStart => exact ⟨rfl, rfl⟩
    case round =>
      obtain ⟨rfl, rfl⟩ := hrel
      go_wp2_with (first
        | (go_at_call 34; (with_reducible refine (LO.out _ hb2).mono ?_); rintro x w3 ⟨rfl, hb3⟩; have hb23 := below_on hb2 hb3)
        | (fail))
      go_loopw [11] (fun v wr => v = .int .i64 0 ∧ wr = w3) (fun _ _ => 0)
      case atStart => exact ⟨rfl, rfl⟩
      case round =>
        obtain ⟨rfl, rfl⟩ := hrel
        go_wp2_with (first
          | (go_at_call 22; (with_reducible refine (HR1.out _ hb23).mono ?_); rintro x w4 ⟨rfl, hb4⟩; have hBW := HB1.out.trans ((below_on hb23 hb4).mono HB1.out.size))
          | (go_at_call 18; (with_reducible refine (AW.out _ hBW).mono ?_); rintro x w9 ⟨rfl, hb9⟩; have hB9 := below_on hBW hb9)
          | (fail))
        go_ret
        exact ⟨rfl, hB9⟩
  | true =>
    have LO := Lib.hid (fun X (h : Below w1.heap.size w1 X) => logs_yes X (HM.out.on (HB1.out.trans (h.mono HB1.out.size))) (hh.below h) hE (by omega) SA SC s (by omega) ((hs1.below h).more h.size) hH)
    unfold LogsYes at LO
    rw [hH] at HR1
    have hsl2 : s.length ≤ 256 := by
      obtain ⟨h1, h2⟩ : rightP l = true ∧ holdsGo tells l s (List.replicate l.length false) ⟨0, []⟩ = true := by
        unfold holdsP at hH; rw [Bool.and_eq_true] at hH; exact hH
      have hsl := holds_len _ _ _ h2
      exact Nat.le_trans hsl (by have := undone_rep l.length; unfold undone; omega)
    clear hh hE hla hs1 hH
    go_wp2_with (first
      | (go_at_call 34; (with_reducible refine (LO.out _ (Below.refl _ _)).mono ?_); rintro x w2 ⟨V2, es, rfl, hlr, hel, hes, hb2⟩; obtain ⟨OA, OC, rfl, _, hoa, _⟩ := own_arr hlr.row; have HKR := Lib.hid (KR.of hlr); have hel1 : 0 < es.length := (by omega); have hel2 : es.length ≤ 257 := (by omega); obtain ⟨ob, oo, hOA, hob, _⟩ := hoa.2 hel1; subst hOA; clear hlr hel hes hoa)
      | (fail))
    go_loopw [7] (fun v wr => KwO w1 (.slice (some ⟨ob, oo, none⟩) es.length OC) es w1.heap.size v wr) (fun v _ => es.length - (intOf v).toNat)
    case atStart => unfold KwO; exact ⟨0, Nat.zero_le _, rfl, HKR, hb2⟩
    case round =>
      unfold KwO at hrel
      obtain ⟨k, hk, rfl, HK, hB⟩ := hrel
      by_cases hlt : k < es.length
      · have kl : (k : Int) < es.length := by omega
        obtain ⟨⟨gx, xA, xc⟩, hx⟩ : ∃ x, es[k]? = some x := ⟨_, List.getElem?_eq_getElem hlt⟩
        have HX := Lib.hid hx
        clear hx
        obtain ⟨n, hn⟩ : ∃ n, n = gx.trees.length := ⟨_, rfl⟩
        have HN := Lib.hid hn
        clear hn
        go_wp2
        go_loopw [8] (fun v wi => KwI w1 (.slice (some ⟨ob, oo, none⟩) es.length OC) es w1.heap.size n v wi) (fun v _ => n - (intOf v).toNat)
        case atStart => unfold KwI; exact ⟨0, Nat.zero_le _, rfl, HK, hB⟩
        case round =>
          unfold KwI at hrel
          obtain ⟨j, hj, rfl, HKi, hBi⟩ := hrel
          obtain ⟨c0, c1⟩ := row_cells HKi.out.row HX.out hel1
          by_cases hjl : j < n
          · have jl : (j : Int) < gx.trees.length := by have := HN.out; omega
            obtain ⟨xs, hxs⟩ := HKi.out.tr _ (List.mem_of_getElem? HX.out)
            have hxs' : wr.ownsRow w1.heap.size 9 1 (.slice xA gx.trees.length xc) gx.trees.length xs := hxs
            obtain ⟨g, cc, hV, hgb, _⟩ := hxs'.form (by omega)
            injection hV with v1 _ v3
            subst v1 v3
            obtain ⟨u, hu⟩ : ∃ u, xs[j]? = some u := ⟨_, List.getElem?_eq_getElem (by have := hxs'.1; omega)⟩
            have hc := hxs'.cellAt j (by omega)
            rw [hu] at hc
            have hfz := hxs'.frozenAt j
            have HK9 := Lib.hid (HKi.out.bend (k := j) hxs' (.string ⟨#[98, 101, 110, 116]⟩))
            have hB9 : Below w1.heap.size w1 (wr.setCell ⟨g, j, none⟩ (.string ⟨#[98, 101, 110, 116]⟩)) := hBi.setCell (p := ⟨g, j, none⟩) hgb _
            have hnl := own_len hxs'
            clear hxs hxs' hu
            go_wp2
            go_roundw
            case rel => unfold KwI; exact ⟨j + 1, by omega, by go_num, HK9, hB9⟩
            case measure => simp [intOf] <;> omega
          · have jl : ¬ (j : Int) < gx.trees.length := by have := HN.out; omega
            go_wp2
            go_roundw
            case rel => unfold KwO; exact ⟨k + 1, by omega, by go_num, HKi, hBi⟩
            case measure => simp [intOf] <;> omega
      · have kl : ¬ (k : Int) < es.length := by omega
        have HB := Lib.hid hB
        clear HK
        go_wp2_with (first
          | (go_at_call 34; (with_reducible refine (LO.out _ hB).mono ?_); rintro x w3 ⟨V3, fs, rfl, hlr, hel, hes, hb3⟩; obtain ⟨PA, PC, rfl, _, hpa, _⟩ := own_arr hlr.row; have HL3 := Lib.hid hlr; have HF3 := Lib.hid hes; have hfl1 : 0 < fs.length := (by omega); have hfl2 : fs.length ≤ 257 := (by omega); obtain ⟨pb, po, hPA, hpb, _⟩ := hpa.2 hfl1; subst hPA; clear hlr hel hes hpa)
          | (fail))
        go_loopw [11] (fun v wr => ∃ k : Nat, k ≤ fs.length ∧ v = .int .i64 k ∧ wr = w3) (fun v _ => fs.length - (intOf v).toNat)
        case atStart => exact ⟨0, Nat.zero_le _, rfl, rfl⟩
        case round =>
          obtain ⟨m, hm9, rfl, rfl⟩ := hrel
          by_cases hmt : m < fs.length
          · have ml : (m : Int) < fs.length := by omega
            obtain ⟨⟨gx, xA, xc⟩, hx⟩ : ∃ x, fs[m]? = some x := ⟨_, List.getElem?_eq_getElem hmt⟩
            have HX := Lib.hid hx
            clear hx
            obtain ⟨n, hn⟩ : ∃ n, n = gx.trees.length := ⟨_, rfl⟩
            have HN := Lib.hid hn
            clear hn
            obtain ⟨c0, c1⟩ := row_cells HL3.out.row HX.out hfl1
            obtain ⟨w4, rfl⟩ : ∃ x, x = wr := ⟨_, rfl⟩
            go_wp2
            go_loopw [12] (fun v wi => ∃ j : Nat, j ≤ n ∧ v = .int .i64 j ∧ wi = w4) (fun v _ => n - (intOf v).toNat)
            case atStart => exact ⟨0, Nat.zero_le _, rfl, rfl⟩
            case round =>
              obtain ⟨j, hj, rfl, rfl⟩ := hrel
              by_cases hjl : j < n
              · have jl : (j : Int) < gx.trees.length := by have := HN.out; omega
                have hxs : wr.ownsRow _ 9 1 (.slice xA gx.trees.length xc) gx.trees.length (gx.trees.map Value.string) := HL3.out.tr _ (List.mem_of_getElem? HX.out)
                obtain ⟨g, cc, hV, hgb, _⟩ := hxs.form (by omega)
                injection hV with v1 _ v3
                subst v1 v3
                obtain ⟨t, ht⟩ : ∃ t, gx.trees[j]? = some t := ⟨_, List.getElem?_eq_getElem (by have := HN.out; omega)⟩
                have hgs : gx = stA l (s.take m) := HF3.out m _ HX.out
                have hnt := not_bent (stA_img l s m t (by rw [← hgs]; exact List.mem_of_getElem? ht))
                have hc := hxs.cellAt j (by omega)
                rw [List.getElem?_map, ht] at hc
                have hc' : wr.cell? ⟨g, j, none⟩ = some (.string t) := hc
                have hnl := own_len hxs
                have hnb := bent_false hnt
                clear hxs ht hgs hc hnt
                go_wp2
                go_roundw
                case rel => exact ⟨j + 1, by omega, by go_num, trivial⟩
                case measure => simp [intOf] <;> omega
              · have jl : ¬ (j : Int) < gx.trees.length := by have := HN.out; omega
                go_wp2
                go_roundw
                case rel => exact ⟨m + 1, by omega, by go_num, trivial⟩
                case measure => simp [intOf] <;> omega
          · have ml : ¬ (m : Int) < fs.length := by omega
            have hb13 := below_on HB.out hb3
            go_wp2_with (first
              | (go_at_call 22; (with_reducible refine (HR1.out _ hb13).mono ?_); rintro x w4 ⟨rfl, hb4⟩; have hBW := HB1.out.trans ((below_on hb13 hb4).mono HB1.out.size))
              | (go_at_call 18; (with_reducible refine (AW.out _ hBW).mono ?_); rintro x w9 ⟨rfl, hb9⟩; have hB9 := below_on hBW hb9)
              | (fail))
            go_ret
            exact ⟨rfl, hB9⟩
end Go.Proofs.YtakdngcgjahafaaDoor
