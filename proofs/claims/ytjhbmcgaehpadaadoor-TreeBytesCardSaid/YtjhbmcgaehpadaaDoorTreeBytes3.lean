/- The walk through the reference's Bytes; the law TreeBytes. -/
import Derived.Test.YtjhbmcgaehpadaaDoorTreeBytes2
import Derived.Test.YtjhbmcgaehpadaaDoorCls
namespace Go.Proofs.YtjhbmcgaehpadaaDoor
open Go.RowKit
set_option linter.unusedVariables false

theorem numS_facts (n : Int) (h0 : 0 ≤ n) (h1 : n ≤ 4194304) : ∃ B : ByteArray, (∀ w, Calls Tryd.prog 62 #[.int .i64 n] w fun e w' => e = .returned (.string B) ∧ Below w.heap.size w w') ∧ B.data.toList = numL n.toNat ∧ B.size ≤ 9 := by
  refine ⟨numS n, fun w => ref_bytes n w (by omega) (by omega), by rw [numS_ok h0 (by omega)], ?_⟩
  rw [numS_ok h0 (by omega), ba_size]
  exact numL_len _ (by omega)
theorem txtS_facts (s : ByteArray) (h : s.size ≤ 200) : ∃ T : ByteArray, ∃ E : Int, (∀ w, Calls Tryd.prog 64 #[.string s] w fun e w' => e = .returned (.tuple #[.string T, .int .i64 E]) ∧ Below w.heap.size w w') ∧ T.data.toList = numL s.size ++ s.data.toList ∧ T.size ≤ 209 := by
  refine ⟨txtS s, txtE s, fun w => ref_text s w (by omega), txtS_list (by omega), ?_⟩
  rw [ba_size, txtS_list (by omega), List.length_append, ← ba_size]
  have := numL_len s.size (by omega)
  omega
theorem cat_list (a b : ByteArray) : (a ++ b).data.toList = a.data.toList ++ b.data.toList := by rw [ByteArray.data_append, Array.toList_append]

set_option maxHeartbeats 2000000 in
set_option maxRecDepth 100000 in
theorem bytes_ref_ok (A : Option Addr) (c : Nat) (l : List ItemD) (w : World) (hz : l.length ≤ 8796093022208) (hx : ∀ f ∈ l, IOk f)
    (hc : Arr w w.heap.size 4 A l.length (icells l)) (h0 : rightE l = 0) :
    Calls Tryd.prog 33 #[.slice A l.length c] w fun e w' => e = .returned (.tuple #[.string ⟨(bytesL l).toArray⟩, .int .i64 0]) ∧ Below w.heap.size w w' := by
  obtain ⟨h256, hall⟩ := rightE_zero h0
  have hr := right_ref A c l w hz hx hc
  rw [h0] at hr
  have HR := Lib.hid hr
  have HALL := Lib.hid hall
  have HX := Lib.hid hx
  have HC := Lib.hid hc
  obtain ⟨B0, hB0, hB0l, hB0s⟩ := numS_facts (l.length : Int) (by omega) (by omega)
  have HB0 := Lib.hid hB0
  obtain ⟨S, hS⟩ : ∃ S : ByteArray, S = ⟨(bytesL l).toArray⟩ := ⟨_, rfl⟩
  have HS : Hid (S.data.toList = B0.data.toList ++ bytesGo (lastAt l 0) (l.drop 0)) := Lib.hid (by rw [hS, hB0l]; rfl)
  rw [← hS]
  clear hr hall hx hc hS hB0 hB0l
  go_enter Tryd.func33, Tryd.ntmps33
  go_wp2_with (first
    | (go_at_call 35; (with_reducible refine HR.out.mono ?_); rintro e w1 ⟨rfl, hb1⟩)
    | (go_at_call 62; (with_reducible refine (HB0.out _).mono ?_); rintro e w2 ⟨rfl, hb2⟩; have hB2 := below_on hb1 hb2))
  go_loopw [5, 6, 7] (fun vo vl v wr => ∃ (k : Nat) (x O : ByteArray), k ≤ l.length ∧ v = .int .i64 k ∧ vl = .string x ∧ vo = .string O ∧ Hid (x.data.toList = lastAt l k) ∧ x.size ≤ 200 ∧ O.size ≤ 9 + k * 500 ∧ Hid (S.data.toList = O.data.toList ++ bytesGo (lastAt l k) (l.drop k)) ∧ Below w.heap.size w wr) (fun _ _ v _ => l.length - (intOf v).toNat)
  case atStart => exact ⟨0, ⟨#[]⟩, B0, Nat.zero_le _, rfl, rfl, rfl, by simp [Hid, lastAt], by decide, by omega, HS, hB2⟩
  case round =>
    obtain ⟨k, x, O, hk, rfl, rfl, rfl, hxl, hx2, hO, H, hB⟩ := hrel
    by_cases hlt : k < l.length
    · obtain ⟨f, hf⟩ : ∃ f, l[k]? = some f := ⟨_, List.getElem?_eq_getElem hlt⟩
      obtain ⟨b, o, rfl, hb, hcell⟩ := HC.out.2 (by omega)
      have HCC := Lib.hid (fun (W : World) (hW : Below w.heap.size w W) => item_cells (fun i u h => (hW.cell (p := ⟨b, o + i, none⟩) hb).trans (hcell i u h)) hf)
      obtain ⟨hpe, hie⟩ := HALL.out f (List.mem_of_getElem? hf)
      obtain ⟨hmo, hsi, hma⟩ := itemE_zero hie
      have hp2 := pathE_long hpe
      have hst := (bytesGo_step hf)
      have hla := lastAt_succ hf
      have hsl := sharedL_le (lastAt l k) f.path.data.toList
      have hps := bt_size f.path
      have hsh := fun W => shared_ref x f.path W (by omega) (by omega)
      rw [hxl.out] at hsh
      have HST : Hid (S.data.toList = O.data.toList ++ (itemBy (lastAt l k) f ++ bytesGo (lastAt l (k + 1)) (l.drop (k + 1)))) := Lib.hid (by rw [← hst]; exact H.out)
      have HLA : Hid (f.path.data.toList = lastAt l (k + 1)) := Lib.hid hla.symm
      unfold itemBy at HST
      generalize sharedL (lastAt l k) f.path.data.toList = n at *
      have hn : n ≤ f.path.size := by omega
      have hrs : (f.path.extract n f.path.size).size ≤ 200 := by simp; omega
      obtain ⟨T, ET, hT, hTl, hTs⟩ := txtS_facts (f.path.extract n f.path.size) hrs
      obtain ⟨Bn, hBn, hBnl, hBns⟩ := numS_facts (n : Int) (by omega) (by omega)
      obtain ⟨Bm, hBm, hBml, hBms⟩ := numS_facts f.mode hmo.1 (by omega)
      obtain ⟨Bz, hBz, hBzl, hBzs⟩ := numS_facts f.size hsi.1 (by omega)
      have HT := Lib.hid hT
      have HBn := Lib.hid hBn
      have HBm := Lib.hid hBm
      have HBz := Lib.hid hBz
      have hma1 : f.mark.size ≤ 32 := by omega
      have HFIN : Hid (S.data.toList = (((((O ++ Bn) ++ T) ++ Bm) ++ Bz) ++ f.mark).data.toList ++ bytesGo (lastAt l (k + 1)) (l.drop (k + 1))) := Lib.hid (by
        rw [HST.out, cat_list, cat_list, cat_list, cat_list, cat_list, hBnl, hTl, hBml, hBzl, extract_list _ _ _ (Nat.le_refl _), hps, List.take_of_length_le (Nat.le_refl _), ← hps]
        have e1 : (n : Int).toNat = n := by omega
        have e2 : (f.path.extract n f.path.size).size = f.path.size - n := by simp
        rw [e1, e2]
        simp only [List.append_assoc])
      have HSH := Lib.hid hsh
      have n1 : (n : Int) ≤ f.path.size := by omega
      have i1 : (k : Int) < l.length := by omega
      have i0 : 0 ≤ (k : Int) := by omega
      have s1 : ¬ 9223372036854775807 < O.size + Bn.size := by omega
      have s2 : ¬ 9223372036854775807 < O.size + Bn.size + T.size := by omega
      have s3 : ¬ 9223372036854775807 < O.size + Bn.size + T.size + Bm.size := by omega
      have s4 : ¬ 9223372036854775807 < O.size + Bn.size + T.size + Bm.size + Bz.size := by omega
      have s5 : ¬ 9223372036854775807 < O.size + Bn.size + T.size + Bm.size + Bz.size + f.mark.size := by omega
      clear hst hla hsl hps hcell hpe hie hmo hsi hf hxl H hma hsh hT hTl hBn hBnl hBm hBml hBz hBzl HST
      obtain ⟨c0, c1, c2, c3⟩ := HCC.out _ hB
      go_wp2_with (first
        | (go_at_call 63; (with_reducible refine (HSH.out _).mono ?_); rintro e w3 ⟨rfl, hb3⟩; have hB := below_on hB hb3; obtain ⟨c0, c1, c2, c3⟩ := HCC.out _ hB)
        | (go_at_call 64; (with_reducible refine (HT.out _).mono ?_); rintro e w4 ⟨rfl, hb4⟩; have hB := below_on hB hb4; obtain ⟨c0, c1, c2, c3⟩ := HCC.out _ hB))
      have c0' := cell_cls c0
      have c1' := cell_cls c1
      have c2' := cell_cls c2
      have c3' := cell_cls c3
      refine wp_region_cls (by kernel_rfl) (by kernel_rfl) ?_
      repeat (go_big_quiet_step ((go_at_call 62; first | with_reducible exact cls_call (HBn.out _) | with_reducible exact cls_call (HBm.out _) | with_reducible exact cls_call (HBz.out _))))
      refine wpQuiet_nil ?_
      intro _ hw'
      obtain ⟨⟨w9, hb9⟩, hw''⟩ := hw'
      subst hw''
      have hB := below_on hB hb9
      obtain ⟨d0, d1, d2, d3⟩ := HCC.out _ hB
      clear c0' c1' c2' c3'
      go_wp2
      go_roundw
      case rel => exact ⟨k + 1, f.path, _, by omega, by go_num, rfl, rfl, HLA, hp2, by simp; omega, HFIN, hB⟩
      case measure => simp [intOf] <;> omega
    · have hS := H.out
      rw [bytesGo_end _ (by omega), List.append_nil] at hS
      have hSO := ba_ext hS
      subst hSO
      clear H hS
      go_wp2
      go_ret2
      exact ⟨rfl, hB⟩
theorem bytes_ref (A : Option Addr) (c : Nat) (l : List ItemD) (w : World) (hz : l.length ≤ 8796093022208) (hx : ∀ f ∈ l, IOk f)
    (hc : Arr w w.heap.size 4 A l.length (icells l)) :
    Calls Tryd.prog 33 #[.slice A l.length c] w fun e w' => e = .returned (.tuple #[.string (bytesS l), .int .i64 (rightE l)]) ∧ Below w.heap.size w w' := by
  by_cases h0 : rightE l = 0
  · unfold bytesS
    rw [if_pos h0, h0]
    exact bytes_ref_ok A c l w hz hx hc h0
  · unfold bytesS
    rw [if_neg h0]
    have HR := Lib.hid (right_ref A c l w hz hx hc)
    have e0 : (rightE l == 0) = false := by rw [beq_eq_false_iff_ne]; exact h0
    generalize rightE l = E at *
    go_enter Tryd.func33, Tryd.ntmps33
    go_wp2_with (go_at_call 35; (with_reducible refine HR.out.mono ?_); rintro e w1 ⟨rfl, hb1⟩)
    go_ret2
    exact ⟨rfl, hb1⟩
end Go.Proofs.YtjhbmcgaehpadaaDoor
