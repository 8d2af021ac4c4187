/- Chapter 10: the walks through image.Of and image.Size. -/
import Derived.Test.YtlfennooocmclaaDoorIm1
namespace Go.Proofs.YtlfennooocmclaaDoor
open Go.RowKit
set_option linter.unusedVariables false

theorem fbox_cells {W : World} {g : Nat} {t : TypeId} {p d : ByteArray} {m : Int} (h : Blk W g t #[.string p, .int .i64 m, .string d]) :
    W.cell? ⟨g, 0, none⟩ = some (.string p) ∧ W.cell? ⟨g, 1, none⟩ = some (.int .i64 m) ∧ W.cell? ⟨g, 2, none⟩ = some (.string d) := ⟨h.cell 0, h.cell 1, h.cell 2⟩
theorem fnat_of {x : Int} (h : 0 ≤ x ∧ x ≤ 511) : ∃ n : Nat, x = (n : Int) ∧ n ≤ 511 := ⟨x.toNat, by omega, by omega⟩
def OfOut (w : World) (S : List UInt8) (e : Ending) (w' : World) : Prop := e = .returned (.tuple #[.string (if 524288 < S.length then ⟨#[]⟩ else ⟨S.toArray⟩), .int .i64 (if 524288 < S.length then 4 else 0)]) ∧ Below w.heap.size w w'
def OfRel (w1 : World) (l : List FileD) (S : List UInt8) (v : Value) (wr : World) : Prop := ∃ (k : Nat) (V : Value) (cur : List UInt8), k ≤ l.length ∧ v = .int .i64 k ∧ Hid (Bld 54 5 wr w1.heap.size V cur) ∧ cur.length ≤ 524288 ∧ Hid (S = cur ++ datGo (l.drop k)) ∧ Hid (cur ≠ []) ∧ Below w1.heap.size w1 wr
set_option maxHeartbeats 4000000 in
set_option maxRecDepth 100000 in
theorem of_ok (A : Option Addr) (c : Nat) (l : List FileD) (w : World) (hz : l.length ≤ 8796093022208) (hx : ∀ f ∈ l, FOk f)
    (hc : Arr w w.heap.size 3 A l.length (fcells l)) (hm : Ml w) (h0 : checkE l = 0) :
    Calls Tryd.prog 12 #[.slice A l.length c] w (OfOut w (imgL l)) := by
  obtain ⟨h256, hall⟩ := check_good h0
  have hr := check_any A c l w hz hx hc hm
  rw [h0] at hr
  have HR := Lib.hid hr
  have HALL := Lib.hid hall
  have HC := Lib.hid hc
  obtain ⟨H, hH⟩ : ∃ H, H = imgH l := ⟨_, rfl⟩
  obtain ⟨S, hS⟩ : ∃ S, S = imgL l := ⟨_, rfl⟩
  have HS : Hid (S = H ++ datGo (l.drop 0)) := Lib.hid (by rw [hS, hH]; rfl)
  have HH : Hid (H = ([] ++ numL (l.length : Int).toNat) ++ hdGo (l.drop 0)) := Lib.hid (by rw [hH]; rfl)
  rw [← hS]
  clear hr hall hx hc hS hH h0
  go_enter Tryd.func12, Tryd.ntmps12
  go_wp2_with (first
    | (go_at_call 27; (with_reducible refine HR.out.mono ?_); rintro e w1 ⟨rfl, hb1⟩; have hbld := Bld.new w1 54 5; have hcl : ([] : List UInt8).length ≤ 0 := Nat.le_refl _)
    | (go_at_call 28; (refine (inum_at _ _ _ _ _ hbld (by omega) (by omega) (by omega)).mono ?_); rintro e w2 ⟨v2, rfl, hbld, hf2, h9⟩; have hcl := iapp_le hcl h9))
  have hs1 : w1.heap.size ≤ (w1.alloc (.cells #[.pointer none, .slice none 0 0] 54)).heap.size := by simp
  have hB2 : Below w1.heap.size w1 w2 := ((Below.refl _ w1).alloc (Nat.le_refl _) _).trans (hf2.below hs1)
  have hbx0 := hbld.lt
  go_loopw [23] (fun v wr => ∃ (k : Nat) (V : Value) (cur : List UInt8), k ≤ l.length ∧ v = .int .i64 k ∧ Hid (Bld 54 5 wr w1.heap.size V cur) ∧ cur.length ≤ 9 + k * 227 ∧ Hid (H = cur ++ hdGo (l.drop k)) ∧ Hid (cur ≠ []) ∧ Below w1.heap.size w1 wr) (fun v _ => l.length - (intOf v).toNat)
  case atStart => exact ⟨0, v2, _, Nat.zero_le _, rfl, Lib.hid hbld, by omega, HH, Lib.hid (by simp [numL_ne]), hB2⟩
  case round =>
    obtain ⟨k, V, cur, hk, rfl, HBL, hcl, HK, HNE, hBB⟩ := hrel
    have hbld := HBL.out
    have hBs := hBB.size
    have hlt1 := hbld.lt
    by_cases hlt : k < l.length
    · obtain ⟨f, hf⟩ : ∃ f, l[k]? = some f := ⟨_, List.getElem?_eq_getElem hlt⟩
      obtain ⟨b, o, rfl, hb, hcell⟩ := HC.out.2 (by omega)
      have hb1s := hb1.size
      obtain ⟨c0, c1, c2⟩ := file_cells (fun i u h => (hBB.cell (p := ⟨b, o + i, none⟩) (by show b < _; omega)).trans ((hb1.cell (p := ⟨b, o + i, none⟩) hb).trans (hcell i u h))) hf
      obtain ⟨hpe, hp2, hmo, hda⟩ := HALL.out f (List.mem_of_getElem? hf)
      obtain ⟨m, hmm, hm5⟩ := fnat_of hmo
      have HK2 := Lib.hid (hd_cat hmm hf HK.out)
      have HNE2 := Lib.hid (ne_app4 HNE.out (numL (f.path.size : Int).toNat) f.path.data.toList (numL (m : Int).toNat) (numL (f.data.size : Int).toNat))
      rw [hmm] at c1
      clear hcell hf hmm hmo hpe HBL HK HNE
      have hbox := Blk.new wr 33 #[.string f.path, .int .i64 (m : Int), .string f.data]
      have hbld := hbld.fr ((Fr.refl (fun _ => False) wr).alloc (.cells #[.string f.path, .int .i64 (m : Int), .string f.data] 33)) (by simp) (by simp)
      have hBB := hBB.alloc hBs (.cells #[.string f.path, .int .i64 (m : Int), .string f.data] 33)
      have hgB : wr.heap.size ≠ w1.heap.size := by omega
      go_wp2_with (first
        | (go_at_call 28; (refine (inum_at _ _ _ _ _ hbld (by omega) (by omega) (by omega)).mono ?_); rintro e w4 ⟨v4, rfl, hbld, hf4, h9⟩; have hcl := iapp_le hcl h9; have hbox := hf4.blk hbox hgB (by decide); have hBB := hBB.trans (hf4.below hBB.size); obtain ⟨k0, k1, k2⟩ := fbox_cells hbox)
        | (go_at_call 30; (refine (iws_at _ _ _ _ _ hbld (by omega) (by omega)).mono ?_); rintro e w5 ⟨v5, rfl, hbld, hf5, h9⟩; have hcl := iapp_le hcl (Nat.le_of_eq h9); have hbox := hf5.blk hbox hgB (by decide); have hBB := hBB.trans (hf5.below hBB.size); obtain ⟨k0, k1, k2⟩ := fbox_cells hbox))
      have HBL2 := Lib.hid hbld
      clear hbld
      go_roundw
      case rel => exact ⟨k + 1, _, _, by omega, by go_num, HBL2, by omega, HK2, HNE2, hBB⟩
      case measure => simp [intOf] <;> omega
    · have hh := HK.out
      rw [hd_end (by omega), List.append_nil] at hh
      subst hh
      have hkl : k ≤ 256 := by omega
      clear HK HBL
      go_wp2
      obtain ⟨w3, rfl⟩ : ∃ w3, w3 = wr := ⟨_, rfl⟩
      go_loopw [47] (fun v wr => OfRel w1 l S v wr) (fun v _ => l.length - (intOf v).toNat)
      case atStart => unfold OfRel; exact ⟨0, V, _, Nat.zero_le _, rfl, Lib.hid hbld, by omega, HS, HNE, hBB⟩
      case round =>
        clear hbld HS HNE hBB hBs hlt1 hcl
        unfold OfRel at hrel
        obtain ⟨k, V, cur, hk, rfl, HBL, hcl, HK, HNE, hBB⟩ := hrel
        have hbld := HBL.out
        have hBs := hBB.size
        have hlt1 := hbld.lt
        by_cases hlt : k < l.length
        · obtain ⟨f, hf⟩ : ∃ f, l[k]? = some f := ⟨_, List.getElem?_eq_getElem hlt⟩
          obtain ⟨b, o, rfl, hb, hcell⟩ := HC.out.2 (by omega)
          have hb1s := hb1.size
          obtain ⟨c0, c1, c2⟩ := file_cells (fun i u h => (hBB.cell (p := ⟨b, o + i, none⟩) (by show b < _; omega)).trans ((hb1.cell (p := ⟨b, o + i, none⟩) hb).trans (hcell i u h))) hf
          obtain ⟨hpe, hp2, hmo, hda⟩ := HALL.out f (List.mem_of_getElem? hf)
          obtain ⟨m, hmm, hm5⟩ := fnat_of hmo
          have HK2 := Lib.hid (dat_cat hf HK.out)
          have HNE2 := Lib.hid (ne_app1 HNE.out f.data.data.toList)
          rw [hmm] at c1
          have hlen : cur.length + f.data.size ≤ S.length := by
            have e := congrArg List.length HK2.out
            simp only [List.length_append] at e
            rw [bt_size]
            omega
          clear hcell hf hmm hmo hpe HBL HK HNE
          have hbox := Blk.new wr 33 #[.string f.path, .int .i64 (m : Int), .string f.data]
          have hbld := hbld.fr ((Fr.refl (fun _ => False) wr).alloc (.cells #[.string f.path, .int .i64 (m : Int), .string f.data] 33)) (by simp) (by simp)
          have hBB := hBB.alloc hBs (.cells #[.string f.path, .int .i64 (m : Int), .string f.data] 33)
          have hgB : wr.heap.size ≠ w1.heap.size := by omega
          have HL := Lib.hid (fun n => blen_any _ _ _ _ (hbld.drewN n))
          have hbxQ := fun n => Blk.drewN hbox n
          have hblQ := fun n => hbld.drewN n
          have hBQ := fun n => below_drewB hBB n
          have hws : IntKind.i64.wrap (524288 - (cur.length : Int)) = 524288 - cur.length := IntWalk.i64_in _ (by omega)
          by_cases hbig : 524288 < cur.length + f.data.size
          · have hd : decide (524288 - (cur.length : Int) < (f.data.size : Int)) = true := decide_eq_true (by omega)
            have hbS : 524288 < S.length := by omega
            have HbS := Lib.hid hbS
            clear hbS
            go_wp2
            go_quiet ((go_at_call 31; exact quiet_left (HL.out _)))
            go_wp2
            go_ret2
            unfold OfOut
            rw [if_pos HbS.out, if_pos HbS.out]
            exact ⟨rfl, below_on hb1 (hBQ _)⟩
          · have hd : decide (524288 - (cur.length : Int) < (f.data.size : Int)) = false := decide_eq_false (by omega)
            go_wp2
            go_quiet ((go_at_call 31; exact quiet_left (HL.out _)))
            clear hd hws
            go_wp2_with (go_at_call 30; (refine (iws_at _ _ _ _ _ (hblQ _) (by omega) (by omega)).mono ?_); rintro e w5 ⟨v5, rfl, hbld, hf5, h9⟩; have hcl2 := iapp_le (Nat.le_refl cur.length) (Nat.le_of_eq h9); have hBB := (hBQ _).trans (hf5.below (hBQ 0).size))
            have HBL2 := Lib.hid hbld
            clear hbld hbxQ hblQ hBQ
            go_roundw
            case rel => unfold OfRel; exact ⟨k + 1, _, _, by omega, by go_num, HBL2, by omega, HK2, HNE2, hBB⟩
            case measure => simp [intOf] <;> omega
        · have hS := HK.out
          rw [dat_end (by omega), List.append_nil] at hS
          subst hS
          have HB := Lib.hid hbld
          clear HK HBL hbld
          go_wp2_with (go_at_call 32; (with_reducible refine (string_any _ _ _ _ HB.out HNE.out).mono ?_); rintro e w3 ⟨rfl, hf3⟩)
          go_ret2
          unfold OfOut
          rw [if_neg (by omega), if_neg (by omega)]
          exact ⟨rfl, below_on hb1 (hBB.trans (hf3.below hBB.size))⟩
def OfIs (w : World) (l : List FileD) (e : Ending) (w' : World) : Prop := e = .returned (.tuple #[.string (ofS l), .int .i64 (ofE l)]) ∧ Below w.heap.size w w'
theorem of_is {w : World} {l : List FileD} (h : checkE l = 0) {e : Ending} {w' : World} (ho : OfOut w (imgL l) e w') : OfIs w l e w' := by
  unfold OfOut at ho
  unfold OfIs ofS ofE
  rw [if_pos h]
  by_cases hb : 524288 < (imgL l).length
  · rw [if_pos hb, if_pos hb] at ho
    rw [if_pos hb, if_neg (by decide)]
    exact ho
  · rw [if_neg hb, if_neg hb] at ho
    rw [if_neg hb, if_pos rfl]
    exact ho
theorem of_any (A : Option Addr) (c : Nat) (l : List FileD) (w : World) (hz : l.length ≤ 8796093022208) (hx : ∀ f ∈ l, FOk f)
    (hc : Arr w w.heap.size 3 A l.length (fcells l)) (hm : Ml w) :
    Calls Tryd.prog 12 #[.slice A l.length c] w (OfIs w l) := by
  by_cases h0 : checkE l = 0
  · exact (of_ok A c l w hz hx hc hm h0).mono fun e w' h => of_is h0 h
  · have e1 : ofE l = checkE l := by unfold ofE; rw [if_neg h0]
    have e2 : ofS l = ⟨#[]⟩ := by unfold ofS; rw [if_neg (by rw [e1]; exact h0)]
    unfold OfIs
    rw [e1, e2]
    have HR := Lib.hid (check_any A c l w hz hx hc hm)
    have e0 : (checkE l == 0) = false := by rw [beq_eq_false_iff_ne]; exact h0
    clear e1 e2
    generalize checkE l = E at *
    go_enter Tryd.func12, Tryd.ntmps12
    go_wp2_with (go_at_call 27; (with_reducible refine HR.out.mono ?_); rintro e w1 ⟨rfl, hb1⟩)
    go_ret2
    exact ⟨rfl, hb1⟩
end Go.Proofs.YtlfennooocmclaaDoor
