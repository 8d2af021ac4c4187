/- Chapter 10: a tree's image, plain; the walks through what makes it: a builder's length, the closures, few.; Chapter 10: the walks through image.Of and image.Size.; Chapter 10: the walks through image.Size, the reference's Of, few, awake.; Chapter 10: the walks through the reference's Of, few, awake. -/
import Derived.Test.YtakdngcgjahafaaDoorTreeRef3
import Derived.Test.YtakdngcgjahafaaDoorTreeMix
import Derived.Test.YtakdngcgjahafaaDoorCls
import Derived.Test.YtakdngcgjahafaaDoorRefRdA
/- Chapter 10: a tree's image, plain; the walks through what makes it: a builder's length, the closures, few. -/
namespace Go.Proofs.YtakdngcgjahafaaDoor
open Go.RowKit
set_option linter.unusedVariables false

/-! ### plain -/
def fileHd (f : FileD) : List UInt8 := numL f.path.size ++ (f.path.data.toList ++ (numL f.mode.toNat ++ numL f.data.size))
def hdGo : List FileD → List UInt8
  | [] => []
  | f :: r => fileHd f ++ hdGo r
def datGo : List FileD → List UInt8
  | [] => []
  | f :: r => f.data.data.toList ++ datGo r
def imgH (l : List FileD) : List UInt8 := numL l.length ++ hdGo l
def imgL (l : List FileD) : List UInt8 := imgH l ++ datGo l
def ofE (l : List FileD) : Int := if checkE l = 0 then if 524288 < (imgL l).length then 4 else 0 else checkE l
def ofS (l : List FileD) : ByteArray := if ofE l = 0 then ⟨(imgL l).toArray⟩ else ⟨#[]⟩
def ofN (l : List FileD) : Int := if ofE l = 0 then (imgL l).length else 0
structure FGood (f : FileD) : Prop where
  path : pathE f.path.data.toList = 0
  long : f.path.size ≤ 200
  mode : 0 ≤ f.mode ∧ f.mode ≤ 511
  data : f.data.size ≤ 65536
theorem imfiles_all : ∀ (l : List FileD), filesE l = 0 → ∀ x ∈ l, fileE x = 0
  | [], _, x, hx => by cases hx
  | f :: r, h, x, hx => by
    rw [filesE] at h
    by_cases h0 : fileE f = 0
    · rw [if_pos h0] at h
      rcases List.mem_cons.1 hx with rfl | hx
      · exact h0
      · exact imfiles_all r h x hx
    · rw [if_neg h0] at h; exact absurd h h0
theorem file_good {f : FileD} (h : fileE f = 0) : (0 ≤ f.mode ∧ f.mode ≤ 511) ∧ f.data.size ≤ 65536 := by
  unfold fileE at h
  by_cases h1 : 0 ≤ f.mode ∧ f.mode ≤ 511
  · rw [if_pos h1] at h
    by_cases h2 : 65536 < f.data.size
    · rw [if_pos h2] at h; cases h
    · exact ⟨h1, by omega⟩
  · rw [if_neg h1] at h; cases h
theorem path_long {t : List UInt8} (h : pathE t = 0) : t.length ≤ 200 := by
  unfold pathE at h
  split at h
  · cases h
  · omega
theorem check_good {l : List FileD} (h : checkE l = 0) : l.length ≤ 256 ∧ ∀ f ∈ l, FGood f := by
  unfold checkE at h
  by_cases h0 : pathsE (l.map (·.path.data.toList)) = 0
  · rw [if_pos h0] at h
    unfold pathsE at h0
    by_cases h1 : 256 < (l.map (·.path.data.toList)).length
    · rw [if_pos h1] at h0; cases h0
    · rw [if_neg h1] at h0
      rw [List.length_map] at h1
      refine ⟨by omega, fun f hf => ?_⟩
      have hp := pathsGo_all _ _ h0 f.path.data.toList (List.mem_map_of_mem hf)
      obtain ⟨h2, h3⟩ := file_good (imfiles_all _ h f hf)
      exact ⟨hp, by rw [bt_size]; exact path_long hp, h2, h3⟩
  · rw [if_neg h0] at h; exact absurd h h0
section
variable {l : List FileD} {k : Nat} {f : FileD}
theorem hd_step (h : l[k]? = some f) : hdGo (l.drop k) = fileHd f ++ hdGo (l.drop (k + 1)) := by rw [drop_head h, hdGo]
theorem hd_end (h : l.length ≤ k) : hdGo (l.drop k) = [] := by rw [List.drop_eq_nil_of_le h, hdGo]
theorem dat_step (h : l[k]? = some f) : datGo (l.drop k) = f.data.data.toList ++ datGo (l.drop (k + 1)) := by rw [drop_head h, datGo]
theorem dat_end (h : l.length ≤ k) : datGo (l.drop k) = [] := by rw [List.drop_eq_nil_of_le h, datGo]
theorem hd_cat {S cur : List UInt8} {m : Nat} (hm : f.mode = (m : Int)) (h : l[k]? = some f) (H : S = cur ++ hdGo (l.drop k)) :
    S = (cur ++ numL (f.path.size : Int).toNat ++ f.path.data.toList ++ numL (m : Int).toNat ++ numL (f.data.size : Int).toNat) ++ hdGo (l.drop (k + 1)) := by
  rw [H, hd_step h, fileHd, hm]
  simp only [List.append_assoc, Int.toNat_natCast]
theorem dat_cat {S cur : List UInt8} (h : l[k]? = some f) (H : S = cur ++ datGo (l.drop k)) : S = (cur ++ f.data.data.toList) ++ datGo (l.drop (k + 1)) := by
  rw [H, dat_step h, List.append_assoc]
end
theorem hdGo_len : ∀ l : List FileD, (∀ f ∈ l, FGood f) → (hdGo l).length ≤ l.length * 227
  | [], _ => by simp [hdGo]
  | f :: r, h => by
    have h1 := h f (by simp)
    have ih := hdGo_len r fun x hx => h x (by simp [hx])
    have a := numL_len f.path.size (by have := h1.long; omega)
    have b := numL_len f.mode.toNat (by have := h1.mode; omega)
    have c := numL_len f.data.size (by have := h1.data; omega)
    have d := h1.long
    rw [bt_size] at d
    rw [hdGo, fileHd]
    simp only [List.length_append, List.length_cons]
    omega
theorem ne_app4 {cur : List UInt8} (h : cur ≠ []) (a b c d : List UInt8) : cur ++ a ++ b ++ c ++ d ≠ [] := by
  cases cur with
  | nil => exact absurd rfl h
  | cons x l => simp
theorem ne_app1 {cur : List UInt8} (h : cur ≠ []) (a : List UInt8) : cur ++ a ≠ [] := by
  cases cur with
  | nil => exact absurd rfl h
  | cons x l => simp

/-! ### the builder's length; the closures -/
theorem iapp_le {l m : List UInt8} {a b : Nat} (h : l.length ≤ a) (k : m.length ≤ b) : (l ++ m).length ≤ a + b := by rw [List.length_append]; omega
theorem below_drewB {B : Nat} {a w : World} (h : Below B a w) (n : Nat) : Below B a (w.drewN n) := ⟨h.os, h.tape, h.output, h.size, h.block⟩
theorem Bld.drewN {T e : TypeId} {w : World} {b : Nat} {v : Value} {l : List UInt8} (h : Bld T e w b v l) (n : Nat) : Bld T e (w.drewN n) b v l := ⟨h.blk, h.own⟩
theorem blen_any (b : Nat) (v : Value) (l : List UInt8) (w : World) (h : Bld 90 5 w b v l) :
    Calls Tryd.prog 56 #[.pointer (some ⟨b, 0, none⟩)] w fun e w' => e = .returned (.int .i64 l.length) ∧ w = w' := by
  have c1 := h.c1
  obtain ⟨A, c, rfl, _, _, _⟩ := own_arr h.own
  go_enter Tryd.func56, Tryd.ntmps56
  go_wp2
  go_ret
  exact ⟨rfl, rfl⟩
set_option maxHeartbeats 1000000 in
set_option maxRecDepth 100000 in
theorem inum_any (b n : Nat) (v : Value) (l : List UInt8) (w : World) (h : Bld 90 5 w b v l) (hn : n ≤ 4194304) (hl : l.length ≤ 16777216) :
    Calls Tryd.prog 53 #[.int .i64 n, .pointer (some ⟨b, 0, none⟩)] w fun e w' => ∃ v', e = .returned (.tuple #[]) ∧ Bld 90 5 w' b v' (l ++ numL n) ∧ FrB 5 b w w' := by
  have hn1 := fun w => code_num (n : Int) w (by omega) (by omega)
  rw [numS_ok (by omega) (by omega), numE_ok (by omega) (by omega), Int.toNat_natCast] at hn1
  have HN := Lib.hid hn1
  have h9 := numL_len n (by omega)
  have hsz : (⟨(numL n).toArray⟩ : ByteArray).size = (numL n).length := by rw [ba_size]
  clear hn1
  go_enter Tryd.func53, Tryd.ntmps53
  go_wp2_with (go_at_call 54; refine (HN.out _).mono ?_; rintro e w1 ⟨rfl, hb1⟩)
  have hB1 := h.fr (Fr.of_below hb1 (fun _ => False)) (by simp) (by simp)
  refine (writeString_any _ _ _ _ _ hB1 (by rw [hsz]; omega)).mono ?_
  rintro e w2 ⟨v2, rfl, hB2, hf2⟩
  go_wp2
  go_returns
  exact ⟨v2, rfl, by simpa using hB2, (FrB.of_below hb1).trans hf2⟩
theorem inum_at (b : Nat) (x : Int) (v : Value) (l : List UInt8) (w : World) (h : Bld 90 5 w b v l) (h0 : 0 ≤ x) (h1 : x ≤ 4194304) (hl : l.length ≤ 16777216) :
    Calls Tryd.prog 53 #[.int .i64 x, .pointer (some ⟨b, 0, none⟩)] w fun e w' => ∃ v', e = .returned (.tuple #[]) ∧ Bld 90 5 w' b v' (l ++ numL x.toNat) ∧ FrB 5 b w w' ∧ (numL x.toNat).length ≤ 9 := by
  obtain ⟨n, rfl⟩ := Int.eq_ofNat_of_zero_le h0
  exact (inum_any b n v l w h (by omega) hl).mono fun e w' ⟨v', h1, h2, h3⟩ => ⟨v', h1, h2, h3, numL_len _ (by omega)⟩
theorem iws_at (b : Nat) (v : Value) (l : List UInt8) (s : ByteArray) (w : World) (h : Bld 90 5 w b v l) (hs : s.size ≤ 65536) (hlen : l.length ≤ 16777216) :
    Calls Tryd.prog 55 #[.pointer (some ⟨b, 0, none⟩), .string s] w fun e w' => ∃ v', e = .returned (.tuple #[.int .i64 s.size, .nilIface]) ∧ Bld 90 5 w' b v' (l ++ s.data.toList) ∧ FrB 5 b w w' ∧ s.data.toList.length = s.size :=
  (writeString_any b v l s w h (by omega)).mono fun e w' ⟨v', h1, h2, h3⟩ => ⟨v', h1, h2, h3, by rw [← bt_size]⟩
end Go.Proofs.YtakdngcgjahafaaDoor
/- Chapter 10: the walks through image.Of and image.Size. -/
namespace Go.Proofs.YtakdngcgjahafaaDoor
open Go.RowKit
set_option linter.unusedVariables false

theorem fbox_cells {W : World} {g : Nat} {t : TypeId} {p d : ByteArray} {m : Int} (h : Blk W g t #[.string p, .int .i64 m, .string d]) :
    W.cell? ⟨g, 0, none⟩ = some (.string p) ∧ W.cell? ⟨g, 1, none⟩ = some (.int .i64 m) ∧ W.cell? ⟨g, 2, none⟩ = some (.string d) := ⟨h.cell 0, h.cell 1, h.cell 2⟩
theorem fnat_of {x : Int} (h : 0 ≤ x ∧ x ≤ 511) : ∃ n : Nat, x = (n : Int) ∧ n ≤ 511 := ⟨x.toNat, by omega, by omega⟩
def OfOut (w : World) (S : List UInt8) (e : Ending) (w' : World) : Prop := e = .returned (.tuple #[.string (if 524288 < S.length then ⟨#[]⟩ else ⟨S.toArray⟩), .int .i64 (if 524288 < S.length then 4 else 0)]) ∧ Below w.heap.size w w'
def OfRel (w1 : World) (l : List FileD) (S : List UInt8) (v : Value) (wr : World) : Prop := ∃ (k : Nat) (V : Value) (cur : List UInt8), k ≤ l.length ∧ v = .int .i64 k ∧ Hid (Bld 90 5 wr w1.heap.size V cur) ∧ cur.length ≤ 524288 ∧ Hid (S = cur ++ datGo (l.drop k)) ∧ Hid (cur ≠ []) ∧ Below w1.heap.size w1 wr
set_option maxHeartbeats 4000000 in
set_option maxRecDepth 100000 in
theorem of_ok (A : Option Addr) (c : Nat) (l : List FileD) (w : World) (hz : l.length ≤ 8796093022208) (hx : ∀ f ∈ l, FOk f)
    (hc : Arr w w.heap.size 3 A l.length (fcells l)) (hm : Ml w) (h0 : checkE l = 0) :
    Calls Tryd.prog 35 #[.slice A l.length c] w (OfOut w (imgL l)) := by
  obtain ⟨h256, hall⟩ := check_good h0
  have hr := check_any A c l w hz hx hc hm
  rw [h0] at hr
  have HR := Lib.hid hr
  have HALL := Lib.hid hall
  have HC := Lib.hid hc
  obtain ⟨H, hH⟩ : ∃ H, H = imgH l := ⟨_, rfl⟩
  obtain ⟨S, hS⟩ : ∃ S, S = imgL l := ⟨_, rfl⟩
  have HS : Hid (S = H ++ datGo (l.drop 0)) := Lib.hid (by rw [hS, hH]; rfl)
  have HH : Hid (H = ([] ++ numL (l.length : Int).toNat) ++ hdGo (l.drop 0)) := Lib.hid (by rw [hH]; rfl)
  rw [← hS]
  clear hr hall hx hc hS hH h0
  go_enter Tryd.func35, Tryd.ntmps35
  go_wp2_with (first
    | (go_at_call 52; (with_reducible refine HR.out.mono ?_); rintro e w1 ⟨rfl, hb1⟩; have hbld := Bld.new w1 90 5; have hcl : ([] : List UInt8).length ≤ 0 := Nat.le_refl _)
    | (go_at_call 53; (refine (inum_at _ _ _ _ _ hbld (by omega) (by omega) (by omega)).mono ?_); rintro e w2 ⟨v2, rfl, hbld, hf2, h9⟩; have hcl := iapp_le hcl h9))
  have hs1 : w1.heap.size ≤ (w1.alloc (.cells #[.pointer none, .slice none 0 0] 90)).heap.size := by simp
  have hB2 : Below w1.heap.size w1 w2 := ((Below.refl _ w1).alloc (Nat.le_refl _) _).trans (hf2.below hs1)
  have hbx0 := hbld.lt
  go_loopw [23] (fun v wr => ∃ (k : Nat) (V : Value) (cur : List UInt8), k ≤ l.length ∧ v = .int .i64 k ∧ Hid (Bld 90 5 wr w1.heap.size V cur) ∧ cur.length ≤ 9 + k * 227 ∧ Hid (H = cur ++ hdGo (l.drop k)) ∧ Hid (cur ≠ []) ∧ Below w1.heap.size w1 wr) (fun v _ => l.length - (intOf v).toNat)
  case atStart => exact ⟨0, v2, _, Nat.zero_le _, rfl, Lib.hid hbld, by omega, HH, Lib.hid (by simp [numL_ne]), hB2⟩
  case round =>
    obtain ⟨k, V, cur, hk, rfl, HBL, hcl, HK, HNE, hBB⟩ := hrel
    have hbld := HBL.out
    have hBs := hBB.size
    have hlt1 := hbld.lt
    by_cases hlt : k < l.length
    · obtain ⟨f, hf⟩ : ∃ f, l[k]? = some f := ⟨_, List.getElem?_eq_getElem hlt⟩
      obtain ⟨b, o, rfl, hb, hcell⟩ := HC.out.2 (by omega)
      have hb1s := hb1.size
      obtain ⟨c0, c1, c2⟩ := file_cells (fun i u h => (hBB.cell (p := ⟨b, o + i, none⟩) (by show b < _; omega)).trans ((hb1.cell (p := ⟨b, o + i, none⟩) hb).trans (hcell i u h))) hf
      obtain ⟨hpe, hp2, hmo, hda⟩ := HALL.out f (List.mem_of_getElem? hf)
      obtain ⟨m, hmm, hm5⟩ := fnat_of hmo
      have HK2 := Lib.hid (hd_cat hmm hf HK.out)
      have HNE2 := Lib.hid (ne_app4 HNE.out (numL (f.path.size : Int).toNat) f.path.data.toList (numL (m : Int).toNat) (numL (f.data.size : Int).toNat))
      rw [hmm] at c1
      clear hcell hf hmm hmo hpe HBL HK HNE
      have hbox := Blk.new wr 69 #[.string f.path, .int .i64 (m : Int), .string f.data]
      have hbld := hbld.fr ((Fr.refl (fun _ => False) wr).alloc (.cells #[.string f.path, .int .i64 (m : Int), .string f.data] 69)) (by simp) (by simp)
      have hBB := hBB.alloc hBs (.cells #[.string f.path, .int .i64 (m : Int), .string f.data] 69)
      have hgB : wr.heap.size ≠ w1.heap.size := by omega
      go_wp2_with (first
        | (go_at_call 53; (refine (inum_at _ _ _ _ _ hbld (by omega) (by omega) (by omega)).mono ?_); rintro e w4 ⟨v4, rfl, hbld, hf4, h9⟩; have hcl := iapp_le hcl h9; have hbox := hf4.blk hbox hgB (by decide); have hBB := hBB.trans (hf4.below hBB.size); obtain ⟨k0, k1, k2⟩ := fbox_cells hbox)
        | (go_at_call 55; (refine (iws_at _ _ _ _ _ hbld (by omega) (by omega)).mono ?_); rintro e w5 ⟨v5, rfl, hbld, hf5, h9⟩; have hcl := iapp_le hcl (Nat.le_of_eq h9); have hbox := hf5.blk hbox hgB (by decide); have hBB := hBB.trans (hf5.below hBB.size); obtain ⟨k0, k1, k2⟩ := fbox_cells hbox))
      have HBL2 := Lib.hid hbld
      clear hbld
      go_roundw
      case rel => exact ⟨k + 1, _, _, by omega, by go_num, HBL2, by omega, HK2, HNE2, hBB⟩
      case measure => simp [intOf] <;> omega
    · have hh := HK.out
      rw [hd_end (by omega), List.append_nil] at hh
      subst hh
      have hkl : k ≤ 256 := by omega
      clear HK HBL
      go_wp2
      obtain ⟨w3, rfl⟩ : ∃ w3, w3 = wr := ⟨_, rfl⟩
      go_loopw [47] (fun v wr => OfRel w1 l S v wr) (fun v _ => l.length - (intOf v).toNat)
      case atStart => unfold OfRel; exact ⟨0, V, _, Nat.zero_le _, rfl, Lib.hid hbld, by omega, HS, HNE, hBB⟩
      case round =>
        clear hbld HS HNE hBB hBs hlt1 hcl
        unfold OfRel at hrel
        obtain ⟨k, V, cur, hk, rfl, HBL, hcl, HK, HNE, hBB⟩ := hrel
        have hbld := HBL.out
        have hBs := hBB.size
        have hlt1 := hbld.lt
        by_cases hlt : k < l.length
        · obtain ⟨f, hf⟩ : ∃ f, l[k]? = some f := ⟨_, List.getElem?_eq_getElem hlt⟩
          obtain ⟨b, o, rfl, hb, hcell⟩ := HC.out.2 (by omega)
          have hb1s := hb1.size
          obtain ⟨c0, c1, c2⟩ := file_cells (fun i u h => (hBB.cell (p := ⟨b, o + i, none⟩) (by show b < _; omega)).trans ((hb1.cell (p := ⟨b, o + i, none⟩) hb).trans (hcell i u h))) hf
          obtain ⟨hpe, hp2, hmo, hda⟩ := HALL.out f (List.mem_of_getElem? hf)
          obtain ⟨m, hmm, hm5⟩ := fnat_of hmo
          have HK2 := Lib.hid (dat_cat hf HK.out)
          have HNE2 := Lib.hid (ne_app1 HNE.out f.data.data.toList)
          rw [hmm] at c1
          have hlen : cur.length + f.data.size ≤ S.length := by
            have e := congrArg List.length HK2.out
            simp only [List.length_append] at e
            rw [bt_size]
            omega
          clear hcell hf hmm hmo hpe HBL HK HNE
          have hbox := Blk.new wr 69 #[.string f.path, .int .i64 (m : Int), .string f.data]
          have hbld := hbld.fr ((Fr.refl (fun _ => False) wr).alloc (.cells #[.string f.path, .int .i64 (m : Int), .string f.data] 69)) (by simp) (by simp)
          have hBB := hBB.alloc hBs (.cells #[.string f.path, .int .i64 (m : Int), .string f.data] 69)
          have hgB : wr.heap.size ≠ w1.heap.size := by omega
          have HL := Lib.hid (fun n => blen_any _ _ _ _ (hbld.drewN n))
          have hbxQ := fun n => Blk.drewN hbox n
          have hblQ := fun n => hbld.drewN n
          have hBQ := fun n => below_drewB hBB n
          have hws : IntKind.i64.wrap (524288 - (cur.length : Int)) = 524288 - cur.length := IntWalk.i64_in _ (by omega)
          by_cases hbig : 524288 < cur.length + f.data.size
          · have hd : decide (524288 - (cur.length : Int) < (f.data.size : Int)) = true := decide_eq_true (by omega)
            have hbS : 524288 < S.length := by omega
            have HbS := Lib.hid hbS
            clear hbS
            go_wp2
            go_quiet ((go_at_call 56; exact quiet_left (HL.out _)))
            go_wp2
            go_ret2
            unfold OfOut
            rw [if_pos HbS.out, if_pos HbS.out]
            exact ⟨rfl, below_on hb1 (hBQ _)⟩
          · have hd : decide (524288 - (cur.length : Int) < (f.data.size : Int)) = false := decide_eq_false (by omega)
            go_wp2
            go_quiet ((go_at_call 56; exact quiet_left (HL.out _)))
            clear hd hws
            go_wp2_with (go_at_call 55; (refine (iws_at _ _ _ _ _ (hblQ _) (by omega) (by omega)).mono ?_); rintro e w5 ⟨v5, rfl, hbld, hf5, h9⟩; have hcl2 := iapp_le (Nat.le_refl cur.length) (Nat.le_of_eq h9); have hBB := (hBQ _).trans (hf5.below (hBQ 0).size))
            have HBL2 := Lib.hid hbld
            clear hbld hbxQ hblQ hBQ
            go_roundw
            case rel => unfold OfRel; exact ⟨k + 1, _, _, by omega, by go_num, HBL2, by omega, HK2, HNE2, hBB⟩
            case measure => simp [intOf] <;> omega
        · have hS := HK.out
          rw [dat_end (by omega), List.append_nil] at hS
          subst hS
          have HB := Lib.hid hbld
          clear HK HBL hbld
          go_wp2_with (go_at_call 57; (with_reducible refine (string_any _ _ _ _ HB.out HNE.out).mono ?_); rintro e w3 ⟨rfl, hf3⟩)
          go_ret2
          unfold OfOut
          rw [if_neg (by omega), if_neg (by omega)]
          exact ⟨rfl, below_on hb1 (hBB.trans (hf3.below hBB.size))⟩
def OfIs (w : World) (l : List FileD) (e : Ending) (w' : World) : Prop := e = .returned (.tuple #[.string (ofS l), .int .i64 (ofE l)]) ∧ Below w.heap.size w w'
theorem of_is {w : World} {l : List FileD} (h : checkE l = 0) {e : Ending} {w' : World} (ho : OfOut w (imgL l) e w') : OfIs w l e w' := by
  unfold OfOut at ho
  unfold OfIs ofS ofE
  rw [if_pos h]
  by_cases hb : 524288 < (imgL l).length
  · rw [if_pos hb, if_pos hb] at ho
    rw [if_pos hb, if_neg (by decide)]
    exact ho
  · rw [if_neg hb, if_neg hb] at ho
    rw [if_neg hb, if_pos rfl]
    exact ho
theorem of_any (A : Option Addr) (c : Nat) (l : List FileD) (w : World) (hz : l.length ≤ 8796093022208) (hx : ∀ f ∈ l, FOk f)
    (hc : Arr w w.heap.size 3 A l.length (fcells l)) (hm : Ml w) :
    Calls Tryd.prog 35 #[.slice A l.length c] w (OfIs w l) := by
  by_cases h0 : checkE l = 0
  · exact (of_ok A c l w hz hx hc hm h0).mono fun e w' h => of_is h0 h
  · have e1 : ofE l = checkE l := by unfold ofE; rw [if_neg h0]
    have e2 : ofS l = ⟨#[]⟩ := by unfold ofS; rw [if_neg (by rw [e1]; exact h0)]
    unfold OfIs
    rw [e1, e2]
    have HR := Lib.hid (check_any A c l w hz hx hc hm)
    have e0 : (checkE l == 0) = false := by rw [beq_eq_false_iff_ne]; exact h0
    clear e1 e2
    generalize checkE l = E at *
    go_enter Tryd.func35, Tryd.ntmps35
    go_wp2_with (go_at_call 52; (with_reducible refine HR.out.mono ?_); rintro e w1 ⟨rfl, hb1⟩)
    go_ret2
    exact ⟨rfl, hb1⟩
end Go.Proofs.YtakdngcgjahafaaDoor
/- Chapter 10: the walks through image.Size, the reference's Of, few, awake. -/
namespace Go.Proofs.YtakdngcgjahafaaDoor
open Go.RowKit
set_option linter.unusedVariables false

/-! ### Size -/
def szGo : List FileD → Nat
  | [] => 0
  | f :: r => ((numL f.path.size).length + f.path.size + (numL f.mode.toNat).length + (numL f.data.size).length + f.data.size) + szGo r
theorem sz_step {l : List FileD} {k : Nat} {f : FileD} (h : l[k]? = some f) : szGo (l.drop k) = ((numL f.path.size).length + f.path.size + (numL f.mode.toNat).length + (numL f.data.size).length + f.data.size) + szGo (l.drop (k + 1)) := by rw [drop_head h, szGo]
theorem sz_end {l : List FileD} {k : Nat} (h : l.length ≤ k) : szGo (l.drop k) = 0 := by rw [List.drop_eq_nil_of_le h, szGo]
theorem sz_len : ∀ l : List FileD, szGo l = (hdGo l).length + (datGo l).length
  | [] => rfl
  | f :: r => by
    rw [szGo, hdGo, datGo, fileHd, sz_len r]
    simp only [List.length_append]
    rw [← bt_size, ← bt_size]
    omega
theorem img_len (l : List FileD) : (imgL l).length = (numL l.length).length + szGo l := by
  unfold imgL imgH
  rw [List.length_append, List.length_append, sz_len]
  omega
def SzOut (w : World) (N : Nat) (e : Ending) (w' : World) : Prop := e = .returned (.tuple #[.int .i64 (if 524288 < N then 0 else (N : Int)), .int .i64 (if 524288 < N then 4 else 0)]) ∧ Below w.heap.size w w'
def SzIs (w : World) (l : List FileD) (e : Ending) (w' : World) : Prop := e = .returned (.tuple #[.int .i64 (ofN l), .int .i64 (ofE l)]) ∧ Below w.heap.size w w'
end Go.Proofs.YtakdngcgjahafaaDoor
/- Chapter 10: the walks through the reference's Of, few, awake. -/
namespace Go.Proofs.YtakdngcgjahafaaDoor
open Go.RowKit
set_option linter.unusedVariables false

def ORel (w1 : World) (l : List FileD) (S : List UInt8) (vo v : Value) (wr : World) : Prop := ∃ (k : Nat) (O : ByteArray), k ≤ l.length ∧ v = .int .i64 k ∧ vo = .string O ∧ O.size ≤ 524288 ∧ Hid (S = O.data.toList ++ datGo (l.drop k)) ∧ Below w1.heap.size w1 wr
set_option maxHeartbeats 4000000 in
set_option maxRecDepth 100000 in
theorem of_ref_ok (A : Option Addr) (c : Nat) (l : List FileD) (w : World) (hz : l.length ≤ 8796093022208) (hx : ∀ f ∈ l, FOk f)
    (hc : Arr w w.heap.size 3 A l.length (fcells l)) (h0 : checkE l = 0) :
    Calls Tryd.prog 30 #[.slice A l.length c] w (OfOut w (imgL l)) := by
  obtain ⟨h256, hall⟩ := check_good h0
  have hr := check_ref A c l w hz hx hc
  rw [h0] at hr
  have HR := Lib.hid hr
  have HALL := Lib.hid hall
  have HC := Lib.hid hc
  obtain ⟨B0, hB0, hB0l, hB0s⟩ := numS_facts (l.length : Int) (by omega) (by omega)
  have HB0 := Lib.hid hB0
  obtain ⟨H, hH⟩ : ∃ H, H = imgH l := ⟨_, rfl⟩
  obtain ⟨S, hS⟩ : ∃ S, S = imgL l := ⟨_, rfl⟩
  have HS : Hid (S = H ++ datGo (l.drop 0)) := Lib.hid (by rw [hS, hH]; rfl)
  have HH : Hid (H = B0.data.toList ++ hdGo (l.drop 0)) := Lib.hid (by rw [hH, hB0l]; rfl)
  rw [← hS]
  clear hr hall hx hc hS hH h0 hB0 hB0l
  go_enter Tryd.func30, Tryd.ntmps30
  go_wp2_with (first
    | (go_at_call 48; (with_reducible refine HR.out.mono ?_); rintro e w1 ⟨rfl, hb1⟩)
    | (go_at_call 49; (with_reducible refine (HB0.out _).mono ?_); rintro e w2 ⟨rfl, hb2⟩; have hB2 := below_on hb1 hb2))
  go_loopw [5, 6] (fun vo v wr => ∃ (k : Nat) (O : ByteArray), k ≤ l.length ∧ v = .int .i64 k ∧ vo = .string O ∧ O.size ≤ 9 + k * 227 ∧ Hid (H = O.data.toList ++ hdGo (l.drop k)) ∧ Below w.heap.size w wr) (fun _ v _ => l.length - (intOf v).toNat)
  case atStart => exact ⟨0, B0, Nat.zero_le _, rfl, rfl, by omega, HH, hB2⟩
  case round =>
    obtain ⟨k, O, hk, rfl, rfl, hO, HK, hB⟩ := hrel
    by_cases hlt : k < l.length
    · obtain ⟨f, hf⟩ : ∃ f, l[k]? = some f := ⟨_, List.getElem?_eq_getElem hlt⟩
      obtain ⟨b, o, rfl, hb, hcell⟩ := HC.out.2 (by omega)
      have HCC := Lib.hid (fun (W : World) (hW : Below w.heap.size w W) => file_cells (fun i u h => (hW.cell (p := ⟨b, o + i, none⟩) hb).trans (hcell i u h)) hf)
      obtain ⟨hpe, hp2, hmo, hda⟩ := HALL.out f (List.mem_of_getElem? hf)
      obtain ⟨T, ET, hT, hTl, hTs⟩ := txtS_facts f.path (by omega)
      obtain ⟨Bm, hBm, hBml, hBms⟩ := numS_facts f.mode hmo.1 (by omega)
      obtain ⟨Bz, hBz, hBzl, hBzs⟩ := numS_facts (f.data.size : Int) (by omega) (by omega)
      have HT := Lib.hid hT
      have HBm := Lib.hid hBm
      have HBz := Lib.hid hBz
      have HFIN : Hid (H = (((O ++ T) ++ Bm) ++ Bz).data.toList ++ hdGo (l.drop (k + 1))) := Lib.hid (by
        rw [HK.out, hd_step hf, fileHd, cat_list, cat_list, cat_list, hTl, hBml, hBzl]
        simp only [List.append_assoc, Int.toNat_natCast])
      have i1 : (k : Int) < l.length := by omega
      have i0 : 0 ≤ (k : Int) := by omega
      have s1 : ¬ 9223372036854775807 < O.size + T.size := by omega
      have s2 : ¬ 9223372036854775807 < O.size + T.size + Bm.size := by omega
      have s3 : ¬ 9223372036854775807 < O.size + T.size + Bm.size + Bz.size := by omega
      clear hcell hpe hmo hf HK hT hTl hBm hBml hBz hBzl
      obtain ⟨c0, c1, c2⟩ := HCC.out _ hB
      go_wp2_with (go_at_call 50; (with_reducible refine (HT.out _).mono ?_); rintro e w4 ⟨rfl, hb4⟩; have hB := below_on hB hb4; obtain ⟨c0, c1, c2⟩ := HCC.out _ hB)
      have c0' := cell_cls c0
      have c1' := cell_cls c1
      have c2' := cell_cls c2
      refine wp_region_cls (by kernel_rfl) (by kernel_rfl) ?_
      repeat (go_big_quiet_step ((go_at_call 49; first | with_reducible exact cls_call (HBm.out _) | with_reducible exact cls_call (HBz.out _))))
      refine wpQuiet_nil ?_
      intro _ hw'
      obtain ⟨⟨w9, hb9⟩, hw''⟩ := hw'
      subst hw''
      have hB := below_on hB hb9
      clear c0' c1' c2' c0 c1 c2
      go_wp2
      go_roundw
      case rel => exact ⟨k + 1, _, by omega, by go_num, rfl, by simp; omega, HFIN, hB⟩
      case measure => simp [intOf] <;> omega
    · have hh := HK.out
      rw [hd_end (by omega), List.append_nil] at hh
      subst hh
      have hkl : k ≤ 256 := by omega
      clear HK
      go_wp2
      obtain ⟨w3, rfl⟩ : ∃ w3, w3 = wr := ⟨_, rfl⟩
      go_loopw [5, 9] (fun vo v wr => ORel w l S vo v wr) (fun _ v _ => l.length - (intOf v).toNat)
      case atStart => unfold ORel; exact ⟨0, O, Nat.zero_le _, rfl, rfl, by omega, HS, hB⟩
      case round =>
        clear HS hB hO
        unfold ORel at hrel
        obtain ⟨k, O, hk, rfl, rfl, hO, HK, hB⟩ := hrel
        by_cases hlt : k < l.length
        · obtain ⟨f, hf⟩ : ∃ f, l[k]? = some f := ⟨_, List.getElem?_eq_getElem hlt⟩
          obtain ⟨b, o, rfl, hb, hcell⟩ := HC.out.2 (by omega)
          obtain ⟨c0, c1, c2⟩ := file_cells (fun i u h => (hB.cell (p := ⟨b, o + i, none⟩) hb).trans (hcell i u h)) hf
          obtain ⟨hpe, hp2, hmo, hda⟩ := HALL.out f (List.mem_of_getElem? hf)
          have HK2 := Lib.hid (show S = (O ++ f.data).data.toList ++ datGo (l.drop (k + 1)) by rw [cat_list]; exact dat_cat hf HK.out)
          have hlen : O.size + f.data.size ≤ S.length := by
            have e := congrArg List.length HK2.out
            rw [cat_list] at e
            simp only [List.length_append] at e
            rw [bt_size, bt_size]
            omega
          have i1 : (k : Int) < l.length := by omega
          have s1 : ¬ 9223372036854775807 < O.size + f.data.size := by omega
          clear hcell hf hmo hpe HK
          by_cases hbig : 524288 < O.size + f.data.size
          · have hd : (524288 : Int) < (O.size : Int) + f.data.size := by omega
            have hbS : 524288 < S.length := by omega
            have HbS := Lib.hid hbS
            clear hbS
            go_wp2
            go_ret2
            unfold OfOut
            rw [if_pos HbS.out, if_pos HbS.out]
            exact ⟨rfl, hB⟩
          · have hd : ¬ (524288 : Int) < (O.size : Int) + f.data.size := by omega
            go_wp2
            go_roundw
            case rel => unfold ORel; exact ⟨k + 1, _, by omega, by go_num, rfl, by simp; omega, HK2, hB⟩
            case measure => simp [intOf] <;> omega
        · have hS := HK.out
          rw [dat_end (by omega), List.append_nil] at hS
          have HS3 := Lib.hid hS
          clear HK hS
          go_wp2
          go_ret2
          have hS := HS3.out
          subst hS
          unfold OfOut
          rw [if_neg (by rw [← bt_size]; omega), if_neg (by rw [← bt_size]; omega)]
          exact ⟨rfl, hB⟩
theorem of_ref (A : Option Addr) (c : Nat) (l : List FileD) (w : World) (hz : l.length ≤ 8796093022208) (hx : ∀ f ∈ l, FOk f)
    (hc : Arr w w.heap.size 3 A l.length (fcells l)) :
    Calls Tryd.prog 30 #[.slice A l.length c] w (OfIs w l) := by
  by_cases h0 : checkE l = 0
  · exact (of_ref_ok A c l w hz hx hc h0).mono fun e w' h => of_is h0 h
  · have e1 : ofE l = checkE l := by unfold ofE; rw [if_neg h0]
    have e2 : ofS l = ⟨#[]⟩ := by unfold ofS; rw [if_neg (by rw [e1]; exact h0)]
    unfold OfIs
    rw [e1, e2]
    have HR := Lib.hid (check_ref A c l w hz hx hc)
    have e0 : (checkE l == 0) = false := by rw [beq_eq_false_iff_ne]; exact h0
    clear e1 e2
    generalize checkE l = E at *
    go_enter Tryd.func30, Tryd.ntmps30
    go_wp2_with (go_at_call 48; (with_reducible refine HR.out.mono ?_); rintro e w1 ⟨rfl, hb1⟩)
    go_ret2
    exact ⟨rfl, hb1⟩

/-! ### few -/
def fewGo : Nat → Nat → List FileD → List FileD
  | 0, _, _ => []
  | _ + 1, _, [] => []
  | c + 1, n, f :: r => if 20000 < n + f.data.size then ⟨f.path, f.mode, ⟨#[]⟩⟩ :: fewGo c n r else f :: fewGo c (n + f.data.size) r
def fewF (l : List FileD) : List FileD := fewGo 60 0 l
section
variable {l : List FileD} {k n c d : Nat} {f : FileD}
theorem few_cut (h : l[k]? = some f) (hc : c = d + 1) (hn : 20000 < n + f.data.size) : fewGo c n (l.drop k) = ⟨f.path, f.mode, ⟨#[]⟩⟩ :: fewGo d n (l.drop (k + 1)) := by rw [drop_head h, hc, fewGo, if_pos hn]
theorem few_all (h : l[k]? = some f) (hc : c = d + 1) (hn : ¬ 20000 < n + f.data.size) : fewGo c n (l.drop k) = f :: fewGo d (n + f.data.size) (l.drop (k + 1)) := by rw [drop_head h, hc, fewGo, if_neg hn]
theorem few_end (h : l.length ≤ k ∨ c = 0) : fewGo c n (l.drop k) = [] := by
  rcases h with h | h
  · rw [List.drop_eq_nil_of_le h]
    cases c <;> rw [fewGo]
  · rw [h, fewGo]
end
theorem few_ok : ∀ (c n : Nat) (l : List FileD), (∀ f ∈ l, FOk f) → (fewGo c n l).length ≤ c ∧ ∀ f ∈ fewGo c n l, FOk f
  | 0, _, _, _ => by simp [fewGo]
  | c + 1, n, [], _ => by simp [fewGo]
  | c + 1, n, f :: r, h => by
    have hf := h f (by simp)
    rw [fewGo]
    split
    · obtain ⟨h1, h2⟩ := few_ok c n r fun x hx => h x (by simp [hx])
      refine ⟨by simp; exact h1, fun x hx => ?_⟩
      rcases List.mem_cons.1 hx with rfl | hx
      · exact ⟨hf.1, by show (0 : Nat) ≤ _; omega⟩
      · exact h2 x hx
    · obtain ⟨h1, h2⟩ := few_ok c (n + f.data.size) r fun x hx => h x (by simp [hx])
      refine ⟨by simp; exact h1, fun x hx => ?_⟩
      rcases List.mem_cons.1 hx with rfl | hx
      · exact hf
      · exact h2 x hx
def LsOut (w : World) (R : List FileD) (e : Ending) (w' : World) : Prop := ∃ A' c', e = .returned (.slice A' R.length c') ∧ Arr w' w'.heap.size 3 A' R.length (fcells R) ∧ Below w.heap.size w w'
def FewRel (w : World) (l R : List FileD) (vo vn v : Value) (wr : World) : Prop := ∃ (k n : Nat) (out : List FileD), k ≤ l.length ∧ k ≤ 60 ∧ v = .int .i64 k ∧ vn = .int .i64 n ∧ n ≤ 20000 ∧ wr.ownsRow w.heap.size 69 3 vo out.length (fcells out) ∧ out.length ≤ k ∧ Hid (out ++ fewGo (60 - k) n (l.drop k) = R) ∧ Below w.heap.size w wr
/-! ### chapter 10's example -/
def oneFile : List FileD := [⟨⟨#[97]⟩, 0, ⟨#[104, 105]⟩⟩]
theorem one_img : imgL oneFile = [1, 1, 97, 0, 2, 104, 105] := by
  have e1 : (⟨#[97]⟩ : ByteArray).size = 1 := rfl
  have e2 : (⟨#[104, 105]⟩ : ByteArray).size = 2 := rfl
  unfold imgL imgH oneFile hdGo hdGo datGo datGo fileHd
  simp only [e1, e2]
  rw [numL_lt (by decide), numL_lt (by decide), numL_lt (by decide), numL_lt (by decide)]
  rfl
theorem one_of : ofS oneFile = ⟨#[1, 1, 97, 0, 2, 104, 105]⟩ ∧ ofE oneFile = 0 := by
  have h0 : checkE oneFile = 0 := by kernel_rfl
  have h1 : ofE oneFile = 0 := by unfold ofE; rw [if_pos h0, one_img]; rfl
  refine ⟨?_, h1⟩
  unfold ofS
  rw [if_pos h1, one_img]
theorem of_one (w : World) (hm : Ml w) (b : Nat) (hk : Blk w b 69 (fcells oneFile).toArray) : Calls Tryd.prog 35 #[.slice (some ⟨b, 0, none⟩) 1 1] w fun e w' => e = .returned (.tuple #[.string ⟨#[1, 1, 97, 0, 2, 104, 105]⟩, .int .i64 0]) ∧ Below w.heap.size w w' := by
  have := of_any (some ⟨b, 0, none⟩) 1 oneFile w (by decide) (by intro f hf; simp [oneFile] at hf; subst hf; exact ⟨by decide, by decide⟩)
    ⟨by decide, fun _ => ⟨b, 0, rfl, hk.lt, fun i u hu => by rw [Nat.zero_add, hk.cell]; simpa using hu⟩⟩ hm
  unfold OfIs at this
  rwa [one_of.1, one_of.2] at this
end Go.Proofs.YtakdngcgjahafaaDoor
