/- The walk through Bytes. -/
import Derived.Test.YtjhbmcgaehpadaaDoorTreeBytes1
namespace Go.Proofs.YtjhbmcgaehpadaaDoor
open Go.RowKit
set_option linter.unusedVariables false

theorem tnum_at (b : Nat) (x : Int) (v : Value) (l : List UInt8) (w : World) (h : Bld 72 5 w b v l) (h0 : 0 ≤ x) (h1 : x ≤ 4194304) (hl : l.length ≤ 16777216) :
    Calls Tryd.prog 57 #[.int .i64 x, .pointer (some ⟨b, 0, none⟩)] w fun e w' => ∃ v', e = .returned (.tuple #[]) ∧ Bld 72 5 w' b v' (l ++ numL x.toNat) ∧ FrB 5 b w w' ∧ (numL x.toNat).length ≤ 9 := by
  obtain ⟨n, rfl⟩ := Int.eq_ofNat_of_zero_le h0
  exact (tnum_any b n v l w h (by omega) hl).mono fun e w' ⟨v', h1, h2, h3⟩ => ⟨v', h1, h2, h3, numL_len _ (by omega)⟩
theorem ws_at (b : Nat) (v : Value) (l : List UInt8) (s : ByteArray) (w : World) (h : Bld 72 5 w b v l) (hs : s.size ≤ 200) (hlen : l.length ≤ 16777216) :
    Calls Tryd.prog 59 #[.pointer (some ⟨b, 0, none⟩), .string s] w fun e w' => ∃ v', e = .returned (.tuple #[.int .i64 s.size, .nilIface]) ∧ Bld 72 5 w' b v' (l ++ s.data.toList) ∧ FrB 5 b w w' ∧ s.data.toList.length ≤ 200 :=
  (writeString_any b v l s w h (by omega)).mono fun e w' ⟨v', h1, h2, h3⟩ => ⟨v', h1, h2, h3, by rw [← bt_size]; exact hs⟩
theorem app_le {l m : List UInt8} {a b : Nat} (h : l.length ≤ a) (k : m.length ≤ b) : (l ++ m).length ≤ a + b := by rw [List.length_append]; omega
theorem ibox_cells {W : World} {g : Nat} {t : TypeId} {p k : ByteArray} {m z : Int} (h : Blk W g t #[.string p, .int .i64 m, .int .i64 z, .string k]) :
    W.cell? ⟨g, 0, none⟩ = some (.string p) ∧ W.cell? ⟨g, 1, none⟩ = some (.int .i64 m) ∧ W.cell? ⟨g, 2, none⟩ = some (.int .i64 z) ∧ W.cell? ⟨g, 3, none⟩ = some (.string k) := ⟨h.cell 0, h.cell 1, h.cell 2, h.cell 3⟩
theorem nat_of {x : Int} (h0 : 0 ≤ x) (h1 : x ≤ 65536) : ∃ n : Nat, x = (n : Int) ∧ n ≤ 65536 := ⟨x.toNat, by omega, by omega⟩

theorem itemBy_cat (cur rest : List UInt8) (p mark : ByteArray) (n m z : Nat) :
    cur ++ (numL n ++ (numL (p.size - n) ++ (p.data.toList.drop n ++ (numL (m : Int).toNat ++ (numL (z : Int).toNat ++ mark.data.toList)))) ++ rest) =
      (cur ++ numL (n : Int).toNat ++ numL ((p.size : Int) - n).toNat ++ (p.extract n p.size).data.toList ++ numL (m : Int).toNat ++ numL (z : Int).toNat ++ mark.data.toList) ++ rest := by
  have e1 : (n : Int).toNat = n := by omega
  have e2 : ((p.size : Int) - n).toNat = p.size - n := by omega
  have e3 : (p.extract n p.size).data.toList = p.data.toList.drop n := by
    rw [extract_list _ _ _ (Nat.le_refl _), bt_size, List.take_of_length_le (Nat.le_refl _)]
  rw [e1, e2, e3]
  simp only [List.append_assoc]
theorem ne_app6 {cur : List UInt8} (h : cur ≠ []) (a b c d e f : List UInt8) : cur ++ a ++ b ++ c ++ d ++ e ++ f ≠ [] := by
  cases cur with
  | nil => exact absurd rfl h
  | cons x l => simp

set_option maxHeartbeats 2000000 in
set_option maxRecDepth 100000 in
theorem bytes_ok (A : Option Addr) (c : Nat) (l : List ItemD) (w : World) (hz : l.length ≤ 8796093022208) (hx : ∀ f ∈ l, IOk f)
    (hc : Arr w w.heap.size 4 A l.length (icells l)) (hm : Ml w) (h0 : rightE l = 0) :
    Calls Tryd.prog 32 #[.slice A l.length c] w fun e w' => e = .returned (.tuple #[.string ⟨(bytesL l).toArray⟩, .int .i64 0]) ∧ Below w.heap.size w w' := by
  obtain ⟨h256, hall⟩ := rightE_zero h0
  have hr := right_any A c l w hz hx hc hm
  rw [h0] at hr
  have HR := Lib.hid hr
  have HALL := Lib.hid hall
  have HX := Lib.hid hx
  have HC := Lib.hid hc
  obtain ⟨S, hS⟩ : ∃ S, S = bytesL l := ⟨_, rfl⟩
  have HS : Hid (S = ([] ++ numL (l.length : Int).toNat) ++ bytesGo (lastAt l 0) (l.drop 0)) := Lib.hid (by rw [hS]; rfl)
  rw [← hS]
  clear hr hall hx hc hS
  go_enter Tryd.func32, Tryd.ntmps32
  go_wp2_with (first
    | (go_at_call 34; (with_reducible refine HR.out.mono ?_); rintro e w1 ⟨rfl, hb1⟩; have hbld := Bld.new w1 72 5; have hcl : ([] : List UInt8).length ≤ 0 := Nat.le_refl _)
    | (go_at_call 57; (refine (tnum_at _ _ _ _ _ hbld (by omega) (by omega) (by omega)).mono ?_); rintro e w2 ⟨v2, rfl, hbld, hf2, h9⟩; have hcl := app_le hcl h9))
  have hs1 : w1.heap.size ≤ (w1.alloc (.cells #[.pointer none, .slice none 0 0] 72)).heap.size := by simp
  have hB2 : Below w1.heap.size w1 w2 := ((Below.refl _ w1).alloc (Nat.le_refl _) _).trans (hf2.below hs1)
  have hbx0 := hbld.lt
  go_loopw [7, 23] (fun vl v wr => ∃ (k : Nat) (x : ByteArray) (V : Value) (cur : List UInt8), k ≤ l.length ∧ v = .int .i64 k ∧ vl = .string x ∧ Hid (x.data.toList = lastAt l k) ∧ x.size ≤ 200 ∧ Hid (Bld 72 5 wr w1.heap.size V cur) ∧ cur.length ≤ 9 + k * 500 ∧ Hid (S = cur ++ bytesGo (lastAt l k) (l.drop k)) ∧ Hid (cur ≠ []) ∧ Below w1.heap.size w1 wr) (fun _ v _ => l.length - (intOf v).toNat)
  case atStart => exact ⟨0, ⟨#[]⟩, v2, _, Nat.zero_le _, rfl, rfl, by simp [Hid, lastAt], by decide, Lib.hid hbld, by omega, HS, Lib.hid (by simp [numL_ne]), hB2⟩
  case round =>
    obtain ⟨k, x, V, cur, hk, rfl, rfl, hxl, hx2, HBL, hcl, H, HNE, hBB⟩ := hrel
    have hbld := HBL.out
    have hBs := hBB.size
    have hlt1 := hbld.lt
    by_cases hlt : k < l.length
    · obtain ⟨f, hf⟩ : ∃ f, l[k]? = some f := ⟨_, List.getElem?_eq_getElem hlt⟩
      obtain ⟨b, o, rfl, hb, hcell⟩ := HC.out.2 (by omega)
      have hb1s := hb1.size
      obtain ⟨c0, c1, c2, c3⟩ := item_cells (fun i u h => (hBB.cell (p := ⟨b, o + i, none⟩) (by show b < _; omega)).trans ((hb1.cell (p := ⟨b, o + i, none⟩) hb).trans (hcell i u h))) hf
      obtain ⟨hpe, hie⟩ := HALL.out f (List.mem_of_getElem? hf)
      obtain ⟨hmo, hsi, hma⟩ := itemE_zero hie
      have hp2 := pathE_long hpe
      have hst := (bytesGo_step hf)
      have hla := lastAt_succ hf
      have hsl := sharedL_le (lastAt l k) f.path.data.toList
      have hps := bt_size f.path
      have hsh := fun W => shared_any x f.path W (by omega) (by omega)
      rw [hxl.out] at hsh
      have HST : Hid (S = cur ++ (itemBy (lastAt l k) f ++ bytesGo (lastAt l (k + 1)) (l.drop (k + 1)))) := Lib.hid (by rw [← hst]; exact H.out)
      have HLA : Hid (f.path.data.toList = lastAt l (k + 1)) := Lib.hid hla.symm
      unfold itemBy at HST
      generalize sharedL (lastAt l k) f.path.data.toList = n at *
      have hn : n ≤ f.path.size := by omega
      obtain ⟨m, hmm, hm5⟩ := nat_of hmo.1 (by omega)
      obtain ⟨z, hzz, hz5⟩ := nat_of hsi.1 hsi.2
      rw [hmm] at c1 HST
      rw [hzz] at c2 HST
      clear hst hla hsl hps hcell hpe hie hmm hzz hmo hsi hf HBL hxl H
      have hma1 : f.mark.size ≤ 32 := by omega
      have hkg : (f.path.size : Int) - (n : Int) = ((f.path.size - n : Nat) : Int) := by omega
      have HKG := Lib.hid hkg
      have HSH := Lib.hid hsh
      clear hma hkg hsh
      have hbox := Blk.new wr 56 #[.string f.path, .int .i64 (m : Int), .int .i64 (z : Int), .string f.mark]
      have hbld := hbld.fr ((Fr.refl (fun _ => False) wr).alloc (.cells #[.string f.path, .int .i64 (m : Int), .int .i64 (z : Int), .string f.mark] 56)) (by simp) (by simp)
      have hBB := hBB.alloc hBs (.cells #[.string f.path, .int .i64 (m : Int), .int .i64 (z : Int), .string f.mark] 56)
      have hgB : wr.heap.size ≠ w1.heap.size := by omega
      have n1 : (n : Int) ≤ f.path.size := by omega
      go_wp2_with (first
        | (go_at_call 60; (with_reducible refine (HSH.out _).mono ?_); rintro e w3 ⟨rfl, hb3⟩; have hbox := hbox.below hb3 hbox.lt; have hbld := hbld.fr (Fr.of_below hb3 (fun _ => False)) (by simp) (by simp); have hBB := hBB.trans (hb3.mono hBB.size); obtain ⟨k0, k1, k2, k3⟩ := ibox_cells hbox)
        | (go_at_call 57; (refine (tnum_at _ _ _ _ _ hbld (by omega) (by omega) (by omega)).mono ?_); rintro e w4 ⟨v4, rfl, hbld, hf4, h9⟩; have hcl := app_le hcl h9; have hbox := hf4.blk hbox hgB (by decide); have hBB := hBB.trans (hf4.below hBB.size); obtain ⟨k0, k1, k2, k3⟩ := ibox_cells hbox)
        | (go_at_call 59; (refine (ws_at _ _ _ _ _ hbld (by first | omega | (simp; omega)) (by omega)).mono ?_); rintro e w5 ⟨v5, rfl, hbld, hf5, h9⟩; have hcl := app_le hcl h9; have hbox := hf5.blk hbox hgB (by decide); have hBB := hBB.trans (hf5.below hBB.size); obtain ⟨k0, k1, k2, k3⟩ := ibox_cells hbox))
      have hS := HST.out
      rw [itemBy_cat] at hS
      have HS2 := Lib.hid hS
      have HNE2 := Lib.hid (ne_app6 HNE.out (numL (n : Int).toNat) (numL ((f.path.size : Int) - n).toNat) (f.path.extract n f.path.size).data.toList (numL (m : Int).toNat) (numL (z : Int).toNat) f.mark.data.toList)
      have HBL2 := Lib.hid hbld
      clear hS hbld
      go_roundw
      case rel => exact ⟨k + 1, f.path, _, _, by omega, by go_num, rfl, HLA, hp2, HBL2, by omega, HS2, HNE2, hBB⟩
      case measure => simp [intOf] <;> omega
    · have hS := H.out
      rw [bytesGo_end _ (by omega), List.append_nil] at hS
      subst hS
      have HB := Lib.hid hbld
      clear H hbld
      go_wp2_with (go_at_call 61; (with_reducible refine (string_any _ _ _ _ HB.out HNE.out).mono ?_); rintro e w3 ⟨rfl, hf3⟩)
      go_ret2
      exact ⟨rfl, below_on hb1 (hBB.trans (hf3.below hBB.size))⟩
theorem bytes_any (A : Option Addr) (c : Nat) (l : List ItemD) (w : World) (hz : l.length ≤ 8796093022208) (hx : ∀ f ∈ l, IOk f)
    (hc : Arr w w.heap.size 4 A l.length (icells l)) (hm : Ml w) :
    Calls Tryd.prog 32 #[.slice A l.length c] w fun e w' => e = .returned (.tuple #[.string (bytesS l), .int .i64 (rightE l)]) ∧ Below w.heap.size w w' := by
  by_cases h0 : rightE l = 0
  · unfold bytesS
    rw [if_pos h0, h0]
    exact bytes_ok A c l w hz hx hc hm h0
  · unfold bytesS
    rw [if_neg h0]
    have HR := Lib.hid (right_any A c l w hz hx hc hm)
    have e0 : (rightE l == 0) = false := by rw [beq_eq_false_iff_ne]; exact h0
    generalize rightE l = E at *
    go_enter Tryd.func32, Tryd.ntmps32
    go_wp2_with (go_at_call 34; (with_reducible refine HR.out.mono ?_); rintro e w1 ⟨rfl, hb1⟩)
    go_ret2
    exact ⟨rfl, hb1⟩
end Go.Proofs.YtjhbmcgaehpadaaDoor
