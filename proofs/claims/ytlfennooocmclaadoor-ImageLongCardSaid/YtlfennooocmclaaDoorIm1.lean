/- Chapter 10: a tree's image, plain; the walks through what makes it: a builder's length, the closures, few. -/
import Derived.Test.YtlfennooocmclaaDoorTreeRef3
import Derived.Test.YtlfennooocmclaaDoorTreeMix
import Derived.Test.YtlfennooocmclaaDoorCls
namespace Go.Proofs.YtlfennooocmclaaDoor
open Go.RowKit
set_option linter.unusedVariables false

/-! ### plain -/
def fileHd (f : FileD) : List UInt8 := numL f.path.size ++ (f.path.data.toList ++ (numL f.mode.toNat ++ numL f.data.size))
def hdGo : List FileD → List UInt8
  | [] => []
  | f :: r => fileHd f ++ hdGo r
def datGo : List FileD → List UInt8
  | [] => []
  | f :: r => f.data.data.toList ++ datGo r
def imgH (l : List FileD) : List UInt8 := numL l.length ++ hdGo l
def imgL (l : List FileD) : List UInt8 := imgH l ++ datGo l
def ofE (l : List FileD) : Int := if checkE l = 0 then if 524288 < (imgL l).length then 4 else 0 else checkE l
def ofS (l : List FileD) : ByteArray := if ofE l = 0 then ⟨(imgL l).toArray⟩ else ⟨#[]⟩
def ofN (l : List FileD) : Int := if ofE l = 0 then (imgL l).length else 0
structure FGood (f : FileD) : Prop where
  path : pathE f.path.data.toList = 0
  long : f.path.size ≤ 200
  mode : 0 ≤ f.mode ∧ f.mode ≤ 511
  data : f.data.size ≤ 65536
theorem imfiles_all : ∀ (l : List FileD), filesE l = 0 → ∀ x ∈ l, fileE x = 0
  | [], _, x, hx => by cases hx
  | f :: r, h, x, hx => by
    rw [filesE] at h
    by_cases h0 : fileE f = 0
    · rw [if_pos h0] at h
      rcases List.mem_cons.1 hx with rfl | hx
      · exact h0
      · exact imfiles_all r h x hx
    · rw [if_neg h0] at h; exact absurd h h0
theorem file_good {f : FileD} (h : fileE f = 0) : (0 ≤ f.mode ∧ f.mode ≤ 511) ∧ f.data.size ≤ 65536 := by
  unfold fileE at h
  by_cases h1 : 0 ≤ f.mode ∧ f.mode ≤ 511
  · rw [if_pos h1] at h
    by_cases h2 : 65536 < f.data.size
    · rw [if_pos h2] at h; cases h
    · exact ⟨h1, by omega⟩
  · rw [if_neg h1] at h; cases h
theorem path_long {t : List UInt8} (h : pathE t = 0) : t.length ≤ 200 := by
  unfold pathE at h
  split at h
  · cases h
  · omega
theorem check_good {l : List FileD} (h : checkE l = 0) : l.length ≤ 256 ∧ ∀ f ∈ l, FGood f := by
  unfold checkE at h
  by_cases h0 : pathsE (l.map (·.path.data.toList)) = 0
  · rw [if_pos h0] at h
    unfold pathsE at h0
    by_cases h1 : 256 < (l.map (·.path.data.toList)).length
    · rw [if_pos h1] at h0; cases h0
    · rw [if_neg h1] at h0
      rw [List.length_map] at h1
      refine ⟨by omega, fun f hf => ?_⟩
      have hp := pathsGo_all _ _ h0 f.path.data.toList (List.mem_map_of_mem hf)
      obtain ⟨h2, h3⟩ := file_good (imfiles_all _ h f hf)
      exact ⟨hp, by rw [bt_size]; exact path_long hp, h2, h3⟩
  · rw [if_neg h0] at h; exact absurd h h0
section
variable {l : List FileD} {k : Nat} {f : FileD}
theorem hd_step (h : l[k]? = some f) : hdGo (l.drop k) = fileHd f ++ hdGo (l.drop (k + 1)) := by rw [drop_head h, hdGo]
theorem hd_end (h : l.length ≤ k) : hdGo (l.drop k) = [] := by rw [List.drop_eq_nil_of_le h, hdGo]
theorem dat_step (h : l[k]? = some f) : datGo (l.drop k) = f.data.data.toList ++ datGo (l.drop (k + 1)) := by rw [drop_head h, datGo]
theorem dat_end (h : l.length ≤ k) : datGo (l.drop k) = [] := by rw [List.drop_eq_nil_of_le h, datGo]
theorem hd_cat {S cur : List UInt8} {m : Nat} (hm : f.mode = (m : Int)) (h : l[k]? = some f) (H : S = cur ++ hdGo (l.drop k)) :
    S = (cur ++ numL (f.path.size : Int).toNat ++ f.path.data.toList ++ numL (m : Int).toNat ++ numL (f.data.size : Int).toNat) ++ hdGo (l.drop (k + 1)) := by
  rw [H, hd_step h, fileHd, hm]
  simp only [List.append_assoc, Int.toNat_natCast]
theorem dat_cat {S cur : List UInt8} (h : l[k]? = some f) (H : S = cur ++ datGo (l.drop k)) : S = (cur ++ f.data.data.toList) ++ datGo (l.drop (k + 1)) := by
  rw [H, dat_step h, List.append_assoc]
end
theorem hdGo_len : ∀ l : List FileD, (∀ f ∈ l, FGood f) → (hdGo l).length ≤ l.length * 227
  | [], _ => by simp [hdGo]
  | f :: r, h => by
    have h1 := h f (by simp)
    have ih := hdGo_len r fun x hx => h x (by simp [hx])
    have a := numL_len f.path.size (by have := h1.long; omega)
    have b := numL_len f.mode.toNat (by have := h1.mode; omega)
    have c := numL_len f.data.size (by have := h1.data; omega)
    have d := h1.long
    rw [bt_size] at d
    rw [hdGo, fileHd]
    simp only [List.length_append, List.length_cons]
    omega
theorem ne_app4 {cur : List UInt8} (h : cur ≠ []) (a b c d : List UInt8) : cur ++ a ++ b ++ c ++ d ≠ [] := by
  cases cur with
  | nil => exact absurd rfl h
  | cons x l => simp
theorem ne_app1 {cur : List UInt8} (h : cur ≠ []) (a : List UInt8) : cur ++ a ≠ [] := by
  cases cur with
  | nil => exact absurd rfl h
  | cons x l => simp

/-! ### the builder's length; the closures -/
theorem iapp_le {l m : List UInt8} {a b : Nat} (h : l.length ≤ a) (k : m.length ≤ b) : (l ++ m).length ≤ a + b := by rw [List.length_append]; omega
theorem below_drewB {B : Nat} {a w : World} (h : Below B a w) (n : Nat) : Below B a (w.drewN n) := ⟨h.os, h.tape, h.output, h.size, h.block⟩
theorem Bld.drewN {T e : TypeId} {w : World} {b : Nat} {v : Value} {l : List UInt8} (h : Bld T e w b v l) (n : Nat) : Bld T e (w.drewN n) b v l := ⟨h.blk, h.own⟩
theorem blen_any (b : Nat) (v : Value) (l : List UInt8) (w : World) (h : Bld 54 5 w b v l) :
    Calls Tryd.prog 31 #[.pointer (some ⟨b, 0, none⟩)] w fun e w' => e = .returned (.int .i64 l.length) ∧ w = w' := by
  have c1 := h.c1
  obtain ⟨A, c, rfl, _, _, _⟩ := own_arr h.own
  go_enter Tryd.func31, Tryd.ntmps31
  go_wp2
  go_ret
  exact ⟨rfl, rfl⟩
set_option maxHeartbeats 1000000 in
set_option maxRecDepth 100000 in
theorem inum_any (b n : Nat) (v : Value) (l : List UInt8) (w : World) (h : Bld 54 5 w b v l) (hn : n ≤ 4194304) (hl : l.length ≤ 16777216) :
    Calls Tryd.prog 28 #[.int .i64 n, .pointer (some ⟨b, 0, none⟩)] w fun e w' => ∃ v', e = .returned (.tuple #[]) ∧ Bld 54 5 w' b v' (l ++ numL n) ∧ FrB 5 b w w' := by
  have hn1 := fun w => code_num (n : Int) w (by omega) (by omega)
  rw [numS_ok (by omega) (by omega), numE_ok (by omega) (by omega), Int.toNat_natCast] at hn1
  have HN := Lib.hid hn1
  have h9 := numL_len n (by omega)
  have hsz : (⟨(numL n).toArray⟩ : ByteArray).size = (numL n).length := by rw [ba_size]
  clear hn1
  go_enter Tryd.func28, Tryd.ntmps28
  go_wp2_with (go_at_call 29; refine (HN.out _).mono ?_; rintro e w1 ⟨rfl, hb1⟩)
  have hB1 := h.fr (Fr.of_below hb1 (fun _ => False)) (by simp) (by simp)
  refine (writeString_any _ _ _ _ _ hB1 (by rw [hsz]; omega)).mono ?_
  rintro e w2 ⟨v2, rfl, hB2, hf2⟩
  go_wp2
  go_returns
  exact ⟨v2, rfl, by simpa using hB2, (FrB.of_below hb1).trans hf2⟩
theorem inum_at (b : Nat) (x : Int) (v : Value) (l : List UInt8) (w : World) (h : Bld 54 5 w b v l) (h0 : 0 ≤ x) (h1 : x ≤ 4194304) (hl : l.length ≤ 16777216) :
    Calls Tryd.prog 28 #[.int .i64 x, .pointer (some ⟨b, 0, none⟩)] w fun e w' => ∃ v', e = .returned (.tuple #[]) ∧ Bld 54 5 w' b v' (l ++ numL x.toNat) ∧ FrB 5 b w w' ∧ (numL x.toNat).length ≤ 9 := by
  obtain ⟨n, rfl⟩ := Int.eq_ofNat_of_zero_le h0
  exact (inum_any b n v l w h (by omega) hl).mono fun e w' ⟨v', h1, h2, h3⟩ => ⟨v', h1, h2, h3, numL_len _ (by omega)⟩
theorem iws_at (b : Nat) (v : Value) (l : List UInt8) (s : ByteArray) (w : World) (h : Bld 54 5 w b v l) (hs : s.size ≤ 65536) (hlen : l.length ≤ 16777216) :
    Calls Tryd.prog 30 #[.pointer (some ⟨b, 0, none⟩), .string s] w fun e w' => ∃ v', e = .returned (.tuple #[.int .i64 s.size, .nilIface]) ∧ Bld 54 5 w' b v' (l ++ s.data.toList) ∧ FrB 5 b w w' ∧ s.data.toList.length = s.size :=
  (writeString_any b v l s w h (by omega)).mono fun e w' ⟨v', h1, h2, h3⟩ => ⟨v', h1, h2, h3, by rw [← bt_size]⟩
set_option maxRecDepth 100000 in
theorem wid_any (n : Nat) (w : World) (hn : n ≤ 4194304) :
    Calls Tryd.prog 36 #[.int .i64 n] w fun e w' => e = .returned (.int .i64 (numL n).length) ∧ Below w.heap.size w w' := by
  have hn1 := fun w => code_num (n : Int) w (by omega) (by omega)
  rw [numS_ok (by omega) (by omega), numE_ok (by omega) (by omega), Int.toNat_natCast] at hn1
  have HN := Lib.hid hn1
  have hsz : Hid ((⟨(numL n).toArray⟩ : ByteArray).size = (numL n).length) := Lib.hid (by rw [ba_size])
  clear hn1
  go_enter Tryd.func36, Tryd.ntmps36
  go_wp2_with (go_at_call 29; refine (HN.out _).mono ?_; rintro e w1 ⟨rfl, hb1⟩)
  go_ret
  exact ⟨rfl, hb1⟩
end Go.Proofs.YtlfennooocmclaaDoor
