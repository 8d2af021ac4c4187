/- A manifest's bytes, plain; the walks through shared, the reference's shared, the closure that writes a number, the reference's Bytes of a number and Text. -/
import Derived.Test.YtjhbmcgaehpadaaDoorTreeItem1
import Derived.Test.YtjhbmcgaehpadaaDoorBuilder
import Derived.Test.YtjhbmcgaehpadaaDoorRdMore
import Derived.Test.YtjhbmcgaehpadaaDoorListPlain
namespace Go.Proofs.YtjhbmcgaehpadaaDoor
open Go.RowKit
set_option linter.unusedVariables false

def sharedL : List UInt8 → List UInt8 → Nat
  | x :: a, y :: b => if x = y then sharedL a b + 1 else 0
  | _, _ => 0
theorem sharedL_le : ∀ a b : List UInt8, sharedL a b ≤ a.length ∧ sharedL a b ≤ b.length
  | [], b => by unfold sharedL; simp
  | x :: a, [] => by unfold sharedL; simp
  | x :: a, y :: b => by
    have := sharedL_le a b
    rw [sharedL]
    simp only [List.length_cons]
    split <;> omega
section
variable {a b : List UInt8} {k : Nat}
theorem sh_step (ha : k < a.length) (hb : k < b.length) (h : bt a k = bt b k) : k + sharedL (a.drop k) (b.drop k) = (k + 1) + sharedL (a.drop (k + 1)) (b.drop (k + 1)) := by
  rw [bt_drop ha, bt_drop hb, sharedL, if_pos h]; omega
theorem sh_stop (ha : k < a.length) (hb : k < b.length) (h : bt a k ≠ bt b k) : k + sharedL (a.drop k) (b.drop k) = k := by
  rw [bt_drop ha, bt_drop hb, sharedL, if_neg h]; rfl
theorem sh_end (h : ¬ (k < a.length ∧ k < b.length)) : k + sharedL (a.drop k) (b.drop k) = k := by
  by_cases ha : k < a.length
  · have e : b.drop k = [] := List.drop_eq_nil_of_le (by omega)
    rw [e, bt_drop ha]
    simp [sharedL]
  · have e : a.drop k = [] := List.drop_eq_nil_of_le (by omega)
    rw [e]
    simp [sharedL]
end

set_option maxHeartbeats 1000000 in
set_option maxRecDepth 100000 in
theorem shared_any (a b : ByteArray) (w : World) (ha : a.size ≤ 9223372036854775807) (hb : b.size ≤ 9223372036854775807) :
    Calls Tryd.prog 60 #[.string a, .string b] w fun e w' => e = .returned (.int .i64 (sharedL a.data.toList b.data.toList)) ∧ Below w.heap.size w w' := by
  have la := bt_size a
  have lb := bt_size b
  have ga := Lib.hid (bt_get a)
  have gb := Lib.hid (bt_get b)
  obtain ⟨Z, hZ⟩ : ∃ Z : Nat, min (a.size : Int) (b.size : Int) = (Z : Int) := ⟨min a.size b.size, by omega⟩
  have hZa : Z ≤ a.size := by omega
  have hZb : Z ≤ b.size := by omega
  have hZc : ¬ (Z < a.size ∧ Z < b.size) := by omega
  generalize a.data.toList = L at *
  generalize b.data.toList = M at *
  have LA := Lib.hid la
  have LB := Lib.hid lb
  clear la lb
  generalize hR : sharedL L M = R
  have HR : Hid (0 + sharedL (L.drop 0) (M.drop 0) = R) := Lib.hid (by rw [Nat.zero_add]; exact hR)
  clear hR
  go_enter Tryd.func60, Tryd.ntmps60
  go_wp2
  go_loopw [5] (fun v wr => ∃ (k : Nat), k ≤ Z ∧ v = .int .i64 k ∧ Hid (k + sharedL (L.drop k) (M.drop k) = R) ∧ Below w.heap.size w wr) (fun v _ => Z - (intOf v).toNat)
  case atStart => exact ⟨0, Nat.zero_le _, rfl, HR, Below.refl _ _⟩
  case round =>
    obtain ⟨k, hk, rfl, H, hB⟩ := hrel
    by_cases hlt : k < Z
    · have g1 := ga.out k (by omega)
      have g2 := gb.out k (by omega)
      have i1 : (k : Int) < a.size := by omega
      have i2 : (k : Int) < b.size := by omega
      have i0 : 0 ≤ (k : Int) := by omega
      have i3 : decide ((k : Int) < (Z : Int)) = true := decide_eq_true (by omega)
      have i4 : decide (k < Z) = true := decide_eq_true hlt
      by_cases he : bt L k = bt M k
      · have hst := Lib.hid ((sh_step (by have := LA.out; omega) (by have := LB.out; omega) he).symm.trans H.out)
        have he1 : (((bt L k).toNat : Int) == ((bt M k).toNat : Int)) = true := by rw [he]; simp
        generalize bt L k = x at *
        generalize bt M k = y at *
        clear H he
        go_wp2
        go_quiet (fail)
        go_wp2
        go_roundw
        case rel => exact ⟨k + 1, by omega, by go_num, hst, below_drewN hB _⟩
        case measure => simp [intOf] <;> omega
      · have hr := (sh_stop (by have := LA.out; omega) (by have := LB.out; omega) he).symm.trans H.out
        subst hr
        have he1 := ne_toNat he
        generalize bt L k = x at *
        generalize bt M k = y at *
        clear H he
        go_wp2
        go_quiet (fail)
        go_wp2
        go_ret
        exact ⟨rfl, below_drewN hB _⟩
    · have hr := (sh_end (a := L) (b := M) (k := k) (by have := LA.out; have := LB.out; omega)).symm.trans H.out
      subst hr
      have i3 : decide ((k : Int) < (Z : Int)) = false := decide_eq_false (by omega)
      have i4 : decide (k < Z) = false := decide_eq_false hlt
      clear H
      go_wp2
      go_quiet (fail)
      go_wp2
      go_ret
      exact ⟨rfl, below_drewN hB _⟩

set_option maxHeartbeats 1000000 in
set_option maxRecDepth 100000 in
theorem shared_ref (a b : ByteArray) (w : World) (ha : a.size ≤ 9223372036854775807) (hb : b.size ≤ 9223372036854775807) :
    Calls Tryd.prog 63 #[.string a, .string b] w fun e w' => e = .returned (.int .i64 (sharedL a.data.toList b.data.toList)) ∧ Below w.heap.size w w' := by
  have la := bt_size a
  have lb := bt_size b
  have ga := Lib.hid (bt_get a)
  have gb := Lib.hid (bt_get b)
  generalize a.data.toList = L at *
  generalize b.data.toList = M at *
  have LA := Lib.hid la
  have LB := Lib.hid lb
  clear la lb
  generalize hR : sharedL L M = R
  have HR : Hid (0 + sharedL (L.drop 0) (M.drop 0) = R) := Lib.hid (by rw [Nat.zero_add]; exact hR)
  clear hR
  go_enter Tryd.func63, Tryd.ntmps63
  go_wp2
  go_loopw [5] (fun v wr => ∃ (k : Nat), k ≤ a.size ∧ v = .int .i64 k ∧ Hid (k + sharedL (L.drop k) (M.drop k) = R) ∧ Below w.heap.size w wr) (fun v _ => a.size - (intOf v).toNat)
  case atStart => exact ⟨0, Nat.zero_le _, rfl, HR, Below.refl _ _⟩
  case round =>
    obtain ⟨k, hk, rfl, H, hB⟩ := hrel
    have i0 : 0 ≤ (k : Int) := by omega
    by_cases h1 : k < a.size
    · have g1 := ga.out k h1
      have i1 : (k : Int) < a.size := by omega
      by_cases h2 : k < b.size
      · have g2 := gb.out k h2
        have i2 : (k : Int) < b.size := by omega
        by_cases he : bt L k = bt M k
        · have hst := Lib.hid ((sh_step (by have := LA.out; omega) (by have := LB.out; omega) he).symm.trans H.out)
          have he1 : (((bt L k).toNat : Int) == ((bt M k).toNat : Int)) = true := by rw [he]; simp
          generalize bt L k = x at *
          generalize bt M k = y at *
          clear H he
          go_wp2
          go_quiet (fail)
          go_wp2
          go_roundw
          case rel => exact ⟨k + 1, by omega, by go_num, hst, below_drewN hB _⟩
          case measure => simp [intOf] <;> omega
        · have hr := (sh_stop (by have := LA.out; omega) (by have := LB.out; omega) he).symm.trans H.out
          subst hr
          have he1 := ne_toNat he
          generalize bt L k = x at *
          generalize bt M k = y at *
          clear H he
          go_wp2
          go_quiet (fail)
          go_wp2
          go_ret
          exact ⟨rfl, below_drewN hB _⟩
      · have hr := (sh_end (a := L) (b := M) (k := k) (by have := LA.out; have := LB.out; omega)).symm.trans H.out
        subst hr
        have i4 : decide (k < b.size) = false := decide_eq_false h2
        clear H
        go_wp2
        go_quiet (fail)
        go_wp2
        go_ret
        exact ⟨rfl, below_drewN hB _⟩
    · have hr := (sh_end (a := L) (b := M) (k := k) (by have := LA.out; have := LB.out; omega)).symm.trans H.out
      subst hr
      have i4 : decide (k < a.size) = false := decide_eq_false h1
      clear H
      go_wp2
      go_quiet (fail)
      go_wp2
      go_ret
      exact ⟨rfl, below_drewN hB _⟩

/-! ### numbers and texts -/
set_option maxHeartbeats 1000000 in
set_option maxRecDepth 100000 in
theorem tnum_any (b n : Nat) (v : Value) (l : List UInt8) (w : World) (h : Bld 72 5 w b v l) (hn : n ≤ 4194304) (hl : l.length ≤ 16777216) :
    Calls Tryd.prog 57 #[.int .i64 n, .pointer (some ⟨b, 0, none⟩)] w fun e w' => ∃ v', e = .returned (.tuple #[]) ∧ Bld 72 5 w' b v' (l ++ numL n) ∧ FrB 5 b w w' := by
  have hn1 := fun w => code_num (n : Int) w (by omega) (by omega)
  rw [numS_ok (by omega) (by omega), numE_ok (by omega) (by omega), Int.toNat_natCast] at hn1
  have HN := Lib.hid hn1
  have h9 := numL_len n (by omega)
  have hsz : (⟨(numL n).toArray⟩ : ByteArray).size = (numL n).length := by rw [ba_size]
  clear hn1
  go_enter Tryd.func57, Tryd.ntmps57
  go_wp2_with (go_at_call 58; refine (HN.out _).mono ?_; rintro e w1 ⟨rfl, hb1⟩)
  have hB1 := h.fr (Fr.of_below hb1 (fun _ => False)) (by simp) (by simp)
  refine (writeString_any _ _ _ _ _ hB1 (by rw [hsz]; omega)).mono ?_
  rintro e w2 ⟨v2, rfl, hB2, hf2⟩
  go_wp2
  go_returns
  exact ⟨v2, rfl, by simpa using hB2, (FrB.of_below hb1).trans hf2⟩
set_option maxRecDepth 100000 in
theorem ref_bytes (n : Int) (w : World) (h0 : -9223372036854775808 ≤ n) (h1 : n ≤ 9223372036854775807) :
    Calls Tryd.prog 62 #[.int .i64 n] w fun e w' => e = .returned (.string (numS n)) ∧ Below w.heap.size w w' := by
  go_enter Tryd.func62, Tryd.ntmps62
  go_wp2_with (go_at_call 89; refine (ref_num n _ h0 h1).mono ?_; rintro e w1 ⟨rfl, hb1⟩)
  go_ret
  exact ⟨rfl, hb1⟩
set_option maxRecDepth 100000 in
theorem ref_text (s : ByteArray) (w : World) (hs : s.size ≤ 9223372036854775807) :
    Calls Tryd.prog 64 #[.string s] w fun e w' => e = .returned (.tuple #[.string (txtS s), .int .i64 (txtE s)]) ∧ Below w.heap.size w w' := by
  by_cases hl : 1048576 < s.size
  · have HX := Lib.hid (txt_no hl)
    go_enter Tryd.func64, Tryd.ntmps64
    go_wp2
    go_ret2
    rw [HX.out.1, HX.out.2]
    exact ⟨rfl, Below.refl _ _⟩
  · have HX := Lib.hid (txt_ok hl)
    have hc := fun w => ref_bytes s.size w (by omega) (by omega)
    have hsz : (numS s.size).size ≤ 9 := by rw [numS_len (by omega)]; exact numL_len _ (by omega)
    have HC := Lib.hid hc
    clear hc
    go_enter Tryd.func64, Tryd.ntmps64
    go_wp2_with (go_at_call 62; refine (HC.out _).mono ?_; rintro e w1 ⟨rfl, hb1⟩)
    go_ret2
    rw [HX.out.1, HX.out.2]
    exact ⟨rfl, hb1⟩

/-! ### a manifest's bytes -/
def itemBy (last : List UInt8) (f : ItemD) : List UInt8 :=
  numL (sharedL last f.path.data.toList) ++ (numL (f.path.size - sharedL last f.path.data.toList) ++ (f.path.data.toList.drop (sharedL last f.path.data.toList) ++ (numL f.mode.toNat ++ (numL f.size.toNat ++ f.mark.data.toList))))
def bytesGo : List UInt8 → List ItemD → List UInt8
  | _, [] => []
  | last, f :: r => itemBy last f ++ bytesGo f.path.data.toList r
def bytesL (l : List ItemD) : List UInt8 := numL l.length ++ bytesGo [] l
def bytesS (l : List ItemD) : ByteArray := if rightE l = 0 then ⟨(bytesL l).toArray⟩ else .empty
def lastAt (l : List ItemD) (k : Nat) : List UInt8 := if k = 0 then [] else match l[k - 1]? with | some f => f.path.data.toList | none => []
theorem lastAt_succ {l : List ItemD} {k : Nat} {f : ItemD} (h : l[k]? = some f) : lastAt l (k + 1) = f.path.data.toList := by
  unfold lastAt
  rw [if_neg (by omega), Nat.add_sub_cancel, h]
theorem bytesGo_step {l : List ItemD} {k : Nat} {f : ItemD} (h : l[k]? = some f) : bytesGo (lastAt l k) (l.drop k) = itemBy (lastAt l k) f ++ bytesGo (lastAt l (k + 1)) (l.drop (k + 1)) := by
  rw [lastAt_succ h, drop_head h, bytesGo]
theorem bytesGo_end {l : List ItemD} {k : Nat} (last : List UInt8) (h : l.length ≤ k) : bytesGo last (l.drop k) = [] := by rw [List.drop_eq_nil_of_le h, bytesGo]
theorem stepE_pathE {q : Option (List UInt8)} {s : List UInt8} (h : stepE q s = 0) : pathE s = 0 := by
  unfold stepE at h
  by_cases h0 : pathE s = 0
  · exact h0
  · rw [if_neg h0] at h; exact absurd h h0
theorem pathsGo_all : ∀ (q : Option (List UInt8)) (l : List (List UInt8)), pathsGo q l = 0 → ∀ x ∈ l, pathE x = 0
  | _, [], _, x, hx => by cases hx
  | q, s :: r, h, x, hx => by
    rw [pathsGo] at h
    by_cases h0 : stepE q s = 0
    · rw [if_pos h0] at h
      rcases List.mem_cons.1 hx with rfl | hx
      · exact stepE_pathE h0
      · exact pathsGo_all _ r h x hx
    · rw [if_neg h0] at h; exact absurd h h0
theorem itemsE_all : ∀ (l : List ItemD), itemsE l = 0 → ∀ x ∈ l, itemE x = 0
  | [], _, x, hx => by cases hx
  | f :: r, h, x, hx => by
    rw [itemsE] at h
    by_cases h0 : itemE f = 0
    · rw [if_pos h0] at h
      rcases List.mem_cons.1 hx with rfl | hx
      · exact h0
      · exact itemsE_all r h x hx
    · rw [if_neg h0] at h; exact absurd h h0
theorem itemE_zero {f : ItemD} (h : itemE f = 0) : (0 ≤ f.mode ∧ f.mode ≤ 511) ∧ (0 ≤ f.size ∧ f.size ≤ 65536) ∧ f.mark.size = 32 := by
  unfold itemE at h
  by_cases h1 : 0 ≤ f.mode ∧ f.mode ≤ 511
  · rw [if_pos h1] at h
    by_cases h2 : 0 ≤ f.size ∧ f.size ≤ 65536
    · rw [if_pos h2] at h
      by_cases h3 : f.mark.size = 32
      · exact ⟨h1, h2, h3⟩
      · rw [if_neg h3] at h; cases h
    · rw [if_neg h2] at h; cases h
  · rw [if_neg h1] at h; cases h
theorem rightE_zero {l : List ItemD} (h : rightE l = 0) : l.length ≤ 256 ∧ ∀ f ∈ l, pathE f.path.data.toList = 0 ∧ itemE f = 0 := by
  unfold rightE at h
  by_cases h0 : pathsE (lists (ipaths l)) = 0
  · rw [if_pos h0] at h
    unfold pathsE at h0
    by_cases h1 : 256 < (lists (ipaths l)).length
    · rw [if_pos h1] at h0; cases h0
    · rw [if_neg h1] at h0
      rw [lists_len, ipaths_len] at h1
      refine ⟨by omega, fun f hf => ⟨pathsGo_all _ _ h0 _ (List.mem_map_of_mem (List.mem_map_of_mem hf)), itemsE_all _ h f hf⟩⟩
  · rw [if_neg h0] at h; exact absurd h h0
end Go.Proofs.YtjhbmcgaehpadaaDoor
