/- The walks through Press's two closures. -/
import Derived.Test.YtennmnoghipnfaaPressLongest
import Derived.Test.YtennmnoghipnfaaBuilder
namespace Go.Proofs.Ytennmnoghipnfaa
open Go.RowKit
set_option linter.unusedVariables false

set_option maxHeartbeats 1000000 in
set_option maxRecDepth 100000 in
theorem pnum_any (b n : Nat) (v : Value) (l : List UInt8) (w : World) (h : Bld 33 5 w b v l) (hn : n ≤ 4194304) (hl : l.length ≤ 16777216) :
    Calls Try.prog 20 #[.int .i64 n, .pointer (some ⟨b, 0, none⟩)] w fun e w' => ∃ v', e = .returned (.tuple #[]) ∧ Bld 33 5 w' b v' (l ++ numL n) ∧ FrB 5 b w w' := by
  have hn1 := fun w => code_num (n : Int) w (by omega) (by omega)
  rw [numS_ok (by omega) (by omega), numE_ok (by omega) (by omega), Int.toNat_natCast] at hn1
  have HN := Lib.hid hn1
  have h9 := numL_len n (by omega)
  have hsz : (⟨(numL n).toArray⟩ : ByteArray).size = (numL n).length := by rw [ba_size]
  clear hn1
  go_enter Try.func20, Try.ntmps20
  go_wp2_with (go_at_call 21; refine (HN.out _).mono ?_; rintro e w1 ⟨rfl, hb1⟩)
  have hB1 := h.fr (Fr.of_below hb1 (fun _ => False)) (by simp) (by simp)
  refine (writeString_any _ _ _ _ _ hB1 (by rw [hsz]; omega)).mono ?_
  rintro e w2 ⟨v2, rfl, hB2, hf2⟩
  go_wp2
  go_returns
  exact ⟨v2, rfl, by simpa using hB2, (FrB.of_below hb1).trans hf2⟩

theorem num_at (b : Nat) (x : Int) (n : Nat) (v : Value) (l : List UInt8) (w : World) (hx : x = (n : Int)) (h : Bld 33 5 w b v l) (hn : n ≤ 4194304) (hl : l.length ≤ 16777216) :
    Calls Try.prog 20 #[.int .i64 x, .pointer (some ⟨b, 0, none⟩)] w fun e w' => ∃ v', e = .returned (.tuple #[]) ∧ Bld 33 5 w' b v' (l ++ numL n) ∧ FrB 5 b w w' := by
  subst hx
  exact pnum_any b n v l w h hn hl

theorem run_str (s : ByteArray) (a b : Nat) : (s.extract a b).data.toList = (s.data.toList.take b).drop a := by
  rw [ByteArray.data_extract, Array.toList_extract, List.extract_eq_take_drop, List.drop_take]

set_option maxHeartbeats 1000000 in
set_option maxRecDepth 100000 in
theorem plain_any (b bf bn bs from_ to_ : Nat) (s : ByteArray) (v : Value) (l : List UInt8) (w : World) (h : Bld 33 5 w b v l)
    (hs : Blk w bs 9 #[.string s]) (hn : Blk w bn 39 #[.func (.func 20) #[] #[.pointer (some ⟨b, 0, none⟩)]]) (hf : Blk w bf 3 #[.int .i64 from_])
    (hft : from_ ≤ to_) (ht : to_ ≤ s.size) (h1 : s.size ≤ 1048576) (hl : l.length ≤ 8388608) :
    Calls Try.prog 23 #[.int .i64 to_, .pointer (some ⟨bf, 0, none⟩), .pointer (some ⟨bn, 0, none⟩), .pointer (some ⟨b, 0, none⟩), .pointer (some ⟨bs, 0, none⟩)] w fun e w' =>
      ∃ v', e = .returned (.tuple #[]) ∧ Bld 33 5 w' b v' (l ++ run_ s.data.toList from_ to_) ∧ FrB 5 b w w' := by
  have cf := hf.cell 0
  have cn := hn.cell 0
  simp only [List.getElem?_toArray, List.getElem?_cons_zero] at cf cn
  by_cases hlt : from_ < to_
  · have hne := h.ne (by decide)
    have hbs : bs ≠ b := fun e => by
      subst e
      rcases h.blk with hb | hb
      · exact absurd rfl (hs.ne_ hb (by decide))
      · exact absurd rfl (hs.ne_ hb (by decide))
    have hbf : bf ≠ b := fun e => by
      subst e
      rcases h.blk with hb | hb
      · exact absurd rfl (hf.ne_ hb (by decide))
      · exact absurd rfl (hf.ne_ hb (by decide))
    have h9 := numL_len (2 * (to_ - from_)) (by omega)
    have hrl := Lib.hid (show l ++ run_ s.data.toList from_ to_ = l ++ numL (2 * (to_ - from_)) ++ (s.extract from_ to_).data.toList from by unfold run_; rw [if_pos hlt, run_str, List.append_assoc])
    have hes : (s.extract from_ to_).size = to_ - from_ := by rw [ByteArray.size_extract]; omega
    go_enter Try.func23, Try.ntmps23
    go_wp2_with (go_at_call 20; refine (num_at b _ (2 * (to_ - from_)) v l _ (by omega) h (by omega) (by omega)).mono ?_; rintro e w1 ⟨v1, rfl, hB1, hf1⟩; have cf1 := (hf1.blk hf hbf (by decide)).cell 0; have cs1 := (hf1.blk hs hbs (by decide)).cell 0; simp only [List.getElem?_toArray, List.getElem?_cons_zero] at cf1 cs1)
    refine (writeString_any _ _ _ _ _ hB1 (by rw [hes, List.length_append]; omega)).mono ?_
    rintro e w2 ⟨v2, rfl, hB2, hf2⟩
    go_wp2
    go_returns
    rw [hrl.out]
    exact ⟨v2, rfl, hB2, hf1.trans hf2⟩
  · go_enter Try.func23, Try.ntmps23
    go_wp2
    go_returns
    rw [run_nil (by omega), List.append_nil]
    exact ⟨v, rfl, h, FrB.refl _ _ _⟩
end Go.Proofs.Ytennmnoghipnfaa
