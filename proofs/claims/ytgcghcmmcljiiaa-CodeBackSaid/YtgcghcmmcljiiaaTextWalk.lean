/- The walks of Text, of the program and of the reference, and of the law CodeTexts. -/
import Derived.Test.YtgcghcmmcljiiaaSignWalk
import Derived.Test.YtgcghcmmcljiiaaListPlain
namespace Go.Proofs.Ytgcghcmmcljiiaa
open Go.RowKit

set_option maxRecDepth 100000 in
theorem code_text (s : ByteArray) (w : World) (hs : s.size ≤ 9223372036854775807) :
    Calls Try.prog 20 #[.string s] w fun e w' => e = .returned (.tuple #[.string (txtS s), .int .i64 (txtE s)]) ∧ Below w.heap.size w w' := by
  by_cases hl : 1048576 < s.size
  · have HX := Lib.hid (txt_no hl)
    go_enter Try.func20, Try.ntmps20
    go_wp2
    go_ret2
    rw [HX.out.1, HX.out.2]
    exact ⟨rfl, Below.refl _ _⟩
  · have HX := Lib.hid (txt_ok hl)
    have hc := fun w => code_num s.size w (by omega) (by omega)
    have hsz : (numS s.size).size ≤ 9 := by rw [numS_len (by omega)]; exact numL_len _ (by omega)
    have HC := Lib.hid hc
    clear hc
    go_enter Try.func20, Try.ntmps20
    go_wp2_with (go_at_call 12; refine (HC.out _).mono ?_; rintro e w1 ⟨rfl, hb1⟩)
    go_ret2
    rw [HX.out.1, HX.out.2]
    exact ⟨rfl, hb1⟩

set_option maxRecDepth 100000 in
theorem ref_bytes (n : Int) (w : World) (h0 : -9223372036854775808 ≤ n) (h1 : n ≤ 9223372036854775807) :
    Calls Try.prog 39 #[.int .i64 n] w fun e w' => e = .returned (.string (numS n)) ∧ Below w.heap.size w w' := by
  go_enter Try.func39, Try.ntmps39
  go_wp2_with (go_at_call 13; refine (ref_num n _ h0 h1).mono ?_; rintro e w1 ⟨rfl, hb1⟩)
  go_ret
  exact ⟨rfl, hb1⟩

set_option maxRecDepth 100000 in
theorem ref_text (s : ByteArray) (w : World) (hs : s.size ≤ 9223372036854775807) :
    Calls Try.prog 21 #[.string s] w fun e w' => e = .returned (.tuple #[.string (txtS s), .int .i64 (txtE s)]) ∧ Below w.heap.size w w' := by
  by_cases hl : 1048576 < s.size
  · have HX := Lib.hid (txt_no hl)
    go_enter Try.func21, Try.ntmps21
    go_wp2
    go_ret2
    rw [HX.out.1, HX.out.2]
    exact ⟨rfl, Below.refl _ _⟩
  · have HX := Lib.hid (txt_ok hl)
    have hc := fun w => ref_bytes s.size w (by omega) (by omega)
    have hsz : (numS s.size).size ≤ 9 := by rw [numS_len (by omega)]; exact numL_len _ (by omega)
    have HC := Lib.hid hc
    clear hc
    go_enter Try.func21, Try.ntmps21
    go_wp2_with (go_at_call 39; refine (HC.out _).mono ?_; rintro e w1 ⟨rfl, hb1⟩)
    go_ret2
    rw [HX.out.1, HX.out.2]
    exact ⟨rfl, hb1⟩

/-- A text that was made is read again. -/
theorem rdText_txt {t s : ByteArray} {pre rest : List UInt8} {m : Int} (hl : ¬ 1048576 < s.size) (hm : (s.size : Int) ≤ m) (ht : t.data.toList = pre ++ ((txtS s).data.toList ++ rest)) :
    rdText ⟨t, pre.length, 0⟩ m = (s, ⟨t, pre.length + (txtS s).size, 0⟩) := by
  have hlen : (txtS s).size = (numL s.size).length + s.size := by rw [ba_size, txtS_list hl, List.length_append, ← ba_size]
  rw [txtS_list hl] at ht
  have hn := rdNum_numL (s := t) (n := s.size) (pre := pre) (rest := s.data.toList ++ rest) (by omega) (by rw [ht]; simp)
  have htl : t.size = pre.length + ((numL s.size).length + s.size + rest.length) := by rw [ba_size, ht]; simp; omega
  unfold rdText rdCount
  rw [hn]
  simp only []
  rw [if_neg (by omega)]
  simp only []
  unfold rdRaw
  rw [if_neg (by simp), if_neg (by omega), if_neg (by simp only [htl]; omega)]
  simp only [Int.toNat_natCast]
  rw [hlen]
  congr 1
  · apply ByteArray.ext
    apply Array.toList_inj.1
    rw [ByteArray.data_extract, Array.toList_extract, List.extract_eq_take_drop, ht]
    simp only [List.append_assoc]
    rw [← List.append_assoc pre, ← List.length_append, List.drop_left]
    rw [show (pre ++ numL s.size).length + s.size - (pre ++ numL s.size).length = s.data.toList.length by rw [← ba_size]; omega]
    exact List.take_left
  · congr 1
    omega

theorem txt_reads {a s behind : ByteArray} (hl : ¬ 1048576 < s.size) (ha : a = txtS s ++ behind) : rdText ⟨a, 0, 0⟩ s.size = (s, ⟨a, (txtS s).size, 0⟩) := by
  have := rdText_txt (t := a) (s := s) (pre := []) (rest := behind.data.toList) (m := s.size) hl (Int.le_refl _) (by rw [ha, ByteArray.data_append, Array.toList_append]; rfl)
  simpa using this

set_option maxRecDepth 100000 in
theorem law_texts (s t : ByteArray) (w : World) (hs : s.size ≤ 140737488351232) (ht : t.size ≤ 140737488351232) :
    Calls Try.prog 5 #[.string s, .string t] w fun e w' => e = .returned (.bool true) ∧ Below w.heap.size w w' := by
  have hc := fun w => code_text s w (by omega)
  have hf := fun w => ref_text s w (by omega)
  by_cases hl : 1048576 < s.size
  · rw [(txt_no hl).1, (txt_no hl).2] at hc hf
    have HC := Lib.hid hc
    have HF := Lib.hid hf
    clear hc hf
    go_enter Try.func5, Try.ntmps5
    go_wp2_with (first | (go_at_call 20; refine (HC.out _).mono ?_; rintro e w1 ⟨rfl, hb1⟩) | (go_at_call 21; refine (HF.out _).mono ?_; rintro e w2 ⟨rfl, hb2⟩) | (go_at_call 17; refine (read_any _ _).mono ?_; rintro e w3 ⟨rfl, hr3, hb3⟩) | (go_at_call 14; refine (awake_any _).mono ?_; rintro e w4 ⟨rfl, hb4⟩))
    go_ret
    exact ⟨rfl, below_next (below_next (below_next hb1 (Nat.le_refl _) hb2) (Nat.le_refl _) hb3) (Nat.le_refl _) hb4⟩
  · have e1 := (txt_ok hl).2
    rw [e1] at hc hf
    have hlen : (txtS s).size = (numL s.size).length + s.size := by rw [ba_size, txtS_list hl, List.length_append, ← ba_size]
    have hnl := numL_len s.size (by omega)
    have hsz : (txtS s).size ≤ 1048585 := by omega
    have er := txt_reads (a := txtS s ++ t) (behind := t) hl rfl
    have hsum : (txtS s ++ t).size = (txtS s).size + t.size := ByteArray.size_append
    have hleft : ((txtS s ++ t).size : Int) - (txtS s).size = t.size := by omega
    have ho : Rd.ok ⟨txtS s ++ t, 0, 0⟩ := ⟨Nat.zero_le _, by simp only [hsum]; omega⟩
    have ho2 : Rd.ok ⟨txtS s ++ t, (txtS s).size, 0⟩ := ⟨by simp only [hsum]; omega, by simp only [hsum]; omega⟩
    have HL := Lib.hid hleft
    have HC := Lib.hid hc
    have HF := Lib.hid hf
    have ER := Lib.hid er
    clear hc hf hlen er hleft hsum e1
    generalize txtS s = a at *
    go_enter Try.func5, Try.ntmps5
    go_wp2_with (first | (go_at_call 20; refine (HC.out _).mono ?_; rintro e w1 ⟨rfl, hb1⟩) | (go_at_call 21; refine (HF.out _).mono ?_; rintro e w2 ⟨rfl, hb2⟩) | (go_at_call 17; refine (read_any _ _).mono ?_; rintro e w3 ⟨rfl, hr3, hb3⟩))
    have hx := text_any _ _ s.size _ hr3 ho
    rw [ER.out] at hx
    refine hx.mono ?_
    rintro e w5 ⟨rfl, hr5, hg5⟩
    go_wp2_with fail
    have hl5 := left_any _ _ _ hr5 ho2
    simp only [HL.out] at hl5
    refine hl5.mono ?_
    rintro e w6 ⟨rfl, n6, rfl⟩
    have hr6 : Rdr (w5.drewN n6) w2.heap.size ⟨a ++ t, a.size, 0⟩ := hr5
    go_wp2_with (first | (go_at_call 24; refine (err_any _ _ _ (by assumption)).mono ?_; rintro e w1 ⟨rfl, rfl⟩) | (go_at_call 14; refine (awake_any _).mono ?_; rintro e w7 ⟨rfl, hb7⟩))
    go_ret
    have s1 := (below_next hb1 (Nat.le_refl _) hb2).size
    exact ⟨rfl, below_next (below_drewN (below_step (below_next (below_next hb1 (Nat.le_refl _) hb2) (Nat.le_refl _) hb3) (Nat.le_refl _) hg5 (by simpa using s1)) n6) (Nat.le_refl _) hb7⟩
end Go.Proofs.Ytgcghcmmcljiiaa
