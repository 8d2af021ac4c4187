/- Chapter 2 (frames): the walks through Scan, All.; Chapter 2 (frames): the walk through All. -/
import Derived.Test.YtmcgaaihdjpdgaaDoorFrmB
import Derived.Test.YtmcgaaihdjpdgaaDoorBuilder
/- Chapter 2 (frames): the walks through Scan, All. -/
namespace Go.Proofs.YtmcgaaihdjpdgaaDoor
open Go.RowKit
set_option linter.unusedVariables false

theorem infoStrF : (Tryd.prog.info? 9).map (fun i => (i.zero, i.size, i.bytes)) = some (some (.string ⟨#[]⟩), 1, 16) := by kernel_rfl
def ScanOut (w : World) (l : List ByteArray) (e : Ending) (w' : World) : Prop := ∃ V a b, e = .returned (.tuple #[V, .int .i64 a, .int .i64 b]) ∧ w'.ownsRow w.heap.size 9 1 V l.length (l.map Value.string) ∧ Below w.heap.size w w'
set_option maxHeartbeats 2000000 in
set_option maxRecDepth 100000 in
theorem scan_any (s : ByteArray) (w : World) (hs : s.size ≤ 1000000000) : Calls Tryd.prog 50 #[.string s] w (ScanOut w (scanB s 0)) := by
  obtain ⟨i2, fi0, fz0, fz1, fz2⟩ := info_parts infoStrF
  have HO := Lib.hid (fun i W => one_any (s.extract i s.size) W (by rw [ByteArray.size_extract]; omega))
  go_enter Tryd.func50, Tryd.ntmps50
  go_wp2
  go_loopw [5, 6, 7] (fun vo va vl wr => ∃ (i k : Nat) (l : List ByteArray), i ≤ s.size ∧ k ≤ i ∧ l.length ≤ i ∧ va = .int .i64 i ∧ vl = .int .i64 k ∧ wr.ownsRow w.heap.size 9 1 vo l.length (l.map Value.string) ∧ Hid (l ++ scanB s i = scanB s 0) ∧ Below w.heap.size w wr) (fun _ va _ _ => s.size - (intOf va).toNat)
  case atStart => exact ⟨0, 0, [], Nat.zero_le _, Nat.le_refl _, Nat.le_refl _, rfl, rfl, World.ownsRow_nil _ _ _ _, Lib.hid rfl, Below.refl _ _⟩
  case round =>
    obtain ⟨i, k, l, hi, hk, hl, rfl, rfl, hown, HS, hB⟩ := hrel
    by_cases hlt : i < s.size
    · have i1 : (i : Int) < s.size := by omega
      have i2' : (i : Int) ≤ s.size := by omega
      obtain ⟨x, hx⟩ : ∃ x, s.extract i s.size = x := ⟨_, rfl⟩
      have hxs : x.size = s.size - i := by rw [← hx, ByteArray.size_extract]; omega
      have HO1 := Lib.hid (fun W => HO.out i W)
      rw [hx] at HO1
      rcases oneE_cases x with h | h | h
      · rw [oneV_ok h] at HO1
        have hf := one_fits h
        have hst := HS.out
        rw [scan_ok hlt (by rw [hx]; exact h), hx] at hst
        have hst2 : Hid ((l ++ [oneP x]) ++ scanB s (i + oneN x) = scanB s 0) := Lib.hid (by rw [List.append_assoc]; exact hst)
        have hn10 : 10 ≤ oneN x := by unfold oneN; omega
        generalize oneN x = N at *
        generalize oneP x = P at *
        clear HS hst h
        have HW := Lib.hid hown
        have HBB := Lib.hid hB
        clear hown hB
        go_wp2_with (first
          | (go_at_call 73; (with_reducible refine (HO1.out _).mono ?_); rintro e w2 ⟨rfl, hb2⟩; have hown2 := own_below HW.out hb2; have hB2 := below_on HBB.out hb2; have hs2 := hB2.size)
          | (at_builtin; refine wpList_push rfl _ _ _ rfl Tryd.underlying60 fi0 fz0 fz1 fz2 rfl (by decide) hown2 rfl rfl rfl (by simp [Value.oneCell']) (by unfold maxLen; omega) (by omega) hs2 ?_; intro g6 cap6 w6 hown6 hgr6 hat6)
          | fail)
        go_roundw
        case rel => exact ⟨i + N, k, l ++ [P], by omega, by omega, by simp; omega, by go_num, rfl, by rw [List.length_append, List.map_append]; exact hown6, hst2, hB2.grown hgr6 hs2 (fun j hj => (hown2.lt j hj).1)⟩
        case measure => simp [intOf] <;> omega
      · rw [oneV_bad h (by decide)] at HO1
        have hst := HS.out
        rw [scan_short hlt (by rw [hx]; exact h), List.append_nil] at hst
        have HST := Lib.hid hst
        clear HS hst h
        go_wp2_with (go_at_call 73; (with_reducible refine (HO1.out _).mono ?_); rintro e w2 ⟨rfl, hb2⟩; have hown2 := own_below hown hb2; have hB2 := below_on hB hb2)
        go_ret3
        unfold ScanOut
        rw [← HST.out]
        exact ⟨_, _, _, rfl, hown2, hB2⟩
      · have h3 : oneE x ≠ 3 := by rcases h with h | h | h <;> rw [h] <;> decide
        have h0 : oneE x ≠ 0 := by rcases h with h | h | h <;> rw [h] <;> decide
        rw [oneV_bad rfl h0] at HO1
        have hst := HS.out
        rw [scan_on hlt (by rw [hx]; exact h0) (by rw [hx]; exact h3)] at hst
        have HST := Lib.hid hst
        generalize oneE x = E at *
        have q1 : (E == 0) = false := by rw [beq_eq_false_iff_ne]; exact h0
        have q2 : (E == 3) = false := by rw [beq_eq_false_iff_ne]; exact h3
        clear HS hst h
        go_wp2_with (go_at_call 73; (with_reducible refine (HO1.out _).mono ?_); rintro e w2 ⟨rfl, hb2⟩; have hown2 := own_below hown hb2; have hB2 := below_on hB hb2)
        go_roundw
        case rel => exact ⟨i + 1, k + 1, l, by omega, by omega, by omega, by go_num, by go_num, hown2, HST, hB2⟩
        case measure => simp [intOf] <;> omega
    · have hie : i = s.size := by omega
      subst hie
      have hst := HS.out
      rw [scan_end (by omega), List.append_nil] at hst
      have HST := Lib.hid hst
      clear HS hst
      go_wp2
      go_ret3
      unfold ScanOut
      rw [← HST.out]
      exact ⟨_, _, _, rfl, hown, hB⟩
end Go.Proofs.YtmcgaaihdjpdgaaDoor
/- Chapter 2 (frames): the walk through All. -/
namespace Go.Proofs.YtmcgaaihdjpdgaaDoor
open Go.RowKit
set_option linter.unusedVariables false

set_option maxHeartbeats 1000000 in
set_option maxRecDepth 100000 in
theorem string_zero (b : Nat) (v : Value) (w : World) (h : Blk w b 113 #[.pointer none, .slice none 0 0]) :
    Calls Tryd.prog 64 #[.pointer (some ⟨b, 0, none⟩)] w fun e w' => e = .returned (.string ⟨#[]⟩) ∧ Below w.heap.size w w' := by
  have c1 : w.drew.cell? ⟨b, 1, none⟩ = some (.slice none 0 0) := h.cell 1
  have hSD : (Builtin.unsafeSliceData_ #[33] 124 #[.slice none 0 0]).run Tryd.prog w.drew = .ok (.pointer none) w.drew := Lib.run_unsafeSliceData_nil _ _ _ _ _
  have hUS : (Builtin.unsafeString_ #[124, 3] 9 #[.pointer none, .int .i64 0]).run Tryd.prog w.drew = .ok (.string ⟨#[]⟩) w.drew := Lib.run_unsafeString_none _ _ _ _ _
  have hB : Below w.heap.size w w.drew := Below.drew (Below.refl _ _)
  go_enter Tryd.func64, Tryd.ntmps64
  go_wp2
  go_region
  all_goals (go_wp2; go_ret; exact ⟨rfl, hB⟩)
/-- The text of frames. -/
def framesB (l : List ByteArray) : ByteArray := ⟨(framesL l).toArray⟩
theorem framesL_take {l : List ByteArray} {k : Nat} {p : ByteArray} (h : l[k]? = some p) : framesL (l.take (k + 1)) = framesL (l.take k) ++ (frameB p).data.toList := by
  rw [take_snoc h, frameB_list]
  unfold framesL
  simp
theorem framesL_len (l : List ByteArray) (h : ∀ p ∈ l, p.size ≤ 65536) : (framesL l).length ≤ l.length * 65546 := by
  induction l with
  | nil => simp [framesL]
  | cons p l ih =>
    have h1 := ih (fun q hq => h q (by simp [hq]))
    have h2 := h p (by simp)
    unfold framesL at h1 ⊢
    rw [List.map_cons, List.flatten_cons, List.length_append, frameL_len, List.length_cons, ← bt_size]
    omega
theorem strs_cell {l : List ByteArray} {k : Nat} {p : ByteArray} (h : l[k]? = some p) : (l.map Value.string)[k * 1]? = some (.string p) := by rw [Nat.mul_one, List.getElem?_map, h]; rfl
set_option maxHeartbeats 2000000 in
set_option maxRecDepth 100000 in
theorem all_any (A : Option Addr) (c : Nat) (l : List ByteArray) (w : World) (hl : l.length ≤ 100000) (hx : ∀ p ∈ l, p.size ≤ 65536) (ha : Arr w w.heap.size 1 A l.length (l.map Value.string)) :
    Calls Tryd.prog 51 #[.slice A l.length c] w fun e w' => e = .returned (.tuple #[.string (framesB l), .int .i64 0]) ∧ Below w.heap.size w w' := by
  have HA := Lib.hid ha
  have HX := Lib.hid hx
  have HL := Lib.hid (framesL_len l hx)
  have hnew := Bld.new w 113 5
  have hBA : Below w.heap.size w (w.alloc (.cells #[.pointer none, .slice none 0 0] 113)) := (Below.refl _ w).alloc (Nat.le_refl _) _
  have hz : (w.alloc (.cells #[.pointer none, .slice none 0 0] 113)).heap.size = w.heap.size + 1 := by simp
  clear ha hx
  by_cases he : l = []
  · subst he
    have HZ := Lib.hid (string_zero w.heap.size (.slice none 0 0) (w.alloc (.cells #[.pointer none, .slice none 0 0] 113)) (Blk.new w _ _))
    clear HA HX HL hnew
    go_enter Tryd.func51, Tryd.ntmps51
    go_wp2
    go_loopw [11] (fun vi wr => vi = .int .i64 0 ∧ w.alloc (.cells #[.pointer none, .slice none 0 0] 113) = wr) (fun _ _ => 0)
    case atStart => exact ⟨rfl, rfl⟩
    case round =>
      obtain ⟨rfl, rfl⟩ := hrel
      go_wp2_with (go_at_call 64; (with_reducible refine (HZ.out).mono ?_); rintro e w3 ⟨rfl, hb3⟩)
      go_ret2
      exact ⟨rfl, below_on hBA hb3⟩
  · have hlen : 0 < l.length := List.length_pos_iff.2 he
    go_enter Tryd.func51, Tryd.ntmps51
    go_wp2
    generalize w.alloc (.cells #[.pointer none, .slice none 0 0] 113) = w1 at *
    go_loopw [11] (fun vi wr => ∃ (i : Nat) (v : Value), i ≤ l.length ∧ vi = .int .i64 i ∧ Hid (Bld 113 5 wr w.heap.size v (framesL (l.take i))) ∧ w1.heap.size ≤ wr.heap.size ∧ Below w.heap.size w1 wr) (fun vi _ => l.length - (intOf vi).toNat)
    case atStart => exact ⟨0, _, Nat.zero_le _, rfl, Lib.hid hnew, Nat.le_refl _, Below.refl _ _⟩
    case round =>
      obtain ⟨i, v, hi, rfl, HB, hzz, hB⟩ := hrel
      have hBB : Below w.heap.size w wr := hBA.trans hB
      by_cases hlt : i < l.length
      · obtain ⟨p, hp⟩ : ∃ p, l[i]? = some p := ⟨_, List.getElem?_eq_getElem hlt⟩
        obtain ⟨bA, oA, rfl, hbA, hcell⟩ := HA.out.2 (by omega)
        have c0 := (hBB.cell (p := ⟨bA, oA + i * 1, none⟩) hbA).trans (hcell (i * 1) _ (strs_cell hp))
        rw [Nat.mul_one] at c0
        have i1 : (i : Int) < l.length := by omega
        have hpz := HX.out p (List.mem_of_getElem? hp)
        have HF := Lib.hid (fun W => frame_any p W hpz)
        have hst := framesL_take hp
        have hfz : (frameB p).size = 10 + p.size := by rw [bt_size, frameB_list, frameL_len, ← bt_size]
        have hle : (framesL (l.take i)).length ≤ l.length * 65546 := by
          have h1 := HL.out
          have h2 : l = l.take i ++ l.drop i := (List.take_append_drop i l).symm
          have h3 : (framesL l).length = (framesL (l.take i)).length + (framesL (l.drop i)).length := by
            conv => lhs; rw [h2]
            unfold framesL
            rw [List.map_append, List.flatten_append, List.length_append]
          omega
        have HST := Lib.hid hst
        have HBW := Lib.hid hB
        have HBW2 := Lib.hid hBB
        clear hp hcell hst hB hBB
        generalize frameB p = Q at *
        generalize framesL (l.take i) = T at *
        go_wp2_with (first
          | (go_at_call 74; (with_reducible refine (HF.out _).mono ?_); rintro e w2 ⟨rfl, hb2⟩; have HB2 := Lib.hid (HB.out.fr (S := fun _ => False) (Fr.of_below hb2 _) (fun h => h) (fun _ _ h => h)); have hs2 := hb2.size)
          | (go_at_call 62; (with_reducible refine (writeString_any _ _ _ _ _ HB2.out (by omega)).mono ?_); rintro e w3 ⟨v3, rfl, hB3, hf3⟩; have HB3 := Lib.hid hB3; have hs3 := hf3.size; clear hB3)
          | fail)
        go_roundw
        case rel => exact ⟨i + 1, v3, by omega, by go_num, by rw [HST.out]; exact HB3, by omega, (HBW.out.trans (hb2.mono (by omega))).trans (FrB.below hf3 (by omega))⟩
        case measure => simp [intOf] <;> omega
      · have hie : i = l.length := by omega
        subst hie
        have HB2 := HB.out
        rw [List.take_length] at HB2
        have HB3 := Lib.hid HB2
        have hne : framesL l ≠ [] := by
          intro e
          cases l with
          | nil => exact he rfl
          | cons p l =>
            have := congrArg List.length e
            unfold framesL at this
            rw [List.map_cons, List.flatten_cons, List.length_append, frameL_len] at this
            simp at this
        have HNE := Lib.hid hne
        clear HB HB2 hne
        go_wp2_with (go_at_call 64; (with_reducible refine (string_any _ _ _ _ HB3.out HNE.out).mono ?_); rintro e w3 ⟨rfl, hf3⟩)
        go_ret2
        exact ⟨rfl, hBB.trans (FrB.below hf3 (by omega))⟩
end Go.Proofs.YtmcgaaihdjpdgaaDoor
