/- The walks through the reference's Names, name, Path. -/
import Derived.Test.YtmcgaaihdjpdgaaGreatDoorTreeWB
namespace Go.Proofs.YtmcgaaihdjpdgaaGreatDoor
open Go.RowKit
set_option linter.unusedVariables false

/-! ### Names, plain -/
def join1 (pre : List UInt8) : List (List UInt8) → List (List UInt8)
  | [] => []
  | x :: xs => (pre ++ x) :: xs
theorem join1_nil (l : List (List UInt8)) : join1 [] l = l := by cases l <;> rfl
theorem join1_join1 (p q : List UInt8) (l : List (List UInt8)) : join1 p (join1 q l) = join1 (p ++ q) l := by
  cases l
  · rfl
  · show ((p ++ (q ++ _)) :: _) = ((p ++ q ++ _) :: _)
    rw [List.append_assoc]
theorem splitL_ne47 {c : UInt8} (h : c ≠ 47) (r : List UInt8) : splitL (c :: r) = join1 [c] (splitL r) := by
  rw [splitL, if_neg h]
  have := splitL_ne r
  cases hs : splitL r with
  | nil => exact absurd hs this
  | cons x xs => rfl
theorem splitL_47 (r : List UInt8) : splitL (47 :: r) = [] :: splitL r := by rw [splitL, if_pos rfl]
/-- What is still to be told, i bytes seen, the name begun at f. -/
def restN (t : List UInt8) (f i : Nat) : List (List UInt8) := if i ≤ t.length then join1 ((t.take i).drop f) (splitL (t.drop i)) else []
section
variable {t : List UInt8} {f i : Nat}
theorem restN_start : restN t 0 0 = splitL t := by unfold restN; rw [if_pos (Nat.zero_le _)]; exact join1_nil _
theorem restN_other (h : i < t.length) (hf : f ≤ i) (hc : bt t i ≠ 47) : restN t f i = restN t f (i + 1) := by
  unfold restN
  rw [if_pos (by omega), if_pos (by omega), bt_drop h, splitL_ne47 hc, join1_join1, bt_take h, List.drop_append_of_le_length (by rw [List.length_take]; omega)]
theorem restN_slash (h : i < t.length) (hc : bt t i = 47) : restN t f i = (t.take i).drop f :: restN t (i + 1) (i + 1) := by
  have e : (t.take (i + 1)).drop (i + 1) = [] := List.drop_eq_nil_of_le (by rw [List.length_take]; omega)
  unfold restN
  rw [if_pos (by omega), if_pos (by omega), bt_drop h, hc, splitL_47, e, join1_nil, join1, List.append_nil]
theorem restN_last (h : i = t.length) : restN t f i = (t.take i).drop f :: restN t (i + 1) (i + 1) := by
  unfold restN
  rw [if_pos (by omega), if_neg (by omega), h, List.drop_length, splitL, join1, List.append_nil]
theorem restN_end (h : t.length < i) : restN t f i = [] := by unfold restN; rw [if_neg (by omega)]
end
theorem lists_inj {l m : List ByteArray} (h : lists l = lists m) : l = m := by
  induction l generalizing m with
  | nil => cases m with
    | nil => rfl
    | cons y m => cases h
  | cons x l ih => cases m with
    | nil => cases h
    | cons y m =>
      injection h with h1 h2
      rw [ba_ext h1, ih h2]
theorem extract_list (s : ByteArray) (f i : Nat) (h : i ≤ s.size) : (s.extract f i).data.toList = (s.data.toList.take i).drop f := by
  rw [ByteArray.data_extract, Array.toList_extract, List.extract_eq_take_drop, List.drop_take]
theorem lists_snoc (l : List ByteArray) (x : ByteArray) : lists (l ++ [x]) = lists l ++ [x.data.toList] := by unfold lists; simp

/-- A new list of texts. -/
def StrsOut (w : World) (l : List ByteArray) (e : Ending) (w' : World) : Prop := ∃ A c, e = .returned (.slice A l.length c) ∧ Arr w' w'.heap.size 1 A l.length (l.map Value.string) ∧ Fresh w.heap.size A ∧ Below w.heap.size w w'

set_option maxHeartbeats 1000000 in
set_option maxRecDepth 100000 in
theorem names_ref (s : ByteArray) (w : World) (hs : s.size ≤ 200) :
    Calls Tryz.prog 94 #[.string s] w (StrsOut w (pieces s)) := by
  obtain ⟨i0, hi0, hz0, hz1, hz2⟩ := info_parts infoStr
  have lt := bt_size s
  have gs := Lib.hid (bt_get s)
  have hpl : Hid (lists (pieces s) = splitL s.data.toList) := Lib.hid (pieces_list s)
  have hex := fun f i h => extract_list s f i h
  generalize pieces s = P at *
  generalize s.data.toList = t at *
  have LT := Lib.hid lt
  have HEX := Lib.hid hex
  clear lt hex
  have hst : Hid (splitL t = lists [] ++ restN t 0 0) := Lib.hid (by rw [restN_start]; rfl)
  go_enter Tryz.func94, Tryz.ntmps94
  go_wp2
  go_loopw [3, 4, 5] (fun v3 v4 v5 wr => ∃ (D : List ByteArray) (f i : Nat), f ≤ i ∧ i ≤ s.size + 1 ∧ D.length ≤ i ∧ v4 = .int .i64 f ∧ v5 = .int .i64 i ∧ wr.ownsRow w.heap.size 9 1 v3 D.length (D.map Value.string) ∧ Hid (splitL t = lists D ++ restN t f i) ∧ Below w.heap.size w wr) (fun _ _ v _ => s.size + 1 - (intOf v).toNat)
  case atStart => exact ⟨[], 0, 0, Nat.le_refl _, Nat.zero_le _, Nat.le_refl _, rfl, rfl, World.ownsRow_nil _ _ _ _, hst, Below.refl _ _⟩
  case round =>
    obtain ⟨D, f, i, hfi, hi, hD, rfl, rfl, hown, H, hB⟩ := hrel
    have hbse := hB.size
    by_cases hlt : i < s.size
    · have gi := gs.out i hlt
      have i1 : (i : Int) ≤ s.size := by omega
      have i2 : ((i : Int) == s.size) = false := by rw [beq_eq_false_iff_ne]; omega
      have i3 : (i : Int) < s.size := by omega
      by_cases hc : bt t i = 47
      · have hn : Hid (splitL t = lists (D ++ [s.extract f i]) ++ restN t (i + 1) (i + 1)) := Lib.hid (by
          rw [H.out, restN_slash (by have := LT.out; omega) hc, lists_snoc, HEX.out f i (by omega), List.append_assoc]; rfl)
        have hc1 : (((bt t i).toNat : Int) == 47) = true := by rw [hc]; rfl
        generalize bt t i = y at *
        clear H hc
        have i4 : (f : Int) ≤ i := by omega
        generalize hX : s.extract f i = X at *
        have HX := Lib.hid hX
        go_wp2_with (at_builtin; refine wpList_push rfl _ _ _ rfl Tryz.underlying47 hi0 hz0 hz1 hz2 rfl (by decide) hown rfl rfl rfl (str_one X) (by unfold maxLen; omega) (by omega) (by omega) ?_; intro g2 cap2 w1 hown1 hgr1 hat1)
        have hB3 := hB.grown hgr1 hbse (fun j hj => (hown.lt j hj).1)
        go_roundw
        case rel => exact ⟨D ++ [X], i + 1, i + 1, Nat.le_refl _, by omega, by simp; omega, by go_num, by go_num, by rw [List.length_append, List.map_append]; exact hown1, hn, hB3⟩
        case measure => simp [intOf] <;> omega
      · have hn : Hid (splitL t = lists D ++ restN t f (i + 1)) := Lib.hid (by rw [H.out, restN_other (by have := LT.out; omega) hfi hc])
        have hc1 : (((bt t i).toNat : Int) == 47) = false := ne_toNat (y := 47) hc
        generalize bt t i = y at *
        clear H hc
        go_wp2
        go_roundw
        case rel => exact ⟨D, f, i + 1, by omega, by omega, by omega, rfl, by go_num, hown, hn, hB⟩
        case measure => simp [intOf] <;> omega
    · by_cases he : i = s.size
      · have hn : Hid (splitL t = lists (D ++ [s.extract f i]) ++ restN t (i + 1) (i + 1)) := Lib.hid (by
          rw [H.out, restN_last (by have := LT.out; omega), lists_snoc, HEX.out f i (by omega), List.append_assoc]; rfl)
        have i1 : (i : Int) ≤ s.size := by omega
        have i2 : ((i : Int) == s.size) = true := by rw [beq_iff_eq]; omega
        have i4 : (f : Int) ≤ i := by omega
        have i5 : i ≤ s.size := by omega
        clear H he
        generalize hX : s.extract f i = X at *
        have HX := Lib.hid hX
        go_wp2_with (at_builtin; refine wpList_push rfl _ _ _ rfl Tryz.underlying47 hi0 hz0 hz1 hz2 rfl (by decide) hown rfl rfl rfl (str_one X) (by unfold maxLen; omega) (by omega) (by omega) ?_; intro g2 cap2 w1 hown1 hgr1 hat1)
        have hB3 := hB.grown hgr1 hbse (fun j hj => (hown.lt j hj).1)
        go_roundw
        case rel => exact ⟨D ++ [X], i + 1, i + 1, Nat.le_refl _, by omega, by simp; omega, by go_num, by go_num, by rw [List.length_append, List.map_append]; exact hown1, hn, hB3⟩
        case measure => simp [intOf] <;> omega
      · have hn : lists P = lists D := by rw [hpl.out, H.out, restN_end (by have := LT.out; omega), List.append_nil]
        have hPD := lists_inj hn
        subst hPD
        have i1 : ¬ (i : Int) ≤ s.size := by omega
        obtain ⟨A', c', rfl, hcap, ha, hfr⟩ := own_arr hown
        clear H hn
        have HA := Lib.hid ha
        have HF := Lib.hid hfr
        clear ha hfr hown
        go_wp2
        go_ret
        exact ⟨A', c', rfl, HA.out, HF.out, hB⟩

/-! ### name -/
set_option maxHeartbeats 1000000 in
set_option maxRecDepth 100000 in
theorem name_ref (s : ByteArray) (w : World) (hs : s.size ≤ 9223372036854775807) :
    Calls Tryz.prog 95 #[.string s] w fun e w' => e = .returned (.bool (nameOk s.data.toList)) ∧ w = w' := by
  by_cases hn : s = ⟨#[]⟩ ∨ s = ⟨#[46]⟩ ∨ s = ⟨#[46, 46]⟩ ∨ 32 < s.size
  · have hr : nameOk s.data.toList = false := nameOk_no (by
      rcases hn with rfl | rfl | rfl | h
      · exact .inl rfl
      · exact .inr (.inl rfl)
      · exact .inr (.inr (.inl rfl))
      · exact .inr (.inr (.inr (by rw [← bt_size]; exact h))))
    rw [hr]
    clear hr
    rcases hn with rfl | rfl | rfl | h
    · go_enter Tryz.func95, Tryz.ntmps95
      go_wp2
      go_ret
      exact ⟨rfl, rfl⟩
    · go_enter Tryz.func95, Tryz.ntmps95
      go_wp2
      go_ret
      exact ⟨rfl, rfl⟩
    · go_enter Tryz.func95, Tryz.ntmps95
      go_wp2
      go_ret
      exact ⟨rfl, rfl⟩
    · have ls := bt_size s
      obtain ⟨e0, e0'⟩ := bl_mt (s := s) (by intro he; rw [he, List.length_nil] at ls; omega)
      obtain ⟨e1, e1'⟩ := bl_ne (s := s) (l := [46]) (by intro he; rw [he] at ls; simp at ls; omega)
      obtain ⟨e2, e2'⟩ := bl_ne (s := s) (l := [46, 46]) (by intro he; rw [he] at ls; simp at ls; omega)
      clear ls
      have h' : (32 : Int) < s.size := by omega
      go_enter Tryz.func95, Tryz.ntmps95
      go_wp2
      go_ret
      exact ⟨rfl, rfl⟩
  · have n0 : s ≠ ⟨#[]⟩ := fun h => hn (.inl h)
    have n1 : s ≠ ⟨#[46]⟩ := fun h => hn (.inr (.inl h))
    have n2 : s ≠ ⟨#[46, 46]⟩ := fun h => hn (.inr (.inr (.inl h)))
    have n3 : s.size ≤ 32 := by
      rcases Nat.lt_or_ge 32 s.size with h | h
      · exact absurd (.inr (.inr (.inr h))) hn
      · exact h
    have hr : nameOk s.data.toList = s.data.toList.all byteOk := nameOk_all (fun h => n0 (ba_ext h)) (fun h => n1 (ba_ext h)) (fun h => n2 (ba_ext h)) (by rw [← bt_size]; exact n3)
    rw [hr]
    generalize hR : s.data.toList.all byteOk = R
    have HR := Lib.hid hR
    clear hR
    obtain ⟨e0, e0'⟩ := bl_mt (s := s) (fun h => n0 (ba_ext h))
    obtain ⟨e1, e1'⟩ := bl_ne (s := s) (l := [46]) (fun h => n1 (ba_ext h))
    obtain ⟨e2, e2'⟩ := bl_ne (s := s) (l := [46, 46]) (fun h => n2 (ba_ext h))
    have h' : ¬ (32 : Int) < s.size := by omega
    clear hr hn n0 n1 n2
    go_enter Tryz.func95, Tryz.ntmps95
    go_wp2
    have ls := bt_size s
    go_loop [3] (fun v => ∃ (k : Nat), k ≤ s.size ∧ v = .int .i64 k ∧ Hid ((s.data.toList.take k).all byteOk = true)) (fun v => s.size - (intOf v).toNat)
    case atStart => exact ⟨0, Nat.zero_le _, rfl, by simp [Hid]⟩
    case round =>
      obtain ⟨k, hk, rfl, H⟩ := hrel
      by_cases hlt : k < s.size
      · have g := bt_get s k hlt
        have hd : k < s.data.toList.length := by omega
        have k1 : (k : Int) < s.size := by omega
        by_cases hok : byteOk (bt s.data.toList k) = true
        · have hst := all_step hd H hok
          have hb : 33 ≤ (bt s.data.toList k).toNat ∧ (bt s.data.toList k).toNat ≤ 126 := by simpa [byteOk] using hok
          generalize bt s.data.toList k = y at *
          have c1 : ¬ (y.toNat : Int) < 33 := by omega
          have c2 : ¬ (126 : Int) < (y.toNat : Int) := by omega
          clear H ls hd
          go_wp2
          go_round
          case rel => exact ⟨k + 1, by omega, by go_num, hst⟩
          case measure => simp [intOf] <;> omega
        · have hbad := all_bad hd (Bool.not_eq_true _ ▸ hok)
          have HB := Lib.hid (HR.out.symm.trans hbad)
          have hc : (bt s.data.toList k).toNat < 33 ∨ 126 < (bt s.data.toList k).toNat := by
            have : ¬ (33 ≤ (bt s.data.toList k).toNat ∧ (bt s.data.toList k).toNat ≤ 126) := by
              intro h
              exact hok (by simp [byteOk, h.1, h.2])
            omega
          clear H ls hbad hok hd
          generalize bt s.data.toList k = y at *
          rcases hc with hc | hc
          · have hc' : (y.toNat : Int) < 33 := by omega
            go_wp2
            go_ret
            exact ⟨by rw [HB.out]; rfl, rfl⟩
          · have hc' : ¬ (y.toNat : Int) < 33 := by omega
            have hc2 : (126 : Int) < y.toNat := by omega
            go_wp2
            go_ret
            exact ⟨by rw [HB.out]; rfl, rfl⟩
      · have hr := H.out
        rw [List.take_of_length_le (by omega)] at hr
        have HB := Lib.hid (HR.out.symm.trans hr)
        clear H ls hr
        go_wp2
        go_ret
        exact ⟨by rw [HB.out]; rfl, rfl⟩

/-! ### Path -/
set_option maxHeartbeats 1000000 in
set_option maxRecDepth 100000 in
theorem path_ref (s : ByteArray) (w : World) (hs : s.size ≤ 9223372036854775807) :
    Calls Tryz.prog 79 #[.string s] w fun e w' => e = .returned (.int .i64 (pathE s.data.toList)) ∧ Below w.heap.size w w' := by
  by_cases h : 200 < s.size
  · have h' : (200 : Int) < s.size := by omega
    rw [show pathE s.data.toList = 4 from if_pos (by rw [← bt_size]; exact h)]
    go_enter Tryz.func79, Tryz.ntmps79
    go_wp2
    go_ret
    exact ⟨rfl, Below.refl _ _⟩
  · have h' : ¬ (200 : Int) < s.size := by omega
    rw [pathE_of s (by omega)]
    have HS := Lib.hid (names_ref s w (by omega))
    have hle := pieces_le s
    have hea := Lib.hid (pieces_each s)
    generalize pieces s = l at HS hle hea
    generalize hR : (if l.all (fun p => nameOk p.data.toList) = true then (0 : Int) else 10) = R
    have HR := Lib.hid hR
    clear hR
    go_enter Tryz.func79, Tryz.ntmps79
    go_wp2_with (go_at_call 94; refine HS.out.mono ?_; rintro e w1 ⟨A, c, rfl, hk1, _, hb1⟩)
    have HK := Lib.hid hk1
    clear hk1
    go_loop [4] (fun v => ∃ (k : Nat), k ≤ l.length ∧ v = .int .i64 k ∧ Hid ((l.take k).all (fun p => nameOk p.data.toList) = true)) (fun v => l.length - (intOf v).toNat)
    case atStart => exact ⟨0, Nat.zero_le _, rfl, by simp [Hid]⟩
    case round =>
      obtain ⟨k, hk, rfl, H⟩ := hrel
      by_cases hlt : k < l.length
      · obtain ⟨x, hx⟩ : ∃ x, l[k]? = some x := ⟨_, List.getElem?_eq_getElem hlt⟩
        obtain ⟨b, o, rfl, hb, hcell⟩ := HK.out.2 (by omega)
        have hc := hcell k (.string x) (by simp [hx])
        have hxs := hea.out x (List.mem_of_getElem? hx)
        have hn := fun W => name_ref x W (by omega)
        have HX := Lib.hid hx
        clear hx hcell
        cases hok : nameOk x.data.toList
        · rw [hok] at hn
          have HN := Lib.hid hn
          have hb := each_bad (f := fun p => nameOk p.data.toList) HX.out hok
          have HB := Lib.hid (HR.out.symm.trans (if_neg (by rw [hb]; simp)))
          clear hn hok hb H
          go_wp2_with (go_at_call 95; refine (HN.out _).mono ?_; rintro e w2 ⟨rfl, rfl⟩)
          go_ret
          exact ⟨by rw [HB.out]; rfl, hb1⟩
        · rw [hok] at hn
          have HN := Lib.hid hn
          have hst := each_step (f := fun p => nameOk p.data.toList) HX.out H hok
          clear hn hok H
          go_wp2_with (go_at_call 95; refine (HN.out _).mono ?_; rintro e w2 ⟨rfl, rfl⟩)
          go_round
          case rel => exact ⟨k + 1, by omega, by go_num, hst⟩
          case measure => simp [intOf] <;> omega
      · have hb := each_end (by omega) H
        have HB := Lib.hid (HR.out.symm.trans (if_pos hb))
        clear H hb
        go_wp2
        go_ret
        exact ⟨by rw [HB.out]; rfl, hb1⟩
end Go.Proofs.YtmcgaaihdjpdgaaGreatDoor
