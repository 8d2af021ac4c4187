/- The walks through name, sign, Within, mode. -/
import Derived.Test.YtmcgaaihdjpdgaaGreatDoorTreeWalk1
import Derived.Lib.OthersKept
namespace Go.Proofs.YtmcgaaihdjpdgaaGreatDoor
open Go.RowKit
set_option linter.unusedVariables false

theorem mode_any (n : Int) (w : World) : Calls Tryz.prog 88 #[.int .i64 n] w fun e w' => e = .returned (.bool (decide (0 ≤ n) && decide (n ≤ 511))) ∧ w' = w := by
  by_cases h0 : 0 ≤ n
  · by_cases h1 : n ≤ 511
    · rw [decide_eq_true h0, decide_eq_true h1]
      go_enter Tryz.func88, Tryz.ntmps88
      go_wp2
      go_ret
      exact ⟨rfl, rfl⟩
    · rw [decide_eq_true h0, decide_eq_false h1]
      go_enter Tryz.func88, Tryz.ntmps88
      go_wp2
      go_ret
      exact ⟨rfl, rfl⟩
  · rw [decide_eq_false h0]
    go_enter Tryz.func88, Tryz.ntmps88
    go_wp2
    go_ret
    exact ⟨rfl, rfl⟩

/-! ### name -/
def byteOk (c : UInt8) : Bool := decide (33 ≤ c.toNat) && decide (c.toNat ≤ 126)
theorem nameOk_no {l : List UInt8} (h : l = [] ∨ l = [46] ∨ l = [46, 46] ∨ 32 < l.length) : nameOk l = false := by
  unfold nameOk
  rcases h with rfl | rfl | rfl | h
  · rfl
  · rfl
  · rfl
  · rw [decide_eq_false (by omega)]; simp
theorem nameOk_all {l : List UInt8} (h0 : l ≠ []) (h1 : l ≠ [46]) (h2 : l ≠ [46, 46]) (h3 : l.length ≤ 32) : nameOk l = l.all byteOk := by
  unfold nameOk
  rw [decide_eq_true h3]
  have e0 : (l == []) = false := by rw [beq_eq_false_iff_ne]; exact h0
  have e1 : (l == [46]) = false := by rw [beq_eq_false_iff_ne]; exact h1
  have e2 : (l == [46, 46]) = false := by rw [beq_eq_false_iff_ne]; exact h2
  rw [e0, e1, e2]
  rfl
theorem all_bad {l : List UInt8} {k : Nat} (h : k < l.length) (hb : byteOk (bt l k) = false) : l.all byteOk = false := by
  rw [List.all_eq_false]
  refine ⟨bt l k, ?_, by simp [hb]⟩
  unfold bt
  rw [List.getD_eq_getElem?_getD, List.getElem?_eq_getElem h]
  exact List.getElem_mem h
theorem all_step {l : List UInt8} {k : Nat} (h : k < l.length) (H : Hid ((l.take k).all byteOk = true)) (hb : byteOk (bt l k) = true) : Hid ((l.take (k + 1)).all byteOk = true) := by
  have := H.out
  exact Lib.hid (by rw [bt_take h, List.all_append, this]; simp [hb])
theorem bl_ne {s : ByteArray} {l : List UInt8} (h : s.data.toList ≠ l) : (s.toList == l) = false ∧ ¬ s.toList = l := by
  rw [ByteArray.toList_eq]
  exact ⟨by rw [beq_eq_false_iff_ne]; exact h, h⟩
theorem bl_mt {s : ByteArray} (h : s.data.toList ≠ []) : s.toList.isEmpty = false ∧ ¬ s.toList = [] := by
  rw [ByteArray.toList_eq]
  refine ⟨?_, h⟩
  cases hs : s.data.toList with
  | nil => exact absurd hs h
  | cons x l => rfl
theorem iter_below (w : World) (s : ByteArray) (p : Nat) : Below w.heap.size w (w.iter s p) := (Below.refl _ w).alloc (Nat.le_refl _) _

set_option maxHeartbeats 1000000 in
set_option maxRecDepth 100000 in
theorem name_any (s : ByteArray) (w : World) (hs : s.size ≤ 9223372036854775807) :
    Calls Tryz.prog 104 #[.string s] w fun e w' => e = .returned (.bool (nameOk s.data.toList)) ∧ Below w.heap.size w w' := by
  by_cases hn : s = ⟨#[]⟩ ∨ s = ⟨#[46]⟩ ∨ s = ⟨#[46, 46]⟩ ∨ 32 < s.size
  · have hr : nameOk s.data.toList = false := nameOk_no (by
      rcases hn with rfl | rfl | rfl | h
      · exact .inl rfl
      · exact .inr (.inl rfl)
      · exact .inr (.inr (.inl rfl))
      · exact .inr (.inr (.inr (by rw [← bt_size]; exact h))))
    rw [hr]
    clear hr
    rcases hn with rfl | rfl | rfl | h
    · go_enter Tryz.func104, Tryz.ntmps104
      go_wp2
      go_ret
      exact ⟨rfl, Below.refl _ _⟩
    · go_enter Tryz.func104, Tryz.ntmps104
      go_wp2
      go_ret
      exact ⟨rfl, Below.refl _ _⟩
    · go_enter Tryz.func104, Tryz.ntmps104
      go_wp2
      go_ret
      exact ⟨rfl, Below.refl _ _⟩
    · have ls := bt_size s
      obtain ⟨e0, e0'⟩ := bl_mt (s := s) (by intro he; rw [he, List.length_nil] at ls; omega)
      obtain ⟨e1, e1'⟩ := bl_ne (s := s) (l := [46]) (by intro he; rw [he] at ls; simp at ls; omega)
      obtain ⟨e2, e2'⟩ := bl_ne (s := s) (l := [46, 46]) (by intro he; rw [he] at ls; simp at ls; omega)
      clear ls
      have h' : (32 : Int) < s.size := by omega
      go_enter Tryz.func104, Tryz.ntmps104
      go_wp2
      go_ret
      exact ⟨rfl, Below.refl _ _⟩
  · have n0 : s ≠ ⟨#[]⟩ := fun h => hn (.inl h)
    have n1 : s ≠ ⟨#[46]⟩ := fun h => hn (.inr (.inl h))
    have n2 : s ≠ ⟨#[46, 46]⟩ := fun h => hn (.inr (.inr (.inl h)))
    have n3 : s.size ≤ 32 := by
      rcases Nat.lt_or_ge 32 s.size with h | h
      · exact absurd (.inr (.inr (.inr h))) hn
      · exact h
    have hr : nameOk s.data.toList = s.data.toList.all byteOk := nameOk_all (fun h => n0 (ba_ext h)) (fun h => n1 (ba_ext h)) (fun h => n2 (ba_ext h)) (by rw [← bt_size]; exact n3)
    rw [hr]
    generalize hR : s.data.toList.all byteOk = R
    have HR := Lib.hid hR
    clear hR
    obtain ⟨e0, e0'⟩ := bl_mt (s := s) (fun h => n0 (ba_ext h))
    obtain ⟨e1, e1'⟩ := bl_ne (s := s) (l := [46]) (fun h => n1 (ba_ext h))
    obtain ⟨e2, e2'⟩ := bl_ne (s := s) (l := [46, 46]) (fun h => n2 (ba_ext h))
    have h' : ¬ (32 : Int) < s.size := by omega
    clear hr hn n0 n1 n2
    go_enter Tryz.func104, Tryz.ntmps104
    go_wp2
    have ls := bt_size s
    go_loopw [4] (fun v wr => ∃ (k : Nat), k ≤ s.size ∧ Hid ((s.data.toList.take k).all byteOk = true) ∧ wr = w.iter s k) (fun _ wr => s.size - wr.iterPos w.heap.size)
    case atStart => exact ⟨0, Nat.zero_le _, by simp [Hid], rfl⟩
    case round =>
      obtain ⟨k, hk, H, rfl⟩ := hrel
      by_cases hlt : k < s.size
      · have hnx : ∀ ty, (Instr.next (.pointer (some ⟨w.heap.size, 0, none⟩)) true ty).run Tryz.prog (w.iter s k) = _ := fun ty => run_next_any w s k ty hlt
        have g := bt_get s k hlt
        by_cases hok : byteOk (bt s.data.toList k) = true
        · have hst := all_step (by omega) H hok
          have hb : 33 ≤ (bt s.data.toList k).toNat ∧ (bt s.data.toList k).toNat ≤ 126 := by simpa [byteOk] using hok
          rw [decode_ascii s k hlt (by rw [g]; omega), g] at hnx
          have c1 : ¬ ((bt s.data.toList k).toNat : Int) < 33 := by omega
          have c2 : ¬ (126 : Int) < ((bt s.data.toList k).toNat : Int) := by omega
          clear H ls
          go_wp2
          go_roundw
          case rel => exact ⟨k + 1, by omega, hst, rfl⟩
          case measure => simp; omega
        · have hbad := all_bad (k := k) (by omega) (Bool.not_eq_true _ ▸ hok)
          have HB := Lib.hid (HR.out.symm.trans hbad)
          have hc : (Utf8.decode s k).1 < 33 ∨ 126 < (Utf8.decode s k).1 := by
            by_cases ha : (s[k]'hlt).toNat < 128
            · rw [decode_ascii s k hlt ha]
              rw [g] at ha ⊢
              have : ¬ (33 ≤ (bt s.data.toList k).toNat ∧ (bt s.data.toList k).toNat ≤ 126) := by
                intro h
                exact hok (by simp [byteOk, h.1, h.2])
              show (bt s.data.toList k).toNat < 33 ∨ 126 < (bt s.data.toList k).toNat
              omega
            · have := (decode_high s k hlt (by omega)).1
              omega
          clear H ls g hbad hok
          generalize Utf8.decode s k = q at *
          obtain ⟨c, l⟩ := q
          simp only at hc hnx
          rcases hc with hc | hc
          · have hc' : (c : Int) < 33 := by omega
            go_wp2
            go_ret
            exact ⟨by rw [HB.out]; rfl, iter_below _ _ _⟩
          · have hc' : ¬ (c : Int) < 33 := by omega
            have hc2 : (126 : Int) < c := by omega
            go_wp2
            go_ret
            exact ⟨by rw [HB.out]; rfl, iter_below _ _ _⟩
      · have hnx : ∀ ty, (Instr.next (.pointer (some ⟨w.heap.size, 0, none⟩)) true ty).run Tryz.prog (w.iter s k) = _ := fun ty => run_next_end w s k ty hlt
        have hr := H.out
        rw [List.take_of_length_le (by omega)] at hr
        have HB := Lib.hid (HR.out.symm.trans hr)
        clear H ls hr
        go_wp2
        go_ret
        exact ⟨by rw [HB.out]; rfl, iter_below _ _ _⟩

/-! ### Within -/
set_option maxHeartbeats 1000000 in
set_option maxRecDepth 100000 in
theorem within_any (s i : ByteArray) (w : World) (hs : s.size ≤ 9223372036854775807) (hi : i.size ≤ 9223372036854775807) :
    Calls Tryz.prog 98 #[.string s, .string i] w fun e w' => e = .returned (.bool (within s.data.toList i.data.toList)) ∧ Below w.heap.size w w' := by
  unfold within
  rw [← bt_size, ← bt_size]
  by_cases h : i.size < s.size
  · have g := bt_get s i.size h
    have k1 : (i.size : Int) < s.size := by omega
    have k0 : 0 ≤ (i.size : Int) := by omega
    have hxl : (s.extract 0 i.size).data.toList = s.data.toList.take i.size := by rw [ByteArray.data_extract]; simp
    have hg : s.data.toList.getD i.size 0 = bt s.data.toList i.size := rfl
    rw [decide_eq_true h, hg, ← hxl]
    clear hxl hg
    by_cases he : (s.extract 0 i.size).data.toList = i.data.toList
    · have e1 : ((s.extract 0 i.size).toList == i.toList) = true := by rw [ByteArray.toList_eq, ByteArray.toList_eq, he]; simp
      have e2 : (s.extract 0 i.size).toList = i.toList := by rw [ByteArray.toList_eq, ByteArray.toList_eq, he]
      have e3 : ((s.extract 0 i.size).data.toList == i.data.toList) = true := by rw [he]; simp
      rw [e3]
      by_cases hc : bt s.data.toList i.size = 47
      · have c1 : ((bt s.data.toList i.size).toNat : Int) = 47 := by rw [hc]; rfl
        have c3 : (bt s.data.toList i.size == 47) = true := by rw [hc]; rfl
        rw [c3]
        clear he hc c3 e3
        go_enter Tryz.func98, Tryz.ntmps98
        go_wp2
        go_ret
        exact ⟨rfl, Below.refl _ _⟩
      · have c1 : (((bt s.data.toList i.size).toNat : Int) == 47) = false := ne_toNat (y := 47) hc
        have c3 : (bt s.data.toList i.size == 47) = false := by rw [beq_eq_false_iff_ne]; exact hc
        rw [c3]
        clear he hc c3 e3
        go_enter Tryz.func98, Tryz.ntmps98
        go_wp2
        go_ret
        exact ⟨rfl, Below.refl _ _⟩
    · have e1 : ((s.extract 0 i.size).toList == i.toList) = false := by rw [ByteArray.toList_eq, ByteArray.toList_eq, beq_eq_false_iff_ne]; exact he
      have e2 : ¬ (s.extract 0 i.size).toList = i.toList := by rw [ByteArray.toList_eq, ByteArray.toList_eq]; exact he
      have e3 : ((s.extract 0 i.size).data.toList == i.data.toList) = false := by rw [beq_eq_false_iff_ne]; exact he
      rw [e3]
      clear he e3
      go_enter Tryz.func98, Tryz.ntmps98
      go_wp2
      go_ret
      exact ⟨rfl, Below.refl _ _⟩
  · have k1 : ¬ (i.size : Int) < s.size := by omega
    rw [decide_eq_false h]
    go_enter Tryz.func98, Tryz.ntmps98
    go_wp2
    go_ret
    exact ⟨rfl, Below.refl _ _⟩
end Go.Proofs.YtmcgaaihdjpdgaaGreatDoor
