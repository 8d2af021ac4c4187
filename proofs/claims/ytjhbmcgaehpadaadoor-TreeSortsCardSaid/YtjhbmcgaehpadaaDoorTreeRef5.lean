/- The walks through the reference's Pattern. -/
import Derived.Test.YtjhbmcgaehpadaaDoorTreeRef4
namespace Go.Proofs.YtjhbmcgaehpadaaDoor
open Go.RowKit
set_option linter.unusedVariables false

/-- A text's bytes, turned and read as a text again: what the walk wants of it, at one world. -/
theorem plain_facts (x : ByteArray) (w : World) : ∃ (W1 : World) (C : Nat) (y : ByteArray) (L : List UInt8), (convert 9 66 (.string x)).run Tryd.prog w = .ok (.slice (some ⟨w.heap.size, 0, none⟩) x.size C) W1 ∧
    Row L w.heap.size 0 W1 ∧ Below w.heap.size w W1 ∧ x.size = L.length ∧ y.data.toList = plainL L ∧ L = x.data.toList ∧ y.size = x.size ∧
    ∀ W, Row L w.heap.size L.length W → (convert 66 9 (.slice (some ⟨w.heap.size, 0, none⟩) x.size C)).run Tryd.prog W = .ok (.string y) W := by
  obtain ⟨W1, C, hcv, hrow, hB⟩ := conv_bytes x w
  refine ⟨W1, C, ⟨(plainL x.data.toList).toArray⟩, x.data.toList, hcv, hrow, hB, bt_size x, rfl, rfl, ?_, fun W h => ?_⟩
  · rw [bt_size, bt_size]; unfold plainL; simp
  · have := conv_back x.data.toList w.heap.size C W h
    rwa [← bt_size] at this

set_option maxHeartbeats 1000000 in
set_option maxRecDepth 100000 in
theorem pattern_ref (s : ByteArray) (w : World) (hs : s.size ≤ 9223372036854775807) :
    Calls Tryd.prog 22 #[.string s] w fun e w' => e = .returned (.int .i64 (patE s.data.toList)) ∧ Below w.heap.size w w' := by
  by_cases h : 200 < s.size
  · have h' : (200 : Int) < s.size := by omega
    rw [show patE s.data.toList = 4 from if_pos (by rw [← bt_size]; exact h)]
    go_enter Tryd.func22, Tryd.ntmps22
    go_wp2
    go_ret
    exact ⟨rfl, Below.refl _ _⟩
  · have h' : ¬ (200 : Int) < s.size := by omega
    rw [patE_of s (by omega)]
    have HS := Lib.hid (names_ref s w (by omega))
    have hle := pieces_le s
    have hea := Lib.hid (pieces_each s)
    generalize pieces s = l at HS hle hea
    generalize hR : (if l.all (fun p => patNameOk p.data.toList) = true then (0 : Int) else 10) = R
    have HR := Lib.hid hR
    clear hR
    go_enter Tryd.func22, Tryd.ntmps22
    go_wp2_with (go_at_call 46; refine HS.out.mono ?_; rintro e w1 ⟨A, c, rfl, hk1, _, hb1⟩)
    have HK := Lib.hid hk1
    clear hk1
    go_loopw [4] (fun v wr => ∃ (k : Nat), k ≤ l.length ∧ v = .int .i64 k ∧ Hid ((l.take k).all (fun p => patNameOk p.data.toList) = true) ∧ Below w1.heap.size w1 wr) (fun v _ => l.length - (intOf v).toNat)
    case atStart => exact ⟨0, Nat.zero_le _, rfl, by simp [Hid], Below.refl _ _⟩
    case round =>
      obtain ⟨k, hk, rfl, H, hB⟩ := hrel
      by_cases hlt : k < l.length
      · obtain ⟨x, hx⟩ : ∃ x, l[k]? = some x := ⟨_, List.getElem?_eq_getElem hlt⟩
        obtain ⟨b, o, rfl, hb, hcell⟩ := HK.out.2 (by omega)
        have hc := (hB.cell (p := ⟨b, o + k, none⟩) hb).trans (hcell k (.string x) (by simp [hx]))
        have hxs := hea.out x (List.mem_of_getElem? hx)
        have kl : (k : Int) < l.length := by omega
        by_cases hx2 : x = ⟨#[42, 42]⟩
        · have hst := each_step (f := fun p => patNameOk p.data.toList) hx H (by subst hx2; rfl)
          subst hx2
          clear H hx hxs hcell
          go_wp2
          go_roundw
          case rel => exact ⟨k + 1, by omega, by go_num, hst, hB⟩
          case measure => simp [intOf] <;> omega
        · have hok : patNameOk x.data.toList = nameOk (plainL x.data.toList) := by
            unfold patNameOk
            rw [show (x.data.toList == [42, 42]) = false by rw [beq_eq_false_iff_ne]; exact fun h => hx2 (ba_ext h)]
            rfl
          obtain ⟨e2, e2'⟩ := bl_ne (s := x) (l := [42, 42]) (fun h => hx2 (ba_ext h))
          obtain ⟨W1, C, y, L, hcv, hrow, hBW, hxL, hyl, hL, hyx, hbk⟩ := plain_facts x wr
          rw [← hL, ← hyl] at hok
          have hn := fun W => name_ref y W (by omega)
          have hrow := Lib.hid hrow
          have hbk := Lib.hid hbk
          have HXL := Lib.hid hxL
          have HX := Lib.hid hx
          have HL := Lib.hid hL
          have hyx2 : y.size ≤ x.size := by omega
          obtain ⟨wo, hwo⟩ : ∃ wo, wo = wr := ⟨_, rfl⟩
          subst hwo
          clear hx hyl hx2 hcell hxL hL hyx
          go_wp2
          go_loopw [6] (fun v wr => ∃ (j : Nat), j ≤ x.size ∧ v = .int .i64 j ∧ Hid (Row L wo.heap.size j wr) ∧ Below wo.heap.size wo wr) (fun v _ => x.size - (intOf v).toNat)
          case atStart => exact ⟨0, Nat.zero_le _, rfl, hrow, hBW⟩
          case round =>
            obtain ⟨j, hj, rfl, H2, hB2⟩ := hrel
            by_cases hjx : j < x.size
            · have hjL : j < L.length := by have := HXL.out; omega
              have c1 := H2.out.1 j hjL
              have f1 := H2.out.2 j hjL
              rw [bt_cur L j j hjL, if_neg (Nat.lt_irrefl _)] at c1
              have i0 : 0 ≤ (j : Int) := by omega
              have i1 : (j : Int) < x.size := by omega
              by_cases hw : bt L j = 42 ∨ bt L j = 63
              · have hst := Lib.hid (H2.out.put hjL (wild_yes hw))
                clear H2
                generalize bt L j = z at *
                rcases hw with rfl | rfl
                · go_wp2
                  go_roundw
                  case rel => exact ⟨j + 1, by omega, by go_num, hst, hB2.setCell (Nat.le_refl _) _⟩
                  case measure => simp [intOf] <;> omega
                · go_wp2
                  go_roundw
                  case rel => exact ⟨j + 1, by omega, by go_num, hst, hB2.setCell (Nat.le_refl _) _⟩
                  case measure => simp [intOf] <;> omega
              · have hst := Lib.hid (H2.out.skip hjL (wild_no hw))
                clear H2
                generalize bt L j = z at *
                have y1 : ((z.toNat : Int) == 42) = false := ne_toNat (y := 42) (fun h => hw (.inl h))
                have y2 : ((z.toNat : Int) == 63) = false := ne_toNat (y := 63) (fun h => hw (.inr h))
                clear hw
                go_wp2
                go_roundw
                case rel => exact ⟨j + 1, by omega, by go_num, hst, hB2⟩
                case measure => simp [intOf] <;> omega
            · have hje : j = L.length := by have := HXL.out; omega
              have hb := hbk.out wr (by rw [← hje]; exact H2.out)
              clear H2 hje
              have hB3 := below_on hB hB2
              cases hoy : nameOk y.data.toList
              · rw [hoy] at hn hok
                have HN := Lib.hid hn
                have hb' := each_bad (f := fun p => patNameOk p.data.toList) HX.out (by rw [← HL.out]; exact hok)
                have HBb := Lib.hid (HR.out.symm.trans (if_neg (by rw [hb']; simp)))
                clear hn hok hb' H hoy
                go_wp2_with (go_at_call 47; with_reducible refine (HN.out _).mono ?_; rintro e w3 ⟨rfl, rfl⟩)
                go_ret
                exact ⟨by rw [HBb.out]; rfl, below_on hb1 hB3⟩
              · rw [hoy] at hn hok
                have HN := Lib.hid hn
                have hst := each_step (f := fun p => patNameOk p.data.toList) HX.out H (by rw [← HL.out]; exact hok)
                clear hn hok H hoy
                go_wp2_with (go_at_call 47; with_reducible refine (HN.out _).mono ?_; rintro e w3 ⟨rfl, rfl⟩)
                go_roundw
                case rel => exact ⟨k + 1, by omega, by go_num, hst, hB3⟩
                case measure => simp [intOf] <;> omega
      · have hb := each_end (by omega) H
        have HB := Lib.hid (HR.out.symm.trans (if_pos hb))
        clear H hb
        go_wp2
        go_ret
        exact ⟨by rw [HB.out]; rfl, below_on hb1 hB⟩
end Go.Proofs.YtjhbmcgaehpadaaDoor
