/- Chapter 22: what was acked ahead of each event. -/
import Derived.Test.YtakdngcgjahafaaDoorSp32
namespace Go.Proofs.YtakdngcgjahafaaDoor
open Go.RowKit
set_option linter.unusedVariables false

def AckOut (w : World) (l : List EvD) (e : Ending) (w' : World) : Prop := ∃ U, e = .returned U ∧ w'.ownsRow w.heap.size 3 1 U l.length (l.map fun x => Value.int .i64 (ackP l x.asked (-1))) ∧ Below w.heap.size w w'
def AckR (w : World) (l : List EvD) (vo v : Value) (wr : World) : Prop := ∃ k : Nat, k ≤ l.length ∧ v = .int .i64 k ∧ Hid (wr.ownsRow w.heap.size 3 1 vo k ((l.take k).map fun x => Value.int .i64 (ackP l x.asked (-1)))) ∧ Below w.heap.size w wr
def AckI (wr : World) (l : List EvD) (a R : Int) (vb v : Value) (wi : World) : Prop := ∃ (j : Nat) (best : Int), j ≤ l.length ∧ v = .int .i64 j ∧ vb = .int .i64 best ∧ Hid (ackP (l.drop j) a best = R) ∧ Below wr.heap.size wr wi
set_option maxHeartbeats 8000000 in
set_option maxRecDepth 100000 in
theorem acked_any (A : Option Addr) (c : Nat) (l : List EvD) (w : World) (hl : l.length ≤ 1048576) (ha : Arr w w.heap.size 10 A l.length (ecells l)) :
    Calls Tryd.prog 29 #[.slice A l.length c] w (AckOut w l) := by
  obtain ⟨i0, hi0, hz0, hz1, hz2⟩ := info_parts infoI
  have HA := Lib.hid ha
  clear ha
  go_enter Tryd.func29, Tryd.ntmps29
  go_wp2
  go_loopw [3, 11] (fun vo v wr => AckR w l vo v wr) (fun _ v _ => l.length - (intOf v).toNat)
  case atStart => unfold AckR; exact ⟨0, Nat.zero_le _, rfl, Lib.hid (World.ownsRow_nil _ _ _ _), Below.refl _ _⟩
  case round =>
    unfold AckR at hrel
    obtain ⟨k, hk, rfl, HO, hB⟩ := hrel
    by_cases hlt : k < l.length
    · obtain ⟨e, he⟩ : ∃ e, l[k]? = some e := ⟨_, List.getElem?_eq_getElem hlt⟩
      have kl : (k : Int) < l.length := by omega
      obtain ⟨b1, o1, rfl, hb1, hcell⟩ := HA.out.2 (by omega)
      obtain ⟨c0, c1, c2, c3, c4, c5, c6, c7, c8, c9⟩ := ev_cells (fun i u h => (hB.cell (p := ⟨b1, o1 + i, none⟩) hb1).trans (hcell i u h)) he
      have HEB := Lib.hid (Blk.new wr 54 #[Value.int .i64 e.asked, .int .i64 e.told, .int .i64 e.kind, .int .i64 e.gen, .slice e.fA e.files.length e.fC, .int .i64 e.err, .int .i64 e.agen, .int .i64 e.floor, .slice e.aA e.afiles.length e.aC, .slice e.mA e.mN e.mC])
      have hb2 : Below w.heap.size w (wr.alloc (.cells #[Value.int .i64 e.asked, .int .i64 e.told, .int .i64 e.kind, .int .i64 e.gen, .slice e.fA e.files.length e.fC, .int .i64 e.err, .int .i64 e.agen, .int .i64 e.floor, .slice e.aA e.afiles.length e.aC, .slice e.mA e.mN e.mC] 54)) := hB.alloc hB.size _
      have HB2 := Lib.hid hb2
      have HCL := Lib.hid hcell
      have HTK : Hid ((l.take (k + 1)).map (fun x => Value.int .i64 (ackP l x.asked (-1))) = ((l.take k).map fun x => Value.int .i64 (ackP l x.asked (-1))) ++ [Value.int .i64 (ackP l e.asked (-1))]) := Lib.hid (by rw [List.take_add_one, he, Option.toList_some, List.map_append]; rfl)
      have HOA := Lib.hid (HO.out.alloc (.cells #[Value.int .i64 e.asked, .int .i64 e.told, .int .i64 e.kind, .int .i64 e.gen, .slice e.fA e.files.length e.fC, .int .i64 e.err, .int .i64 e.agen, .int .i64 e.floor, .slice e.aA e.afiles.length e.aC, .slice e.mA e.mN e.mC] 54))
      clear hcell he hB
      obtain ⟨R, hR⟩ : ∃ R, R = ackP l e.asked (-1) := ⟨_, rfl⟩
      have HR : Hid (ackP (l.drop 0) e.asked (-1) = R) := Lib.hid (by rw [hR]; rfl)
      have HRR := Lib.hid hR
      clear hR
      go_wp2
      clear c0 c1 c2 c3 c4 c5 c6 c7 c8 c9
      generalize hg9 : wr.heap.size = g9 at *
      have HG9 := Lib.hid hg9
      generalize wr.alloc (.cells #[Value.int .i64 e.asked, .int .i64 e.told, .int .i64 e.kind, .int .i64 e.gen, .slice e.fA e.files.length e.fC, .int .i64 e.err, .int .i64 e.agen, .int .i64 e.floor, .slice e.aA e.afiles.length e.aC, .slice e.mA e.mN e.mC] 54) = w1 at *
      clear hg9
      go_loopw [6, 17] (fun vb v wi => AckI w1 l e.asked R vb v wi) (fun _ v _ => l.length - (intOf v).toNat)
      case atStart => unfold AckI; exact ⟨0, -1, Nat.zero_le _, rfl, rfl, HR, Below.refl _ _⟩
      case round =>
        unfold AckI at hrel
        obtain ⟨j, best, hj, rfl, rfl, HK, hBi⟩ := hrel
        by_cases hjl : j < l.length
        · obtain ⟨y, hy⟩ : ∃ y, l[j]? = some y := ⟨_, List.getElem?_eq_getElem hjl⟩
          have jl : (j : Int) < l.length := by omega
          obtain ⟨c0, c1, c2, c3, c4, c5, c6, c7, c8, c9⟩ := ev_cells (fun i u h => ((HB2.out.trans (hBi.mono HB2.out.size)).cell (p := ⟨b1, o1 + i, none⟩) hb1).trans (HCL.out i u h)) hy
          have hlt9 := HEB.out.lt
          have heb9 := HEB.out.below hBi hlt9
          have p0 := heb9.cell 0
          have p1 := (heb9.alloc (.cells #[Value.int .i64 y.asked, .int .i64 y.told, .int .i64 y.kind, .int .i64 y.gen, .slice y.fA y.files.length y.fC, .int .i64 y.err, .int .i64 y.agen, .int .i64 y.floor, .slice y.aA y.afiles.length y.aC, .slice y.mA y.mN y.mC] 54)).cell 0
          have hB2 : Below w1.heap.size w1 (wr.alloc (.cells #[Value.int .i64 y.asked, .int .i64 y.told, .int .i64 y.kind, .int .i64 y.gen, .slice y.fA y.files.length y.fC, .int .i64 y.err, .int .i64 y.agen, .int .i64 y.floor, .slice y.aA y.afiles.length y.aC, .slice y.mA y.mN y.mC] 54)) := hBi.alloc hBi.size _
          have H := HK.out
          rw [drop_head hy, ackP] at H
          clear hy HK heb9
          by_cases g1 : y.kind = 1
          · have h1 : (y.kind == 1) = true := by rw [g1]; rfl
            by_cases g2 : 0 < y.told
            · by_cases g3 : y.told < e.asked
              · by_cases g4 : y.err = 0
                · have h4 : (y.err == 0) = true := by rw [g4]; rfl
                  by_cases g5 : best < y.agen
                  · have HST := Lib.hid (show ackP (l.drop (j + 1)) e.asked (max best y.agen) = R by rw [← H, if_pos ⟨g1, g2, g3, g4, g5⟩, Int.max_eq_right (by omega)])
                    clear H g1 g4
                    go_wp2
                    (go_roundw; (case rel => unfold AckI; exact ⟨j + 1, _, by omega, by go_num, rfl, HST, hB2⟩); (case measure => simp [intOf] <;> omega))
                  · have HST := Lib.hid (show ackP (l.drop (j + 1)) e.asked (max best y.agen) = R by (rw [← H, if_neg, Int.max_eq_left (by omega)]; (rintro ⟨q1, q2, q3, q4, q5⟩; omega)))
                    clear H g1 g4
                    go_wp2
                    (go_roundw; (case rel => unfold AckI; exact ⟨j + 1, _, by omega, by go_num, rfl, HST, hB2⟩); (case measure => simp [intOf] <;> omega))
                · have h4 : (y.err == 0) = false := by rw [beq_eq_false_iff_ne]; exact g4
                  (have HST := Lib.hid (show ackP (l.drop (j + 1)) e.asked best = R by (rw [← H, if_neg]; (rintro ⟨q1, q2, q3, q4, q5⟩; omega))); clear H; (try clear g1); (try clear g4); go_wp2; (go_roundw; (case rel => unfold AckI; exact ⟨j + 1, _, by omega, by go_num, rfl, HST, hB2⟩); (case measure => simp [intOf] <;> omega)))
              · (have HST := Lib.hid (show ackP (l.drop (j + 1)) e.asked best = R by (rw [← H, if_neg]; (rintro ⟨q1, q2, q3, q4, q5⟩; omega))); clear H; (try clear g1); (try clear g4); go_wp2; (go_roundw; (case rel => unfold AckI; exact ⟨j + 1, _, by omega, by go_num, rfl, HST, hB2⟩); (case measure => simp [intOf] <;> omega)))
            · (have HST := Lib.hid (show ackP (l.drop (j + 1)) e.asked best = R by (rw [← H, if_neg]; (rintro ⟨q1, q2, q3, q4, q5⟩; omega))); clear H; (try clear g1); (try clear g4); go_wp2; (go_roundw; (case rel => unfold AckI; exact ⟨j + 1, _, by omega, by go_num, rfl, HST, hB2⟩); (case measure => simp [intOf] <;> omega)))
          · have h1 : (y.kind == 1) = false := by rw [beq_eq_false_iff_ne]; exact g1
            (have HST := Lib.hid (show ackP (l.drop (j + 1)) e.asked best = R by (rw [← H, if_neg]; (rintro ⟨q1, q2, q3, q4, q5⟩; omega))); clear H; (try clear g1); (try clear g4); go_wp2; (go_roundw; (case rel => unfold AckI; exact ⟨j + 1, _, by omega, by go_num, rfl, HST, hB2⟩); (case measure => simp [intOf] <;> omega)))
        · have H := HK.out
          rw [List.drop_eq_nil_of_le (by omega : l.length ≤ j)] at H
          have HST := Lib.hid (show best = R by rw [← H]; rfl)
          clear H HK
          have jl : ¬ (j : Int) < l.length := by omega
          have HBI := Lib.hid hBi
          have hbo := HB2.out.size
          have hbs := hBi.size
          go_wp2_with (at_builtin; (have hown := own_below HOA.out HBI.out); refine wpList_push rfl _ _ _ rfl Tryd.underlying45 hi0 hz0 hz1 hz2 rfl (by decide) hown rfl rfl rfl (by intro u hu; simp at hu; subst hu; rfl) (by unfold maxLen; omega) (by omega) (by omega) ?_; intro g7 cap7 w7 hown7 hgr7 hat7; have HW7 := Lib.hid hown7; have hB7 := (HB2.out.trans (HBI.out.mono HB2.out.size)).grown hgr7 (by omega) (fun j hj => (hown.lt j hj).1); clear hown7)
          go_roundw
          case rel => unfold AckR; exact ⟨k + 1, by omega, by go_num, Lib.hid (by rw [HTK.out, ← HRR.out, ← HST.out]; exact HW7.out), hB7⟩
          case measure => simp [intOf] <;> omega
    · have H := HO.out
      have hkl : k = l.length := by omega
      rw [hkl, List.take_length] at H
      have kl : ¬ (k : Int) < l.length := by omega
      have HH := Lib.hid H
      clear H hkl
      go_wp2
      go_ret
      exact ⟨_, rfl, HH.out, hB⟩
end Go.Proofs.YtakdngcgjahafaaDoor
