/- The walks of the laws NetPlays and NetTwo. -/
import Derived.Test.YtpmjbkpooionbaaNetStep8
import Derived.Test.YtpmjbkpooionbaaNetOps
set_option linter.unusedVariables false
namespace Go.Proofs.Ytpmjbkpooionbaa
open Go.RowKit Go.Conc

theorem SP.drewN {w : World} {base b ch sent lost : Nat} {V : Value} {A : Option Addr} {L : List ByteArray} (h : SP w base b ch V A L sent lost) (n : Nat) : SP (w.drewN n) base b ch V A L sent lost :=
  ⟨⟨h.net.blk, h.net.own, h.net.chn, h.net.hb, h.net.hc⟩, h.arr, h.ap⟩
theorem SP.below {w0 w w' : World} {base b ch sent lost sent' lost' : Nat} {V V' : Value} {A A' : Option Addr} {L L' : List ByteArray} (hB : Below base w0 w) (h : SP w base b ch V A L sent lost) (hbs : base ≤ w0.heap.size) {q : Nat} (hP : SPost w w' base b ch V A q L' sent' lost' V' A') : Below base w0 w' :=
  NetAt.step hB h.net hbs hP.fr

theorem below_drewN'' {B : Nat} {a w : World} (h : Below B a w) (n : Nat) : Below B a (w.drewN n) := ⟨h.os, h.tape, h.output, h.size, h.block⟩
set_option maxHeartbeats 4000000 in
set_option maxRecDepth 100000 in
theorem law_plays (A : Option Addr) (c : Nat) (l : List NOp) (w : World) (hl : l.length * 48 ≤ 140737488351232) (hlb : ∀ x ∈ l, x.fits) (harr : Arr w w.heap.size 5 A l.length (nopCells l)) :
    Calls Try.prog 6 #[.slice A l.length c] w fun e w' => e = .returned (.bool true) ∧ Below w.heap.size w w' := by
  have HA := Lib.hid awake_any
  go_enter Try.func6, Try.ntmps6
  go_wp2_with (go_at_call 8; refine (net_new _).mono ?_; rintro e w1 ⟨rfl, hN1, hB1⟩)
  have hS1 : SP w1 w.heap.size (w.heap.size + 1) w.heap.size (.slice none 0 0) none [] 0 0 := ⟨hN1, Arr.nil _ _ _ _, fun h => absurd h (by simp)⟩
  clear hN1
  go_loopw [4, 5, 6] (fun v4 v5 v6 wr => ∃ (V : Value) (A4 : Option Addr) (c4 : Nat) (L : List ByteArray) (sent k : Nat), v4 = .slice A4 L.length c4 ∧ v5 = .int .i64 sent ∧ v6 = .int .i64 k ∧ k ≤ 80 ∧ sent ≤ k ∧ L.length ≤ k ∧ (∀ x ∈ L, x.size ≤ 200) ∧ SP wr w.heap.size (w.heap.size + 1) w.heap.size V A4 L sent 0 ∧ Below w.heap.size w wr) (fun _ _ v6 _ => 80 - (intOf v6).toNat)
  case atStart => exact ⟨_, none, 0, [], 0, 0, rfl, rfl, rfl, by omega, by omega, by simp, by simp, hS1, hB1⟩
  case round =>
    clear hS1 hB1
    obtain ⟨V, A4, c4, L, sent, k, rfl, rfl, rfl, hk, hse, hL, hm, hS, hB⟩ := hrel
    by_cases hlt : k < l.length ∧ k < 80
    · obtain ⟨hkl, h80⟩ := hlt
      obtain ⟨o, hx⟩ : ∃ x, l[k]? = some x := ⟨_, List.getElem?_eq_getElem hkl⟩
      have hfit := hlb _ (List.mem_of_getElem? hx)
      obtain ⟨ab, ao, rfl, hab, e0, e1, e2, e3, e4⟩ := nop_at harr hx
      have q0 := (hB.cell (p := ⟨ab, ao + k * 5, none⟩) hab).trans e0
      have q1 := (hB.cell (p := ⟨ab, ao + k * 5 + 1, none⟩) hab).trans e1
      have q2 := (hB.cell (p := ⟨ab, ao + k * 5 + 2, none⟩) hab).trans e2
      have q3 := (hB.cell (p := ⟨ab, ao + k * 5 + 3, none⟩) hab).trans e3
      have q4 := (hB.cell (p := ⟨ab, ao + k * 5 + 4, none⟩) hab).trans e4
      obtain ⟨ok, on, om, oy, ot⟩ := o
      obtain ⟨⟨f1, f2⟩, ⟨f3, f4⟩, ⟨f5, f6⟩, f7⟩ := hfit
      simp only at e0 q0 q1 q2 q3 q4 f1 f2 f3 f4 f5 f6 f7
      have hst := step_any _ _ _ V A4 c4 L sent 0 ok on om oy ot wr hS hB.size (by omega) f7 (by omega) hm f1 f2 f3 f4 f5 f6
      have HST := Lib.hid hst
      clear hst hx e1 e2 e3 e4
      by_cases hok : ok = 0
      · rw [if_pos hok] at HST
        subst hok
        have hbne : (((sent + 1 : Nat) : Int) != (sent : Int) + 1) = false := by simp
        go_wp2_with (first
          | (go_at_call 17; refine HST.out.mono ?_; rintro e w2 ⟨L', A', c', V', rfl, hP, hlen, hmsg⟩; have hB2 := SP.below hB hS (Nat.le_refl _) hP; have q0 := (hB2.cell (p := ⟨ab, ao + k * 5, none⟩) hab).trans e0)
          | (go_at_call 14; refine (net_counts _ _ _ _ _ _ _ _ hP.sp.net).mono ?_; rintro e w3 ⟨rfl, n3, rfl⟩)
          | (go_at_call 18; refine (stands_any _ _ _ _ _ _ _ _ _ _ (hP.sp.drewN n3).net (by omega) (hP.sp.drewN n3).arr).mono ?_; rintro e w4 ⟨rfl, rfl⟩))
        go_roundw
        case rel => exact ⟨V', A', c', L', sent + 1, k + 1, rfl, by go_num, by go_num, by omega, by omega, by omega, hmsg, hP.sp.drewN n3, below_drewN'' hB2 n3⟩
        case measure => simp [intOf]; omega
      · rw [if_neg hok] at HST
        have hk0 : (ok == 0) = false := by simp [hok]
        go_wp2_with (first
          | (go_at_call 17; refine HST.out.mono ?_; rintro e w2 ⟨L', A', c', V', rfl, hP, hlen, hmsg⟩; have hB2 := SP.below hB hS (Nat.le_refl _) hP; have q0 := (hB2.cell (p := ⟨ab, ao + k * 5, none⟩) hab).trans e0)
          | (go_at_call 14; refine (net_counts _ _ _ _ _ _ _ _ hP.sp.net).mono ?_; rintro e w3 ⟨rfl, n3, rfl⟩)
          | (go_at_call 18; refine (stands_any _ _ _ _ _ _ _ _ _ _ (hP.sp.drewN n3).net (by omega) (hP.sp.drewN n3).arr).mono ?_; rintro e w4 ⟨rfl, rfl⟩))
        go_roundw
        case rel => exact ⟨V', A', c', L', sent, k + 1, rfl, rfl, by go_num, by omega, by omega, by omega, hmsg, hP.sp.drewN n3, below_drewN'' hB2 n3⟩
        case measure => simp [intOf]; omega
    · by_cases hkl : k < l.length
      · have h80 : ¬ k < 80 := fun h => hlt ⟨hkl, h⟩
        go_wp2_with (go_at_call 13; refine (HA.out _).mono ?_; rintro e w5 ⟨rfl, hb5⟩)
        go_ret
        exact ⟨rfl, hB.trans (hb5.mono hB.size)⟩
      · go_wp2_with (go_at_call 13; refine (HA.out _).mono ?_; rintro e w5 ⟨rfl, hb5⟩)
        go_ret
        exact ⟨rfl, hB.trans (hb5.mono hB.size)⟩
end Go.Proofs.Ytpmjbkpooionbaa
