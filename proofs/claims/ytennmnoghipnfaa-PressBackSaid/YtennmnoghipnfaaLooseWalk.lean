/- The walks through copied, wrong and Loose. -/
import Derived.Test.YtennmnoghipnfaaLooseBase
namespace Go.Proofs.Ytennmnoghipnfaa
open Go.RowKit
set_option linter.unusedVariables false

set_option maxRecDepth 100000 in
theorem wrong_any (b : Nat) (r : Rd) (w : World) (h : Rdr w b r) :
    Calls Try.prog 33 #[.pointer (some ⟨b, 0, none⟩)] w fun e w' => e = .returned (.int .i64 (if r.e = 0 then 5 else r.e)) ∧ w = w' := by
  by_cases h0 : r.e = 0
  · rw [if_pos h0]
    have hb0 := beq0 h0
    go_enter Try.func33, Try.ntmps33
    go_wp2_with (go_at_call 31; refine (err_any _ _ _ h).mono ?_; rintro e w1 ⟨rfl, rfl⟩)
    go_ret
    exact ⟨rfl, rfl⟩
  · rw [if_neg h0]
    have hb0 := bne0 h0
    go_enter Try.func33, Try.ntmps33
    go_wp2_with (go_at_call 31; refine (err_any _ _ _ h).mono ?_; rintro e w1 ⟨rfl, rfl⟩)
    go_ret
    exact ⟨rfl, rfl⟩

theorem copy_step {l b : List UInt8} {d n k : Nat} (hk : k < n) (H : Hid (copyL b d (n - k) = copyL l d n)) : Hid (copyL (b ++ [bat b (b.length - d)]) d (n - (k + 1)) = copyL l d n) := by
  have := H.out
  rw [show n - k = (n - (k + 1)) + 1 by omega, copyL] at this
  exact Lib.hid this

set_option maxHeartbeats 2000000 in
set_option maxRecDepth 100000 in
theorem copied_any (base : Nat) (v : Value) (l : List UInt8) (d n : Nat) (w : World) (hown : w.ownsRow base 5 1 v l.length (Lib.byteCells l)) (hbase : base ≤ w.heap.size) (hd1 : 1 ≤ d) (hd2 : d ≤ l.length) (hl : l.length ≤ 1048576) (hn : n ≤ 1048576) :
    Calls Try.prog 35 #[v, .int .i64 d, .int .i64 n] w fun e w' => ∃ v', e = .returned v' ∧ w'.ownsRow base 5 1 v' (copyL l d n).length (Lib.byteCells (copyL l d n)) ∧ w.grownBy w' v.ownBlock := by
  obtain ⟨i0, hi, hz0, hz1, hz2⟩ := info_parts infoB8
  obtain ⟨ob, hob⟩ : ∃ ob, ob = v.ownBlock := ⟨_, rfl⟩
  have hown0 := hown
  rcases hown0.2 with ⟨rfl, h0⟩ | ⟨g0, cap0, cur0, rfl, _⟩
  · omega
  rw [← hob]
  have hoe : ob = some g0 := hob
  go_enter Try.func35, Try.ntmps35
  go_wp2
  go_loopw [0, 8] (fun v0 v8 wr => ∃ (k : Nat) (b : List UInt8), v8 = .int .i64 k ∧ k ≤ n ∧ b.length = l.length + k ∧ Hid (copyL b d (n - k) = copyL l d n) ∧ wr.ownsRow base 5 1 v0 b.length (Lib.byteCells b) ∧ w.grownBy wr ob ∧ (∀ g, v0.ownBlock = some g → g = g0 ∨ w.heap.size ≤ g)) (fun _ v8 _ => n - (intOf v8).toNat)
  case atStart => exact ⟨0, l, rfl, Nat.zero_le _, rfl, Lib.hid rfl, hown, World.grownBy.refl _ _, fun g hg => .inl (by injection hg with hg; exact hg.symm)⟩
  case round =>
    obtain ⟨k, b, rfl, hk, hbl, HC, hwn, hG, hat⟩ := hrel
    have hwn' := hwn
    rcases hwn'.2 with ⟨rfl, h0⟩ | ⟨g, cap, cur, rfl, hbg, hh, hnc, hcm, _⟩
    · omega
    by_cases hlt : k < n
    · have hi2 : b.length - d < b.length := by omega
      have hc := hwn.cells (g := g) rfl (b.length - d) (.int .u8 (bat b (b.length - d)).toNat) (by
        rw [Lib.byteCells, List.getElem?_map]
        unfold bat
        rw [List.getD_eq_getElem?_getD, List.getElem?_eq_getElem hi2]
        rfl)
      have hadd : (⟨g, 0, none⟩ : Addr).add (b.length - d) = ⟨g, b.length - d, none⟩ := by unfold Addr.add; split <;> simp_all
      rw [hadd] at hc
      have hlt2 := UInt8.toNat_lt (bat b (b.length - d))
      have HN := copy_step hlt HC
      have hs2 : (b ++ [bat b (b.length - d)]).length = b.length + 1 := by simp
      have hby : Lib.byteCells b ++ [Value.int IntKind.u8 ((bat b (b.length - d)).toNat : Int)] = Lib.byteCells (b ++ [bat b (b.length - d)]) := by
        simp [Lib.byteCells]
      have hdb : d ≤ b.length := by omega
      have hb21 : b.length ≤ 2097152 := by omega
      have k0 : (0 : Int) ≤ (b.length : Int) - d := by omega
      have k1 : (b.length : Int) - d < b.length := by omega
      have HBL := Lib.hid hbl
      have hws := hG.size
      clear hbl HC hadd hob hown0 hwn'
      go_wp2_with (at_builtin; refine wpList_push rfl _ _ _ rfl Try.underlying28 hi hz0 hz1 hz2 rfl (by decide) hwn rfl rfl rfl (by simp [Value.oneCell']) (by unfold maxLen; omega) (by omega) (by omega) ?_; intro g2 cap2 w1 hown1 hgr1 hat1)
      rw [hby, ← hs2] at hown1
      go_roundw
      case rel =>
        refine ⟨k + 1, _, by go_num, by omega, by rw [hs2, HBL.out]; omega, HN, by rw [hs2] at hown1 ⊢; exact hown1, ?_, ?_⟩
        · refine ⟨hgr1.os.trans hG.os, hgr1.tape.trans hG.tape, hgr1.output.trans hG.output, Nat.le_trans hG.size hgr1.size, fun j hj hne => (hgr1.block j (Nat.lt_of_lt_of_le hj hG.size) ?_).trans (hG.block j hj hne)⟩
          intro e
          rcases hat j (by rw [← e]) with hh2 | hh2
          · exact hne (by rw [hoe, hh2])
          · omega
        · intro g3 hg3
          have e3 : g2 = g3 := by injection hg3
          subst e3
          rcases hat1 with hh2 | hh2
          · exact hat _ hh2
          · right; omega
      case measure => simp [intOf]; omega
    · obtain rfl : k = n := by omega
      have hc0 := HC.out
      rw [Nat.sub_self] at hc0
      have hc1 : b = copyL l d k := hc0
      clear HC hc0
      go_wp2
      go_ret
      rw [← hc1]
      exact ⟨_, rfl, hwn, hG⟩
end Go.Proofs.Ytennmnoghipnfaa
