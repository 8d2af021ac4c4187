/- What the walks through Loose share; the walks through copied and wrong. -/
import Derived.Test.YtennmnoghipnfaaLoosePlain
import Derived.Test.YtennmnoghipnfaaPressClos
import Derived.Test.YtennmnoghipnfaaRefMore
namespace Go.Proofs.Ytennmnoghipnfaa
open Go.RowKit
set_option linter.unusedVariables false

theorem infoB8 : (Try.prog.info? 5).map (fun i => (i.zero, i.size, i.bytes)) = some (some (.int .u8 0), 1, 1) := by kernel_rfl
theorem num_to (b : Nat) (r : Rd) (n : Nat) (r1 : Rd) (w : World) (h : Rdr w b r) (ho : r.ok) (hx : Hid (rdNum r = (n, r1))) :
    Calls Try.prog 32 #[.pointer (some ⟨b, 0, none⟩)] w fun e w' => e = .returned (.int .i64 n) ∧ Rdr w' b r1 ∧ w.grownBy w' (some b) := by
  have := num_any b r w h ho
  rw [hx.out] at this
  exact this
theorem raw_to (b : Nat) (r : Rd) (x : Int) (n : Nat) (z : ByteArray) (r1 : Rd) (w : World) (h : Rdr w b r) (ho : r.ok) (hx : Hid (rdRaw r (n : Nat) = (z, r1))) (hn : n ≤ 9223372036854775807) (hxn : x = (n : Int)) :
    Calls Try.prog 34 #[.pointer (some ⟨b, 0, none⟩), .int .i64 x] w fun e w' => e = .returned (.string z) ∧ Rdr w' b r1 ∧ w.grownBy w' (some b) := by
  subst hxn
  have := raw_any b r n w h ho (by omega) (by omega)
  rw [hx.out] at this
  exact this
theorem qnum_to (b : Nat) (r : Rd) (n : Nat) (r1 : Rd) (w : World) (h : Qdr w b r) (ho : r.ok) (hx : Hid (rdNum r = (n, r1))) :
    Calls Try.prog 38 #[.pointer (some ⟨b, 0, none⟩)] w fun e w' => e = .returned (.int .i64 n) ∧ Qdr w' b r1 ∧ w.grownBy w' (some b) := by
  have := qnum_any b r w h ho
  rw [hx.out] at this
  exact this
theorem qraw_to (b : Nat) (r : Rd) (x : Int) (n : Nat) (z : ByteArray) (r1 : Rd) (w : World) (h : Qdr w b r) (ho : r.ok) (hx : Hid (rdRaw r (n : Nat) = (z, r1))) (hn : n ≤ 9223372036854775807) (hxn : x = (n : Int)) :
    Calls Try.prog 39 #[.pointer (some ⟨b, 0, none⟩), .int .i64 x] w fun e w' => e = .returned (.string z) ∧ Qdr w' b r1 ∧ w.grownBy w' (some b) := by
  subst hxn
  have := qraw_any b r n w h ho (by omega) (by omega)
  rw [hx.out] at this
  exact this

theorem rdByte_e {r : Rd} (h : (rdByte r).2.e ≠ 0) (h0 : r.e = 0) : (rdByte r).2.e = 3 := by
  unfold rdByte at h ⊢
  rw [if_neg (by simp [h0])] at h ⊢
  split at h
  · rename_i hlt
    exact absurd h0 h
  · rename_i hlt
    rw [dif_neg hlt]
theorem rdNumGo_no (f : Nat) : ∀ (i n : Nat) (r : Rd), r.e = 0 → (rdNumGo f i n r).2.e ≠ 0 → (rdNumGo f i n r).1 = 0 := by
  induction f with
  | zero => intro i n r h0 h; exact absurd h0 h
  | succ f ih =>
    intro i n r h0 h
    rw [rdNumGo] at h ⊢
    simp only [] at h ⊢
    split at h
    · rename_i hb
      rw [if_pos hb]
    · rename_i hb
      rw [if_neg hb]
      split at h
      · rename_i hc
        rw [if_pos hc]
      · rename_i hc
        rw [if_neg hc]
        split at h
        · rename_i hd
          rw [if_pos hd]
          exact absurd h (by simpa using hb)
        · rename_i hd
          rw [if_neg hd]
          exact ih _ _ _ (by simpa using hb) h
theorem rdNum_no {r r1 : Rd} {n : Nat} (h0 : r.e = 0) (hx : rdNum r = (n, r1)) (h : r1.e ≠ 0) : n = 0 := by
  have := rdNumGo_no 9 0 0 r h0
  unfold rdNum at hx
  rw [hx] at this
  exact this h
theorem rdRaw_no {r r1 : Rd} {n : Int} {z : ByteArray} (hx : rdRaw r n = (z, r1)) (h : r1.e ≠ 0) (h0 : r.e = 0) : z = ByteArray.empty := by
  unfold rdRaw at hx
  rw [if_neg (by simp [h0])] at hx
  split at hx
  · injection hx with h1 _; exact h1.symm
  · split at hx
    · injection hx with h1 _; exact h1.symm
    · injection hx with _ h2
      rw [← h2] at h
      exact absurd h0 h
theorem rdRaw_off {r : Rd} {n : Int} (h : r.e ≠ 0) : rdRaw r n = (ByteArray.empty, r) := by
  unfold rdRaw
  rw [if_pos h]

theorem below_drewN' {B : Nat} {a w : World} (h : Below B a w) (n : Nat) : Below B a (w.drewN n) := ⟨h.os, h.tape, h.output, h.size, h.block⟩
/-- Where Loose stands: the reader's block, the bytes so far. -/
structure LS (T : TypeId) (w0 w : World) (rb : Nat) (v : Value) (r : Rd) (l : List UInt8) : Prop where
  rd : Blk w rb T #[.string r.s, .int .i64 r.at_, .int .i64 r.e]
  ok : r.ok
  own : w.ownsRow w0.heap.size 5 1 v l.length (Lib.byteCells l)
  base : w0.heap.size ≤ rb
  hT : T ≠ 5
  below : Below w0.heap.size w0 w
section
variable {T : TypeId} {w0 w w' : World} {rb : Nat} {v v' : Value} {r r' : Rd} {l l' : List UInt8}
theorem LS.ne (h : LS T w0 w rb v r l) : v.ownBlock ≠ some rb := Lib.ownBlock_ne h.own h.rd h.hT
theorem LS.read (h : LS T w0 w rb v r l) (hR : Blk w' rb T #[.string r'.s, .int .i64 r'.at_, .int .i64 r'.e]) (ho : r'.ok) (g : w.grownBy w' (some rb)) : LS T w0 w' rb v r' l := by
  have hne := h.ne
  refine ⟨hR, ho, (Fr.of_grown (S := fun k => k = rb) g (fun k hk => by injection hk with hk; exact hk.symm)).own h.own (fun k hk e => hne (by rw [hk, e])), h.base, h.hT, h.below.grown g h.below.size (fun k hk => by injection hk with hk; rw [← hk]; exact h.base)⟩
theorem LS.wrote (h : LS T w0 w rb v r l) (hown : w'.ownsRow w0.heap.size 5 1 v' l'.length (Lib.byteCells l')) (g : w.grownBy w' v.ownBlock) : LS T w0 w' rb v' r l' := by
  have hne := h.ne
  exact ⟨h.rd.grown g (fun e => hne e.symm), h.ok, hown, h.base, h.hT, h.below.grown g h.below.size (fun k hk => (h.own.lt k hk).1)⟩
theorem LS.drewN (h : LS T w0 w rb v r l) (n : Nat) : LS T w0 (w.drewN n) rb v r l := ⟨h.rd, h.ok, h.own, h.base, h.hT, below_drewN' h.below n⟩
end
end Go.Proofs.Ytennmnoghipnfaa
