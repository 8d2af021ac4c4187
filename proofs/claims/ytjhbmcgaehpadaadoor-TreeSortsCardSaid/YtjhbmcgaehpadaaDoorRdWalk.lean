/- The walks through the program's reader, its small methods. -/
import Derived.Test.YtjhbmcgaehpadaaDoorRdPlain
import Derived.Test.YtjhbmcgaehpadaaDoorNumWalk
import Derived.Deep.QuietTactic
import Derived.BigQuiet
namespace Go.Proofs.YtjhbmcgaehpadaaDoor
open Go.RowKit

/-- Block b is a reader (of the program) in this state. -/
def Rdr (w : World) (b : Nat) (r : Rd) : Prop := Blk w b 105 #[.string r.s, .int .i64 r.at_, .int .i64 r.e]
section
variable {w w' : World} {b : Nat} {r : Rd}
theorem Rdr.c0 (h : Rdr w b r) : w.cell? ⟨b, 0, none⟩ = some (.string r.s) := Blk.cell h 0
theorem Rdr.c1 (h : Rdr w b r) : w.cell? ⟨b, 1, none⟩ = some (.int .i64 r.at_) := Blk.cell h 1
theorem Rdr.c2 (h : Rdr w b r) : w.cell? ⟨b, 2, none⟩ = some (.int .i64 r.e) := Blk.cell h 2
theorem Rdr.f1 (h : Rdr w b r) : w.frozen? ⟨b, 1, none⟩ = false := Blk.frozen h 1
theorem Rdr.f2 (h : Rdr w b r) : w.frozen? ⟨b, 2, none⟩ = false := Blk.frozen h 2
theorem Rdr.set1 (h : Rdr w b r) (n : Nat) : Rdr (w.setCell ⟨b, 1, none⟩ (.int .i64 n)) b { r with at_ := n } := Blk.set_ h 1 _
theorem Rdr.set2 (h : Rdr w b r) (e : Int) : Rdr (w.setCell ⟨b, 2, none⟩ (.int .i64 e)) b { r with e := e } := Blk.set_ h 2 _
theorem Rdr.below {B : Nat} (h : Rdr w b r) (hb : Below B w w') (hg : b < B) : Rdr w' b r := Blk.below h hb hg
end

theorem off_any (b : Nat) (r : Rd) (w : World) (h : Rdr w b r) :
    Calls Tryd.prog 92 #[.pointer (some ⟨b, 0, none⟩)] w fun e w' => e = .returned (.bool (r.e != 0)) ∧ w = w' := by
  have c2 := h.c2
  go_enter Tryd.func92, Tryd.ntmps92
  go_wp2
  go_ret
  exact ⟨rfl, rfl⟩

theorem beq0 {x : Int} (h : x = 0) : (x != 0) = false := by simp [h]
theorem bne0 {x : Int} (h : ¬ x = 0) : (x != 0) = true := by simp [h]

set_option maxRecDepth 100000 in
theorem fail_any (b : Nat) (r : Rd) (x : Int) (w : World) (h : Rdr w b r) (h0 : r.e = 0) :
    Calls Tryd.prog 93 #[.pointer (some ⟨b, 0, none⟩), .int .i64 x] w fun e w' => e = .returned (.tuple #[]) ∧ Rdr w' b { r with e := x } ∧ w.grownBy w' (some b) := by
  have c2 := h.c2
  have f2 := h.f2
  have hb0 := beq0 h0
  have H0 := Lib.hid h0
  clear h0
  go_enter Tryd.func93, Tryd.ntmps93
  go_wp2_with (go_at_call 92; refine (off_any b r _ h).mono ?_; rintro e w' ⟨rfl, rfl⟩)
  go_returns
  exact ⟨rfl, h.set2 x, only_setCell (World.grownBy.refl _ _) (.inl rfl) _⟩

set_option maxRecDepth 100000 in
theorem err_any (b : Nat) (r : Rd) (w : World) (h : Rdr w b r) :
    Calls Tryd.prog 74 #[.pointer (some ⟨b, 0, none⟩)] w fun e w' => e = .returned (.int .i64 r.e) ∧ w = w' := by
  have c2 := h.c2
  go_enter Tryd.func74, Tryd.ntmps74
  go_wp2
  go_ret
  exact ⟨rfl, rfl⟩

set_option maxRecDepth 100000 in
theorem left_any (b : Nat) (r : Rd) (w : World) (h : Rdr w b r) (ho : r.ok) :
    Calls Tryd.prog 95 #[.pointer (some ⟨b, 0, none⟩)] w fun e w' => e = .returned (.int .i64 ((r.s.size : Int) - r.at_)) ∧ ∃ n, w' = w.drewN n := by
  have c0 := h.c0
  have c1 := h.c1
  obtain ⟨ho1, ho2⟩ := ho
  go_enter Tryd.func95, Tryd.ntmps95
  go_wp2
  go_quiet (fail)
  go_wp2
  go_ret
  exact ⟨rfl, _, rfl⟩

set_option maxRecDepth 100000 in
theorem byte_any (b : Nat) (r : Rd) (w : World) (h : Rdr w b r) (ho : r.ok) :
    Calls Tryd.prog 94 #[.pointer (some ⟨b, 0, none⟩)] w fun e w' => e = .returned (.int .i64 (rdByte r).1) ∧ Rdr w' b (rdByte r).2 ∧ w.grownBy w' (some b) := by
  obtain ⟨ho1, ho2⟩ := ho
  by_cases h0 : r.e = 0
  · have hb0 := beq0 h0
    have c0 := h.c0
    have c1 := h.c1
    have f1 := h.f1
    by_cases hlt : r.at_ < r.s.size
    · have e : rdByte r = ((r.s[r.at_]).toNat, { r with at_ := r.at_ + 1 }) := by unfold rdByte; simp [h0, hlt]
      rw [e]
      have H0 := Lib.hid h0
      clear h0 e
      have hne : ((r.at_ : Int) == (r.s.size : Int)) = false := by simp; omega
      have hbd : (r.s[r.at_]).toNat < 256 := UInt8.toNat_lt _
      go_enter Tryd.func94, Tryd.ntmps94
      go_wp2_with (go_at_call 92; refine (off_any b r _ h).mono ?_; rintro e w' ⟨rfl, rfl⟩)
      go_quiet (fail)
      go_wp2
      go_quiet (fail)
      go_wp2
      go_ret
      exact ⟨rfl, h.set1 (r.at_ + 1), only_drewN (only_setCell (only_drewN (World.grownBy.refl _ _) _) (.inl rfl) _) _⟩
    · have e : rdByte r = (0, { r with e := 3 }) := by unfold rdByte; simp [h0, hlt]
      rw [e]
      have H0 := Lib.hid h0
      clear h0 e
      have hne : ((r.at_ : Int) == (r.s.size : Int)) = true := by simp; omega
      go_enter Tryd.func94, Tryd.ntmps94
      go_wp2_with (go_at_call 92; refine (off_any b r _ h).mono ?_; rintro e w' ⟨rfl, rfl⟩)
      go_quiet (fail)
      go_wp2_with (go_at_call 93; refine (fail_any b r 3 _ (Blk.drewN h _) H0.out).mono ?_; rintro e w1 ⟨rfl, h1, g1⟩)
      go_ret
      exact ⟨rfl, h1, only_trans (only_drewN (World.grownBy.refl _ _) _) g1⟩
  · have hb0 := bne0 h0
    have e : rdByte r = (0, r) := by unfold rdByte; simp [h0]
    rw [e]
    go_enter Tryd.func94, Tryd.ntmps94
    go_wp2_with (go_at_call 92; refine (off_any b r _ h).mono ?_; rintro e w' ⟨rfl, rfl⟩)
    go_ret
    exact ⟨rfl, h, World.grownBy.refl _ _⟩

set_option maxRecDepth 100000 in
theorem raw_any (b : Nat) (r : Rd) (n : Int) (w : World) (h : Rdr w b r) (ho : r.ok) (hn0 : -9223372036854775808 ≤ n) (hn1 : n ≤ 9223372036854775807) :
    Calls Tryd.prog 73 #[.pointer (some ⟨b, 0, none⟩), .int .i64 n] w fun e w' => e = .returned (.string (rdRaw r n).1) ∧ Rdr w' b (rdRaw r n).2 ∧ w.grownBy w' (some b) := by
  obtain ⟨ho1, ho2⟩ := ho
  by_cases h0 : r.e = 0
  · have hb0 := beq0 h0
    have c0 := h.c0
    have c1 := h.c1
    have f1 := h.f1
    by_cases hn : n < 0
    · have e : rdRaw r n = (ByteArray.empty, { r with e := 1 }) := by unfold rdRaw; simp [h0, hn]
      rw [e]
      have H0 := Lib.hid h0
      clear h0 e
      go_enter Tryd.func73, Tryd.ntmps73
      go_wp2_with (first | (go_at_call 92; refine (off_any b r _ h).mono ?_; rintro e w' ⟨rfl, rfl⟩) | (go_at_call 93; refine (fail_any b r 1 _ h H0.out).mono ?_; rintro e w1 ⟨rfl, h1, g1⟩))
      go_ret
      exact ⟨rfl, h1, g1⟩
    · by_cases hs : (r.s.size : Int) - r.at_ < n
      · have e : rdRaw r n = (ByteArray.empty, { r with e := 3 }) := by unfold rdRaw; simp [h0, hn, hs]
        rw [e]
        have H0 := Lib.hid h0
        clear h0 e
        go_enter Tryd.func73, Tryd.ntmps73
        go_wp2_with (go_at_call 92; refine (off_any b r _ h).mono ?_; rintro e w' ⟨rfl, rfl⟩)
        obtain ⟨ho1, ho2⟩ : r.ok := ⟨ho1, ho2⟩
        refine (left_any b r _ h ⟨ho1, ho2⟩).mono ?_
        rintro e w' ⟨rfl, nn, rfl⟩
        go_wp2_with (go_at_call 93; refine (fail_any b r 3 _ (Blk.drewN h _) H0.out).mono ?_; rintro e w1 ⟨rfl, h1, g1⟩)
        go_ret
        exact ⟨rfl, h1, only_trans (only_drewN (World.grownBy.refl _ _) _) g1⟩
      · have e : rdRaw r n = (r.s.extract r.at_ (r.at_ + n.toNat), { r with at_ := r.at_ + n.toNat }) := by unfold rdRaw; simp [h0, hn, hs]
        rw [e]
        have H0 := Lib.hid h0
        clear h0 e
        obtain ⟨n, rfl⟩ := Int.eq_ofNat_of_zero_le (show 0 ≤ n by omega)
        rw [Int.toNat_natCast]
        go_enter Tryd.func73, Tryd.ntmps73
        go_wp2_with (go_at_call 92; refine (off_any b r _ h).mono ?_; rintro e w' ⟨rfl, rfl⟩)
        refine (left_any b r _ h ⟨ho1, ho2⟩).mono ?_
        rintro e w' ⟨rfl, nn, rfl⟩
        go_wp2
        go_quiet (fail)
        go_wp2
        go_ret
        exact ⟨rfl, h.set1 (r.at_ + n), only_drewN (only_setCell (only_drewN (World.grownBy.refl _ _) _) (.inl rfl) _) _⟩
  · have hb0 := bne0 h0
    have e : rdRaw r n = (ByteArray.empty, r) := by unfold rdRaw; simp [h0]
    rw [e]
    go_enter Tryd.func73, Tryd.ntmps73
    go_wp2_with (go_at_call 92; refine (off_any b r _ h).mono ?_; rintro e w' ⟨rfl, rfl⟩)
    go_ret
    exact ⟨rfl, h, World.grownBy.refl _ _⟩

theorem read_any (s : ByteArray) (w : World) :
    Calls Tryd.prog 69 #[.string s] w fun e w' => e = .returned (.pointer (some ⟨w.heap.size, 0, none⟩)) ∧ Rdr w' w.heap.size ⟨s, 0, 0⟩ ∧ Below w.heap.size w w' := by
  go_enter Tryd.func69, Tryd.ntmps69
  go_wp2
  go_ret
  exact ⟨rfl, Blk.new w _ _, (Below.refl _ _).alloc (Nat.le_refl _) _⟩

theorem byte_to (b : Nat) (r : Rd) (c : Nat) (r1 : Rd) (w : World) (h : Rdr w b r) (ho : r.ok) (hx : Hid (rdByte r = (c, r1))) :
    Calls Tryd.prog 94 #[.pointer (some ⟨b, 0, none⟩)] w fun e w' => e = .returned (.int .i64 c) ∧ Rdr w' b r1 ∧ w.grownBy w' (some b) := by
  have := byte_any b r w h ho
  rw [hx.out] at this
  exact this
end Go.Proofs.YtjhbmcgaehpadaaDoor
