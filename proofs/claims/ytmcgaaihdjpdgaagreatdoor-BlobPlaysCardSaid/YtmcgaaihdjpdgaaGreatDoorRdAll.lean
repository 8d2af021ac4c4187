/- A reader of bytes as plain data: no program in sight.; The walks through the program's reader, its small methods.; The walk through the program's reader's Num.; Plain laws of the reader: no program in sight.; The walks through the program's reader: Count, Text, Signed, End. -/
import Derived.Test.YtmcgaaihdjpdgaaGreatDoorNumPlain
import Derived.Test.YtmcgaaihdjpdgaaGreatDoorNumWalk
import Derived.Deep.QuietTactic
import Derived.BigQuiet
/- A reader of bytes as plain data: no program in sight. -/
namespace Go.Proofs.YtmcgaaihdjpdgaaGreatDoor
open Go.RowKit

/-- A reader's state: its text, where it stands, its first error. -/
structure Rd where
  s : ByteArray
  at_ : Nat
  e : Int

/-- The first error is kept. -/
def Rd.fail (r : Rd) (e : Int) : Rd := if r.e = 0 then { r with e := e } else r
def rdByte (r : Rd) : Nat × Rd :=
  if r.e ≠ 0 then (0, r) else if h : r.at_ < r.s.size then ((r.s[r.at_]).toNat, { r with at_ := r.at_ + 1 }) else (0, { r with e := 3 })
/-- The i-th byte of a number and what follows, so far n. -/
def rdNumGo : Nat → Nat → Nat → Rd → Nat × Rd
  | 0, _, n, r => (n, r)
  | f + 1, i, n, r =>
    let x := rdByte r
    if x.2.e ≠ 0 then (0, x.2)
    else if (i = 8 ∧ 63 < x.1) ∨ (0 < i ∧ x.1 = 0) then (0, { x.2 with e := 5 })
    else if x.1 < 128 then (n + x.1 % 128 * 128 ^ i, x.2)
    else rdNumGo f (i + 1) (n + x.1 % 128 * 128 ^ i) x.2
def rdNum (r : Rd) : Nat × Rd := rdNumGo 9 0 0 r
def sgn (n : Nat) : Int := if n % 2 = 1 then -((n : Int) / 2) - 1 else (n : Int) / 2
def rdSigned (r : Rd) : Int × Rd := (sgn (rdNum r).1, (rdNum r).2)
def rdRaw (r : Rd) (n : Int) : ByteArray × Rd :=
  if r.e ≠ 0 then (ByteArray.empty, r)
  else if n < 0 then (ByteArray.empty, { r with e := 1 })
  else if (r.s.size : Int) - r.at_ < n then (ByteArray.empty, { r with e := 3 })
  else (r.s.extract r.at_ (r.at_ + n.toNat), { r with at_ := r.at_ + n.toNat })
def rdCount (r : Rd) (most : Int) : Nat × Rd :=
  let x := rdNum r
  if x.2.e = 0 ∧ most < x.1 then (0, { x.2 with e := 4 }) else x
def rdText (r : Rd) (most : Int) : ByteArray × Rd := let x := rdCount r most; rdRaw x.2 x.1
def rdNumsGo : Nat → Rd → List Nat × Rd
  | 0, r => ([], r)
  | k + 1, r => let x := rdNum r; if x.2.e ≠ 0 then ([], x.2) else let y := rdNumsGo k x.2; (x.1 :: y.1, y.2)
def rdNums (r : Rd) (most : Int) : List Nat × Rd := let x := rdCount r most; let y := rdNumsGo x.1 x.2; if y.2.e ≠ 0 then ([], y.2) else y
def rdTextsGo : Nat → Int → Rd → List ByteArray × Rd
  | 0, _, r => ([], r)
  | k + 1, m, r => let x := rdText r m; if x.2.e ≠ 0 then ([], x.2) else let y := rdTextsGo k m x.2; (x.1 :: y.1, y.2)
def rdTexts (r : Rd) (most each : Int) : List ByteArray × Rd := let x := rdCount r most; let y := rdTextsGo x.1 each x.2; if y.2.e ≠ 0 then ([], y.2) else y
def rdEnd (r : Rd) : Rd := if r.e = 0 ∧ r.at_ < r.s.size then { r with e := 4 } else r

/-- Where a reader stands lies within its text; its text is no longer than a text may be. -/
def Rd.ok (r : Rd) : Prop := r.at_ ≤ r.s.size ∧ r.s.size ≤ 9223372036854775807

theorem Rd.ok_fail {r : Rd} {e : Int} (h : r.ok) : Rd.ok { r with e := e } := h
theorem rdByte_ok {r : Rd} (h : r.ok) : (rdByte r).2.ok := by
  unfold rdByte
  split
  · exact h
  · split
    · rename_i hlt; exact ⟨hlt, h.2⟩
    · exact h
theorem rdByte_lt (r : Rd) : (rdByte r).1 < 256 := by
  unfold rdByte
  split
  · simp
  · split
    · exact UInt8.toNat_lt _
    · simp
theorem rdByte_s (r : Rd) : (rdByte r).2.s = r.s := by
  unfold rdByte
  split
  · rfl
  · split <;> rfl

theorem pow7 (i : Nat) : 128 ^ i = 2 ^ (7 * i) := by rw [Nat.pow_mul]
theorem num_next {n c i : Nat} (hn : n < 128 ^ i) : n + c % 128 * 128 ^ i < 128 ^ (i + 1) := by
  have h1 : c % 128 * 128 ^ i ≤ 127 * 128 ^ i := Nat.mul_le_mul_right _ (by omega)
  rw [Nat.pow_succ]
  omega
theorem num_or {n c i : Nat} (hi : i ≤ 8) (hn : n < 128 ^ i) (h8 : i = 8 → c ≤ 63) :
    bits .or .i64 (n : Int) (wrap64 ((c : Int) % 128 * 2 ^ (7 * i))) = ((n + c % 128 * 128 ^ i : Nat) : Int) := by
  have hb : n + c % 128 * 128 ^ i < 9223372036854775808 := by
    by_cases h : i = 8
    · subst h
      have := h8 rfl
      have e : c % 128 = c := Nat.mod_eq_of_lt (by omega)
      rw [e]
      have e8 : 128 ^ 8 = 72057594037927936 := by decide
      rw [e8] at hn ⊢
      omega
    · have h1 := num_next (c := c) hn
      have h2 : 128 ^ (i + 1) ≤ 128 ^ 8 := Nat.pow_le_pow_right (by omega) (by omega)
      have e8 : 128 ^ 8 = 72057594037927936 := by decide
      omega
  have e : (c : Int) % 128 * 2 ^ (7 * i) = ((c % 128 * 128 ^ i : Nat) : Int) := by rw [pow7]; push_cast; rfl
  rw [e, IntWalk.wrap64_in _ ⟨by omega, by omega⟩, i64_or_nat _ _ (by omega) (by omega)]
  congr 1
  rw [pow7] at hn ⊢
  rw [Nat.or_comm, Nat.mul_comm, ← Nat.two_pow_add_eq_or_of_lt hn]
  omega

theorem num_or8 {n c : Nat} (hn : n < 128 ^ 8) (h8 : c ≤ 63) :
    bits .or .i64 (n : Int) ((c : Int) % 128 * 72057594037927936) = ((n + c % 128 * 128 ^ 8 : Nat) : Int) := by
  have h := num_or (Nat.le_refl 8) hn (fun _ => h8)
  rw [show (2 : Int) ^ (7 * 8) = 72057594037927936 by decide, IntWalk.wrap64_in _ ⟨by omega, by omega⟩] at h
  exact h

end Go.Proofs.YtmcgaaihdjpdgaaGreatDoor
/- The walks through the program's reader, its small methods. -/
namespace Go.Proofs.YtmcgaaihdjpdgaaGreatDoor
open Go.RowKit

/-- Block b is a reader (of the program) in this state. -/
def Rdr (w : World) (b : Nat) (r : Rd) : Prop := Blk w b 121 #[.string r.s, .int .i64 r.at_, .int .i64 r.e]
section
variable {w w' : World} {b : Nat} {r : Rd}
theorem Rdr.c0 (h : Rdr w b r) : w.cell? ⟨b, 0, none⟩ = some (.string r.s) := Blk.cell h 0
theorem Rdr.c1 (h : Rdr w b r) : w.cell? ⟨b, 1, none⟩ = some (.int .i64 r.at_) := Blk.cell h 1
theorem Rdr.c2 (h : Rdr w b r) : w.cell? ⟨b, 2, none⟩ = some (.int .i64 r.e) := Blk.cell h 2
theorem Rdr.f1 (h : Rdr w b r) : w.frozen? ⟨b, 1, none⟩ = false := Blk.frozen h 1
theorem Rdr.f2 (h : Rdr w b r) : w.frozen? ⟨b, 2, none⟩ = false := Blk.frozen h 2
theorem Rdr.set1 (h : Rdr w b r) (n : Nat) : Rdr (w.setCell ⟨b, 1, none⟩ (.int .i64 n)) b { r with at_ := n } := Blk.set_ h 1 _
theorem Rdr.set2 (h : Rdr w b r) (e : Int) : Rdr (w.setCell ⟨b, 2, none⟩ (.int .i64 e)) b { r with e := e } := Blk.set_ h 2 _
theorem Rdr.below {B : Nat} (h : Rdr w b r) (hb : Below B w w') (hg : b < B) : Rdr w' b r := Blk.below h hb hg
end

theorem off_any (b : Nat) (r : Rd) (w : World) (h : Rdr w b r) :
    Calls Tryz.prog 83 #[.pointer (some ⟨b, 0, none⟩)] w fun e w' => e = .returned (.bool (r.e != 0)) ∧ w = w' := by
  have c2 := h.c2
  go_enter Tryz.func83, Tryz.ntmps83
  go_wp2
  go_ret
  exact ⟨rfl, rfl⟩

theorem beq0 {x : Int} (h : x = 0) : (x != 0) = false := by simp [h]
theorem bne0 {x : Int} (h : ¬ x = 0) : (x != 0) = true := by simp [h]

set_option maxRecDepth 100000 in
theorem fail_any (b : Nat) (r : Rd) (x : Int) (w : World) (h : Rdr w b r) (h0 : r.e = 0) :
    Calls Tryz.prog 84 #[.pointer (some ⟨b, 0, none⟩), .int .i64 x] w fun e w' => e = .returned (.tuple #[]) ∧ Rdr w' b { r with e := x } ∧ w.grownBy w' (some b) := by
  have c2 := h.c2
  have f2 := h.f2
  have hb0 := beq0 h0
  have H0 := Lib.hid h0
  clear h0
  go_enter Tryz.func84, Tryz.ntmps84
  go_wp2_with (go_at_call 83; refine (off_any b r _ h).mono ?_; rintro e w' ⟨rfl, rfl⟩)
  go_returns
  exact ⟨rfl, h.set2 x, only_setCell (World.grownBy.refl _ _) (.inl rfl) _⟩

set_option maxRecDepth 100000 in
theorem err_any (b : Nat) (r : Rd) (w : World) (h : Rdr w b r) :
    Calls Tryz.prog 63 #[.pointer (some ⟨b, 0, none⟩)] w fun e w' => e = .returned (.int .i64 r.e) ∧ w = w' := by
  have c2 := h.c2
  go_enter Tryz.func63, Tryz.ntmps63
  go_wp2
  go_ret
  exact ⟨rfl, rfl⟩

set_option maxRecDepth 100000 in
theorem left_any (b : Nat) (r : Rd) (w : World) (h : Rdr w b r) (ho : r.ok) :
    Calls Tryz.prog 86 #[.pointer (some ⟨b, 0, none⟩)] w fun e w' => e = .returned (.int .i64 ((r.s.size : Int) - r.at_)) ∧ ∃ n, w' = w.drewN n := by
  have c0 := h.c0
  have c1 := h.c1
  obtain ⟨ho1, ho2⟩ := ho
  go_enter Tryz.func86, Tryz.ntmps86
  go_wp2
  go_quiet (fail)
  go_wp2
  go_ret
  exact ⟨rfl, _, rfl⟩

set_option maxRecDepth 100000 in
theorem byte_any (b : Nat) (r : Rd) (w : World) (h : Rdr w b r) (ho : r.ok) :
    Calls Tryz.prog 85 #[.pointer (some ⟨b, 0, none⟩)] w fun e w' => e = .returned (.int .i64 (rdByte r).1) ∧ Rdr w' b (rdByte r).2 ∧ w.grownBy w' (some b) := by
  obtain ⟨ho1, ho2⟩ := ho
  by_cases h0 : r.e = 0
  · have hb0 := beq0 h0
    have c0 := h.c0
    have c1 := h.c1
    have f1 := h.f1
    by_cases hlt : r.at_ < r.s.size
    · have e : rdByte r = ((r.s[r.at_]).toNat, { r with at_ := r.at_ + 1 }) := by unfold rdByte; simp [h0, hlt]
      rw [e]
      have H0 := Lib.hid h0
      clear h0 e
      have hne : ((r.at_ : Int) == (r.s.size : Int)) = false := by simp; omega
      have hbd : (r.s[r.at_]).toNat < 256 := UInt8.toNat_lt _
      go_enter Tryz.func85, Tryz.ntmps85
      go_wp2_with (go_at_call 83; refine (off_any b r _ h).mono ?_; rintro e w' ⟨rfl, rfl⟩)
      go_quiet (fail)
      go_wp2
      go_quiet (fail)
      go_wp2
      go_ret
      exact ⟨rfl, h.set1 (r.at_ + 1), only_drewN (only_setCell (only_drewN (World.grownBy.refl _ _) _) (.inl rfl) _) _⟩
    · have e : rdByte r = (0, { r with e := 3 }) := by unfold rdByte; simp [h0, hlt]
      rw [e]
      have H0 := Lib.hid h0
      clear h0 e
      have hne : ((r.at_ : Int) == (r.s.size : Int)) = true := by simp; omega
      go_enter Tryz.func85, Tryz.ntmps85
      go_wp2_with (go_at_call 83; refine (off_any b r _ h).mono ?_; rintro e w' ⟨rfl, rfl⟩)
      go_quiet (fail)
      go_wp2_with (go_at_call 84; refine (fail_any b r 3 _ (Blk.drewN h _) H0.out).mono ?_; rintro e w1 ⟨rfl, h1, g1⟩)
      go_ret
      exact ⟨rfl, h1, only_trans (only_drewN (World.grownBy.refl _ _) _) g1⟩
  · have hb0 := bne0 h0
    have e : rdByte r = (0, r) := by unfold rdByte; simp [h0]
    rw [e]
    go_enter Tryz.func85, Tryz.ntmps85
    go_wp2_with (go_at_call 83; refine (off_any b r _ h).mono ?_; rintro e w' ⟨rfl, rfl⟩)
    go_ret
    exact ⟨rfl, h, World.grownBy.refl _ _⟩

set_option maxRecDepth 100000 in
theorem raw_any (b : Nat) (r : Rd) (n : Int) (w : World) (h : Rdr w b r) (ho : r.ok) (hn0 : -9223372036854775808 ≤ n) (hn1 : n ≤ 9223372036854775807) :
    Calls Tryz.prog 62 #[.pointer (some ⟨b, 0, none⟩), .int .i64 n] w fun e w' => e = .returned (.string (rdRaw r n).1) ∧ Rdr w' b (rdRaw r n).2 ∧ w.grownBy w' (some b) := by
  obtain ⟨ho1, ho2⟩ := ho
  by_cases h0 : r.e = 0
  · have hb0 := beq0 h0
    have c0 := h.c0
    have c1 := h.c1
    have f1 := h.f1
    by_cases hn : n < 0
    · have e : rdRaw r n = (ByteArray.empty, { r with e := 1 }) := by unfold rdRaw; simp [h0, hn]
      rw [e]
      have H0 := Lib.hid h0
      clear h0 e
      go_enter Tryz.func62, Tryz.ntmps62
      go_wp2_with (first | (go_at_call 83; refine (off_any b r _ h).mono ?_; rintro e w' ⟨rfl, rfl⟩) | (go_at_call 84; refine (fail_any b r 1 _ h H0.out).mono ?_; rintro e w1 ⟨rfl, h1, g1⟩))
      go_ret
      exact ⟨rfl, h1, g1⟩
    · by_cases hs : (r.s.size : Int) - r.at_ < n
      · have e : rdRaw r n = (ByteArray.empty, { r with e := 3 }) := by unfold rdRaw; simp [h0, hn, hs]
        rw [e]
        have H0 := Lib.hid h0
        clear h0 e
        go_enter Tryz.func62, Tryz.ntmps62
        go_wp2_with (go_at_call 83; refine (off_any b r _ h).mono ?_; rintro e w' ⟨rfl, rfl⟩)
        obtain ⟨ho1, ho2⟩ : r.ok := ⟨ho1, ho2⟩
        refine (left_any b r _ h ⟨ho1, ho2⟩).mono ?_
        rintro e w' ⟨rfl, nn, rfl⟩
        go_wp2_with (go_at_call 84; refine (fail_any b r 3 _ (Blk.drewN h _) H0.out).mono ?_; rintro e w1 ⟨rfl, h1, g1⟩)
        go_ret
        exact ⟨rfl, h1, only_trans (only_drewN (World.grownBy.refl _ _) _) g1⟩
      · have e : rdRaw r n = (r.s.extract r.at_ (r.at_ + n.toNat), { r with at_ := r.at_ + n.toNat }) := by unfold rdRaw; simp [h0, hn, hs]
        rw [e]
        have H0 := Lib.hid h0
        clear h0 e
        obtain ⟨n, rfl⟩ := Int.eq_ofNat_of_zero_le (show 0 ≤ n by omega)
        rw [Int.toNat_natCast]
        go_enter Tryz.func62, Tryz.ntmps62
        go_wp2_with (go_at_call 83; refine (off_any b r _ h).mono ?_; rintro e w' ⟨rfl, rfl⟩)
        refine (left_any b r _ h ⟨ho1, ho2⟩).mono ?_
        rintro e w' ⟨rfl, nn, rfl⟩
        go_wp2
        go_quiet (fail)
        go_wp2
        go_ret
        exact ⟨rfl, h.set1 (r.at_ + n), only_drewN (only_setCell (only_drewN (World.grownBy.refl _ _) _) (.inl rfl) _) _⟩
  · have hb0 := bne0 h0
    have e : rdRaw r n = (ByteArray.empty, r) := by unfold rdRaw; simp [h0]
    rw [e]
    go_enter Tryz.func62, Tryz.ntmps62
    go_wp2_with (go_at_call 83; refine (off_any b r _ h).mono ?_; rintro e w' ⟨rfl, rfl⟩)
    go_ret
    exact ⟨rfl, h, World.grownBy.refl _ _⟩

theorem read_any (s : ByteArray) (w : World) :
    Calls Tryz.prog 58 #[.string s] w fun e w' => e = .returned (.pointer (some ⟨w.heap.size, 0, none⟩)) ∧ Rdr w' w.heap.size ⟨s, 0, 0⟩ ∧ Below w.heap.size w w' := by
  go_enter Tryz.func58, Tryz.ntmps58
  go_wp2
  go_ret
  exact ⟨rfl, Blk.new w _ _, (Below.refl _ _).alloc (Nat.le_refl _) _⟩

theorem byte_to (b : Nat) (r : Rd) (c : Nat) (r1 : Rd) (w : World) (h : Rdr w b r) (ho : r.ok) (hx : Hid (rdByte r = (c, r1))) :
    Calls Tryz.prog 85 #[.pointer (some ⟨b, 0, none⟩)] w fun e w' => e = .returned (.int .i64 c) ∧ Rdr w' b r1 ∧ w.grownBy w' (some b) := by
  have := byte_any b r w h ho
  rw [hx.out] at this
  exact this
end Go.Proofs.YtmcgaaihdjpdgaaGreatDoor
/- The walk through the program's reader's Num. -/
namespace Go.Proofs.YtmcgaaihdjpdgaaGreatDoor
open Go.RowKit

set_option maxHeartbeats 1000000 in
set_option maxRecDepth 100000 in
theorem num_any (b : Nat) (r : Rd) (w : World) (h : Rdr w b r) (ho : r.ok) :
    Calls Tryz.prog 61 #[.pointer (some ⟨b, 0, none⟩)] w fun e w' => e = .returned (.int .i64 (rdNum r).1) ∧ Rdr w' b (rdNum r).2 ∧ w.grownBy w' (some b) := by
  go_enter Tryz.func61, Tryz.ntmps61
  go_wp2
  go_loopw [3, 4] (fun v3 v4 wr => ∃ (i n : Nat) (st : Rd), i ≤ 8 ∧ n < 128 ^ i ∧ v3 = .int .i64 n ∧ v4 = .int .i64 i ∧ Rdr wr b st ∧ st.ok ∧ w.grownBy wr (some b) ∧ Hid (rdNumGo (9 - i) i n st = rdNum r)) (fun _ v4 _ => 9 - (intOf v4).toNat)
  case atStart => exact ⟨0, 0, r, by omega, by simp, rfl, rfl, h, ho, World.grownBy.refl _ _, rfl⟩
  case round =>
    obtain ⟨i, n, st, hi, hn, rfl, rfl, hr, ho', hg, HE⟩ := hrel
    obtain ⟨c, st1, hx0⟩ : ∃ c st1, rdByte st = (c, st1) := ⟨_, _, rfl⟩
    have hc : c < 256 := by have := rdByte_lt st; rw [hx0] at this; exact this
    have ho1 : st1.ok := by have := rdByte_ok ho'; rw [hx0] at this; exact this
    have hx : Hid (rdByte st = (c, st1)) := hx0
    have HE2 : rdNum r = (if st1.e ≠ 0 then (0, st1) else if (i = 8 ∧ 63 < c) ∨ (0 < i ∧ c = 0) then (0, { st1 with e := 5 })
        else if c < 128 then (n + c % 128 * 128 ^ i, st1) else rdNumGo (9 - (i + 1)) (i + 1) (n + c % 128 * 128 ^ i) st1) := by
      rw [← HE.out, show 9 - i = (9 - (i + 1)) + 1 by omega, rdNumGo, hx0]
    clear hx0
    by_cases h0 : st1.e = 0
    · have hb0 := beq0 h0
      have H0 := Lib.hid h0
      rw [if_neg (by simp [h0])] at HE2
      clear h0
      by_cases hbad : (i = 8 ∧ 63 < c) ∨ (0 < i ∧ c = 0)
      · rw [if_pos hbad] at HE2
        have HX := Lib.hid HE2
        clear HE2 HE
        have hbad' : (i = 8 ∧ 63 < c) ∨ (¬ (i = 8 ∧ 63 < c) ∧ 0 < i ∧ c = 0) := by omega
        rcases hbad' with ⟨hb1, hb2⟩ | ⟨hb1, hb2, hb3⟩
        · go_wp2_with (first | (go_at_call 85; refine (byte_to b st c st1 _ hr ho' hx).mono ?_; rintro e w1 ⟨rfl, h1, g1⟩) | (go_at_call 83; refine (off_any _ _ _ (by assumption)).mono ?_; rintro e w' ⟨rfl, rfl⟩) | (go_at_call 84; refine (fail_any b st1 5 _ (by assumption) H0.out).mono ?_; rintro e w2 ⟨rfl, h2, g2⟩))
          go_ret
          rw [HX.out]
          exact ⟨rfl, h2, only_trans (only_trans hg g1) g2⟩
        · subst hb3
          go_wp2_with (first | (go_at_call 85; refine (byte_to b st 0 st1 _ hr ho' hx).mono ?_; rintro e w1 ⟨rfl, h1, g1⟩) | (go_at_call 83; refine (off_any _ _ _ (by assumption)).mono ?_; rintro e w' ⟨rfl, rfl⟩) | (go_at_call 84; refine (fail_any b st1 5 _ (by assumption) H0.out).mono ?_; rintro e w2 ⟨rfl, h2, g2⟩))
          all_goals
            go_ret
            rw [HX.out]
            exact ⟨rfl, by assumption, only_trans (only_trans hg (by assumption)) (by assumption)⟩
      · rw [if_neg hbad] at HE2
        have HX := Lib.hid HE2
        clear HE2 HE
        have hand := i64_and_127 c (by omega)
        have hor := num_or hi hn (c := c) (by omega)
        have hnx := num_next (c := c) hn
        have HN := Lib.hid hnx
        clear hnx
        have h7 : i ≤ 0 ∨ (0 < i ∧ i < 8 ∧ 0 < c) ∨ (8 ≤ i ∧ c ≤ 63 ∧ 0 < c) := by omega
        clear hbad
        by_cases hlt : c < 128
        · rcases h7 with h7 | ⟨h71, h72, h73⟩ | ⟨h71, h72, h73⟩
          rotate_right
          · obtain rfl : i = 8 := by omega
            have hor8 := num_or8 hn h72
            clear hor
            go_wp2_with (first | (go_at_call 85; refine (byte_to b st c st1 _ hr ho' hx).mono ?_; rintro e w1 ⟨rfl, h1, g1⟩) | (go_at_call 83; refine (off_any _ _ _ (by assumption)).mono ?_; rintro e w' ⟨rfl, rfl⟩))
            go_ret
            rw [HX.out, if_pos hlt]
            exact ⟨rfl, by assumption, only_trans hg (by assumption)⟩
          all_goals
            go_wp2_with (first | (go_at_call 85; refine (byte_to b st c st1 _ hr ho' hx).mono ?_; rintro e w1 ⟨rfl, h1, g1⟩) | (go_at_call 83; refine (off_any _ _ _ (by assumption)).mono ?_; rintro e w' ⟨rfl, rfl⟩))
            go_ret
            rw [HX.out, if_pos hlt]
            exact ⟨rfl, by assumption, only_trans hg (by assumption)⟩
        · rcases h7 with h7 | ⟨h71, h72, h73⟩ | ⟨h71, h72, h73⟩
          rotate_right
          · omega
          all_goals
            go_wp2_with (first | (go_at_call 85; refine (byte_to b st c st1 _ hr ho' hx).mono ?_; rintro e w1 ⟨rfl, h1, g1⟩) | (go_at_call 83; refine (off_any _ _ _ (by assumption)).mono ?_; rintro e w' ⟨rfl, rfl⟩))
            go_roundw
            case rel => exact ⟨i + 1, _, st1, by omega, HN.out, rfl, by go_num, by assumption, ho1, only_trans hg (by assumption), by have := HX.out; rw [if_neg hlt] at this; exact this.symm⟩
            case measure => simp [intOf]; omega
    · have hb0 := bne0 h0
      rw [if_pos h0] at HE2
      have HX := Lib.hid HE2
      clear HE2 HE
      go_wp2_with (first | (go_at_call 85; refine (byte_to b st c st1 _ hr ho' hx).mono ?_; rintro e w1 ⟨rfl, h1, g1⟩) | (go_at_call 83; refine (off_any _ _ _ (by assumption)).mono ?_; rintro e w' ⟨rfl, rfl⟩))
      go_ret
      rw [HX.out]
      exact ⟨rfl, h1, only_trans hg g1⟩
end Go.Proofs.YtmcgaaihdjpdgaaGreatDoor
/- Plain laws of the reader: no program in sight. -/
namespace Go.Proofs.YtmcgaaihdjpdgaaGreatDoor
open Go.RowKit

theorem ba_size (s : ByteArray) : s.size = s.data.toList.length := by rw [Array.length_toList]; rfl
theorem ba_get {s : ByteArray} {i : Nat} (h : i < s.size) {c : UInt8} (hc : s.data.toList[i]? = some c) : s[i] = c := by
  have hl : i < s.data.toList.length := by rw [← ba_size]; exact h
  rw [List.getElem?_eq_getElem hl] at hc
  injection hc

/-- The next byte of a text that is known as a list. -/
theorem rdByte_at {s : ByteArray} {pre rest : List UInt8} {c : UInt8} (hs : s.data.toList = pre ++ c :: rest) : rdByte ⟨s, pre.length, 0⟩ = (c.toNat, ⟨s, pre.length + 1, 0⟩) := by
  have hlt : pre.length < s.size := by rw [ba_size, hs]; simp
  have hg : s[pre.length] = c := ba_get hlt (by rw [hs]; simp)
  unfold rdByte
  simp [hlt, hg]

theorem rdNumGo_numL {s : ByteArray} (f : Nat) : ∀ (i n acc : Nat) (pre rest : List UInt8), f + i = 9 → n * 128 ^ i ≤ 4611686018427387903 → (0 < i → 0 < n) → s.data.toList = pre ++ (numL n ++ rest) →
    rdNumGo f i acc ⟨s, pre.length, 0⟩ = (acc + n * 128 ^ i, ⟨s, pre.length + (numL n).length, 0⟩) := by
  induction f with
  | zero =>
    intro i n acc pre rest hf hn h0 _
    have hi : i = 9 := by omega
    subst hi
    have := h0 (by omega)
    have e : 128 ^ 9 = 9223372036854775808 := by decide
    rw [e] at hn
    omega
  | succ f ih =>
    intro i n acc pre rest hf hn h0 hs
    by_cases hlt : n < 128
    · rw [numL_lt hlt] at hs
      have hb := rdByte_at (s := s) (pre := pre) (c := n.toUInt8) (rest := rest) (by simpa using hs)
      rw [toUInt8_toNat n (by omega)] at hb
      have h8 : i = 8 → n ≤ 63 := by
        intro h
        subst h
        have e : 128 ^ 8 = 72057594037927936 := by decide
        rw [e] at hn
        omega
      rw [rdNumGo, hb, numL_lt hlt]
      simp only [ne_eq, not_true_eq_false, if_false]
      rw [if_neg (by omega), if_pos hlt, Nat.mod_eq_of_lt hlt]
      rfl
    · rw [numL_ge (by omega)] at hs
      have hb := rdByte_at (s := s) (pre := pre) (c := (n % 128 + 128).toUInt8) (rest := numL (n / 128) ++ rest) (by simpa using hs)
      rw [toUInt8_toNat _ (by omega)] at hb
      have h8 : ¬ i = 8 := by
        intro h
        subst h
        have e : 128 ^ 8 = 72057594037927936 := by decide
        rw [e] at hn
        omega
      have hp : 128 ^ (i + 1) = 128 * 128 ^ i := by rw [Nat.pow_succ, Nat.mul_comm]
      have hdiv : n / 128 * (128 * 128 ^ i) + n % 128 * 128 ^ i = n * 128 ^ i := by
        rw [← Nat.mul_assoc, ← Nat.add_mul]
        congr 1
        omega
      have hle : n / 128 * 128 ^ (i + 1) ≤ 4611686018427387903 := by rw [hp]; omega
      have ih' := ih (i + 1) (n / 128) (acc + n % 128 * 128 ^ i) (pre ++ [(n % 128 + 128).toUInt8]) rest (by omega) hle (fun _ => by omega) (by simpa using hs)
      rw [rdNumGo, hb, numL_ge (by omega)]
      simp only [ne_eq, not_true_eq_false, if_false]
      rw [if_neg (by omega), if_neg (by omega), show (n % 128 + 128) % 128 = n % 128 by omega]
      simp only [List.length_append, List.length_cons, List.length_nil] at ih'
      rw [ih', hp]
      congr 1
      · omega
      · simp only [List.length_cons]
        congr 1
        omega

theorem rdNum_numL {s : ByteArray} {n : Nat} {pre rest : List UInt8} (hn : n ≤ 4611686018427387903) (hs : s.data.toList = pre ++ (numL n ++ rest)) :
    rdNum ⟨s, pre.length, 0⟩ = (n, ⟨s, pre.length + (numL n).length, 0⟩) := by
  have := rdNumGo_numL (s := s) 9 0 n 0 pre rest (by omega) (by simpa using hn) (by omega) hs
  simpa [rdNum] using this

theorem rdNumGo_ok (f : Nat) : ∀ (i n : Nat) (r : Rd), r.ok → (rdNumGo f i n r).2.ok := by
  induction f with
  | zero => intro i n r h; exact h
  | succ f ih =>
    intro i n r h
    have hb := rdByte_ok h
    rw [rdNumGo]
    simp only []
    split
    · exact hb
    · split
      · exact hb
      · split
        · exact hb
        · exact ih _ _ _ hb
theorem rdNum_ok {r : Rd} (h : r.ok) : (rdNum r).2.ok := rdNumGo_ok 9 0 0 r h

theorem rdNumGo_lt (f : Nat) : ∀ (i n : Nat) (r : Rd), f + i = 9 → n < 128 ^ i → (rdNumGo f i n r).1 ≤ 4611686018427387903 ∨ f = 0 := by
  induction f with
  | zero => intro i n r _ _; exact .inr rfl
  | succ f ih =>
    intro i n r hf hn
    left
    rw [rdNumGo]
    simp only []
    split
    · simp
    · split
      · simp
      · rename_i hbad
        have hnx := num_next (c := (rdByte r).1) hn
        have e8 : 128 ^ 8 = 72057594037927936 := by decide
        split
        · rename_i hlt
          show _ ≤ _
          by_cases h8 : i = 8
          · subst h8
            rw [Nat.mod_eq_of_lt hlt, e8]
            rw [e8] at hn
            omega
          · have h2 : 128 ^ (i + 1) ≤ 128 ^ 8 := Nat.pow_le_pow_right (by omega) (by omega)
            show n + (rdByte r).1 % 128 * 128 ^ i ≤ _
            omega
        · rename_i hge
          rcases ih (i + 1) _ (rdByte r).2 (by omega) hnx with h | h
          · exact h
          · exfalso
            have hi : i = 8 := by omega
            omega
theorem rdNum_le (r : Rd) : (rdNum r).1 ≤ 4611686018427387903 := by
  rcases rdNumGo_lt 9 0 0 r (by omega) (by simp) with h | h
  · exact h
  · omega
end Go.Proofs.YtmcgaaihdjpdgaaGreatDoor
/- The walks through the program's reader: Count, Text, Signed, End. -/
namespace Go.Proofs.YtmcgaaihdjpdgaaGreatDoor
open Go.RowKit

theorem i64_and_1 (k : Nat) (hk : k < 9223372036854775808) : bits .and .i64 (k : Int) 1 = (k : Int) % 2 := by
  have := i64_and_nat k 1 hk (by decide)
  rw [show (1 : Nat) = 2 ^ 1 - 1 from rfl, Nat.and_two_pow_sub_one_eq_mod] at this
  simpa using this

set_option maxRecDepth 100000 in
theorem end_any (b : Nat) (r : Rd) (w : World) (h : Rdr w b r) (ho : r.ok) :
    Calls Tryz.prog 65 #[.pointer (some ⟨b, 0, none⟩)] w fun e w' => e = .returned (.int .i64 (rdEnd r).e) ∧ Rdr w' b (rdEnd r) ∧ w.grownBy w' (some b) := by
  by_cases h0 : r.e = 0
  · have hb0 := beq0 h0
    have H0 := Lib.hid h0
    by_cases hlt : r.at_ < r.s.size
    · have HX : Hid (rdEnd r = { r with e := 4 }) := if_pos ⟨h0, hlt⟩
      clear h0
      go_enter Tryz.func65, Tryz.ntmps65
      go_wp2_with (go_at_call 83; refine (off_any _ _ _ (by assumption)).mono ?_; rintro e w' ⟨rfl, rfl⟩)
      refine (left_any _ _ _ h ho).mono ?_
      rintro e w' ⟨rfl, nn, rfl⟩
      have h' : Rdr (w.drewN nn) b r := h
      go_wp2_with (first | (go_at_call 84; refine (fail_any _ _ _ _ (by assumption) H0.out).mono ?_; rintro e w2 ⟨rfl, h2, g2⟩) | (go_at_call 63; refine (err_any _ _ _ (by assumption)).mono ?_; rintro e w1 ⟨rfl, rfl⟩))
      go_ret
      rw [HX.out]
      exact ⟨rfl, h2, only_trans (only_drewN (World.grownBy.refl _ _) _) g2⟩
    · have HX : Hid (rdEnd r = r) := if_neg (by omega)
      clear h0
      go_enter Tryz.func65, Tryz.ntmps65
      go_wp2_with (go_at_call 83; refine (off_any _ _ _ (by assumption)).mono ?_; rintro e w' ⟨rfl, rfl⟩)
      refine (left_any _ _ _ h ho).mono ?_
      rintro e w' ⟨rfl, nn, rfl⟩
      have h' : Rdr (w.drewN nn) b r := h
      go_wp2_with (first | (go_at_call 84; refine (fail_any _ _ _ _ (by assumption) H0.out).mono ?_; rintro e w2 ⟨rfl, h2, g2⟩) | (go_at_call 63; refine (err_any _ _ _ (by assumption)).mono ?_; rintro e w1 ⟨rfl, rfl⟩))
      go_ret
      rw [HX.out]
      exact ⟨rfl, h', (only_drewN (World.grownBy.refl _ _) _)⟩
  · have hb0 := bne0 h0
    have HX : Hid (rdEnd r = r) := if_neg (by omega)
    go_enter Tryz.func65, Tryz.ntmps65
    go_wp2_with (first | (go_at_call 83; refine (off_any _ _ _ (by assumption)).mono ?_; rintro e w' ⟨rfl, rfl⟩) | (go_at_call 63; refine (err_any _ _ _ (by assumption)).mono ?_; rintro e w1 ⟨rfl, rfl⟩))
    go_ret
    rw [HX.out]
    exact ⟨rfl, h, World.grownBy.refl _ _⟩


set_option maxRecDepth 100000 in
theorem count_any (b : Nat) (r : Rd) (most : Int) (w : World) (h : Rdr w b r) (ho : r.ok) :
    Calls Tryz.prog 59 #[.pointer (some ⟨b, 0, none⟩), .int .i64 most] w fun e w' => e = .returned (.int .i64 (rdCount r most).1) ∧ Rdr w' b (rdCount r most).2 ∧ w.grownBy w' (some b) := by
  have hc := num_any b r w h ho
  obtain ⟨n, r1, hx⟩ : ∃ n r1, rdNum r = (n, r1) := ⟨_, _, rfl⟩
  have HX : rdCount r most = if r1.e = 0 ∧ most < n then (0, { r1 with e := 4 }) else (n, r1) := by unfold rdCount; rw [hx]
  rw [hx] at hc
  simp only [] at hc
  have HC := Lib.hid hc
  clear hc hx
  by_cases h0 : r1.e = 0
  · have hb0 := beq0 h0
    have H0 := Lib.hid h0
    by_cases hlt : most < n
    · rw [if_pos ⟨h0, hlt⟩] at HX
      have HX := Lib.hid HX
      clear h0
      go_enter Tryz.func59, Tryz.ntmps59
      go_wp2_with (first | (go_at_call 61; refine HC.out.mono ?_; rintro e w1 ⟨rfl, h1, g1⟩) | (go_at_call 83; refine (off_any _ _ _ (by assumption)).mono ?_; rintro e w' ⟨rfl, rfl⟩) | (go_at_call 84; refine (fail_any _ _ _ _ (by assumption) H0.out).mono ?_; rintro e w2 ⟨rfl, h2, g2⟩))
      go_ret
      rw [HX.out]
      exact ⟨rfl, h2, only_trans g1 g2⟩
    · rw [if_neg (by omega)] at HX
      have HX := Lib.hid HX
      clear h0
      go_enter Tryz.func59, Tryz.ntmps59
      go_wp2_with (first | (go_at_call 61; refine HC.out.mono ?_; rintro e w1 ⟨rfl, h1, g1⟩) | (go_at_call 83; refine (off_any _ _ _ (by assumption)).mono ?_; rintro e w' ⟨rfl, rfl⟩) | (go_at_call 84; refine (fail_any _ _ _ _ (by assumption) H0.out).mono ?_; rintro e w2 ⟨rfl, h2, g2⟩))
      go_ret
      rw [HX.out]
      exact ⟨rfl, h1, g1⟩
  · have hb0 := bne0 h0
    rw [if_neg (by omega)] at HX
    have HX := Lib.hid HX
    go_enter Tryz.func59, Tryz.ntmps59
    go_wp2_with (first | (go_at_call 61; refine HC.out.mono ?_; rintro e w1 ⟨rfl, h1, g1⟩) | (go_at_call 83; refine (off_any _ _ _ (by assumption)).mono ?_; rintro e w' ⟨rfl, rfl⟩) | (go_at_call 84; refine (fail_any _ _ _ _ (by assumption) H0.out).mono ?_; rintro e w2 ⟨rfl, h2, g2⟩))
    go_ret
    rw [HX.out]
    exact ⟨rfl, h1, g1⟩

theorem rdCount_ok {r : Rd} {m : Int} (h : r.ok) : (rdCount r m).2.ok := by
  unfold rdCount
  simp only []
  split <;> exact rdNum_ok h
theorem rdCount_le (r : Rd) (m : Int) : (rdCount r m).1 ≤ 4611686018427387903 := by
  unfold rdCount
  simp only []
  split
  · simp
  · exact rdNum_le r

set_option maxRecDepth 100000 in
theorem text_any (b : Nat) (r : Rd) (most : Int) (w : World) (h : Rdr w b r) (ho : r.ok) :
    Calls Tryz.prog 60 #[.pointer (some ⟨b, 0, none⟩), .int .i64 most] w fun e w' => e = .returned (.string (rdText r most).1) ∧ Rdr w' b (rdText r most).2 ∧ w.grownBy w' (some b) := by
  have hc := count_any b r most w h ho
  have hle := rdCount_le r most
  have ho1 := rdCount_ok (m := most) ho
  unfold rdText
  obtain ⟨n, r1, hx⟩ : ∃ n r1, rdCount r most = (n, r1) := ⟨_, _, rfl⟩
  rw [hx] at hc hle ho1 ⊢
  simp only [] at hc hle ho1 ⊢
  have HC := Lib.hid hc
  clear hc hx
  go_enter Tryz.func60, Tryz.ntmps60
  go_wp2_with (first | (go_at_call 59; refine HC.out.mono ?_; rintro e w1 ⟨rfl, h1, g1⟩) | (go_at_call 62; refine (raw_any _ _ _ _ (by assumption) ho1 (by omega) (by omega)).mono ?_; rintro e w2 ⟨rfl, h2, g2⟩))
  go_ret
  exact ⟨rfl, h2, only_trans g1 g2⟩
end Go.Proofs.YtmcgaaihdjpdgaaGreatDoor
