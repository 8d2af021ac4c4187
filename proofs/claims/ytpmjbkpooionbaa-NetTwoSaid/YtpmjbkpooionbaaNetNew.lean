/- A net: what it is, and the walks of its small functions. -/
import Derived.Test.YtpmjbkpooionbaaFrame
import Derived.Test.YtpmjbkpooionbaaDelete
import Derived.Conc.LoneSelect
import Derived.KernelRfl
set_option linter.unusedVariables false
namespace Go.Proofs.Ytpmjbkpooionbaa
open Go.RowKit Go.Conc

theorem bytesStr : ∃ i, Try.prog.info? 9 = some i ∧ i.bytes = 16 := by
  have h : (Try.prog.info? 9).map (·.bytes) = some 16 := by kernel_rfl
  obtain ⟨i, hi, hb⟩ := Option.map_eq_some_iff.1 h
  exact ⟨i, hi, hb⟩
theorem mk1 (w : World) : (Instr.makeChan 47 (.int .i64 1)).run Try.prog w = .ok (.chan (some w.heap.size)) (w.alloc (.chan 1 #[] false 0 0 false)) := by
  obtain ⟨i, hi, hb⟩ := bytesStr
  simpa using run_makeChan (P := Try.prog) (w := w) Try.underlying47 hi .i64 1 (by omega) (by rw [hb]; omega)

structure NetAt (w : World) (base b ch : Nat) (V : Value) (L : List ByteArray) (sent lost : Nat) : Prop where
  blk : Blk w b 49 #[V, .chan (some ch), .int .i64 sent, .int .i64 lost]
  own : w.ownsRow base 9 1 V L.length (L.map Value.string)
  chn : ∃ s r, w.heap[ch]? = some (.chan 1 #[] false s r false)
  hb : base ≤ b
  hc : base ≤ ch

/-- The blocks that a net has. -/
def NS (b ch : Nat) (V : Value) (k : Nat) : Prop := k = b ∨ k = ch ∨ V.ownBlock = some k
/-- Where a row lies behind a step: where it lay, or in a new block. -/
def Moved (w : World) (V V' : Value) : Prop := ∀ k, V'.ownBlock = some k → V.ownBlock = some k ∨ w.heap.size ≤ k

set_option maxRecDepth 100000 in
theorem net_new (w : World) : Calls Try.prog 8 #[] w fun e w' => e = .returned (.pointer (some ⟨w.heap.size + 1, 0, none⟩)) ∧ NetAt w' w.heap.size (w.heap.size + 1) w.heap.size (.slice none 0 0) [] 0 0 ∧ Below w.heap.size w w' := by
  have hmc := mk1
  go_enter Try.func8, Try.ntmps8
  go_wp2
  go_ret
  have h0 := heap_alloc_new w (.chan 1 #[] false 0 0 false)
  have hB : Below w.heap.size w (w.alloc (.chan 1 #[] false 0 0 false)) := (Below.refl _ w).alloc (Nat.le_refl _) _
  have hs : (w.alloc (.chan 1 #[] false 0 0 false)).heap.size = w.heap.size + 1 := by simp
  have h1 : Blk ((w.alloc (.chan 1 #[] false 0 0 false)).alloc (.cells #[.slice none 0 0, .chan (some w.heap.size), .int .i64 0, .int .i64 0] 49)) (w.heap.size + 1) 49 #[.slice none 0 0, .chan (some w.heap.size), .int .i64 0, .int .i64 0] := by
    rw [← hs]
    exact Blk.new _ _ _
  exact ⟨rfl, ⟨h1, World.ownsRow_nil _ _ _ _, ⟨0, 0, (Below.heap_alloc _ _ _ (by simp)).trans h0⟩, by omega, Nat.le_refl _⟩, hB.alloc (by simp) _⟩

section
variable {w w' : World} {base b ch : Nat} {V : Value} {L : List ByteArray} {sent lost : Nat}
theorem NetAt.c0 (h : NetAt w base b ch V L sent lost) : w.cell? ⟨b, 0, none⟩ = some V := Blk.cell h.blk 0
theorem NetAt.c1 (h : NetAt w base b ch V L sent lost) : w.cell? ⟨b, 1, none⟩ = some (.chan (some ch)) := Blk.cell h.blk 1
theorem NetAt.c2 (h : NetAt w base b ch V L sent lost) : w.cell? ⟨b, 2, none⟩ = some (.int .i64 sent) := Blk.cell h.blk 2
theorem NetAt.c3 (h : NetAt w base b ch V L sent lost) : w.cell? ⟨b, 3, none⟩ = some (.int .i64 lost) := Blk.cell h.blk 3
theorem NetAt.f0 (h : NetAt w base b ch V L sent lost) : w.frozen? ⟨b, 0, none⟩ = false := Blk.frozen h.blk 0
theorem NetAt.f2 (h : NetAt w base b ch V L sent lost) : w.frozen? ⟨b, 2, none⟩ = false := Blk.frozen h.blk 2
theorem NetAt.f3 (h : NetAt w base b ch V L sent lost) : w.frozen? ⟨b, 3, none⟩ = false := Blk.frozen h.blk 3
theorem NetAt.lt (h : NetAt w base b ch V L sent lost) : b < w.heap.size := Blk.lt h.blk
theorem NetAt.ltc (h : NetAt w base b ch V L sent lost) : ch < w.heap.size := by
  obtain ⟨s, r, hc⟩ := h.chn
  rcases Nat.lt_or_ge ch w.heap.size with h | h
  · exact h
  · rw [Array.getElem?_eq_none h] at hc; cases hc
theorem NetAt.bc (h : NetAt w base b ch V L sent lost) : b ≠ ch := by
  rintro rfl
  obtain ⟨s, r, hc⟩ := h.chn
  have := h.blk
  unfold Blk at this
  rw [this] at hc
  simp at hc
theorem NetAt.own_ne (h : NetAt w base b ch V L sent lost) : V.ownBlock ≠ some b ∧ V.ownBlock ≠ some ch := by
  constructor
  · intro he
    rcases h.own.2 with ⟨rfl, _⟩ | ⟨g, cap, cur, rfl, _, hg, _⟩
    · simp [Value.ownBlock] at he
    · simp [Value.ownBlock] at he
      subst he
      have := h.blk
      unfold Blk at this
      rw [this] at hg
      simp at hg
  · intro he
    rcases h.own.2 with ⟨rfl, _⟩ | ⟨g, cap, cur, rfl, _, hg, _⟩
    · simp [Value.ownBlock] at he
    · simp [Value.ownBlock] at he
      subst he
      obtain ⟨s, r, hc⟩ := h.chn
      rw [hc] at hg
      simp at hg
/-- What turned none of a net's blocks leaves it as it is. -/
theorem NetAt.fr {S : Nat → Prop} (h : NetAt w base b ch V L sent lost) (f : Fr S w w') (hs : ∀ k, NS b ch V k → ¬ S k) : NetAt w' base b ch V L sent lost :=
  ⟨Fr.blk f h.blk (hs b (.inl rfl)), Fr.own f h.own (fun k hk => hs k (.inr (.inr hk))), by
    obtain ⟨s, r, hc⟩ := h.chn
    exact ⟨s, r, (f.block ch h.ltc (hs ch (.inr (.inl rfl)))).trans hc⟩, h.hb, h.hc⟩
end

set_option maxRecDepth 100000 in
theorem net_len (base b ch : Nat) (V : Value) (L : List ByteArray) (sent lost : Nat) (w : World) (h : NetAt w base b ch V L sent lost) :
    Calls Try.prog 11 #[.pointer (some ⟨b, 0, none⟩)] w fun e w' => e = .returned (.int .i64 L.length) ∧ w = w' := by
  obtain ⟨A, c, rfl, hcap, harr, hfr⟩ := own_arr h.own
  have c0 := h.c0
  go_enter Try.func11, Try.ntmps11
  go_wp2
  go_ret
  exact ⟨rfl, rfl⟩

set_option maxRecDepth 100000 in
theorem net_counts (base b ch : Nat) (V : Value) (L : List ByteArray) (sent lost : Nat) (w : World) (h : NetAt w base b ch V L sent lost) :
    Calls Try.prog 14 #[.pointer (some ⟨b, 0, none⟩)] w fun e w' => e = .returned (.tuple #[.int .i64 sent, .int .i64 lost]) ∧ ∃ n, w' = w.drewN n := by
  have c2 := h.c2
  have c3 := h.c3
  go_enter Try.func14, Try.ntmps14
  go_wp2
  go_quiet (fail)
  go_wp2
  go_ret2
  exact ⟨rfl, _, rfl⟩

def peekS (L : List ByteArray) (i : Int) : ByteArray := if i < 0 then ByteArray.empty else (L[i.toNat]?).getD ByteArray.empty
def peekE (L : List ByteArray) (i : Int) : Int := if 0 ≤ i ∧ i < L.length then 0 else 2
theorem peek_no {L : List ByteArray} {i : Int} (h : ¬ (0 ≤ i ∧ i < L.length)) : peekS L i = ByteArray.empty ∧ peekE L i = 2 := by
  refine ⟨?_, if_neg h⟩
  unfold peekS
  split
  · rfl
  · rw [List.getElem?_eq_none (by omega)]
    rfl
theorem peek_ok {L : List ByteArray} {i : Nat} {x : ByteArray} (h : L[i]? = some x) : peekS L i = x ∧ peekE L i = 0 := by
  have hlt : i < L.length := by
    rcases Nat.lt_or_ge i L.length with h' | h'
    · exact h'
    · rw [List.getElem?_eq_none h'] at h; cases h
  refine ⟨?_, if_pos (by omega)⟩
  unfold peekS
  rw [if_neg (by omega), Int.toNat_natCast, h]
  rfl

set_option maxRecDepth 100000 in
theorem net_peek (base b ch : Nat) (V : Value) (L : List ByteArray) (sent lost : Nat) (i : Int) (w : World) (h : NetAt w base b ch V L sent lost) (hl : L.length ≤ 4096) (i0 : -9223372036854775808 ≤ i) (i1 : i ≤ 9223372036854775807) :
    Calls Try.prog 19 #[.pointer (some ⟨b, 0, none⟩), .int .i64 i] w fun e w' => e = .returned (.tuple #[.string (peekS L i), .int .i64 (peekE L i)]) ∧ w = w' := by
  by_cases hi : 0 ≤ i ∧ i < L.length
  · obtain ⟨k, rfl⟩ : ∃ k : Nat, i = k := ⟨i.toNat, by omega⟩
    have hk : k < L.length := by omega
    obtain ⟨x, hx⟩ : ∃ x, L[k]? = some x := ⟨_, List.getElem?_eq_getElem hk⟩
    obtain ⟨A, c, rfl, hcap, harr, hfr⟩ := own_arr h.own
    obtain ⟨ab, ao, rfl, hab, hcell⟩ := harr.2 (by omega)
    have hc := hcell k (.string x) (by simp [hx])
    have c0 := h.c0
    have HP := Lib.hid (peek_ok hx)
    have g1 : ((L.length : Int) == 0) = false := beq_eq_false_iff_ne.2 (by omega)
    have g2 : decide ((k : Int) < 0) = false := by simp
    have g3 : decide ((L.length : Int) ≤ (k : Int)) = false := by simp; omega
    clear hx hcell harr
    go_enter Try.func19, Try.ntmps19
    go_wp2_with (first | (go_at_call 11; refine (net_len base b ch _ L sent lost _ h).mono ?_; rintro e w1 ⟨rfl, rfl⟩))
    go_ret2
    rw [HP.out.1, HP.out.2]
    exact ⟨rfl, rfl⟩
  · have HP := Lib.hid (peek_no hi)
    have hg : (((L.length : Int) == 0) = true) ∨ (((L.length : Int) == 0) = false ∧ decide (i < 0) = true) ∨ (((L.length : Int) == 0) = false ∧ decide (i < 0) = false ∧ decide ((L.length : Int) ≤ i) = true) := by
      by_cases h0 : L.length = 0
      · exact .inl (by simp [h0])
      · by_cases h1 : i < 0
        · exact .inr (.inl ⟨beq_eq_false_iff_ne.2 (by omega), by simpa using h1⟩)
        · exact .inr (.inr ⟨beq_eq_false_iff_ne.2 (by omega), by simp; omega, by simp; omega⟩)
    clear hi
    rcases hg with g1 | ⟨g1, g2⟩ | ⟨g1, g2, g3⟩
    all_goals
      go_enter Try.func19, Try.ntmps19
      go_wp2_with (first | (go_at_call 11; refine (net_len base b ch _ L sent lost _ h).mono ?_; rintro e w1 ⟨rfl, rfl⟩))
      go_ret2
      rw [HP.out.1, HP.out.2]
      exact ⟨rfl, rfl⟩

set_option maxRecDepth 100000 in
theorem net_clear (base b ch : Nat) (V : Value) (L : List ByteArray) (sent lost : Nat) (w : World) (h : NetAt w base b ch V L sent lost) :
    Calls Try.prog 12 #[.pointer (some ⟨b, 0, none⟩)] w fun e w' => e = .returned (.int .i64 L.length) ∧ NetAt w' base b ch (.slice none 0 0) [] sent lost ∧ Fr (fun k => k = b) w w' := by
  obtain ⟨A, c, rfl, hcap, harr, hfr⟩ := own_arr h.own
  have c0 := h.c0
  have f0 := h.f0
  go_enter Try.func12, Try.ntmps12
  go_wp2
  go_ret
  refine ⟨rfl, ⟨Blk.set_ h.blk 0 _, World.ownsRow_nil _ _ _ _, ?_, h.hb, h.hc⟩, Fr.setCell (S := fun k => k = b) (Fr.refl _ _) (.inl rfl) _⟩
  obtain ⟨s, r, hc⟩ := h.chn
  exact ⟨s, r, (Below.heap_setCell _ _ _ _ (fun e => h.bc e.symm)).trans hc⟩
end Go.Proofs.Ytpmjbkpooionbaa
