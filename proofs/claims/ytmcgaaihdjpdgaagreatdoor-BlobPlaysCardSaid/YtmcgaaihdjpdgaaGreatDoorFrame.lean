/- What a call may have turned: plain lemmas on worlds, no function of the program in sight. -/
import Derived.Test.YtmcgaaihdjpdgaaGreatDoorBase
import Derived.Lib.Builder
namespace Go.Proofs.YtmcgaaihdjpdgaaGreatDoor
open Go.RowKit

/-- All that was there is as it was, but for the blocks of S. -/
structure Fr (S : Nat → Prop) (w w' : World) : Prop where
  os : w'.os = w.os
  tape : w'.tape = w.tape
  output : w'.output = w.output
  size : w.heap.size ≤ w'.heap.size
  block : ∀ k, k < w.heap.size → ¬ S k → w'.heap[k]? = w.heap[k]?

section
variable {S S' : Nat → Prop} {a b c w w' : World}
theorem Fr.refl (S : Nat → Prop) (w : World) : Fr S w w := ⟨rfl, rfl, rfl, Nat.le_refl _, fun _ _ _ => rfl⟩
theorem Fr.mono (h : Fr S w w') (hs : ∀ k, k < w.heap.size → S k → S' k) : Fr S' w w' := ⟨h.os, h.tape, h.output, h.size, fun k hk hn => h.block k hk fun hh => hn (hs k hk hh)⟩
theorem Fr.trans (h : Fr S a b) (k : Fr S' b c) (hs : ∀ i, i < a.heap.size → S' i → S i) : Fr S a c :=
  ⟨k.os.trans h.os, k.tape.trans h.tape, k.output.trans h.output, Nat.le_trans h.size k.size, fun i hi hn => (k.block i (Nat.lt_of_lt_of_le hi h.size) fun hh => hn (hs i hi hh)).trans (h.block i hi hn)⟩
theorem Fr.next (h : Fr S a b) (k : Fr S b c) : Fr S a c := h.trans k fun _ _ x => x
theorem Fr.of_below (h : Below w.heap.size w w') (S : Nat → Prop) : Fr S w w' := ⟨h.os, h.tape, h.output, h.size, fun k hk _ => h.block k hk⟩
theorem Fr.of_belowB {B : Nat} (h : Below B w w') (hs : ∀ k, B ≤ k → S k) : Fr S w w' := ⟨h.os, h.tape, h.output, h.size, fun k _ hn => h.block k (Nat.lt_of_not_le fun hle => hn (hs k hle))⟩
theorem Fr.of_grown {row : Option Nat} (h : w.grownBy w' row) (hs : ∀ k, row = some k → S k) : Fr S w w' := ⟨h.os, h.tape, h.output, h.size, fun k hk hn => h.block k hk fun e => hn (hs k e.symm)⟩
theorem Fr.below {B : Nat} (h : Fr S w w') (hB : B ≤ w.heap.size) (hs : ∀ k, S k → B ≤ k) : Below B w w' := ⟨h.os, h.tape, h.output, h.size, fun k hk => h.block k (Nat.lt_of_lt_of_le hk hB) fun hh => absurd (hs k hh) (by omega)⟩
theorem Fr.grown {row : Option Nat} (h : Fr S w w') (hs : ∀ k, S k → row = some k) : w.grownBy w' row := ⟨h.os, h.tape, h.output, h.size, fun k hk hn => h.block k hk fun hh => hn (hs k hh).symm⟩
theorem Fr.drew (h : Fr S a w) : Fr S a w.drew := ⟨h.os, h.tape, h.output, h.size, h.block⟩
theorem Fr.drewN (h : Fr S a w) (n : Nat) : Fr S a (w.drewN n) := ⟨h.os, h.tape, h.output, h.size, h.block⟩
theorem Fr.alloc (h : Fr S a w) (o : Obj) : Fr S a (w.alloc o) :=
  ⟨h.os, h.tape, h.output, Nat.le_trans h.size (by simp), fun k hk hn => (Below.heap_alloc w o k (Nat.lt_of_lt_of_le hk h.size)).trans (h.block k hk hn)⟩
theorem Fr.setCell (h : Fr S a w) {p : Addr} (hp : S p.block ∨ a.heap.size ≤ p.block) (u : Value) : Fr S a (w.setCell p u) :=
  ⟨h.os, h.tape, h.output, by simpa [World.setCell] using h.size, fun k hk hn => (Below.heap_setCell w p u k (by
    rintro rfl
    rcases hp with hp | hp
    · exact hn hp
    · omega)).trans (h.block k hk hn)⟩
theorem Fr.blk {g : Nat} {t : TypeId} {cs : Array Value} (h : Fr S w w') (hb : Blk w g t cs) (hg : ¬ S g) : Blk w' g t cs := (h.block g hb.lt hg).trans hb
theorem Fr.cell (h : Fr S w w') {p : Addr} (hp : p.block < w.heap.size) (hn : ¬ S p.block) : w'.cell? p = w.cell? p := World.cell?_of_block (w := w) (h.block p.block hp hn)
theorem Fr.own {base : Nat} {e : TypeId} {size n : Nat} {v : Value} {xs : List Value} (h : Fr S w w') (ho : w.ownsRow base e size v n xs) (hn : ∀ k, v.ownBlock = some k → ¬ S k) : w'.ownsRow base e size v n xs := by
  refine ⟨ho.1, ?_⟩
  rcases ho.2 with h2 | ⟨g, cap, cur, hv, hg, hh, r⟩
  · exact Or.inl h2
  · exact Or.inr ⟨g, cap, cur, hv, hg, (h.block g (Array.getElem?_eq_some_iff.1 hh).1 (hn g (by rw [hv]; rfl))).trans hh, r⟩
end

theorem own_mono {w : World} {base base' : Nat} {e : TypeId} {size n : Nat} {v : Value} {xs : List Value} (h : w.ownsRow base e size v n xs) (hb : base' ≤ base) : w.ownsRow base' e size v n xs := by
  refine ⟨h.1, ?_⟩
  rcases h.2 with h2 | ⟨g, cap, cur, hv, hg, r⟩
  · exact Or.inl h2
  · exact Or.inr ⟨g, cap, cur, hv, Nat.le_trans hb hg, r⟩

/-- A slice's cells: nothing is asked of an empty one. -/
def Arr (w : World) (B size : Nat) (A : Option Addr) (n : Nat) (xs : List Value) : Prop :=
  xs.length = n * size ∧ (0 < n → ∃ b o, A = some ⟨b, o, none⟩ ∧ b < B ∧ ∀ i u, xs[i]? = some u → w.cell? ⟨b, o + i, none⟩ = some u)

/-- A slice's row lies from a block on. -/
def Fresh (base : Nat) (A : Option Addr) : Prop := ∀ g o, A = some ⟨g, o, none⟩ → base ≤ g
theorem Fresh.none (base : Nat) : Fresh base none := fun _ _ e => by cases e

section
variable {w w' : World} {B size n : Nat} {A : Option Addr} {xs : List Value}
theorem Arr.grown {b base : Nat} (h : Arr w w.heap.size size A n xs) (g : w.grownBy w' (some b)) (hb : Fresh base A) (hlt : b < base) : Arr w' w'.heap.size size A n xs :=
  ⟨h.1, fun hn => by
    obtain ⟨ab, o, e, hlt2, hc⟩ := h.2 hn
    refine ⟨ab, o, e, Nat.lt_of_lt_of_le hlt2 g.size, fun i u hu => ?_⟩
    refine g.cell (hc i u hu) (fun e' => ?_)
    have := hb ab o e
    injection e' with e'
    simp only at e'
    omega⟩
theorem Arr.keep (h : Arr w B size A n xs) (hk : ∀ p : Addr, p.block < B → w'.cell? p = w.cell? p) : Arr w' B size A n xs :=
  ⟨h.1, fun hn => by
    obtain ⟨b, o, e, hb, hc⟩ := h.2 hn
    exact ⟨b, o, e, hb, fun i u hu => (hk _ hb).trans (hc i u hu)⟩⟩
theorem Arr.below (h : Arr w B size A n xs) (hb : Below B w w') : Arr w' B size A n xs := h.keep fun _ hp => hb.cell hp
theorem Arr.more (h : Arr w B size A n xs) {B' : Nat} (hB : B ≤ B') : Arr w B' size A n xs :=
  ⟨h.1, fun hn => by
    obtain ⟨b, o, e, hb, hc⟩ := h.2 hn
    exact ⟨b, o, e, by omega, hc⟩⟩
theorem Arr.nil (w : World) (B size : Nat) (A : Option Addr) : Arr w B size A 0 [] := ⟨by simp, fun h => absurd h (by omega)⟩
theorem own_arr {base : Nat} {e : TypeId} {v : Value} (h : w.ownsRow base e size v n xs) : ∃ A c, v = .slice A n c ∧ n ≤ c ∧ Arr w w.heap.size size A n xs ∧ Fresh base A := by
  have hlt := h.lt
  rcases h.2 with ⟨rfl, rfl⟩ | ⟨g, cap, cur, rfl, hg, hh, hn, hr⟩
  · exact ⟨none, 0, rfl, Nat.le_refl _, ⟨h.1, fun h => absurd h (by omega)⟩, Fresh.none _⟩
  · refine ⟨_, _, rfl, hn, ⟨h.1, fun _ => ⟨g, 0, rfl, (hlt g rfl).2, fun i u hu => ?_⟩⟩, fun g' o e => (by injection e with e; injection e with e; omega)⟩
    have := h.cells (g := g) rfl i u hu
    have hadd : (⟨g, 0, none⟩ : Addr).add i = ⟨g, 0 + i, none⟩ := by unfold Addr.add; split <;> simp_all
    rw [hadd] at this
    exact this
end

/-- All that was there is as it was, but for block b and rows of type e from b on (what a strings.Builder in block b writes). -/
def SB (e : TypeId) (b : Nat) (w : World) (k : Nat) : Prop := k = b ∨ (b ≤ k ∧ ∃ cs fz, w.heap[k]? = some (.cells cs e fz))
def FrB (e : TypeId) (b : Nat) (w w' : World) : Prop := Fr (SB e b w) w w'
section
variable {e : TypeId} {b : Nat} {w0 w1 w2 w w' : World}
theorem FrB.refl (e : TypeId) (b : Nat) (w : World) : FrB e b w w := Fr.refl _ _
theorem FrB.trans (h : FrB e b w0 w1) (k : FrB e b w1 w2) : FrB e b w0 w2 := by
  refine Fr.trans h k fun i hi hs => ?_
  rcases hs with hs | ⟨hb, cs, fz, hc⟩
  · exact .inl hs
  · by_cases hS : SB e b w0 i
    · exact hS
    · rw [h.block i hi hS] at hc
      exact .inr ⟨hb, cs, fz, hc⟩
theorem FrB.below (h : FrB e b w w') (hb : b ≤ w.heap.size) : Below b w w' := Fr.below h hb fun k hs => by
  rcases hs with rfl | hs
  · exact Nat.le_refl _
  · exact hs.1
theorem FrB.of_below (h : Below w.heap.size w w') : FrB e b w w' := Fr.of_below h _
theorem FrB.blk {g : Nat} {t : TypeId} {cs : Array Value} (h : FrB e b w w') (hb : Blk w g t cs) (hg : g ≠ b) (ht : t ≠ e) : Blk w' g t cs := Fr.blk h hb (by
  rintro (hs | ⟨_, cs', fz, hc⟩)
  · exact hg hs
  · unfold Blk at hb
    rw [hb] at hc
    injection hc with hc
    injection hc with _ hc _
    exact ht hc)
theorem FrB.own {base : Nat} {t : TypeId} {size n : Nat} {v : Value} {xs : List Value} (h : FrB e b w w') (ho : w.ownsRow base t size v n xs) (hg : v.ownBlock ≠ some b) (ht : t ≠ e) : w'.ownsRow base t size v n xs := Fr.own h ho (by
  rintro k hk (hs | ⟨_, cs', fz, hc⟩)
  · exact hg (by rw [hk, hs])
  · rcases ho.2 with ⟨rfl, _⟩ | ⟨g, cap, cur, rfl, _, hh, _⟩
    · cases hk
    · have : g = k := by simpa [Value.ownBlock] using hk
      subst this
      rw [hh] at hc
      injection hc with hc
      injection hc with _ hc _
      exact ht hc)
end

/-- A strings.Builder of the call's own: block b; v its buffer; l what it holds. -/
structure Bld (T e : TypeId) (w : World) (b : Nat) (v : Value) (l : List UInt8) : Prop where
  blk : Blk w b T #[.pointer none, v] ∨ Blk w b T #[.pointer (some ⟨b, 0, none⟩), v]
  own : w.ownsRow b e 1 v l.length (Lib.byteCells l)
section
variable {T e : TypeId} {w w' : World} {b : Nat} {v : Value} {l : List UInt8} {S : Nat → Prop}
theorem Bld.lt (h : Bld T e w b v l) : b < w.heap.size := by
  rcases h.blk with hb | hb <;> exact hb.lt
theorem Bld.ne (h : Bld T e w b v l) (hTe : T ≠ e) : v.ownBlock ≠ some b := by
  rcases h.blk with hb | hb <;> exact Lib.ownBlock_ne h.own hb hTe
theorem Bld.fr (h : Bld T e w b v l) (hf : Fr S w w') (hb : ¬ S b) (hv : ∀ k, v.ownBlock = some k → ¬ S k) : Bld T e w' b v l :=
  ⟨by
    rcases h.blk with hk | hk
    · exact .inl (hf.blk hk hb)
    · exact .inr (hf.blk hk hb), hf.own h.own hv⟩
theorem Bld.new (w : World) (T e : TypeId) : Bld T e (w.alloc (.cells #[.pointer none, .slice none 0 0] T)) w.heap.size (.slice none 0 0) [] :=
  ⟨.inl (Blk.new w _ _), World.ownsRow_nil _ _ _ _⟩
theorem Bld.c1 (h : Bld T e w b v l) : w.cell? ⟨b, 1, none⟩ = some v := by
  rcases h.blk with hk | hk <;> exact hk.cell 1
theorem Bld.f1 (h : Bld T e w b v l) : w.frozen? ⟨b, 1, none⟩ = false := by
  rcases h.blk with hk | hk <;> exact hk.frozen 1
end
end Go.Proofs.YtmcgaaihdjpdgaaGreatDoor
