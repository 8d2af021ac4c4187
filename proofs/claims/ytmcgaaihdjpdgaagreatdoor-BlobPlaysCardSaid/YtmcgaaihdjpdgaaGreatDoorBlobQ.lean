/- Chapter 11: a law's world; BlobLacks. -/
import Derived.Test.YtmcgaaihdjpdgaaGreatDoorBlobP
import Derived.Test.YtmcgaaihdjpdgaaGreatDoorBlobO
import Derived.Deep.CutRange
namespace Go.Proofs.YtmcgaaihdjpdgaaGreatDoor
open Go.RowKit
set_option linter.unusedVariables false

theorem own_addr {w : World} {B sz n n' c g o : Nat} {e : TypeId} {A : Option Addr} {xs : List Value} (h : w.ownsRow B e sz (.slice A n' c) n xs) (hA : A = some ⟨g, o, none⟩) : B ≤ g ∧ g < w.heap.size := by
  have hlt := h.lt
  rcases h.2 with ⟨h1, _⟩ | ⟨g2, cap, cur, h1, h2, h3, _⟩
  · subst hA; cases h1
  · subst hA
    injection h1 with h1 _ _
    injection h1 with h1
    injection h1 with h1 _ _
    subst h1
    exact ⟨h2, (Array.getElem?_eq_some_iff.1 h3).1⟩
theorem sb0_ge {B k : Nat} (h : SB0 B k) : B ≤ k := by rcases h with h | h | h <;> omega
/-- A law's world: made at w0. -/
structure LW (w0 w : World) (n : Nat) (D : DataW Unit) (S : Nat → Prop) (l : List KpD) (Rs : List RtD) : Prop where
  bs : BS w (w0.heap.size + 2) (w0.heap.size + 1) w0.heap.size n D S l (Rs.map (·.q))
  wb : Blk w (w0.heap.size + 4) 34 #[.pointer (some ⟨w0.heap.size + 2, 0, none⟩), .pointer (some ⟨w0.heap.size + 1, 0, none⟩), .pointer (some ⟨w0.heap.size + 3, 0, none⟩)]
  bl : Below w0.heap.size w0 w
  lo : ∀ k, S k → w0.heap.size ≤ k ∧ k ≠ w0.heap.size + 3 ∧ k ≠ w0.heap.size + 4
  rt : ∀ r ∈ Rs, RtGood D r
theorem LW.new {w0 w : World} (h1 : BS w (w0.heap.size + 2) (w0.heap.size + 1) w0.heap.size 0 (.map []) (SB0 w0.heap.size) [] []) (h2 : Blk w (w0.heap.size + 4) 34 #[.pointer (some ⟨w0.heap.size + 2, 0, none⟩), .pointer (some ⟨w0.heap.size + 1, 0, none⟩), .pointer (some ⟨w0.heap.size + 3, 0, none⟩)])
    (h3 : Below w0.heap.size w0 w) : LW w0 w 0 (.map []) (SB0 w0.heap.size) [] [] :=
  ⟨h1, h2, h3, by rintro k (h | h | h) <;> omega, by simp⟩
theorem LW.below {w0 w w' : World} {n : Nat} {D : DataW Unit} {S : Nat → Prop} {l : List KpD} {Rs : List RtD} (h : LW w0 w n D S l Rs) (hb : Below w.heap.size w w') : LW w0 w' n D S l Rs :=
  ⟨h.bs.below hb, h.wb.below hb h.wb.lt, h.bl.trans (hb.mono h.bl.size), h.lo, h.rt⟩
theorem LW.step {w0 w w' : World} {n n' : Nat} {D D' : DataW Unit} {S S' : Nat → Prop} {l l' : List KpD} {Rs Rs' : List RtD} (h : LW w0 w n D S l Rs) (hb : BS w' (w0.heap.size + 2) (w0.heap.size + 1) w0.heap.size n' D' S' l' (Rs'.map (·.q))) (hs : Stp S S' w w')
    (hr : ∀ r ∈ Rs', RtGood D' r) : LW w0 w' n' D' S' l' Rs' := by
  have hlt := h.wb.lt
  refine ⟨hb, hs.1.blk h.wb (fun hk => (h.lo _ hk).2.2 rfl), h.bl.trans (hs.1.below h.bl.size (fun k hk => (h.lo k hk).1)), fun k hk => ?_, hr⟩
  rcases hs.2 k hk with h1 | h1
  · exact h.lo k h1
  · omega
theorem LW.good {w0 w : World} {n n' : Nat} {D D' : DataW Unit} {S S' : Nat → Prop} {l l' : List KpD} {Rs : List RtD} (h : LW w0 w n D S l Rs) (hD : ∀ s q, Marked D s q → Marked D' s q) : ∀ r ∈ Rs, RtGood D' r := fun r hr => (h.rt r hr).mono hD
/-- A call that changes what is kept. -/
theorem LW.go {w0 w w' : World} {n n' : Nat} {D D' : DataW Unit} {S S' : Nat → Prop} {l l' : List KpD} {Rs : List RtD} (h : LW w0 w n D S l Rs) (hb : BS w' (w0.heap.size + 2) (w0.heap.size + 1) w0.heap.size n' D' S' l' (Rs.map (·.q))) (hs : Stp S S' w w') (hD : ∀ s q, Marked D s q → Marked D' s q) : LW w0 w' n' D' S' l' Rs :=
  h.step hb hs (fun r hr => (h.rt r hr).mono hD)
theorem save_L {w0 w : World} {n : Nat} {D : DataW Unit} {S : Nat → Prop} {l : List KpD} {Rs : List RtD} (A : Option Addr) (c : Nat) (fl : List FileD) (h : LW w0 w n D S l Rs) (hn : n + 2 * fl.length ≤ 60000) (hz : fl.length ≤ 60) (hx : ∀ f ∈ fl, FOk f) (hd : ∀ f ∈ fl, f.data.size ≤ 65536)
    (ha : Arr w w.heap.size 3 A fl.length (fcells fl)) (hA : ∀ g o, A = some ⟨g, o, none⟩ → ¬ S g) (hm : Ml w0) :
    Calls Tryz.prog 20 #[.pointer (some ⟨w0.heap.size + 2, 0, none⟩), .slice A fl.length c] w fun e w' =>
      (checkE fl ≠ 0 ∧ e = .returned (.tuple #[.string ⟨#[]⟩, .int .i64 (checkE fl)]) ∧ Below w.heap.size w w') ∨
      (checkE fl = 0 ∧ ∃ r D' S' l', e = .returned (.tuple #[.string r.q, .int .i64 0]) ∧ r.fl = fl ∧ LW w0 w' (n + 2 * fl.length + 1) D' S' l' (Rs ++ [r]) ∧ Stp S S' w w' ∧ (∀ s q, Marked D s q → Marked D' s q) ∧ ∀ t, cntT l' t = cntT l t + occ t r.need) := by
  refine (save_S A c fl w h.bs hn hz hx hd ha hA (hm.on h.bl)).mono ?_
  rintro e w' (⟨h1, h2, h3⟩ | ⟨h1, q, acc, D', S', l', h2, h3, h4, h5, h6, h7, h8, h9⟩)
  · exact .inl ⟨h1, h2, h3⟩
  · refine .inr ⟨h1, ⟨q, fl, acc⟩, D', S', l', h2, rfl, h.step (by rw [List.map_append]; exact h7) h8 ?_, h8, h6, h9⟩
    intro r hr
    rcases List.mem_append.1 hr with hr | hr
    · exact (h.rt r hr).mono h6
    · obtain rfl := List.mem_singleton.1 hr
      exact ⟨h5, h3, h4⟩
theorem save_bad {w0 w : World} {n : Nat} {D : DataW Unit} {S : Nat → Prop} {l : List KpD} {Rs : List RtD} (A : Option Addr) (c : Nat) (fl : List FileD) (h : LW w0 w n D S l Rs) (hn : n + 2 * fl.length ≤ 60000) (hz : fl.length ≤ 60) (hx : ∀ f ∈ fl, FOk f) (hd : ∀ f ∈ fl, f.data.size ≤ 300)
    (ha : Arr w w.heap.size 3 A fl.length (fcells fl)) (hA : ∀ g o, A = some ⟨g, o, none⟩ → ¬ S g) (hm : Ml w0) (hE : checkE fl ≠ 0) :
    Calls Tryz.prog 20 #[.pointer (some ⟨w0.heap.size + 2, 0, none⟩), .slice A fl.length c] w fun e w' => e = .returned (.tuple #[.string ⟨#[]⟩, .int .i64 (checkE fl)]) ∧ Below w.heap.size w w' :=
  (save_L A c fl h hn hz hx (fun f hf => Nat.le_trans (hd f hf) (by decide)) ha hA hm).mono (fun e w' hh => by rcases hh with hh | hh; exact hh.2; exact absurd hh.1 hE)
theorem save_ok {w0 w : World} {n : Nat} {D : DataW Unit} {S : Nat → Prop} {l : List KpD} {Rs : List RtD} (A : Option Addr) (c : Nat) (fl : List FileD) (h : LW w0 w n D S l Rs) (hn : n + 2 * fl.length ≤ 60000) (hz : fl.length ≤ 60) (hx : ∀ f ∈ fl, FOk f) (hd : ∀ f ∈ fl, f.data.size ≤ 300)
    (ha : Arr w w.heap.size 3 A fl.length (fcells fl)) (hA : ∀ g o, A = some ⟨g, o, none⟩ → ¬ S g) (hm : Ml w0) (hE : checkE fl = 0) :
    Calls Tryz.prog 20 #[.pointer (some ⟨w0.heap.size + 2, 0, none⟩), .slice A fl.length c] w fun e w' => ∃ r D' S' l', e = .returned (.tuple #[.string r.q, .int .i64 0]) ∧ r.fl = fl ∧ LW w0 w' (n + 2 * fl.length + 1) D' S' l' (Rs ++ [r]) ∧ Stp S S' w w' ∧ (∀ s q, Marked D s q → Marked D' s q) ∧ ∀ t, cntT l' t = cntT l t + occ t r.need :=
  (save_L A c fl h hn hz hx (fun f hf => Nat.le_trans (hd f hf) (by decide)) ha hA hm).mono (fun e w' hh => by rcases hh with hh | hh; exact absurd hE hh.1; exact hh.2)
end Go.Proofs.YtmcgaaihdjpdgaaGreatDoor
