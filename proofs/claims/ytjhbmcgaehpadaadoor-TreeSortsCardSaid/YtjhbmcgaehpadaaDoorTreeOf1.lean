/- The manifest that bytes are, as plain data: no program in sight. -/
import Derived.Test.YtjhbmcgaehpadaaDoorTreeBytes1
import Derived.Test.YtjhbmcgaehpadaaDoorRdListPlain
namespace Go.Proofs.YtjhbmcgaehpadaaDoor
open Go.RowKit
set_option linter.unusedVariables false

/-- One item behind the path last: what is wrong, or the item and the reader behind it. -/
def itErr (last : ByteArray) (n : Nat) (t : ByteArray) (e : Int) : Int :=
  if e ≠ 0 then e else if last.size < n then 5 else if sharedL last.data.toList (last.extract 0 n ++ t).data.toList = n then 0 else 5
def manGo : Nat → ByteArray → List ItemD → Rd → Int × List ItemD × Rd
  | 0, _, acc, r => (0, acc, r)
  | k + 1, last, acc, r =>
    let x1 := rdCount r 200
    let x2 := rdText x1.2 200
    let x3 := rdNum x2.2
    let x4 := rdNum x3.2
    let x5 := rdRaw x4.2 32
    if itErr last x1.1 x2.1 x5.2.e = 0 then manGo k (last.extract 0 x1.1 ++ x2.1) (acc ++ [⟨last.extract 0 x1.1 ++ x2.1, x3.1, x4.1, x5.1⟩]) x5.2
    else (itErr last x1.1 x2.1 x5.2.e, [], r)
/-- What is told of the reader's end. -/
def manEnd (y : Int × List ItemD × Rd) : Int × List ItemD :=
  if y.1 = 0 then if (rdEnd y.2.2).e = 0 then if rightE y.2.1 = 0 then (0, y.2.1) else (rightE y.2.1, []) else ((rdEnd y.2.2).e, []) else (y.1, [])
def manOf (s : ByteArray) : Int × List ItemD := manEnd (manGo (rdCount ⟨s, 0, 0⟩ 256).1 .empty [] (rdCount ⟨s, 0, 0⟩ 256).2)
theorem manGo_step {k : Nat} {last : ByteArray} {acc : List ItemD} {r r1 r2 r3 r4 r5 : Rd} {n m z : Nat} {t q : ByteArray}
    (h1 : rdCount r 200 = (n, r1)) (h2 : rdText r1 200 = (t, r2)) (h3 : rdNum r2 = (m, r3)) (h4 : rdNum r3 = (z, r4)) (h5 : rdRaw r4 32 = (q, r5)) (h0 : itErr last n t r5.e = 0) :
    manGo (k + 1) last acc r = manGo k (last.extract 0 n ++ t) (acc ++ [⟨last.extract 0 n ++ t, m, z, q⟩]) r5 := by
  rw [manGo]
  simp only [h1, h2, h3, h4, h5]
  rw [if_pos h0]
theorem manGo_stop {k : Nat} {last : ByteArray} {acc : List ItemD} {r r1 r2 r3 r4 r5 : Rd} {n m z : Nat} {t q : ByteArray}
    (h1 : rdCount r 200 = (n, r1)) (h2 : rdText r1 200 = (t, r2)) (h3 : rdNum r2 = (m, r3)) (h4 : rdNum r3 = (z, r4)) (h5 : rdRaw r4 32 = (q, r5)) (h0 : itErr last n t r5.e ≠ 0) :
    manEnd (manGo (k + 1) last acc r) = (itErr last n t r5.e, []) := by
  rw [manGo]
  simp only [h1, h2, h3, h4, h5]
  rw [if_neg h0]
  unfold manEnd
  rw [if_neg h0]
theorem manEnd_end {acc : List ItemD} {r : Rd} (h : (rdEnd r).e ≠ 0) : manEnd (0, acc, r) = ((rdEnd r).e, []) := by unfold manEnd; rw [if_pos rfl, if_neg h]
theorem manEnd_right {acc : List ItemD} {r : Rd} (h : (rdEnd r).e = 0) (h2 : rightE acc ≠ 0) : manEnd (0, acc, r) = (rightE acc, []) := by unfold manEnd; rw [if_pos rfl, if_pos h, if_neg h2]
theorem manEnd_ok {acc : List ItemD} {r : Rd} (h : (rdEnd r).e = 0) (h2 : rightE acc = 0) : manEnd (0, acc, r) = (0, acc) := by unfold manEnd; rw [if_pos rfl, if_pos h, if_pos h2]
theorem itErr_bad {last t : ByteArray} {n : Nat} {e : Int} (h : e ≠ 0) : itErr last n t e = e := if_pos h
theorem itErr_far {last t : ByteArray} {n : Nat} {e : Int} (h : e = 0) (h2 : last.size < n) : itErr last n t e = 5 := by unfold itErr; rw [if_neg (by simp [h]), if_pos h2]
theorem itErr_share {last t : ByteArray} {n : Nat} {e : Int} (h : e = 0) (h2 : ¬ last.size < n) (h3 : sharedL last.data.toList (last.extract 0 n ++ t).data.toList ≠ n) : itErr last n t e = 5 := by unfold itErr; rw [if_neg (by simp [h]), if_neg h2, if_neg h3]
theorem itErr_ok {last t : ByteArray} {n : Nat} {e : Int} (h : e = 0) (h2 : ¬ last.size < n) (h3 : sharedL last.data.toList (last.extract 0 n ++ t).data.toList = n) : itErr last n t e = 0 := by unfold itErr; rw [if_neg (by simp [h]), if_neg h2, if_pos h3]
theorem rdRaw_size (r : Rd) (n : Int) : (rdRaw r n).1.size ≤ r.s.size := by
  unfold rdRaw
  split
  · exact Nat.zero_le _
  · split
    · exact Nat.zero_le _
    · split
      · exact Nat.zero_le _
      · simp; omega
theorem rdText_size (r : Rd) (m : Int) : (rdText r m).1.size ≤ r.s.size := by
  unfold rdText
  have := rdRaw_size (rdCount r m).2 (rdCount r m).1
  rwa [rdCount_s] at this
theorem rdCount_most_ (r : Rd) {m : Int} (h : 0 ≤ m) : ((rdCount r m).1 : Int) ≤ m := by
  unfold rdCount
  simp only []
  split
  · exact h
  · rename_i h0
    by_cases he : (rdNum r).2.e = 0
    · have : ¬ m < ((rdNum r).1 : Int) := fun hl => h0 ⟨he, hl⟩
      omega
    · rw [rdNum_err he]
      omega
/-- The five reads of an item, named. -/
theorem reads5 (r : Rd) (ho : r.ok) : ∃ (n : Nat) (r1 : Rd) (t : ByteArray) (r2 : Rd) (m : Nat) (r3 : Rd) (z : Nat) (r4 : Rd) (q : ByteArray) (r5 : Rd),
    rdCount r 200 = (n, r1) ∧ rdText r1 200 = (t, r2) ∧ rdNum r2 = (m, r3) ∧ rdNum r3 = (z, r4) ∧ rdRaw r4 32 = (q, r5) ∧
    (r1.ok ∧ r2.ok ∧ r3.ok ∧ r4.ok ∧ r5.ok) ∧ (t.size ≤ r.s.size ∧ q.size ≤ r.s.size ∧ m ≤ 4611686018427387903 ∧ z ≤ 4611686018427387903 ∧ n ≤ 4611686018427387903) ∧ r5.s = r.s := by
  have o1 := rdCount_ok' (m := 200) ho
  have e1 := rdCount_s r 200
  have l1 := rdCount_le r 200
  obtain ⟨n, r1, h1⟩ : ∃ n r1, rdCount r 200 = (n, r1) := ⟨_, _, rfl⟩
  rw [h1] at o1 e1 l1
  simp only [] at o1 e1 l1
  have o2 := rdText_ok (m := 200) o1
  have e2 := rdText_s r1 200
  have l2 := rdText_size r1 200
  obtain ⟨t, r2, h2⟩ : ∃ t r2, rdText r1 200 = (t, r2) := ⟨_, _, rfl⟩
  rw [h2] at o2 e2 l2
  simp only [] at o2 e2 l2
  have o3 := rdNum_ok o2
  have e3 := rdNum_s r2
  have l3 := rdNum_le r2
  obtain ⟨m, r3, h3⟩ : ∃ m r3, rdNum r2 = (m, r3) := ⟨_, _, rfl⟩
  rw [h3] at o3 e3 l3
  simp only [] at o3 e3 l3
  have o4 := rdNum_ok o3
  have e4 := rdNum_s r3
  have l4 := rdNum_le r3
  obtain ⟨z, r4, h4⟩ : ∃ z r4, rdNum r3 = (z, r4) := ⟨_, _, rfl⟩
  rw [h4] at o4 e4 l4
  simp only [] at o4 e4 l4
  have o5 := rdRaw_ok (n := 32) o4
  have e5 := rdRaw_s r4 32
  have l5 := rdRaw_size r4 32
  obtain ⟨q, r5, h5⟩ : ∃ q r5, rdRaw r4 32 = (q, r5) := ⟨_, _, rfl⟩
  rw [h5] at o5 e5 l5
  simp only [] at o5 e5 l5
  rw [e1] at l2
  rw [e4, e3, e2, e1] at l5
  exact ⟨n, r1, t, r2, m, r3, z, r4, q, r5, h1, h2, h3, h4, h5, ⟨o1, o2, o3, o4, o5⟩, ⟨l2, l5, l3, l4, l1⟩, by rw [e5, e4, e3, e2, e1]⟩
theorem icells_snoc (l : List ItemD) (f : ItemD) : icells (l ++ [f]) = icells l ++ (#[Value.string f.path, .int .i64 f.mode, .int .i64 f.size, .string f.mark] : Array Value).toList := by rw [icells_app]; rfl
/-- A new manifest, and a number. -/
def ItemsOut (w : World) (l : List ItemD) (E : Int) (e : Ending) (w' : World) : Prop := ∃ A c, e = .returned (.tuple #[.slice A l.length c, .int .i64 E]) ∧ Arr w' w'.heap.size 4 A l.length (icells l) ∧ Fresh w.heap.size A ∧ l.length ≤ c ∧ Below w.heap.size w w'
theorem infoItem : (Tryd.prog.info? 56).map (fun i => (i.zero, i.size, i.bytes)) = some (some (.agg #[.string ⟨#[]⟩, .int .i64 0, .int .i64 0, .string ⟨#[]⟩]), 4, 48) := by kernel_rfl
theorem item_zero : (Value.agg #[.string ⟨#[]⟩, .int .i64 0, .int .i64 0, .string ⟨#[]⟩]).cells.size = 4 := rfl
theorem item_one (p q : ByteArray) (m z : Int) : ∀ u ∈ (#[Value.string p, .int .i64 m, .int .i64 z, .string q] : Array Value).toList, u.oneCell' = true := by simp [Value.oneCell']

theorem own_slice {w : World} {base : Nat} {e : TypeId} {size n c : Nat} {A : Option Addr} {xs : List Value} (h : w.ownsRow base e size (.slice A n c) n xs) : Arr w w.heap.size size A n xs := by
  obtain ⟨A', c', hv, _, ha, _⟩ := own_arr h
  injection hv with h1
  rw [h1]
  exact ha
theorem own_ne {w : World} {base b : Nat} {e : TypeId} {size n : Nat} {v : Value} {xs : List Value} (h : w.ownsRow base e size v n xs) (hb : b < base) : v.ownBlock ≠ some b := fun e => by have := (h.lt b e).1; omega
theorem below_grown {w a c : World} {b : Nat} (h : Below w.heap.size w a) (g : a.grownBy c (some b)) (hb : w.heap.size ≤ b) : Below w.heap.size w c := h.grown g h.size (fun j hj => by injection hj with hj; omega)
set_option maxHeartbeats 1000000 in
set_option maxRecDepth 100000 in
theorem items_same (A : Option Addr) (c : Nat) (B : Option Addr) (d : Nat) (l : List ItemD) (w : World) (hz : l.length ≤ 9223372036854775807)
    (ha : Arr w w.heap.size 4 A l.length (icells l)) (hb : Arr w w.heap.size 4 B l.length (icells l)) :
    Calls Tryd.prog 41 #[.slice A l.length c, .slice B l.length d] w fun e w' => e = .returned (.bool true) ∧ Below w.heap.size w w' := by
  have HA := Lib.hid ha
  have HB := Lib.hid hb
  clear ha hb
  go_enter Tryd.func41, Tryd.ntmps41
  go_wp2
  go_loopw [5] (fun v wr => ∃ (k : Nat), k ≤ l.length ∧ v = .int .i64 k ∧ Below w.heap.size w wr) (fun v _ => l.length - (intOf v).toNat)
  case atStart => exact ⟨0, Nat.zero_le _, rfl, Below.refl _ _⟩
  case round =>
    obtain ⟨k, hk, rfl, hB⟩ := hrel
    by_cases hlt : k < l.length
    · obtain ⟨f, hf⟩ : ∃ f, l[k]? = some f := ⟨_, List.getElem?_eq_getElem hlt⟩
      obtain ⟨b, o, rfl, hb, hcell⟩ := HA.out.2 (by omega)
      obtain ⟨b2, o2, rfl, hb2, hcell2⟩ := HB.out.2 (by omega)
      obtain ⟨c0, c1, c2, c3⟩ := item_cells (fun i u h => (hB.cell (p := ⟨b, o + i, none⟩) hb).trans (hcell i u h)) hf
      obtain ⟨e0, e1, e2, e3⟩ := item_cells (fun i u h => (hB.cell (p := ⟨b2, o2 + i, none⟩) hb2).trans (hcell2 i u h)) hf
      clear hf hcell hcell2
      have kl : (k : Int) < l.length := by omega
      go_wp2
      go_quiet (fail)
      go_wp2
      go_roundw
      case rel => exact ⟨k + 1, by omega, by go_num, below_drewN hB _⟩
      case measure => simp [intOf] <;> omega
    · go_wp2
      go_ret
      exact ⟨rfl, hB⟩
end Go.Proofs.YtjhbmcgaehpadaaDoor
