/- Chapter 10: what stands ahead of files' bytes, and the tree of an image, as plain data; lemmas for the walks. -/
import Derived.Test.YtlfennooocmclaaDoorIm4
import Derived.Laws.OwnMore
namespace Go.Proofs.YtlfennooocmclaaDoor
open Go.RowKit
set_option linter.unusedVariables false

structure SzD where
  f : FileD
  n : Nat
structure HdD where
  e : Int
  l : List SzD
  at_ : Nat
def headGo : Nat → List SzD → Rd → Int × List SzD × Rd
  | 0, acc, r => (r.e, acc, r)
  | k + 1, acc, r =>
    let x1 := rdText r 200
    let x2 := rdNum x1.2
    let x3 := rdCount x2.2 65536
    if x3.2.e = 0 then headGo k (acc ++ [⟨⟨x1.1, x2.1, ⟨#[]⟩⟩, x3.1⟩]) x3.2 else (x3.2.e, [], x3.2)
def headEnd (y : Int × List SzD × Rd) : HdD :=
  if y.1 = 0 then if checkE (y.2.1.map (·.f)) = 0 then ⟨0, y.2.1, y.2.2.at_⟩ else ⟨checkE (y.2.1.map (·.f)), [], 0⟩ else ⟨y.1, [], 0⟩
def headOf (s : ByteArray) : HdD := headEnd (headGo (rdCount ⟨s, 0, 0⟩ 256).1 [] (rdCount ⟨s, 0, 0⟩ 256).2)
theorem headGo_step {k : Nat} {acc : List SzD} {r r1 r2 r3 : Rd} {n m : Nat} {t : ByteArray}
    (h1 : rdText r 200 = (t, r1)) (h2 : rdNum r1 = (m, r2)) (h3 : rdCount r2 65536 = (n, r3)) (h0 : r3.e = 0) :
    headGo (k + 1) acc r = headGo k (acc ++ [⟨⟨t, m, ⟨#[]⟩⟩, n⟩]) r3 := by
  rw [headGo]
  simp only [h1, h2, h3]
  rw [if_pos h0]
theorem headGo_stop {k : Nat} {acc : List SzD} {r r1 r2 r3 : Rd} {n m : Nat} {t : ByteArray}
    (h1 : rdText r 200 = (t, r1)) (h2 : rdNum r1 = (m, r2)) (h3 : rdCount r2 65536 = (n, r3)) (h0 : r3.e ≠ 0) :
    headEnd (headGo (k + 1) acc r) = ⟨r3.e, [], 0⟩ := by
  rw [headGo]
  simp only [h1, h2, h3]
  rw [if_neg h0]
  unfold headEnd
  rw [if_neg h0]
theorem headEnd_bad {acc : List SzD} {r : Rd} (h : r.e ≠ 0) : headEnd (headGo 0 acc r) = ⟨r.e, [], 0⟩ := by rw [headGo]; unfold headEnd; rw [if_neg h]
theorem headEnd_check {acc : List SzD} {r : Rd} (h : r.e = 0) (h2 : checkE (acc.map (·.f)) ≠ 0) : headEnd (headGo 0 acc r) = ⟨checkE (acc.map (·.f)), [], 0⟩ := by rw [headGo]; unfold headEnd; rw [if_pos h, if_neg h2]
theorem headEnd_ok {acc : List SzD} {r : Rd} (h : r.e = 0) (h2 : checkE (acc.map (·.f)) = 0) : headEnd (headGo 0 acc r) = ⟨0, acc, r.at_⟩ := by rw [headGo]; unfold headEnd; rw [if_pos h, if_pos h2]
/-- The three reads of a file, named. -/
theorem reads3 (r : Rd) (ho : r.ok) : ∃ (t : ByteArray) (r1 : Rd) (m : Nat) (r2 : Rd) (n : Nat) (r3 : Rd),
    rdText r 200 = (t, r1) ∧ rdNum r1 = (m, r2) ∧ rdCount r2 65536 = (n, r3) ∧
    (r1.ok ∧ r2.ok ∧ r3.ok) ∧ (t.size ≤ r.s.size ∧ m ≤ 4611686018427387903 ∧ n ≤ 65536) ∧ r3.s = r.s := by
  have o1 := rdText_ok (m := 200) ho
  have e1 := rdText_s r 200
  have l1 := rdText_size r 200
  obtain ⟨t, r1, h1⟩ : ∃ t r1, rdText r 200 = (t, r1) := ⟨_, _, rfl⟩
  rw [h1] at o1 e1 l1
  simp only [] at o1 e1 l1
  have o2 := rdNum_ok o1
  have e2 := rdNum_s r1
  have l2 := rdNum_le r1
  obtain ⟨m, r2, h2⟩ : ∃ m r2, rdNum r1 = (m, r2) := ⟨_, _, rfl⟩
  rw [h2] at o2 e2 l2
  simp only [] at o2 e2 l2
  have o3 := rdCount_ok' (m := 65536) o2
  have e3 := rdCount_s r2 65536
  have l3 := rdCount_most_ r2 (m := 65536) (by decide)
  obtain ⟨n, r3, h3⟩ : ∃ n r3, rdCount r2 65536 = (n, r3) := ⟨_, _, rfl⟩
  rw [h3] at o3 e3 l3
  simp only [] at o3 e3 l3
  exact ⟨t, r1, m, r2, n, r3, h1, h2, h3, ⟨o1, o2, o3⟩, ⟨l1, l2, by omega⟩, by rw [e3, e2, e1]⟩
/-- The tree that an image is. -/
def treeGo (s : ByteArray) : List SzD → Nat → List FileD → Int × List FileD
  | [], a, acc => if a < s.size then (4, []) else (0, acc)
  | x :: r, a, acc => if s.size < a + x.n then (3, []) else treeGo s r (a + x.n) (acc ++ [⟨x.f.path, x.f.mode, s.extract a (a + x.n)⟩])
def treeOf (s : ByteArray) : Int × List FileD := if 524288 < s.size then (4, []) else if (headOf s).e = 0 then treeGo s (headOf s).l (headOf s).at_ [] else ((headOf s).e, [])
section
variable {s : ByteArray} {l : List SzD} {k a : Nat} {x : SzD} {acc : List FileD}
theorem treeGo_long (h : l.length ≤ k) (ha : a < s.size) : treeGo s (l.drop k) a acc = (4, []) := by rw [List.drop_eq_nil_of_le h, treeGo, if_pos ha]
theorem treeGo_ok (h : l.length ≤ k) (ha : ¬ a < s.size) : treeGo s (l.drop k) a acc = (0, acc) := by rw [List.drop_eq_nil_of_le h, treeGo, if_neg ha]
theorem treeGo_short (h : l[k]? = some x) (ha : s.size < a + x.n) : treeGo s (l.drop k) a acc = (3, []) := by rw [drop_head h, treeGo, if_pos ha]
theorem treeGo_next (h : l[k]? = some x) (ha : ¬ s.size < a + x.n) : treeGo s (l.drop k) a acc = treeGo s (l.drop (k + 1)) (a + x.n) (acc ++ [⟨x.f.path, x.f.mode, s.extract a (a + x.n)⟩]) := by rw [drop_head h, treeGo, if_neg ha]
end
theorem headEnd_good (y : Int × List SzD × Rd) (h : (headEnd y).e = 0) : checkE ((headEnd y).l.map (·.f)) = 0 ∧ (headEnd y).at_ = y.2.2.at_ := by
  unfold headEnd at h ⊢
  by_cases h1 : y.1 = 0
  · rw [if_pos h1] at h ⊢
    by_cases h2 : checkE (y.2.1.map (·.f)) = 0
    · rw [if_pos h2]; exact ⟨h2, rfl⟩
    · rw [if_neg h2] at h; exact absurd h h2
  · rw [if_neg h1] at h; exact absurd h h1
theorem headGo_at : ∀ (k : Nat) (acc : List SzD) (r : Rd), r.ok → (headGo k acc r).2.2.at_ ≤ r.s.size ∧ ((∀ x ∈ acc, x.n ≤ 65536) → ∀ x ∈ (headGo k acc r).2.1, x.n ≤ 65536)
  | 0, acc, r, h => ⟨h.1, fun hx => hx⟩
  | k + 1, acc, r, h => by
    obtain ⟨t, r1, m, r2, n, r3, h1, h2, h3, ⟨o1, o2, o3⟩, ⟨l1, l2, l3⟩, hs⟩ := reads3 r h
    rw [headGo]
    simp only [h1, h2, h3]
    split
    · have ih := headGo_at k (acc ++ [⟨⟨t, m, ⟨#[]⟩⟩, n⟩]) r3 o3
      rw [hs] at ih
      refine ⟨ih.1, fun hx => ih.2 fun x hm => ?_⟩
      rcases List.mem_append.1 hm with hm | hm
      · exact hx x hm
      · rw [List.mem_singleton] at hm; subst hm; exact l3
    · exact ⟨by show r3.at_ ≤ _; rw [← hs]; exact o3.1, fun _ x hm => absurd hm (by simp)⟩
theorem headEnd_n (y : Int × List SzD × Rd) (h : ∀ x ∈ y.2.1, x.n ≤ 65536) : ∀ x ∈ (headEnd y).l, x.n ≤ 65536 := by
  unfold headEnd
  split
  · split
    · exact h
    · simp
  · simp
theorem headEnd_at (y : Int × List SzD × Rd) (b : Nat) (h : y.2.2.at_ ≤ b) : (headEnd y).at_ ≤ b := by
  unfold headEnd
  split
  · split
    · exact h
    · exact Nat.zero_le _
  · exact Nat.zero_le _
theorem headOf_facts (s : ByteArray) (hs : s.size ≤ 9223372036854775807) : (headOf s).at_ ≤ s.size ∧ ∀ x ∈ (headOf s).l, x.n ≤ 65536 := by
  have ho : (⟨s, 0, 0⟩ : Rd).ok := ⟨Nat.zero_le _, hs⟩
  have h := headGo_at (rdCount ⟨s, 0, 0⟩ 256).1 [] (rdCount ⟨s, 0, 0⟩ 256).2 (rdCount_ok' ho)
  rw [rdCount_s] at h
  exact ⟨headEnd_at _ _ h.1, headEnd_n _ (h.2 (by simp))⟩

/-! ### rows -/
theorem infoI : (Tryd.prog.info? 3).map (fun i => (i.zero, i.size, i.bytes)) = some (some (.int .i64 0), 1, 8) := by kernel_rfl
theorem int_one (n : Nat) : ∀ u ∈ (#[Value.int .i64 (n : Int)] : Array Value).toList, u.oneCell' = true := by simp [Value.oneCell']
def ncells (l : List SzD) : List Value := l.map fun x => Value.int .i64 (x.n : Int)
def hfiles (l : List SzD) : List FileD := l.map (·.f)
theorem ncells_snoc (l : List SzD) (f : FileD) (n : Nat) : ncells (l ++ [⟨f, n⟩]) = ncells l ++ (#[Value.int .i64 (n : Int)] : Array Value).toList := by unfold ncells; rw [List.map_append]; rfl
theorem hfiles_snoc (l : List SzD) (f : FileD) (n : Nat) : hfiles (l ++ [⟨f, n⟩]) = hfiles l ++ [f] := by unfold hfiles; rw [List.map_append]; rfl
theorem hfiles_len (l : List SzD) : (hfiles l).length = l.length := by unfold hfiles; simp
/-- Rows of unlike cells lie in unlike blocks. -/
theorem own_apart {w : World} {b1 b2 : Nat} {e1 e2 : TypeId} {s1 s2 n1 n2 : Nat} {v1 v2 : Value} {xs1 xs2 : List Value}
    (h1 : w.ownsRow b1 e1 s1 v1 n1 xs1) (h2 : w.ownsRow b2 e2 s2 v2 n2 xs2) (hne : e1 ≠ e2) : v1.ownBlock = none ∨ v1.ownBlock ≠ v2.ownBlock := by
  rcases h1.2 with ⟨rfl, _⟩ | ⟨g1, c1, cur1, rfl, _, hh1, _⟩
  · exact .inl rfl
  · right
    rcases h2.2 with ⟨rfl, _⟩ | ⟨g2, c2, cur2, rfl, _, hh2, _⟩
    · simp [Value.ownBlock]
    · intro e
      have e : g1 = g2 := by simpa [Value.ownBlock] using e
      subst e
      rw [hh1] at hh2
      injection hh2 with hh2
      injection hh2 with _ hh2 _
      exact hne hh2
theorem results_tmp4 {fn : Func} {t u v x : Tmp} (h : fn.results = #[.tmp t, .tmp u, .tmp v, .tmp x]) (tmps : Array Value) (P : Program) (w : World) :
    (results fn tmps).run P w = .ok (.tuple #[tmps.getD t undef, tmps.getD u undef, tmps.getD v undef, tmps.getD x undef]) w := by
  simp [results, h]
def HeadOut (w : World) (H : HdD) (e : Ending) (w' : World) : Prop := ∃ vf vs, e = .returned (.tuple #[vf, vs, .int .i64 (H.at_ : Int), .int .i64 H.e]) ∧
  w'.ownsRow w.heap.size 33 3 vf H.l.length (fcells (hfiles H.l)) ∧ w'.ownsRow w.heap.size 3 1 vs H.l.length (ncells H.l) ∧ Below w.heap.size w w'
def TreeOut (w : World) (T : Int × List FileD) (e : Ending) (w' : World) : Prop := ∃ vf, e = .returned (.tuple #[vf, .int .i64 T.1]) ∧ w'.ownsRow w.heap.size 33 3 vf T.2.length (fcells T.2) ∧ Below w.heap.size w w'
theorem own_drewN {w : World} {base : Nat} {e : TypeId} {size n : Nat} {v : Value} {xs : List Value} (h : w.ownsRow base e size v n xs) (m : Nat) : (w.drewN m).ownsRow base e size v n xs := h
end Go.Proofs.YtlfennooocmclaaDoor
