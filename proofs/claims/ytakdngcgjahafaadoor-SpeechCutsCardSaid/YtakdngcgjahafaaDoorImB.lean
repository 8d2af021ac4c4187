/- Chapter 10: what stands ahead of files' bytes, and the tree of an image, as plain data; lemmas for the walks.; Chapter 10: the walk through image.head.; Chapter 10: the walk through image.Tree. -/
import Derived.Test.YtakdngcgjahafaaDoorImA
import Derived.Laws.OwnMore
/- Chapter 10: what stands ahead of files' bytes, and the tree of an image, as plain data; lemmas for the walks. -/
namespace Go.Proofs.YtakdngcgjahafaaDoor
open Go.RowKit
set_option linter.unusedVariables false

structure SzD where
  f : FileD
  n : Nat
structure HdD where
  e : Int
  l : List SzD
  at_ : Nat
def headGo : Nat → List SzD → Rd → Int × List SzD × Rd
  | 0, acc, r => (r.e, acc, r)
  | k + 1, acc, r =>
    let x1 := rdText r 200
    let x2 := rdNum x1.2
    let x3 := rdCount x2.2 65536
    if x3.2.e = 0 then headGo k (acc ++ [⟨⟨x1.1, x2.1, ⟨#[]⟩⟩, x3.1⟩]) x3.2 else (x3.2.e, [], x3.2)
def headEnd (y : Int × List SzD × Rd) : HdD :=
  if y.1 = 0 then if checkE (y.2.1.map (·.f)) = 0 then ⟨0, y.2.1, y.2.2.at_⟩ else ⟨checkE (y.2.1.map (·.f)), [], 0⟩ else ⟨y.1, [], 0⟩
def headOf (s : ByteArray) : HdD := headEnd (headGo (rdCount ⟨s, 0, 0⟩ 256).1 [] (rdCount ⟨s, 0, 0⟩ 256).2)
theorem headGo_step {k : Nat} {acc : List SzD} {r r1 r2 r3 : Rd} {n m : Nat} {t : ByteArray}
    (h1 : rdText r 200 = (t, r1)) (h2 : rdNum r1 = (m, r2)) (h3 : rdCount r2 65536 = (n, r3)) (h0 : r3.e = 0) :
    headGo (k + 1) acc r = headGo k (acc ++ [⟨⟨t, m, ⟨#[]⟩⟩, n⟩]) r3 := by
  rw [headGo]
  simp only [h1, h2, h3]
  rw [if_pos h0]
theorem headGo_stop {k : Nat} {acc : List SzD} {r r1 r2 r3 : Rd} {n m : Nat} {t : ByteArray}
    (h1 : rdText r 200 = (t, r1)) (h2 : rdNum r1 = (m, r2)) (h3 : rdCount r2 65536 = (n, r3)) (h0 : r3.e ≠ 0) :
    headEnd (headGo (k + 1) acc r) = ⟨r3.e, [], 0⟩ := by
  rw [headGo]
  simp only [h1, h2, h3]
  rw [if_neg h0]
  unfold headEnd
  rw [if_neg h0]
theorem headEnd_bad {acc : List SzD} {r : Rd} (h : r.e ≠ 0) : headEnd (headGo 0 acc r) = ⟨r.e, [], 0⟩ := by rw [headGo]; unfold headEnd; rw [if_neg h]
theorem headEnd_check {acc : List SzD} {r : Rd} (h : r.e = 0) (h2 : checkE (acc.map (·.f)) ≠ 0) : headEnd (headGo 0 acc r) = ⟨checkE (acc.map (·.f)), [], 0⟩ := by rw [headGo]; unfold headEnd; rw [if_pos h, if_neg h2]
theorem headEnd_ok {acc : List SzD} {r : Rd} (h : r.e = 0) (h2 : checkE (acc.map (·.f)) = 0) : headEnd (headGo 0 acc r) = ⟨0, acc, r.at_⟩ := by rw [headGo]; unfold headEnd; rw [if_pos h, if_pos h2]
/-- The three reads of a file, named. -/
theorem reads3 (r : Rd) (ho : r.ok) : ∃ (t : ByteArray) (r1 : Rd) (m : Nat) (r2 : Rd) (n : Nat) (r3 : Rd),
    rdText r 200 = (t, r1) ∧ rdNum r1 = (m, r2) ∧ rdCount r2 65536 = (n, r3) ∧
    (r1.ok ∧ r2.ok ∧ r3.ok) ∧ (t.size ≤ r.s.size ∧ m ≤ 4611686018427387903 ∧ n ≤ 65536) ∧ r3.s = r.s := by
  have o1 := rdText_ok (m := 200) ho
  have e1 := rdText_s r 200
  have l1 := rdText_size r 200
  obtain ⟨t, r1, h1⟩ : ∃ t r1, rdText r 200 = (t, r1) := ⟨_, _, rfl⟩
  rw [h1] at o1 e1 l1
  simp only [] at o1 e1 l1
  have o2 := rdNum_ok o1
  have e2 := rdNum_s r1
  have l2 := rdNum_le r1
  obtain ⟨m, r2, h2⟩ : ∃ m r2, rdNum r1 = (m, r2) := ⟨_, _, rfl⟩
  rw [h2] at o2 e2 l2
  simp only [] at o2 e2 l2
  have o3 := rdCount_ok' (m := 65536) o2
  have e3 := rdCount_s r2 65536
  have l3 := rdCount_most_ r2 (m := 65536) (by decide)
  obtain ⟨n, r3, h3⟩ : ∃ n r3, rdCount r2 65536 = (n, r3) := ⟨_, _, rfl⟩
  rw [h3] at o3 e3 l3
  simp only [] at o3 e3 l3
  exact ⟨t, r1, m, r2, n, r3, h1, h2, h3, ⟨o1, o2, o3⟩, ⟨l1, l2, by omega⟩, by rw [e3, e2, e1]⟩
/-- The tree that an image is. -/
def treeGo (s : ByteArray) : List SzD → Nat → List FileD → Int × List FileD
  | [], a, acc => if a < s.size then (4, []) else (0, acc)
  | x :: r, a, acc => if s.size < a + x.n then (3, []) else treeGo s r (a + x.n) (acc ++ [⟨x.f.path, x.f.mode, s.extract a (a + x.n)⟩])
def treeOf (s : ByteArray) : Int × List FileD := if 524288 < s.size then (4, []) else if (headOf s).e = 0 then treeGo s (headOf s).l (headOf s).at_ [] else ((headOf s).e, [])
section
variable {s : ByteArray} {l : List SzD} {k a : Nat} {x : SzD} {acc : List FileD}
theorem treeGo_long (h : l.length ≤ k) (ha : a < s.size) : treeGo s (l.drop k) a acc = (4, []) := by rw [List.drop_eq_nil_of_le h, treeGo, if_pos ha]
theorem treeGo_ok (h : l.length ≤ k) (ha : ¬ a < s.size) : treeGo s (l.drop k) a acc = (0, acc) := by rw [List.drop_eq_nil_of_le h, treeGo, if_neg ha]
theorem treeGo_short (h : l[k]? = some x) (ha : s.size < a + x.n) : treeGo s (l.drop k) a acc = (3, []) := by rw [drop_head h, treeGo, if_pos ha]
theorem treeGo_next (h : l[k]? = some x) (ha : ¬ s.size < a + x.n) : treeGo s (l.drop k) a acc = treeGo s (l.drop (k + 1)) (a + x.n) (acc ++ [⟨x.f.path, x.f.mode, s.extract a (a + x.n)⟩]) := by rw [drop_head h, treeGo, if_neg ha]
end
theorem headEnd_good (y : Int × List SzD × Rd) (h : (headEnd y).e = 0) : checkE ((headEnd y).l.map (·.f)) = 0 ∧ (headEnd y).at_ = y.2.2.at_ := by
  unfold headEnd at h ⊢
  by_cases h1 : y.1 = 0
  · rw [if_pos h1] at h ⊢
    by_cases h2 : checkE (y.2.1.map (·.f)) = 0
    · rw [if_pos h2]; exact ⟨h2, rfl⟩
    · rw [if_neg h2] at h; exact absurd h h2
  · rw [if_neg h1] at h; exact absurd h h1
theorem headGo_at : ∀ (k : Nat) (acc : List SzD) (r : Rd), r.ok → (headGo k acc r).2.2.at_ ≤ r.s.size ∧ ((∀ x ∈ acc, x.n ≤ 65536) → ∀ x ∈ (headGo k acc r).2.1, x.n ≤ 65536)
  | 0, acc, r, h => ⟨h.1, fun hx => hx⟩
  | k + 1, acc, r, h => by
    obtain ⟨t, r1, m, r2, n, r3, h1, h2, h3, ⟨o1, o2, o3⟩, ⟨l1, l2, l3⟩, hs⟩ := reads3 r h
    rw [headGo]
    simp only [h1, h2, h3]
    split
    · have ih := headGo_at k (acc ++ [⟨⟨t, m, ⟨#[]⟩⟩, n⟩]) r3 o3
      rw [hs] at ih
      refine ⟨ih.1, fun hx => ih.2 fun x hm => ?_⟩
      rcases List.mem_append.1 hm with hm | hm
      · exact hx x hm
      · rw [List.mem_singleton] at hm; subst hm; exact l3
    · exact ⟨by show r3.at_ ≤ _; rw [← hs]; exact o3.1, fun _ x hm => absurd hm (by simp)⟩
theorem headEnd_n (y : Int × List SzD × Rd) (h : ∀ x ∈ y.2.1, x.n ≤ 65536) : ∀ x ∈ (headEnd y).l, x.n ≤ 65536 := by
  unfold headEnd
  split
  · split
    · exact h
    · simp
  · simp
theorem headEnd_at (y : Int × List SzD × Rd) (b : Nat) (h : y.2.2.at_ ≤ b) : (headEnd y).at_ ≤ b := by
  unfold headEnd
  split
  · split
    · exact h
    · exact Nat.zero_le _
  · exact Nat.zero_le _
theorem headOf_facts (s : ByteArray) (hs : s.size ≤ 9223372036854775807) : (headOf s).at_ ≤ s.size ∧ ∀ x ∈ (headOf s).l, x.n ≤ 65536 := by
  have ho : (⟨s, 0, 0⟩ : Rd).ok := ⟨Nat.zero_le _, hs⟩
  have h := headGo_at (rdCount ⟨s, 0, 0⟩ 256).1 [] (rdCount ⟨s, 0, 0⟩ 256).2 (rdCount_ok' ho)
  rw [rdCount_s] at h
  exact ⟨headEnd_at _ _ h.1, headEnd_n _ (h.2 (by simp))⟩

/-! ### rows -/
theorem infoI : (Tryd.prog.info? 3).map (fun i => (i.zero, i.size, i.bytes)) = some (some (.int .i64 0), 1, 8) := by kernel_rfl
theorem int_one (n : Nat) : ∀ u ∈ (#[Value.int .i64 (n : Int)] : Array Value).toList, u.oneCell' = true := by simp [Value.oneCell']
def ncells (l : List SzD) : List Value := l.map fun x => Value.int .i64 (x.n : Int)
def hfiles (l : List SzD) : List FileD := l.map (·.f)
theorem ncells_snoc (l : List SzD) (f : FileD) (n : Nat) : ncells (l ++ [⟨f, n⟩]) = ncells l ++ (#[Value.int .i64 (n : Int)] : Array Value).toList := by unfold ncells; rw [List.map_append]; rfl
theorem hfiles_snoc (l : List SzD) (f : FileD) (n : Nat) : hfiles (l ++ [⟨f, n⟩]) = hfiles l ++ [f] := by unfold hfiles; rw [List.map_append]; rfl
theorem hfiles_len (l : List SzD) : (hfiles l).length = l.length := by unfold hfiles; simp
/-- Rows of unlike cells lie in unlike blocks. -/
theorem own_apart {w : World} {b1 b2 : Nat} {e1 e2 : TypeId} {s1 s2 n1 n2 : Nat} {v1 v2 : Value} {xs1 xs2 : List Value}
    (h1 : w.ownsRow b1 e1 s1 v1 n1 xs1) (h2 : w.ownsRow b2 e2 s2 v2 n2 xs2) (hne : e1 ≠ e2) : v1.ownBlock = none ∨ v1.ownBlock ≠ v2.ownBlock := by
  rcases h1.2 with ⟨rfl, _⟩ | ⟨g1, c1, cur1, rfl, _, hh1, _⟩
  · exact .inl rfl
  · right
    rcases h2.2 with ⟨rfl, _⟩ | ⟨g2, c2, cur2, rfl, _, hh2, _⟩
    · simp [Value.ownBlock]
    · intro e
      have e : g1 = g2 := by simpa [Value.ownBlock] using e
      subst e
      rw [hh1] at hh2
      injection hh2 with hh2
      injection hh2 with _ hh2 _
      exact hne hh2
theorem results_tmp4 {fn : Func} {t u v x : Tmp} (h : fn.results = #[.tmp t, .tmp u, .tmp v, .tmp x]) (tmps : Array Value) (P : Program) (w : World) :
    (results fn tmps).run P w = .ok (.tuple #[tmps.getD t undef, tmps.getD u undef, tmps.getD v undef, tmps.getD x undef]) w := by
  simp [results, h]
def HeadOut (w : World) (H : HdD) (e : Ending) (w' : World) : Prop := ∃ vf vs, e = .returned (.tuple #[vf, vs, .int .i64 (H.at_ : Int), .int .i64 H.e]) ∧
  w'.ownsRow w.heap.size 69 3 vf H.l.length (fcells (hfiles H.l)) ∧ w'.ownsRow w.heap.size 3 1 vs H.l.length (ncells H.l) ∧ Below w.heap.size w w'
def TreeOut (w : World) (T : Int × List FileD) (e : Ending) (w' : World) : Prop := ∃ vf, e = .returned (.tuple #[vf, .int .i64 T.1]) ∧ w'.ownsRow w.heap.size 69 3 vf T.2.length (fcells T.2) ∧ Below w.heap.size w w'
theorem own_drewN {w : World} {base : Nat} {e : TypeId} {size n : Nat} {v : Value} {xs : List Value} (h : w.ownsRow base e size v n xs) (m : Nat) : (w.drewN m).ownsRow base e size v n xs := h
end Go.Proofs.YtakdngcgjahafaaDoor
/- Chapter 10: the walk through image.head. -/
namespace Go.Proofs.YtakdngcgjahafaaDoor
open Go.RowKit
set_option linter.unusedVariables false

theorem rdr_alloc {w : World} {b : Nat} {r : Rd} (h : Rdr w b r) (o : Obj) : Rdr (w.alloc o) b r := Blk.alloc h o
theorem rdr_below {w w' : World} {b : Nat} {r : Rd} (h : Rdr w b r) (hb : Below w.heap.size w w') : Rdr w' b r := Blk.below h hb (Blk.lt h)
theorem some_ne {a b : Nat} (h : b < a) : some a ≠ some b := fun e => by injection e with e; omega
def HRel (w w1 : World) (N : Nat) (s : ByteArray) (H : HdD) (vo vs v : Value) (wr : World) : Prop := ∃ (k : Nat) (acc : List SzD) (r : Rd), k ≤ N ∧ v = .int .i64 k ∧ wr.ownsRow w1.heap.size 69 3 vo acc.length (fcells (hfiles acc)) ∧ wr.ownsRow w1.heap.size 3 1 vs acc.length (ncells acc) ∧ acc.length ≤ k ∧
  Hid (∀ f ∈ hfiles acc, FOk f) ∧ Hid (Rdr wr w.heap.size r) ∧ r.ok ∧ Hid (r.s = s) ∧ Hid (headEnd (headGo (N - k) acc r) = H) ∧ w1.heap.size ≤ wr.heap.size ∧ Below w.heap.size w wr
set_option maxHeartbeats 4000000 in
set_option maxRecDepth 100000 in
theorem head_any (s : ByteArray) (w : World) (hs : s.size ≤ 524288) (hm : Ml w) :
    Calls Tryd.prog 68 #[.string s] w (HeadOut w (headOf s)) := by
  obtain ⟨i1, gi0, gz0, gz1, gz2⟩ := info_parts infoFile
  obtain ⟨i2, fi0, fz0, fz1, fz2⟩ := info_parts infoI
  have ho0 : (⟨s, 0, 0⟩ : Rd).ok := ⟨Nat.zero_le _, by show s.size ≤ _; omega⟩
  have hct := fun b W h => count_any b ⟨s, 0, 0⟩ 256 W h ho0
  have ho1 := rdCount_ok' (m := 256) ho0
  have hs1 := rdCount_s ⟨s, 0, 0⟩ 256
  have hle := rdCount_most_ ⟨s, 0, 0⟩ (m := 256) (by decide)
  obtain ⟨H, hH⟩ : ∃ H, H = headOf s := ⟨_, rfl⟩
  rw [← hH]
  unfold headOf at hH
  obtain ⟨N, r0, hx0⟩ : ∃ N r0, rdCount ⟨s, 0, 0⟩ 256 = (N, r0) := ⟨_, _, rfl⟩
  rw [hx0] at hct ho1 hs1 hle hH
  simp only [] at hct ho1 hs1 hle hH
  have HRS := Lib.hid hs1
  have HCT := Lib.hid hct
  have HEF : Hid (headEnd (headGo (N - 0) [] r0) = H) := Lib.hid hH.symm
  clear hct hs1 hx0 hH ho0
  go_enter Tryd.func68, Tryd.ntmps68
  go_wp2_with (first
    | (go_at_call 77; (with_reducible refine (read_any s _).mono ?_); rintro e w1 ⟨rfl, hr1, hb1⟩)
    | (go_at_call 78; (with_reducible refine (HCT.out _ _ hr1).mono ?_); rintro e w2 ⟨rfl, hr2, hg2⟩))
  have hbl := Blk.lt hr1
  have hB2 : Below w.heap.size w w2 := hb1.grown hg2 hb1.size (fun j hj => by injection hj with hj; omega)
  have hs2 := hg2.size
  have hbs1 := hb1.size
  go_loopw [7, 8, 17] (fun vo vs v wr => HRel w w1 N s H vo vs v wr) (fun _ _ v _ => N - (intOf v).toNat)
  case atStart => unfold HRel; exact ⟨0, [], r0, Nat.zero_le _, rfl, World.ownsRow_nil _ _ _ _, World.ownsRow_nil _ _ _ _, Nat.le_refl _, Lib.hid (by simp [hfiles]), Lib.hid hr2, ho1, HRS, HEF, hs2, hB2⟩
  case round =>
    unfold HRel at hrel
    obtain ⟨k, acc, r, hk, rfl, hown, hownS, hal, HI, HR, hok, hrs, H1, hzz, hB⟩ := hrel
    have hbse := hB.size
    have hbl2 : w.heap.size < w1.heap.size := hbl
    have HB0 := HR.out.lt
    by_cases hlt : k < N
    · obtain ⟨t, r1, m, r2, n, r3, h1, h2, h3, ⟨o1, o2, o3⟩, ⟨l1, l2, l3⟩, hs5⟩ := reads3 r hok
      have hc1 := fun W h => text_any w.heap.size r 200 W h hok
      have hc2 := fun W h => num_any w.heap.size r1 W h o1
      have hc3 := fun W h => count_any w.heap.size r2 65536 W h o2
      rw [h1] at hc1
      rw [h2] at hc2
      rw [h3] at hc3
      simp only [] at hc1 hc2 hc3
      have HC1 := Lib.hid hc1
      have HC2 := Lib.hid hc2
      have HC3 := Lib.hid hc3
      have hN : N - k = (N - (k + 1)) + 1 := by omega
      have H2 := H1.out
      rw [hN] at H2
      have hstep := fun h0 => (congrArg headEnd (headGo_step (k := N - (k + 1)) (acc := acc) h1 h2 h3 h0)).symm.trans H2
      have hstop := fun h0 => (headGo_stop (k := N - (k + 1)) (acc := acc) h1 h2 h3 h0).symm.trans H2
      have hR := HR
      have HRS3 : Hid (r3.s = s) := Lib.hid (hs5.trans hrs.out)
      have hts : t.size ≤ 524288 := by have := hrs.out; rw [this] at l1; omega
      clear hc1 hc2 hc3 h1 h2 h3 hN H2 H1 hs5 hrs
      by_cases he : r3.e = 0
      · have he' : (r3.e == 0) = true := by rw [he]; rfl
        have HST := Lib.hid (hstep he)
        have HI2 : Hid (∀ f ∈ hfiles (acc ++ [(⟨⟨t, m, ⟨#[]⟩⟩, n⟩ : SzD)]), FOk f) := Lib.hid (by
          intro f hf
          rw [hfiles_snoc] at hf
          rcases List.mem_append.1 hf with h | h
          · exact HI.out f h
          · rw [List.mem_singleton] at h
            subst h
            exact ⟨by show t.size ≤ _; omega, by show (0 : Nat) ≤ _; omega⟩)
        clear hstep hstop he
        go_wp2_with (first
          | (go_at_call 79; (with_reducible refine (HC1.out _ hR.out).mono ?_); rintro e w3 ⟨rfl, hr3, g3⟩; have hR := Lib.hid hr3; have hown := hown.kept g3 (.inr (own_ne hown hbl2)); have hownS := hownS.kept g3 (.inr (own_ne hownS hbl2)); have hB := below_grown hB g3 (Nat.le_refl _); have hbse := hB.size; have hzz := Nat.le_trans hzz g3.size)
          | (go_at_call 80; (with_reducible refine (HC2.out _ hR.out).mono ?_); rintro e w4 ⟨rfl, hr4, g4⟩; have hR := Lib.hid hr4; have hown := hown.kept g4 (.inr (own_ne hown hbl2)); have hownS := hownS.kept g4 (.inr (own_ne hownS hbl2)); have hB := below_grown hB g4 (Nat.le_refl _); have hbse := hB.size; have hzz := Nat.le_trans hzz g4.size; have hlw := Blk.lt hR.out)
          | (go_at_call 78; (with_reducible refine (HC3.out _ (rdr_alloc hR.out (.cells #[Value.string t, .int .i64 (m : Int), .string ⟨#[]⟩] 69))).mono ?_); rintro e w5 ⟨rfl, hr5, g5⟩; have hR5 := Lib.hid hr5; have hown5 := (hown.alloc (.cells #[Value.string t, .int .i64 (m : Int), .string ⟨#[]⟩] 69)).kept g5 (.inr (own_ne hown hbl2)); have hownS5 := (hownS.alloc (.cells #[Value.string t, .int .i64 (m : Int), .string ⟨#[]⟩] 69)).kept g5 (.inr (own_ne hownS hbl2)); have hB5 := below_grown (hB.alloc hbse (.cells #[Value.string t, .int .i64 (m : Int), .string ⟨#[]⟩] 69)) g5 (Nat.le_refl _); have hbox5 : Blk w5 w4.heap.size 69 #[Value.string t, .int .i64 (m : Int), .string ⟨#[]⟩] := Blk.grown (Blk.new w4 69 #[Value.string t, .int .i64 (m : Int), .string ⟨#[]⟩]) g5 (some_ne hlw); obtain ⟨k0, k1, k2⟩ := fbox_cells hbox5; have hs5 := hB5.size; have hz5 : w1.heap.size ≤ w5.heap.size := Nat.le_trans hzz (Nat.le_trans (by simp) g5.size))
          | (go_at_call 81; (refine (err_any _ _ _ hR5.out).mono ?_); rintro e w6 ⟨rfl, rfl⟩)
          | (at_builtin; refine wpList_push rfl _ _ _ rfl Tryd.underlying28 gi0 gz0 gz1 gz2 file_zero (by decide) hown5 rfl rfl rfl (file_one ⟨t, m, ⟨#[]⟩⟩) (by unfold maxLen; omega) (by omega) hz5 ?_; intro g7 cap7 w7 hown7 hgr7 hat7; have hownS7 := hownS5.kept hgr7 (own_apart hownS5 hown5 (by decide)); have hbox7 := Blk.grown hbox5 hgr7 (fun e => Nat.lt_irrefl _ (hown.lt _ e.symm).2); have hz7 := Nat.le_trans hz5 hgr7.size)
          | (at_builtin; refine wpList_push rfl _ _ _ rfl Tryd.underlying45 fi0 fz0 fz1 fz2 rfl (by decide) hownS7 rfl rfl rfl (int_one n) (by unfold maxLen; omega) (by omega) hz7 ?_; intro g8 cap8 w8 hown8 hgr8 hat8; have hown9 := hown7.kept hgr8 (own_apart hown7 hownS7 (by decide))))
        have hR6 := Lib.hid (Blk.grown (Blk.grown hR5.out hgr7 (fun e => own_ne hown5 hbl2 e.symm)) hgr8 (fun e => own_ne hownS7 hbl2 e.symm))
        have hB7 := hB5.grown hgr7 hs5 (fun j hj => by have := (hown5.lt j hj).1; omega)
        have hB8 := hB7.grown hgr8 hB7.size (fun j hj => by have := (hownS7.lt j hj).1; omega)
        go_roundw
        case rel => unfold HRel; exact ⟨k + 1, acc ++ [⟨⟨t, m, ⟨#[]⟩⟩, n⟩], r3, by omega, by go_num, by rw [List.length_append, hfiles_snoc, fcells_snoc]; exact hown9, by rw [List.length_append, ncells_snoc]; exact hown8, by simp; omega, HI2, hR6, o3, HRS3, HST, Nat.le_trans hz7 hgr8.size, hB8⟩
        case measure => simp [intOf] <;> omega
      · have hst := hstop he
        subst hst
        have he' : (r3.e == 0) = false := by rw [beq_eq_false_iff_ne]; exact he
        clear hstep hstop he
        go_wp2_with (first
          | (go_at_call 79; (with_reducible refine (HC1.out _ hR.out).mono ?_); rintro e w3 ⟨rfl, hr3, g3⟩; have hR := Lib.hid hr3; have hown := hown.kept g3 (.inr (own_ne hown hbl2)); have hownS := hownS.kept g3 (.inr (own_ne hownS hbl2)); have hB := below_grown hB g3 (Nat.le_refl _); have hbse := hB.size; have hzz := Nat.le_trans hzz g3.size)
          | (go_at_call 80; (with_reducible refine (HC2.out _ hR.out).mono ?_); rintro e w4 ⟨rfl, hr4, g4⟩; have hR := Lib.hid hr4; have hown := hown.kept g4 (.inr (own_ne hown hbl2)); have hownS := hownS.kept g4 (.inr (own_ne hownS hbl2)); have hB := below_grown hB g4 (Nat.le_refl _); have hbse := hB.size; have hzz := Nat.le_trans hzz g4.size; have hlw := Blk.lt hR.out)
          | (go_at_call 78; (with_reducible refine (HC3.out _ (rdr_alloc hR.out (.cells #[Value.string t, .int .i64 (m : Int), .string ⟨#[]⟩] 69))).mono ?_); rintro e w5 ⟨rfl, hr5, g5⟩; have hR5 := Lib.hid hr5; have hown5 := (hown.alloc (.cells #[Value.string t, .int .i64 (m : Int), .string ⟨#[]⟩] 69)).kept g5 (.inr (own_ne hown hbl2)); have hownS5 := (hownS.alloc (.cells #[Value.string t, .int .i64 (m : Int), .string ⟨#[]⟩] 69)).kept g5 (.inr (own_ne hownS hbl2)); have hB5 := below_grown (hB.alloc hbse (.cells #[Value.string t, .int .i64 (m : Int), .string ⟨#[]⟩] 69)) g5 (Nat.le_refl _); have hbox5 : Blk w5 w4.heap.size 69 #[Value.string t, .int .i64 (m : Int), .string ⟨#[]⟩] := Blk.grown (Blk.new w4 69 #[Value.string t, .int .i64 (m : Int), .string ⟨#[]⟩]) g5 (some_ne hlw); obtain ⟨k0, k1, k2⟩ := fbox_cells hbox5; have hs5 := hB5.size; have hz5 : w1.heap.size ≤ w5.heap.size := Nat.le_trans hzz (Nat.le_trans (by simp) g5.size))
          | (go_at_call 81; (refine (err_any _ _ _ hR5.out).mono ?_); rintro e w6 ⟨rfl, rfl⟩))
        ((try simp only [Exit.inBlock, Exit.then]); refine bodyPost_ret (results_tmp4 rfl _ _ _) rfl ?_)
        unfold HeadOut
        exact ⟨_, _, rfl, World.ownsRow_nil _ _ _ _, World.ownsRow_nil _ _ _ _, hB5⟩
    · have hN0 : N - k = 0 := by omega
      have H2 := H1.out
      rw [hN0] at H2
      have f1 := fun h => (headEnd_bad (acc := acc) (r := r) h).symm.trans H2
      have f2 := fun h h2 => (headEnd_check (acc := acc) (r := r) h h2).symm.trans H2
      have f3 := fun h h2 => (headEnd_ok (acc := acc) (r := r) h h2).symm.trans H2
      have hri := Lib.hid (fun A c W h hw => check_any A c (hfiles acc) W (by rw [hfiles_len]; omega) HI.out h (hm.on hw))
      rw [hfiles_len] at hri
      have hlf := Lib.hid (fun W h => left_any w.heap.size r W h hok)
      have hsz : r.s.size = s.size := by rw [hrs.out]
      rw [hsz] at hlf
      have hat : r.at_ ≤ s.size := by rw [← hsz]; exact hok.1
      clear H2 H1 hN0 hrs hsz
      have hR := HR
      by_cases hee : r.e = 0
      · have hee' : (r.e == 0) = true := by rw [hee]; rfl
        have f2 := f2 hee
        have f3 := f3 hee
        clear f1 hee
        have hE : checkE (acc.map (·.f)) = checkE (hfiles acc) := rfl
        rw [hE] at f2 f3
        generalize checkE (hfiles acc) = G at *
        obtain ⟨A', c', rfl, hcap, ha', hfr⟩ := own_arr hown
        by_cases hG : G = 0
        · have f3 := f3 hG
          subst f3
          have hG' : (G == 0) = true := by rw [hG]; rfl
          have HA4 := Lib.hid ha'
          have hw1 : IntKind.i64.wrap ((s.size : Int) - ((s.size : Int) - (r.at_ : Int))) = (r.at_ : Int) := by rw [IntWalk.i64_in _ (by omega)]; omega
          clear f2 hG ha' hE
          go_wp2_with (first
            | (go_at_call 81; (refine (err_any _ _ _ hR.out).mono ?_); rintro e w6 ⟨rfl, rfl⟩)
            | (go_at_call 52; (with_reducible refine (hri.out _ _ _ HA4.out hB).mono ?_); rintro e w7 ⟨rfl, hb7⟩; have hR7 := Lib.hid (rdr_below hR.out hb7); have hown7 := own_below hown hb7; have hownS7 := own_below hownS hb7; have hB7 := below_on hB hb7)
            | (go_at_call 82; (with_reducible refine (hlf.out _ hR7.out).mono ?_); rintro e w8 ⟨rfl, nn, rfl⟩))
          ((try simp only [Exit.inBlock, Exit.then]); refine bodyPost_ret (results_tmp4 rfl _ _ _) rfl ?_)
          unfold HeadOut
          exact ⟨_, _, rfl, own_mono (own_drewN hown7 _) (Nat.le_of_lt hbl2), own_mono (own_drewN hownS7 _) (Nat.le_of_lt hbl2), below_drewN hB7 _⟩
        · have f2 := f2 hG
          subst f2
          have hG' : (G == 0) = false := by rw [beq_eq_false_iff_ne]; exact hG
          have HA4 := Lib.hid ha'
          clear f3 hG ha' hE
          go_wp2_with (first
            | (go_at_call 81; (refine (err_any _ _ _ hR.out).mono ?_); rintro e w6 ⟨rfl, rfl⟩)
            | (go_at_call 52; (with_reducible refine (hri.out _ _ _ HA4.out hB).mono ?_); rintro e w7 ⟨rfl, hb7⟩; have hB7 := below_on hB hb7))
          ((try simp only [Exit.inBlock, Exit.then]); refine bodyPost_ret (results_tmp4 rfl _ _ _) rfl ?_)
          unfold HeadOut
          exact ⟨_, _, rfl, World.ownsRow_nil _ _ _ _, World.ownsRow_nil _ _ _ _, hB7⟩
      · have f1 := f1 hee
        subst f1
        have hee' : (r.e == 0) = false := by rw [beq_eq_false_iff_ne]; exact hee
        clear f2 f3 hee
        go_wp2_with (go_at_call 81; (refine (err_any _ _ _ hR.out).mono ?_); rintro e w6 ⟨rfl, rfl⟩)
        ((try simp only [Exit.inBlock, Exit.then]); refine bodyPost_ret (results_tmp4 rfl _ _ _) rfl ?_)
        unfold HeadOut
        exact ⟨_, _, rfl, World.ownsRow_nil _ _ _ _, World.ownsRow_nil _ _ _ _, hB⟩
end Go.Proofs.YtakdngcgjahafaaDoor
/- Chapter 10: the walk through image.Tree. -/
namespace Go.Proofs.YtakdngcgjahafaaDoor
open Go.RowKit
set_option linter.unusedVariables false

theorem headEnd_len (y : Int × List SzD × Rd) : (headEnd y).l.length ≤ 256 := by
  unfold headEnd
  by_cases h1 : y.1 = 0
  · rw [if_pos h1]
    by_cases h2 : checkE (y.2.1.map (·.f)) = 0
    · rw [if_pos h2]
      have := (check_good h2).1
      rwa [List.length_map] at this
    · rw [if_neg h2]; simp
  · rw [if_neg h1]; simp
theorem head_len (s : ByteArray) : (headOf s).l.length ≤ 256 := headEnd_len _
theorem set_cell {done rest : List FileD} {f : FileD} {k : Nat} (hk : done.length = k) (d : ByteArray) :
    (fcells (done ++ f :: rest)).set (k * 3 + 2) (.string d) = fcells ((done ++ [⟨f.path, f.mode, d⟩]) ++ rest) := by
  have h1 : (fcells done).length = k * 3 := by rw [fcells_len, hk]
  have e1 : fcells (done ++ f :: rest) = fcells done ++ (([Value.string f.path, .int .i64 f.mode, .string f.data] : List Value) ++ fcells rest) := by
    rw [fcells_app]; rfl
  have e2 : fcells ((done ++ [⟨f.path, f.mode, d⟩]) ++ rest) = fcells done ++ (([Value.string f.path, .int .i64 f.mode, .string d] : List Value) ++ fcells rest) := by
    rw [List.append_assoc, fcells_app]; rfl
  rw [e1, e2, List.set_append_right _ _ (by omega)]
  congr 1
  rw [h1, show k * 3 + 2 - k * 3 = 2 by omega]
  rfl
theorem hfiles_drop {l : List SzD} {k : Nat} {x : SzD} (h : l[k]? = some x) : (hfiles l).drop k = x.f :: (hfiles l).drop (k + 1) := by
  apply drop_head
  unfold hfiles
  rw [List.getElem?_map, h]
  rfl
theorem row_at {done rest : List FileD} {f : FileD} {k : Nat} (hk : done.length = k) : (done ++ f :: rest)[k]? = some f := by
  rw [List.getElem?_append_right (by omega), hk, Nat.sub_self]
  rfl
theorem ncell_at {l : List SzD} {k : Nat} {x : SzD} (h : l[k]? = some x) : (ncells l)[k]? = some (.int .i64 (x.n : Int)) := by unfold ncells; rw [List.getElem?_map, h]; rfl
def TRel (w : World) (s : ByteArray) (L : List SzD) (T : Int × List FileD) (vf vs va v : Value) (wr : World) : Prop := ∃ (k a : Nat) (done : List FileD), k ≤ L.length ∧ v = .int .i64 k ∧ va = .int .i64 a ∧ a ≤ s.size ∧
  wr.ownsRow w.heap.size 69 3 vf L.length (fcells (done ++ (hfiles L).drop k)) ∧ wr.ownsRow w.heap.size 3 1 vs L.length (ncells L) ∧ Hid (done.length = k) ∧ Hid (treeGo s (L.drop k) a done = T) ∧ Below w.heap.size w wr
set_option maxHeartbeats 4000000 in
set_option maxRecDepth 100000 in
theorem tree_any (s : ByteArray) (w : World) (hs : s.size ≤ 9223372036854775807) (hm : Ml w) :
    Calls Tryd.prog 58 #[.string s] w (TreeOut w (treeOf s)) := by
  by_cases hbig : 524288 < s.size
  · have hb : (524288 : Int) < s.size := by omega
    rw [show treeOf s = (4, []) from if_pos hbig]
    go_enter Tryd.func58, Tryd.ntmps58
    go_wp2
    go_ret2
    unfold TreeOut
    exact ⟨_, rfl, World.ownsRow_nil _ _ _ _, Below.refl _ _⟩
  · have hb : ¬ (524288 : Int) < s.size := by omega
    have hh := head_any s w (by omega) hm
    obtain ⟨hfa, hfn⟩ := headOf_facts s hs
    have hLl := head_len s
    have hT : treeOf s = if (headOf s).e = 0 then treeGo s (headOf s).l (headOf s).at_ [] else ((headOf s).e, []) := if_neg hbig
    unfold HeadOut at hh
    rw [hT]
    clear hT
    generalize headOf s = H at *
    obtain ⟨E, L, a0⟩ := H
    simp only [] at *
    have HH := Lib.hid hh
    have HFN := Lib.hid hfn
    clear hh hfn
    by_cases hE : E = 0
    · subst hE
      rw [if_pos rfl]
      generalize hT : treeGo s L a0 [] = T
      have HT : Hid (treeGo s (L.drop 0) a0 [] = T) := Lib.hid hT
      clear hT
      go_enter Tryd.func58, Tryd.ntmps58
      go_wp2_with (go_at_call 68; (with_reducible refine HH.out.mono ?_); rintro e w1 ⟨vf, vs, rfl, hown, hownS, hB⟩; obtain ⟨A2, c2, rfl, hcap2, ha2, hfr2⟩ := own_arr hownS; clear ha2 hfr2; obtain ⟨A1, c1, rfl, hcap1, ha1, hfr1⟩ := own_arr hown; clear ha1 hfr1)
      go_loopw [6, 25] (fun va v wr => TRel w s L T (.slice A1 L.length c1) (.slice A2 L.length c2) va v wr) (fun _ v _ => L.length - (intOf v).toNat)
      case atStart => unfold TRel; exact ⟨0, a0, [], Nat.zero_le _, rfl, rfl, hfa, hown, hownS, Lib.hid rfl, HT, hB⟩
      case round =>
        unfold TRel at hrel
        clear hown hownS hB HT
        obtain ⟨k, a, done, hk, rfl, rfl, ha, hown, hownS, HD, HK, hB⟩ := hrel
        by_cases hlt : k < L.length
        · obtain ⟨x, hx⟩ : ∃ x, L[k]? = some x := ⟨_, List.getElem?_eq_getElem hlt⟩
          have hdr := hfiles_drop hx
          rw [hdr] at hown
          obtain ⟨g1, cap1, e1, hg1, _⟩ := hown.form (by omega)
          obtain ⟨g2, cap2, e2, hg2, _⟩ := hownS.form (by omega)
          injection e1 with e1 _ e1'
          injection e2 with e2 _ e2'
          subst e1 e1' e2 e2'
          have hsz := (hownS.cellAt k (by omega)).trans (ncell_at hx)
          obtain ⟨y0, y1, y2⟩ := fcell_at (row_at (f := x.f) (rest := (hfiles L).drop (k + 1)) HD.out)
          have z2 := (hown.cellAt (k * 3 + 2) (by omega)).trans y2
          have zf := hown.frozenAt (k * 3 + 2)
          have hxn := HFN.out x (List.mem_of_getElem? hx)
          have kl : (k : Int) < L.length := by omega
          by_cases hsh : s.size < a + x.n
          · have hd : (s.size : Int) - a < x.n := by omega
            have hst := (treeGo_short hx hsh).symm.trans HK.out
            subst hst
            clear hdr hx y0 y1 y2 HK
            go_wp2
            go_ret2
            unfold TreeOut
            exact ⟨_, rfl, World.ownsRow_nil _ _ _ _, hB⟩
          · have hd : ¬ (s.size : Int) - a < x.n := by omega
            have HST := Lib.hid ((treeGo_next hx hsh).symm.trans HK.out)
            obtain ⟨hst1, hst2⟩ := hown.stored (k * 3 + 2) (.string (s.extract a (a + x.n)))
            rw [set_cell HD.out] at hst1
            have hownS2 := hownS.kept hst2 (own_apart hownS hown (by decide))
            have hB2 := hB.grown hst2 hB.size (fun j hj => by injection hj with hj; have := (hown.lt g1 rfl).1; omega)
            have HD2 : Hid ((done ++ [(⟨x.f.path, x.f.mode, s.extract a (a + x.n)⟩ : FileD)]).length = k + 1) := Lib.hid (by rw [List.length_append, HD.out]; rfl)
            have i0 : (0 : Int) ≤ (a : Int) := by omega
            have i1 : (a : Int) ≤ (a : Int) + x.n := by omega
            have i2 : (a : Int) + x.n ≤ s.size := by omega
            clear hdr hx y0 y1 y2 HK
            go_wp2
            go_roundw
            case rel => unfold TRel; exact ⟨k + 1, a + x.n, _, by omega, by go_num, by go_num, by omega, hst1, hownS2, HD2, HST, hB2⟩
            case measure => simp [intOf] <;> omega
        · have hkl : k = L.length := by omega
          subst hkl
          have hdr : (hfiles L).drop L.length = [] := List.drop_eq_nil_of_le (by rw [hfiles_len]; exact Nat.le_refl _)
          rw [hdr, List.append_nil] at hown
          by_cases hend : a < s.size
          · have hd : (a : Int) < s.size := by omega
            have hst := (treeGo_long (Nat.le_refl _) hend).symm.trans HK.out
            subst hst
            clear hdr HK
            go_wp2
            go_ret2
            unfold TreeOut
            exact ⟨_, rfl, World.ownsRow_nil _ _ _ _, hB⟩
          · have hd : ¬ (a : Int) < s.size := by omega
            have hst := (treeGo_ok (Nat.le_refl _) hend).symm.trans HK.out
            have HST := Lib.hid hst
            clear hdr HK hst
            go_wp2
            go_ret2
            have hst := HST.out
            subst hst
            unfold TreeOut
            exact ⟨_, rfl, by rw [HD.out]; exact hown, hB⟩
    · rw [if_neg hE]
      have e0 : (E == 0) = false := by rw [beq_eq_false_iff_ne]; exact hE
      go_enter Tryd.func58, Tryd.ntmps58
      go_wp2_with (go_at_call 68; (with_reducible refine HH.out.mono ?_); rintro e w1 ⟨vf, vs, rfl, hown, hownS, hB⟩)
      go_ret2
      unfold TreeOut
      exact ⟨_, rfl, World.ownsRow_nil _ _ _ _, hB⟩
end Go.Proofs.YtakdngcgjahafaaDoor
