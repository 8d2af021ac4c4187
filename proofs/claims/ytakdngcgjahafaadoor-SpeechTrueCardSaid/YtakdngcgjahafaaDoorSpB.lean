/- Chapter 22: whether files, answers, logs are alike.; Chapter 22: whether logs are alike.; Chapter 22: few: a call with at most 8 files of at most 200 bytes.; Chapter 22: events, the finder's state; idle.; Chapter 22: the finder's over and free.; Chapter 22: looking for an order, plain.; Chapter 22: the finder's state as it is turned; changes. -/
import Derived.Test.YtakdngcgjahafaaDoorSp1
import Derived.WalkSmall
/- Chapter 22: whether files, answers, logs are alike. -/
namespace Go.Proofs.YtakdngcgjahafaaDoor
open Go.RowKit
set_option linter.unusedVariables false

/-- A Go bool that tells a proposition. -/
def TellsB (p : Prop) (w : World) (e : Ending) (w' : World) : Prop := ∃ b : Bool, e = .returned (.bool b) ∧ (b = true ↔ p) ∧ Below w.heap.size w w'
theorem tells_t {p : Prop} {w w' : World} (hp : p) (hb : Below w.heap.size w w') : TellsB p w (.returned (.bool true)) w' := ⟨true, rfl, ⟨fun _ => hp, fun _ => rfl⟩, hb⟩
theorem tells_f {p : Prop} {w w' : World} (hp : ¬ p) (hb : Below w.heap.size w w') : TellsB p w (.returned (.bool false)) w' := ⟨false, rfl, ⟨fun h => (Bool.false_ne_true h).elim, fun h => absurd h hp⟩, hb⟩
theorem take_eq_all {α : Type} {l m : List α} {k : Nat} (h : l.take k = m.take k) (hl : l.length ≤ k) (hm : m.length ≤ k) : l = m := by
  rwa [List.take_of_length_le hl, List.take_of_length_le hm] at h
theorem take_step {α : Type} {l m : List α} {k : Nat} {f : α} (h : l.take k = m.take k) (hl : l[k]? = some f) (hm : m[k]? = some f) : l.take (k + 1) = m.take (k + 1) := by
  rw [List.take_add_one, List.take_add_one, h, hl, hm]
theorem drewb {w W : World} {n : Nat} (h : Below w.heap.size w W) : Below w.heap.size w (W.drewN n) := below_drewN h n
set_option maxHeartbeats 2000000 in
set_option maxRecDepth 100000 in
theorem files_eq (A : Option Addr) (c : Nat) (B : Option Addr) (d : Nat) (l m : List FileD) (w : World) (hz : l.length ≤ 9223372036854775807) (hz2 : m.length ≤ 9223372036854775807)
    (ha : Arr w w.heap.size 3 A l.length (fcells l)) (hb : Arr w w.heap.size 3 B m.length (fcells m)) :
    Calls Tryd.prog 39 #[.slice A l.length c, .slice B m.length d] w (TellsB (l = m) w) := by
  have HA := Lib.hid ha
  have HB := Lib.hid hb
  clear ha hb
  by_cases hlm : l.length = m.length
  · obtain ⟨n, hn⟩ : ∃ n, l.length = n := ⟨_, rfl⟩
    have hn2 : m.length = n := by omega
    rw [hn] at HA hz ⊢
    rw [hn2] at HB ⊢
    clear hlm hz2
    have Hn := Lib.hid hn
    have Hn2 := Lib.hid hn2
    clear hn hn2
    go_enter Tryd.func39, Tryd.ntmps39
    go_wp2
    go_loopw [5] (fun v wr => ∃ (k : Nat), k ≤ n ∧ v = .int .i64 k ∧ Hid (l.take k = m.take k) ∧ Below w.heap.size w wr) (fun v _ => n - (intOf v).toNat)
    case atStart => exact ⟨0, Nat.zero_le _, rfl, Lib.hid rfl, Below.refl _ _⟩
    case round =>
      obtain ⟨k, hk, rfl, HT, hB⟩ := hrel
      by_cases hlt : k < n
      · obtain ⟨f, hf⟩ : ∃ f, l[k]? = some f := ⟨_, List.getElem?_eq_getElem (by have := Hn.out; omega)⟩
        obtain ⟨g, hg⟩ : ∃ g, m[k]? = some g := ⟨_, List.getElem?_eq_getElem (by have := Hn2.out; omega)⟩
        obtain ⟨b, o, rfl, hb, hcell⟩ := HA.out.2 (by omega)
        obtain ⟨b2, o2, rfl, hb2, hcell2⟩ := HB.out.2 (by omega)
        obtain ⟨c0, c1, c2⟩ := file_cells (fun i u h => (hB.cell (p := ⟨b, o + i, none⟩) hb).trans (hcell i u h)) hf
        obtain ⟨e0, e1, e2⟩ := file_cells (fun i u h => (hB.cell (p := ⟨b2, o2 + i, none⟩) hb2).trans (hcell2 i u h)) hg
        have HF := Lib.hid hf
        have HG := Lib.hid hg
        clear hf hg hcell hcell2
        have kl : (k : Int) < n := by omega
        by_cases hfg : f = g
        · subst hfg
          go_wp2
          go_quiet (fail)
          go_wp2
          go_roundw
          case rel => exact ⟨k + 1, by omega, by go_num, Lib.hid (take_step HT.out HF.out HG.out), drewb hB⟩
          case measure => simp [intOf] <;> omega
        · have HN : Hid (l ≠ m) := Lib.hid (fun h => by
            have e1 := HF.out
            rw [h, HG.out] at e1
            injection e1 with e1
            exact hfg e1.symm)
          by_cases hp : f.path = g.path
          · by_cases hm : f.mode = g.mode
            · have hd : f.data ≠ g.data := fun hd => hfg (by cases f; cases g; simp at hp hm hd; subst hp hm hd; rfl)
              have g1 := str_ne hd
              rw [← hp] at e0
              rw [← hm] at e1
              clear hfg hp hm hd
              go_wp2
              go_quiet (fail)
              go_wp2
              go_ret
              exact tells_f HN.out (drewb hB)
            · have g1 : (f.mode == g.mode) = false := by rw [beq_eq_false_iff_ne]; exact hm
              rw [← hp] at e0
              clear hfg hp hm
              go_wp2
              go_quiet (fail)
              go_wp2
              go_ret
              exact tells_f HN.out (drewb hB)
          · have g1 := str_ne hp
            clear hfg hp
            go_wp2
            go_quiet (fail)
            go_wp2
            go_ret
            exact tells_f HN.out (drewb hB)
      · go_wp2
        go_ret
        exact tells_t (take_eq_all HT.out (by have := Hn.out; omega) (by have := Hn2.out; omega)) hB
  · have hne : ((l.length : Int) != (m.length : Int)) = true := by simp; omega
    have hne2 : ((l.length : Int) == (m.length : Int)) = false := by rw [beq_eq_false_iff_ne]; omega
    go_enter Tryd.func39, Tryd.ntmps39
    go_wp2
    go_ret
    exact tells_f (fun h => hlm (by rw [h])) (Below.refl _ _)
set_option maxHeartbeats 2000000 in
set_option maxRecDepth 100000 in
theorem equal_eq (A : Option Addr) (c : Nat) (B : Option Addr) (d : Nat) (l m : List FileD) (w : World) (hz : l.length ≤ 9223372036854775807) (hz2 : m.length ≤ 9223372036854775807)
    (ha : Arr w w.heap.size 3 A l.length (fcells l)) (hb : Arr w w.heap.size 3 B m.length (fcells m)) :
    Calls Tryd.prog 62 #[.slice A l.length c, .slice B m.length d] w (TellsB (l = m) w) := by
  have HA := Lib.hid ha
  have HB := Lib.hid hb
  clear ha hb
  by_cases hlm : l.length = m.length
  · obtain ⟨n, hn⟩ : ∃ n, l.length = n := ⟨_, rfl⟩
    have hn2 : m.length = n := by omega
    rw [hn] at HA hz ⊢
    rw [hn2] at HB ⊢
    clear hlm hz2
    have Hn := Lib.hid hn
    have Hn2 := Lib.hid hn2
    clear hn hn2
    go_enter Tryd.func62, Tryd.ntmps62
    go_wp2
    go_loopw [13] (fun v wr => ∃ (k : Nat), k ≤ n ∧ v = .int .i64 k ∧ Hid (l.take k = m.take k) ∧ Below w.heap.size w wr) (fun v _ => n - (intOf v).toNat)
    case atStart => exact ⟨0, Nat.zero_le _, rfl, Lib.hid rfl, Below.refl _ _⟩
    case round =>
      obtain ⟨k, hk, rfl, HT, hB⟩ := hrel
      by_cases hlt : k < n
      · obtain ⟨f, hf⟩ : ∃ f, l[k]? = some f := ⟨_, List.getElem?_eq_getElem (by have := Hn.out; omega)⟩
        obtain ⟨g, hg⟩ : ∃ g, m[k]? = some g := ⟨_, List.getElem?_eq_getElem (by have := Hn2.out; omega)⟩
        obtain ⟨b, o, rfl, hb, hcell⟩ := HA.out.2 (by omega)
        obtain ⟨b2, o2, rfl, hb2, hcell2⟩ := HB.out.2 (by omega)
        obtain ⟨c0, c1, c2⟩ := file_cells (fun i u h => (hB.cell (p := ⟨b, o + i, none⟩) hb).trans (hcell i u h)) hf
        obtain ⟨e0, e1, e2⟩ := file_cells (fun i u h => (hB.cell (p := ⟨b2, o2 + i, none⟩) hb2).trans (hcell2 i u h)) hg
        have HF := Lib.hid hf
        have HG := Lib.hid hg
        clear hf hg hcell hcell2
        have kl : (k : Int) < n := by omega
        by_cases hfg : f = g
        · subst hfg
          go_wp2
          go_quiet (fail)
          go_wp2
          go_roundw
          case rel => exact ⟨k + 1, by omega, by go_num, Lib.hid (take_step HT.out HF.out HG.out), drewb hB⟩
          case measure => simp [intOf] <;> omega
        · have HN : Hid (l ≠ m) := Lib.hid (fun h => by
            have e1 := HF.out
            rw [h, HG.out] at e1
            injection e1 with e1
            exact hfg e1.symm)
          by_cases hp : f.path = g.path
          · by_cases hm : f.mode = g.mode
            · have hd : f.data ≠ g.data := fun hd => hfg (by cases f; cases g; simp at hp hm hd; subst hp hm hd; rfl)
              have g1 := str_ne hd
              rw [← hp] at e0
              rw [← hm] at e1
              clear hfg hp hm hd
              go_wp2
              go_quiet (fail)
              go_wp2
              go_ret
              exact tells_f HN.out (drewb hB)
            · have g1 : (f.mode == g.mode) = false := by rw [beq_eq_false_iff_ne]; exact hm
              rw [← hp] at e0
              clear hfg hp hm
              go_wp2
              go_quiet (fail)
              go_wp2
              go_ret
              exact tells_f HN.out (drewb hB)
          · have g1 := str_ne hp
            clear hfg hp
            go_wp2
            go_quiet (fail)
            go_wp2
            go_ret
            exact tells_f HN.out (drewb hB)
      · go_wp2
        go_ret
        exact tells_t (take_eq_all HT.out (by have := Hn.out; omega) (by have := Hn2.out; omega)) hB
  · have hne : ((l.length : Int) != (m.length : Int)) = true := by simp; omega
    have hne2 : ((l.length : Int) == (m.length : Int)) = false := by rw [beq_eq_false_iff_ne]; omega
    go_enter Tryd.func62, Tryd.ntmps62
    go_wp2
    go_ret
    exact tells_f (fun h => hlm (by rw [h])) (Below.refl _ _)
set_option maxHeartbeats 2000000 in
set_option maxRecDepth 100000 in
theorem answers_any (a b : AnsD) (A B : Option Addr) (c d : Nat) (M M' : Value) (w : World) (hz : a.files.length ≤ 9223372036854775807) (hz2 : b.files.length ≤ 9223372036854775807)
    (ha : Arr w w.heap.size 3 A a.files.length (fcells a.files)) (hb : Arr w w.heap.size 3 B b.files.length (fcells b.files)) (h1 : M.oneCell' = true) (h2 : M'.oneCell' = true) :
    Calls Tryd.prog 17 #[.agg #[.int .i64 a.err, .int .i64 a.gen, .int .i64 a.floor, .slice A a.files.length c, M], .agg #[.int .i64 b.err, .int .i64 b.gen, .int .i64 b.floor, .slice B b.files.length d, M']] w (TellsB (a = b) w) := by
  have FL := Lib.hid (fun W h h' => files_eq A c B d a.files b.files W hz hz2 h h')
  have HA := Lib.hid ha
  have HB := Lib.hid hb
  clear ha hb
  obtain ⟨ae, ag, af, al⟩ := a
  obtain ⟨be, bg, bf, bl⟩ := b
  simp only [] at HA HB FL hz hz2 ⊢
  unfold TellsB at FL
  have hB : Below w.heap.size w ((w.alloc (.cells #[.int .i64 ae, .int .i64 ag, .int .i64 af, .slice A al.length c, M] 34)).alloc (.cells #[.int .i64 be, .int .i64 bg, .int .i64 bf, .slice B bl.length d, M'] 34)) := ((Below.refl _ w).alloc (Nat.le_refl _) _).alloc (by simp) _
  by_cases q1 : ae = be
  · subst q1
    by_cases q2 : ag = bg
    · subst q2
      by_cases q3 : af = bf
      · subst q3
        go_enter Tryd.func17, Tryd.ntmps17
        go_wp2_with (go_at_call 39; (with_reducible refine (FL.out _ ((HA.out.below hB).more hB.size) ((HB.out.below hB).more hB.size)).mono ?_); rintro e w3 ⟨t, rfl, ht, hb3⟩; have HT := Lib.hid ht; clear ht)
        go_ret
        exact ⟨t, rfl, HT.out.trans ⟨fun h => by rw [h], fun h => by injection h⟩, below_on hB hb3⟩
      · have g1 : (af == bf) = false := by rw [beq_eq_false_iff_ne]; exact q3
        go_enter Tryd.func17, Tryd.ntmps17
        go_wp2
        go_ret
        exact tells_f (fun h => q3 (by injection h)) hB
    · have g1 : (ag == bg) = false := by rw [beq_eq_false_iff_ne]; exact q2
      go_enter Tryd.func17, Tryd.ntmps17
      go_wp2
      go_ret
      exact tells_f (fun h => q2 (by injection h)) hB
  · have g1 : (ae == be) = false := by rw [beq_eq_false_iff_ne]; exact q1
    go_enter Tryd.func17, Tryd.ntmps17
    go_wp2
    go_ret
    exact tells_f (fun h => q1 (by injection h)) hB
set_option maxHeartbeats 2000000 in
set_option maxRecDepth 100000 in
theorem same_any (a b : AnsD) (A B : Option Addr) (c d : Nat) (M M' : Value) (w : World) (hz : a.files.length ≤ 9223372036854775807) (hz2 : b.files.length ≤ 9223372036854775807)
    (ha : Arr w w.heap.size 3 A a.files.length (fcells a.files)) (hb : Arr w w.heap.size 3 B b.files.length (fcells b.files)) (h1 : M.oneCell' = true) (h2 : M'.oneCell' = true) :
    Calls Tryd.prog 46 #[.agg #[.int .i64 a.err, .int .i64 a.gen, .int .i64 a.floor, .slice A a.files.length c, M], .agg #[.int .i64 b.err, .int .i64 b.gen, .int .i64 b.floor, .slice B b.files.length d, M']] w (TellsB (a = b) w) := by
  have FL := Lib.hid (fun W h h' => equal_eq A c B d a.files b.files W hz hz2 h h')
  have HA := Lib.hid ha
  have HB := Lib.hid hb
  clear ha hb
  obtain ⟨ae, ag, af, al⟩ := a
  obtain ⟨be, bg, bf, bl⟩ := b
  simp only [] at HA HB FL hz hz2 ⊢
  unfold TellsB at FL
  have hB : Below w.heap.size w ((w.alloc (.cells #[.int .i64 ae, .int .i64 ag, .int .i64 af, .slice A al.length c, M] 34)).alloc (.cells #[.int .i64 be, .int .i64 bg, .int .i64 bf, .slice B bl.length d, M'] 34)) := ((Below.refl _ w).alloc (Nat.le_refl _) _).alloc (by simp) _
  by_cases q1 : ae = be
  · subst q1
    by_cases q2 : ag = bg
    · subst q2
      by_cases q3 : af = bf
      · subst q3
        go_enter Tryd.func46, Tryd.ntmps46
        go_wp2_with (go_at_call 62; (with_reducible refine (FL.out _ ((HA.out.below hB).more hB.size) ((HB.out.below hB).more hB.size)).mono ?_); rintro e w3 ⟨t, rfl, ht, hb3⟩; have HT := Lib.hid ht; clear ht)
        go_ret
        exact ⟨t, rfl, HT.out.trans ⟨fun h => by rw [h], fun h => by injection h⟩, below_on hB hb3⟩
      · have g1 : (af == bf) = false := by rw [beq_eq_false_iff_ne]; exact q3
        go_enter Tryd.func46, Tryd.ntmps46
        go_wp2
        go_ret
        exact tells_f (fun h => q3 (by injection h)) hB
    · have g1 : (ag == bg) = false := by rw [beq_eq_false_iff_ne]; exact q2
      go_enter Tryd.func46, Tryd.ntmps46
      go_wp2
      go_ret
      exact tells_f (fun h => q2 (by injection h)) hB
  · have g1 : (ae == be) = false := by rw [beq_eq_false_iff_ne]; exact q1
    go_enter Tryd.func46, Tryd.ntmps46
    go_wp2
    go_ret
    exact tells_f (fun h => q1 (by injection h)) hB
end Go.Proofs.YtakdngcgjahafaaDoor
/- Chapter 22: whether logs are alike. -/
namespace Go.Proofs.YtakdngcgjahafaaDoor
open Go.RowKit
set_option linter.unusedVariables false

set_option maxHeartbeats 2000000 in
set_option maxRecDepth 100000 in
theorem logs_any (fa fb : Int) (A B : Option Addr) (c d : Nat) (l m : List ByteArray) (w : World) (hz : l.length ≤ 9223372036854775807) (hz2 : m.length ≤ 9223372036854775807)
    (ha : Arr w w.heap.size 1 A l.length (l.map Value.string)) (hb : Arr w w.heap.size 1 B m.length (m.map Value.string)) :
    Calls Tryd.prog 16 #[.agg #[.int .i64 fa, .slice A l.length c], .agg #[.int .i64 fb, .slice B m.length d]] w (TellsB (fa = fb ∧ l = m) w) := by
  have HA := Lib.hid ha
  have HB := Lib.hid hb
  clear ha hb
  have hB0 : Below w.heap.size w ((w.alloc (.cells #[.int .i64 fa, .slice A l.length c] 25)).alloc (.cells #[.int .i64 fb, .slice B m.length d] 27)) := ((Below.refl _ w).alloc (Nat.le_refl _) _).alloc (by simp) _
  by_cases hf : fa = fb
  · subst hf
    by_cases hlm : l.length = m.length
    · obtain ⟨n, hn⟩ : ∃ n, l.length = n := ⟨_, rfl⟩
      have hn2 : m.length = n := by omega
      rw [hn] at HA hz hB0 ⊢
      rw [hn2] at HB hB0 ⊢
      have HX := (Blk.new w 25 #[.int .i64 fa, .slice A n c]).alloc (.cells #[.int .i64 fa, .slice B n d] 27)
      have HY := Blk.new' (w := w.alloc (.cells #[.int .i64 fa, .slice A n c] 25)) (g := w.heap.size + 1) (by simp) 27 #[.int .i64 fa, .slice B n d]
      clear hlm hz2
      have Hn := Lib.hid hn
      have Hn2 := Lib.hid hn2
      clear hn hn2
      go_enter Tryd.func16, Tryd.ntmps16
      go_wp2
      generalize (w.alloc (.cells #[.int .i64 fa, .slice A n c] 25)).alloc (.cells #[.int .i64 fa, .slice B n d] 27) = w1 at *
      have hx1 := HX.lt
      have hy1 := HY.lt
      go_loopw [5] (fun v wr => ∃ (k : Nat), k ≤ n ∧ v = .int .i64 k ∧ Hid (l.take k = m.take k) ∧ Below w1.heap.size w1 wr) (fun v _ => n - (intOf v).toNat)
      case atStart => exact ⟨0, Nat.zero_le _, rfl, Lib.hid rfl, Below.refl _ _⟩
      case round =>
        obtain ⟨k, hk, rfl, HT, hB⟩ := hrel
        obtain ⟨p0, p1, _, _⟩ := hcells (HX.below hB hx1)
        obtain ⟨q0, q1, _, _⟩ := hcells (HY.below hB hy1)
        have hBw := hB0.trans (hB.mono hB0.size)
        by_cases hlt : k < n
        · obtain ⟨f, hf⟩ : ∃ f, l[k]? = some f := ⟨_, List.getElem?_eq_getElem (by have := Hn.out; omega)⟩
          obtain ⟨g, hg⟩ : ∃ g, m[k]? = some g := ⟨_, List.getElem?_eq_getElem (by have := Hn2.out; omega)⟩
          obtain ⟨b, o, rfl, hb, hcell⟩ := HA.out.2 (by omega)
          obtain ⟨b2, o2, rfl, hb2, hcell2⟩ := HB.out.2 (by omega)
          have c0 := (hBw.cell (p := ⟨b, o + k, none⟩) hb).trans (hcell k _ (str_at hf))
          have e0 := (hBw.cell (p := ⟨b2, o2 + k, none⟩) hb2).trans (hcell2 k _ (str_at hg))
          have HF := Lib.hid hf
          have HG := Lib.hid hg
          clear hf hg hcell hcell2
          have kl : (k : Int) < n := by omega
          by_cases hfg : f = g
          · subst hfg
            go_wp2
            go_quiet (fail)
            go_wp2
            go_roundw
            case rel => exact ⟨k + 1, by omega, by go_num, Lib.hid (take_step HT.out HF.out HG.out), drewb hB⟩
            case measure => simp [intOf] <;> omega
          · have HN : Hid (l ≠ m) := Lib.hid (fun h => by
              have e1 := HF.out
              rw [h, HG.out] at e1
              injection e1 with e1
              exact hfg e1.symm)
            have g1 := str_ne hfg
            clear hfg
            go_wp2
            go_quiet (fail)
            go_wp2
            go_ret
            exact tells_f (fun h => HN.out h.2) (drewb hBw)
        · go_wp2
          go_ret
          exact tells_t (by have h := take_eq_all HT.out (by have := Hn.out; omega) (by have := Hn2.out; omega); exact ⟨by trivial, h⟩) hBw
    · have hne : ((l.length : Int) != (m.length : Int)) = true := by simp; omega
      have hne2 : ((l.length : Int) == (m.length : Int)) = false := by rw [beq_eq_false_iff_ne]; omega
      go_enter Tryd.func16, Tryd.ntmps16
      go_wp2
      go_ret
      exact tells_f (fun h => hlm (by rw [h.2])) hB0
  · have g1 : (fa != fb) = true := by simp [hf]
    have g2 : (fa == fb) = false := by rw [beq_eq_false_iff_ne]; exact hf
    go_enter Tryd.func16, Tryd.ntmps16
    go_wp2
    go_ret
    exact tells_f (fun h => hf h.1) hB0
end Go.Proofs.YtakdngcgjahafaaDoor
/- Chapter 22: few: a call with at most 8 files of at most 200 bytes. -/
namespace Go.Proofs.YtakdngcgjahafaaDoor
open Go.RowKit
set_option linter.unusedVariables false

def cut200 (f : FileD) : FileD := ⟨f.path, f.mode, if 200 < f.data.size then f.data.extract 0 200 else f.data⟩
def few8 (l : List FileD) : List FileD := (l.take 8).map cut200
theorem few8_len (l : List FileD) : (few8 l).length ≤ 8 := by
  unfold few8
  rw [List.length_map, List.length_take]
  omega
theorem few8_ok {l : List FileD} (h : ∀ f ∈ l, FOk f) : ∀ f ∈ few8 l, FOk f := by
  intro f hf
  unfold few8 at hf
  obtain ⟨g, hg, rfl⟩ := List.mem_map.1 hf
  have h1 := h g (List.mem_of_mem_take hg)
  refine ⟨h1.1, ?_⟩
  show (cut200 g).data.size ≤ _
  unfold cut200
  by_cases hb : 200 < g.data.size
  · rw [if_pos hb, ByteArray.size_extract]; omega
  · rw [if_neg hb]; exact h1.2
theorem tcells {W : World} {g : Nat} {t : TypeId} {a b c : Value} (h : Blk W g t #[a, b, c]) : W.cell? ⟨g, 0, none⟩ = some a ∧ W.cell? ⟨g, 1, none⟩ = some b ∧ W.cell? ⟨g, 2, none⟩ = some c ∧ W.frozen? ⟨g, 0, none⟩ = false ∧ W.frozen? ⟨g, 1, none⟩ = false ∧ W.frozen? ⟨g, 2, none⟩ = false :=
  ⟨h.cell 0, h.cell 1, h.cell 2, h.frozen 0, h.frozen 1, h.frozen 2⟩
def CallOut (w : World) (kind gen : Int) (R : List FileD) (e : Ending) (w' : World) : Prop := ∃ V, e = .returned (.agg #[.int .i64 kind, .int .i64 gen, V]) ∧ w'.ownsRow w.heap.size 69 3 V R.length (fcells R) ∧ Below w.heap.size w w'
theorem few8_step {l : List FileD} {k : Nat} {f : FileD} (h : l[k]? = some f) (hk : k < 8) : (l.take (k + 1)).map cut200 = (l.take k).map cut200 ++ [cut200 f] := by
  rw [List.take_add_one, h]
  simp
set_option maxHeartbeats 2000000 in
set_option maxRecDepth 100000 in
theorem few22 (kind gen : Int) (A : Option Addr) (c : Nat) (l : List FileD) (w : World) (hz : l.length ≤ 9223372036854775807) (hx : ∀ f ∈ l, FOk f) (hc : Arr w w.heap.size 3 A l.length (fcells l)) :
    Calls Tryd.prog 13 #[.agg #[.int .i64 kind, .int .i64 gen, .slice A l.length c]] w (CallOut w kind gen (few8 l)) := by
  obtain ⟨i2, fi0, fz0, fz1, fz2⟩ := info_parts infoFile
  have HC := Lib.hid hc
  have HX := Lib.hid hx
  have hB0 : Below w.heap.size w ((w.alloc (.cells #[Value.int .i64 kind, .int .i64 gen, .slice A l.length c] 30)).alloc (.cells #[Value.int .i64 0, .int .i64 0, .slice none 0 0] 30)) := ((Below.refl _ w).alloc (Nat.le_refl _) _).alloc (by simp) _
  have HP := (Blk.new w 30 #[Value.int .i64 kind, .int .i64 gen, .slice A l.length c]).alloc (.cells #[Value.int .i64 0, .int .i64 0, .slice none 0 0] 30)
  have HQ := Blk.new' (w := w.alloc (.cells #[Value.int .i64 kind, .int .i64 gen, .slice A l.length c] 30)) (g := w.heap.size + 1) (by simp) 30 #[Value.int .i64 0, .int .i64 0, .slice none 0 0]
  clear hc hx
  go_enter Tryd.func13, Tryd.ntmps13
  go_wp2
  generalize (w.alloc (.cells #[Value.int .i64 kind, .int .i64 gen, .slice A l.length c] 30)).alloc (.cells #[Value.int .i64 0, .int .i64 0, .slice none 0 0] 30) = w1 at *
  have hx1 := HP.lt
  have hy1 := HQ.lt
  go_loopw [3, 4] (fun vo v wr => ∃ k : Nat, k ≤ l.length ∧ k ≤ 8 ∧ v = .int .i64 k ∧ wr.ownsRow w1.heap.size 69 3 vo k (fcells ((l.take k).map cut200)) ∧ Below w1.heap.size w1 wr) (fun _ v _ => l.length - (intOf v).toNat)
  case atStart => exact ⟨0, Nat.zero_le _, by omega, rfl, World.ownsRow_nil _ _ _ _, Below.refl _ _⟩
  case round =>
    obtain ⟨k, hk, hk8, rfl, hown, hB⟩ := hrel
    have hBs := hB.size
    have hp := HP.below hB hx1
    have hq := HQ.below hB hy1
    obtain ⟨p0, p1, p2, p3, p4, p5⟩ := tcells hp
    obtain ⟨q0, q1, q2, q3, q4, q5⟩ := tcells hq
    have hBw := hB0.trans (hB.mono hB0.size)
    by_cases hend : k < l.length ∧ k < 8
    · obtain ⟨hlt, h8⟩ := hend
      obtain ⟨f, hf⟩ : ∃ f, l[k]? = some f := ⟨_, List.getElem?_eq_getElem hlt⟩
      obtain ⟨b, o, rfl, hb, hcell⟩ := HC.out.2 (by omega)
      obtain ⟨c0, c1, c2⟩ := file_cells (fun i u h => (hBw.cell (p := ⟨b, o + i, none⟩) hb).trans (hcell i u h)) hf
      have hfx := (HX.out f (List.mem_of_getElem? hf)).2
      have kl : (k : Int) < l.length := by omega
      have k8 : (k : Int) < 8 := by omega
      have hst := few8_step hf h8
      have hbox := Blk.new wr 69 #[.string f.path, .int .i64 f.mode, .string f.data]
      obtain ⟨k0, k1, k2⟩ := fbox_cells hbox
      have kf := hbox.frozen 2
      by_cases hbig : 200 < f.data.size
      · have hd : (200 : Int) < f.data.size := by omega
        have hd2 : ¬ f.data.size < 200 := by omega
        have hd3 : (200 : Int) ≤ f.data.size := by omega
        have hcf : cut200 f = ⟨f.path, f.mode, f.data.extract 0 200⟩ := by unfold cut200; rw [if_pos hbig]
        rw [hcf] at hst
        have HST := Lib.hid hst
        have hB2 : Below wr.heap.size wr (wr.alloc (.cells #[.string f.path, .int .i64 f.mode, .string (f.data.extract 0 200)] 69)) := (Below.refl _ wr).alloc (Nat.le_refl _) _
        have hbox2 := Blk.new wr 69 #[.string f.path, .int .i64 f.mode, .string (f.data.extract 0 200)]
        obtain ⟨j0, j1, j2⟩ := fbox_cells hbox2
        have hown2 := own_below hown hB2
        have hBB2 := hB.trans (hB2.mono hBs)
        have hs2 := hBB2.size
        clear hf hcell hbox2 hbox hst hcf
        go_wp2_with (at_builtin; refine wpList_push rfl _ _ _ rfl Tryd.underlying28 fi0 fz0 fz1 fz2 file_zero (by decide) hown2 rfl (by rw [World.size_alloc]; rfl) rfl (file_one ⟨f.path, f.mode, f.data.extract 0 200⟩) (by unfold maxLen; omega) (by omega) hs2 ?_; intro g6 cap6 w6 hown6 hgr6 hat6; have hB6 := hBB2.grown hgr6 hs2 (fun j hj => (hown2.lt j hj).1))
        go_roundw
        case rel => exact ⟨k + 1, by omega, by omega, by go_num, by rw [HST.out, fcells_snoc]; exact hown6, hB6⟩
        case measure => simp [intOf] <;> omega
      · have hd : ¬ (200 : Int) < f.data.size := by omega
        have hcf : cut200 f = f := by unfold cut200; rw [if_neg hbig]
        rw [hcf] at hst
        have HST := Lib.hid hst
        have hB1 : Below wr.heap.size wr (wr.alloc (.cells #[.string f.path, .int .i64 f.mode, .string f.data] 69)) := (Below.refl _ wr).alloc (Nat.le_refl _) _
        have hown2 := own_below hown hB1
        have hBB2 := hB.trans (hB1.mono hBs)
        have hs2 := hBB2.size
        clear hf hcell hbox hst hcf
        go_wp2_with (at_builtin; refine wpList_push rfl _ _ _ rfl Tryd.underlying28 fi0 fz0 fz1 fz2 file_zero (by decide) hown2 rfl (by rw [World.size_alloc]; rfl) rfl (file_one f) (by unfold maxLen; omega) (by omega) hs2 ?_; intro g6 cap6 w6 hown6 hgr6 hat6; have hB6 := hBB2.grown hgr6 hs2 (fun j hj => (hown2.lt j hj).1))
        go_roundw
        case rel => exact ⟨k + 1, by omega, by omega, by go_num, by rw [HST.out, fcells_snoc]; exact hown6, hB6⟩
        case measure => simp [intOf] <;> omega
    · have hR : Hid (few8 l = (l.take k).map cut200) := Lib.hid (by
        unfold few8
        by_cases h8 : k = 8
        · rw [h8]
        · rw [List.take_of_length_le (show l.length ≤ 8 by omega), List.take_of_length_le (show l.length ≤ k by omega)])
      have hlen : ((l.take k).map cut200).length = k := by rw [List.length_map, List.length_take]; omega
      obtain ⟨A', c', rfl, hcap, ha', hfr⟩ := own_arr hown
      have g1 : (k : Int) < l.length → ¬ (k : Int) < 8 := by omega
      have hp9 : Blk _ w.heap.size 30 #[Value.int .i64 kind, .int .i64 gen, .slice A' k c'] := hp.set_ 2 (.slice A' k c')
      obtain ⟨y0, y1, y2, y3, y4, y5⟩ := tcells hp9
      have hq9 := hq.far (p := ⟨w.heap.size, 2, none⟩) (by show w.heap.size + 1 ≠ w.heap.size; omega) (.slice A' k c')
      obtain ⟨z0, z1, z2, z3, z4, z5⟩ := tcells hq9
      have HO := Lib.hid (own_setbox (i := 2) (u := .slice A' k c') hown (own_ne hown hx1))
      have HY := Lib.hid hy1
      have HXX := Lib.hid hx1
      have hfin : Blk ((((wr.setCell ⟨w.heap.size, 2, none⟩ (.slice A' k c')).setCell ⟨w.heap.size + 1, 0, none⟩ (.int .i64 kind)).setCell ⟨w.heap.size + 1, 1, none⟩ (.int .i64 gen)).setCell ⟨w.heap.size + 1, 2, none⟩ (.slice A' k c')) (w.heap.size + 1) 30 #[Value.int .i64 kind, .int .i64 gen, .slice A' k c'] := ((hq9.set_ 0 _).set_ 1 _).set_ 2 _
      have hB9 := Lib.hid (((((hBw.setCell (p := ⟨w.heap.size, 2, none⟩) (Nat.le_refl _) (.slice A' k c')).setCell (p := ⟨w.heap.size + 1, 0, none⟩) (Nat.le_succ _) (.int .i64 kind)).setCell (p := ⟨w.heap.size + 1, 1, none⟩) (Nat.le_succ _) (.int .i64 gen)).setCell (p := ⟨w.heap.size + 1, 2, none⟩) (Nat.le_succ _) (.slice A' k c')))
      obtain ⟨t0, t1, t2, _⟩ := tcells hfin
      have hne := own_ne HO.out HY.out
      have HF := Lib.hid (own_mono (own_setbox (i := 2) (u := .slice A' k c') (own_setbox (i := 1) (u := .int .i64 gen) (own_setbox (i := 0) (u := .int .i64 kind) HO.out hne) hne) hne) (show w.heap.size ≤ w1.heap.size by omega))
      by_cases hlt : k < l.length
      · have h8 : k = 8 := by omega
        subst h8
        have kl : (8 : Int) < l.length := by omega
        clear hend
        go_wp2
        refine bodyPost_ret (v := .agg #[.int .i64 kind, .int .i64 gen, .slice A' 8 c']) (by simp [results, Tryd.results13, go_sem, t0, t1, t2]) rfl ?_
        unfold CallOut
        rw [hR.out, hlen]
        exact ⟨_, rfl, HF.out, hB9.out⟩
      · have kl : ¬ (k : Int) < l.length := by omega
        clear hend
        go_wp2
        refine bodyPost_ret (v := .agg #[.int .i64 kind, .int .i64 gen, .slice A' k c']) (by simp [results, Tryd.results13, go_sem, t0, t1, t2]) rfl ?_
        unfold CallOut
        rw [hR.out, hlen]
        exact ⟨_, rfl, HF.out, hB9.out⟩
end Go.Proofs.YtakdngcgjahafaaDoor
/- Chapter 22: events, the finder's state; idle. -/
namespace Go.Proofs.YtakdngcgjahafaaDoor
open Go.RowKit
set_option linter.unusedVariables false

structure EvD where
  asked : Int
  told : Int
  kind : Int
  gen : Int
  fA : Option Addr
  fC : Nat
  files : List FileD
  err : Int
  agen : Int
  floor : Int
  aA : Option Addr
  aC : Nat
  afiles : List FileD
  mA : Option Addr
  mN : Nat
  mC : Nat
def ecell (e : EvD) : List Value := [.int .i64 e.asked, .int .i64 e.told, .int .i64 e.kind, .int .i64 e.gen, .slice e.fA e.files.length e.fC, .int .i64 e.err, .int .i64 e.agen, .int .i64 e.floor, .slice e.aA e.afiles.length e.aC, .slice e.mA e.mN e.mC]
def ecells (l : List EvD) : List Value := (l.map ecell).flatten
theorem ecells_len (l : List EvD) : (ecells l).length = l.length * 10 := by
  unfold ecells
  rw [flat_len_eq (c := 10) _ (by intro r hr; obtain ⟨f, _, rfl⟩ := List.mem_map.1 hr; rfl), List.length_map]
theorem ecell_get {l : List EvD} {k : Nat} {e : EvD} (h : l[k]? = some e) {j : Nat} (hj : j < 10) : (ecells l)[k * 10 + j]? = (ecell e)[j]? :=
  flat_at (c := 10) _ k j (ecell e) (by intro r hr; obtain ⟨f, _, rfl⟩ := List.mem_map.1 hr; rfl) (by rw [List.getElem?_map, h]; rfl) hj
theorem ev_cells {W : World} {b o : Nat} {l : List EvD} (hc : ∀ i u, (ecells l)[i]? = some u → W.cell? ⟨b, o + i, none⟩ = some u) {k : Nat} {e : EvD} (h : l[k]? = some e) :
    W.cell? ⟨b, o + k * 10, none⟩ = some (.int .i64 e.asked) ∧ W.cell? ⟨b, o + k * 10 + 1, none⟩ = some (.int .i64 e.told) ∧ W.cell? ⟨b, o + k * 10 + 2, none⟩ = some (.int .i64 e.kind) ∧ W.cell? ⟨b, o + k * 10 + 3, none⟩ = some (.int .i64 e.gen) ∧ W.cell? ⟨b, o + k * 10 + 4, none⟩ = some (.slice e.fA e.files.length e.fC) ∧
    W.cell? ⟨b, o + k * 10 + 5, none⟩ = some (.int .i64 e.err) ∧ W.cell? ⟨b, o + k * 10 + 6, none⟩ = some (.int .i64 e.agen) ∧ W.cell? ⟨b, o + k * 10 + 7, none⟩ = some (.int .i64 e.floor) ∧ W.cell? ⟨b, o + k * 10 + 8, none⟩ = some (.slice e.aA e.afiles.length e.aC) ∧ W.cell? ⟨b, o + k * 10 + 9, none⟩ = some (.slice e.mA e.mN e.mC) := by
  have f : ∀ j u, j < 10 → (ecell e)[j]? = some u → W.cell? ⟨b, o + k * 10 + j, none⟩ = some u := fun j u hj hu => by
    have := hc (k * 10 + j) u ((ecell_get h hj).trans hu)
    rwa [← Nat.add_assoc] at this
  exact ⟨f 0 _ (by omega) rfl, f 1 _ (by omega) rfl, f 2 _ (by omega) rfl, f 3 _ (by omega) rfl, f 4 _ (by omega) rfl, f 5 _ (by omega) rfl, f 6 _ (by omega) rfl, f 7 _ (by omega) rfl, f 8 _ (by omega) rfl, f 9 _ (by omega) rfl⟩
def openN (e : Int) : Bool := e == 17 || e == 16 || e == 7
def openE (e : EvD) : Bool := e.told == 0 || openN e.err
/-- A history: rows of the call's own, whoever made them. -/
structure Hist (W : World) (V : Value) (l : List EvD) : Prop where
  row : W.ownsRow 0 54 10 V l.length (ecells l)
  fs : ∀ e ∈ l, W.ownsRow 0 69 3 (.slice e.fA e.files.length e.fC) e.files.length (fcells e.files)
  an : ∀ e ∈ l, W.ownsRow 0 69 3 (.slice e.aA e.afiles.length e.aC) e.afiles.length (fcells e.afiles)
def drow (d : List Bool) : Array Value := (d.map Value.bool).toArray
/-- A finder: its block F, the row D of what is done. -/
structure Fnd (W : World) (b F D : Nat) (V : Value) (l : List EvD) (d : List Bool) (left : Int) (U : Value) (o : List Nat) : Prop where
  blk : Blk W F 77 #[V, .slice (some ⟨D, 0, none⟩) l.length l.length, .int .i64 left, U]
  row : Blk W D 4 (drow d)
  ord : W.ownsRow b 3 1 U o.length (o.map fun (i : Nat) => Value.int .i64 (i : Int))
  his : Hist W V l
  bF : b ≤ F
  bD : b ≤ D
  len : d.length = l.length
/-- All that was there is as it was, but the finder's block, its row, and rows of numbers from b on. -/
def SF (b F D : Nat) (w : World) (k : Nat) : Prop := k = F ∨ k = D ∨ (b ≤ k ∧ ∃ cs fz, w.heap[k]? = some (.cells cs 3 fz))
def Kf (b F D : Nat) (w w' : World) : Prop := Fr (SF b F D w) w w'
section
variable {b F D : Nat} {w0 w1 w2 w w' : World} {V : Value} {l : List EvD}
theorem Kf.trans (h : Kf b F D w0 w1) (k : Kf b F D w1 w2) : Kf b F D w0 w2 := by
  refine Fr.trans h k fun i hi hs => ?_
  rcases hs with hs | hs | ⟨hb, cs, fz, hc⟩
  · exact .inl hs
  · exact .inr (.inl hs)
  · by_cases hS : SF b F D w0 i
    · exact hS
    · rw [h.block i hi hS] at hc
      exact .inr (.inr ⟨hb, cs, fz, hc⟩)
theorem Kf.of_below (h : Below w.heap.size w w') : Kf b F D w w' := Fr.of_below h _
theorem Kf.below (h : Kf b F D w w') (hb : b ≤ w.heap.size) (hF : b ≤ F) (hD : b ≤ D) : Below b w w' := Fr.below h hb fun k hs => by
  rcases hs with rfl | rfl | hs
  · exact hF
  · exact hD
  · exact hs.1
theorem own_blk_ne {base g : Nat} {e t : TypeId} {size n : Nat} {v : Value} {xs : List Value} {cs : Array Value} (h : w.ownsRow base e size v n xs) (hb : Blk w g t cs) (hne : e ≠ t) : v.ownBlock ≠ some g := by
  rcases h.2 with ⟨rfl, _⟩ | ⟨g', c', cur, rfl, _, hh, _⟩
  · intro e; cases e
  · intro e
    have : g' = g := by simpa [Value.ownBlock] using e
    subst this
    unfold Blk at hb
    rw [hh] at hb
    injection hb with hb
    injection hb with _ hb _
    exact hne hb
theorem Kf.own {base : Nat} {e tF tD : TypeId} {size n : Nat} {v : Value} {xs : List Value} {cF cD : Array Value} (h : Kf b F D w w') (ho : w.ownsRow base e size v n xs) (hF : Blk w F tF cF) (hD : Blk w D tD cD) (h1 : e ≠ tF) (h2 : e ≠ tD) (h3 : e ≠ 3) : w'.ownsRow base e size v n xs := Fr.own h ho (by
  rintro k hk (rfl | rfl | ⟨_, cs', fz, hc⟩)
  · exact own_blk_ne ho hF h1 hk
  · exact own_blk_ne ho hD h2 hk
  · rcases ho.2 with ⟨rfl, _⟩ | ⟨g, cap, cur, rfl, _, hh, _⟩
    · cases hk
    · have : g = k := by simpa [Value.ownBlock] using hk
      subst this
      rw [hh] at hc
      injection hc with hc
      injection hc with _ hc _
      exact h3 hc)
theorem Hist.below (h : Hist w V l) (hb : Below w.heap.size w w') : Hist w' V l := ⟨own_below h.row hb, fun e he => own_below (h.fs e he) hb, fun e he => own_below (h.an e he) hb⟩
theorem Hist.kf {cF cD : Array Value} (h : Hist w V l) (k : Kf b F D w w') (hF : Blk w F 77 cF) (hD : Blk w D 4 cD) : Hist w' V l :=
  ⟨k.own h.row hF hD (by decide) (by decide) (by decide), fun e he => k.own (h.fs e he) hF hD (by decide) (by decide) (by decide), fun e he => k.own (h.an e he) hF hD (by decide) (by decide) (by decide)⟩
theorem Fnd.below {U : Value} {d : List Bool} {left : Int} {o : List Nat} (h : Fnd w b F D V l d left U o) (hb : Below w.heap.size w w') : Fnd w' b F D V l d left U o :=
  ⟨h.blk.below hb h.blk.lt, h.row.below hb h.row.lt, own_below h.ord hb, h.his.below hb, h.bF, h.bD, h.len⟩
theorem Fnd.cells {U : Value} {d : List Bool} {left : Int} {o : List Nat} (h : Fnd w b F D V l d left U o) :
    w.cell? ⟨F, 0, none⟩ = some V ∧ w.cell? ⟨F, 1, none⟩ = some (.slice (some ⟨D, 0, none⟩) l.length l.length) ∧ w.cell? ⟨F, 2, none⟩ = some (.int .i64 left) ∧ w.cell? ⟨F, 3, none⟩ = some U ∧ w.frozen? ⟨F, 2, none⟩ = false ∧ w.frozen? ⟨F, 3, none⟩ = false :=
  ⟨h.blk.cell 0, h.blk.cell 1, h.blk.cell 2, h.blk.cell 3, h.blk.frozen 2, h.blk.frozen 3⟩
theorem Fnd.done {U : Value} {d : List Bool} {left : Int} {o : List Nat} (h : Fnd w b F D V l d left U o) {k : Nat} {q : Bool} (hq : d[k]? = some q) : w.cell? ⟨D, k, none⟩ = some (.bool q) ∧ w.frozen? ⟨D, k, none⟩ = false := by
  refine ⟨(h.row.cell k).trans ?_, h.row.frozen k⟩
  unfold drow
  rw [List.getElem?_toArray, List.getElem?_map, hq]
  rfl
end
theorem open_any (e : Int) (w : World) : Calls Tryd.prog 32 #[.int .i64 e] w fun x w' => x = .returned (.bool (openN e)) ∧ w' = w := by
  unfold openN
  by_cases h1 : e = 17
  · subst h1
    go_enter Tryd.func32, Tryd.ntmps32
    go_wp2
    go_ret
    exact ⟨rfl, rfl⟩
  · have g1 : (e == 17) = false := by rw [beq_eq_false_iff_ne]; exact h1
    by_cases h2 : e = 16
    · subst h2
      go_enter Tryd.func32, Tryd.ntmps32
      go_wp2
      go_ret
      exact ⟨rfl, rfl⟩
    · have g2 : (e == 16) = false := by rw [beq_eq_false_iff_ne]; exact h2
      rw [g1, g2]
      go_enter Tryd.func32, Tryd.ntmps32
      go_wp2
      go_ret
      exact ⟨by simp, rfl⟩
set_option maxHeartbeats 1000000 in
set_option maxRecDepth 100000 in
theorem idle_any {b F D : Nat} {V U : Value} {l : List EvD} {d : List Bool} {left : Int} {o : List Nat} (w : World) (h : Fnd w b F D V l d left U o) {k : Nat} {e : EvD} (he : l[k]? = some e) (hl : l.length ≤ 256) :
    Calls Tryd.prog 45 #[.pointer (some ⟨F, 0, none⟩), .int .i64 (k : Int)] w fun x w' => x = .returned (.bool (openE e)) ∧ Below w.heap.size w w' := by
  have hkl : k < l.length := by
    rcases Nat.lt_or_ge k l.length with h | h
    · exact h
    · rw [List.getElem?_eq_none h] at he; cases he
  have OP := Lib.hid (open_any e.err)
  obtain ⟨A, c, rfl, hcap, ha, _⟩ := own_arr h.his.row
  obtain ⟨b1, o1, rfl, hb1, hcell⟩ := ha.2 (by omega)
  obtain ⟨c0, c1, c2, c3, c4, c5, c6, c7, c8, c9⟩ := ev_cells hcell he
  obtain ⟨f0, f1, f2, f3, _, _⟩ := h.cells
  have kl : (k : Int) < l.length := by omega
  have hB : Below w.heap.size w (w.alloc (.cells #[Value.int .i64 e.asked, .int .i64 e.told, .int .i64 e.kind, .int .i64 e.gen, .slice e.fA e.files.length e.fC, .int .i64 e.err, .int .i64 e.agen, .int .i64 e.floor, .slice e.aA e.afiles.length e.aC, .slice e.mA e.mN e.mC] 54)) := (Below.refl _ w).alloc (Nat.le_refl _) _
  clear hcell ha h he
  unfold openE
  by_cases ht : e.told = 0
  · have g1 : (e.told == 0) = true := by rw [ht]; rfl
    rw [g1]
    clear ht
    go_enter Tryd.func45, Tryd.ntmps45
    go_wp2
    go_ret
    exact ⟨rfl, hB⟩
  · have g1 : (e.told == 0) = false := by rw [beq_eq_false_iff_ne]; exact ht
    rw [g1]
    go_enter Tryd.func45, Tryd.ntmps45
    go_wp2_with (go_at_call 32; (with_reducible refine (OP.out _).mono ?_); rintro x w2 ⟨rfl, rfl⟩)
    go_ret
    exact ⟨by simp, hB⟩
end Go.Proofs.YtakdngcgjahafaaDoor
/- Chapter 22: the finder's over and free. -/
namespace Go.Proofs.YtakdngcgjahafaaDoor
open Go.RowKit
set_option linter.unusedVariables false

def overP : List EvD → List Bool → Bool
  | e :: l, q :: d => (q || openE e) && overP l d
  | _, _ => true
def freeGo (i : Nat) (asked : Int) : Nat → List EvD → List Bool → Bool
  | k, e :: l, q :: d => (q || k == i || openE e || !(decide (e.told < asked))) && freeGo i asked (k + 1) l d
  | _, _, _ => true
theorem drop2 {l : List EvD} {d : List Bool} {k : Nat} {e : EvD} {q : Bool} (h : l[k]? = some e) (h' : d[k]? = some q) : l.drop k = e :: l.drop (k + 1) ∧ d.drop k = q :: d.drop (k + 1) := ⟨drop_head h, drop_head h'⟩
set_option maxHeartbeats 2000000 in
set_option maxRecDepth 100000 in
theorem over_any {b F D : Nat} {V U : Value} {l : List EvD} {d : List Bool} {left : Int} {o : List Nat} (w : World) (h : Fnd w b F D V l d left U o) (hl : l.length ≤ 256) :
    Calls Tryd.prog 47 #[.pointer (some ⟨F, 0, none⟩)] w fun x w' => x = .returned (.bool (overP l d)) ∧ Below w.heap.size w w' := by
  obtain ⟨R, hR⟩ : ∃ R, R = overP l d := ⟨_, rfl⟩
  have HR : Hid (overP (l.drop 0) (d.drop 0) = R) := Lib.hid (by rw [hR]; rfl)
  rw [← hR]
  clear hR
  have HF := Lib.hid h
  obtain ⟨f0, f1, f2, f3, _, _⟩ := h.cells
  have hlen := h.len
  obtain ⟨A, c, rfl, hcap, _, _⟩ := own_arr h.his.row
  clear h
  go_enter Tryd.func47, Tryd.ntmps47
  go_wp2
  go_loopw [9] (fun v wr => ∃ k : Nat, k ≤ l.length ∧ v = .int .i64 k ∧ Hid (overP (l.drop k) (d.drop k) = R) ∧ Below w.heap.size w wr) (fun v _ => l.length - (intOf v).toNat)
  case atStart => exact ⟨0, Nat.zero_le _, rfl, HR, Below.refl _ _⟩
  case round =>
    obtain ⟨k, hk, rfl, HK, hB⟩ := hrel
    have hf := HF.out.below hB
    obtain ⟨g0, g1, g2, g3, _, _⟩ := hf.cells
    by_cases hlt : k < l.length
    · obtain ⟨e, he⟩ : ∃ e, l[k]? = some e := ⟨_, List.getElem?_eq_getElem hlt⟩
      obtain ⟨q, hq⟩ : ∃ q, d[k]? = some q := ⟨_, List.getElem?_eq_getElem (by omega)⟩
      obtain ⟨y0, _⟩ := hf.done hq
      obtain ⟨e1, e2⟩ := drop2 he hq
      have H := HK.out
      rw [e1, e2, overP] at H
      have ID := Lib.hid (fun W (hh : Below w.heap.size w W) => idle_any W (HF.out.below hh) he hl)
      have kl : (k : Int) < l.length := by omega
      clear he hq e1 e2 HK hf
      cases q with
      | true =>
        have HST := Lib.hid (show overP (l.drop (k + 1)) (d.drop (k + 1)) = R by simpa using H)
        clear H
        go_wp2
        go_roundw
        case rel => exact ⟨k + 1, by omega, by go_num, HST, hB⟩
        case measure => simp [intOf] <;> omega
      | false =>
        cases hO : openE e with
        | true =>
          rw [hO] at H ID
          have HST := Lib.hid (show overP (l.drop (k + 1)) (d.drop (k + 1)) = R by simpa using H)
          clear H
          go_wp2_with (go_at_call 45; (with_reducible refine (ID.out _ hB).mono ?_); rintro x w2 ⟨rfl, hb2⟩; have hB2 := below_on hB hb2)
          go_roundw
          case rel => exact ⟨k + 1, by omega, by go_num, HST, hB2⟩
          case measure => simp [intOf] <;> omega
        | false =>
          rw [hO] at H ID
          have HST := Lib.hid (show false = R by simpa using H)
          clear H
          go_wp2_with (go_at_call 45; (with_reducible refine (ID.out _ hB).mono ?_); rintro x w2 ⟨rfl, hb2⟩; have hB2 := below_on hB hb2)
          go_ret
          exact ⟨by rw [← HST.out]; rfl, hB2⟩
    · have hkl : k = l.length := by omega
      have H := HK.out
      rw [List.drop_eq_nil_of_le (by omega : l.length ≤ k)] at H
      have HST := Lib.hid (show true = R by rw [← H]; rfl)
      clear H HK
      have kl : ¬ (k : Int) < l.length := by omega
      go_wp2
      go_ret
      exact ⟨by rw [← HST.out]; rfl, hB⟩
set_option maxHeartbeats 4000000 in
set_option maxRecDepth 100000 in
theorem free_any {b F D : Nat} {V U : Value} {l : List EvD} {d : List Bool} {left : Int} {o : List Nat} (w : World) (h : Fnd w b F D V l d left U o) (hl : l.length ≤ 256) {i : Nat} {z : EvD} (hi : l[i]? = some z) :
    Calls Tryd.prog 44 #[.pointer (some ⟨F, 0, none⟩), .int .i64 (i : Int)] w fun x w' => x = .returned (.bool (freeGo i z.asked 0 l d)) ∧ Below w.heap.size w w' := by
  obtain ⟨R, hR⟩ : ∃ R, R = freeGo i z.asked 0 l d := ⟨_, rfl⟩
  have HR : Hid (freeGo i z.asked 0 (l.drop 0) (d.drop 0) = R) := Lib.hid (by rw [hR]; rfl)
  rw [← hR]
  clear hR
  have HF := Lib.hid h
  obtain ⟨f0, f1, f2, f3, _, _⟩ := h.cells
  have hlen := h.len
  obtain ⟨A, c, rfl, hcap, ha, _⟩ := own_arr h.his.row
  have hil : i < l.length := by
    rcases Nat.lt_or_ge i l.length with h | h
    · exact h
    · rw [List.getElem?_eq_none h] at hi; cases hi
  have il : (i : Int) < l.length := by omega
  obtain ⟨b1, o1, rfl, hb1, hcell⟩ := ha.2 (by omega)
  obtain ⟨z0, _⟩ := ev_cells hcell hi
  have HC := Lib.hid hcell
  generalize z.asked = ask at *
  clear h ha hcell hi
  go_enter Tryd.func44, Tryd.ntmps44
  go_wp2
  go_loopw [12] (fun v wr => ∃ k : Nat, k ≤ l.length ∧ v = .int .i64 k ∧ Hid (freeGo i ask k (l.drop k) (d.drop k) = R) ∧ Below w.heap.size w wr) (fun v _ => l.length - (intOf v).toNat)
  case atStart => exact ⟨0, Nat.zero_le _, rfl, HR, Below.refl _ _⟩
  case round =>
    obtain ⟨k, hk, rfl, HK, hB⟩ := hrel
    have hf := HF.out.below hB
    obtain ⟨g0, g1, g2, g3, _, _⟩ := hf.cells
    by_cases hlt : k < l.length
    · obtain ⟨e, he⟩ : ∃ e, l[k]? = some e := ⟨_, List.getElem?_eq_getElem hlt⟩
      obtain ⟨q, hq⟩ : ∃ q, d[k]? = some q := ⟨_, List.getElem?_eq_getElem (by omega)⟩
      obtain ⟨c0, c1, c2, c3, c4, c5, c6, c7, c8, c9⟩ := ev_cells (fun i u h => (hB.cell (p := ⟨b1, o1 + i, none⟩) hb1).trans (HC.out i u h)) he
      have z0' := (hB.cell (p := ⟨b1, o1 + i * 10, none⟩) hb1).trans z0
      obtain ⟨e1, e2⟩ := drop2 he hq
      have H := HK.out
      rw [e1, e2, freeGo] at H
      have hbs := hB.size
      have hB1 : Below w.heap.size w (wr.alloc (.cells #[Value.int .i64 e.asked, .int .i64 e.told, .int .i64 e.kind, .int .i64 e.gen, .slice e.fA e.files.length e.fC, .int .i64 e.err, .int .i64 e.agen, .int .i64 e.floor, .slice e.aA e.afiles.length e.aC, .slice e.mA e.mN e.mC] 54)) := hB.alloc hbs _
      have hbs1 := hB1.size
      have hbw1 : Below wr.heap.size wr (wr.alloc (.cells #[Value.int .i64 e.asked, .int .i64 e.told, .int .i64 e.kind, .int .i64 e.gen, .slice e.fA e.files.length e.fC, .int .i64 e.err, .int .i64 e.agen, .int .i64 e.floor, .slice e.aA e.afiles.length e.aC, .slice e.mA e.mN e.mC] 54)) := (Below.refl _ _).alloc (Nat.le_refl _) _
      have hf1 := hf.below hbw1
      have HF1 := Lib.hid hf1
      obtain ⟨y0, _⟩ := hf1.done hq
      obtain ⟨r0, r1, _⟩ := hf1.cells
      have IDB := Lib.hid (fun (p : Cls (wr.alloc (.cells #[Value.int .i64 e.asked, .int .i64 e.told, .int .i64 e.kind, .int .i64 e.gen, .slice e.fA e.files.length e.fC, .int .i64 e.err, .int .i64 e.agen, .int .i64 e.floor, .slice e.aA e.afiles.length e.aC, .slice e.mA e.mN e.mC] 54))) => idle_any p.n (HF1.out.below p.h) he hl)
      have kl : (k : Int) < l.length := by omega
      have y0' := cell_cls y0
      have r0' := cell_cls r0
      have r1' := cell_cls r1
      have t0' := cell_cls ((Blk.new wr 54 #[Value.int .i64 e.asked, .int .i64 e.told, .int .i64 e.kind, .int .i64 e.gen, .slice e.fA e.files.length e.fC, .int .i64 e.err, .int .i64 e.agen, .int .i64 e.floor, .slice e.aA e.afiles.length e.aC, .slice e.mA e.mN e.mC]).cell 1)
      have s0' := cell_cls ((hbw1.cell (p := ⟨b1, o1 + i * 10, none⟩) (by show b1 < _; omega)).trans z0')
      clear he hq e1 e2 HK hf hf1
      cases q with
      | true =>
        have HST := Lib.hid (show freeGo i ask (k + 1) (l.drop (k + 1)) (d.drop (k + 1)) = R by simpa using H)
        clear H
        (go_wp2; (refine wp_region_cls (by kernel_rfl) (by kernel_rfl) ?_; repeat (go_big_quiet_step ((go_at_call 45; with_reducible exact cls_call (IDB.out _))))); (refine wpQuiet_nil ?_; intro _ hw'; obtain ⟨⟨w9, hb9⟩, hw''⟩ := hw'; subst hw''; have hB2 := hB1.trans (hb9.mono hbs1)); go_wp2; go_roundw; (case rel => exact ⟨k + 1, by omega, by go_num, HST, hB2⟩); (case measure => simp [intOf] <;> omega))
      | false =>
        by_cases hki : k = i
        · have HST := Lib.hid (show freeGo i ask (k + 1) (l.drop (k + 1)) (d.drop (k + 1)) = R by simpa [hki] using H)
          subst hki
          clear H
          (go_wp2; (refine wp_region_cls (by kernel_rfl) (by kernel_rfl) ?_; repeat (go_big_quiet_step ((go_at_call 45; with_reducible exact cls_call (IDB.out _))))); (refine wpQuiet_nil ?_; intro _ hw'; obtain ⟨⟨w9, hb9⟩, hw''⟩ := hw'; subst hw''; have hB2 := hB1.trans (hb9.mono hbs1)); go_wp2; go_roundw; (case rel => exact ⟨k + 1, by omega, by go_num, HST, hB2⟩); (case measure => simp [intOf] <;> omega))
        · have n1 : ((k : Int) != (i : Int)) = true := by simp; omega
          have n3 : (k == i) = false := by rw [beq_eq_false_iff_ne]; exact hki
          have n2 : ((k : Int) == (i : Int)) = false := by rw [beq_eq_false_iff_ne]; omega
          cases hO : openE e with
          | true =>
            rw [hO] at H IDB
            have HST := Lib.hid (show freeGo i ask (k + 1) (l.drop (k + 1)) (d.drop (k + 1)) = R by simpa using H)
            clear H
            (go_wp2; (refine wp_region_cls (by kernel_rfl) (by kernel_rfl) ?_; repeat (go_big_quiet_step ((go_at_call 45; with_reducible exact cls_call (IDB.out _))))); (refine wpQuiet_nil ?_; intro _ hw'; obtain ⟨⟨w9, hb9⟩, hw''⟩ := hw'; subst hw''; have hB2 := hB1.trans (hb9.mono hbs1)); go_wp2; go_roundw; (case rel => exact ⟨k + 1, by omega, by go_num, HST, hB2⟩); (case measure => simp [intOf] <;> omega))
          | false =>
            rw [hO] at H IDB
            by_cases ht : e.told < ask
            · have HST := Lib.hid (show false = R by simpa [n3, ht] using H)
              clear H
              go_wp2
              (refine wp_region_cls (by kernel_rfl) (by kernel_rfl) ?_; repeat (go_big_quiet_step ((go_at_call 45; with_reducible exact cls_call (IDB.out _))))); (refine wpQuiet_nil ?_; intro _ hw'; obtain ⟨⟨w9, hb9⟩, hw''⟩ := hw'; subst hw''; have hB2 := hB1.trans (hb9.mono hbs1))
              go_wp2
              go_ret
              exact ⟨by rw [← HST.out]; rfl, hB2⟩
            · have HST := Lib.hid (show freeGo i ask (k + 1) (l.drop (k + 1)) (d.drop (k + 1)) = R by simpa [n3, ht] using H)
              clear H
              (go_wp2; (refine wp_region_cls (by kernel_rfl) (by kernel_rfl) ?_; repeat (go_big_quiet_step ((go_at_call 45; with_reducible exact cls_call (IDB.out _))))); (refine wpQuiet_nil ?_; intro _ hw'; obtain ⟨⟨w9, hb9⟩, hw''⟩ := hw'; subst hw''; have hB2 := hB1.trans (hb9.mono hbs1)); go_wp2; go_roundw; (case rel => exact ⟨k + 1, by omega, by go_num, HST, hB2⟩); (case measure => simp [intOf] <;> omega))
    · have H := HK.out
      rw [List.drop_eq_nil_of_le (by omega : l.length ≤ k)] at H
      have HST := Lib.hid (show true = R by rw [← H]; simp [freeGo])
      clear H HK
      have kl : ¬ (k : Int) < l.length := by omega
      go_wp2
      go_ret
      exact ⟨by rw [← HST.out]; rfl, hB⟩
end Go.Proofs.YtakdngcgjahafaaDoor
/- Chapter 22: looking for an order, plain. -/
namespace Go.Proofs.YtakdngcgjahafaaDoor
open Go.RowKit
set_option linter.unusedVariables false

def callOf (e : EvD) : CallD := ⟨e.kind, e.gen, e.files⟩
def ansOf (e : EvD) : AnsD := ⟨e.err, e.agen, e.floor, e.afiles⟩
open Classical in
/-- May a log answer an event so? -/
noncomputable def takes (g : LogD) (e : EvD) : Bool :=
  if openE e then (e.kind == 1 || e.kind == 5) && ((doP g (callOf e)).2.err == 0) else decide ((doP g (callOf e)).2 = ansOf e)
structure FindR where
  ok : Bool
  d : List Bool
  left : Int
  o : List Nat
noncomputable def triesP (rc : LogD → List Bool → Int → List Nat → FindR) (l : List EvD) (g : LogD) : Nat → List EvD → List Bool → Int → List Nat → FindR
  | _, [], d, left, o => ⟨false, d, left, o⟩
  | i, e :: rest, d, left, o =>
    if d.getD i true || !(freeGo i e.asked 0 l d) || !(takes g e) then triesP rc l g (i + 1) rest d left o
    else
      let r := rc (doP g (callOf e)).1 (d.set i true) left (o ++ [i])
      if r.ok then r else triesP rc l g (i + 1) rest (r.d.set i false) r.left r.o.dropLast
noncomputable def findP : Nat → List EvD → LogD → List Bool → Int → List Nat → FindR
  | 0, _, _, d, left, o => ⟨false, d, left, o⟩
  | n + 1, l, g, d, left, o =>
    if overP l d then ⟨true, d, left, o⟩
    else if left - 1 < 0 then ⟨false, d, left - 1, o⟩
    else triesP (findP n l) l g 0 l d (left - 1) o
/-- What finds nothing leaves all as it was, but for the steps. -/
def Leaves (rc : LogD → List Bool → Int → List Nat → FindR) : Prop := ∀ g d left o, (rc g d left o).ok = false → (rc g d left o).d = d ∧ (rc g d left o).o = o
theorem set_back {d : List Bool} {i : Nat} (h : d.getD i true = false) : (d.set i true).set i false = d := by
  have hi : d[i]? = some false := by
    rw [List.getD_eq_getElem?_getD] at h
    cases hx : d[i]? with
    | none => rw [hx] at h; cases h
    | some q => rw [hx] at h; simp at h; rw [h]
  rw [List.set_set]
  apply List.ext_getElem?
  intro j
  rw [List.getElem?_set]
  by_cases hj : i = j
  · subst hj
    rw [if_pos rfl, hi]
    have : i < d.length := by
      rcases Nat.lt_or_ge i d.length with h | h
      · exact h
      · rw [List.getElem?_eq_none h] at hi; cases hi
    rw [if_pos this]
  · rw [if_neg hj]
theorem tries_leaves {rc : LogD → List Bool → Int → List Nat → FindR} (hr : Leaves rc) (l : List EvD) (g : LogD) : ∀ (rest : List EvD) (i : Nat) (d : List Bool) (left : Int) (o : List Nat),
    (triesP rc l g i rest d left o).ok = false → (triesP rc l g i rest d left o).d = d ∧ (triesP rc l g i rest d left o).o = o
  | [], _, _, _, _, _ => ⟨rfl, rfl⟩
  | e :: rest, i, d, left, o, h => by
    rw [triesP] at h ⊢
    by_cases hc : (d.getD i true || !(freeGo i e.asked 0 l d) || !(takes g e)) = true
    · rw [if_pos hc] at h ⊢
      exact tries_leaves hr l g rest (i + 1) d left o h
    · rw [if_neg hc] at h ⊢
      simp only [] at h ⊢
      by_cases hk : (rc (doP g (callOf e)).1 (d.set i true) left (o ++ [i])).ok = true
      · rw [if_pos hk] at h
        rw [hk] at h
        cases h
      · rw [if_neg hk] at h ⊢
        obtain ⟨h1, h2⟩ := hr _ _ _ _ (by simpa using hk)
        have h3 := tries_leaves hr l g rest (i + 1) _ _ _ h
        rw [h1, h2] at h3 ⊢
        have hd : d.getD i true = false := by
          cases hx : d.getD i true
          · rfl
          · rw [hx] at hc; simp at hc
        rw [set_back hd, List.dropLast_concat] at h3 ⊢
        exact h3
theorem find_leaves : ∀ (n : Nat) (l : List EvD), Leaves (findP n l)
  | 0, l => fun g d left o h => ⟨rfl, rfl⟩
  | n + 1, l => fun g d left o h => by
    rw [findP] at h ⊢
    by_cases h1 : overP l d = true
    · rw [if_pos h1] at h; cases h
    · rw [if_neg h1] at h ⊢
      by_cases h2 : left - 1 < 0
      · rw [if_pos h2]; exact ⟨rfl, rfl⟩
      · rw [if_neg h2] at h ⊢
        exact tries_leaves (find_leaves n l) l g l 0 d _ o h
/-- How far the steps may go below nothing. -/
theorem tries_left {rc : LogD → List Bool → Int → List Nat → FindR} {B : Int} (hB : 0 ≤ B) (h0 : ∀ g d left o, 0 ≤ left → -B ≤ (rc g d left o).left) (h1 : ∀ g d left o, left < 0 → left - 1 ≤ (rc g d left o).left) (l : List EvD) (g : LogD) : ∀ (rest : List EvD) (i : Nat) (d : List Bool) (left : Int) (o : List Nat),
    -B - i ≤ left → -B - i - rest.length ≤ (triesP rc l g i rest d left o).left
  | [], i, d, left, o, h => by rw [triesP]; simp; exact h
  | e :: rest, i, d, left, o, h => by
    rw [triesP]
    have hl : (e :: rest).length = rest.length + 1 := rfl
    by_cases hc : (d.getD i true || !(freeGo i e.asked 0 l d) || !(takes g e)) = true
    · rw [if_pos hc]
      have := tries_left hB h0 h1 l g rest (i + 1) d left o (by omega)
      omega
    · rw [if_neg hc]
      simp only []
      have hx : -B - (i + 1 : Nat) ≤ (rc (doP g (callOf e)).1 (d.set i true) left (o ++ [i])).left := by
        by_cases hs : 0 ≤ left
        · have := h0 (doP g (callOf e)).1 (d.set i true) left (o ++ [i]) hs; omega
        · have := h1 (doP g (callOf e)).1 (d.set i true) left (o ++ [i]) (by omega); omega
      by_cases hk : (rc (doP g (callOf e)).1 (d.set i true) left (o ++ [i])).ok = true
      · rw [if_pos hk]; omega
      · rw [if_neg hk]
        have := tries_left hB h0 h1 l g rest (i + 1) ((rc (doP g (callOf e)).1 (d.set i true) left (o ++ [i])).d.set i false) _ (rc (doP g (callOf e)).1 (d.set i true) left (o ++ [i])).o.dropLast hx
        omega
theorem find_neg (n : Nat) (l : List EvD) (g : LogD) (d : List Bool) (left : Int) (o : List Nat) (h : left < 0) : left - 1 ≤ (findP n l g d left o).left := by
  cases n with
  | zero => rw [findP]; simp; omega
  | succ n =>
    rw [findP]
    by_cases h1 : overP l d = true
    · rw [if_pos h1]; simp; omega
    · rw [if_neg h1, if_pos (by omega)]; simp
theorem find_left : ∀ (n : Nat) (l : List EvD) (g : LogD) (d : List Bool) (left : Int) (o : List Nat), 0 ≤ left → -((n * (l.length + 1) : Nat) : Int) ≤ (findP n l g d left o).left
  | 0, l, g, d, left, o, h => by rw [findP]; simp; omega
  | n + 1, l, g, d, left, o, h => by
    have hm : (n + 1) * (l.length + 1) = n * (l.length + 1) + l.length + 1 := by rw [Nat.add_mul]; omega
    rw [hm, findP]
    generalize hN : n * (l.length + 1) = N
    by_cases h1 : overP l d = true
    · rw [if_pos h1]; simp; omega
    · rw [if_neg h1]
      by_cases h2 : left - 1 < 0
      · rw [if_pos h2]; simp; omega
      · rw [if_neg h2]
        have := tries_left (rc := findP n l) (B := (N : Int)) (by omega) (fun g d left o h => by have := find_left n l g d left o h; rw [hN] at this; exact this) (fun g d left o h => find_neg n l g d left o h) l g l 0 d (left - 1) o (by omega)
        omega
end Go.Proofs.YtakdngcgjahafaaDoor
/- Chapter 22: the finder's state as it is turned; changes. -/
namespace Go.Proofs.YtakdngcgjahafaaDoor
open Go.RowKit
set_option linter.unusedVariables false

theorem changes_any (kind gen : Int) (V : Value) (hV : V.oneCell' = true) (w : World) : Calls Tryd.prog 61 #[.agg #[.int .i64 kind, .int .i64 gen, V]] w fun x w' => x = .returned (.bool (kind == 1 || kind == 5)) ∧ Below w.heap.size w w' := by
  have hB : Below w.heap.size w (w.alloc (.cells #[.int .i64 kind, .int .i64 gen, V] 30)) := (Below.refl _ w).alloc (Nat.le_refl _) _
  by_cases h1 : kind = 1
  · subst h1
    go_enter Tryd.func61, Tryd.ntmps61
    go_wp2
    go_ret
    exact ⟨rfl, hB⟩
  · have g1 : (kind == 1) = false := by rw [beq_eq_false_iff_ne]; exact h1
    rw [g1]
    go_enter Tryd.func61, Tryd.ntmps61
    go_wp2
    go_ret
    exact ⟨by simp, hB⟩
section
variable {w w' : World} {b F D : Nat} {V U : Value} {l : List EvD} {d : List Bool} {left : Int} {o : List Nat}
theorem Hist.setFar (h : Hist w V l) {g i : Nat} {t : TypeId} {cs : Array Value} (hb : Blk w g t cs) (h1 : 54 ≠ t) (h2 : 69 ≠ t) (u : Value) : Hist (w.setCell ⟨g, i, none⟩ u) V l :=
  ⟨own_setbox h.row (own_blk_ne h.row hb h1), fun e he => own_setbox (h.fs e he) (own_blk_ne (h.fs e he) hb h2), fun e he => own_setbox (h.an e he) (own_blk_ne (h.an e he) hb h2)⟩
theorem Hist.grown {row : Value} {n : Nat} {xs : List Value} {base : Nat} (h : Hist w V l) (g : w.grownBy w' row.ownBlock) (hr : w.ownsRow base 3 1 row n xs) : Hist w' V l :=
  ⟨h.row.kept g (own_apart h.row hr (by decide)), fun e he => (h.fs e he).kept g (own_apart (h.fs e he) hr (by decide)), fun e he => (h.an e he).kept g (own_apart (h.an e he) hr (by decide))⟩
theorem Fnd.DF (h : Fnd w b F D V l d left U o) : D ≠ F := Blk.ne_ h.row h.blk (by decide)
theorem Fnd.setLeft (h : Fnd w b F D V l d left U o) (x : Int) : Fnd (w.setCell ⟨F, 2, none⟩ (.int .i64 x)) b F D V l d x U o :=
  ⟨h.blk.set_ 2 _, h.row.far h.DF _, own_setbox h.ord (own_blk_ne h.ord h.blk (by decide)), h.his.setFar h.blk (by decide) (by decide) _, h.bF, h.bD, h.len⟩
theorem drow_set (d : List Bool) (i : Nat) (q : Bool) : (drow d).setIfInBounds i (.bool q) = drow (d.set i q) := by
  unfold drow
  rw [List.setIfInBounds_toArray, List.map_set]
theorem Fnd.setDone (h : Fnd w b F D V l d left U o) (i : Nat) (q : Bool) : Fnd (w.setCell ⟨D, i, none⟩ (.bool q)) b F D V l (d.set i q) left U o :=
  ⟨h.blk.far h.DF.symm _, by rw [← drow_set]; exact h.row.set_ i _, own_setbox h.ord (own_blk_ne h.ord h.row (by decide)), h.his.setFar h.row (by decide) (by decide) _, h.bF, h.bD, by rw [List.length_set]; exact h.len⟩
theorem Fnd.setOrd (h : Fnd w b F D V l d left U o) {U' : Value} {o' : List Nat} (ho : w.ownsRow b 3 1 U' o'.length (o'.map fun (i : Nat) => Value.int .i64 (i : Int))) : Fnd (w.setCell ⟨F, 3, none⟩ U') b F D V l d left U' o' :=
  ⟨h.blk.set_ 3 _, h.row.far h.DF _, own_setbox ho (own_blk_ne ho h.blk (by decide)), h.his.setFar h.blk (by decide) (by decide) _, h.bF, h.bD, h.len⟩
/-- The row of the order has grown; the finder names the old one yet. -/
theorem Fnd.grown (h : Fnd w b F D V l d left U o) (g : w.grownBy w' U.ownBlock) : Blk w' F 77 #[V, .slice (some ⟨D, 0, none⟩) l.length l.length, .int .i64 left, U] ∧ Blk w' D 4 (drow d) ∧ Hist w' V l :=
  ⟨h.blk.grown g (fun e => own_blk_ne h.ord h.blk (by decide) e.symm), h.row.grown g (fun e => own_blk_ne h.ord h.row (by decide) e.symm), h.his.grown g h.ord⟩
theorem Fnd.pushed (h : Fnd w b F D V l d left U o) (g : w.grownBy w' U.ownBlock) {U' : Value} {o' : List Nat} (ho : w'.ownsRow b 3 1 U' o'.length (o'.map fun (i : Nat) => Value.int .i64 (i : Int))) : Fnd (w'.setCell ⟨F, 3, none⟩ U') b F D V l d left U' o' := by
  obtain ⟨h1, h2, h3⟩ := h.grown g
  exact ⟨h1.set_ 3 _, h2.far h.DF _, own_setbox ho (own_blk_ne ho h1 (by decide)), h3.setFar h1 (by decide) (by decide) _, h.bF, h.bD, h.len⟩
theorem Kf.setF (h : Kf b F D w w') (i : Nat) (u : Value) : Kf b F D w (w'.setCell ⟨F, i, none⟩ u) := Fr.setCell h (p := ⟨F, i, none⟩) (.inl (.inl rfl)) u
theorem Kf.setD (h : Kf b F D w w') (i : Nat) (u : Value) : Kf b F D w (w'.setCell ⟨D, i, none⟩ u) := Fr.setCell h (p := ⟨D, i, none⟩) (.inl (.inr (.inl rfl))) u
theorem Kf.refl (b F D : Nat) (w : World) : Kf b F D w w := Fr.refl _ _
theorem Kf.push {W : World} {n : Nat} {xs : List Value} (h : Kf b F D w W) (g : W.grownBy w' U.ownBlock) (hr : W.ownsRow b 3 1 U n xs) : Kf b F D w w' := by
  refine Kf.trans h (Fr.of_grown g fun k hk => ?_)
  rcases hr.2 with ⟨rfl, _⟩ | ⟨g', c', cur, rfl, hb, hh, _⟩
  · cases hk
  · have : g' = k := by simpa [Value.ownBlock] using hk
    subst this
    exact .inr (.inr ⟨hb, _, _, hh⟩)
theorem pop_row {g c n : Nat} {o : List Nat} (h : w.ownsRow b 3 1 (.slice (some ⟨g, 0, none⟩) (n + 1) c) (n + 1) (o.map fun (i : Nat) => Value.int .i64 (i : Int))) (hn : o.length = n + 1) : w.ownsRow b 3 1 (.slice (some ⟨g, 0, none⟩) n c) o.dropLast.length (o.dropLast.map fun (i : Nat) => Value.int .i64 (i : Int)) := by
  have hl : o.dropLast.length = n := by rw [List.length_dropLast]; omega
  rw [hl]
  refine ⟨by rw [List.length_map, hl]; omega, .inr ?_⟩
  rcases h.2 with ⟨hv, _⟩ | ⟨g', c', cur, hv, hb, hh, h1, h2, h3, h4⟩
  · cases hv
  · injection hv with e1 e2 e3
    injection e1 with e1
    injection e1 with e1
    subst e1 e3
    refine ⟨g, c, cur, rfl, hb, hh, by omega, h2, h3, ?_⟩
    have : cur.toList.take (n * 1) = (cur.toList.take ((n + 1) * 1)).take n := by rw [List.take_take]; congr 1; omega
    rw [this, h4, List.dropLast_eq_take, hn, List.map_take]
    rfl
end
end Go.Proofs.YtakdngcgjahafaaDoor
