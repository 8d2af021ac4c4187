/- Chapters 9 and 10: where a path stands in a tree: the walks through Find, the program's (a binary search) and the reference's.; Chapter 10, plain: the paths of three trees in order, and what is taken of each. No program in sight.; Chapter 10: the walk through image.paths.; Chapter 10: the walks through image.at, image.like. -/
import Derived.Test.YtlfennooocmclaaDoorImBackW
import Derived.Test.YtlfennooocmclaaDoorTreeMix
/- Chapters 9 and 10: where a path stands in a tree: the walks through Find, the program's (a binary search) and the reference's. -/
namespace Go.Proofs.YtlfennooocmclaaDoor
open Go.RowKit
set_option linter.unusedVariables false

def placeF (p : ByteArray) : Nat → List FileD → Int
  | _, [] => -1
  | k, f :: r => if f.path = p then k else placeF p (k + 1) r
def lookF (p : ByteArray) : List FileD → Option FileD
  | [] => none
  | f :: r => if f.path = p then some f else lookF p r
section
variable {p : ByteArray} {l : List FileD} {k : Nat} {f : FileD}
theorem placeF_hit (h : l[k]? = some f) (hp : f.path = p) : placeF p k (l.drop k) = k := by rw [drop_head h, placeF, if_pos hp]
theorem placeF_miss (h : l[k]? = some f) (hp : f.path ≠ p) : placeF p k (l.drop k) = placeF p (k + 1) (l.drop (k + 1)) := by rw [drop_head h, placeF, if_neg hp]
theorem placeF_end (h : l.length ≤ k) : placeF p k (l.drop k) = -1 := by rw [List.drop_eq_nil_of_le h, placeF]
end
theorem placeF_none {p : ByteArray} : ∀ {k : Nat} {l : List FileD}, lookF p l = none → placeF p k l = -1
  | _, [], _ => rfl
  | k, f :: l, h => by
    rw [lookF] at h
    rw [placeF]
    split at h
    · cases h
    · rename_i hn; rw [if_neg hn]; exact placeF_none h
theorem placeF_some {p : ByteArray} {f : FileD} : ∀ {k : Nat} {l : List FileD}, lookF p l = some f → ∃ i : Nat, placeF p k l = ((k + i : Nat) : Int) ∧ l[i]? = some f
  | k, g :: l, h => by
    rw [lookF] at h
    rw [placeF]
    split at h
    · rename_i hn; injection h with h; subst h; rw [if_pos hn]; exact ⟨0, by simp, rfl⟩
    · rename_i hn
      rw [if_neg hn]
      obtain ⟨i, h1, h2⟩ := placeF_some (k := k + 1) h
      exact ⟨i + 1, by rw [h1]; congr 1; omega, by simpa using h2⟩
theorem lookF_some {p : ByteArray} {f : FileD} : ∀ {l : List FileD}, lookF p l = some f → f ∈ l ∧ f.path = p
  | g :: r, h => by
    rw [lookF] at h
    split at h
    · injection h with h; subst h; exact ⟨by simp, by assumption⟩
    · exact ⟨List.mem_cons_of_mem _ (lookF_some h).1, (lookF_some h).2⟩
theorem lookF_none {p : ByteArray} : ∀ {l : List FileD}, lookF p l = none ↔ ∀ f ∈ l, f.path ≠ p
  | [] => by simp [lookF]
  | g :: r => by
    rw [lookF]
    split
    · rename_i h; simp [h]
    · rename_i h
      rw [lookF_none]
      simp [h]
theorem placeF_first {p : ByteArray} : ∀ (k : Nat) (l : List FileD) (i : Nat) (f : FileD), l[i]? = some f → f.path = p → (∀ a g, a < i → l[a]? = some g → g.path ≠ p) → placeF p k l = ((k + i : Nat) : Int)
  | k, [], i, f, h, _, _ => by simp at h
  | k, x :: l, 0, f, h, hp, _ => by
    simp at h
    subst h
    rw [placeF, if_pos hp]
    rfl
  | k, x :: l, i + 1, f, h, hp, hn => by
    rw [placeF, if_neg (hn 0 x (by omega) rfl), placeF_first (k + 1) l i f (by simpa using h) hp (fun a g ha hg => hn (a + 1) g (by omega) (by simpa using hg))]
    congr 1
    omega
theorem placeF_no {p : ByteArray} : ∀ (k : Nat) (l : List FileD), (∀ g ∈ l, g.path ≠ p) → placeF p k l = -1 := fun k l h => placeF_none (lookF_none.2 h)
theorem pw_get {l : List FileD} (h : l.Pairwise FR) {i j : Nat} {f g : FileD} (hi : l[i]? = some f) (hj : l[j]? = some g) (hij : i < j) : FR f g := by
  obtain ⟨h1, h2⟩ := List.getElem?_eq_some_iff.1 hi
  obtain ⟨h3, h4⟩ := List.getElem?_eq_some_iff.1 hj
  rw [← h2, ← h4]
  exact List.pairwise_iff_getElem.1 h i j h1 h3 hij
/-- What the search has found, when it stands. -/
theorem bs_end {p : ByteArray} {l : List FileD} {i : Nat} (hpw : l.Pairwise FR) (hlo : ∀ a g, a < i → l[a]? = some g → pord g.path p < 0) (hhi : ∀ a g, i ≤ a → l[a]? = some g → 0 ≤ pord g.path p) :
    (∀ f, l[i]? = some f → f.path = p → placeF p 0 l = (i : Int)) ∧ ((∀ f, l[i]? = some f → f.path ≠ p) → placeF p 0 l = -1) := by
  refine ⟨fun f hf hp => ?_, fun hn => ?_⟩
  · have := placeF_first 0 l i f hf hp (fun a g ha hg => pord_ne (hlo a g ha hg))
    rwa [Nat.zero_add] at this
  · refine placeF_no 0 l fun g hg he => ?_
    obtain ⟨a, ha⟩ := List.getElem?_of_mem hg
    by_cases h1 : a < i
    · exact pord_ne (hlo a g h1 ha) he
    · by_cases h2 : a = i
      · subst h2; exact hn g ha he
      · have hia : i < a := by omega
        have hlt : i < l.length := Nat.lt_trans hia (List.getElem?_eq_some_iff.1 ha).1
        have hf : l[i]? = some l[i] := List.getElem?_eq_getElem hlt
        have := pw_get hpw hf ha hia
        unfold FR at this
        rw [he] at this
        exact absurd this (Int.not_lt.2 (hhi i _ (Nat.le_refl _) hf))
theorem check_pw {l : List FileD} (h : checkE l = 0) : l.Pairwise FR := by
  unfold checkE at h
  by_cases h0 : pathsE (l.map (·.path.data.toList)) = 0
  · have := paths_pw h0
    rw [List.pairwise_map] at this
    exact this
  · rw [if_neg h0] at h; exact absurd h h0
set_option maxRecDepth 100000 in
theorem findc_any (f : FileD) (p : ByteArray) (w : World) (hf : FOk f) (hp : p.size ≤ 9223372036854775807) :
    Calls Tryd.prog 67 #[.agg #[.string f.path, .int .i64 f.mode, .string f.data], .string p] w fun e w' => e = .returned (.int .i64 (ordL f.path.data.toList p.data.toList)) ∧ Below w.heap.size w w' := by
  have HO := Lib.hid (fun W => order_any f.path p W hf.1 hp)
  have hB1 := (Below.refl w.heap.size w).alloc (Nat.le_refl _) (.cells #[.string f.path, .int .i64 f.mode, .string f.data] 33)
  have hbox := Blk.new w 33 #[.string f.path, .int .i64 f.mode, .string f.data]
  obtain ⟨k0, k1, k2⟩ := fbox_cells hbox
  clear hbox
  go_enter Tryd.func67, Tryd.ntmps67
  go_wp2_with (go_at_call 63; (with_reducible refine (HO.out _).mono ?_); rintro e w2 ⟨rfl, m, rfl⟩)
  go_ret
  exact ⟨rfl, below_drewN hB1 _⟩
def BsOut (p : ByteArray) (l : List FileD) (w : World) (e : Ending) (w' : World) : Prop := ∃ (i : Nat) (b : Bool), e = .returned (.tuple #[.int .i64 (i : Int), .bool b]) ∧ placeF p 0 l = (if b then (i : Int) else -1) ∧ Below w.heap.size w w'
def BsRel (w : World) (p : ByteArray) (l : List FileD) (vi vj : Value) (wr : World) : Prop := ∃ (i j : Nat), i ≤ j ∧ j ≤ l.length ∧ vi = .int .i64 i ∧ vj = .int .i64 j ∧ Hid (∀ a g, a < i → l[a]? = some g → pord g.path p < 0) ∧ Hid (∀ a g, j ≤ a → l[a]? = some g → 0 ≤ pord g.path p) ∧ Below w.heap.size w wr
set_option maxHeartbeats 2000000 in
set_option maxRecDepth 100000 in
theorem bsf_any (A : Option Addr) (c : Nat) (l : List FileD) (p : ByteArray) (w : World) (hl : l.length ≤ 1000) (hx : ∀ f ∈ l, FOk f) (hpw : l.Pairwise FR) (hp : p.size ≤ 9223372036854775807) (ha : Arr w w.heap.size 3 A l.length (fcells l)) :
    Calls Tryd.prog 66 #[.slice A l.length c, .string p, .func (.func 67) #[] #[]] w (BsOut p l w) := by
  have HA := Lib.hid ha
  have HX := Lib.hid hx
  have HPW := Lib.hid hpw
  clear ha hx hpw
  go_enter Tryd.func66, Tryd.ntmps66
  go_wp2
  go_loopw [9, 10] (fun vi vj wr => BsRel w p l vi vj wr) (fun vi vj _ => (intOf vj).toNat - (intOf vi).toNat)
  case atStart => unfold BsRel; exact ⟨0, l.length, Nat.zero_le _, Nat.le_refl _, rfl, rfl, Lib.hid (fun a g h => absurd h (by omega)), Lib.hid (fun a g h hg => by rw [List.getElem?_eq_none h] at hg; cases hg), Below.refl _ _⟩
  case round =>
    unfold BsRel at hrel
    obtain ⟨i, j, hij, hjl, rfl, rfl, HLO, HHI, hB⟩ := hrel
    by_cases hlt : i < j
    · obtain ⟨M, hM, hM1, hM2⟩ : ∃ M : Nat, ((i : Int) + (j : Int)) / 2 = (M : Int) ∧ i ≤ M ∧ M < j := ⟨(i + j) / 2, by omega, by omega, by omega⟩
      obtain ⟨f, hf⟩ : ∃ f, l[M]? = some f := ⟨_, List.getElem?_eq_getElem (by omega)⟩
      obtain ⟨b, o, rfl, hb, hcell⟩ := HA.out.2 (by omega)
      obtain ⟨c0, c1, c2⟩ := file_cells (fun i u h => (hB.cell (p := ⟨b, o + i, none⟩) hb).trans (hcell i u h)) hf
      have HC := Lib.hid (fun W => findc_any f p W (HX.out f (List.mem_of_getElem? hf)) hp)
      have Ml : (M : Int) < l.length := by omega
      have hord := ordL_lt f.path p
      by_cases hO : ordL f.path.data.toList p.data.toList < 0
      · have HLO2 : Hid (∀ a g, a < M + 1 → l[a]? = some g → pord g.path p < 0) := Lib.hid fun a g ha hg => by
          by_cases hlow : a < M
          · exact pord_trans (pw_get HPW.out hg hf hlow) (hord.1 hO)
          · have : a = M := by omega
            subst this
            rw [hf] at hg
            injection hg with hg
            subst hg
            exact hord.1 hO
        generalize ordL f.path.data.toList p.data.toList = S at *
        clear hf hcell hord
        go_wp2_with (go_at_call 67; (with_reducible refine (HC.out _).mono ?_); rintro e w1 ⟨rfl, hb1⟩)
        go_roundw
        case rel => unfold BsRel; exact ⟨M + 1, j, by omega, hjl, by go_num, rfl, HLO2, HHI, below_on hB hb1⟩
        case measure => simp [intOf] <;> omega
      · have HHI2 : Hid (∀ a g, M ≤ a → l[a]? = some g → 0 ≤ pord g.path p) := Lib.hid fun a g ha hg => by
          refine Int.not_lt.1 fun h => ?_
          by_cases hup : M < a
          · exact hO (hord.2 (pord_trans (pw_get HPW.out hf hg hup) h))
          · have : a = M := by omega
            subst this
            rw [hf] at hg
            injection hg with hg
            subst hg
            exact hO (hord.2 h)
        generalize ordL f.path.data.toList p.data.toList = S at *
        clear hf hcell hord
        go_wp2_with (go_at_call 67; (with_reducible refine (HC.out _).mono ?_); rintro e w1 ⟨rfl, hb1⟩)
        go_roundw
        case rel => unfold BsRel; exact ⟨i, M, by omega, by omega, rfl, rfl, HLO, HHI2, below_on hB hb1⟩
        case measure => simp [intOf] <;> omega
    · have hij2 : i = j := by omega
      subst hij2
      obtain ⟨e1, e2⟩ := bs_end HPW.out HLO.out HHI.out
      by_cases hil : i < l.length
      · obtain ⟨f, hf⟩ : ∃ f, l[i]? = some f := ⟨_, List.getElem?_eq_getElem hil⟩
        obtain ⟨b, o, rfl, hb, hcell⟩ := HA.out.2 (by omega)
        obtain ⟨c0, c1, c2⟩ := file_cells (fun i u h => (hB.cell (p := ⟨b, o + i, none⟩) hb).trans (hcell i u h)) hf
        have HC := Lib.hid (fun W => findc_any f p W (HX.out f (List.mem_of_getElem? hf)) hp)
        have il : (i : Int) < l.length := by omega
        have hz : ordL f.path.data.toList p.data.toList = 0 ↔ f.path = p := by
          have := sgn_ord f.path.data.toList p.data.toList
          have h0 := ordS_zero f.path.data.toList p.data.toList
          constructor
          · intro h
            rw [h] at this
            exact ba_ext (h0.1 this.symm)
          · intro h
            rw [h]
            have h1 := (ordS_zero p.data.toList p.data.toList).2 rfl
            have h2 := sgn_ord p.data.toList p.data.toList
            rw [h1] at h2
            unfold sgnI at h2
            split at h2
            · cases h2
            · split at h2
              · cases h2
              · omega
        by_cases he : f.path = p
        · have HP := Lib.hid (e1 f hf he)
          have hS := hz.2 he
          rw [hS] at HC
          clear e1 e2 hf hcell hz he hS
          go_wp2_with (go_at_call 67; (with_reducible refine (HC.out _).mono ?_); rintro e w1 ⟨rfl, hb1⟩)
          go_ret2
          unfold BsOut
          exact ⟨i, true, rfl, by rw [if_pos rfl]; exact HP.out, below_on hB hb1⟩
        · have HP := Lib.hid (e2 fun g hg => by rw [hf] at hg; injection hg with hg; subst hg; exact he)
          have hS : (ordL f.path.data.toList p.data.toList == 0) = false := by rw [beq_eq_false_iff_ne]; exact fun h => he (hz.1 h)
          generalize ordL f.path.data.toList p.data.toList = S at *
          clear e1 e2 hf hcell hz he
          go_wp2_with (go_at_call 67; (with_reducible refine (HC.out _).mono ?_); rintro e w1 ⟨rfl, hb1⟩)
          go_ret2
          unfold BsOut
          exact ⟨i, false, rfl, HP.out, below_on hB hb1⟩
      · have HP := Lib.hid (e2 fun g hg => by rw [List.getElem?_eq_none (by omega)] at hg; cases hg)
        have il : ¬ (i : Int) < l.length := by omega
        clear e1 e2
        go_wp2
        go_ret2
        unfold BsOut
        exact ⟨i, false, rfl, HP.out, hB⟩
set_option maxRecDepth 100000 in
theorem find_any (A : Option Addr) (c : Nat) (l : List FileD) (p : ByteArray) (w : World) (hl : l.length ≤ 1000) (hx : ∀ f ∈ l, FOk f) (hpw : l.Pairwise FR) (hp : p.size ≤ 9223372036854775807) (ha : Arr w w.heap.size 3 A l.length (fcells l)) :
    Calls Tryd.prog 47 #[.slice A l.length c, .string p] w fun e w' => e = .returned (.int .i64 (placeF p 0 l)) ∧ Below w.heap.size w w' := by
  have hb := bsf_any A c l p w hl hx hpw hp ha
  unfold BsOut at hb
  generalize placeF p 0 l = P at *
  have HB := Lib.hid hb
  clear hb ha
  go_enter Tryd.func47, Tryd.ntmps47
  go_wp2_with (go_at_call 66; (with_reducible refine HB.out.mono ?_); rintro e w1 ⟨i, b, rfl, hP, hb1⟩; have HP := Lib.hid hP; clear hP; cases b)
  all_goals
    go_wp2
    go_ret
    exact ⟨by rw [HP.out]; rfl, hb1⟩
set_option maxHeartbeats 1000000 in
set_option maxRecDepth 100000 in
theorem find_ref (A : Option Addr) (c : Nat) (l : List FileD) (p : ByteArray) (w : World) (hz : l.length ≤ 9223372036854775807) (ha : Arr w w.heap.size 3 A l.length (fcells l)) :
    Calls Tryd.prog 44 #[.slice A l.length c, .string p] w fun e w' => e = .returned (.int .i64 (placeF p 0 l)) ∧ Below w.heap.size w w' := by
  have HA := Lib.hid ha
  clear ha
  generalize hR : placeF p 0 l = R
  have HR : Hid (placeF p 0 (l.drop 0) = R) := Lib.hid hR
  clear hR
  go_enter Tryd.func44, Tryd.ntmps44
  go_wp2
  go_loopw [5] (fun v wr => ∃ (k : Nat), k ≤ l.length ∧ v = .int .i64 k ∧ Hid (placeF p k (l.drop k) = R) ∧ Below w.heap.size w wr) (fun v _ => l.length - (intOf v).toNat)
  case atStart => exact ⟨0, Nat.zero_le _, rfl, HR, Below.refl _ _⟩
  case round =>
    obtain ⟨k, hk, rfl, H, hB⟩ := hrel
    by_cases hlt : k < l.length
    · obtain ⟨f, hf⟩ : ∃ f, l[k]? = some f := ⟨_, List.getElem?_eq_getElem hlt⟩
      obtain ⟨b, o, rfl, hb, hcell⟩ := HA.out.2 (by omega)
      obtain ⟨c0, c1, c2⟩ := file_cells (fun i u h => (hB.cell (p := ⟨b, o + i, none⟩) hb).trans (hcell i u h)) hf
      have kl : (k : Int) < l.length := by omega
      by_cases hp : f.path = p
      · have hr := (placeF_hit hf hp).symm.trans H.out
        subst hr
        have hd : (f.path.toList == p.toList) = true := by rw [hp]; exact beq_self_eq_true _
        clear H hf hcell hp
        go_wp2
        go_ret
        exact ⟨rfl, hB⟩
      · have hst := Lib.hid ((placeF_miss hf hp).symm.trans H.out)
        have hd := str_ne hp
        clear H hf hcell
        go_wp2
        go_roundw
        case rel => exact ⟨k + 1, by omega, by go_num, hst, hB⟩
        case measure => simp [intOf] <;> omega
    · have hr := (placeF_end (p := p) (l := l) (k := k) (by omega)).symm.trans H.out
      subst hr
      clear H
      go_wp2
      go_ret
      exact ⟨rfl, hB⟩
end Go.Proofs.YtlfennooocmclaaDoor
/- Chapter 10, plain: the paths of three trees in order, and what is taken of each. No program in sight. -/
namespace Go.Proofs.YtlfennooocmclaaDoor
open Go.RowKit
set_option linter.unusedVariables false

/-! ### the program's paths -/
def lstep (m : ByteArray) (l : List FileD) : ByteArray := match l with
  | [] => m
  | f :: _ => if m = ⟨#[]⟩ then f.path else if ordL f.path.data.toList m.data.toList < 0 then f.path else m
def least3 (a b c : List FileD) : ByteArray := lstep (lstep (lstep ⟨#[]⟩ a) b) c
def nxt (m : ByteArray) (l : List FileD) : List FileD := match l with
  | [] => []
  | f :: r => if f.path = m then r else f :: r
def p3Go : Nat → List FileD → List FileD → List FileD → List ByteArray
  | 0, _, _, _ => []
  | n + 1, a, b, c => if a.length + b.length + c.length = 0 then [] else least3 a b c :: p3Go n (nxt (least3 a b c) a) (nxt (least3 a b c) b) (nxt (least3 a b c) c)
theorem nxt_len (m : ByteArray) (l : List FileD) : (nxt m l).length ≤ l.length := by
  unfold nxt
  split
  · simp
  · split <;> simp
theorem nxt_lt {m : ByteArray} {f : FileD} {l : List FileD} (h : f.path = m) : (nxt m (f :: l)).length < (f :: l).length := by
  unfold nxt
  simp [h]
/-- m is the least of some paths; none: the empty text. -/
def LeastOf (m : ByteArray) (qs : List ByteArray) : Prop := if qs = [] then m = ⟨#[]⟩ else m ∈ qs ∧ ∀ q ∈ qs, q = m ∨ pord m q < 0
def heads (l : List FileD) : List ByteArray := match l with
  | [] => []
  | f :: _ => [f.path]
theorem least_step {m : ByteArray} {qs : List ByteArray} {l : List FileD} (hne : ∀ q ∈ qs, q ≠ ⟨#[]⟩) (h : LeastOf m qs) : LeastOf (lstep m l) (qs ++ heads l) := by
  unfold lstep heads
  cases l with
  | nil => simpa using h
  | cons f l =>
    simp only
    unfold LeastOf at h ⊢
    rw [if_neg (by simp)]
    by_cases hq : qs = []
    · rw [if_pos hq] at h
      rw [if_pos h, hq]
      exact ⟨by simp, fun q hq => .inl (by simpa using hq)⟩
    · rw [if_neg hq] at h
      have hm := hne m h.1
      rw [if_neg hm]
      by_cases ho : ordL f.path.data.toList m.data.toList < 0
      · rw [if_pos ho]
        have ho := (ordL_lt _ _).1 ho
        refine ⟨by simp, fun q hq => ?_⟩
        rcases List.mem_append.1 hq with hq | hq
        · rcases h.2 q hq with rfl | hl
          · exact .inr ho
          · exact .inr (pord_trans ho hl)
        · exact .inl (by simpa using hq)
      · rw [if_neg ho]
        refine ⟨by simp [h.1], fun q hq => ?_⟩
        rcases List.mem_append.1 hq with hq | hq
        · exact h.2 q hq
        · rw [List.mem_singleton] at hq
          subst hq
          by_cases he : f.path = m
          · exact .inl he
          · exact .inr (pord_gt (fun h => ho ((ordL_lt _ _).2 h)) he)
def PNe (l : List FileD) : Prop := ∀ f ∈ l, f.path ≠ ⟨#[]⟩
theorem heads_ne {l : List FileD} (h : PNe l) : ∀ q ∈ heads l, q ≠ ⟨#[]⟩ := by
  cases l with
  | nil => simp [heads]
  | cons f l => intro q hq; simp [heads] at hq; subst hq; exact h f (by simp)
theorem least3_of {a b c : List FileD} (ha : PNe a) (hb : PNe b) (hc : PNe c) : LeastOf (least3 a b c) ((heads a ++ heads b) ++ heads c) := by
  unfold least3
  have h0 : LeastOf ⟨#[]⟩ [] := by unfold LeastOf; rw [if_pos rfl]
  have h1 := least_step (l := a) (by simp) h0
  rw [List.nil_append] at h1
  have h2 := least_step (l := b) (heads_ne ha) h1
  refine least_step (fun q hq => ?_) h2
  rcases List.mem_append.1 hq with hq | hq
  · exact heads_ne ha q hq
  · exact heads_ne hb q hq
theorem below_head {m : ByteArray} {l : List FileD} (hp : l.Pairwise FR) (h : ∀ q ∈ heads l, q = m ∨ pord m q < 0) : ∀ f ∈ l, f.path = m ∨ pord m f.path < 0 := by
  cases l with
  | nil => simp
  | cons g l =>
    rw [List.pairwise_cons] at hp
    intro f hf
    have hg := h g.path (by simp [heads])
    rcases List.mem_cons.1 hf with rfl | hf
    · exact hg
    · have := hp.1 f hf
      unfold FR at this
      rcases hg with e | e
      · rw [e] at this; exact .inr this
      · exact .inr (pord_trans e this)
theorem nxt_mem {m : ByteArray} {l : List FileD} (hp : l.Pairwise FR) (h : ∀ f ∈ l, f.path = m ∨ pord m f.path < 0) : ∀ f, f ∈ nxt m l ↔ f ∈ l ∧ f.path ≠ m := by
  intro f
  unfold nxt
  cases l with
  | nil => simp
  | cons g l =>
    rw [List.pairwise_cons] at hp
    simp only
    by_cases hg : g.path = m
    · rw [if_pos hg]
      constructor
      · intro hf
        have := hp.1 f hf
        unfold FR at this
        rw [hg] at this
        exact ⟨List.mem_cons_of_mem _ hf, (pord_ne this).symm⟩
      · rintro ⟨hf, hn⟩
        rcases List.mem_cons.1 hf with rfl | hf
        · exact absurd hg hn
        · exact hf
    · rw [if_neg hg]
      constructor
      · intro hf
        refine ⟨hf, ?_⟩
        rcases List.mem_cons.1 hf with rfl | hf
        · exact hg
        · intro he
          have := hp.1 f hf
          unfold FR at this
          rw [he] at this
          rcases h g (by simp) with e | e
          · exact hg e
          · exact pord_irr m (pord_trans e this)
      · exact fun h => h.1
theorem nxt_pw {m : ByteArray} {l : List FileD} (hp : l.Pairwise FR) : (nxt m l).Pairwise FR := by
  unfold nxt
  cases l with
  | nil => simp
  | cons g l =>
    simp only
    split
    · exact (List.pairwise_cons.1 hp).2
    · exact hp
theorem nxt_all {P : FileD → Prop} {m : ByteArray} {l : List FileD} (h : ∀ f ∈ l, P f) : ∀ f ∈ nxt m l, P f := by
  unfold nxt
  cases l with
  | nil => simp
  | cons g l =>
    simp only
    split
    · exact fun f hf => h f (by simp [hf])
    · exact h
def In3 (p : ByteArray) (a b c : List FileD) : Prop := (∃ f ∈ a, f.path = p) ∨ (∃ f ∈ b, f.path = p) ∨ ∃ f ∈ c, f.path = p
theorem heads_in {q : ByteArray} {l : List FileD} (h : q ∈ heads l) : ∃ f ∈ l, f.path = q := by
  cases l with
  | nil => simp [heads] at h
  | cons f l => simp [heads] at h; exact ⟨f, by simp, h.symm⟩
theorem least_lt {a b c : List FileD} (ha : PNe a) (hb : PNe b) (hc : PNe c) (h0 : a.length + b.length + c.length ≠ 0) :
    (nxt (least3 a b c) a).length + (nxt (least3 a b c) b).length + (nxt (least3 a b c) c).length < a.length + b.length + c.length := by
  have hL := least3_of ha hb hc
  generalize least3 a b c = m at *
  have l1 := nxt_len m a
  have l2 := nxt_len m b
  have l3 := nxt_len m c
  have hq : (heads a ++ heads b) ++ heads c ≠ [] := by
    intro h
    cases a with
    | cons f a => simp [heads] at h
    | nil => cases b with
      | cons f b => simp [heads] at h
      | nil => cases c with
        | cons f c => simp [heads] at h
        | nil => exact h0 rfl
  unfold LeastOf at hL
  rw [if_neg hq] at hL
  have hin := hL.1
  rcases List.mem_append.1 hin with h | h
  · rcases List.mem_append.1 h with h | h
    · cases a with
      | nil => simp [heads] at h
      | cons f a => simp [heads] at h; have := nxt_lt (l := a) h.symm; omega
    · cases b with
      | nil => simp [heads] at h
      | cons f b => simp [heads] at h; have := nxt_lt (l := b) h.symm; omega
  · cases c with
    | nil => simp [heads] at h
    | cons f c => simp [heads] at h; have := nxt_lt (l := c) h.symm; omega
theorem p3_all : ∀ (n : Nat) (a b c : List FileD), a.length + b.length + c.length ≤ n → PNe a → PNe b → PNe c → a.Pairwise FR → b.Pairwise FR → c.Pairwise FR →
    (p3Go n a b c).Pairwise (fun p q => pord p q < 0) ∧ ∀ p, p ∈ p3Go n a b c ↔ In3 p a b c
  | 0, a, b, c, h, _, _, _, _, _, _ => by
    obtain rfl : a = [] := List.eq_nil_of_length_eq_zero (by omega)
    obtain rfl : b = [] := List.eq_nil_of_length_eq_zero (by omega)
    obtain rfl : c = [] := List.eq_nil_of_length_eq_zero (by omega)
    simp [p3Go, In3]
  | n + 1, a, b, c, h, ha, hb, hc, pa, pb, pc => by
    rw [p3Go]
    by_cases h0 : a.length + b.length + c.length = 0
    · obtain rfl : a = [] := List.eq_nil_of_length_eq_zero (by omega)
      obtain rfl : b = [] := List.eq_nil_of_length_eq_zero (by omega)
      obtain rfl : c = [] := List.eq_nil_of_length_eq_zero (by omega)
      simp [In3]
    · rw [if_neg h0]
      have hlt := least_lt ha hb hc h0
      have hL := least3_of ha hb hc
      generalize least3 a b c = m at *
      have hq : (heads a ++ heads b) ++ heads c ≠ [] := by
        intro hh
        cases a with
        | cons f a => simp [heads] at hh
        | nil => cases b with
          | cons f b => simp [heads] at hh
          | nil => cases c with
            | cons f c => simp [heads] at hh
            | nil => exact h0 rfl
      unfold LeastOf at hL
      rw [if_neg hq] at hL
      have qa := below_head pa (m := m) (fun q hq => hL.2 q (by simp [hq]))
      have qb := below_head pb (m := m) (fun q hq => hL.2 q (by simp [hq]))
      have qc := below_head pc (m := m) (fun q hq => hL.2 q (by simp [hq]))
      obtain ⟨i1, i2⟩ := p3_all n (nxt m a) (nxt m b) (nxt m c) (by omega) (nxt_all ha) (nxt_all hb) (nxt_all hc) (nxt_pw pa) (nxt_pw pb) (nxt_pw pc)
      have ma := nxt_mem pa qa
      have mb := nxt_mem pb qb
      have mc := nxt_mem pc qc
      have hin : In3 m a b c := by
        rcases List.mem_append.1 hL.1 with h | h
        · rcases List.mem_append.1 h with h | h
          · exact .inl (heads_in h)
          · exact .inr (.inl (heads_in h))
        · exact .inr (.inr (heads_in h))
      refine ⟨List.pairwise_cons.2 ⟨fun p hp => ?_, i1⟩, fun p => ?_⟩
      · rcases (i2 p).1 hp with ⟨f, hf, rfl⟩ | ⟨f, hf, rfl⟩ | ⟨f, hf, rfl⟩
        · exact ((qa f ((ma f).1 hf).1).resolve_left ((ma f).1 hf).2)
        · exact ((qb f ((mb f).1 hf).1).resolve_left ((mb f).1 hf).2)
        · exact ((qc f ((mc f).1 hf).1).resolve_left ((mc f).1 hf).2)
      · rw [List.mem_cons, i2]
        unfold In3
        constructor
        · rintro (rfl | ⟨f, hf, rfl⟩ | ⟨f, hf, rfl⟩ | ⟨f, hf, rfl⟩)
          · exact hin
          · exact .inl ⟨f, ((ma f).1 hf).1, rfl⟩
          · exact .inr (.inl ⟨f, ((mb f).1 hf).1, rfl⟩)
          · exact .inr (.inr ⟨f, ((mc f).1 hf).1, rfl⟩)
        · intro hh
          by_cases hpm : p = m
          · exact .inl hpm
          · right
            rcases hh with ⟨f, hf, rfl⟩ | ⟨f, hf, rfl⟩ | ⟨f, hf, rfl⟩
            · exact .inl ⟨f, (ma f).2 ⟨hf, hpm⟩, rfl⟩
            · exact .inr (.inl ⟨f, (mb f).2 ⟨hf, hpm⟩, rfl⟩)
            · exact .inr (.inr ⟨f, (mc f).2 ⟨hf, hpm⟩, rfl⟩)
theorem p3_fuel : ∀ (n m : Nat) (a b c : List FileD), a.length + b.length + c.length ≤ n → a.length + b.length + c.length ≤ m → PNe a → PNe b → PNe c → p3Go n a b c = p3Go m a b c
  | 0, m, a, b, c, hn, _, _, _, _ => by
    cases m with
    | zero => rfl
    | succ m => rw [p3Go, p3Go, if_pos (by omega)]
  | n + 1, 0, a, b, c, _, hm, _, _, _ => by rw [p3Go, p3Go, if_pos (by omega)]
  | n + 1, m + 1, a, b, c, hn, hm, ha, hb, hc => by
    rw [p3Go, p3Go]
    by_cases h0 : a.length + b.length + c.length = 0
    · rw [if_pos h0, if_pos h0]
    · rw [if_neg h0, if_neg h0]
      have hlt := least_lt ha hb hc h0
      rw [p3_fuel n m _ _ _ (by omega) (by omega) (nxt_all ha) (nxt_all hb) (nxt_all hc)]

/-! ### the reference's -/
def gstep (acc : List FileD) (f : FileD) : List FileD := if lookF f.path acc = none then acc ++ [pfile f.path] else acc
def gath3 (x y z : List FileD) : List FileD := ((x ++ y) ++ z).foldl gstep []
theorem gath_fold : ∀ (l acc : List FileD), acc.Pairwise (fun f g => f.path ≠ g.path) → (∀ f ∈ acc, ∃ p, f = pfile p) →
    (l.foldl gstep acc).Pairwise (fun f g => f.path ≠ g.path) ∧ (∀ f ∈ l.foldl gstep acc, ∃ p, f = pfile p) ∧ (∀ p, (∃ f ∈ l.foldl gstep acc, f.path = p) ↔ (∃ f ∈ acc, f.path = p) ∨ ∃ f ∈ l, f.path = p) ∧ (l.foldl gstep acc).length ≤ acc.length + l.length
  | [], acc, h, h2 => ⟨h, h2, fun p => by simp, by simp⟩
  | x :: l, acc, h, h2 => by
    rw [List.foldl_cons]
    by_cases hx : lookF x.path acc = none
    · rw [show gstep acc x = acc ++ [pfile x.path] from if_pos hx]
      have hn := lookF_none.1 hx
      obtain ⟨i1, i2, i3, i4⟩ := gath_fold l (acc ++ [pfile x.path]) (List.pairwise_append.2 ⟨h, by simp, fun a ha b hb => by rw [List.mem_singleton] at hb; subst hb; exact hn a ha⟩) (fun f hf => by
        rcases List.mem_append.1 hf with hf | hf
        · exact h2 f hf
        · exact ⟨x.path, by simpa using hf⟩)
      refine ⟨i1, i2, fun p => ?_, by simp at i4 ⊢; omega⟩
      rw [i3 p]
      simp only [List.mem_append, List.mem_cons, List.not_mem_nil, or_false, exists_eq_or_imp]
      constructor
      · rintro (⟨f, hf | rfl, he⟩ | h)
        · exact .inl ⟨f, hf, he⟩
        · exact .inr (.inl he)
        · exact .inr (.inr h)
      · rintro (⟨f, hf, he⟩ | he | h)
        · exact .inl ⟨f, .inl hf, he⟩
        · exact .inl ⟨pfile x.path, .inr rfl, he⟩
        · exact .inr h
    · rw [show gstep acc x = acc from if_neg hx]
      obtain ⟨i1, i2, i3, i4⟩ := gath_fold l acc h h2
      refine ⟨i1, i2, fun p => ?_, by simp at i4 ⊢; omega⟩
      rw [i3 p]
      simp only [List.mem_cons, exists_eq_or_imp]
      constructor
      · rintro (h | h)
        · exact .inl h
        · exact .inr (.inr h)
      · rintro (h | he | h)
        · exact .inl h
        · obtain ⟨g, hg⟩ := Option.ne_none_iff_exists'.1 hx
          obtain ⟨h3, h4⟩ := lookF_some hg
          exact .inl ⟨g, h3, by rw [h4, he]⟩
        · exact .inr h
/-- The paths of three trees, in order. -/
def uni3 (x y z : List FileD) : List ByteArray := p3Go (x.length + y.length + z.length) x y z
theorem sort_gath {x y z : List FileD} (ha : PNe x) (hb : PNe y) (hc : PNe z) (pa : x.Pairwise FR) (pb : y.Pairwise FR) (pc : z.Pairwise FR) : sortS (gath3 x y z) = (uni3 x y z).map pfile := by
  obtain ⟨g1, g2, g3, _⟩ := gath_fold ((x ++ y) ++ z) [] List.Pairwise.nil (by simp)
  obtain ⟨p1, p2⟩ := p3_all (x.length + y.length + z.length) x y z (Nat.le_refl _) ha hb hc pa pb pc
  have hs := fold_sort (gath3 x y z) [] List.Pairwise.nil g1 (by simp)
  refine pw_ext (R := FR) (fun x => pord_irr _) (fun x y z => pord_trans) _ _ hs.1 ?_ ?_
  · rw [List.pairwise_map]
    exact p1
  · intro f
    rw [show f ∈ sortS (gath3 x y z) ↔ f ∈ gath3 x y z ∨ f ∈ [] from hs.2 f]
    simp only [List.not_mem_nil, or_false]
    rw [List.mem_map]
    constructor
    · intro hf
      obtain ⟨p, rfl⟩ := g2 f hf
      refine ⟨p, (p2 p).2 ?_, rfl⟩
      rcases (g3 p).1 ⟨_, hf, rfl⟩ with ⟨f, hf, _⟩ | ⟨f, hf, he⟩
      · simp at hf
      · rcases List.mem_append.1 hf with hf | hf
        · rcases List.mem_append.1 hf with hf | hf
          · exact .inl ⟨f, hf, he⟩
          · exact .inr (.inl ⟨f, hf, he⟩)
        · exact .inr (.inr ⟨f, hf, he⟩)
    · rintro ⟨p, hp, rfl⟩
      have h3 : ∃ f ∈ ((x ++ y) ++ z).foldl gstep [], f.path = p := (g3 p).2 (.inr (by
        rcases (p2 p).1 hp with ⟨f, hf, he⟩ | ⟨f, hf, he⟩ | ⟨f, hf, he⟩
        · exact ⟨f, by simp [hf], he⟩
        · exact ⟨f, by simp [hf], he⟩
        · exact ⟨f, by simp [hf], he⟩))
      obtain ⟨f, hf, he⟩ := h3
      obtain ⟨q, rfl⟩ := g2 f hf
      have : q = p := he
      subst this
      exact hf

/-! ### what is taken -/
def eqF (f g : FileD) : Bool := decide (f.path = g.path) && (decide (f.mode = g.mode) && decide (f.data = g.data))
theorem eqF_iff (f g : FileD) : eqF f g = true ↔ f = g := by
  unfold eqF
  obtain ⟨a, b, c⟩ := f
  obtain ⟨d, e, h⟩ := g
  simp
def likeO : Option FileD → Option FileD → Bool
  | none, none => true
  | some f, some g => eqF f g
  | _, _ => false
theorem likeO_iff (a b : Option FileD) : likeO a b = true ↔ a = b := by
  cases a <;> cases b <;> simp [likeO, eqF_iff]
def mrg (x y z : List FileD) (p : ByteArray) : Option FileD × Bool :=
  if likeO (lookF p y) (lookF p z) then (lookF p y, false) else if likeO (lookF p x) (lookF p z) then (lookF p y, false) else if likeO (lookF p x) (lookF p y) then (lookF p z, false) else (lookF p y, true)
def mOut (x y z : List FileD) (U : List ByteArray) : List FileD := U.filterMap fun p => (mrg x y z p).1
def mTold (x y z : List FileD) (U : List ByteArray) : List ByteArray := U.filter fun p => (mrg x y z p).2
structure MrD where
  s : ByteArray
  l : List ByteArray
  e : Int
def mergeT (X Y Z : Int × List FileD) : MrD :=
  if X.1 ≠ 0 then ⟨⟨#[]⟩, [], X.1⟩ else if Y.1 ≠ 0 then ⟨⟨#[]⟩, [], Y.1⟩ else if Z.1 ≠ 0 then ⟨⟨#[]⟩, [], Z.1⟩
  else if ofE (mOut X.2 Y.2 Z.2 (uni3 X.2 Y.2 Z.2)) ≠ 0 then ⟨⟨#[]⟩, [], ofE (mOut X.2 Y.2 Z.2 (uni3 X.2 Y.2 Z.2))⟩
  else ⟨ofS (mOut X.2 Y.2 Z.2 (uni3 X.2 Y.2 Z.2)), mTold X.2 Y.2 Z.2 (uni3 X.2 Y.2 Z.2), 0⟩
end Go.Proofs.YtlfennooocmclaaDoor
/- Chapter 10: the walk through image.paths. -/
namespace Go.Proofs.YtlfennooocmclaaDoor
open Go.RowKit
set_option linter.unusedVariables false

theorem farr_tail {w : World} {B b o c : Nat} {f : FileD} {a : List FileD} (h : Arr w B 3 (some ⟨b, o, none⟩) (f :: a).length (fcells (f :: a))) (hc : (f :: a).length ≤ c) :
    Arr w B 3 (if c = 1 then some ⟨b, o, none⟩ else some ⟨b, o + 3, none⟩) a.length (fcells a) := by
  rcases Nat.eq_zero_or_pos a.length with h0 | h0
  · have : a = [] := List.eq_nil_of_length_eq_zero h0
    subst this
    exact Arr.nil _ _ _ _
  · rw [List.length_cons] at hc
    rw [if_neg (by omega)]
    have hcons : fcells (f :: a) = [Value.string f.path, .int .i64 f.mode, .string f.data] ++ fcells a := rfl
    have hl := h.1
    rw [hcons] at hl
    refine ⟨by simp at hl ⊢; omega, fun _ => ?_⟩
    obtain ⟨b2, o2, e, hb, hcell⟩ := h.2 (by simp)
    injection e with e
    injection e with e1 e2 e3
    subst e1
    subst e2
    refine ⟨b, o + 3, rfl, hb, fun i u hu => ?_⟩
    have := hcell (3 + i) u (by rw [hcons, List.getElem?_append_right (by simp)]; simpa using hu)
    rwa [← Nat.add_assoc] at this
def NxtOut (m : ByteArray) (l : List FileD) (N : Nat) (w : World) (e : Ending) (w' : World) : Prop := ∃ A' c', e = .returned (.slice A' (nxt m l).length c') ∧ (nxt m l).length ≤ c' ∧ Arr w N 3 A' (nxt m l).length (fcells (nxt m l)) ∧ ∃ k, w' = w.drewN k
set_option maxHeartbeats 1000000 in
set_option maxRecDepth 100000 in
theorem nxt_any (A : Option Addr) (c : Nat) (l : List FileD) (m : ByteArray) (g N : Nat) (w : World) (hl : l.length ≤ 1000) (hc : l.length ≤ c) (ha : Arr w N 3 A l.length (fcells l)) (hg : w.cell? ⟨g, 0, none⟩ = some (.string m)) :
    Calls Tryd.prog 64 #[.slice A l.length c, .pointer (some ⟨g, 0, none⟩)] w (NxtOut m l N w) := by
  have HA := Lib.hid ha
  clear ha
  cases l with
  | nil =>
    go_enter Tryd.func64, Tryd.ntmps64
    go_wp2
    go_quiet (fail)
    go_wp2
    go_ret
    unfold NxtOut
    exact ⟨A, c, rfl, by simp [nxt], Arr.nil _ _ _ _, _, rfl⟩
  | cons f l =>
    obtain ⟨b, o, rfl, hb, hcell⟩ := HA.out.2 (by simp)
    obtain ⟨c0, c1, c2⟩ := file_cells (l := f :: l) (k := 0) (f := f) hcell rfl
    rw [Nat.zero_mul, Nat.add_zero] at c0
    have k1 : (0 : Int) < (f :: l).length := by simp
    have k2 : (0 : Int) < (l.length : Int) + 1 := by omega
    have k3 : (1 : Int) ≤ (l.length : Int) + 1 := by omega
    have k4 : 0 < l.length + 1 := by omega
    have hcc : (l.length : Int) + 1 ≤ c := by simp at hc; omega
    clear hcell
    by_cases hm : f.path = m
    · have g1 : (f.path.toList == m.toList) = true := by rw [hm]; exact beq_self_eq_true _
      have HN := Lib.hid (show nxt m (f :: l) = l by unfold nxt; exact if_pos hm)
      have hT := farr_tail HA.out hc
      clear hm
      by_cases hc1 : c = 1
      · subst hc1
        rw [if_pos rfl] at hT
        have HT := Lib.hid hT
        clear hT
        go_enter Tryd.func64, Tryd.ntmps64
        go_wp2
        go_quiet (fail)
        go_wp2
        go_ret
        unfold NxtOut
        rw [HN.out]
        exact ⟨_, _, rfl, by simp at hc; simp [hc], HT.out, _, rfl⟩
      · rw [if_neg hc1] at hT
        have HT := Lib.hid hT
        clear hT
        go_enter Tryd.func64, Tryd.ntmps64
        go_wp2
        go_quiet (fail)
        go_wp2
        go_ret
        unfold NxtOut
        rw [HN.out]
        exact ⟨_, _, rfl, by simp at hc; omega, HT.out, _, rfl⟩
    · have g1 := str_ne hm
      have HN := Lib.hid (show nxt m (f :: l) = f :: l by unfold nxt; exact if_neg hm)
      clear hm
      go_enter Tryd.func64, Tryd.ntmps64
      go_wp2
      go_quiet (fail)
      go_wp2
      go_ret
      unfold NxtOut
      rw [HN.out]
      exact ⟨_, _, rfl, hc, HA.out, _, rfl⟩

/-! ### paths -/
def lnth (a b c : List FileD) (k : Nat) : ByteArray := match k with
  | 0 => ⟨#[]⟩
  | 1 => lstep ⟨#[]⟩ a
  | 2 => lstep (lstep ⟨#[]⟩ a) b
  | _ => lstep (lstep (lstep ⟨#[]⟩ a) b) c
def Tri (w : World) (B : Nat) (l : List FileD) (v : Value) : Prop := ∃ A n, v = .slice A l.length n ∧ l.length ≤ n ∧ Arr w B 3 A l.length (fcells l)
def PRel (w : World) (R : List ByteArray) (va vb vc vo : Value) (wr : World) : Prop := ∃ (a b c : List FileD) (A B C : Option Addr) (p q r : Nat) (out : List ByteArray), va = .slice A a.length p ∧ vb = .slice B b.length q ∧ vc = .slice C c.length r ∧ a.length ≤ p ∧ b.length ≤ q ∧ c.length ≤ r ∧
  a.length + b.length + c.length + out.length ≤ 1000 ∧ Hid (Arr wr w.heap.size 3 A a.length (fcells a)) ∧ Hid (Arr wr w.heap.size 3 B b.length (fcells b)) ∧ Hid (Arr wr w.heap.size 3 C c.length (fcells c)) ∧ Hid (∀ f ∈ (a ++ b) ++ c, FOk f) ∧ Hid (PNe a ∧ PNe b ∧ PNe c) ∧
  wr.ownsRow w.heap.size 9 1 vo out.length (out.map Value.string) ∧ Hid (out ++ p3Go (a.length + b.length + c.length) a b c = R) ∧ Below w.heap.size w wr
def IRel (w1 : World) (a b c : List FileD) (v : Value) (ws : World) : Prop := ∃ (k : Nat), k ≤ 3 ∧ v = .int .i64 k ∧ Hid (Blk ws w1.heap.size 9 #[.string (lnth a b c k)]) ∧ Below w1.heap.size w1 ws
theorem three_get {a b c : List FileD} {A B C : Option Addr} {p q r : Nat} {w : World} {N : Nat} (hA : Arr w N 3 A a.length (fcells a)) (hB : Arr w N 3 B b.length (fcells b)) (hC : Arr w N 3 C c.length (fcells c)) (h : ∀ f ∈ (a ++ b) ++ c, FOk f) {k : Nat} (hk : k < 3) :
    ∃ (L : List FileD) (D : Option Addr) (s : Nat), (∀ W, (Instr.index 91 (.agg #[.slice A a.length p, .slice B b.length q, .slice C c.length r]) (.int .i64 (k : Int))).run Tryd.prog W = .ok (.slice D L.length s) W) ∧ Arr w N 3 D L.length (fcells L) ∧ (∀ f ∈ L, FOk f) ∧ (L.length = a.length ∨ L.length = b.length ∨ L.length = c.length) ∧ lnth a b c (k + 1) = lstep (lnth a b c k) L := by
  match k, hk with
  | 0, _ => exact ⟨a, A, p, fun W => by kernel_rfl, hA, fun f hf => h f (by simp [hf]), .inl rfl, rfl⟩
  | 1, _ => exact ⟨b, B, q, fun W => by kernel_rfl, hB, fun f hf => h f (by simp [hf]), .inr (.inl rfl), rfl⟩
  | 2, _ => exact ⟨c, C, r, fun W => by kernel_rfl, hC, fun f hf => h f (by simp [hf]), .inr (.inr rfl), rfl⟩
theorem lnth_ok {a b c : List FileD} (h : ∀ f ∈ (a ++ b) ++ c, FOk f) (k : Nat) : (lnth a b c k).size ≤ 9223372036854775807 := by
  have hs : ∀ (m : ByteArray) (l : List FileD), m.size ≤ 9223372036854775807 → (∀ f ∈ l, FOk f) → (lstep m l).size ≤ 9223372036854775807 := by
    intro m l hm hl
    unfold lstep
    cases l with
    | nil => exact hm
    | cons f l =>
      have := (hl f (by simp)).1
      simp only
      split
      · exact this
      · split
        · exact this
        · exact hm
  have h0 : (⟨#[]⟩ : ByteArray).size ≤ 9223372036854775807 := by show (0 : Nat) ≤ _; omega
  have h1 := hs ⟨#[]⟩ a h0 (fun f hf => h f (by simp [hf]))
  have h2 := hs _ b h1 (fun f hf => h f (by simp [hf]))
  have h3 := hs _ c h2 (fun f hf => h f (by simp [hf]))
  unfold lnth
  split
  · exact h0
  · exact h1
  · exact h2
  · exact h3
theorem lstep_empty {f : FileD} {l : List FileD} : lstep ⟨#[]⟩ (f :: l) = f.path := by unfold lstep; exact if_pos rfl
theorem lstep_lt {m : ByteArray} {f : FileD} {l : List FileD} (hm : m ≠ ⟨#[]⟩) (h : ordL f.path.data.toList m.data.toList < 0) : lstep m (f :: l) = f.path := by unfold lstep; simp only; rw [if_neg hm, if_pos h]
theorem lstep_ge {m : ByteArray} {f : FileD} {l : List FileD} (hm : m ≠ ⟨#[]⟩) (h : ¬ ordL f.path.data.toList m.data.toList < 0) : lstep m (f :: l) = m := by unfold lstep; simp only; rw [if_neg hm, if_neg h]
theorem Arr.same {w : World} {B size n : Nat} {A : Option Addr} {xs : List Value} (a b : Nat) (h : Arr (w.drewN a) B size A n xs) : Arr (w.drewN b) B size A n xs := h
theorem cell0 {w : World} {g : Nat} {t : TypeId} {v : Value} (h : Blk w g t #[v]) : w.cell? ⟨g, 0, none⟩ = some v := h.cell 0
theorem Arr.drewN {w : World} {B size n : Nat} {A : Option Addr} {xs : List Value} (h : Arr w B size A n xs) (m : Nat) : Arr (w.drewN m) B size A n xs := h
set_option maxHeartbeats 4000000 in
set_option maxRecDepth 100000 in
theorem paths3_any (A B C : Option Addr) (p q r : Nat) (a b c : List FileD) (w : World) (h1 : a.length ≤ 256) (h2 : b.length ≤ 256) (h3 : c.length ≤ 256) (hp : a.length ≤ p) (hq : b.length ≤ q) (hr : c.length ≤ r)
    (hx : ∀ f ∈ (a ++ b) ++ c, FOk f) (hne : PNe a ∧ PNe b ∧ PNe c)
    (ha : Arr w w.heap.size 3 A a.length (fcells a)) (hb : Arr w w.heap.size 3 B b.length (fcells b)) (hc : Arr w w.heap.size 3 C c.length (fcells c)) :
    Calls Tryd.prog 41 #[.slice A a.length p, .slice B b.length q, .slice C c.length r] w (StrsOut w (uni3 a b c)) := by
  obtain ⟨i0, hi0, hz0, hz1, hz2⟩ := info_parts infoStr
  have HA := Lib.hid ha
  have HB := Lib.hid hb
  have HC := Lib.hid hc
  have HX := Lib.hid hx
  have HN := Lib.hid hne
  obtain ⟨R, hR⟩ : ∃ R, R = uni3 a b c := ⟨_, rfl⟩
  have HR : Hid ([] ++ p3Go (a.length + b.length + c.length) a b c = R) := Lib.hid (by rw [hR]; rfl)
  rw [← hR]
  clear ha hb hc hx hne hR
  go_enter Tryd.func41, Tryd.ntmps41
  go_wp2
  go_loopw [0, 1, 2, 7] (fun va vb vc vo wr => PRel w R va vb vc vo wr) (fun va vb vc _ _ => match va, vb, vc with | .slice _ n _, .slice _ m _, .slice _ k _ => n + m + k | _, _, _ => 0)
  case atStart => unfold PRel; exact ⟨a, b, c, A, B, C, p, q, r, [], rfl, rfl, rfl, hp, hq, hr, by simp; omega, HA, HB, HC, HX, HN, World.ownsRow_nil _ _ _ _, HR, Below.refl _ _⟩
  case round =>
    clear HA HB HC HX HN HR
    unfold PRel at hrel
    obtain ⟨a, b, c, A, B, C, p, q, r, out, rfl, rfl, rfl, hap, hbq, hcr, hlen, HA, HB, HC, HX, HN, hown, HK, hBw⟩ := hrel
    have hbse := hBw.size
    by_cases h0 : a.length + b.length + c.length = 0
    · have hH := HK.out
      rw [show p3Go (a.length + b.length + c.length) a b c = [] by rw [h0]; rfl, List.append_nil] at hH
      have g1 : ¬ (0 : Int) < (a.length : Int) + b.length + c.length := by omega
      subst hH
      obtain ⟨A', c', rfl, hcap, ha', hfr⟩ := own_arr hown
      have HA' := Lib.hid ha'
      clear HK ha' h0
      go_wp2
      go_ret
      unfold StrsOut
      exact ⟨A', c', rfl, HA'.out, hfr, hBw⟩
    · have g1 : (0 : Int) < (a.length : Int) + b.length + c.length := by omega
      obtain ⟨n1, n2, n3⟩ := HN.out
      have hlt := least_lt n1 n2 n3 h0
      have HST : Hid ((out ++ [least3 a b c]) ++ p3Go ((nxt (least3 a b c) a).length + (nxt (least3 a b c) b).length + (nxt (least3 a b c) c).length) (nxt (least3 a b c) a) (nxt (least3 a b c) b) (nxt (least3 a b c) c) = R) := Lib.hid (by
        have hH := HK.out
        obtain ⟨n, hn⟩ : ∃ n, a.length + b.length + c.length = n + 1 := ⟨a.length + b.length + c.length - 1, by omega⟩
        rw [hn, p3Go, if_neg h0] at hH
        rw [p3_fuel _ n _ _ _ (Nat.le_refl _) (by omega) (nxt_all n1) (nxt_all n2) (nxt_all n3)]
        simpa using hH)
      have HX2 : Hid (∀ f ∈ (nxt (least3 a b c) a ++ nxt (least3 a b c) b) ++ nxt (least3 a b c) c, FOk f) := Lib.hid (by
        intro f hf
        rcases List.mem_append.1 hf with hf | hf
        · rcases List.mem_append.1 hf with hf | hf
          · exact nxt_all (P := FOk) (fun g hg => HX.out g (by simp [hg])) f hf
          · exact nxt_all (P := FOk) (fun g hg => HX.out g (by simp [hg])) f hf
        · exact nxt_all (P := FOk) (fun g hg => HX.out g (by simp [hg])) f hf)
      have HN2 : Hid (PNe (nxt (least3 a b c) a) ∧ PNe (nxt (least3 a b c) b) ∧ PNe (nxt (least3 a b c) c)) := Lib.hid ⟨nxt_all n1, nxt_all n2, nxt_all n3⟩
      have HLE : Hid (lnth a b c 3 = least3 a b c) := Lib.hid rfl
      clear n1 n2 n3 HK HN h0
      generalize least3 a b c = m at *
      obtain ⟨w1, rfl⟩ : ∃ w1, w1 = wr := ⟨_, rfl⟩
      have hbox := Blk.new w1 9 #[.string ⟨#[]⟩]
      have hBx : Below w1.heap.size w1 (w1.alloc (.cells #[.string ⟨#[]⟩] 9)) := (Below.refl _ w1).alloc (Nat.le_refl _) _
      have HBX := Lib.hid hbox
      clear hbox
      go_wp2
      go_loopw [25] (fun v ws => IRel w1 a b c v ws) (fun v _ => 3 - (intOf v).toNat)
      case atStart => unfold IRel; exact ⟨0, by omega, rfl, HBX, hBx⟩
      case round =>
        clear HBX hBx
        unfold IRel at hrel
        obtain ⟨k, hk, rfl, HBX, hBX⟩ := hrel
        have hk0 : wr.cell? ⟨w1.heap.size, 0, none⟩ = some (.string (lnth a b c k)) := HBX.out.cell 0
        have hf0 := HBX.out.frozen 0
        have hsX := hBX.size
        by_cases hk3 : k < 3
        · obtain ⟨L, D, s, hix, hD, hLx, hLl, hLn⟩ := three_get (p := p) (q := q) (r := r) (HA.out.more hbse) (HB.out.more hbse) (HC.out.more hbse) HX.out hk3
          have hkl : (k : Int) < 3 := by omega
          have hL1000 : L.length ≤ 1000 := by omega
          have HLN := Lib.hid hLn
          have HD := Lib.hid hD
          have HLX := Lib.hid hLx
          clear hLn hD hLx hLl
          have hmk := lnth_ok HX.out k
          generalize lnth a b c k = mk at *
          cases L with
          | nil =>
            have HL2 := Lib.hid (show Blk wr w1.heap.size 9 #[.string (lnth a b c (k + 1))] by rw [HLN.out]; exact HBX.out)
            clear HLN HBX
            go_wp2
            go_quiet (fail)
            go_wp2
            go_roundw
            case rel => unfold IRel; exact ⟨k + 1, by omega, by go_num, HL2, below_drewN hBX _⟩
            case measure => simp [intOf] <;> omega
          | cons f L =>
            obtain ⟨b4, o4, rfl, hb4, hcell⟩ := HD.out.2 (by simp)
            obtain ⟨c0, c1, c2⟩ := file_cells (l := f :: L) (k := 0) (f := f) (fun i u h => (hBX.cell (p := ⟨b4, o4 + i, none⟩) hb4).trans (hcell i u h)) rfl
            rw [Nat.zero_mul, Nat.add_zero] at c0
            have hfx := HLX.out f (by simp)
            have HO' := Lib.hid (fun W => order_any f.path mk W hfx.1 hmk)
            have HO := Lib.hid (fun W => (HO'.out W).mono fun e w' ⟨he, m, hw⟩ => (⟨he, by rw [hw]; exact below_drewN (Below.refl _ _) m⟩ : e = Ending.returned (Value.int IntKind.i64 (ordL f.path.data.toList mk.data.toList)) ∧ Below W.heap.size W w'))
            have k1 : (0 : Int) < (f :: L).length := by simp
            have k2 : (0 : Int) < (L.length : Int) + 1 := by omega
            have k4 : 0 < L.length + 1 := by omega
            clear hcell c1 c2 HO'
            by_cases hE : mk = ⟨#[]⟩
            · subst hE
              rw [lstep_empty] at HLN
              go_wp2
              have c0' := cell_cls c0
              have h0' := cell_cls hk0
              refine wp_region_cls (by kernel_rfl) (by kernel_rfl) ?_
              repeat (go_big_quiet_step ((go_at_call 63; with_reducible exact cls_call (HO.out _))))
              refine wpQuiet_nil ?_
              intro _ hw'
              obtain ⟨⟨w9, hb9⟩, hw''⟩ := hw'
              subst hw''
              clear c0' h0'
              have hB9 := below_on hBX hb9
              have HB9 := Lib.hid (HBX.out.below hb9 HBX.out.lt)
              have d0 := (hb9.cell (p := ⟨b4, o4, none⟩) (by show b4 < _; omega)).trans c0
              have u0 := cell0 HB9.out
              have u1 := HB9.out.frozen 0
              have HL2 := Lib.hid (show Blk _ w1.heap.size 9 #[.string (lnth a b c (k + 1))] by rw [HLN.out]; exact HB9.out.set_ 0 (.string f.path))
              clear HLN HBX HB9
              go_wp2
              go_roundw
              case rel => unfold IRel; exact ⟨k + 1, by omega, by go_num, HL2, hB9.setCell (p := ⟨w1.heap.size, 0, none⟩) (Nat.le_refl _) _⟩
              case measure => simp [intOf] <;> omega
            · have g3 : (mk.toList == []) = false := by rw [beq_eq_false_iff_ne]; intro h; rw [ByteArray.toList_eq] at h; exact hE (ba_ext h)
              have g4 : mk.toList.isEmpty = false := by rw [Bool.eq_false_iff]; intro h; rw [List.isEmpty_iff, ByteArray.toList_eq] at h; exact hE (ba_ext h)
              have z1 := fun h => lstep_lt (f := f) (l := L) hE h
              have z2 := fun h => lstep_ge (f := f) (l := L) hE h
              clear hE
              generalize ordL f.path.data.toList mk.data.toList = S at *
              by_cases hS : S < 0
              · have HLN := Lib.hid (HLN.out.trans (z1 hS))
                clear z1 z2
                go_wp2
                have c0' := cell_cls c0
                have h0' := cell_cls hk0
                refine wp_region_cls (by kernel_rfl) (by kernel_rfl) ?_
                repeat (go_big_quiet_step ((go_at_call 63; with_reducible exact cls_call (HO.out _))))
                refine wpQuiet_nil ?_
                intro _ hw'
                obtain ⟨⟨w9, hb9⟩, hw''⟩ := hw'
                subst hw''
                clear c0' h0'
                have hB9 := below_on hBX hb9
                have HB9 := Lib.hid (HBX.out.below hb9 HBX.out.lt)
                have d0 := (hb9.cell (p := ⟨b4, o4, none⟩) (by show b4 < _; omega)).trans c0
                have u0 := cell0 HB9.out
                have u1 := HB9.out.frozen 0
                have HL2 := Lib.hid (show Blk _ w1.heap.size 9 #[.string (lnth a b c (k + 1))] by rw [HLN.out]; exact HB9.out.set_ 0 (.string f.path))
                clear HLN HBX HB9
                go_wp2
                go_roundw
                case rel => unfold IRel; exact ⟨k + 1, by omega, by go_num, HL2, hB9.setCell (p := ⟨w1.heap.size, 0, none⟩) (Nat.le_refl _) _⟩
                case measure => simp [intOf] <;> omega
              · have HLN := Lib.hid (HLN.out.trans (z2 hS))
                clear z1 z2
                go_wp2
                have c0' := cell_cls c0
                have h0' := cell_cls hk0
                refine wp_region_cls (by kernel_rfl) (by kernel_rfl) ?_
                repeat (go_big_quiet_step ((go_at_call 63; with_reducible exact cls_call (HO.out _))))
                refine wpQuiet_nil ?_
                intro _ hw'
                obtain ⟨⟨w9, hb9⟩, hw''⟩ := hw'
                subst hw''
                clear c0' h0'
                have hB9 := below_on hBX hb9
                have HB9 := Lib.hid (HBX.out.below hb9 HBX.out.lt)
                have d0 := (hb9.cell (p := ⟨b4, o4, none⟩) (by show b4 < _; omega)).trans c0
                have u0 := cell0 HB9.out
                have u1 := HB9.out.frozen 0
                have HL2 := Lib.hid (show Blk _ w1.heap.size 9 #[.string (lnth a b c (k + 1))] by rw [HLN.out]; exact HB9.out)
                clear HLN HBX HB9
                go_wp2
                go_roundw
                case rel => unfold IRel; exact ⟨k + 1, by omega, by go_num, HL2, hB9⟩
                case measure => simp [intOf] <;> omega
        · have hke : k = 3 := by omega
          subst hke
          have HBM := Lib.hid (show Blk wr w1.heap.size 9 #[.string m] by rw [← HLE.out]; exact HBX.out)
          rw [HLE.out] at hk0
          have hown3 := own_below hown hBX
          have hBww := hBw.trans (hBX.mono hbse)
          have hs3 := hBww.size
          clear HBX HLE
          go_wp2_with (first
            | (at_builtin; refine wpList_push rfl _ _ _ rfl Tryd.underlying43 hi0 hz0 hz1 hz2 rfl (by decide) hown3 rfl rfl rfl (str_one m) (by unfold maxLen; omega) (by omega) hs3 ?_; intro g6 cap6 w6 hown6 hgr6 hat6; have hB6 := hBww.grown hgr6 hs3 (fun j hj => (hown3.lt j hj).1); have hX6 := (hBX.mono hbse).grown hgr6 hs3 (fun j hj => (hown3.lt j hj).1); have hbm6 := Blk.grown HBM.out hgr6 (fun e => own_new_ne hown e.symm); have hs6 := hB6.size; have hq6 := Below.refl w6.heap.size w6; have HNA := Lib.hid (fun W (hh : Below w6.heap.size w6 W) => nxt_any A p a m w1.heap.size w.heap.size W (by omega) hap ((HA.out.below hX6).below (hh.mono hs6)) ((hbm6.below hh hbm6.lt).cell 0)); have HNB := Lib.hid (fun W (hh : Below w6.heap.size w6 W) => nxt_any B q b m w1.heap.size w.heap.size W (by omega) hbq ((HB.out.below hX6).below (hh.mono hs6)) ((hbm6.below hh hbm6.lt).cell 0)); have HNC := Lib.hid (fun W (hh : Below w6.heap.size w6 W) => nxt_any C r c m w1.heap.size w.heap.size W (by omega) hcr ((HC.out.below hX6).below (hh.mono hs6)) ((hbm6.below hh hbm6.lt).cell 0)); unfold NxtOut at HNA HNB HNC; clear hbm6 HBM)
            | (go_at_call 64; (with_reducible refine (HNA.out _ hq6).mono ?_); rintro e w7 ⟨A7, c7, rfl, hp7, ha7, k7, rfl⟩; have hq7 := below_drewN hq6 k7; have HA7 := Lib.hid ha7; clear ha7)
            | (go_at_call 64; (with_reducible refine (HNB.out _ hq7).mono ?_); rintro e w8 ⟨A8, c8, rfl, hp8, ha8, k8, rfl⟩; have hq8 := below_drewB hq6 (k7 + k8); have HA8 := Lib.hid ha8; clear ha8)
            | (go_at_call 64; (with_reducible refine (HNC.out _ hq8).mono ?_); rintro e w9 ⟨A9, c9, rfl, hp9, ha9, k9, rfl⟩; have hq9 := below_drewB hq6 (k7 + k8 + k9); have HA9 := Lib.hid ha9; clear ha9))
          have HA7 := Lib.hid (HA7.out.below (hq9.mono hs6))
          have HA8 := Lib.hid (Arr.same k7 (k7 + k8 + k9) HA8.out)
          have HA9 := Lib.hid (Arr.same (k7 + k8) (k7 + k8 + k9) HA9.out)
          have hB9 := hB6.trans (hq9.mono hs6)
          have hown9 := own_below hown6 hq9
          go_roundw
          case rel => unfold PRel; exact ⟨nxt m a, nxt m b, nxt m c, _, _, _, _, _, _, out ++ [m], rfl, rfl, rfl, hp7, hp8, hp9, by simp; omega, HA7, HA8, HA9, HX2, HN2, by rw [List.length_append, List.map_append]; exact hown9, HST, hB9⟩
          case measure => simp <;> omega
end Go.Proofs.YtlfennooocmclaaDoor
/- Chapter 10: the walks through image.at, image.like. -/
namespace Go.Proofs.YtlfennooocmclaaDoor
open Go.RowKit
set_option linter.unusedVariables false

def PtrF (w : World) (B : Nat) (v : Value) (o : Option FileD) : Prop := match o with
  | none => v = .pointer none
  | some f => ∃ b off, v = .pointer (some ⟨b, off, none⟩) ∧ b < B ∧ w.cell? ⟨b, off, none⟩ = some (.string f.path) ∧ w.cell? ⟨b, off + 1, none⟩ = some (.int .i64 f.mode) ∧ w.cell? ⟨b, off + 2, none⟩ = some (.string f.data)
theorem PtrF.below {w w' : World} {B C : Nat} {v : Value} {o : Option FileD} (h : PtrF w B v o) (hb : Below C w w') (hC : B ≤ C) : PtrF w' B v o := by
  unfold PtrF at h ⊢
  cases o with
  | none => exact h
  | some f =>
    obtain ⟨b, off, e, hlt, c0, c1, c2⟩ := h
    exact ⟨b, off, e, hlt, (hb.cell (p := ⟨b, off, none⟩) (by show b < _; omega)).trans c0, (hb.cell (p := ⟨b, off + 1, none⟩) (by show b < _; omega)).trans c1, (hb.cell (p := ⟨b, off + 2, none⟩) (by show b < _; omega)).trans c2⟩
def AtOut (p : ByteArray) (l : List FileD) (N : Nat) (w : World) (e : Ending) (w' : World) : Prop := ∃ v, e = .returned v ∧ PtrF w N v (lookF p l) ∧ Below w.heap.size w w'
set_option maxHeartbeats 1000000 in
set_option maxRecDepth 100000 in
theorem at_any (A : Option Addr) (c N : Nat) (l : List FileD) (p : ByteArray) (w : World) (hl : l.length ≤ 1000) (hx : ∀ f ∈ l, FOk f) (hpw : l.Pairwise FR) (hp : p.size ≤ 9223372036854775807) (ha : Arr w N 3 A l.length (fcells l)) (hN : N ≤ w.heap.size) :
    Calls Tryd.prog 42 #[.slice A l.length c, .string p] w (AtOut p l N w) := by
  have HF := find_any A c l p w hl hx hpw hp (ha.more hN)
  cases hk : lookF p l with
  | none =>
    rw [placeF_none hk] at HF
    have HF := Lib.hid HF
    have HK := Lib.hid hk
    clear ha hk
    go_enter Tryd.func42, Tryd.ntmps42
    go_wp2_with (go_at_call 47; (with_reducible refine HF.out.mono ?_); rintro e w1 ⟨rfl, hb1⟩)
    go_ret
    unfold AtOut
    rw [HK.out]
    exact ⟨_, rfl, rfl, hb1⟩
  | some f =>
    obtain ⟨i, hi, hf⟩ := placeF_some (k := 0) hk
    rw [Nat.zero_add] at hi
    rw [hi] at HF
    have hil : i < l.length := (List.getElem?_eq_some_iff.1 hf).1
    have il : (i : Int) < l.length := by omega
    have i0 : 0 ≤ (i : Int) := by omega
    obtain ⟨b, o, rfl, hb, hcell⟩ := ha.2 (by omega)
    have HCC := Lib.hid (file_cells hcell hf)
    have HF := Lib.hid HF
    have HK := Lib.hid hk
    clear ha hk hi hf hcell
    go_enter Tryd.func42, Tryd.ntmps42
    go_wp2_with (go_at_call 47; (with_reducible refine HF.out.mono ?_); rintro e w1 ⟨rfl, hb1⟩)
    go_ret
    unfold AtOut
    rw [HK.out]
    obtain ⟨c0, c1, c2⟩ := HCC.out
    exact ⟨_, rfl, ⟨b, _, rfl, hb, c0, c1, c2⟩, hb1⟩
def LikeOut (oa ob : Option FileD) (w : World) (e : Ending) (w' : World) : Prop := e = .returned (.bool (likeO oa ob)) ∧ Below w.heap.size w w'
theorem like_same (f : FileD) : likeO (some f) (some f) = true := (likeO_iff _ _).2 rfl
theorem like_not {f g : FileD} (h : f ≠ g) : likeO (some f) (some g) = false := by
  rw [Bool.eq_false_iff]
  intro hh
  have := (likeO_iff _ _).1 hh
  injection this with this
  exact h this
set_option maxHeartbeats 2000000 in
set_option maxRecDepth 100000 in
theorem like_any (N M : Nat) (va vb : Value) (oa ob : Option FileD) (w : World) (ha : PtrF w N va oa) (hb : PtrF w M vb ob) (hp : ∀ f g, oa = some f → ob = some g → f.path = g.path) :
    Calls Tryd.prog 43 #[va, vb] w (LikeOut oa ob w) := by
  unfold LikeOut
  cases oa with
  | none =>
    cases ob with
    | none =>
      obtain rfl : va = .pointer none := ha
      obtain rfl : vb = .pointer none := hb
      rw [show likeO none none = true from rfl]
      go_enter Tryd.func43, Tryd.ntmps43
      go_wp2
      go_ret
      exact ⟨rfl, Below.refl _ _⟩
    | some g =>
      obtain rfl : va = .pointer none := ha
      obtain ⟨b2, o2, rfl, _, d0, d1, d2⟩ := hb
      rw [show likeO none (some g) = false from rfl]
      go_enter Tryd.func43, Tryd.ntmps43
      go_wp2
      go_ret
      exact ⟨rfl, Below.refl _ _⟩
  | some f =>
    cases ob with
    | none =>
      obtain rfl : vb = .pointer none := hb
      obtain ⟨b1, o1, rfl, _, c0, c1, c2⟩ := ha
      rw [show likeO (some f) none = false from rfl]
      go_enter Tryd.func43, Tryd.ntmps43
      go_wp2
      go_ret
      exact ⟨rfl, Below.refl _ _⟩
    | some g =>
      obtain ⟨b1, o1, rfl, _, c0, c1, c2⟩ := ha
      obtain ⟨b2, o2, rfl, _, d0, d1, d2⟩ := hb
      have hpp := hp f g rfl rfl
      clear hp
      by_cases hfg : f = g
      · subst hfg
        rw [like_same]
        go_enter Tryd.func43, Tryd.ntmps43
        go_wp2
        go_quiet (fail)
        go_wp2
        go_ret
        exact ⟨rfl, below_drewN (Below.refl _ _) _⟩
      · rw [like_not hfg]
        rw [← hpp] at d0
        by_cases hm : f.mode = g.mode
        · have hd : f.data ≠ g.data := by
            intro hd
            obtain ⟨p1, m1, x1⟩ := f
            obtain ⟨p2, m2, x2⟩ := g
            simp only at hpp hm hd
            exact hfg (by rw [hpp, hm, hd])
          have g1 := str_ne hd
          rw [← hm] at d1
          clear hm hd hfg hpp
          go_enter Tryd.func43, Tryd.ntmps43
          go_wp2
          go_quiet (fail)
          go_wp2
          go_ret
          exact ⟨rfl, below_drewN (Below.refl _ _) _⟩
        · have g2 : (f.mode == g.mode) = false := by rw [beq_eq_false_iff_ne]; exact hm
          clear hm hfg hpp
          go_enter Tryd.func43, Tryd.ntmps43
          go_wp2
          go_quiet (fail)
          go_wp2
          go_ret
          exact ⟨rfl, below_drewN (Below.refl _ _) _⟩
set_option maxHeartbeats 2000000 in
set_option maxRecDepth 100000 in
theorem like_ref (A B : Option Addr) (c d : Nat) (a b : List FileD) (p : ByteArray) (w : World) (hl : a.length ≤ 1000) (hl2 : b.length ≤ 1000) (ha : Arr w w.heap.size 3 A a.length (fcells a)) (hb : Arr w w.heap.size 3 B b.length (fcells b)) :
    Calls Tryd.prog 46 #[.slice A a.length c, .slice B b.length d, .string p] w (LikeOut (lookF p a) (lookF p b) w) := by
  have F1 := find_ref A c a p w (by omega) ha
  have F2 := fun W (hh : Below w.heap.size w W) => find_ref B d b p W (by omega) ((hb.below hh).more hh.size)
  have HA := Lib.hid ha
  have HB := Lib.hid hb
  clear ha hb
  unfold LikeOut
  cases hka : lookF p a with
  | none =>
    rw [placeF_none hka] at F1
    have F1 := Lib.hid F1
    cases hkb : lookF p b with
    | none =>
      rw [placeF_none hkb] at F2
      have F2 := Lib.hid F2
      rw [show likeO none none = true from rfl]
      clear hka hkb
      go_enter Tryd.func46, Tryd.ntmps46
      go_wp2_with (first
        | (go_at_call 44; (with_reducible refine F1.out.mono ?_); rintro e w1 ⟨rfl, hb1⟩)
        | (go_at_call 44; (with_reducible refine (F2.out _ hb1).mono ?_); rintro e w2 ⟨rfl, hb2⟩))
      go_ret
      exact ⟨rfl, below_on hb1 hb2⟩
    | some g =>
      obtain ⟨j, hj, hg⟩ := placeF_some (k := 0) hkb
      rw [hj] at F2
      rw [Nat.zero_add] at F2
      have F2 := Lib.hid F2
      rw [show likeO none (some g) = false from rfl]
      have j0 : ¬ (j : Int) < 0 := by omega
      clear hka hkb hj hg
      go_enter Tryd.func46, Tryd.ntmps46
      go_wp2_with (first
        | (go_at_call 44; (with_reducible refine F1.out.mono ?_); rintro e w1 ⟨rfl, hb1⟩)
        | (go_at_call 44; (with_reducible refine (F2.out _ hb1).mono ?_); rintro e w2 ⟨rfl, hb2⟩))
      go_ret
      exact ⟨rfl, below_on hb1 hb2⟩
  | some f =>
    obtain ⟨i, hi, hf⟩ := placeF_some (k := 0) hka
    rw [hi] at F1
    rw [Nat.zero_add] at F1
    have F1 := Lib.hid F1
    have i0 : ¬ (i : Int) < 0 := by omega
    have hil : i < a.length := (List.getElem?_eq_some_iff.1 hf).1
    have il : (i : Int) < a.length := by omega
    have hpf := (lookF_some hka).2
    cases hkb : lookF p b with
    | none =>
      rw [placeF_none hkb] at F2
      have F2 := Lib.hid F2
      rw [show likeO (some f) none = false from rfl]
      clear hka hkb hi hf hpf
      go_enter Tryd.func46, Tryd.ntmps46
      go_wp2_with (first
        | (go_at_call 44; (with_reducible refine F1.out.mono ?_); rintro e w1 ⟨rfl, hb1⟩)
        | (go_at_call 44; (with_reducible refine (F2.out _ hb1).mono ?_); rintro e w2 ⟨rfl, hb2⟩))
      go_ret
      exact ⟨rfl, below_on hb1 hb2⟩
    | some g =>
      obtain ⟨j, hj, hg⟩ := placeF_some (k := 0) hkb
      rw [hj] at F2
      rw [Nat.zero_add] at F2
      have F2 := Lib.hid F2
      have j0 : ¬ (j : Int) < 0 := by omega
      have hjl : j < b.length := (List.getElem?_eq_some_iff.1 hg).1
      have jl : (j : Int) < b.length := by omega
      have hpg := (lookF_some hkb).2
      have hpp : f.path = g.path := by rw [hpf, hpg]
      obtain ⟨b1, o1, rfl, hb1', hc1⟩ := HA.out.2 (by omega)
      obtain ⟨b2, o2, rfl, hb2', hc2⟩ := HB.out.2 (by omega)
      have CA := Lib.hid (fun W (hh : Below w.heap.size w W) => file_cells (fun i u h => (hh.cell (p := ⟨b1, o1 + i, none⟩) hb1').trans (hc1 i u h)) hf)
      have CB := Lib.hid (fun W (hh : Below w.heap.size w W) => file_cells (fun i u h => (hh.cell (p := ⟨b2, o2 + i, none⟩) hb2').trans (hc2 i u h)) hg)
      clear hka hkb hi hj hf hg hpf hpg hc1 hc2
      by_cases hfg : f = g
      · subst hfg
        rw [like_same]
        clear hpp
        go_enter Tryd.func46, Tryd.ntmps46
        go_wp2_with (first
          | (go_at_call 44; (with_reducible refine F1.out.mono ?_); rintro e w1 ⟨rfl, hb1⟩)
          | (go_at_call 44; (with_reducible refine (F2.out _ hb1).mono ?_); rintro e w2 ⟨rfl, hb2⟩; have hB2 := below_on hb1 hb2; obtain ⟨c0, c1, c2⟩ := CA.out _ hB2; obtain ⟨d0, d1, d2⟩ := CB.out _ hB2))
        go_quiet (fail)
        go_wp2
        go_ret
        exact ⟨rfl, below_drewN hB2 _⟩
      · rw [like_not hfg]
        rw [← hpp] at CB
        by_cases hm : f.mode = g.mode
        · have hd : f.data ≠ g.data := by
            intro hd
            obtain ⟨p1, m1, x1⟩ := f
            obtain ⟨p2, m2, x2⟩ := g
            simp only at hpp hm hd
            exact hfg (by rw [hpp, hm, hd])
          have g1 := str_ne hd
          rw [← hm] at CB
          clear hm hd hfg hpp
          go_enter Tryd.func46, Tryd.ntmps46
          go_wp2_with (first
            | (go_at_call 44; (with_reducible refine F1.out.mono ?_); rintro e w1 ⟨rfl, hb1⟩)
            | (go_at_call 44; (with_reducible refine (F2.out _ hb1).mono ?_); rintro e w2 ⟨rfl, hb2⟩; have hB2 := below_on hb1 hb2; obtain ⟨c0, c1, c2⟩ := CA.out _ hB2; obtain ⟨d0, d1, d2⟩ := CB.out _ hB2))
          go_quiet (fail)
          go_wp2
          go_ret
          exact ⟨rfl, below_drewN hB2 _⟩
        · have g2 : (f.mode == g.mode) = false := by rw [beq_eq_false_iff_ne]; exact hm
          clear hm hfg hpp
          go_enter Tryd.func46, Tryd.ntmps46
          go_wp2_with (first
            | (go_at_call 44; (with_reducible refine F1.out.mono ?_); rintro e w1 ⟨rfl, hb1⟩)
            | (go_at_call 44; (with_reducible refine (F2.out _ hb1).mono ?_); rintro e w2 ⟨rfl, hb2⟩; have hB2 := below_on hb1 hb2; obtain ⟨c0, c1, c2⟩ := CA.out _ hB2; obtain ⟨d0, d1, d2⟩ := CB.out _ hB2))
          go_quiet (fail)
          go_wp2
          go_ret
          exact ⟨rfl, below_drewN hB2 _⟩
end Go.Proofs.YtlfennooocmclaaDoor
