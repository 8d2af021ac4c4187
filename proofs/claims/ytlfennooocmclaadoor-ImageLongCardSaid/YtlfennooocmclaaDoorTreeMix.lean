/- The walks through the reference's inName.; The walks through the reference's Pattern.; The walk through the reference's Match.; The walk through TreeChecks.; append of whatever slice came in, nil included, onto a row of the call's own; elements of whatever number of cells.; The walks through fits, one, few, Files.; The walk through Filter.; The walk through the reference's Filter.; The walk through TreeFilters.; Manifests: what is wrong with one (Right), the walks through the program's and the reference's.; A manifest's bytes, plain; the walks through shared, the reference's shared, the closure that writes a number, the reference's Bytes of a number and Text.; The walk through Bytes.; The walk through the reference's Bytes; the law TreeBytes.; Plain laws of a reader's lists: no program in sight.; The manifest that bytes are, as plain data: no program in sight.; The walks through the reference's place and Sort.; The walk through the reference's Sort.; What became of paths, as plain data: the merge that the program walks. No program in sight.; The plain law of Between: the reference's gathering, sorting and looking is the merge. No program in sight. -/
import Derived.Test.YtlfennooocmclaaDoorTreeRef3
import Derived.Test.YtlfennooocmclaaDoorCls
import Derived.Test.YtlfennooocmclaaDoorLiftFiles
import Derived.Test.YtlfennooocmclaaDoorFrame
import Derived.Maps.AppendAt
import Derived.Test.YtlfennooocmclaaDoorBuilder
import Derived.Test.YtlfennooocmclaaDoorRdMore
import Derived.Test.YtlfennooocmclaaDoorListPlain
/- The walks through the reference's inName. -/
namespace Go.Proofs.YtlfennooocmclaaDoor
open Go.RowKit
set_option linter.unusedVariables false

section
variable {w : World} {g : Nat} {t : TypeId} {n m : Nat} {F : Nat → Bool} {v : Bool}
/-- A row that is filled from behind. -/
theorem Blk.dput (h : Blk w g t (brow n (fun i => if m + 1 ≤ i then F i else false))) (hv : F m = v) : Blk (w.setCell ⟨g, m, none⟩ (.bool v)) g t (brow n (fun i => if m ≤ i then F i else false)) := by
  have h2 := h.set_ m (.bool v)
  rw [brow_set] at h2
  rwa [brow_congr (g := fun i => if m ≤ i then F i else false)] at h2
  intro i _
  by_cases e : i = m
  · subst e; simp [hv]
  · by_cases h3 : m + 1 ≤ i
    · rw [if_neg e, if_pos h3, if_pos (by omega)]
    · rw [if_neg e, if_neg h3, if_neg (by omega)]
theorem Blk.dget (h : Blk w g t (brow n (fun i => if m ≤ i then F i else false))) {i : Nat} (hi : i < n) (hm : m ≤ i) : w.cell? ⟨g, i, none⟩ = some (.bool (F i)) := by
  rw [h.cell i, brow_get _ hi, if_pos hm]
theorem Blk.dgone (h : Blk w g t (brow n (fun i => if m + 1 ≤ i then F i else false))) (hm : m < n) : w.cell? ⟨g, m, none⟩ = some (.bool false) := by
  rw [h.cell m, brow_get _ hm, if_neg (by omega)]
end
theorem flat_one {W i k : Nat} (T : Nat → Nat → Bool) (hk : k < W) : (fun j => T (j / W) (j % W)) (i * W + k) = T i k := by
  show T ((i * W + k) / W) ((i * W + k) % W) = _
  rw [Nat.mul_comm, Nat.mul_add_div (by omega), Nat.mul_add_mod, Nat.div_eq_of_lt hk, Nat.mod_eq_of_lt hk, Nat.add_zero]
/-- Cell (i, k) of the table. -/
def inBack (p s : List UInt8) (i k : Nat) : Bool := fitB nameStar nameOne (p.drop i) (s.drop k)
section
variable {p s : List UInt8} {i k : Nat}
theorem inBack_end (hi : i = p.length) (hk : k ≤ s.length) : inBack p s i k = decide (k = s.length) := by rw [hi]; exact back_end _ _ hk
theorem inBack_star (hi : i < p.length) (hk : k < s.length) (hc : bt p i = 42) : inBack p s i k = (inBack p s (i + 1) k || inBack p s i (k + 1)) := back_star _ _ (bt_some hi) (by rw [hc]; rfl) (bt_some hk)
theorem inBack_star_end (hi : i < p.length) (hk : k = s.length) (hc : bt p i = 42) : inBack p s i k = inBack p s (i + 1) k := by rw [hk]; exact back_star_end _ _ (bt_some hi) (by rw [hc]; rfl)
theorem inBack_one (hi : i < p.length) (hk : k < s.length) (hc : bt p i ≠ 42) : inBack p s i k = (nameOne (bt p i) (bt s k) && inBack p s (i + 1) (k + 1)) := back_one _ _ (bt_some hi) (notStar hc) (bt_some hk)
theorem inBack_one_end (hi : i < p.length) (hk : k = s.length) (hc : bt p i ≠ 42) : inBack p s i k = false := by rw [hk]; exact back_one_end _ _ (bt_some hi) (notStar hc)
end
/-- The table, laid flat. -/
def inFlat (p s : List UInt8) (W j : Nat) : Bool := inBack p s (j / W) (j % W)
theorem inFlat_at (p s : List UInt8) {W i k : Nat} (hk : k < W) : inFlat p s W (i * W + k) = inBack p s i k := flat_one (inBack p s) hk
theorem nat_facts (P W i : Nat) (hP : P ≤ 200) (hW : W ≤ 201) (hi : i ≤ P) : ∃ R0 R1 N : Nat, R0 = i * W ∧ R1 = (i + 1) * W ∧ R1 = R0 + W ∧ N = (P + 1) * W ∧ R1 ≤ N ∧ N ≤ 40401 ∧ (i < P → R1 + W ≤ N) := by
  refine ⟨_, _, _, rfl, rfl, by rw [Nat.add_mul, Nat.one_mul], rfl, Nat.mul_le_mul_right _ (by omega), by have := Nat.mul_le_mul (show P + 1 ≤ 201 by omega) hW; omega, fun h => ?_⟩
  have : (i + 2) * W ≤ (P + 1) * W := Nat.mul_le_mul_right _ (by omega)
  have e : (i + 2) * W = (i + 1) * W + W := by rw [Nat.add_mul, Nat.add_mul]; omega
  omega

theorem nat_facts' (P W i : Nat) (hP : P ≤ 201) (hW : W ≤ 202) (hi : i ≤ P) : ∃ R0 R1 N : Nat, R0 = i * W ∧ R1 = (i + 1) * W ∧ R1 = R0 + W ∧ N = (P + 1) * W ∧ R1 ≤ N ∧ N ≤ 40804 ∧ (i < P → R1 + W ≤ N) := by
  refine ⟨_, _, _, rfl, rfl, by rw [Nat.add_mul, Nat.one_mul], rfl, Nat.mul_le_mul_right _ (by omega), by have := Nat.mul_le_mul (show P + 1 ≤ 202 by omega) hW; omega, fun h => ?_⟩
  have : (i + 2) * W ≤ (P + 1) * W := Nat.mul_le_mul_right _ (by omega)
  have e : (i + 2) * W = (i + 1) * W + W := by rw [Nat.add_mul, Nat.add_mul]; omega
  omega

theorem flat_wraps {i k R1 N : Nat} (h1 : R1 + k + 1 < N) (h2 : N ≤ 40804) (h3 : i ≤ 1000) : IntKind.i64.wrap ((i : Int) + 1) = (i : Int) + 1 ∧ IntKind.i64.wrap (R1 : Int) = R1 ∧ IntKind.i64.wrap ((R1 : Int) + k) = (R1 : Int) + k ∧ IntKind.i64.wrap ((R1 : Int) + k + 1) = (R1 : Int) + k + 1 ∧
    (R1 : Int) + k + 1 < N ∧ 0 ≤ (R1 : Int) + k + 1 ∧ ((R1 : Int) + k + 1).toNat = R1 + k + 1 :=
  ⟨IntWalk.i64_in _ (by omega), IntWalk.i64_in _ (by omega), IntWalk.i64_in _ (by omega), IntWalk.i64_in _ (by omega), by omega, by omega, by omega⟩

end Go.Proofs.YtlfennooocmclaaDoor
/- The walks through the reference's Pattern. -/
namespace Go.Proofs.YtlfennooocmclaaDoor
open Go.RowKit
set_option linter.unusedVariables false

/-- A text's bytes, turned and read as a text again: what the walk wants of it, at one world. -/
theorem plain_facts (x : ByteArray) (w : World) : ∃ (W1 : World) (C : Nat) (y : ByteArray) (L : List UInt8), (convert 9 31 (.string x)).run Tryd.prog w = .ok (.slice (some ⟨w.heap.size, 0, none⟩) x.size C) W1 ∧
    Row L w.heap.size 0 W1 ∧ Below w.heap.size w W1 ∧ x.size = L.length ∧ y.data.toList = plainL L ∧ L = x.data.toList ∧ y.size = x.size ∧
    ∀ W, Row L w.heap.size L.length W → (convert 31 9 (.slice (some ⟨w.heap.size, 0, none⟩) x.size C)).run Tryd.prog W = .ok (.string y) W := by
  obtain ⟨W1, C, hcv, hrow, hB⟩ := conv_bytes x w
  refine ⟨W1, C, ⟨(plainL x.data.toList).toArray⟩, x.data.toList, hcv, hrow, hB, bt_size x, rfl, rfl, ?_, fun W h => ?_⟩
  · rw [bt_size, bt_size]; unfold plainL; simp
  · have := conv_back x.data.toList w.heap.size C W h
    rwa [← bt_size] at this

end Go.Proofs.YtlfennooocmclaaDoor
/- The walk through the reference's Match. -/
namespace Go.Proofs.YtlfennooocmclaaDoor
open Go.RowKit
set_option linter.unusedVariables false

/-- Cell (i, k) of the table. -/
def mtBack (p s : List ByteArray) (i k : Nat) : Bool := fitB (fun a : ByteArray => pathStar a.data.toList) (fun a b : ByteArray => inNameB a.data.toList b.data.toList) (p.drop i) (s.drop k)
section
variable {p s : List ByteArray} {i k : Nat} {x y : ByteArray}
theorem mtBack_end (hi : i = p.length) (hk : k ≤ s.length) : mtBack p s i k = decide (k = s.length) := by rw [hi]; exact back_end _ _ hk
theorem mtBack_star (hi : p[i]? = some ⟨#[42, 42]⟩) (hk : s[k]? = some y) : mtBack p s i k = (mtBack p s (i + 1) k || mtBack p s i (k + 1)) := back_star _ _ hi star2 hk
theorem mtBack_star_end (hi : p[i]? = some ⟨#[42, 42]⟩) (hk : k = s.length) : mtBack p s i k = mtBack p s (i + 1) k := by rw [hk]; exact back_star_end _ _ hi star2
theorem mtBack_one (hi : p[i]? = some x) (hc : x ≠ ⟨#[42, 42]⟩) (hk : s[k]? = some y) : mtBack p s i k = (inNameB x.data.toList y.data.toList && mtBack p s (i + 1) (k + 1)) := back_one _ _ hi (notStar2 hc) hk
theorem mtBack_one_end (hi : p[i]? = some x) (hc : x ≠ ⟨#[42, 42]⟩) (hk : k = s.length) : mtBack p s i k = false := by rw [hk]; exact back_one_end _ _ hi (notStar2 hc)
end
def mtFlat (p s : List ByteArray) (W j : Nat) : Bool := mtBack p s (j / W) (j % W)
theorem mtFlat_at (p s : List ByteArray) {W i k : Nat} (hk : k < W) : mtFlat p s W (i * W + k) = mtBack p s i k := flat_one (mtBack p s) hk
theorem mtBack_all (p s : ByteArray) : mtBack (pieces p) (pieces s) 0 0 = matchL p.data.toList s.data.toList := by
  unfold mtBack matchL
  rw [List.drop_zero, List.drop_zero, ← pieces_list, ← pieces_list, fitB_map]
theorem pieces_pos (s : ByteArray) : 0 < (pieces s).length := by
  have := splitL_ne s.data.toList
  rw [← pieces_list] at this
  rcases Nat.eq_zero_or_pos (pieces s).length with h | h
  · rw [List.eq_nil_of_length_eq_zero h] at this; exact absurd rfl this
  · exact h

end Go.Proofs.YtlfennooocmclaaDoor
/- The walk through TreeChecks. -/
namespace Go.Proofs.YtlfennooocmclaaDoor
open Go.RowKit
set_option linter.unusedVariables false

theorem checks_args (A : Option Addr) (c : Nat) (l : List FileD) (hx : ∀ f ∈ l, FFit f) (hz : l.length ≤ 8796093022208) :
    ∃ E : Int, (∀ W, Ml W → Arr W W.heap.size 3 A l.length (fcells l) → Calls Tryd.prog 27 #[.slice A l.length c] W fun e w' => e = .returned (.int .i64 E) ∧ Below W.heap.size W w') ∧
      (∀ W, Arr W W.heap.size 3 A l.length (fcells l) → Calls Tryd.prog 33 #[.slice A l.length c] W fun e w' => e = .returned (.int .i64 E) ∧ Below W.heap.size W w') :=
  ⟨checkE l, fun W hm ha => check_any A c l W hz (fun f hf => (hx f hf).1) ha hm, fun W ha => check_ref A c l W hz (fun f hf => (hx f hf).1) ha⟩
theorem Arr.on {w w' : World} {size n : Nat} {A : Option Addr} {xs : List Value} (h : Arr w w.heap.size size A n xs) (hb : Below w.heap.size w w') : Arr w' w'.heap.size size A n xs := (h.below hb).more hb.size

end Go.Proofs.YtlfennooocmclaaDoor
/- append of whatever slice came in, nil included, onto a row of the call's own; elements of whatever number of cells. -/
set_option linter.unusedVariables false
namespace Go.Proofs.YtlfennooocmclaaDoor
open Go.RowKit
section
variable {P : Program} (w : World)
theorem run_append_nilsrc (base : Nat) (t ty e : TypeId) (i : TypeInfo) (size : Nat) (ht : P.underlying t = some (.slice e)) (hi : P.info? e = some i)
    (v : Value) (n : Nat) (xs : List Value) (hown : w.ownsRow base e size v n xs) (c : Nat) : (Builtin.append_ #[t, t] ty #[v, .slice none 0 c]).run P w = .ok v w := by
  rcases hown.2 with ⟨rfl, rfl⟩ | ⟨g, cap, cur, rfl, _, _, hnc, _⟩
  · simp [Builtin.append_, run_underlying ht, sizeOf, typeInfo, hi, Builtin.lenOf, Builtin.firstCells]
  · simp [Builtin.append_, run_underlying ht, sizeOf, typeInfo, hi, Builtin.lenOf, Builtin.firstCells, hnc, storeCells]
theorem run_append_arr (base : Nat) (t ty e : TypeId) (i : TypeInfo) (z : Value) (size bytes : Nat) (ht : P.underlying t = some (.slice e)) (hi : P.info? e = some i) (hz : i.zero = some z)
    (hsize : i.size = size) (hby : i.bytes = bytes) (hzs : z.cells.size = size) (hsz : 0 < size)
    (v : Value) (n : Nat) (xs : List Value) (hown : w.ownsRow base e size v n xs)
    (B : Nat) (A : Option Addr) (m c : Nat) (news : List Value) (hr : Arr w B size A m news) (h1 : ∀ u ∈ news, u.oneCell' = true)
    (h63 : n + m ≤ maxLen) (hbytes : (n + m) * bytes ≤ 140737488355328) (hbase : base ≤ w.heap.size) :
    ∃ v' w', (Builtin.append_ #[t, t] ty #[v, .slice A m c]).run P w = .ok v' w' ∧ w'.ownsRow base e size v' (n + m) (xs ++ news) ∧ w.grownBy w' v.ownBlock ∧
      (v'.ownBlock = v.ownBlock ∨ v'.ownBlock = some w.heap.size) := by
  rcases A with _ | ad
  · have hm : m = 0 := by
      rcases Nat.eq_zero_or_pos m with h0 | h0
      · exact h0
      · obtain ⟨b, o, h, _⟩ := hr.2 h0
        cases h
    subst hm
    have hn : news = [] := List.eq_nil_of_length_eq_zero (by simpa using hr.1)
    subst hn
    exact ⟨v, w, run_append_nilsrc w base t ty e i size ht hi v n xs hown c, by simpa using hown, World.grownBy.refl w _, .inl rfl⟩
  · have hcells : ∀ j u, news[j]? = some u → w.cell? (ad.add j) = some u := by
      intro j u hu
      rcases Nat.eq_zero_or_pos m with h0 | h0
      · subst h0
        have hn : news = [] := List.eq_nil_of_length_eq_zero (by simpa using hr.1)
        subst hn
        simp at hu
      · obtain ⟨b, o, h, _, hc⟩ := hr.2 h0
        injection h with h
        subst h
        have hadd : (⟨b, o, none⟩ : Addr).add j = ⟨b, o + j, none⟩ := by unfold Addr.add; split <;> simp_all
        rw [hadd]
        exact hc j u hu
    obtain ⟨v', w', hrun, h2, h3, _, h5⟩ := run_append_own_at (P := P) w base t ty e i z size bytes ht hi hz hsize hby hzs hsz v n xs hown ad m c news hr.1 hcells h1 h63 hbytes hbase
    exact ⟨v', w', hrun, h2, h3, h5⟩
theorem wpList_append_arr {ops : Array Oper} {rest : List Oper} {o : Oper} {a : Act} {Q : Exit → Act → World → Prop} (hgd : o.guard = none) (s x : Operand) (t : TypeId)
    (ho : o.op = .call { callee := .builtin .append, args := #[s, x], argTypes := #[t, t] })
    {base : Nat} {e : TypeId} {i : TypeInfo} {z : Value} {size bytes : Nat} (ht : P.underlying t = some (.slice e)) (hi : P.info? e = some i) (hz : i.zero = some z)
    (hsize : i.size = size) (hby : i.bytes = bytes) (hzs : z.cells.size = size) (hsz : 0 < size)
    {v : Value} {n : Nat} {xs : List Value} (hown : w.ownsRow base e size v n xs) (hs : a.eval s = v)
    {B : Nat} {A : Option Addr} {m c : Nat} {news : List Value} (hx : a.eval x = .slice A m c) (hr : Arr w B size A m news) (h1 : ∀ u ∈ news, u.oneCell' = true)
    (h63 : n + m ≤ maxLen) (hbytes : (n + m) * bytes ≤ 140737488355328) (hbase : base ≤ w.heap.size)
    (h : ∀ v' w', w'.ownsRow base e size v' (n + m) (xs ++ news) → w.grownBy w' v.ownBlock → (v'.ownBlock = v.ownBlock ∨ v'.ownBlock = some w.heap.size) → wpList P ops Q rest (a.put o.dst v') w') : wpList P ops Q (o :: rest) a w := by
  obtain ⟨v', w', hrun, h2, h3, h4⟩ := run_append_arr (P := P) w base t o.type e i z size bytes ht hi hz hsize hby hzs hsz v n xs hown B A m c news hr h1 h63 hbytes hbase
  refine wpList_plain hgd fun K hK => ?_
  unfold Oper.wp execOp
  simp only [ho, resolve, invoke, builtin, Sem.run_bind, Sem.run_pure, Result.andThen_ok, List.map_toArray, List.map_cons, List.map_nil, hs, hx, hrun]
  exact hK _ _ (h v' w' h2 h3 h4)
end
theorem own_below {w w' : World} {base : Nat} {e : TypeId} {size n : Nat} {v : Value} {xs : List Value} (h : w.ownsRow base e size v n xs) (hb : Below w.heap.size w w') : w'.ownsRow base e size v n xs := (Fr.of_below hb (fun _ => False)).own h (fun _ _ hf => hf)
theorem Arr.alloc {w : World} {B size n : Nat} {A : Option Addr} {xs : List Value} (h : Arr w B size A n xs) (hB : B ≤ w.heap.size) (o : Obj) : Arr (w.alloc o) B size A n xs := h.below ((Below.refl _ _).alloc hB o)
theorem own_empty (w : World) (e : TypeId) (size : Nat) (base : Nat) (hb : base ≤ w.heap.size) : (w.alloc (.cells #[] e)).ownsRow base e size (.slice (some ⟨w.heap.size, 0, none⟩) 0 0) 0 [] := own_mono (World.ownsRow_lit w #[] 0 (Nat.le_refl _) (by simp [maxLen]) (by simp)) hb
end Go.Proofs.YtlfennooocmclaaDoor
/- The walks through fits, one, few, Files. -/
namespace Go.Proofs.YtlfennooocmclaaDoor
open Go.RowKit
set_option linter.unusedVariables false

/-- Does a path fit one of some patterns? -/
def oneB (l : List ByteArray) (s : ByteArray) : Bool := l.any fun p => matchB p.data.toList s.data.toList
section
variable {l : List ByteArray} {s x : ByteArray} {k : Nat} {R : Bool}
theorem oneB_step (hx : l[k]? = some x) (h : matchB x.data.toList s.data.toList = false) : oneB (l.drop k) s = oneB (l.drop (k + 1)) s := by
  unfold oneB
  rw [drop_head hx, List.any_cons, h, Bool.false_or]
theorem oneB_stop (hx : l[k]? = some x) (h : matchB x.data.toList s.data.toList = true) : oneB (l.drop k) s = true := by
  unfold oneB
  rw [drop_head hx, List.any_cons, h, Bool.true_or]
theorem oneB_end (h : l.length ≤ k) : oneB (l.drop k) s = false := by rw [List.drop_eq_nil_of_le h]; rfl
end

/-! ### few, Files -/
set_option maxHeartbeats 1000000 in
set_option maxRecDepth 100000 in
theorem files_same (A : Option Addr) (c : Nat) (B : Option Addr) (d : Nat) (l : List FileD) (w : World) (hz : l.length ≤ 9223372036854775807)
    (ha : Arr w w.heap.size 3 A l.length (fcells l)) (hb : Arr w w.heap.size 3 B l.length (fcells l)) :
    Calls Tryd.prog 19 #[.slice A l.length c, .slice B l.length d] w fun e w' => e = .returned (.bool true) ∧ Below w.heap.size w w' := by
  have HA := Lib.hid ha
  have HB := Lib.hid hb
  clear ha hb
  go_enter Tryd.func19, Tryd.ntmps19
  go_wp2
  go_loopw [5] (fun v wr => ∃ (k : Nat), k ≤ l.length ∧ v = .int .i64 k ∧ Below w.heap.size w wr) (fun v _ => l.length - (intOf v).toNat)
  case atStart => exact ⟨0, Nat.zero_le _, rfl, Below.refl _ _⟩
  case round =>
    obtain ⟨k, hk, rfl, hB⟩ := hrel
    by_cases hlt : k < l.length
    · obtain ⟨f, hf⟩ : ∃ f, l[k]? = some f := ⟨_, List.getElem?_eq_getElem hlt⟩
      obtain ⟨b, o, rfl, hb, hcell⟩ := HA.out.2 (by omega)
      obtain ⟨b2, o2, rfl, hb2, hcell2⟩ := HB.out.2 (by omega)
      obtain ⟨c0, c1, c2⟩ := file_cells (fun i u h => (hB.cell (p := ⟨b, o + i, none⟩) hb).trans (hcell i u h)) hf
      obtain ⟨e0, e1, e2⟩ := file_cells (fun i u h => (hB.cell (p := ⟨b2, o2 + i, none⟩) hb2).trans (hcell2 i u h)) hf
      clear hf hcell hcell2
      have kl : (k : Int) < l.length := by omega
      go_wp2
      go_quiet (fail)
      go_wp2
      go_roundw
      case rel => exact ⟨k + 1, by omega, by go_num, below_drewN hB _⟩
      case measure => simp [intOf] <;> omega
    · go_wp2
      go_ret
      exact ⟨rfl, hB⟩
end Go.Proofs.YtlfennooocmclaaDoor
/- The walk through Filter. -/
namespace Go.Proofs.YtlfennooocmclaaDoor
open Go.RowKit
set_option linter.unusedVariables false

/-- What is wrong with some patterns, the first of them. -/
def patsE : List ByteArray → Int
  | [] => 0
  | p :: r => if patE p.data.toList = 0 then patsE r else patE p.data.toList
theorem patsE_step {l : List ByteArray} {k : Nat} {x : ByteArray} (h : l[k]? = some x) (h0 : patE x.data.toList = 0) : patsE (l.drop k) = patsE (l.drop (k + 1)) := by rw [drop_head h, patsE, if_pos h0]
theorem patsE_stop {l : List ByteArray} {k : Nat} {x : ByteArray} (h : l[k]? = some x) (h0 : patE x.data.toList ≠ 0) : patsE (l.drop k) = patE x.data.toList := by rw [drop_head h, patsE, if_neg h0]
theorem patsE_end {l : List ByteArray} {k : Nat} (h : l.length ≤ k) : patsE (l.drop k) = 0 := by rw [List.drop_eq_nil_of_le h, patsE]
theorem patsE_app : ∀ l m : List ByteArray, patsE (l ++ m) = if patsE l = 0 then patsE m else patsE l
  | [], m => by rw [List.nil_append, patsE, if_pos rfl]
  | p :: l, m => by
    rw [List.cons_append, patsE, patsE]
    by_cases h : patE p.data.toList = 0
    · rw [if_pos h, if_pos h, patsE_app l m]
    · rw [if_neg h, if_neg h, if_neg h]
def keepB (i o : List ByteArray) (f : FileD) : Bool := (i.isEmpty || oneB i f.path) && !oneB o f.path
def filtE (l : List FileD) (i o : List ByteArray) : Int := if checkE l = 0 then patsE (i ++ o) else checkE l
def filtL (l : List FileD) (i o : List ByteArray) : List FileD := if filtE l i o = 0 then l.filter (keepB i o) else []
/-- A new list of files, and a number. -/
def FilesOut (w : World) (l : List FileD) (E : Int) (e : Ending) (w' : World) : Prop := ∃ A c, e = .returned (.tuple #[.slice A l.length c, .int .i64 E]) ∧ Arr w' w'.heap.size 3 A l.length (fcells l) ∧ Fresh w.heap.size A ∧ l.length ≤ c ∧ Below w.heap.size w w'
theorem infoFile : (Tryd.prog.info? 33).map (fun i => (i.zero, i.size, i.bytes)) = some (some (.agg #[.string ⟨#[]⟩, .int .i64 0, .string ⟨#[]⟩]), 3, 40) := by kernel_rfl
theorem file_one (f : FileD) : ∀ u ∈ (#[Value.string f.path, .int .i64 f.mode, .string f.data] : Array Value).toList, u.oneCell' = true := by simp [Value.oneCell']
theorem file_zero : (Value.agg #[.string ⟨#[]⟩, .int .i64 0, .string ⟨#[]⟩]).cells.size = 3 := rfl
theorem filter_snoc {l : List FileD} {k : Nat} {f : FileD} {g : FileD → Bool} (h : l[k]? = some f) : (l.take (k + 1)).filter g = (l.take k).filter g ++ if g f then [f] else [] := by
  rw [take_snoc h, List.filter_append]
  congr 1
  by_cases hg : g f
  · simp [hg]
  · simp [hg]
theorem fcells_snoc (l : List FileD) (f : FileD) : fcells (l ++ [f]) = fcells l ++ (#[Value.string f.path, .int .i64 f.mode, .string f.data] : Array Value).toList := by rw [fcells_app]; rfl
theorem str_cells (L : List ByteArray) : ∀ u ∈ L.map Value.string, u.oneCell' = true := by
  intro u hu
  obtain ⟨x, _, rfl⟩ := List.mem_map.1 hu
  rfl

theorem box_cells {wr W : World} {t : TypeId} {f : FileD} (hbox : Blk (wr.alloc (.cells #[.string f.path, .int .i64 f.mode, .string f.data] t)) wr.heap.size t #[.string f.path, .int .i64 f.mode, .string f.data])
    (h : Below (wr.alloc (.cells #[.string f.path, .int .i64 f.mode, .string f.data] t)).heap.size (wr.alloc (.cells #[.string f.path, .int .i64 f.mode, .string f.data] t)) W) :
    W.cell? ⟨wr.heap.size, 0, none⟩ = some (.string f.path) ∧ W.cell? ⟨wr.heap.size, 1, none⟩ = some (.int .i64 f.mode) ∧ W.cell? ⟨wr.heap.size, 2, none⟩ = some (.string f.data) :=
  ⟨(h.cell (p := ⟨wr.heap.size, 0, none⟩) hbox.lt).trans (hbox.cell 0), (h.cell (p := ⟨wr.heap.size, 1, none⟩) hbox.lt).trans (hbox.cell 1), (h.cell (p := ⟨wr.heap.size, 2, none⟩) hbox.lt).trans (hbox.cell 2)⟩

end Go.Proofs.YtlfennooocmclaaDoor
/- The walk through the reference's Filter. -/
namespace Go.Proofs.YtlfennooocmclaaDoor
open Go.RowKit
set_option linter.unusedVariables false

def onE (e : Int) (l : List ByteArray) : Int := if e = 0 then patsE l else e
theorem filtE_on (l : List FileD) (i o : List ByteArray) : filtE l i o = onE (onE (checkE l) i) o := by
  unfold filtE onE
  by_cases h : checkE l = 0
  · rw [if_pos h, if_pos h, patsE_app]
  · rw [if_neg h, if_neg h, if_neg h]
theorem onE_zero (l : List ByteArray) : onE 0 l = patsE l := if_pos rfl
theorem onE_bad {e : Int} (l : List ByteArray) (h : e ≠ 0) : onE e l = e := if_neg h
theorem onE_nil {l : List ByteArray} {k : Nat} (e : Int) (h : l.length ≤ k) : onE e (l.drop k) = e := by
  unfold onE
  rw [patsE_end h]
  by_cases h0 : e = 0
  · rw [if_pos h0, h0]
  · rw [if_neg h0]
theorem onE_step {l : List ByteArray} {k : Nat} {x : ByteArray} (h : l[k]? = some x) : onE 0 (l.drop k) = onE (patE x.data.toList) (l.drop (k + 1)) := by
  rw [onE_zero, drop_head h, patsE]
  rfl
theorem onE_exit {l : List ByteArray} {k : Nat} {e : Int} (h : ¬ (k < l.length ∧ e = 0)) : onE e (l.drop k) = e := by
  by_cases h0 : e = 0
  · exact onE_nil e (by
      rcases Nat.lt_or_ge k l.length with h1 | h1
      · exact absurd ⟨h1, h0⟩ h
      · exact h1)
  · exact onE_bad _ h0

end Go.Proofs.YtlfennooocmclaaDoor
/- The walk through TreeFilters. -/
namespace Go.Proofs.YtlfennooocmclaaDoor
open Go.RowKit
set_option linter.unusedVariables false

theorem arr_some {w : World} {B size n : Nat} {A : Option Addr} {xs : List Value} (h : Arr w B size A n xs) : 0 < n → ∃ a, A = some a := fun hn => by
  obtain ⟨b, o, e, _⟩ := h.2 hn
  exact ⟨_, e⟩
theorem few_len (l : List FileD) : (l.take 60).length = min l.length 60 := by rw [List.length_take, Nat.min_comm]
theorem Arr.few {w : World} {B : Nat} {A : Option Addr} {l : List FileD} (h : Arr w B 3 A l.length (fcells l)) : Arr w B 3 A (l.take 60).length (fcells (l.take 60)) := by
  have h2 := h.ftake (k := min l.length 60) (by omega)
  rw [few_len]
  rwa [show l.take (min l.length 60) = l.take 60 by
    rcases Nat.le_total l.length 60 with h | h
    · rw [Nat.min_eq_left h, List.take_of_length_le (Nat.le_refl _), List.take_of_length_le h]
    · rw [Nat.min_eq_right h]] at h2

end Go.Proofs.YtlfennooocmclaaDoor
/- Manifests: what is wrong with one (Right), the walks through the program's and the reference's. -/
namespace Go.Proofs.YtlfennooocmclaaDoor
open Go.RowKit
set_option linter.unusedVariables false

structure ItemD where
  path : ByteArray
  mode : Int
  size : Int
  mark : ByteArray
def icell (f : ItemD) : List Value := [.string f.path, .int .i64 f.mode, .int .i64 f.size, .string f.mark]
def icells (l : List ItemD) : List Value := (l.map icell).flatten
def IOk (f : ItemD) : Prop := f.path.size ≤ 9223372036854775807 ∧ f.mark.size ≤ 9223372036854775807 ∧ (-9223372036854775808 ≤ f.mode ∧ f.mode ≤ 9223372036854775807) ∧ -9223372036854775808 ≤ f.size ∧ f.size ≤ 9223372036854775807
def itemE (f : ItemD) : Int := if 0 ≤ f.mode ∧ f.mode ≤ 511 then if 0 ≤ f.size ∧ f.size ≤ 65536 then if f.mark.size = 32 then 0 else 5 else 4 else 11
def itemsE : List ItemD → Int
  | [] => 0
  | f :: r => if itemE f = 0 then itemsE r else itemE f
def ipaths (l : List ItemD) : List ByteArray := l.map (·.path)
def rightE (l : List ItemD) : Int := if pathsE (lists (ipaths l)) = 0 then itemsE l else pathsE (lists (ipaths l))
theorem items_step {l : List ItemD} {k : Nat} {f : ItemD} (h : l[k]? = some f) (hs : itemE f = 0) : itemsE (l.drop k) = itemsE (l.drop (k + 1)) := by rw [drop_head h, itemsE, if_pos hs]
theorem items_stop {l : List ItemD} {k : Nat} {f : ItemD} (h : l[k]? = some f) (hs : itemE f ≠ 0) : itemsE (l.drop k) = itemE f := by rw [drop_head h, itemsE, if_neg hs]
theorem items_end {l : List ItemD} {k : Nat} (h : l.length ≤ k) : itemsE (l.drop k) = 0 := by rw [List.drop_eq_nil_of_le h, itemsE]
theorem icell_at {l : List ItemD} {k : Nat} {f : ItemD} (h : l[k]? = some f) : (icells l)[k * 4]? = some (.string f.path) ∧ (icells l)[k * 4 + 1]? = some (.int .i64 f.mode) ∧ (icells l)[k * 4 + 2]? = some (.int .i64 f.size) ∧ (icells l)[k * 4 + 3]? = some (.string f.mark) := by
  have hl : ∀ r ∈ l.map icell, r.length = 4 := by
    intro r hr
    obtain ⟨f, _, rfl⟩ := List.mem_map.1 hr
    rfl
  have hx : (l.map icell)[k]? = some (icell f) := by rw [List.getElem?_map, h]; rfl
  unfold icells
  exact ⟨by rw [show k * 4 = k * 4 + 0 from rfl, flat_at _ k 0 _ hl hx (by omega)]; rfl, by rw [flat_at _ k 1 _ hl hx (by omega)]; rfl, by rw [flat_at _ k 2 _ hl hx (by omega)]; rfl, by rw [flat_at _ k 3 _ hl hx (by omega)]; rfl⟩
theorem item_cells {w : World} {b o k : Nat} {l : List ItemD} {f : ItemD} (hc : ∀ i u, (icells l)[i]? = some u → w.cell? ⟨b, o + i, none⟩ = some u) (h : l[k]? = some f) :
    w.cell? ⟨b, o + k * 4, none⟩ = some (.string f.path) ∧ w.cell? ⟨b, o + k * 4 + 1, none⟩ = some (.int .i64 f.mode) ∧ w.cell? ⟨b, o + k * 4 + 2, none⟩ = some (.int .i64 f.size) ∧ w.cell? ⟨b, o + k * 4 + 3, none⟩ = some (.string f.mark) := by
  obtain ⟨h0, h1, h2, h3⟩ := icell_at h
  exact ⟨hc _ _ h0, by rw [Nat.add_assoc]; exact hc _ _ h1, by rw [Nat.add_assoc]; exact hc _ _ h2, by rw [Nat.add_assoc]; exact hc _ _ h3⟩
theorem ipaths_take {l : List ItemD} {k : Nat} {f : ItemD} (h : l[k]? = some f) : (ipaths (l.take (k + 1))).map Value.string = (ipaths (l.take k)).map Value.string ++ [.string f.path] := by
  rw [take_snoc h]
  unfold ipaths
  simp
theorem ipaths_len (l : List ItemD) : (ipaths l).length = l.length := by unfold ipaths; simp
theorem icells_len (l : List ItemD) : (icells l).length = l.length * 4 := by
  unfold icells
  rw [flat_len_eq (c := 4) _ (by intro r hr; obtain ⟨f, _, rfl⟩ := List.mem_map.1 hr; rfl), List.length_map]
theorem icells_app (l m : List ItemD) : icells (l ++ m) = icells l ++ icells m := by unfold icells; rw [List.map_append, List.flatten_append]
theorem Arr.itake {w : World} {B : Nat} {A : Option Addr} {l : List ItemD} (h : Arr w B 4 A l.length (icells l)) {k : Nat} (hk : k ≤ l.length) : Arr w B 4 A k (icells (l.take k)) := by
  refine ⟨by rw [icells_len, List.length_take]; congr 1; omega, fun hn => ?_⟩
  obtain ⟨b, o, e, hb, hc⟩ := h.2 (by omega)
  refine ⟨b, o, e, hb, fun i u hu => hc i u ?_⟩
  have e2 : icells l = icells (l.take k) ++ icells (l.drop k) := by rw [← icells_app, List.take_append_drop]
  rw [e2]
  exact (List.getElem?_append_left (by
    rcases Nat.lt_or_ge i (icells (l.take k)).length with h | h
    · exact h
    · rw [List.getElem?_eq_none h] at hu; cases hu)).trans hu
theorem itemE_mode {f : ItemD} (h : ¬ (0 ≤ f.mode ∧ f.mode ≤ 511)) : itemE f = 11 := if_neg h
theorem itemE_size {f : ItemD} (h : 0 ≤ f.mode ∧ f.mode ≤ 511) (h2 : ¬ (0 ≤ f.size ∧ f.size ≤ 65536)) : itemE f = 4 := by unfold itemE; rw [if_pos h, if_neg h2]
theorem itemE_mark {f : ItemD} (h : 0 ≤ f.mode ∧ f.mode ≤ 511) (h2 : 0 ≤ f.size ∧ f.size ≤ 65536) (h3 : f.mark.size ≠ 32) : itemE f = 5 := by unfold itemE; rw [if_pos h, if_pos h2, if_neg h3]
theorem itemE_ok {f : ItemD} (h : 0 ≤ f.mode ∧ f.mode ≤ 511) (h2 : 0 ≤ f.size ∧ f.size ≤ 65536) (h3 : f.mark.size = 32) : itemE f = 0 := by unfold itemE; rw [if_pos h, if_pos h2, if_pos h3]

/-! ### the reference's -/
end Go.Proofs.YtlfennooocmclaaDoor
/- A manifest's bytes, plain; the walks through shared, the reference's shared, the closure that writes a number, the reference's Bytes of a number and Text. -/
namespace Go.Proofs.YtlfennooocmclaaDoor
open Go.RowKit
set_option linter.unusedVariables false

def sharedL : List UInt8 → List UInt8 → Nat
  | x :: a, y :: b => if x = y then sharedL a b + 1 else 0
  | _, _ => 0
theorem sharedL_le : ∀ a b : List UInt8, sharedL a b ≤ a.length ∧ sharedL a b ≤ b.length
  | [], b => by unfold sharedL; simp
  | x :: a, [] => by unfold sharedL; simp
  | x :: a, y :: b => by
    have := sharedL_le a b
    rw [sharedL]
    simp only [List.length_cons]
    split <;> omega
section
variable {a b : List UInt8} {k : Nat}
theorem sh_step (ha : k < a.length) (hb : k < b.length) (h : bt a k = bt b k) : k + sharedL (a.drop k) (b.drop k) = (k + 1) + sharedL (a.drop (k + 1)) (b.drop (k + 1)) := by
  rw [bt_drop ha, bt_drop hb, sharedL, if_pos h]; omega
theorem sh_stop (ha : k < a.length) (hb : k < b.length) (h : bt a k ≠ bt b k) : k + sharedL (a.drop k) (b.drop k) = k := by
  rw [bt_drop ha, bt_drop hb, sharedL, if_neg h]; rfl
theorem sh_end (h : ¬ (k < a.length ∧ k < b.length)) : k + sharedL (a.drop k) (b.drop k) = k := by
  by_cases ha : k < a.length
  · have e : b.drop k = [] := List.drop_eq_nil_of_le (by omega)
    rw [e, bt_drop ha]
    simp [sharedL]
  · have e : a.drop k = [] := List.drop_eq_nil_of_le (by omega)
    rw [e]
    simp [sharedL]
end

/-! ### numbers and texts -/
set_option maxRecDepth 100000 in
theorem ref_bytes (n : Int) (w : World) (h0 : -9223372036854775808 ≤ n) (h1 : n ≤ 9223372036854775807) :
    Calls Tryd.prog 34 #[.int .i64 n] w fun e w' => e = .returned (.string (numS n)) ∧ Below w.heap.size w w' := by
  go_enter Tryd.func34, Tryd.ntmps34
  go_wp2_with (go_at_call 53; refine (ref_num n _ h0 h1).mono ?_; rintro e w1 ⟨rfl, hb1⟩)
  go_ret
  exact ⟨rfl, hb1⟩
set_option maxRecDepth 100000 in
theorem ref_text (s : ByteArray) (w : World) (hs : s.size ≤ 9223372036854775807) :
    Calls Tryd.prog 35 #[.string s] w fun e w' => e = .returned (.tuple #[.string (txtS s), .int .i64 (txtE s)]) ∧ Below w.heap.size w w' := by
  by_cases hl : 1048576 < s.size
  · have HX := Lib.hid (txt_no hl)
    go_enter Tryd.func35, Tryd.ntmps35
    go_wp2
    go_ret2
    rw [HX.out.1, HX.out.2]
    exact ⟨rfl, Below.refl _ _⟩
  · have HX := Lib.hid (txt_ok hl)
    have hc := fun w => ref_bytes s.size w (by omega) (by omega)
    have hsz : (numS s.size).size ≤ 9 := by rw [numS_len (by omega)]; exact numL_len _ (by omega)
    have HC := Lib.hid hc
    clear hc
    go_enter Tryd.func35, Tryd.ntmps35
    go_wp2_with (go_at_call 34; refine (HC.out _).mono ?_; rintro e w1 ⟨rfl, hb1⟩)
    go_ret2
    rw [HX.out.1, HX.out.2]
    exact ⟨rfl, hb1⟩

/-! ### a manifest's bytes -/
def itemBy (last : List UInt8) (f : ItemD) : List UInt8 :=
  numL (sharedL last f.path.data.toList) ++ (numL (f.path.size - sharedL last f.path.data.toList) ++ (f.path.data.toList.drop (sharedL last f.path.data.toList) ++ (numL f.mode.toNat ++ (numL f.size.toNat ++ f.mark.data.toList))))
def bytesGo : List UInt8 → List ItemD → List UInt8
  | _, [] => []
  | last, f :: r => itemBy last f ++ bytesGo f.path.data.toList r
def bytesL (l : List ItemD) : List UInt8 := numL l.length ++ bytesGo [] l
def bytesS (l : List ItemD) : ByteArray := if rightE l = 0 then ⟨(bytesL l).toArray⟩ else .empty
def lastAt (l : List ItemD) (k : Nat) : List UInt8 := if k = 0 then [] else match l[k - 1]? with | some f => f.path.data.toList | none => []
theorem lastAt_succ {l : List ItemD} {k : Nat} {f : ItemD} (h : l[k]? = some f) : lastAt l (k + 1) = f.path.data.toList := by
  unfold lastAt
  rw [if_neg (by omega), Nat.add_sub_cancel, h]
theorem bytesGo_step {l : List ItemD} {k : Nat} {f : ItemD} (h : l[k]? = some f) : bytesGo (lastAt l k) (l.drop k) = itemBy (lastAt l k) f ++ bytesGo (lastAt l (k + 1)) (l.drop (k + 1)) := by
  rw [lastAt_succ h, drop_head h, bytesGo]
theorem bytesGo_end {l : List ItemD} {k : Nat} (last : List UInt8) (h : l.length ≤ k) : bytesGo last (l.drop k) = [] := by rw [List.drop_eq_nil_of_le h, bytesGo]
theorem stepE_pathE {q : Option (List UInt8)} {s : List UInt8} (h : stepE q s = 0) : pathE s = 0 := by
  unfold stepE at h
  by_cases h0 : pathE s = 0
  · exact h0
  · rw [if_neg h0] at h; exact absurd h h0
theorem pathsGo_all : ∀ (q : Option (List UInt8)) (l : List (List UInt8)), pathsGo q l = 0 → ∀ x ∈ l, pathE x = 0
  | _, [], _, x, hx => by cases hx
  | q, s :: r, h, x, hx => by
    rw [pathsGo] at h
    by_cases h0 : stepE q s = 0
    · rw [if_pos h0] at h
      rcases List.mem_cons.1 hx with rfl | hx
      · exact stepE_pathE h0
      · exact pathsGo_all _ r h x hx
    · rw [if_neg h0] at h; exact absurd h h0
theorem itemsE_all : ∀ (l : List ItemD), itemsE l = 0 → ∀ x ∈ l, itemE x = 0
  | [], _, x, hx => by cases hx
  | f :: r, h, x, hx => by
    rw [itemsE] at h
    by_cases h0 : itemE f = 0
    · rw [if_pos h0] at h
      rcases List.mem_cons.1 hx with rfl | hx
      · exact h0
      · exact itemsE_all r h x hx
    · rw [if_neg h0] at h; exact absurd h h0
theorem itemE_zero {f : ItemD} (h : itemE f = 0) : (0 ≤ f.mode ∧ f.mode ≤ 511) ∧ (0 ≤ f.size ∧ f.size ≤ 65536) ∧ f.mark.size = 32 := by
  unfold itemE at h
  by_cases h1 : 0 ≤ f.mode ∧ f.mode ≤ 511
  · rw [if_pos h1] at h
    by_cases h2 : 0 ≤ f.size ∧ f.size ≤ 65536
    · rw [if_pos h2] at h
      by_cases h3 : f.mark.size = 32
      · exact ⟨h1, h2, h3⟩
      · rw [if_neg h3] at h; cases h
    · rw [if_neg h2] at h; cases h
  · rw [if_neg h1] at h; cases h
theorem rightE_zero {l : List ItemD} (h : rightE l = 0) : l.length ≤ 256 ∧ ∀ f ∈ l, pathE f.path.data.toList = 0 ∧ itemE f = 0 := by
  unfold rightE at h
  by_cases h0 : pathsE (lists (ipaths l)) = 0
  · rw [if_pos h0] at h
    unfold pathsE at h0
    by_cases h1 : 256 < (lists (ipaths l)).length
    · rw [if_pos h1] at h0; cases h0
    · rw [if_neg h1] at h0
      rw [lists_len, ipaths_len] at h1
      refine ⟨by omega, fun f hf => ⟨pathsGo_all _ _ h0 _ (List.mem_map_of_mem (List.mem_map_of_mem hf)), itemsE_all _ h f hf⟩⟩
  · rw [if_neg h0] at h; exact absurd h h0
end Go.Proofs.YtlfennooocmclaaDoor
/- The walk through Bytes. -/
namespace Go.Proofs.YtlfennooocmclaaDoor
open Go.RowKit
set_option linter.unusedVariables false

theorem ws_at (b : Nat) (v : Value) (l : List UInt8) (s : ByteArray) (w : World) (h : Bld 54 5 w b v l) (hs : s.size ≤ 200) (hlen : l.length ≤ 16777216) :
    Calls Tryd.prog 30 #[.pointer (some ⟨b, 0, none⟩), .string s] w fun e w' => ∃ v', e = .returned (.tuple #[.int .i64 s.size, .nilIface]) ∧ Bld 54 5 w' b v' (l ++ s.data.toList) ∧ FrB 5 b w w' ∧ s.data.toList.length ≤ 200 :=
  (writeString_any b v l s w h (by omega)).mono fun e w' ⟨v', h1, h2, h3⟩ => ⟨v', h1, h2, h3, by rw [← bt_size]; exact hs⟩
theorem app_le {l m : List UInt8} {a b : Nat} (h : l.length ≤ a) (k : m.length ≤ b) : (l ++ m).length ≤ a + b := by rw [List.length_append]; omega
theorem ibox_cells {W : World} {g : Nat} {t : TypeId} {p k : ByteArray} {m z : Int} (h : Blk W g t #[.string p, .int .i64 m, .int .i64 z, .string k]) :
    W.cell? ⟨g, 0, none⟩ = some (.string p) ∧ W.cell? ⟨g, 1, none⟩ = some (.int .i64 m) ∧ W.cell? ⟨g, 2, none⟩ = some (.int .i64 z) ∧ W.cell? ⟨g, 3, none⟩ = some (.string k) := ⟨h.cell 0, h.cell 1, h.cell 2, h.cell 3⟩
theorem nat_of {x : Int} (h0 : 0 ≤ x) (h1 : x ≤ 65536) : ∃ n : Nat, x = (n : Int) ∧ n ≤ 65536 := ⟨x.toNat, by omega, by omega⟩

theorem itemBy_cat (cur rest : List UInt8) (p mark : ByteArray) (n m z : Nat) :
    cur ++ (numL n ++ (numL (p.size - n) ++ (p.data.toList.drop n ++ (numL (m : Int).toNat ++ (numL (z : Int).toNat ++ mark.data.toList)))) ++ rest) =
      (cur ++ numL (n : Int).toNat ++ numL ((p.size : Int) - n).toNat ++ (p.extract n p.size).data.toList ++ numL (m : Int).toNat ++ numL (z : Int).toNat ++ mark.data.toList) ++ rest := by
  have e1 : (n : Int).toNat = n := by omega
  have e2 : ((p.size : Int) - n).toNat = p.size - n := by omega
  have e3 : (p.extract n p.size).data.toList = p.data.toList.drop n := by
    rw [extract_list _ _ _ (Nat.le_refl _), bt_size, List.take_of_length_le (Nat.le_refl _)]
  rw [e1, e2, e3]
  simp only [List.append_assoc]
theorem ne_app6 {cur : List UInt8} (h : cur ≠ []) (a b c d e f : List UInt8) : cur ++ a ++ b ++ c ++ d ++ e ++ f ≠ [] := by
  cases cur with
  | nil => exact absurd rfl h
  | cons x l => simp

end Go.Proofs.YtlfennooocmclaaDoor
/- The walk through the reference's Bytes; the law TreeBytes. -/
namespace Go.Proofs.YtlfennooocmclaaDoor
open Go.RowKit
set_option linter.unusedVariables false

theorem numS_facts (n : Int) (h0 : 0 ≤ n) (h1 : n ≤ 4194304) : ∃ B : ByteArray, (∀ w, Calls Tryd.prog 34 #[.int .i64 n] w fun e w' => e = .returned (.string B) ∧ Below w.heap.size w w') ∧ B.data.toList = numL n.toNat ∧ B.size ≤ 9 := by
  refine ⟨numS n, fun w => ref_bytes n w (by omega) (by omega), by rw [numS_ok h0 (by omega)], ?_⟩
  rw [numS_ok h0 (by omega), ba_size]
  exact numL_len _ (by omega)
theorem txtS_facts (s : ByteArray) (h : s.size ≤ 200) : ∃ T : ByteArray, ∃ E : Int, (∀ w, Calls Tryd.prog 35 #[.string s] w fun e w' => e = .returned (.tuple #[.string T, .int .i64 E]) ∧ Below w.heap.size w w') ∧ T.data.toList = numL s.size ++ s.data.toList ∧ T.size ≤ 209 := by
  refine ⟨txtS s, txtE s, fun w => ref_text s w (by omega), txtS_list (by omega), ?_⟩
  rw [ba_size, txtS_list (by omega), List.length_append, ← ba_size]
  have := numL_len s.size (by omega)
  omega
theorem cat_list (a b : ByteArray) : (a ++ b).data.toList = a.data.toList ++ b.data.toList := by rw [ByteArray.data_append, Array.toList_append]

end Go.Proofs.YtlfennooocmclaaDoor
/- Plain laws of a reader's lists: no program in sight. -/
namespace Go.Proofs.YtlfennooocmclaaDoor
open Go.RowKit

theorem rdNumGo_s (f : Nat) : ∀ (i n : Nat) (r : Rd), (rdNumGo f i n r).2.s = r.s := by
  induction f with
  | zero => intro i n r; rfl
  | succ f ih =>
    intro i n r
    have hb := rdByte_s r
    rw [rdNumGo]
    simp only []
    split
    · exact hb
    · split
      · exact hb
      · split
        · exact hb
        · rw [ih]; exact hb
theorem rdNum_s (r : Rd) : (rdNum r).2.s = r.s := rdNumGo_s 9 0 0 r

theorem rdByte_adv {r : Rd} (h : (rdByte r).2.e = 0) : r.at_ + 1 = (rdByte r).2.at_ ∧ r.e = 0 := by
  unfold rdByte at h ⊢
  split
  · rename_i h0
    rw [if_pos h0] at h
    exact absurd h h0
  · rename_i h0
    rw [if_neg h0] at h
    split
    · exact ⟨rfl, by simpa using h0⟩
    · rename_i h1
      rw [dif_neg h1] at h
      simp at h
theorem rdNumGo_adv (f : Nat) : ∀ (i n : Nat) (r : Rd), (rdNumGo f i n r).2.e = 0 → r.at_ ≤ (rdNumGo f i n r).2.at_ ∧ (0 < f → r.at_ + 1 ≤ (rdNumGo f i n r).2.at_) ∧ r.e = 0 := by
  induction f with
  | zero => intro i n r h; exact ⟨Nat.le_refl _, fun h => absurd h (by omega), h⟩
  | succ f ih =>
    intro i n r h
    rw [rdNumGo] at h ⊢
    simp only [] at h ⊢
    split
    · rename_i h0
      rw [if_pos h0] at h
      exact absurd h h0
    · rename_i h0
      rw [if_neg h0] at h
      have h0' : (rdByte r).2.e = 0 := by simpa using h0
      obtain ⟨ha, he⟩ := rdByte_adv h0'
      split
      · rename_i h1
        rw [if_pos h1] at h
        simp at h
      · rename_i h1
        rw [if_neg h1] at h
        split
        · exact ⟨by show r.at_ ≤ (rdByte r).2.at_; omega, fun _ => by show r.at_ + 1 ≤ (rdByte r).2.at_; omega, he⟩
        · rename_i h2
          rw [if_neg h2] at h
          have := ih _ _ _ h
          exact ⟨by omega, fun _ => by omega, he⟩
theorem rdNum_adv {r : Rd} (h : (rdNum r).2.e = 0) : r.at_ + 1 ≤ (rdNum r).2.at_ ∧ r.e = 0 :=
  have := rdNumGo_adv 9 0 0 r h
  ⟨this.2.1 (by omega), this.2.2⟩

theorem rdNumGo_err (f : Nat) : ∀ (i n : Nat) (r : Rd), (rdNumGo f i n r).2.e ≠ 0 → 0 < f → (rdNumGo f i n r).1 = 0 := by
  induction f with
  | zero => intro i n r h hf; omega
  | succ f ih =>
    intro i n r h _
    rw [rdNumGo] at h ⊢
    simp only [] at h ⊢
    split
    · rfl
    · rename_i h0
      rw [if_neg h0] at h
      split
      · rfl
      · rename_i h1
        rw [if_neg h1] at h
        split
        · rename_i h2
          rw [if_pos h2] at h
          exact absurd h h0
        · rename_i h2
          rw [if_neg h2] at h
          rcases Nat.eq_zero_or_pos f with hf | hf
          · subst hf
            simp only [rdNumGo] at h
            exact absurd h h0
          · exact ih _ _ _ h hf
theorem rdNum_err {r : Rd} (h : (rdNum r).2.e ≠ 0) : (rdNum r).1 = 0 := rdNumGo_err 9 0 0 r h (by omega)

theorem rdCount_s (r : Rd) (m : Int) : (rdCount r m).2.s = r.s := by
  unfold rdCount
  simp only []
  split <;> exact rdNum_s r
theorem rdCount_pos {r : Rd} {m : Int} (h : 0 < (rdCount r m).1) : (rdCount r m).2.e = 0 := by
  unfold rdCount at h ⊢
  simp only [] at h ⊢
  split
  · rename_i h0
    rw [if_pos h0] at h
    simp at h
  · rename_i h0
    rw [if_neg h0] at h
    by_cases he : (rdNum r).2.e = 0
    · exact he
    · have := rdNum_err he
      omega
theorem rdCount_adv {r : Rd} {m : Int} (h : (rdCount r m).2.e = 0) : r.at_ + 1 ≤ (rdCount r m).2.at_ ∧ r.e = 0 := by
  unfold rdCount at h ⊢
  simp only [] at h ⊢
  split
  · rename_i h0
    rw [if_pos h0] at h
    simp at h
  · rename_i h0
    rw [if_neg h0] at h
    exact rdNum_adv h
theorem rdCount_ok' {r : Rd} {m : Int} (h : r.ok) : (rdCount r m).2.ok := by
  unfold rdCount
  simp only []
  split <;> exact rdNum_ok h
theorem rdRaw_s (r : Rd) (n : Int) : (rdRaw r n).2.s = r.s := by
  unfold rdRaw
  (repeat' split) <;> rfl
theorem rdRaw_ok {r : Rd} {n : Int} (h : r.ok) : (rdRaw r n).2.ok := by
  unfold rdRaw
  split
  · exact h
  · split
    · exact h
    · split
      · exact h
      · rename_i h1 h2
        refine ⟨?_, h.2⟩
        show r.at_ + n.toNat ≤ r.s.size
        omega
theorem rdRaw_adv {r : Rd} {n : Int} (h : (rdRaw r n).2.e = 0) : r.at_ ≤ (rdRaw r n).2.at_ ∧ r.e = 0 := by
  unfold rdRaw at h ⊢
  split
  · rename_i h0
    rw [if_pos h0] at h
    exact absurd h h0
  · rename_i h0
    rw [if_neg h0] at h
    have h0' : r.e = 0 := by simpa using h0
    split
    · exact ⟨Nat.le_refl _, h0'⟩
    · split
      · exact ⟨Nat.le_refl _, h0'⟩
      · exact ⟨Nat.le_add_right _ _, h0'⟩
theorem rdText_s (r : Rd) (m : Int) : (rdText r m).2.s = r.s := by
  unfold rdText
  simp only []
  rw [rdRaw_s, rdCount_s]
theorem rdText_ok {r : Rd} {m : Int} (h : r.ok) : (rdText r m).2.ok := by
  unfold rdText
  exact rdRaw_ok (rdCount_ok' h)
theorem rdText_adv {r : Rd} {m : Int} (h : (rdText r m).2.e = 0) : r.at_ + 1 ≤ (rdText r m).2.at_ ∧ r.e = 0 := by
  unfold rdText at h ⊢
  simp only [] at h ⊢
  obtain ⟨h1, h2⟩ := rdRaw_adv h
  obtain ⟨h3, h4⟩ := rdCount_adv h2
  exact ⟨by omega, h4⟩

/-- A number as an int's cell. -/
def natV (n : Nat) : Value := .int .i64 n

/-- Where a list's reading stands: so many are read, so many are to come. -/
def NumsAt (n : Nat) (r1 : Rd) (j : Nat) (done : List Nat) (st : Rd) : Prop := rdNumsGo n r1 = (done ++ (rdNumsGo (n - j) st).1, (rdNumsGo (n - j) st).2)
theorem NumsAt.start (n : Nat) (r1 : Rd) : NumsAt n r1 0 [] r1 := rfl
theorem NumsAt.step {n : Nat} {r1 : Rd} {j : Nat} {done : List Nat} {st : Rd} (h : NumsAt n r1 j done st) (hj : j < n) (he : (rdNum st).2.e = 0) : NumsAt n r1 (j + 1) (done ++ [(rdNum st).1]) (rdNum st).2 := by
  unfold NumsAt at h ⊢
  rw [h, show n - j = (n - (j + 1)) + 1 by omega, rdNumsGo]
  simp only []
  rw [if_neg (by simpa using he)]
  simp
theorem NumsAt.err {n : Nat} {r1 : Rd} {j : Nat} {done : List Nat} {st : Rd} (h : NumsAt n r1 j done st) (hj : j < n) (he : (rdNum st).2.e ≠ 0) : (rdNumsGo n r1).2 = (rdNum st).2 := by
  unfold NumsAt at h
  rw [h, show n - j = (n - (j + 1)) + 1 by omega, rdNumsGo]
  simp only []
  rw [if_pos he]
theorem NumsAt.fin {n : Nat} {r1 : Rd} {j : Nat} {done : List Nat} {st : Rd} (h : NumsAt n r1 j done st) (hj : n ≤ j) : rdNumsGo n r1 = (done, st) := by
  unfold NumsAt at h
  rw [h, show n - j = 0 by omega, rdNumsGo]
  simp
def TextsAt (m : Int) (n : Nat) (r1 : Rd) (j : Nat) (done : List ByteArray) (st : Rd) : Prop := rdTextsGo n m r1 = (done ++ (rdTextsGo (n - j) m st).1, (rdTextsGo (n - j) m st).2)
theorem TextsAt.start (m : Int) (n : Nat) (r1 : Rd) : TextsAt m n r1 0 [] r1 := rfl
theorem TextsAt.step {m : Int} {n : Nat} {r1 : Rd} {j : Nat} {done : List ByteArray} {st : Rd} (h : TextsAt m n r1 j done st) (hj : j < n) (he : (rdText st m).2.e = 0) : TextsAt m n r1 (j + 1) (done ++ [(rdText st m).1]) (rdText st m).2 := by
  unfold TextsAt at h ⊢
  rw [h, show n - j = (n - (j + 1)) + 1 by omega, rdTextsGo]
  simp only []
  rw [if_neg (by simpa using he)]
  simp
theorem TextsAt.err {m : Int} {n : Nat} {r1 : Rd} {j : Nat} {done : List ByteArray} {st : Rd} (h : TextsAt m n r1 j done st) (hj : j < n) (he : (rdText st m).2.e ≠ 0) : (rdTextsGo n m r1).2 = (rdText st m).2 := by
  unfold TextsAt at h
  rw [h, show n - j = (n - (j + 1)) + 1 by omega, rdTextsGo]
  simp only []
  rw [if_pos he]
theorem TextsAt.fin {m : Int} {n : Nat} {r1 : Rd} {j : Nat} {done : List ByteArray} {st : Rd} (h : TextsAt m n r1 j done st) (hj : n ≤ j) : rdTextsGo n m r1 = (done, st) := by
  unfold TextsAt at h
  rw [h, show n - j = 0 by omega, rdTextsGo]
  simp

theorem rdNums_err {r : Rd} {m : Int} {st : Rd} (h : (rdNumsGo (rdCount r m).1 (rdCount r m).2).2 = st) (he : st.e ≠ 0) : rdNums r m = ([], st) := by
  unfold rdNums
  simp only []
  rw [h, if_pos he]
theorem rdNums_fin {r : Rd} {m : Int} {done : List Nat} {st : Rd} (h : rdNumsGo (rdCount r m).1 (rdCount r m).2 = (done, st)) (he : st.e = 0 ∨ done = []) : rdNums r m = (done, st) := by
  unfold rdNums
  simp only []
  rw [h]
  rcases he with he | rfl
  · rw [if_neg (by simpa using he)]
  · split <;> rfl
theorem rdTexts_err {r : Rd} {m k : Int} {st : Rd} (h : (rdTextsGo (rdCount r m).1 k (rdCount r m).2).2 = st) (he : st.e ≠ 0) : rdTexts r m k = ([], st) := by
  unfold rdTexts
  simp only []
  rw [h, if_pos he]
theorem rdTexts_fin {r : Rd} {m k : Int} {done : List ByteArray} {st : Rd} (h : rdTextsGo (rdCount r m).1 k (rdCount r m).2 = (done, st)) (he : st.e = 0 ∨ done = []) : rdTexts r m k = (done, st) := by
  unfold rdTexts
  simp only []
  rw [h]
  rcases he with he | rfl
  · rw [if_neg (by simpa using he)]
  · split <;> rfl
end Go.Proofs.YtlfennooocmclaaDoor
/- The manifest that bytes are, as plain data: no program in sight. -/
namespace Go.Proofs.YtlfennooocmclaaDoor
open Go.RowKit
set_option linter.unusedVariables false

/-- One item behind the path last: what is wrong, or the item and the reader behind it. -/
def itErr (last : ByteArray) (n : Nat) (t : ByteArray) (e : Int) : Int :=
  if e ≠ 0 then e else if last.size < n then 5 else if sharedL last.data.toList (last.extract 0 n ++ t).data.toList = n then 0 else 5
def manGo : Nat → ByteArray → List ItemD → Rd → Int × List ItemD × Rd
  | 0, _, acc, r => (0, acc, r)
  | k + 1, last, acc, r =>
    let x1 := rdCount r 200
    let x2 := rdText x1.2 200
    let x3 := rdNum x2.2
    let x4 := rdNum x3.2
    let x5 := rdRaw x4.2 32
    if itErr last x1.1 x2.1 x5.2.e = 0 then manGo k (last.extract 0 x1.1 ++ x2.1) (acc ++ [⟨last.extract 0 x1.1 ++ x2.1, x3.1, x4.1, x5.1⟩]) x5.2
    else (itErr last x1.1 x2.1 x5.2.e, [], r)
/-- What is told of the reader's end. -/
def manEnd (y : Int × List ItemD × Rd) : Int × List ItemD :=
  if y.1 = 0 then if (rdEnd y.2.2).e = 0 then if rightE y.2.1 = 0 then (0, y.2.1) else (rightE y.2.1, []) else ((rdEnd y.2.2).e, []) else (y.1, [])
def manOf (s : ByteArray) : Int × List ItemD := manEnd (manGo (rdCount ⟨s, 0, 0⟩ 256).1 .empty [] (rdCount ⟨s, 0, 0⟩ 256).2)
theorem manGo_step {k : Nat} {last : ByteArray} {acc : List ItemD} {r r1 r2 r3 r4 r5 : Rd} {n m z : Nat} {t q : ByteArray}
    (h1 : rdCount r 200 = (n, r1)) (h2 : rdText r1 200 = (t, r2)) (h3 : rdNum r2 = (m, r3)) (h4 : rdNum r3 = (z, r4)) (h5 : rdRaw r4 32 = (q, r5)) (h0 : itErr last n t r5.e = 0) :
    manGo (k + 1) last acc r = manGo k (last.extract 0 n ++ t) (acc ++ [⟨last.extract 0 n ++ t, m, z, q⟩]) r5 := by
  rw [manGo]
  simp only [h1, h2, h3, h4, h5]
  rw [if_pos h0]
theorem manGo_stop {k : Nat} {last : ByteArray} {acc : List ItemD} {r r1 r2 r3 r4 r5 : Rd} {n m z : Nat} {t q : ByteArray}
    (h1 : rdCount r 200 = (n, r1)) (h2 : rdText r1 200 = (t, r2)) (h3 : rdNum r2 = (m, r3)) (h4 : rdNum r3 = (z, r4)) (h5 : rdRaw r4 32 = (q, r5)) (h0 : itErr last n t r5.e ≠ 0) :
    manEnd (manGo (k + 1) last acc r) = (itErr last n t r5.e, []) := by
  rw [manGo]
  simp only [h1, h2, h3, h4, h5]
  rw [if_neg h0]
  unfold manEnd
  rw [if_neg h0]
theorem manEnd_end {acc : List ItemD} {r : Rd} (h : (rdEnd r).e ≠ 0) : manEnd (0, acc, r) = ((rdEnd r).e, []) := by unfold manEnd; rw [if_pos rfl, if_neg h]
theorem manEnd_right {acc : List ItemD} {r : Rd} (h : (rdEnd r).e = 0) (h2 : rightE acc ≠ 0) : manEnd (0, acc, r) = (rightE acc, []) := by unfold manEnd; rw [if_pos rfl, if_pos h, if_neg h2]
theorem manEnd_ok {acc : List ItemD} {r : Rd} (h : (rdEnd r).e = 0) (h2 : rightE acc = 0) : manEnd (0, acc, r) = (0, acc) := by unfold manEnd; rw [if_pos rfl, if_pos h, if_pos h2]
theorem itErr_bad {last t : ByteArray} {n : Nat} {e : Int} (h : e ≠ 0) : itErr last n t e = e := if_pos h
theorem itErr_far {last t : ByteArray} {n : Nat} {e : Int} (h : e = 0) (h2 : last.size < n) : itErr last n t e = 5 := by unfold itErr; rw [if_neg (by simp [h]), if_pos h2]
theorem itErr_share {last t : ByteArray} {n : Nat} {e : Int} (h : e = 0) (h2 : ¬ last.size < n) (h3 : sharedL last.data.toList (last.extract 0 n ++ t).data.toList ≠ n) : itErr last n t e = 5 := by unfold itErr; rw [if_neg (by simp [h]), if_neg h2, if_neg h3]
theorem itErr_ok {last t : ByteArray} {n : Nat} {e : Int} (h : e = 0) (h2 : ¬ last.size < n) (h3 : sharedL last.data.toList (last.extract 0 n ++ t).data.toList = n) : itErr last n t e = 0 := by unfold itErr; rw [if_neg (by simp [h]), if_neg h2, if_pos h3]
theorem rdRaw_size (r : Rd) (n : Int) : (rdRaw r n).1.size ≤ r.s.size := by
  unfold rdRaw
  split
  · exact Nat.zero_le _
  · split
    · exact Nat.zero_le _
    · split
      · exact Nat.zero_le _
      · simp; omega
theorem rdText_size (r : Rd) (m : Int) : (rdText r m).1.size ≤ r.s.size := by
  unfold rdText
  have := rdRaw_size (rdCount r m).2 (rdCount r m).1
  rwa [rdCount_s] at this
theorem rdCount_most_ (r : Rd) {m : Int} (h : 0 ≤ m) : ((rdCount r m).1 : Int) ≤ m := by
  unfold rdCount
  simp only []
  split
  · exact h
  · rename_i h0
    by_cases he : (rdNum r).2.e = 0
    · have : ¬ m < ((rdNum r).1 : Int) := fun hl => h0 ⟨he, hl⟩
      omega
    · rw [rdNum_err he]
      omega
/-- The five reads of an item, named. -/
theorem reads5 (r : Rd) (ho : r.ok) : ∃ (n : Nat) (r1 : Rd) (t : ByteArray) (r2 : Rd) (m : Nat) (r3 : Rd) (z : Nat) (r4 : Rd) (q : ByteArray) (r5 : Rd),
    rdCount r 200 = (n, r1) ∧ rdText r1 200 = (t, r2) ∧ rdNum r2 = (m, r3) ∧ rdNum r3 = (z, r4) ∧ rdRaw r4 32 = (q, r5) ∧
    (r1.ok ∧ r2.ok ∧ r3.ok ∧ r4.ok ∧ r5.ok) ∧ (t.size ≤ r.s.size ∧ q.size ≤ r.s.size ∧ m ≤ 4611686018427387903 ∧ z ≤ 4611686018427387903 ∧ n ≤ 4611686018427387903) ∧ r5.s = r.s := by
  have o1 := rdCount_ok' (m := 200) ho
  have e1 := rdCount_s r 200
  have l1 := rdCount_le r 200
  obtain ⟨n, r1, h1⟩ : ∃ n r1, rdCount r 200 = (n, r1) := ⟨_, _, rfl⟩
  rw [h1] at o1 e1 l1
  simp only [] at o1 e1 l1
  have o2 := rdText_ok (m := 200) o1
  have e2 := rdText_s r1 200
  have l2 := rdText_size r1 200
  obtain ⟨t, r2, h2⟩ : ∃ t r2, rdText r1 200 = (t, r2) := ⟨_, _, rfl⟩
  rw [h2] at o2 e2 l2
  simp only [] at o2 e2 l2
  have o3 := rdNum_ok o2
  have e3 := rdNum_s r2
  have l3 := rdNum_le r2
  obtain ⟨m, r3, h3⟩ : ∃ m r3, rdNum r2 = (m, r3) := ⟨_, _, rfl⟩
  rw [h3] at o3 e3 l3
  simp only [] at o3 e3 l3
  have o4 := rdNum_ok o3
  have e4 := rdNum_s r3
  have l4 := rdNum_le r3
  obtain ⟨z, r4, h4⟩ : ∃ z r4, rdNum r3 = (z, r4) := ⟨_, _, rfl⟩
  rw [h4] at o4 e4 l4
  simp only [] at o4 e4 l4
  have o5 := rdRaw_ok (n := 32) o4
  have e5 := rdRaw_s r4 32
  have l5 := rdRaw_size r4 32
  obtain ⟨q, r5, h5⟩ : ∃ q r5, rdRaw r4 32 = (q, r5) := ⟨_, _, rfl⟩
  rw [h5] at o5 e5 l5
  simp only [] at o5 e5 l5
  rw [e1] at l2
  rw [e4, e3, e2, e1] at l5
  exact ⟨n, r1, t, r2, m, r3, z, r4, q, r5, h1, h2, h3, h4, h5, ⟨o1, o2, o3, o4, o5⟩, ⟨l2, l5, l3, l4, l1⟩, by rw [e5, e4, e3, e2, e1]⟩
theorem icells_snoc (l : List ItemD) (f : ItemD) : icells (l ++ [f]) = icells l ++ (#[Value.string f.path, .int .i64 f.mode, .int .i64 f.size, .string f.mark] : Array Value).toList := by rw [icells_app]; rfl
/-- A new manifest, and a number. -/
def ItemsOut (w : World) (l : List ItemD) (E : Int) (e : Ending) (w' : World) : Prop := ∃ A c, e = .returned (.tuple #[.slice A l.length c, .int .i64 E]) ∧ Arr w' w'.heap.size 4 A l.length (icells l) ∧ Fresh w.heap.size A ∧ l.length ≤ c ∧ Below w.heap.size w w'
theorem item_zero : (Value.agg #[.string ⟨#[]⟩, .int .i64 0, .int .i64 0, .string ⟨#[]⟩]).cells.size = 4 := rfl
theorem item_one (p q : ByteArray) (m z : Int) : ∀ u ∈ (#[Value.string p, .int .i64 m, .int .i64 z, .string q] : Array Value).toList, u.oneCell' = true := by simp [Value.oneCell']

theorem own_slice {w : World} {base : Nat} {e : TypeId} {size n c : Nat} {A : Option Addr} {xs : List Value} (h : w.ownsRow base e size (.slice A n c) n xs) : Arr w w.heap.size size A n xs := by
  obtain ⟨A', c', hv, _, ha, _⟩ := own_arr h
  injection hv with h1
  rw [h1]
  exact ha
theorem own_ne {w : World} {base b : Nat} {e : TypeId} {size n : Nat} {v : Value} {xs : List Value} (h : w.ownsRow base e size v n xs) (hb : b < base) : v.ownBlock ≠ some b := fun e => by have := (h.lt b e).1; omega
theorem below_grown {w a c : World} {b : Nat} (h : Below w.heap.size w a) (g : a.grownBy c (some b)) (hb : w.heap.size ≤ b) : Below w.heap.size w c := h.grown g h.size (fun j hj => by injection hj with hj; omega)
end Go.Proofs.YtlfennooocmclaaDoor
/- The walks through the reference's place and Sort. -/
namespace Go.Proofs.YtlfennooocmclaaDoor
open Go.RowKit
set_option linter.unusedVariables false

theorem str_ne {a b : ByteArray} (h : a ≠ b) : (a.toList == b.toList) = false := by
  rw [ByteArray.toList_eq, ByteArray.toList_eq, beq_eq_false_iff_ne]
  exact fun e => h (ba_ext e)
def placeGo (p : ByteArray) : Nat → List ItemD → Int
  | _, [] => -1
  | k, f :: r => if f.path = p then k else placeGo p (k + 1) r
theorem place_hit {p : ByteArray} {k : Nat} {l : List ItemD} {f : ItemD} (h : l[k]? = some f) (hp : f.path = p) : placeGo p k (l.drop k) = k := by rw [drop_head h, placeGo, if_pos hp]
theorem place_miss {p : ByteArray} {k : Nat} {l : List ItemD} {f : ItemD} (h : l[k]? = some f) (hp : f.path ≠ p) : placeGo p k (l.drop k) = placeGo p (k + 1) (l.drop (k + 1)) := by rw [drop_head h, placeGo, if_neg hp]
theorem place_end {p : ByteArray} {k : Nat} {l : List ItemD} (h : l.length ≤ k) : placeGo p k (l.drop k) = -1 := by rw [List.drop_eq_nil_of_le h, placeGo]
/-! ### the reference's Sort -/
def insGo (f : FileD) : Bool → List FileD → List FileD
  | d, [] => if d then [] else [f]
  | d, g :: r => if d = false ∧ ordS f.path.data.toList g.path.data.toList < 0 then f :: g :: insGo f true r else g :: insGo f d r
theorem insGo_end (f : FileD) (d : Bool) {l : List FileD} {k : Nat} (h : l.length ≤ k) : insGo f d (l.drop k) = if d then [] else [f] := by rw [List.drop_eq_nil_of_le h, insGo]
theorem insGo_new {f g : FileD} {l : List FileD} {k : Nat} (h : l[k]? = some g) (h0 : ordS f.path.data.toList g.path.data.toList < 0) : insGo f false (l.drop k) = f :: g :: insGo f true (l.drop (k + 1)) := by rw [drop_head h, insGo, if_pos ⟨rfl, h0⟩]
theorem insGo_old {f g : FileD} {l : List FileD} {k : Nat} (h : l[k]? = some g) (h0 : ¬ ordS f.path.data.toList g.path.data.toList < 0) : insGo f false (l.drop k) = g :: insGo f false (l.drop (k + 1)) := by rw [drop_head h, insGo, if_neg (fun h => h0 h.2)]
theorem insGo_done {f g : FileD} {l : List FileD} {k : Nat} (h : l[k]? = some g) : insGo f true (l.drop k) = g :: insGo f true (l.drop (k + 1)) := by rw [drop_head h, insGo, if_neg (by simp)]
theorem insGo_len (f : FileD) : ∀ (d : Bool) (l : List FileD), (insGo f d l).length = l.length + if d then 0 else 1
  | true, [] => rfl
  | false, [] => rfl
  | true, g :: r => by rw [insGo, if_neg (by simp), List.length_cons, insGo_len f true r]; simp
  | false, g :: r => by
    rw [insGo]
    split
    · rw [List.length_cons, List.length_cons, insGo_len f true r]; simp
    · rw [List.length_cons, insGo_len f false r]; simp
theorem insGo_all (f : FileD) (P : FileD → Prop) (hf : P f) : ∀ (d : Bool) (l : List FileD), (∀ x ∈ l, P x) → ∀ x ∈ insGo f d l, P x
  | true, [], _, x, hx => by simp [insGo] at hx
  | false, [], _, x, hx => by simp [insGo] at hx; rw [hx]; exact hf
  | d, g :: r, h, x, hx => by
    rw [insGo] at hx
    split at hx
    · rcases List.mem_cons.1 hx with rfl | hx
      · exact hf
      · rcases List.mem_cons.1 hx with rfl | hx
        · exact h _ (by simp)
        · exact insGo_all f P hf true r (fun y hy => h y (by simp [hy])) x hx
    · rcases List.mem_cons.1 hx with rfl | hx
      · exact h _ (by simp)
      · exact insGo_all f P hf d r (fun y hy => h y (by simp [hy])) x hx
def sortS (l : List FileD) : List FileD := l.foldl (fun out f => insGo f false out) []
theorem sort_step {l acc : List FileD} {k : Nat} {f : FileD} (h : l[k]? = some f) : (l.drop k).foldl (fun out f => insGo f false out) acc = (l.drop (k + 1)).foldl (fun out f => insGo f false out) (insGo f false acc) := by rw [drop_head h, List.foldl_cons]
theorem sort_end {l acc : List FileD} {k : Nat} (h : l.length ≤ k) : (l.drop k).foldl (fun out f => insGo f false out) acc = acc := by rw [List.drop_eq_nil_of_le h]; rfl
end Go.Proofs.YtlfennooocmclaaDoor
/- The walk through the reference's Sort. -/
namespace Go.Proofs.YtlfennooocmclaaDoor
open Go.RowKit
set_option linter.unusedVariables false

def InRel (w1 : World) (f : FileD) (acc I : List FileD) (vn vd v : Value) (ws : World) : Prop := ∃ (k : Nat) (nx : List FileD) (d : Bool), k ≤ acc.length ∧ v = .int .i64 k ∧ vd = .bool d ∧ ws.ownsRow w1.heap.size 33 3 vn nx.length (fcells nx) ∧ nx.length ≤ 2 * k ∧ Hid (nx ++ insGo f d (acc.drop k) = I) ∧ Below w1.heap.size w1 ws
set_option maxHeartbeats 4000000 in
set_option maxRecDepth 100000 in
theorem sort_ref (A : Option Addr) (c : Nat) (l : List FileD) (w : World) (hz : l.length ≤ 1000) (hx : ∀ f ∈ l, FOk f) (ha : Arr w w.heap.size 3 A l.length (fcells l)) :
    Calls Tryd.prog 45 #[.slice A l.length c] w fun e w' => ∃ A' c', e = .returned (.slice A' l.length c') ∧ Arr w' w'.heap.size 3 A' l.length (fcells (sortS l)) ∧ Below w.heap.size w w' := by
  obtain ⟨i1, gi0, gz0, gz1, gz2⟩ := info_parts infoFile
  have HA := Lib.hid ha
  have HX := Lib.hid hx
  clear ha hx
  generalize hR : sortS l = R
  have HR : Hid ((l.drop 0).foldl (fun out f => insGo f false out) [] = R) := Lib.hid hR
  clear hR
  go_enter Tryd.func45, Tryd.ntmps45
  go_wp2
  go_loopw [3, 4] (fun vo v wr => ∃ (i : Nat) (acc : List FileD) (A' : Option Addr) (c' : Nat), i ≤ l.length ∧ v = .int .i64 i ∧ vo = .slice A' acc.length c' ∧ acc.length = i ∧ Hid (Arr wr wr.heap.size 3 A' acc.length (fcells acc)) ∧ Hid (∀ f ∈ acc, FOk f) ∧ Hid ((l.drop i).foldl (fun out f => insGo f false out) acc = R) ∧ Below w.heap.size w wr) (fun _ v _ => l.length - (intOf v).toNat)
  case atStart => exact ⟨0, [], none, 0, Nat.zero_le _, rfl, rfl, rfl, Lib.hid (Arr.nil _ _ _ _), Lib.hid (by simp), HR, Below.refl _ _⟩
  case round =>
    obtain ⟨i, acc, A', c', hi, rfl, rfl, hal, HO, HXA, H, hB⟩ := hrel
    by_cases hlt : i < l.length
    · obtain ⟨f, hf⟩ : ∃ f, l[i]? = some f := ⟨_, List.getElem?_eq_getElem hlt⟩
      obtain ⟨b, o, rfl, hb, hcell⟩ := HA.out.2 (by omega)
      have cf := Lib.hid (file_cells (fun i u h => (hB.cell (p := ⟨b, o + i, none⟩) hb).trans (hcell i u h)) hf)
      have hfx := HX.out f (List.mem_of_getElem? hf)
      have hst := Lib.hid ((sort_step hf).symm.trans H.out)
      have hnx := Lib.hid (insGo_all f FOk hfx false acc HXA.out)
      have hln := insGo_len f false acc
      generalize hI : insGo f false acc = I at *
      have HI : Hid ([] ++ insGo f false (acc.drop 0) = I) := Lib.hid (by rw [List.nil_append]; exact hI)
      have kl : (i : Int) < l.length := by omega
      have hwb := hB.size
      clear hI hf hcell H
      obtain ⟨w1, rfl⟩ : ∃ w1, w1 = wr := ⟨_, rfl⟩
      go_wp2
      go_loopw [5, 6, 7] (fun vn vd v ws => InRel w1 f acc I vn vd v ws) (fun _ _ v _ => acc.length - (intOf v).toNat)
      case atStart => unfold InRel; exact ⟨0, [], false, Nat.zero_le _, rfl, rfl, World.ownsRow_nil _ _ _ _, Nat.le_refl _, HI, Below.refl _ _⟩
      case round =>
        unfold InRel at hrel
        obtain ⟨k, nx, d, hk, rfl, rfl, hown, hnl, H, hB2⟩ := hrel
        have hs2 := hB2.size
        have cf2 := (hB2.cell (p := ⟨b, o + i * 3, none⟩) (by show b < _; omega)).trans cf.out.1
        have cf3 := (hB2.cell (p := ⟨b, o + i * 3 + 1, none⟩) (by show b < _; omega)).trans cf.out.2.1
        have cf4 := (hB2.cell (p := ⟨b, o + i * 3 + 2, none⟩) (by show b < _; omega)).trans cf.out.2.2
        by_cases hlt2 : k < acc.length
        · obtain ⟨g, hg⟩ : ∃ g, acc[k]? = some g := ⟨_, List.getElem?_eq_getElem hlt2⟩
          obtain ⟨b2, o2, rfl, hb2, hcell2⟩ := HO.out.2 (by omega)
          obtain ⟨d0, d1, d2⟩ := file_cells (fun i u h => (hB2.cell (p := ⟨b2, o2 + i, none⟩) hb2).trans (hcell2 i u h)) hg
          have hgx := HXA.out g (List.mem_of_getElem? hg)
          have hor := fun W => order_ref f.path g.path W hfx.1 hgx.1
          have kl2 : (k : Int) < acc.length := by omega
          have HCG := Lib.hid (fun (W : World) (hh : Below w1.heap.size w1 W) => file_cells (w := W) (fun i u h => (hh.cell (p := ⟨b2, o2 + i, none⟩) hb2).trans (hcell2 i u h)) hg)
          have hownQ : ∀ n, (wr.drewN n).ownsRow w1.heap.size 33 3 _ nx.length (fcells nx) := fun n => hown
          clear hcell2
          cases d
          · have h1 := insGo_new (f := f) hg
            have h2 := insGo_old (f := f) hg
            generalize ordS f.path.data.toList g.path.data.toList = S at *
            have HS := Lib.hid hor
            by_cases hS : S < 0
            · have hst2 := Lib.hid ((congrArg (nx ++ ·) (h1 hS)).symm.trans H.out)
              clear h1 h2 hg H hor
              go_wp2
              go_quiet ((go_at_call 65; exact quiet_left (HS.out _)))
              go_wp2_with (first
                | (at_builtin; refine wpList_push rfl _ _ _ rfl Tryd.underlying22 gi0 gz0 gz1 gz2 file_zero (by decide) (hownQ _) rfl rfl rfl (file_one f) (by unfold maxLen; omega) (by omega) hs2 ?_; intro g6 cap6 w6 hown6 hgr6 hat6; have hB6 := (below_drewN hB2 _).grown hgr6 hs2 (fun j hj => (hown.lt j hj).1); have hs6 := hB6.size; obtain ⟨d0, d1, d2⟩ := HCG.out _ hB6)
                | (at_builtin; refine wpList_push rfl _ _ _ rfl Tryd.underlying22 gi0 gz0 gz1 gz2 file_zero (by decide) hown6 rfl rfl rfl (file_one g) (by unfold maxLen; omega) (by omega) hs6 ?_; intro g7 cap7 w7 hown7 hgr7 hat7; have hB7 := hB6.grown hgr7 hs6 (fun j hj => (hown6.lt j hj).1)))
              go_roundw
              case rel => unfold InRel; exact ⟨_, _, _, ⟨k + 1, (nx ++ [f]) ++ [g], true, by omega, rfl, rfl, by rw [List.length_append, List.length_append, fcells_snoc, fcells_snoc]; exact hown7, by simp; omega, Lib.hid (by have := hst2.out; simpa using this), hB7⟩, rfl, rfl, rfl⟩
              case measure => simp [intOf] <;> omega
            · have hst2 := Lib.hid ((congrArg (nx ++ ·) (h2 hS)).symm.trans H.out)
              clear h1 h2 hg H hor
              go_wp2
              go_quiet ((go_at_call 65; exact quiet_left (HS.out _)))
              go_wp2_with (at_builtin; refine wpList_push rfl _ _ _ rfl Tryd.underlying22 gi0 gz0 gz1 gz2 file_zero (by decide) (hownQ _) rfl rfl rfl (file_one g) (by unfold maxLen; omega) (by omega) hs2 ?_; intro g6 cap6 w6 hown6 hgr6 hat6; have hB6 := (below_drewN hB2 _).grown hgr6 hs2 (fun j hj => (hown.lt j hj).1); have hs6 := hB6.size; obtain ⟨d0, d1, d2⟩ := HCG.out _ hB6)
              go_roundw
              case rel => unfold InRel; exact ⟨_, _, _, ⟨k + 1, nx ++ [g], false, by omega, rfl, rfl, by rw [List.length_append, fcells_snoc]; exact hown6, by simp; omega, Lib.hid (by have := hst2.out; simpa using this), hB6⟩, rfl, rfl, rfl⟩
              case measure => simp [intOf] <;> omega
          · have hst2 := Lib.hid ((congrArg (nx ++ ·) (insGo_done (f := f) hg)).symm.trans H.out)
            clear hg H hor
            go_wp2
            go_quiet (fail)
            go_wp2_with (at_builtin; refine wpList_push rfl _ _ _ rfl Tryd.underlying22 gi0 gz0 gz1 gz2 file_zero (by decide) (hownQ _) rfl rfl rfl (file_one g) (by unfold maxLen; omega) (by omega) hs2 ?_; intro g6 cap6 w6 hown6 hgr6 hat6; have hB6 := (below_drewN hB2 _).grown hgr6 hs2 (fun j hj => (hown.lt j hj).1); have hs6 := hB6.size; obtain ⟨d0, d1, d2⟩ := HCG.out _ hB6)
            go_roundw
            case rel => unfold InRel; exact ⟨_, _, _, ⟨k + 1, nx ++ [g], true, by omega, rfl, rfl, by rw [List.length_append, fcells_snoc]; exact hown6, by simp; omega, Lib.hid (by have := hst2.out; simpa using this), hB6⟩, rfl, rfl, rfl⟩
            case measure => simp [intOf] <;> omega
        · have hH := H.out
          rw [insGo_end f d (by omega)] at hH
          cases d
          · rw [if_neg (by simp)] at hH
            have HH := Lib.hid hH
            clear H hH
            go_wp2_with (at_builtin; refine wpList_push rfl _ _ _ rfl Tryd.underlying22 gi0 gz0 gz1 gz2 file_zero (by decide) hown rfl rfl rfl (file_one f) (by unfold maxLen; omega) (by omega) hs2 ?_; intro g6 cap6 w6 hown6 hgr6 hat6; have hB6 := hB2.grown hgr6 hs2 (fun j hj => (hown.lt j hj).1))
            have ha6 := own_slice hown6
            have hlen : nx.length + 1 = I.length := by rw [← HH.out]; simp
            go_roundw
            case rel => exact ⟨i + 1, I, _, _, by omega, by go_num, by rw [← hlen], by rw [hln]; simp; omega, Lib.hid (by rw [← HH.out, List.length_append, fcells_snoc]; exact ha6), hnx, hst, below_on hB (hB6.mono (by omega))⟩
            case measure => simp [intOf] <;> omega
          · rw [if_pos rfl, List.append_nil] at hH
            subst hH
            obtain ⟨A6, c6, rfl, hcap, ha6, hfr⟩ := own_arr hown
            have HA6 := Lib.hid ha6
            clear H ha6
            go_wp2
            go_roundw
            case rel => exact ⟨i + 1, nx, A6, c6, by omega, by go_num, rfl, by rw [hln]; simp; omega, HA6, hnx, hst, below_on hB (hB2.mono (by omega))⟩
            case measure => simp [intOf] <;> omega
    · have hr := (sort_end (l := l) (acc := acc) (k := i) (by omega)).symm.trans H.out
      subst hr
      have hil : acc.length = l.length := by omega
      rw [hil] at HO
      rw [hil]
      have HO2 := HO.out
      clear H
      go_wp2
      go_ret
      exact ⟨A', c', rfl, HO2, hB⟩
end Go.Proofs.YtlfennooocmclaaDoor
/- What became of paths, as plain data: the merge that the program walks. No program in sight. -/
namespace Go.Proofs.YtlfennooocmclaaDoor
open Go.RowKit
set_option linter.unusedVariables false

structure ChD where
  kind : Int
  path : ByteArray
/-- One and the same path in both: what became of it. -/
def sameC (f g : ItemD) : List ChD := if f.size ≠ g.size ∨ f.mark ≠ g.mark then [⟨3, f.path⟩] else if f.mode ≠ g.mode then [⟨4, f.path⟩] else []
def btwGo : Nat → List ItemD → List ItemD → List ChD
  | 0, _, _ => []
  | _ + 1, [], [] => []
  | n + 1, f :: a, [] => ⟨1, f.path⟩ :: btwGo n a []
  | n + 1, [], g :: b => ⟨2, g.path⟩ :: btwGo n [] b
  | n + 1, f :: a, g :: b => if ordL f.path.data.toList g.path.data.toList < 0 then ⟨1, f.path⟩ :: btwGo n a (g :: b) else if 0 < ordL f.path.data.toList g.path.data.toList then ⟨2, g.path⟩ :: btwGo n (f :: a) b else sameC f g ++ btwGo n a b
def btwL (a b : List ItemD) : List ChD := btwGo (a.length + b.length) a b
def btwE (a b : List ItemD) : Int := if rightE a = 0 then rightE b else rightE a
section
variable {a b : List ItemD} {i j n : Nat} {f g : ItemD}
theorem btw_a (ha : a[i]? = some f) (hb : b.length ≤ j) : btwGo (n + 1) (a.drop i) (b.drop j) = ⟨1, f.path⟩ :: btwGo n (a.drop (i + 1)) (b.drop j) := by
  rw [drop_head ha, List.drop_eq_nil_of_le hb, btwGo]
theorem btw_b (ha : a.length ≤ i) (hb : b[j]? = some g) : btwGo (n + 1) (a.drop i) (b.drop j) = ⟨2, g.path⟩ :: btwGo n (a.drop i) (b.drop (j + 1)) := by
  rw [drop_head hb, List.drop_eq_nil_of_le ha, btwGo]
theorem btw_lt (ha : a[i]? = some f) (hb : b[j]? = some g) (h : ordL f.path.data.toList g.path.data.toList < 0) : btwGo (n + 1) (a.drop i) (b.drop j) = ⟨1, f.path⟩ :: btwGo n (a.drop (i + 1)) (b.drop j) := by
  rw [drop_head ha, drop_head hb, btwGo, if_pos h]
theorem btw_gt (ha : a[i]? = some f) (hb : b[j]? = some g) (h : 0 < ordL f.path.data.toList g.path.data.toList) : btwGo (n + 1) (a.drop i) (b.drop j) = ⟨2, g.path⟩ :: btwGo n (a.drop i) (b.drop (j + 1)) := by
  rw [drop_head ha, drop_head hb, btwGo, if_neg (by omega), if_pos h]
theorem btw_eq (ha : a[i]? = some f) (hb : b[j]? = some g) (h : ordL f.path.data.toList g.path.data.toList = 0) : btwGo (n + 1) (a.drop i) (b.drop j) = sameC f g ++ btwGo n (a.drop (i + 1)) (b.drop (j + 1)) := by
  rw [drop_head ha, drop_head hb, btwGo, if_neg (by omega), if_neg (by omega)]
theorem btw_end (ha : a.length ≤ i) (hb : b.length ≤ j) : btwGo n (a.drop i) (b.drop j) = [] := by
  rw [List.drop_eq_nil_of_le ha, List.drop_eq_nil_of_le hb]
  cases n <;> rw [btwGo]
end
/-- More fuel than items changes nothing. -/
theorem btw_fuel : ∀ (n m : Nat) (a b : List ItemD), a.length + b.length ≤ n → a.length + b.length ≤ m → btwGo n a b = btwGo m a b
  | 0, m, a, b, hn, _ => by
    have ha : a = [] := List.eq_nil_of_length_eq_zero (by omega)
    have hb : b = [] := List.eq_nil_of_length_eq_zero (by omega)
    subst ha
    subst hb
    cases m <;> simp [btwGo]
  | n + 1, 0, a, b, _, hm => by
    have ha : a = [] := List.eq_nil_of_length_eq_zero (by omega)
    have hb : b = [] := List.eq_nil_of_length_eq_zero (by omega)
    subst ha
    subst hb
    simp [btwGo]
  | n + 1, m + 1, [], [], _, _ => by simp [btwGo]
  | n + 1, m + 1, f :: a, [], hn, hm => by
    rw [btwGo, btwGo, btw_fuel n m a [] (by simp at hn ⊢; omega) (by simp at hm ⊢; omega)]
  | n + 1, m + 1, [], g :: b, hn, hm => by
    rw [btwGo, btwGo, btw_fuel n m [] b (by simp at hn ⊢; omega) (by simp at hm ⊢; omega)]
  | n + 1, m + 1, f :: a, g :: b, hn, hm => by
    rw [btwGo, btwGo, btw_fuel n m a (g :: b) (by simp at hn ⊢; omega) (by simp at hm ⊢; omega), btw_fuel n m (f :: a) b (by simp at hn ⊢; omega) (by simp at hm ⊢; omega), btw_fuel n m a b (by simp at hn ⊢; omega) (by simp at hm ⊢; omega)]
end Go.Proofs.YtlfennooocmclaaDoor
/- The plain law of Between: the reference's gathering, sorting and looking is the merge. No program in sight. -/
namespace Go.Proofs.YtlfennooocmclaaDoor
open Go.RowKit
set_option linter.unusedVariables false

/-! ### lists in a strict order -/
section
variable {α : Type} {R : α → α → Prop}
theorem pw_ext (hi : ∀ x, ¬ R x x) (ht : ∀ x y z, R x y → R y z → R x z) : ∀ l m : List α, l.Pairwise R → m.Pairwise R → (∀ x, x ∈ l ↔ x ∈ m) → l = m
  | [], [], _, _, _ => rfl
  | [], y :: m, _, _, h => absurd ((h y).2 (by simp)) (by simp)
  | x :: l, [], _, _, h => absurd ((h x).1 (by simp)) (by simp)
  | x :: l, y :: m, h1, h2, h => by
    rw [List.pairwise_cons] at h1 h2
    have e : x = y := by
      rcases List.mem_cons.1 ((h x).1 (by simp)) with e | hx
      · exact e
      · rcases List.mem_cons.1 ((h y).2 (by simp)) with e | hy
        · exact e.symm
        · exact absurd (ht _ _ _ (h1.1 y hy) (h2.1 x hx)) (hi x)
    subst e
    rw [pw_ext hi ht l m h1.2 h2.2 fun z => ⟨fun hz => by
      rcases List.mem_cons.1 ((h z).1 (List.mem_cons_of_mem _ hz)) with e | hm
      · subst e; exact absurd (h1.1 z hz) (hi z)
      · exact hm, fun hz => by
      rcases List.mem_cons.1 ((h z).2 (List.mem_cons_of_mem _ hz)) with e | hm
      · subst e; exact absurd (h2.1 z hz) (hi z)
      · exact hm⟩]
end
def pord (p q : ByteArray) : Int := ordS p.data.toList q.data.toList
theorem pord_irr (p : ByteArray) : ¬ pord p p < 0 := by
  have := (ordS_zero p.data.toList p.data.toList).2 rfl
  unfold pord
  omega
theorem pord_trans {p q r : ByteArray} (h1 : pord p q < 0) (h2 : pord q r < 0) : pord p r < 0 := by
  unfold pord at *
  have h3 := ordS_trans _ _ _ (Int.le_of_lt h1) (Int.le_of_lt h2)
  by_cases h4 : ordS p.data.toList r.data.toList = 0
  · have h5 := (ordS_zero _ _).1 h4
    rw [← h5] at h2
    have h6 := ordS_flip p.data.toList q.data.toList
    omega
  · omega
theorem pord_ne {p q : ByteArray} (h : pord p q < 0) : p ≠ q := fun e => pord_irr p (by rw [← e] at h; exact h)
theorem pord_gt {p q : ByteArray} (h : ¬ pord p q < 0) (hn : p ≠ q) : pord q p < 0 := by
  unfold pord at *
  have h1 := ordS_flip p.data.toList q.data.toList
  have h2 : ordS p.data.toList q.data.toList ≠ 0 := fun e => hn (ba_ext ((ordS_zero _ _).1 e))
  omega
theorem ordL_lt (p q : ByteArray) : ordL p.data.toList q.data.toList < 0 ↔ pord p q < 0 := by
  have := sgn_ord p.data.toList q.data.toList
  unfold pord
  unfold sgnI at this
  split at this <;> (try split at this) <;> omega
theorem ordL_gt (p q : ByteArray) : 0 < ordL p.data.toList q.data.toList ↔ pord q p < 0 := by
  have := sgn_ord p.data.toList q.data.toList
  have h2 := ordS_flip p.data.toList q.data.toList
  unfold pord
  unfold sgnI at this
  split at this <;> (try split at this) <;> omega
theorem ordL_eq {p q : ByteArray} (h1 : ¬ ordL p.data.toList q.data.toList < 0) (h2 : ¬ 0 < ordL p.data.toList q.data.toList) : p = q := by
  have h3 : sgnI (ordL p.data.toList q.data.toList) = 0 := by unfold sgnI; rw [if_neg h1, if_neg h2]
  rw [sgn_ord] at h3
  exact ba_ext ((ordS_zero _ _).1 h3)

/-! ### the reference's Sort -/
def FR (f g : FileD) : Prop := pord f.path g.path < 0
theorem insGo_true (f : FileD) : ∀ l, insGo f true l = l
  | [] => rfl
  | g :: r => by rw [insGo, if_neg (by simp), insGo_true f r]
theorem insGo_mem (f : FileD) : ∀ (l : List FileD) (x : FileD), x ∈ insGo f false l ↔ x = f ∨ x ∈ l
  | [], x => by simp [insGo]
  | g :: r, x => by
    rw [insGo]
    split
    · rw [insGo_true]; simp
    · simp only [List.mem_cons, insGo_mem f r x]
      constructor
      · rintro (h | h | h)
        · exact .inr (.inl h)
        · exact .inl h
        · exact .inr (.inr h)
      · rintro (h | h | h)
        · exact .inr (.inl h)
        · exact .inl h
        · exact .inr (.inr h)
theorem insGo_pw (f : FileD) : ∀ l : List FileD, l.Pairwise FR → (∀ g ∈ l, f.path ≠ g.path) → (insGo f false l).Pairwise FR
  | [], _, _ => by simp [insGo]
  | g :: r, h, hn => by
    rw [List.pairwise_cons] at h
    rw [insGo]
    split
    · rename_i hc
      rw [insGo_true]
      have hfg : FR f g := hc.2
      refine List.pairwise_cons.2 ⟨fun x hx => ?_, List.pairwise_cons.2 h⟩
      rcases List.mem_cons.1 hx with rfl | hx
      · exact hfg
      · exact pord_trans hfg (h.1 x hx)
    · rename_i hc
      have hgf : FR g f := pord_gt (p := f.path) (fun hh => hc ⟨rfl, hh⟩) (hn g (by simp))
      refine List.pairwise_cons.2 ⟨fun x hx => ?_, insGo_pw f r h.2 fun x hx => hn x (by simp [hx])⟩
      rcases (insGo_mem f r x).1 hx with rfl | hx
      · exact hgf
      · exact h.1 x hx
theorem fold_sort : ∀ (l acc : List FileD), acc.Pairwise FR → l.Pairwise (fun f g => f.path ≠ g.path) → (∀ f ∈ l, ∀ g ∈ acc, f.path ≠ g.path) →
    (l.foldl (fun out f => insGo f false out) acc).Pairwise FR ∧ ∀ x, x ∈ l.foldl (fun out f => insGo f false out) acc ↔ x ∈ l ∨ x ∈ acc
  | [], acc, h, _, _ => ⟨h, fun x => by simp⟩
  | f :: l, acc, h, hl, hd => by
    rw [List.pairwise_cons] at hl
    have := fold_sort l (insGo f false acc) (insGo_pw f acc h (hd f (by simp))) hl.2 (fun x hx g hg => by
      rcases (insGo_mem f acc g).1 hg with rfl | hg
      · exact (hl.1 x hx).symm
      · exact hd x (by simp [hx]) g hg)
    refine ⟨this.1, fun x => ?_⟩
    rw [List.foldl_cons, this.2 x, insGo_mem, List.mem_cons]
    constructor
    · rintro (h | h | h)
      · exact .inl (.inr h)
      · exact .inl (.inl h)
      · exact .inr h
    · rintro ((h | h) | h)
      · exact .inr (.inl h)
      · exact .inl h
      · exact .inr (.inr h)

/-! ### looking -/
def lookI (p : ByteArray) : List ItemD → Option ItemD
  | [] => none
  | f :: r => if f.path = p then some f else lookI p r
theorem look_some {p : ByteArray} {f : ItemD} : ∀ {l : List ItemD}, lookI p l = some f → f ∈ l ∧ f.path = p
  | g :: r, h => by
    rw [lookI] at h
    split at h
    · injection h with h; subst h; exact ⟨by simp, by assumption⟩
    · exact ⟨List.mem_cons_of_mem _ (look_some h).1, (look_some h).2⟩
theorem look_none {p : ByteArray} : ∀ {l : List ItemD}, lookI p l = none ↔ ∀ f ∈ l, f.path ≠ p
  | [] => by simp [lookI]
  | g :: r => by
    rw [lookI]
    split
    · rename_i h; simp [h]
    · rename_i h
      rw [look_none]
      simp [h]
theorem look_skip {p : ByteArray} {f : ItemD} {l : List ItemD} (h : f.path ≠ p) : lookI p (f :: l) = lookI p l := by rw [lookI, if_neg h]
theorem look_hit {p : ByteArray} {f : ItemD} {l : List ItemD} (h : f.path = p) : lookI p (f :: l) = some f := by rw [lookI, if_pos h]
theorem place_none {p : ByteArray} : ∀ {k : Nat} {l : List ItemD}, lookI p l = none → placeGo p k l = -1
  | _, [], _ => rfl
  | k, f :: l, h => by
    rw [lookI] at h
    rw [placeGo]
    split at h
    · cases h
    · rename_i hn; rw [if_neg hn]; exact place_none h
theorem place_some {p : ByteArray} {f : ItemD} : ∀ {k : Nat} {l : List ItemD}, lookI p l = some f → ∃ i : Nat, placeGo p k l = ((k + i : Nat) : Int) ∧ l[i]? = some f
  | k, g :: l, h => by
    rw [lookI] at h
    rw [placeGo]
    split at h
    · rename_i hn; injection h with h; subst h; rw [if_pos hn]; exact ⟨0, by simp, rfl⟩
    · rename_i hn
      rw [if_neg hn]
      obtain ⟨i, h1, h2⟩ := place_some (k := k + 1) h
      exact ⟨i + 1, by rw [h1]; congr 1; omega, by simpa using h2⟩

/-- What became of one path. -/
def entC (a b : List ItemD) (p : ByteArray) : List ChD := match lookI p b with
  | none => [⟨1, p⟩]
  | some g => match lookI p a with
    | none => [⟨2, p⟩]
    | some f => if f.size ≠ g.size ∨ f.mark ≠ g.mark then [⟨3, p⟩] else if f.mode ≠ g.mode then [⟨4, p⟩] else []
def pfile (p : ByteArray) : FileD := ⟨p, 0, ⟨#[]⟩⟩
/-- The paths that the reference gathers. -/
def gath (a b : List ItemD) : List FileD := a.map (fun f => pfile f.path) ++ (b.filter fun g => (lookI g.path a).isNone).map fun g => pfile g.path
def refC (a b : List ItemD) : List ChD := (sortS (gath a b)).flatMap fun h => entC a b h.path

/-! ### the merge's paths -/
def uniGo : Nat → List ItemD → List ItemD → List ByteArray
  | 0, _, _ => []
  | _ + 1, [], [] => []
  | n + 1, f :: a, [] => f.path :: uniGo n a []
  | n + 1, [], g :: b => g.path :: uniGo n [] b
  | n + 1, f :: a, g :: b => if ordL f.path.data.toList g.path.data.toList < 0 then f.path :: uniGo n a (g :: b) else if 0 < ordL f.path.data.toList g.path.data.toList then g.path :: uniGo n (f :: a) b else f.path :: uniGo n a b
def IR (f g : ItemD) : Prop := pord f.path g.path < 0
theorem uni_mem : ∀ (n : Nat) (a b : List ItemD), a.length + b.length ≤ n → ∀ p, p ∈ uniGo n a b ↔ (∃ f ∈ a, f.path = p) ∨ ∃ g ∈ b, g.path = p
  | 0, a, b, h, p => by
    obtain rfl : a = [] := List.eq_nil_of_length_eq_zero (by omega)
    obtain rfl : b = [] := List.eq_nil_of_length_eq_zero (by omega)
    simp [uniGo]
  | n + 1, [], [], _, p => by simp [uniGo]
  | n + 1, f :: a, [], h, p => by
    rw [uniGo, List.mem_cons, uni_mem n a [] (by simp at h ⊢; omega)]
    simp [eq_comm]
  | n + 1, [], g :: b, h, p => by
    rw [uniGo, List.mem_cons, uni_mem n [] b (by simp at h ⊢; omega)]
    simp [eq_comm]
  | n + 1, f :: a, g :: b, h, p => by
    rw [uniGo]
    split
    · rw [List.mem_cons, uni_mem n a (g :: b) (by simp at h ⊢; omega)]
      simp [eq_comm, or_assoc]
    · split
      · rw [List.mem_cons, uni_mem n (f :: a) b (by simp at h ⊢; omega)]
        simp only [List.mem_cons, exists_eq_or_imp]
        constructor
        · rintro (h | h | h)
          · exact .inr (.inl h.symm)
          · exact .inl h
          · exact .inr (.inr h)
        · rintro (h | h | h)
          · exact .inr (.inl h)
          · exact .inl h.symm
          · exact .inr (.inr h)
      · rename_i h1 h2
        have e := ordL_eq h1 h2
        rw [List.mem_cons, uni_mem n a b (by simp at h ⊢; omega)]
        simp only [List.mem_cons, exists_eq_or_imp]
        constructor
        · rintro (h | h | h)
          · exact .inl (.inl h.symm)
          · exact .inl (.inr h)
          · exact .inr (.inr h)
        · rintro ((h | h) | h | h)
          · exact .inl h.symm
          · exact .inr (.inl h)
          · exact .inl (by rw [e]; exact h.symm)
          · exact .inr (.inr h)
theorem uni_pw : ∀ (n : Nat) (a b : List ItemD), a.length + b.length ≤ n → a.Pairwise IR → b.Pairwise IR → (uniGo n a b).Pairwise (fun p q => pord p q < 0)
  | 0, a, b, h, _, _ => by simp [uniGo]
  | n + 1, [], [], _, _, _ => by simp [uniGo]
  | n + 1, f :: a, [], h, ha, hb => by
    rw [List.pairwise_cons] at ha
    rw [uniGo]
    refine List.pairwise_cons.2 ⟨fun p hp => ?_, uni_pw n a [] (by simp at h ⊢; omega) ha.2 hb⟩
    rcases (uni_mem n a [] (by simp at h ⊢; omega) p).1 hp with ⟨x, hx, rfl⟩ | ⟨x, hx, rfl⟩
    · exact ha.1 x hx
    · simp at hx
  | n + 1, [], g :: b, h, ha, hb => by
    rw [List.pairwise_cons] at hb
    rw [uniGo]
    refine List.pairwise_cons.2 ⟨fun p hp => ?_, uni_pw n [] b (by simp at h ⊢; omega) ha hb.2⟩
    rcases (uni_mem n [] b (by simp at h ⊢; omega) p).1 hp with ⟨x, hx, rfl⟩ | ⟨x, hx, rfl⟩
    · simp at hx
    · exact hb.1 x hx
  | n + 1, f :: a, g :: b, h, ha, hb => by
    have ha0 := ha
    have hb0 := hb
    rw [List.pairwise_cons] at ha hb
    rw [uniGo]
    split
    · rename_i h1
      have h1 := (ordL_lt _ _).1 h1
      refine List.pairwise_cons.2 ⟨fun p hp => ?_, uni_pw n a (g :: b) (by simp at h ⊢; omega) ha.2 hb0⟩
      rcases (uni_mem n a (g :: b) (by simp at h ⊢; omega) p).1 hp with ⟨x, hx, rfl⟩ | ⟨x, hx, rfl⟩
      · exact ha.1 x hx
      · rcases List.mem_cons.1 hx with rfl | hx
        · exact h1
        · exact pord_trans h1 (hb.1 x hx)
    · split
      · rename_i h2
        have h2 := (ordL_gt _ _).1 h2
        refine List.pairwise_cons.2 ⟨fun p hp => ?_, uni_pw n (f :: a) b (by simp at h ⊢; omega) ha0 hb.2⟩
        rcases (uni_mem n (f :: a) b (by simp at h ⊢; omega) p).1 hp with ⟨x, hx, rfl⟩ | ⟨x, hx, rfl⟩
        · rcases List.mem_cons.1 hx with rfl | hx
          · exact h2
          · exact pord_trans h2 (ha.1 x hx)
        · exact hb.1 x hx
      · rename_i h1 h2
        have e := ordL_eq h1 h2
        refine List.pairwise_cons.2 ⟨fun p hp => ?_, uni_pw n a b (by simp at h ⊢; omega) ha.2 hb.2⟩
        rcases (uni_mem n a b (by simp at h ⊢; omega) p).1 hp with ⟨x, hx, rfl⟩ | ⟨x, hx, rfl⟩
        · exact ha.1 x hx
        · rw [e]; exact hb.1 x hx
theorem ent_skip_a {f : ItemD} {a b : List ItemD} {p : ByteArray} (h : f.path ≠ p) : entC (f :: a) b p = entC a b p := by unfold entC; rw [look_skip h]
theorem ent_skip_b {g : ItemD} {a b : List ItemD} {p : ByteArray} (h : g.path ≠ p) : entC a (g :: b) p = entC a b p := by unfold entC; rw [look_skip h]
theorem ent_gone {a b : List ItemD} {p : ByteArray} (h : ∀ g ∈ b, g.path ≠ p) : entC a b p = [⟨1, p⟩] := by unfold entC; rw [look_none.2 h]
theorem ent_came {g : ItemD} {a b : List ItemD} (h : ∀ f ∈ a, f.path ≠ g.path) : entC a (g :: b) g.path = [⟨2, g.path⟩] := by unfold entC; rw [look_hit rfl, look_none.2 h]
theorem ent_both {f g : ItemD} {a b : List ItemD} (h : f.path = g.path) : entC (f :: a) (g :: b) f.path = sameC f g := by unfold entC sameC; rw [look_hit h.symm, look_hit rfl]
theorem flat_cons_congr {l : List ByteArray} {P Q : ByteArray → List ChD} (h : ∀ p ∈ l, P p = Q p) : l.flatMap P = l.flatMap Q := by
  induction l with
  | nil => rfl
  | cons x l ih => rw [List.flatMap_cons, List.flatMap_cons, h x (by simp), ih fun p hp => h p (by simp [hp])]
theorem btw_uni : ∀ (n : Nat) (a b : List ItemD), a.length + b.length ≤ n → a.Pairwise IR → b.Pairwise IR → btwGo n a b = (uniGo n a b).flatMap (entC a b)
  | 0, a, b, h, _, _ => by simp [uniGo, btwGo]
  | n + 1, [], [], _, _, _ => by simp [uniGo, btwGo]
  | n + 1, f :: a, [], h, ha, hb => by
    have ha0 := List.pairwise_cons.1 ha
    rw [uniGo, btwGo, List.flatMap_cons, ent_gone (by simp), btw_uni n a [] (by simp at h ⊢; omega) ha0.2 hb]
    rw [flat_cons_congr (Q := entC (f :: a) []) fun p hp => ?_]
    · rfl
    · rcases (uni_mem n a [] (by simp at h ⊢; omega) p).1 hp with ⟨x, hx, rfl⟩ | ⟨x, hx, rfl⟩
      · exact (ent_skip_a (pord_ne (ha0.1 x hx))).symm
      · simp at hx
  | n + 1, [], g :: b, h, ha, hb => by
    have hb0 := List.pairwise_cons.1 hb
    rw [uniGo, btwGo, List.flatMap_cons, ent_came (by simp), btw_uni n [] b (by simp at h ⊢; omega) ha hb0.2]
    rw [flat_cons_congr (Q := entC [] (g :: b)) fun p hp => ?_]
    · rfl
    · rcases (uni_mem n [] b (by simp at h ⊢; omega) p).1 hp with ⟨x, hx, rfl⟩ | ⟨x, hx, rfl⟩
      · simp at hx
      · exact (ent_skip_b (pord_ne (hb0.1 x hx))).symm
  | n + 1, f :: a, g :: b, h, ha, hb => by
    have ha0 := List.pairwise_cons.1 ha
    have hb0 := List.pairwise_cons.1 hb
    rw [uniGo, btwGo]
    by_cases h1 : ordL f.path.data.toList g.path.data.toList < 0
    · rw [if_pos h1, if_pos h1]
      have h1 := (ordL_lt _ _).1 h1
      have hfb : ∀ x ∈ g :: b, f.path ≠ x.path := by
        intro x hx
        rcases List.mem_cons.1 hx with rfl | hx
        · exact pord_ne h1
        · exact pord_ne (pord_trans h1 (hb0.1 x hx))
      rw [List.flatMap_cons, ent_gone (fun x hx => (hfb x hx).symm), btw_uni n a (g :: b) (by simp at h ⊢; omega) ha0.2 hb]
      rw [flat_cons_congr (Q := entC (f :: a) (g :: b)) fun p hp => ?_]
      · rfl
      · rcases (uni_mem n a (g :: b) (by simp at h ⊢; omega) p).1 hp with ⟨x, hx, rfl⟩ | ⟨x, hx, rfl⟩
        · exact (ent_skip_a (pord_ne (ha0.1 x hx))).symm
        · exact (ent_skip_a (hfb x hx)).symm
    · rw [if_neg h1, if_neg h1]
      by_cases h2 : 0 < ordL f.path.data.toList g.path.data.toList
      · rw [if_pos h2, if_pos h2]
        have h2 := (ordL_gt _ _).1 h2
        have hga : ∀ x ∈ f :: a, g.path ≠ x.path := by
          intro x hx
          rcases List.mem_cons.1 hx with rfl | hx
          · exact pord_ne h2
          · exact pord_ne (pord_trans h2 (ha0.1 x hx))
        rw [List.flatMap_cons, ent_came (fun x hx => (hga x hx).symm), btw_uni n (f :: a) b (by simp at h ⊢; omega) ha hb0.2]
        rw [flat_cons_congr (Q := entC (f :: a) (g :: b)) fun p hp => ?_]
        · rfl
        · rcases (uni_mem n (f :: a) b (by simp at h ⊢; omega) p).1 hp with ⟨x, hx, rfl⟩ | ⟨x, hx, rfl⟩
          · exact (ent_skip_b (hga x hx)).symm
          · exact (ent_skip_b (pord_ne (hb0.1 x hx))).symm
      · rw [if_neg h2, if_neg h2]
        have e := ordL_eq h1 h2
        rw [List.flatMap_cons, ent_both e, btw_uni n a b (by simp at h ⊢; omega) ha0.2 hb0.2]
        rw [flat_cons_congr (Q := entC (f :: a) (g :: b)) fun p hp => ?_]
        have : f.path ≠ p := by
          rcases (uni_mem n a b (by simp at h ⊢; omega) p).1 hp with ⟨x, hx, rfl⟩ | ⟨x, hx, rfl⟩
          · exact pord_ne (ha0.1 x hx)
          · rw [e]; exact pord_ne (hb0.1 x hx)
        rw [ent_skip_a this, ent_skip_b (e ▸ this)]

/-! ### a manifest that is right stands in the strict order -/
theorem paths_chain : ∀ (q : List UInt8) (l : List (List UInt8)), pathsGo (some q) l = 0 → (q :: l).Pairwise (fun x y => ordS x y < 0)
  | q, [], _ => by simp
  | q, s :: r, h => by
    rw [pathsGo] at h
    split at h
    · rename_i hs
      have ih := paths_chain s r h
      unfold stepE at hs
      split at hs
      · rename_i hp
        have h1 : ¬ 0 < ordL q s := fun hh => by simp [pairE, hh] at hs
        have h2 : ordL q s ≠ 0 := fun hh => by simp [pairE, hh] at hs
        have h3 : ordS q s < 0 := by
          have := sgn_ord q s
          unfold sgnI at this
          rw [if_pos (by omega)] at this
          omega
        refine List.pairwise_cons.2 ⟨fun x hx => ?_, ih⟩
        rcases List.mem_cons.1 hx with rfl | hx
        · exact h3
        · exact pord_trans (p := ⟨q.toArray⟩) (q := ⟨s.toArray⟩) (r := ⟨x.toArray⟩) (by simpa [pord] using h3) (by simpa [pord] using (List.pairwise_cons.1 ih).1 x hx) |> fun h => by simpa [pord] using h
      · rename_i hp; exact absurd hs hp
    · rename_i hs; exact absurd h hs
theorem paths_pw {l : List (List UInt8)} (h : pathsE l = 0) : l.Pairwise (fun x y => ordS x y < 0) := by
  unfold pathsE at h
  split at h
  · cases h
  · cases l with
    | nil => simp
    | cons s r =>
      rw [pathsGo] at h
      split at h
      · exact paths_chain s r h
      · rename_i hs; exact absurd h hs
theorem right_pw {l : List ItemD} (h : rightE l = 0) : l.length ≤ 256 ∧ l.Pairwise IR := by
  unfold rightE at h
  split at h
  · rename_i h0
    refine ⟨?_, ?_⟩
    · unfold pathsE at h0
      split at h0
      · cases h0
      · rename_i hn
        simp [lists, ipaths] at hn
        exact hn
    · have := paths_pw h0
      unfold lists ipaths at this
      rw [List.map_map, List.pairwise_map] at this
      exact this
  · rename_i h0; exact absurd h h0
theorem gath_ne {a b : List ItemD} (ha : a.Pairwise IR) (hb : b.Pairwise IR) : (gath a b).Pairwise (fun f g => f.path ≠ g.path) := by
  unfold gath
  rw [List.pairwise_append]
  refine ⟨?_, ?_, ?_⟩
  · rw [List.pairwise_map]
    exact ha.imp fun h => pord_ne h
  · rw [List.pairwise_map]
    exact (hb.filter _).imp fun h => pord_ne h
  · intro x hx y hy
    obtain ⟨f, hf, rfl⟩ := List.mem_map.1 hx
    obtain ⟨g, hg, rfl⟩ := List.mem_map.1 hy
    have := (List.mem_filter.1 hg).2
    rw [Option.isNone_iff_eq_none, look_none] at this
    exact this f hf
theorem refC_btw {a b : List ItemD} (h0 : rightE a = 0) (h1 : rightE b = 0) : refC a b = btwL a b := by
  obtain ⟨_, ha⟩ := right_pw h0
  obtain ⟨_, hb⟩ := right_pw h1
  have hs := fold_sort (gath a b) [] List.Pairwise.nil (gath_ne ha hb) (by simp)
  have e : sortS (gath a b) = (uniGo (a.length + b.length) a b).map pfile := by
    refine pw_ext (R := FR) (fun x => pord_irr _) (fun x y z => pord_trans) _ _ hs.1 ?_ ?_
    · rw [List.pairwise_map]
      exact uni_pw _ a b (Nat.le_refl _) ha hb
    · intro x
      rw [show x ∈ sortS (gath a b) ↔ x ∈ gath a b ∨ x ∈ [] from hs.2 x]
      simp only [List.not_mem_nil, or_false]
      unfold gath
      rw [List.mem_append, List.mem_map, List.mem_map, List.mem_map]
      constructor
      · rintro (⟨f, hf, rfl⟩ | ⟨g, hg, rfl⟩)
        · exact ⟨f.path, (uni_mem _ a b (Nat.le_refl _) _).2 (.inl ⟨f, hf, rfl⟩), rfl⟩
        · exact ⟨g.path, (uni_mem _ a b (Nat.le_refl _) _).2 (.inr ⟨g, (List.mem_filter.1 hg).1, rfl⟩), rfl⟩
      · rintro ⟨p, hp, rfl⟩
        rcases (uni_mem _ a b (Nat.le_refl _) _).1 hp with ⟨f, hf, rfl⟩ | ⟨g, hg, rfl⟩
        · exact .inl ⟨f, hf, rfl⟩
        · by_cases hl : lookI g.path a = none
          · exact .inr ⟨g, List.mem_filter.2 ⟨hg, by rw [hl]; rfl⟩, rfl⟩
          · obtain ⟨f, hf⟩ := Option.ne_none_iff_exists'.1 hl
            obtain ⟨h1, h2⟩ := look_some hf
            exact .inl ⟨f, h1, by rw [h2]⟩
  unfold refC btwL
  rw [e, btw_uni _ a b (Nat.le_refl _) ha hb, List.flatMap_map]
  rfl
end Go.Proofs.YtlfennooocmclaaDoor
