/- The walks through the reference's inName.; The walks through the reference's Pattern.; The walk through the reference's Match.; The walk through TreeChecks.; append of whatever slice came in, nil included, onto a row of the call's own; elements of whatever number of cells.; The walks through fits, one, few, Files.; The walk through Filter.; The walk through the reference's Filter.; The walk through TreeFilters.; Manifests: what is wrong with one (Right), the walks through the program's and the reference's.; A manifest's bytes, plain; the walks through shared, the reference's shared, the closure that writes a number, the reference's Bytes of a number and Text.; The walk through Bytes.; The walk through the reference's Bytes; the law TreeBytes.; Plain laws of a reader's lists: no program in sight.; The manifest that bytes are, as plain data: no program in sight. -/
import Derived.Test.YtmcgaaihdjpdgaaGreatDoorTreeRef3
import Derived.Test.YtmcgaaihdjpdgaaGreatDoorCls
import Derived.Test.YtmcgaaihdjpdgaaGreatDoorLiftFiles
import Derived.Test.YtmcgaaihdjpdgaaGreatDoorFrame
import Derived.Maps.AppendAt
import Derived.Test.YtmcgaaihdjpdgaaGreatDoorBuilder
import Derived.Test.YtmcgaaihdjpdgaaGreatDoorRdAll
import Derived.Test.YtmcgaaihdjpdgaaGreatDoorRefRdA
/- The walks through the reference's inName. -/
namespace Go.Proofs.YtmcgaaihdjpdgaaGreatDoor
open Go.RowKit
set_option linter.unusedVariables false

section
variable {w : World} {g : Nat} {t : TypeId} {n m : Nat} {F : Nat → Bool} {v : Bool}
/-- A row that is filled from behind. -/
theorem Blk.dput (h : Blk w g t (brow n (fun i => if m + 1 ≤ i then F i else false))) (hv : F m = v) : Blk (w.setCell ⟨g, m, none⟩ (.bool v)) g t (brow n (fun i => if m ≤ i then F i else false)) := by
  have h2 := h.set_ m (.bool v)
  rw [brow_set] at h2
  rwa [brow_congr (g := fun i => if m ≤ i then F i else false)] at h2
  intro i _
  by_cases e : i = m
  · subst e; simp [hv]
  · by_cases h3 : m + 1 ≤ i
    · rw [if_neg e, if_pos h3, if_pos (by omega)]
    · rw [if_neg e, if_neg h3, if_neg (by omega)]
theorem Blk.dget (h : Blk w g t (brow n (fun i => if m ≤ i then F i else false))) {i : Nat} (hi : i < n) (hm : m ≤ i) : w.cell? ⟨g, i, none⟩ = some (.bool (F i)) := by
  rw [h.cell i, brow_get _ hi, if_pos hm]
theorem Blk.dgone (h : Blk w g t (brow n (fun i => if m + 1 ≤ i then F i else false))) (hm : m < n) : w.cell? ⟨g, m, none⟩ = some (.bool false) := by
  rw [h.cell m, brow_get _ hm, if_neg (by omega)]
end
theorem flat_one {W i k : Nat} (T : Nat → Nat → Bool) (hk : k < W) : (fun j => T (j / W) (j % W)) (i * W + k) = T i k := by
  show T ((i * W + k) / W) ((i * W + k) % W) = _
  rw [Nat.mul_comm, Nat.mul_add_div (by omega), Nat.mul_add_mod, Nat.div_eq_of_lt hk, Nat.mod_eq_of_lt hk, Nat.add_zero]
/-- Cell (i, k) of the table. -/
def inBack (p s : List UInt8) (i k : Nat) : Bool := fitB nameStar nameOne (p.drop i) (s.drop k)
section
variable {p s : List UInt8} {i k : Nat}
theorem inBack_end (hi : i = p.length) (hk : k ≤ s.length) : inBack p s i k = decide (k = s.length) := by rw [hi]; exact back_end _ _ hk
theorem inBack_star (hi : i < p.length) (hk : k < s.length) (hc : bt p i = 42) : inBack p s i k = (inBack p s (i + 1) k || inBack p s i (k + 1)) := back_star _ _ (bt_some hi) (by rw [hc]; rfl) (bt_some hk)
theorem inBack_star_end (hi : i < p.length) (hk : k = s.length) (hc : bt p i = 42) : inBack p s i k = inBack p s (i + 1) k := by rw [hk]; exact back_star_end _ _ (bt_some hi) (by rw [hc]; rfl)
theorem inBack_one (hi : i < p.length) (hk : k < s.length) (hc : bt p i ≠ 42) : inBack p s i k = (nameOne (bt p i) (bt s k) && inBack p s (i + 1) (k + 1)) := back_one _ _ (bt_some hi) (notStar hc) (bt_some hk)
theorem inBack_one_end (hi : i < p.length) (hk : k = s.length) (hc : bt p i ≠ 42) : inBack p s i k = false := by rw [hk]; exact back_one_end _ _ (bt_some hi) (notStar hc)
end
/-- The table, laid flat. -/
def inFlat (p s : List UInt8) (W j : Nat) : Bool := inBack p s (j / W) (j % W)
theorem inFlat_at (p s : List UInt8) {W i k : Nat} (hk : k < W) : inFlat p s W (i * W + k) = inBack p s i k := flat_one (inBack p s) hk
theorem nat_facts (P W i : Nat) (hP : P ≤ 200) (hW : W ≤ 201) (hi : i ≤ P) : ∃ R0 R1 N : Nat, R0 = i * W ∧ R1 = (i + 1) * W ∧ R1 = R0 + W ∧ N = (P + 1) * W ∧ R1 ≤ N ∧ N ≤ 40401 ∧ (i < P → R1 + W ≤ N) := by
  refine ⟨_, _, _, rfl, rfl, by rw [Nat.add_mul, Nat.one_mul], rfl, Nat.mul_le_mul_right _ (by omega), by have := Nat.mul_le_mul (show P + 1 ≤ 201 by omega) hW; omega, fun h => ?_⟩
  have : (i + 2) * W ≤ (P + 1) * W := Nat.mul_le_mul_right _ (by omega)
  have e : (i + 2) * W = (i + 1) * W + W := by rw [Nat.add_mul, Nat.add_mul]; omega
  omega

theorem nat_facts' (P W i : Nat) (hP : P ≤ 201) (hW : W ≤ 202) (hi : i ≤ P) : ∃ R0 R1 N : Nat, R0 = i * W ∧ R1 = (i + 1) * W ∧ R1 = R0 + W ∧ N = (P + 1) * W ∧ R1 ≤ N ∧ N ≤ 40804 ∧ (i < P → R1 + W ≤ N) := by
  refine ⟨_, _, _, rfl, rfl, by rw [Nat.add_mul, Nat.one_mul], rfl, Nat.mul_le_mul_right _ (by omega), by have := Nat.mul_le_mul (show P + 1 ≤ 202 by omega) hW; omega, fun h => ?_⟩
  have : (i + 2) * W ≤ (P + 1) * W := Nat.mul_le_mul_right _ (by omega)
  have e : (i + 2) * W = (i + 1) * W + W := by rw [Nat.add_mul, Nat.add_mul]; omega
  omega

theorem flat_wraps {i k R1 N : Nat} (h1 : R1 + k + 1 < N) (h2 : N ≤ 40804) (h3 : i ≤ 1000) : IntKind.i64.wrap ((i : Int) + 1) = (i : Int) + 1 ∧ IntKind.i64.wrap (R1 : Int) = R1 ∧ IntKind.i64.wrap ((R1 : Int) + k) = (R1 : Int) + k ∧ IntKind.i64.wrap ((R1 : Int) + k + 1) = (R1 : Int) + k + 1 ∧
    (R1 : Int) + k + 1 < N ∧ 0 ≤ (R1 : Int) + k + 1 ∧ ((R1 : Int) + k + 1).toNat = R1 + k + 1 :=
  ⟨IntWalk.i64_in _ (by omega), IntWalk.i64_in _ (by omega), IntWalk.i64_in _ (by omega), IntWalk.i64_in _ (by omega), by omega, by omega, by omega⟩

end Go.Proofs.YtmcgaaihdjpdgaaGreatDoor
/- The walks through the reference's Pattern. -/
namespace Go.Proofs.YtmcgaaihdjpdgaaGreatDoor
open Go.RowKit
set_option linter.unusedVariables false

/-- A text's bytes, turned and read as a text again: what the walk wants of it, at one world. -/
theorem plain_facts (x : ByteArray) (w : World) : ∃ (W1 : World) (C : Nat) (y : ByteArray) (L : List UInt8), (convert 9 104 (.string x)).run Tryz.prog w = .ok (.slice (some ⟨w.heap.size, 0, none⟩) x.size C) W1 ∧
    Row L w.heap.size 0 W1 ∧ Below w.heap.size w W1 ∧ x.size = L.length ∧ y.data.toList = plainL L ∧ L = x.data.toList ∧ y.size = x.size ∧
    ∀ W, Row L w.heap.size L.length W → (convert 104 9 (.slice (some ⟨w.heap.size, 0, none⟩) x.size C)).run Tryz.prog W = .ok (.string y) W := by
  obtain ⟨W1, C, hcv, hrow, hB⟩ := conv_bytes x w
  refine ⟨W1, C, ⟨(plainL x.data.toList).toArray⟩, x.data.toList, hcv, hrow, hB, bt_size x, rfl, rfl, ?_, fun W h => ?_⟩
  · rw [bt_size, bt_size]; unfold plainL; simp
  · have := conv_back x.data.toList w.heap.size C W h
    rwa [← bt_size] at this

end Go.Proofs.YtmcgaaihdjpdgaaGreatDoor
/- The walk through the reference's Match. -/
namespace Go.Proofs.YtmcgaaihdjpdgaaGreatDoor
open Go.RowKit
set_option linter.unusedVariables false

/-- Cell (i, k) of the table. -/
def mtBack (p s : List ByteArray) (i k : Nat) : Bool := fitB (fun a : ByteArray => pathStar a.data.toList) (fun a b : ByteArray => inNameB a.data.toList b.data.toList) (p.drop i) (s.drop k)
section
variable {p s : List ByteArray} {i k : Nat} {x y : ByteArray}
theorem mtBack_end (hi : i = p.length) (hk : k ≤ s.length) : mtBack p s i k = decide (k = s.length) := by rw [hi]; exact back_end _ _ hk
theorem mtBack_star (hi : p[i]? = some ⟨#[42, 42]⟩) (hk : s[k]? = some y) : mtBack p s i k = (mtBack p s (i + 1) k || mtBack p s i (k + 1)) := back_star _ _ hi star2 hk
theorem mtBack_star_end (hi : p[i]? = some ⟨#[42, 42]⟩) (hk : k = s.length) : mtBack p s i k = mtBack p s (i + 1) k := by rw [hk]; exact back_star_end _ _ hi star2
theorem mtBack_one (hi : p[i]? = some x) (hc : x ≠ ⟨#[42, 42]⟩) (hk : s[k]? = some y) : mtBack p s i k = (inNameB x.data.toList y.data.toList && mtBack p s (i + 1) (k + 1)) := back_one _ _ hi (notStar2 hc) hk
theorem mtBack_one_end (hi : p[i]? = some x) (hc : x ≠ ⟨#[42, 42]⟩) (hk : k = s.length) : mtBack p s i k = false := by rw [hk]; exact back_one_end _ _ hi (notStar2 hc)
end
def mtFlat (p s : List ByteArray) (W j : Nat) : Bool := mtBack p s (j / W) (j % W)
theorem mtFlat_at (p s : List ByteArray) {W i k : Nat} (hk : k < W) : mtFlat p s W (i * W + k) = mtBack p s i k := flat_one (mtBack p s) hk
theorem mtBack_all (p s : ByteArray) : mtBack (pieces p) (pieces s) 0 0 = matchL p.data.toList s.data.toList := by
  unfold mtBack matchL
  rw [List.drop_zero, List.drop_zero, ← pieces_list, ← pieces_list, fitB_map]
theorem pieces_pos (s : ByteArray) : 0 < (pieces s).length := by
  have := splitL_ne s.data.toList
  rw [← pieces_list] at this
  rcases Nat.eq_zero_or_pos (pieces s).length with h | h
  · rw [List.eq_nil_of_length_eq_zero h] at this; exact absurd rfl this
  · exact h

end Go.Proofs.YtmcgaaihdjpdgaaGreatDoor
/- The walk through TreeChecks. -/
namespace Go.Proofs.YtmcgaaihdjpdgaaGreatDoor
open Go.RowKit
set_option linter.unusedVariables false

theorem checks_args (A : Option Addr) (c : Nat) (l : List FileD) (hx : ∀ f ∈ l, FFit f) (hz : l.length ≤ 8796093022208) :
    ∃ E : Int, (∀ W, Ml W → Arr W W.heap.size 3 A l.length (fcells l) → Calls Tryz.prog 67 #[.slice A l.length c] W fun e w' => e = .returned (.int .i64 E) ∧ Below W.heap.size W w') ∧
      (∀ W, Arr W W.heap.size 3 A l.length (fcells l) → Calls Tryz.prog 32 #[.slice A l.length c] W fun e w' => e = .returned (.int .i64 E) ∧ Below W.heap.size W w') :=
  ⟨checkE l, fun W hm ha => check_any A c l W hz (fun f hf => (hx f hf).1) ha hm, fun W ha => check_ref A c l W hz (fun f hf => (hx f hf).1) ha⟩
theorem Arr.on {w w' : World} {size n : Nat} {A : Option Addr} {xs : List Value} (h : Arr w w.heap.size size A n xs) (hb : Below w.heap.size w w') : Arr w' w'.heap.size size A n xs := (h.below hb).more hb.size

end Go.Proofs.YtmcgaaihdjpdgaaGreatDoor
/- append of whatever slice came in, nil included, onto a row of the call's own; elements of whatever number of cells. -/
set_option linter.unusedVariables false
namespace Go.Proofs.YtmcgaaihdjpdgaaGreatDoor
open Go.RowKit
section
variable {P : Program} (w : World)
theorem run_append_nilsrc (base : Nat) (t ty e : TypeId) (i : TypeInfo) (size : Nat) (ht : P.underlying t = some (.slice e)) (hi : P.info? e = some i)
    (v : Value) (n : Nat) (xs : List Value) (hown : w.ownsRow base e size v n xs) (c : Nat) : (Builtin.append_ #[t, t] ty #[v, .slice none 0 c]).run P w = .ok v w := by
  rcases hown.2 with ⟨rfl, rfl⟩ | ⟨g, cap, cur, rfl, _, _, hnc, _⟩
  · simp [Builtin.append_, run_underlying ht, sizeOf, typeInfo, hi, Builtin.lenOf, Builtin.firstCells]
  · simp [Builtin.append_, run_underlying ht, sizeOf, typeInfo, hi, Builtin.lenOf, Builtin.firstCells, hnc, storeCells]
theorem run_append_arr (base : Nat) (t ty e : TypeId) (i : TypeInfo) (z : Value) (size bytes : Nat) (ht : P.underlying t = some (.slice e)) (hi : P.info? e = some i) (hz : i.zero = some z)
    (hsize : i.size = size) (hby : i.bytes = bytes) (hzs : z.cells.size = size) (hsz : 0 < size)
    (v : Value) (n : Nat) (xs : List Value) (hown : w.ownsRow base e size v n xs)
    (B : Nat) (A : Option Addr) (m c : Nat) (news : List Value) (hr : Arr w B size A m news) (h1 : ∀ u ∈ news, u.oneCell' = true)
    (h63 : n + m ≤ maxLen) (hbytes : (n + m) * bytes ≤ 140737488355328) (hbase : base ≤ w.heap.size) :
    ∃ v' w', (Builtin.append_ #[t, t] ty #[v, .slice A m c]).run P w = .ok v' w' ∧ w'.ownsRow base e size v' (n + m) (xs ++ news) ∧ w.grownBy w' v.ownBlock ∧
      (v'.ownBlock = v.ownBlock ∨ v'.ownBlock = some w.heap.size) := by
  rcases A with _ | ad
  · have hm : m = 0 := by
      rcases Nat.eq_zero_or_pos m with h0 | h0
      · exact h0
      · obtain ⟨b, o, h, _⟩ := hr.2 h0
        cases h
    subst hm
    have hn : news = [] := List.eq_nil_of_length_eq_zero (by simpa using hr.1)
    subst hn
    exact ⟨v, w, run_append_nilsrc w base t ty e i size ht hi v n xs hown c, by simpa using hown, World.grownBy.refl w _, .inl rfl⟩
  · have hcells : ∀ j u, news[j]? = some u → w.cell? (ad.add j) = some u := by
      intro j u hu
      rcases Nat.eq_zero_or_pos m with h0 | h0
      · subst h0
        have hn : news = [] := List.eq_nil_of_length_eq_zero (by simpa using hr.1)
        subst hn
        simp at hu
      · obtain ⟨b, o, h, _, hc⟩ := hr.2 h0
        injection h with h
        subst h
        have hadd : (⟨b, o, none⟩ : Addr).add j = ⟨b, o + j, none⟩ := by unfold Addr.add; split <;> simp_all
        rw [hadd]
        exact hc j u hu
    obtain ⟨v', w', hrun, h2, h3, _, h5⟩ := run_append_own_at (P := P) w base t ty e i z size bytes ht hi hz hsize hby hzs hsz v n xs hown ad m c news hr.1 hcells h1 h63 hbytes hbase
    exact ⟨v', w', hrun, h2, h3, h5⟩
theorem wpList_append_arr {ops : Array Oper} {rest : List Oper} {o : Oper} {a : Act} {Q : Exit → Act → World → Prop} (hgd : o.guard = none) (s x : Operand) (t : TypeId)
    (ho : o.op = .call { callee := .builtin .append, args := #[s, x], argTypes := #[t, t] })
    {base : Nat} {e : TypeId} {i : TypeInfo} {z : Value} {size bytes : Nat} (ht : P.underlying t = some (.slice e)) (hi : P.info? e = some i) (hz : i.zero = some z)
    (hsize : i.size = size) (hby : i.bytes = bytes) (hzs : z.cells.size = size) (hsz : 0 < size)
    {v : Value} {n : Nat} {xs : List Value} (hown : w.ownsRow base e size v n xs) (hs : a.eval s = v)
    {B : Nat} {A : Option Addr} {m c : Nat} {news : List Value} (hx : a.eval x = .slice A m c) (hr : Arr w B size A m news) (h1 : ∀ u ∈ news, u.oneCell' = true)
    (h63 : n + m ≤ maxLen) (hbytes : (n + m) * bytes ≤ 140737488355328) (hbase : base ≤ w.heap.size)
    (h : ∀ v' w', w'.ownsRow base e size v' (n + m) (xs ++ news) → w.grownBy w' v.ownBlock → (v'.ownBlock = v.ownBlock ∨ v'.ownBlock = some w.heap.size) → wpList P ops Q rest (a.put o.dst v') w') : wpList P ops Q (o :: rest) a w := by
  obtain ⟨v', w', hrun, h2, h3, h4⟩ := run_append_arr (P := P) w base t o.type e i z size bytes ht hi hz hsize hby hzs hsz v n xs hown B A m c news hr h1 h63 hbytes hbase
  refine wpList_plain hgd fun K hK => ?_
  unfold Oper.wp execOp
  simp only [ho, resolve, invoke, builtin, Sem.run_bind, Sem.run_pure, Result.andThen_ok, List.map_toArray, List.map_cons, List.map_nil, hs, hx, hrun]
  exact hK _ _ (h v' w' h2 h3 h4)
end
theorem own_below {w w' : World} {base : Nat} {e : TypeId} {size n : Nat} {v : Value} {xs : List Value} (h : w.ownsRow base e size v n xs) (hb : Below w.heap.size w w') : w'.ownsRow base e size v n xs := (Fr.of_below hb (fun _ => False)).own h (fun _ _ hf => hf)
theorem Arr.alloc {w : World} {B size n : Nat} {A : Option Addr} {xs : List Value} (h : Arr w B size A n xs) (hB : B ≤ w.heap.size) (o : Obj) : Arr (w.alloc o) B size A n xs := h.below ((Below.refl _ _).alloc hB o)
theorem own_empty (w : World) (e : TypeId) (size : Nat) (base : Nat) (hb : base ≤ w.heap.size) : (w.alloc (.cells #[] e)).ownsRow base e size (.slice (some ⟨w.heap.size, 0, none⟩) 0 0) 0 [] := own_mono (World.ownsRow_lit w #[] 0 (Nat.le_refl _) (by simp [maxLen]) (by simp)) hb
end Go.Proofs.YtmcgaaihdjpdgaaGreatDoor
/- The walks through fits, one, few, Files. -/
namespace Go.Proofs.YtmcgaaihdjpdgaaGreatDoor
open Go.RowKit
set_option linter.unusedVariables false

/-- Does a path fit one of some patterns? -/
def oneB (l : List ByteArray) (s : ByteArray) : Bool := l.any fun p => matchB p.data.toList s.data.toList
section
variable {l : List ByteArray} {s x : ByteArray} {k : Nat} {R : Bool}
theorem oneB_step (hx : l[k]? = some x) (h : matchB x.data.toList s.data.toList = false) : oneB (l.drop k) s = oneB (l.drop (k + 1)) s := by
  unfold oneB
  rw [drop_head hx, List.any_cons, h, Bool.false_or]
theorem oneB_stop (hx : l[k]? = some x) (h : matchB x.data.toList s.data.toList = true) : oneB (l.drop k) s = true := by
  unfold oneB
  rw [drop_head hx, List.any_cons, h, Bool.true_or]
theorem oneB_end (h : l.length ≤ k) : oneB (l.drop k) s = false := by rw [List.drop_eq_nil_of_le h]; rfl
end

/-! ### few, Files -/
set_option maxHeartbeats 1000000 in
set_option maxRecDepth 100000 in
theorem files_same (A : Option Addr) (c : Nat) (B : Option Addr) (d : Nat) (l : List FileD) (w : World) (hz : l.length ≤ 9223372036854775807)
    (ha : Arr w w.heap.size 3 A l.length (fcells l)) (hb : Arr w w.heap.size 3 B l.length (fcells l)) :
    Calls Tryz.prog 35 #[.slice A l.length c, .slice B l.length d] w fun e w' => e = .returned (.bool true) ∧ Below w.heap.size w w' := by
  have HA := Lib.hid ha
  have HB := Lib.hid hb
  clear ha hb
  go_enter Tryz.func35, Tryz.ntmps35
  go_wp2
  go_loopw [5] (fun v wr => ∃ (k : Nat), k ≤ l.length ∧ v = .int .i64 k ∧ Below w.heap.size w wr) (fun v _ => l.length - (intOf v).toNat)
  case atStart => exact ⟨0, Nat.zero_le _, rfl, Below.refl _ _⟩
  case round =>
    obtain ⟨k, hk, rfl, hB⟩ := hrel
    by_cases hlt : k < l.length
    · obtain ⟨f, hf⟩ : ∃ f, l[k]? = some f := ⟨_, List.getElem?_eq_getElem hlt⟩
      obtain ⟨b, o, rfl, hb, hcell⟩ := HA.out.2 (by omega)
      obtain ⟨b2, o2, rfl, hb2, hcell2⟩ := HB.out.2 (by omega)
      obtain ⟨c0, c1, c2⟩ := file_cells (fun i u h => (hB.cell (p := ⟨b, o + i, none⟩) hb).trans (hcell i u h)) hf
      obtain ⟨e0, e1, e2⟩ := file_cells (fun i u h => (hB.cell (p := ⟨b2, o2 + i, none⟩) hb2).trans (hcell2 i u h)) hf
      clear hf hcell hcell2
      have kl : (k : Int) < l.length := by omega
      go_wp2
      go_quiet (fail)
      go_wp2
      go_roundw
      case rel => exact ⟨k + 1, by omega, by go_num, below_drewN hB _⟩
      case measure => simp [intOf] <;> omega
    · go_wp2
      go_ret
      exact ⟨rfl, hB⟩
end Go.Proofs.YtmcgaaihdjpdgaaGreatDoor
/- The walk through Filter. -/
namespace Go.Proofs.YtmcgaaihdjpdgaaGreatDoor
open Go.RowKit
set_option linter.unusedVariables false

/-- What is wrong with some patterns, the first of them. -/
def patsE : List ByteArray → Int
  | [] => 0
  | p :: r => if patE p.data.toList = 0 then patsE r else patE p.data.toList
theorem patsE_step {l : List ByteArray} {k : Nat} {x : ByteArray} (h : l[k]? = some x) (h0 : patE x.data.toList = 0) : patsE (l.drop k) = patsE (l.drop (k + 1)) := by rw [drop_head h, patsE, if_pos h0]
theorem patsE_stop {l : List ByteArray} {k : Nat} {x : ByteArray} (h : l[k]? = some x) (h0 : patE x.data.toList ≠ 0) : patsE (l.drop k) = patE x.data.toList := by rw [drop_head h, patsE, if_neg h0]
theorem patsE_end {l : List ByteArray} {k : Nat} (h : l.length ≤ k) : patsE (l.drop k) = 0 := by rw [List.drop_eq_nil_of_le h, patsE]
theorem patsE_app : ∀ l m : List ByteArray, patsE (l ++ m) = if patsE l = 0 then patsE m else patsE l
  | [], m => by rw [List.nil_append, patsE, if_pos rfl]
  | p :: l, m => by
    rw [List.cons_append, patsE, patsE]
    by_cases h : patE p.data.toList = 0
    · rw [if_pos h, if_pos h, patsE_app l m]
    · rw [if_neg h, if_neg h, if_neg h]
def keepB (i o : List ByteArray) (f : FileD) : Bool := (i.isEmpty || oneB i f.path) && !oneB o f.path
def filtE (l : List FileD) (i o : List ByteArray) : Int := if checkE l = 0 then patsE (i ++ o) else checkE l
def filtL (l : List FileD) (i o : List ByteArray) : List FileD := if filtE l i o = 0 then l.filter (keepB i o) else []
/-- A new list of files, and a number. -/
def FilesOut (w : World) (l : List FileD) (E : Int) (e : Ending) (w' : World) : Prop := ∃ A c, e = .returned (.tuple #[.slice A l.length c, .int .i64 E]) ∧ Arr w' w'.heap.size 3 A l.length (fcells l) ∧ Fresh w.heap.size A ∧ l.length ≤ c ∧ Below w.heap.size w w'
theorem infoFile : (Tryz.prog.info? 64).map (fun i => (i.zero, i.size, i.bytes)) = some (some (.agg #[.string ⟨#[]⟩, .int .i64 0, .string ⟨#[]⟩]), 3, 40) := by kernel_rfl
theorem file_one (f : FileD) : ∀ u ∈ (#[Value.string f.path, .int .i64 f.mode, .string f.data] : Array Value).toList, u.oneCell' = true := by simp [Value.oneCell']
theorem file_zero : (Value.agg #[.string ⟨#[]⟩, .int .i64 0, .string ⟨#[]⟩]).cells.size = 3 := rfl
theorem filter_snoc {l : List FileD} {k : Nat} {f : FileD} {g : FileD → Bool} (h : l[k]? = some f) : (l.take (k + 1)).filter g = (l.take k).filter g ++ if g f then [f] else [] := by
  rw [take_snoc h, List.filter_append]
  congr 1
  by_cases hg : g f
  · simp [hg]
  · simp [hg]
theorem fcells_snoc (l : List FileD) (f : FileD) : fcells (l ++ [f]) = fcells l ++ (#[Value.string f.path, .int .i64 f.mode, .string f.data] : Array Value).toList := by rw [fcells_app]; rfl
theorem str_cells (L : List ByteArray) : ∀ u ∈ L.map Value.string, u.oneCell' = true := by
  intro u hu
  obtain ⟨x, _, rfl⟩ := List.mem_map.1 hu
  rfl

theorem box_cells {wr W : World} {t : TypeId} {f : FileD} (hbox : Blk (wr.alloc (.cells #[.string f.path, .int .i64 f.mode, .string f.data] t)) wr.heap.size t #[.string f.path, .int .i64 f.mode, .string f.data])
    (h : Below (wr.alloc (.cells #[.string f.path, .int .i64 f.mode, .string f.data] t)).heap.size (wr.alloc (.cells #[.string f.path, .int .i64 f.mode, .string f.data] t)) W) :
    W.cell? ⟨wr.heap.size, 0, none⟩ = some (.string f.path) ∧ W.cell? ⟨wr.heap.size, 1, none⟩ = some (.int .i64 f.mode) ∧ W.cell? ⟨wr.heap.size, 2, none⟩ = some (.string f.data) :=
  ⟨(h.cell (p := ⟨wr.heap.size, 0, none⟩) hbox.lt).trans (hbox.cell 0), (h.cell (p := ⟨wr.heap.size, 1, none⟩) hbox.lt).trans (hbox.cell 1), (h.cell (p := ⟨wr.heap.size, 2, none⟩) hbox.lt).trans (hbox.cell 2)⟩

end Go.Proofs.YtmcgaaihdjpdgaaGreatDoor
/- The walk through the reference's Filter. -/
namespace Go.Proofs.YtmcgaaihdjpdgaaGreatDoor
open Go.RowKit
set_option linter.unusedVariables false

def onE (e : Int) (l : List ByteArray) : Int := if e = 0 then patsE l else e
theorem filtE_on (l : List FileD) (i o : List ByteArray) : filtE l i o = onE (onE (checkE l) i) o := by
  unfold filtE onE
  by_cases h : checkE l = 0
  · rw [if_pos h, if_pos h, patsE_app]
  · rw [if_neg h, if_neg h, if_neg h]
theorem onE_zero (l : List ByteArray) : onE 0 l = patsE l := if_pos rfl
theorem onE_bad {e : Int} (l : List ByteArray) (h : e ≠ 0) : onE e l = e := if_neg h
theorem onE_nil {l : List ByteArray} {k : Nat} (e : Int) (h : l.length ≤ k) : onE e (l.drop k) = e := by
  unfold onE
  rw [patsE_end h]
  by_cases h0 : e = 0
  · rw [if_pos h0, h0]
  · rw [if_neg h0]
theorem onE_step {l : List ByteArray} {k : Nat} {x : ByteArray} (h : l[k]? = some x) : onE 0 (l.drop k) = onE (patE x.data.toList) (l.drop (k + 1)) := by
  rw [onE_zero, drop_head h, patsE]
  rfl
theorem onE_exit {l : List ByteArray} {k : Nat} {e : Int} (h : ¬ (k < l.length ∧ e = 0)) : onE e (l.drop k) = e := by
  by_cases h0 : e = 0
  · exact onE_nil e (by
      rcases Nat.lt_or_ge k l.length with h1 | h1
      · exact absurd ⟨h1, h0⟩ h
      · exact h1)
  · exact onE_bad _ h0

end Go.Proofs.YtmcgaaihdjpdgaaGreatDoor
/- The walk through TreeFilters. -/
namespace Go.Proofs.YtmcgaaihdjpdgaaGreatDoor
open Go.RowKit
set_option linter.unusedVariables false

theorem arr_some {w : World} {B size n : Nat} {A : Option Addr} {xs : List Value} (h : Arr w B size A n xs) : 0 < n → ∃ a, A = some a := fun hn => by
  obtain ⟨b, o, e, _⟩ := h.2 hn
  exact ⟨_, e⟩
theorem few_len (l : List FileD) : (l.take 60).length = min l.length 60 := by rw [List.length_take, Nat.min_comm]
theorem Arr.few {w : World} {B : Nat} {A : Option Addr} {l : List FileD} (h : Arr w B 3 A l.length (fcells l)) : Arr w B 3 A (l.take 60).length (fcells (l.take 60)) := by
  have h2 := h.ftake (k := min l.length 60) (by omega)
  rw [few_len]
  rwa [show l.take (min l.length 60) = l.take 60 by
    rcases Nat.le_total l.length 60 with h | h
    · rw [Nat.min_eq_left h, List.take_of_length_le (Nat.le_refl _), List.take_of_length_le h]
    · rw [Nat.min_eq_right h]] at h2

end Go.Proofs.YtmcgaaihdjpdgaaGreatDoor
/- Manifests: what is wrong with one (Right), the walks through the program's and the reference's. -/
namespace Go.Proofs.YtmcgaaihdjpdgaaGreatDoor
open Go.RowKit
set_option linter.unusedVariables false

structure ItemD where
  path : ByteArray
  mode : Int
  size : Int
  mark : ByteArray
def icell (f : ItemD) : List Value := [.string f.path, .int .i64 f.mode, .int .i64 f.size, .string f.mark]
def icells (l : List ItemD) : List Value := (l.map icell).flatten
def IOk (f : ItemD) : Prop := f.path.size ≤ 9223372036854775807 ∧ f.mark.size ≤ 9223372036854775807 ∧ (-9223372036854775808 ≤ f.mode ∧ f.mode ≤ 9223372036854775807) ∧ -9223372036854775808 ≤ f.size ∧ f.size ≤ 9223372036854775807
def itemE (f : ItemD) : Int := if 0 ≤ f.mode ∧ f.mode ≤ 511 then if 0 ≤ f.size ∧ f.size ≤ 65536 then if f.mark.size = 32 then 0 else 5 else 4 else 11
def itemsE : List ItemD → Int
  | [] => 0
  | f :: r => if itemE f = 0 then itemsE r else itemE f
def ipaths (l : List ItemD) : List ByteArray := l.map (·.path)
def rightE (l : List ItemD) : Int := if pathsE (lists (ipaths l)) = 0 then itemsE l else pathsE (lists (ipaths l))
theorem items_step {l : List ItemD} {k : Nat} {f : ItemD} (h : l[k]? = some f) (hs : itemE f = 0) : itemsE (l.drop k) = itemsE (l.drop (k + 1)) := by rw [drop_head h, itemsE, if_pos hs]
theorem items_stop {l : List ItemD} {k : Nat} {f : ItemD} (h : l[k]? = some f) (hs : itemE f ≠ 0) : itemsE (l.drop k) = itemE f := by rw [drop_head h, itemsE, if_neg hs]
theorem items_end {l : List ItemD} {k : Nat} (h : l.length ≤ k) : itemsE (l.drop k) = 0 := by rw [List.drop_eq_nil_of_le h, itemsE]
theorem icell_at {l : List ItemD} {k : Nat} {f : ItemD} (h : l[k]? = some f) : (icells l)[k * 4]? = some (.string f.path) ∧ (icells l)[k * 4 + 1]? = some (.int .i64 f.mode) ∧ (icells l)[k * 4 + 2]? = some (.int .i64 f.size) ∧ (icells l)[k * 4 + 3]? = some (.string f.mark) := by
  have hl : ∀ r ∈ l.map icell, r.length = 4 := by
    intro r hr
    obtain ⟨f, _, rfl⟩ := List.mem_map.1 hr
    rfl
  have hx : (l.map icell)[k]? = some (icell f) := by rw [List.getElem?_map, h]; rfl
  unfold icells
  exact ⟨by rw [show k * 4 = k * 4 + 0 from rfl, flat_at _ k 0 _ hl hx (by omega)]; rfl, by rw [flat_at _ k 1 _ hl hx (by omega)]; rfl, by rw [flat_at _ k 2 _ hl hx (by omega)]; rfl, by rw [flat_at _ k 3 _ hl hx (by omega)]; rfl⟩
theorem item_cells {w : World} {b o k : Nat} {l : List ItemD} {f : ItemD} (hc : ∀ i u, (icells l)[i]? = some u → w.cell? ⟨b, o + i, none⟩ = some u) (h : l[k]? = some f) :
    w.cell? ⟨b, o + k * 4, none⟩ = some (.string f.path) ∧ w.cell? ⟨b, o + k * 4 + 1, none⟩ = some (.int .i64 f.mode) ∧ w.cell? ⟨b, o + k * 4 + 2, none⟩ = some (.int .i64 f.size) ∧ w.cell? ⟨b, o + k * 4 + 3, none⟩ = some (.string f.mark) := by
  obtain ⟨h0, h1, h2, h3⟩ := icell_at h
  exact ⟨hc _ _ h0, by rw [Nat.add_assoc]; exact hc _ _ h1, by rw [Nat.add_assoc]; exact hc _ _ h2, by rw [Nat.add_assoc]; exact hc _ _ h3⟩
theorem ipaths_take {l : List ItemD} {k : Nat} {f : ItemD} (h : l[k]? = some f) : (ipaths (l.take (k + 1))).map Value.string = (ipaths (l.take k)).map Value.string ++ [.string f.path] := by
  rw [take_snoc h]
  unfold ipaths
  simp
theorem ipaths_len (l : List ItemD) : (ipaths l).length = l.length := by unfold ipaths; simp
theorem icells_len (l : List ItemD) : (icells l).length = l.length * 4 := by
  unfold icells
  rw [flat_len_eq (c := 4) _ (by intro r hr; obtain ⟨f, _, rfl⟩ := List.mem_map.1 hr; rfl), List.length_map]
theorem icells_app (l m : List ItemD) : icells (l ++ m) = icells l ++ icells m := by unfold icells; rw [List.map_append, List.flatten_append]
theorem Arr.itake {w : World} {B : Nat} {A : Option Addr} {l : List ItemD} (h : Arr w B 4 A l.length (icells l)) {k : Nat} (hk : k ≤ l.length) : Arr w B 4 A k (icells (l.take k)) := by
  refine ⟨by rw [icells_len, List.length_take]; congr 1; omega, fun hn => ?_⟩
  obtain ⟨b, o, e, hb, hc⟩ := h.2 (by omega)
  refine ⟨b, o, e, hb, fun i u hu => hc i u ?_⟩
  have e2 : icells l = icells (l.take k) ++ icells (l.drop k) := by rw [← icells_app, List.take_append_drop]
  rw [e2]
  exact (List.getElem?_append_left (by
    rcases Nat.lt_or_ge i (icells (l.take k)).length with h | h
    · exact h
    · rw [List.getElem?_eq_none h] at hu; cases hu)).trans hu
theorem itemE_mode {f : ItemD} (h : ¬ (0 ≤ f.mode ∧ f.mode ≤ 511)) : itemE f = 11 := if_neg h
theorem itemE_size {f : ItemD} (h : 0 ≤ f.mode ∧ f.mode ≤ 511) (h2 : ¬ (0 ≤ f.size ∧ f.size ≤ 65536)) : itemE f = 4 := by unfold itemE; rw [if_pos h, if_neg h2]
theorem itemE_mark {f : ItemD} (h : 0 ≤ f.mode ∧ f.mode ≤ 511) (h2 : 0 ≤ f.size ∧ f.size ≤ 65536) (h3 : f.mark.size ≠ 32) : itemE f = 5 := by unfold itemE; rw [if_pos h, if_pos h2, if_neg h3]
theorem itemE_ok {f : ItemD} (h : 0 ≤ f.mode ∧ f.mode ≤ 511) (h2 : 0 ≤ f.size ∧ f.size ≤ 65536) (h3 : f.mark.size = 32) : itemE f = 0 := by unfold itemE; rw [if_pos h, if_pos h2, if_pos h3]

set_option maxHeartbeats 1000000 in
set_option maxRecDepth 100000 in
theorem right_in (b o c : Nat) (l : List ItemD) (w : World) (hn : 0 < l.length) (hz : l.length ≤ 8796093022208) (hx : ∀ f ∈ l, IOk f) (hb : b < w.heap.size)
    (hc : ∀ i u, (icells l)[i]? = some u → w.cell? ⟨b, o + i, none⟩ = some u) (hm : Ml w) :
    Calls Tryz.prog 66 #[.slice (some ⟨b, o, none⟩) l.length c] w fun e w' => e = .returned (.int .i64 (rightE l)) ∧ Below w.heap.size w w' := by
  have hx := Lib.hid hx
  have hc := Lib.hid hc
  obtain ⟨i0, hi0, hz0, hz1, hz2⟩ := info_parts infoStr
  have hp := fun A c W h1 h2 h3 => paths_any A c (ipaths l) W h1 h2 h3
  rw [ipaths_len] at hp
  unfold rightE
  generalize pathsE (lists (ipaths l)) = E at *
  have HP := Lib.hid hp
  clear hp
  generalize hR : itemsE l = R
  have HR : Hid (itemsE (l.drop 0) = R) := Lib.hid hR
  clear hR
  go_enter Tryz.func66, Tryz.ntmps66
  go_wp2
  go_loopw [3, 11] (fun v3 v wr => ∃ (k : Nat), k ≤ l.length ∧ v = .int .i64 k ∧ wr.ownsRow w.heap.size 9 1 v3 k ((ipaths (l.take k)).map Value.string) ∧ Below w.heap.size w wr) (fun _ v _ => l.length - (intOf v).toNat)
  case atStart => exact ⟨0, Nat.zero_le _, rfl, World.ownsRow_nil _ _ _ _, Below.refl _ _⟩
  case round =>
    obtain ⟨k, hk, rfl, hown, hB⟩ := hrel
    have hbse := hB.size
    by_cases hlt : k < l.length
    · obtain ⟨f, hf⟩ : ∃ f, l[k]? = some f := ⟨_, List.getElem?_eq_getElem hlt⟩
      obtain ⟨c0, c1, c2, c3⟩ := item_cells (fun i u h => (hB.cell (p := ⟨b, o + i, none⟩) hb).trans (hc.out i u h)) hf
      have HT := Lib.hid (ipaths_take hf)
      clear hf
      have hown' := hown.alloc (.cells #[.string f.path, .int .i64 f.mode, .int .i64 f.size, .string f.mark] 58)
      have hB' := hB.alloc hbse (.cells #[.string f.path, .int .i64 f.mode, .int .i64 f.size, .string f.mark] 58)
      go_wp2_with (at_builtin; refine wpList_push rfl _ _ _ rfl Tryz.underlying47 hi0 hz0 hz1 hz2 rfl (by decide) hown' rfl (by rw [World.size_alloc]; rfl) rfl (str_one f.path) (by unfold maxLen; omega) (by omega) (by simp; omega) ?_; intro g2 cap2 w1 hown1 hgr1 hat1)
      have hB3 := hB'.grown hgr1 hB'.size (fun j hj => (hown'.lt j hj).1)
      go_roundw
      case rel => exact ⟨k + 1, by omega, by go_num, by rw [HT.out]; exact hown1, hB3⟩
      case measure => simp [intOf] <;> omega
    · have he : l.take k = l := List.take_of_length_le (by omega)
      rw [he] at hown
      obtain ⟨A', c', rfl, hcap, ha, hfr⟩ := own_arr hown
      have hke : k = l.length := by omega
      subst hke
      have hmr := hm.on hB
      have hpc := HP.out A' c' wr (fun x hx2 => by
        unfold ipaths at hx2
        obtain ⟨f, hf, rfl⟩ := List.mem_map.1 hx2
        exact (hx.out f hf).1) (by omega) ha hmr
      have HPC := Lib.hid hpc
      clear hpc ha hfr he hown
      by_cases hE : E = 0
      · subst hE
        go_wp2_with (go_at_call 87; with_reducible refine HPC.out.mono ?_; rintro e w1 ⟨rfl, hb1⟩)
        have hB1 := below_on hB hb1
        clear HPC
        go_loopw [28] (fun v wr => ∃ (k : Nat), k ≤ l.length ∧ v = .int .i64 k ∧ Hid (itemsE (l.drop k) = R) ∧ Below w.heap.size w wr) (fun v _ => l.length - (intOf v).toNat)
        case atStart => exact ⟨0, Nat.zero_le _, rfl, HR, hB1⟩
        case round =>
          obtain ⟨k, hk, rfl, H, hB2⟩ := hrel
          by_cases hlt : k < l.length
          · obtain ⟨f, hf⟩ : ∃ f, l[k]? = some f := ⟨_, List.getElem?_eq_getElem hlt⟩
            obtain ⟨c0, c1, c2, c3⟩ := item_cells (fun i u h => (hB2.cell (p := ⟨b, o + i, none⟩) hb).trans (hc.out i u h)) hf
            have hxf := hx.out f (List.mem_of_getElem? hf)
            have hst := fun h => (items_step hf h).symm.trans H.out
            have hsp := fun h => (items_stop hf h).symm.trans H.out
            have hwd := hB2.size
            have HM := Lib.hid (fun W => mode_any f.mode W)
            have fm := itemE_mode (f := f)
            have fs := itemE_size (f := f)
            have fk := itemE_mark (f := f)
            have fo := itemE_ok (f := f)
            have hB3 := hB2.alloc hwd (.cells #[.string f.path, .int .i64 f.mode, .int .i64 f.size, .string f.mark] 58)
            have hmk := hxf.2.1
            clear hxf hf H
            generalize f.mode = m at *
            generalize f.size = z at *
            by_cases h1 : 0 ≤ m ∧ m ≤ 511
            · have hm1 : (decide (0 ≤ m) && decide (m ≤ 511)) = true := by simpa using h1
              rw [hm1] at HM
              by_cases h2a : 0 ≤ z
              · by_cases h2b : z ≤ 65536
                · by_cases h3 : f.mark.size = 32
                  · have hr := Lib.hid (hst (fo h1 ⟨h2a, h2b⟩ h3))
                    have h4 : ((f.mark.size : Int) == 32) = true := by rw [h3]; rfl
                    have h5 : ((f.mark.size : Int) != 32) = false := by rw [h3]; rfl
                    clear hst hsp fm fs fk fo hm1 h1 h3
                    go_wp2_with (go_at_call 88; with_reducible refine (HM.out _).mono ?_; rintro e w2 ⟨rfl, rfl⟩)
                    go_roundw
                    case rel => exact ⟨k + 1, by omega, by go_num, hr, hB3⟩
                    case measure => simp [intOf] <;> omega
                  · have hr := hsp (by rw [fk h1 ⟨h2a, h2b⟩ h3]; decide)
                    rw [fk h1 ⟨h2a, h2b⟩ h3] at hr
                    have hr := Lib.hid hr
                    have h4 : ((f.mark.size : Int) == 32) = false := by rw [beq_eq_false_iff_ne]; omega
                    have h5 : ((f.mark.size : Int) != 32) = true := by rw [bne_iff_ne]; omega
                    clear hst hsp fm fs fk fo hm1 h1 h3
                    go_wp2_with (go_at_call 88; with_reducible refine (HM.out _).mono ?_; rintro e w2 ⟨rfl, rfl⟩)
                    go_ret
                    exact ⟨by rw [← hr.out]; rfl, hB3⟩
                · have hr := hsp (by rw [fs h1 (fun h => h2b h.2)]; decide)
                  rw [fs h1 (fun h => h2b h.2)] at hr
                  have hr := Lib.hid hr
                  clear hst hsp fm fs fk fo hm1 h1
                  go_wp2_with (go_at_call 88; with_reducible refine (HM.out _).mono ?_; rintro e w2 ⟨rfl, rfl⟩)
                  go_ret
                  exact ⟨by rw [← hr.out]; rfl, hB3⟩
              · have hr := hsp (by rw [fs h1 (fun h => h2a h.1)]; decide)
                rw [fs h1 (fun h => h2a h.1)] at hr
                have hr := Lib.hid hr
                clear hst hsp fm fs fk fo hm1 h1
                go_wp2_with (go_at_call 88; with_reducible refine (HM.out _).mono ?_; rintro e w2 ⟨rfl, rfl⟩)
                go_ret
                exact ⟨by rw [← hr.out]; rfl, hB3⟩
            · have hm1 : (decide (0 ≤ m) && decide (m ≤ 511)) = false := by rw [Bool.eq_false_iff]; intro h; exact h1 (by simpa using h)
              rw [hm1] at HM
              have hr := hsp (by rw [fm h1]; decide)
              rw [fm h1] at hr
              have hr := Lib.hid hr
              clear hst hsp fm fs fk fo hm1 h1
              go_wp2_with (go_at_call 88; with_reducible refine (HM.out _).mono ?_; rintro e w2 ⟨rfl, rfl⟩)
              go_ret
              exact ⟨by rw [← hr.out]; rfl, hB3⟩
          · have hr := H.out
            rw [items_end (by omega)] at hr
            have hr := Lib.hid hr
            clear H
            go_wp2
            go_ret
            exact ⟨by rw [← hr.out]; rfl, hB2⟩
      · have hE' : (E == 0) = false := by rw [beq_eq_false_iff_ne]; exact hE
        go_wp2_with (go_at_call 87; with_reducible refine HPC.out.mono ?_; rintro e w1 ⟨rfl, hb1⟩)
        go_ret
        exact ⟨rfl, below_on hB hb1⟩
theorem right_any (A : Option Addr) (c : Nat) (l : List ItemD) (w : World) (hz : l.length ≤ 8796093022208) (hx : ∀ f ∈ l, IOk f)
    (hc : Arr w w.heap.size 4 A l.length (icells l)) (hm : Ml w) :
    Calls Tryz.prog 66 #[.slice A l.length c] w fun e w' => e = .returned (.int .i64 (rightE l)) ∧ Below w.heap.size w w' := by
  by_cases h0 : 0 < l.length
  · obtain ⟨b, o, rfl, hb, hcell⟩ := hc.2 h0
    exact right_in b o c l w h0 hz hx hb hcell hm
  · have : l = [] := List.eq_nil_of_length_eq_zero (by omega)
    subst this
    rw [show rightE [] = 0 from rfl]
    show Calls _ _ #[.slice A 0 c] _ _
    have HP : Hid (∀ W, Ml W → Calls Tryz.prog 87 #[.slice none 0 0] W fun e w' => e = .returned (.int .i64 0) ∧ Below W.heap.size W w') :=
      Lib.hid fun W h => paths_any none 0 [] W (by simp) (by simp) (Arr.nil _ _ _ _) h
    go_enter Tryz.func66, Tryz.ntmps66
    go_wp2
    go_loopw [3, 11] (fun v3 v wr => v3 = .slice none 0 0 ∧ v = .int .i64 0 ∧ wr = w) (fun _ v _ => 0)
    case atStart => exact ⟨rfl, rfl, rfl⟩
    case round =>
      obtain ⟨rfl, rfl, rfl⟩ := hrel
      go_wp2_with (go_at_call 87; with_reducible refine (HP.out _ hm).mono ?_; rintro e w1 ⟨rfl, hb1⟩)
      go_loopw [28] (fun v w2 => v = .int .i64 0 ∧ w2 = w1) (fun v _ => 0)
      case atStart => exact ⟨rfl, rfl⟩
      case round =>
        obtain ⟨rfl, rfl⟩ := hrel
        go_wp2
        go_ret
        exact ⟨rfl, hb1⟩

/-! ### the reference's -/
set_option maxHeartbeats 1000000 in
set_option maxRecDepth 100000 in
theorem right_ref_in (b o c : Nat) (l : List ItemD) (w : World) (hn : 0 < l.length) (hz : l.length ≤ 8796093022208) (hx : ∀ f ∈ l, IOk f) (hb : b < w.heap.size)
    (hc : ∀ i u, (icells l)[i]? = some u → w.cell? ⟨b, o + i, none⟩ = some u) :
    Calls Tryz.prog 55 #[.slice (some ⟨b, o, none⟩) l.length c] w fun e w' => e = .returned (.int .i64 (rightE l)) ∧ Below w.heap.size w w' := by
  have hx := Lib.hid hx
  have hc := Lib.hid hc
  obtain ⟨i0, hi0, hz0, hz1, hz2⟩ := info_parts infoStr
  have hp := fun A c W h1 h2 => together_any A c (ipaths l) W h1 h2
  rw [ipaths_len] at hp
  unfold rightE
  generalize pathsE (lists (ipaths l)) = E at *
  have HP := Lib.hid hp
  clear hp
  generalize hR : itemsE l = R
  have HR : Hid (itemsE (l.drop 0) = R) := Lib.hid hR
  clear hR
  go_enter Tryz.func55, Tryz.ntmps55
  go_wp2
  go_loopw [3, 4] (fun v3 v wr => ∃ (k : Nat), k ≤ l.length ∧ v = .int .i64 k ∧ wr.ownsRow w.heap.size 9 1 v3 k ((ipaths (l.take k)).map Value.string) ∧ Below w.heap.size w wr) (fun _ v _ => l.length - (intOf v).toNat)
  case atStart => exact ⟨0, Nat.zero_le _, rfl, World.ownsRow_nil _ _ _ _, Below.refl _ _⟩
  case round =>
    obtain ⟨k, hk, rfl, hown, hB⟩ := hrel
    have hbse := hB.size
    by_cases hlt : k < l.length
    · obtain ⟨f, hf⟩ : ∃ f, l[k]? = some f := ⟨_, List.getElem?_eq_getElem hlt⟩
      obtain ⟨c0, c1, c2, c3⟩ := item_cells (fun i u h => (hB.cell (p := ⟨b, o + i, none⟩) hb).trans (hc.out i u h)) hf
      have HT := Lib.hid (ipaths_take hf)
      clear hf
      go_wp2_with (at_builtin; refine wpList_push rfl _ _ _ rfl Tryz.underlying47 hi0 hz0 hz1 hz2 rfl (by decide) hown rfl rfl rfl (str_one f.path) (by unfold maxLen; omega) (by omega) (by omega) ?_; intro g2 cap2 w1 hown1 hgr1 hat1)
      have hB3 := hB.grown hgr1 hbse (fun j hj => (hown.lt j hj).1)
      go_roundw
      case rel => exact ⟨k + 1, by omega, by go_num, by rw [HT.out]; exact hown1, hB3⟩
      case measure => simp [intOf] <;> omega
    · have he : l.take k = l := List.take_of_length_le (by omega)
      rw [he] at hown
      obtain ⟨A', c', rfl, hcap, ha, hfr⟩ := own_arr hown
      have hke : k = l.length := by omega
      subst hke
      have hpc := HP.out A' c' wr (fun x hx2 => by
        unfold ipaths at hx2
        obtain ⟨f, hf, rfl⟩ := List.mem_map.1 hx2
        exact (hx.out f hf).1) (by omega) ha
      have HPC := Lib.hid hpc
      clear hpc ha hfr he hown
      by_cases hE : E = 0
      · subst hE
        go_wp2_with (go_at_call 48; with_reducible refine HPC.out.mono ?_; rintro e w1 ⟨rfl, hb1⟩)
        have hB1 := below_on hB hb1
        clear HPC
        go_loop [6] (fun v => ∃ (k : Nat), k ≤ l.length ∧ v = .int .i64 k ∧ Hid (itemsE (l.drop k) = R)) (fun v => l.length - (intOf v).toNat)
        case atStart => exact ⟨0, Nat.zero_le _, rfl, HR⟩
        case round =>
          obtain ⟨k, hk, rfl, H⟩ := hrel
          by_cases hlt : k < l.length
          · obtain ⟨f, hf⟩ : ∃ f, l[k]? = some f := ⟨_, List.getElem?_eq_getElem hlt⟩
            obtain ⟨c0, c1, c2, c3⟩ := item_cells (fun i u h => (hB1.cell (p := ⟨b, o + i, none⟩) hb).trans (hc.out i u h)) hf
            have hst := fun h => (items_step hf h).symm.trans H.out
            have hsp := fun h => (items_stop hf h).symm.trans H.out
            have fm := itemE_mode (f := f)
            have fs := itemE_size (f := f)
            have fk := itemE_mark (f := f)
            have fo := itemE_ok (f := f)
            clear hf H
            generalize f.mode = m at *
            generalize f.size = z at *
            by_cases h1a : 0 ≤ m
            · by_cases h1b : m ≤ 511
              · have h1 : 0 ≤ m ∧ m ≤ 511 := ⟨h1a, h1b⟩
                by_cases h2a : 0 ≤ z
                · by_cases h2b : z ≤ 65536
                  · by_cases h3 : f.mark.size = 32
                    · have hr := Lib.hid (hst (fo h1 ⟨h2a, h2b⟩ h3))
                      have h4 : ((f.mark.size : Int) == 32) = true := by rw [h3]; rfl
                      have h5 : ((f.mark.size : Int) != 32) = false := by rw [h3]; rfl
                      clear hst hsp fm fs fk fo h1 h3
                      go_wp2
                      go_round
                      case rel => exact ⟨k + 1, by omega, by go_num, hr⟩
                      case measure => simp [intOf] <;> omega
                    · have hr := hsp (by rw [fk h1 ⟨h2a, h2b⟩ h3]; decide)
                      rw [fk h1 ⟨h2a, h2b⟩ h3] at hr
                      have hr := Lib.hid hr
                      have h4 : ((f.mark.size : Int) == 32) = false := by rw [beq_eq_false_iff_ne]; omega
                      have h5 : ((f.mark.size : Int) != 32) = true := by rw [bne_iff_ne]; omega
                      clear hst hsp fm fs fk fo h1 h3
                      go_wp2
                      go_ret
                      exact ⟨by rw [← hr.out]; rfl, hB1⟩
                  · have hr := hsp (by rw [fs h1 (fun h => h2b h.2)]; decide)
                    rw [fs h1 (fun h => h2b h.2)] at hr
                    have hr := Lib.hid hr
                    clear hst hsp fm fs fk fo h1
                    go_wp2
                    go_ret
                    exact ⟨by rw [← hr.out]; rfl, hB1⟩
                · have hr := hsp (by rw [fs h1 (fun h => h2a h.1)]; decide)
                  rw [fs h1 (fun h => h2a h.1)] at hr
                  have hr := Lib.hid hr
                  clear hst hsp fm fs fk fo h1
                  go_wp2
                  go_ret
                  exact ⟨by rw [← hr.out]; rfl, hB1⟩
              · have hr := hsp (by rw [fm (fun h => h1b h.2)]; decide)
                rw [fm (fun h => h1b h.2)] at hr
                have hr := Lib.hid hr
                clear hst hsp fm fs fk fo
                go_wp2
                go_ret
                exact ⟨by rw [← hr.out]; rfl, hB1⟩
            · have hr := hsp (by rw [fm (fun h => h1a h.1)]; decide)
              rw [fm (fun h => h1a h.1)] at hr
              have hr := Lib.hid hr
              clear hst hsp fm fs fk fo
              go_wp2
              go_ret
              exact ⟨by rw [← hr.out]; rfl, hB1⟩
          · have hr := H.out
            rw [items_end (by omega)] at hr
            have hr := Lib.hid hr
            clear H
            go_wp2
            go_ret
            exact ⟨by rw [← hr.out]; rfl, hB1⟩
      · have hE' : (E == 0) = false := by rw [beq_eq_false_iff_ne]; exact hE
        go_wp2_with (go_at_call 48; with_reducible refine HPC.out.mono ?_; rintro e w1 ⟨rfl, hb1⟩)
        go_ret
        exact ⟨rfl, below_on hB hb1⟩
theorem right_ref (A : Option Addr) (c : Nat) (l : List ItemD) (w : World) (hz : l.length ≤ 8796093022208) (hx : ∀ f ∈ l, IOk f)
    (hc : Arr w w.heap.size 4 A l.length (icells l)) :
    Calls Tryz.prog 55 #[.slice A l.length c] w fun e w' => e = .returned (.int .i64 (rightE l)) ∧ Below w.heap.size w w' := by
  by_cases h0 : 0 < l.length
  · obtain ⟨b, o, rfl, hb, hcell⟩ := hc.2 h0
    exact right_ref_in b o c l w h0 hz hx hb hcell
  · have : l = [] := List.eq_nil_of_length_eq_zero (by omega)
    subst this
    rw [show rightE [] = 0 from rfl]
    show Calls _ _ #[.slice A 0 c] _ _
    have HP : Hid (∀ W, Calls Tryz.prog 48 #[.slice none 0 0] W fun e w' => e = .returned (.int .i64 0) ∧ Below W.heap.size W w') :=
      Lib.hid fun W => together_any none 0 [] W (by simp) (by simp) (Arr.nil _ _ _ _)
    go_enter Tryz.func55, Tryz.ntmps55
    go_wp2
    go_loop [3, 4] (fun v3 v => v3 = .slice none 0 0 ∧ v = .int .i64 0) (fun _ v => 0)
    case atStart => exact ⟨rfl, rfl⟩
    case round =>
      obtain ⟨rfl, rfl⟩ := hrel
      go_wp2_with (go_at_call 48; with_reducible refine (HP.out _).mono ?_; rintro e w1 ⟨rfl, hb1⟩)
      go_loop [6] (fun v => v = .int .i64 0) (fun v => 0)
      case atStart => exact rfl
      case round =>
        obtain rfl := hrel
        go_wp2
        go_ret
        exact ⟨rfl, hb1⟩
end Go.Proofs.YtmcgaaihdjpdgaaGreatDoor
/- A manifest's bytes, plain; the walks through shared, the reference's shared, the closure that writes a number, the reference's Bytes of a number and Text. -/
namespace Go.Proofs.YtmcgaaihdjpdgaaGreatDoor
open Go.RowKit
set_option linter.unusedVariables false

def sharedL : List UInt8 → List UInt8 → Nat
  | x :: a, y :: b => if x = y then sharedL a b + 1 else 0
  | _, _ => 0
theorem sharedL_le : ∀ a b : List UInt8, sharedL a b ≤ a.length ∧ sharedL a b ≤ b.length
  | [], b => by unfold sharedL; simp
  | x :: a, [] => by unfold sharedL; simp
  | x :: a, y :: b => by
    have := sharedL_le a b
    rw [sharedL]
    simp only [List.length_cons]
    split <;> omega
section
variable {a b : List UInt8} {k : Nat}
theorem sh_step (ha : k < a.length) (hb : k < b.length) (h : bt a k = bt b k) : k + sharedL (a.drop k) (b.drop k) = (k + 1) + sharedL (a.drop (k + 1)) (b.drop (k + 1)) := by
  rw [bt_drop ha, bt_drop hb, sharedL, if_pos h]; omega
theorem sh_stop (ha : k < a.length) (hb : k < b.length) (h : bt a k ≠ bt b k) : k + sharedL (a.drop k) (b.drop k) = k := by
  rw [bt_drop ha, bt_drop hb, sharedL, if_neg h]; rfl
theorem sh_end (h : ¬ (k < a.length ∧ k < b.length)) : k + sharedL (a.drop k) (b.drop k) = k := by
  by_cases ha : k < a.length
  · have e : b.drop k = [] := List.drop_eq_nil_of_le (by omega)
    rw [e, bt_drop ha]
    simp [sharedL]
  · have e : a.drop k = [] := List.drop_eq_nil_of_le (by omega)
    rw [e]
    simp [sharedL]
end

set_option maxHeartbeats 1000000 in
set_option maxRecDepth 100000 in
theorem shared_any (a b : ByteArray) (w : World) (ha : a.size ≤ 9223372036854775807) (hb : b.size ≤ 9223372036854775807) :
    Calls Tryz.prog 64 #[.string a, .string b] w fun e w' => e = .returned (.int .i64 (sharedL a.data.toList b.data.toList)) ∧ Below w.heap.size w w' := by
  have la := bt_size a
  have lb := bt_size b
  have ga := Lib.hid (bt_get a)
  have gb := Lib.hid (bt_get b)
  obtain ⟨Z, hZ⟩ : ∃ Z : Nat, min (a.size : Int) (b.size : Int) = (Z : Int) := ⟨min a.size b.size, by omega⟩
  have hZa : Z ≤ a.size := by omega
  have hZb : Z ≤ b.size := by omega
  have hZc : ¬ (Z < a.size ∧ Z < b.size) := by omega
  generalize a.data.toList = L at *
  generalize b.data.toList = M at *
  have LA := Lib.hid la
  have LB := Lib.hid lb
  clear la lb
  generalize hR : sharedL L M = R
  have HR : Hid (0 + sharedL (L.drop 0) (M.drop 0) = R) := Lib.hid (by rw [Nat.zero_add]; exact hR)
  clear hR
  go_enter Tryz.func64, Tryz.ntmps64
  go_wp2
  go_loopw [5] (fun v wr => ∃ (k : Nat), k ≤ Z ∧ v = .int .i64 k ∧ Hid (k + sharedL (L.drop k) (M.drop k) = R) ∧ Below w.heap.size w wr) (fun v _ => Z - (intOf v).toNat)
  case atStart => exact ⟨0, Nat.zero_le _, rfl, HR, Below.refl _ _⟩
  case round =>
    obtain ⟨k, hk, rfl, H, hB⟩ := hrel
    by_cases hlt : k < Z
    · have g1 := ga.out k (by omega)
      have g2 := gb.out k (by omega)
      have i1 : (k : Int) < a.size := by omega
      have i2 : (k : Int) < b.size := by omega
      have i0 : 0 ≤ (k : Int) := by omega
      have i3 : decide ((k : Int) < (Z : Int)) = true := decide_eq_true (by omega)
      have i4 : decide (k < Z) = true := decide_eq_true hlt
      by_cases he : bt L k = bt M k
      · have hst := Lib.hid ((sh_step (by have := LA.out; omega) (by have := LB.out; omega) he).symm.trans H.out)
        have he1 : (((bt L k).toNat : Int) == ((bt M k).toNat : Int)) = true := by rw [he]; simp
        generalize bt L k = x at *
        generalize bt M k = y at *
        clear H he
        go_wp2
        go_quiet (fail)
        go_wp2
        go_roundw
        case rel => exact ⟨k + 1, by omega, by go_num, hst, below_drewN hB _⟩
        case measure => simp [intOf] <;> omega
      · have hr := (sh_stop (by have := LA.out; omega) (by have := LB.out; omega) he).symm.trans H.out
        subst hr
        have he1 := ne_toNat he
        generalize bt L k = x at *
        generalize bt M k = y at *
        clear H he
        go_wp2
        go_quiet (fail)
        go_wp2
        go_ret
        exact ⟨rfl, below_drewN hB _⟩
    · have hr := (sh_end (a := L) (b := M) (k := k) (by have := LA.out; have := LB.out; omega)).symm.trans H.out
      subst hr
      have i3 : decide ((k : Int) < (Z : Int)) = false := decide_eq_false (by omega)
      have i4 : decide (k < Z) = false := decide_eq_false hlt
      clear H
      go_wp2
      go_quiet (fail)
      go_wp2
      go_ret
      exact ⟨rfl, below_drewN hB _⟩

set_option maxHeartbeats 1000000 in
set_option maxRecDepth 100000 in
theorem shared_ref (a b : ByteArray) (w : World) (ha : a.size ≤ 9223372036854775807) (hb : b.size ≤ 9223372036854775807) :
    Calls Tryz.prog 53 #[.string a, .string b] w fun e w' => e = .returned (.int .i64 (sharedL a.data.toList b.data.toList)) ∧ Below w.heap.size w w' := by
  have la := bt_size a
  have lb := bt_size b
  have ga := Lib.hid (bt_get a)
  have gb := Lib.hid (bt_get b)
  generalize a.data.toList = L at *
  generalize b.data.toList = M at *
  have LA := Lib.hid la
  have LB := Lib.hid lb
  clear la lb
  generalize hR : sharedL L M = R
  have HR : Hid (0 + sharedL (L.drop 0) (M.drop 0) = R) := Lib.hid (by rw [Nat.zero_add]; exact hR)
  clear hR
  go_enter Tryz.func53, Tryz.ntmps53
  go_wp2
  go_loopw [5] (fun v wr => ∃ (k : Nat), k ≤ a.size ∧ v = .int .i64 k ∧ Hid (k + sharedL (L.drop k) (M.drop k) = R) ∧ Below w.heap.size w wr) (fun v _ => a.size - (intOf v).toNat)
  case atStart => exact ⟨0, Nat.zero_le _, rfl, HR, Below.refl _ _⟩
  case round =>
    obtain ⟨k, hk, rfl, H, hB⟩ := hrel
    have i0 : 0 ≤ (k : Int) := by omega
    by_cases h1 : k < a.size
    · have g1 := ga.out k h1
      have i1 : (k : Int) < a.size := by omega
      by_cases h2 : k < b.size
      · have g2 := gb.out k h2
        have i2 : (k : Int) < b.size := by omega
        by_cases he : bt L k = bt M k
        · have hst := Lib.hid ((sh_step (by have := LA.out; omega) (by have := LB.out; omega) he).symm.trans H.out)
          have he1 : (((bt L k).toNat : Int) == ((bt M k).toNat : Int)) = true := by rw [he]; simp
          generalize bt L k = x at *
          generalize bt M k = y at *
          clear H he
          go_wp2
          go_quiet (fail)
          go_wp2
          go_roundw
          case rel => exact ⟨k + 1, by omega, by go_num, hst, below_drewN hB _⟩
          case measure => simp [intOf] <;> omega
        · have hr := (sh_stop (by have := LA.out; omega) (by have := LB.out; omega) he).symm.trans H.out
          subst hr
          have he1 := ne_toNat he
          generalize bt L k = x at *
          generalize bt M k = y at *
          clear H he
          go_wp2
          go_quiet (fail)
          go_wp2
          go_ret
          exact ⟨rfl, below_drewN hB _⟩
      · have hr := (sh_end (a := L) (b := M) (k := k) (by have := LA.out; have := LB.out; omega)).symm.trans H.out
        subst hr
        have i4 : decide (k < b.size) = false := decide_eq_false h2
        clear H
        go_wp2
        go_quiet (fail)
        go_wp2
        go_ret
        exact ⟨rfl, below_drewN hB _⟩
    · have hr := (sh_end (a := L) (b := M) (k := k) (by have := LA.out; have := LB.out; omega)).symm.trans H.out
      subst hr
      have i4 : decide (k < a.size) = false := decide_eq_false h1
      clear H
      go_wp2
      go_quiet (fail)
      go_wp2
      go_ret
      exact ⟨rfl, below_drewN hB _⟩

/-! ### numbers and texts -/
set_option maxHeartbeats 1000000 in
set_option maxRecDepth 100000 in
theorem tnum_any (b n : Nat) (v : Value) (l : List UInt8) (w : World) (h : Bld 106 5 w b v l) (hn : n ≤ 4194304) (hl : l.length ≤ 16777216) :
    Calls Tryz.prog 68 #[.int .i64 n, .pointer (some ⟨b, 0, none⟩)] w fun e w' => ∃ v', e = .returned (.tuple #[]) ∧ Bld 106 5 w' b v' (l ++ numL n) ∧ FrB 5 b w w' := by
  have hn1 := fun w => code_num (n : Int) w (by omega) (by omega)
  rw [numS_ok (by omega) (by omega), numE_ok (by omega) (by omega), Int.toNat_natCast] at hn1
  have HN := Lib.hid hn1
  have h9 := numL_len n (by omega)
  have hsz : (⟨(numL n).toArray⟩ : ByteArray).size = (numL n).length := by rw [ba_size]
  clear hn1
  go_enter Tryz.func68, Tryz.ntmps68
  go_wp2_with (go_at_call 69; refine (HN.out _).mono ?_; rintro e w1 ⟨rfl, hb1⟩)
  have hB1 := h.fr (Fr.of_below hb1 (fun _ => False)) (by simp) (by simp)
  refine (writeString_any _ _ _ _ _ hB1 (by rw [hsz]; omega)).mono ?_
  rintro e w2 ⟨v2, rfl, hB2, hf2⟩
  go_wp2
  go_returns
  exact ⟨v2, rfl, by simpa using hB2, (FrB.of_below hb1).trans hf2⟩
/-! ### a manifest's bytes -/
def itemBy (last : List UInt8) (f : ItemD) : List UInt8 :=
  numL (sharedL last f.path.data.toList) ++ (numL (f.path.size - sharedL last f.path.data.toList) ++ (f.path.data.toList.drop (sharedL last f.path.data.toList) ++ (numL f.mode.toNat ++ (numL f.size.toNat ++ f.mark.data.toList))))
def bytesGo : List UInt8 → List ItemD → List UInt8
  | _, [] => []
  | last, f :: r => itemBy last f ++ bytesGo f.path.data.toList r
def bytesL (l : List ItemD) : List UInt8 := numL l.length ++ bytesGo [] l
def bytesS (l : List ItemD) : ByteArray := if rightE l = 0 then ⟨(bytesL l).toArray⟩ else .empty
def lastAt (l : List ItemD) (k : Nat) : List UInt8 := if k = 0 then [] else match l[k - 1]? with | some f => f.path.data.toList | none => []
theorem lastAt_succ {l : List ItemD} {k : Nat} {f : ItemD} (h : l[k]? = some f) : lastAt l (k + 1) = f.path.data.toList := by
  unfold lastAt
  rw [if_neg (by omega), Nat.add_sub_cancel, h]
theorem bytesGo_step {l : List ItemD} {k : Nat} {f : ItemD} (h : l[k]? = some f) : bytesGo (lastAt l k) (l.drop k) = itemBy (lastAt l k) f ++ bytesGo (lastAt l (k + 1)) (l.drop (k + 1)) := by
  rw [lastAt_succ h, drop_head h, bytesGo]
theorem bytesGo_end {l : List ItemD} {k : Nat} (last : List UInt8) (h : l.length ≤ k) : bytesGo last (l.drop k) = [] := by rw [List.drop_eq_nil_of_le h, bytesGo]
theorem stepE_pathE {q : Option (List UInt8)} {s : List UInt8} (h : stepE q s = 0) : pathE s = 0 := by
  unfold stepE at h
  by_cases h0 : pathE s = 0
  · exact h0
  · rw [if_neg h0] at h; exact absurd h h0
theorem pathsGo_all : ∀ (q : Option (List UInt8)) (l : List (List UInt8)), pathsGo q l = 0 → ∀ x ∈ l, pathE x = 0
  | _, [], _, x, hx => by cases hx
  | q, s :: r, h, x, hx => by
    rw [pathsGo] at h
    by_cases h0 : stepE q s = 0
    · rw [if_pos h0] at h
      rcases List.mem_cons.1 hx with rfl | hx
      · exact stepE_pathE h0
      · exact pathsGo_all _ r h x hx
    · rw [if_neg h0] at h; exact absurd h h0
theorem itemsE_all : ∀ (l : List ItemD), itemsE l = 0 → ∀ x ∈ l, itemE x = 0
  | [], _, x, hx => by cases hx
  | f :: r, h, x, hx => by
    rw [itemsE] at h
    by_cases h0 : itemE f = 0
    · rw [if_pos h0] at h
      rcases List.mem_cons.1 hx with rfl | hx
      · exact h0
      · exact itemsE_all r h x hx
    · rw [if_neg h0] at h; exact absurd h h0
theorem itemE_zero {f : ItemD} (h : itemE f = 0) : (0 ≤ f.mode ∧ f.mode ≤ 511) ∧ (0 ≤ f.size ∧ f.size ≤ 65536) ∧ f.mark.size = 32 := by
  unfold itemE at h
  by_cases h1 : 0 ≤ f.mode ∧ f.mode ≤ 511
  · rw [if_pos h1] at h
    by_cases h2 : 0 ≤ f.size ∧ f.size ≤ 65536
    · rw [if_pos h2] at h
      by_cases h3 : f.mark.size = 32
      · exact ⟨h1, h2, h3⟩
      · rw [if_neg h3] at h; cases h
    · rw [if_neg h2] at h; cases h
  · rw [if_neg h1] at h; cases h
theorem rightE_zero {l : List ItemD} (h : rightE l = 0) : l.length ≤ 256 ∧ ∀ f ∈ l, pathE f.path.data.toList = 0 ∧ itemE f = 0 := by
  unfold rightE at h
  by_cases h0 : pathsE (lists (ipaths l)) = 0
  · rw [if_pos h0] at h
    unfold pathsE at h0
    by_cases h1 : 256 < (lists (ipaths l)).length
    · rw [if_pos h1] at h0; cases h0
    · rw [if_neg h1] at h0
      rw [lists_len, ipaths_len] at h1
      refine ⟨by omega, fun f hf => ⟨pathsGo_all _ _ h0 _ (List.mem_map_of_mem (List.mem_map_of_mem hf)), itemsE_all _ h f hf⟩⟩
  · rw [if_neg h0] at h; exact absurd h h0
end Go.Proofs.YtmcgaaihdjpdgaaGreatDoor
/- The walk through Bytes. -/
namespace Go.Proofs.YtmcgaaihdjpdgaaGreatDoor
open Go.RowKit
set_option linter.unusedVariables false

theorem tnum_at (b : Nat) (x : Int) (v : Value) (l : List UInt8) (w : World) (h : Bld 106 5 w b v l) (h0 : 0 ≤ x) (h1 : x ≤ 4194304) (hl : l.length ≤ 16777216) :
    Calls Tryz.prog 68 #[.int .i64 x, .pointer (some ⟨b, 0, none⟩)] w fun e w' => ∃ v', e = .returned (.tuple #[]) ∧ Bld 106 5 w' b v' (l ++ numL x.toNat) ∧ FrB 5 b w w' ∧ (numL x.toNat).length ≤ 9 := by
  obtain ⟨n, rfl⟩ := Int.eq_ofNat_of_zero_le h0
  exact (tnum_any b n v l w h (by omega) hl).mono fun e w' ⟨v', h1, h2, h3⟩ => ⟨v', h1, h2, h3, numL_len _ (by omega)⟩
theorem ws_at (b : Nat) (v : Value) (l : List UInt8) (s : ByteArray) (w : World) (h : Bld 106 5 w b v l) (hs : s.size ≤ 200) (hlen : l.length ≤ 16777216) :
    Calls Tryz.prog 70 #[.pointer (some ⟨b, 0, none⟩), .string s] w fun e w' => ∃ v', e = .returned (.tuple #[.int .i64 s.size, .nilIface]) ∧ Bld 106 5 w' b v' (l ++ s.data.toList) ∧ FrB 5 b w w' ∧ s.data.toList.length ≤ 200 :=
  (writeString_any b v l s w h (by omega)).mono fun e w' ⟨v', h1, h2, h3⟩ => ⟨v', h1, h2, h3, by rw [← bt_size]; exact hs⟩
theorem app_le {l m : List UInt8} {a b : Nat} (h : l.length ≤ a) (k : m.length ≤ b) : (l ++ m).length ≤ a + b := by rw [List.length_append]; omega
theorem ibox_cells {W : World} {g : Nat} {t : TypeId} {p k : ByteArray} {m z : Int} (h : Blk W g t #[.string p, .int .i64 m, .int .i64 z, .string k]) :
    W.cell? ⟨g, 0, none⟩ = some (.string p) ∧ W.cell? ⟨g, 1, none⟩ = some (.int .i64 m) ∧ W.cell? ⟨g, 2, none⟩ = some (.int .i64 z) ∧ W.cell? ⟨g, 3, none⟩ = some (.string k) := ⟨h.cell 0, h.cell 1, h.cell 2, h.cell 3⟩
theorem nat_of {x : Int} (h0 : 0 ≤ x) (h1 : x ≤ 65536) : ∃ n : Nat, x = (n : Int) ∧ n ≤ 65536 := ⟨x.toNat, by omega, by omega⟩

theorem itemBy_cat (cur rest : List UInt8) (p mark : ByteArray) (n m z : Nat) :
    cur ++ (numL n ++ (numL (p.size - n) ++ (p.data.toList.drop n ++ (numL (m : Int).toNat ++ (numL (z : Int).toNat ++ mark.data.toList)))) ++ rest) =
      (cur ++ numL (n : Int).toNat ++ numL ((p.size : Int) - n).toNat ++ (p.extract n p.size).data.toList ++ numL (m : Int).toNat ++ numL (z : Int).toNat ++ mark.data.toList) ++ rest := by
  have e1 : (n : Int).toNat = n := by omega
  have e2 : ((p.size : Int) - n).toNat = p.size - n := by omega
  have e3 : (p.extract n p.size).data.toList = p.data.toList.drop n := by
    rw [extract_list _ _ _ (Nat.le_refl _), bt_size, List.take_of_length_le (Nat.le_refl _)]
  rw [e1, e2, e3]
  simp only [List.append_assoc]
theorem ne_app6 {cur : List UInt8} (h : cur ≠ []) (a b c d e f : List UInt8) : cur ++ a ++ b ++ c ++ d ++ e ++ f ≠ [] := by
  cases cur with
  | nil => exact absurd rfl h
  | cons x l => simp

set_option maxHeartbeats 2000000 in
set_option maxRecDepth 100000 in
theorem bytes_ok (A : Option Addr) (c : Nat) (l : List ItemD) (w : World) (hz : l.length ≤ 8796093022208) (hx : ∀ f ∈ l, IOk f)
    (hc : Arr w w.heap.size 4 A l.length (icells l)) (hm : Ml w) (h0 : rightE l = 0) :
    Calls Tryz.prog 41 #[.slice A l.length c] w fun e w' => e = .returned (.tuple #[.string ⟨(bytesL l).toArray⟩, .int .i64 0]) ∧ Below w.heap.size w w' := by
  obtain ⟨h256, hall⟩ := rightE_zero h0
  have hr := right_any A c l w hz hx hc hm
  rw [h0] at hr
  have HR := Lib.hid hr
  have HALL := Lib.hid hall
  have HX := Lib.hid hx
  have HC := Lib.hid hc
  obtain ⟨S, hS⟩ : ∃ S, S = bytesL l := ⟨_, rfl⟩
  have HS : Hid (S = ([] ++ numL (l.length : Int).toNat) ++ bytesGo (lastAt l 0) (l.drop 0)) := Lib.hid (by rw [hS]; rfl)
  rw [← hS]
  clear hr hall hx hc hS
  go_enter Tryz.func41, Tryz.ntmps41
  go_wp2_with (first
    | (go_at_call 66; (with_reducible refine HR.out.mono ?_); rintro e w1 ⟨rfl, hb1⟩; have hbld := Bld.new w1 106 5; have hcl : ([] : List UInt8).length ≤ 0 := Nat.le_refl _)
    | (go_at_call 68; (refine (tnum_at _ _ _ _ _ hbld (by omega) (by omega) (by omega)).mono ?_); rintro e w2 ⟨v2, rfl, hbld, hf2, h9⟩; have hcl := app_le hcl h9))
  have hs1 : w1.heap.size ≤ (w1.alloc (.cells #[.pointer none, .slice none 0 0] 106)).heap.size := by simp
  have hB2 : Below w1.heap.size w1 w2 := ((Below.refl _ w1).alloc (Nat.le_refl _) _).trans (hf2.below hs1)
  have hbx0 := hbld.lt
  go_loopw [7, 23] (fun vl v wr => ∃ (k : Nat) (x : ByteArray) (V : Value) (cur : List UInt8), k ≤ l.length ∧ v = .int .i64 k ∧ vl = .string x ∧ Hid (x.data.toList = lastAt l k) ∧ x.size ≤ 200 ∧ Hid (Bld 106 5 wr w1.heap.size V cur) ∧ cur.length ≤ 9 + k * 500 ∧ Hid (S = cur ++ bytesGo (lastAt l k) (l.drop k)) ∧ Hid (cur ≠ []) ∧ Below w1.heap.size w1 wr) (fun _ v _ => l.length - (intOf v).toNat)
  case atStart => exact ⟨0, ⟨#[]⟩, v2, _, Nat.zero_le _, rfl, rfl, by simp [Hid, lastAt], by decide, Lib.hid hbld, by omega, HS, Lib.hid (by simp [numL_ne]), hB2⟩
  case round =>
    obtain ⟨k, x, V, cur, hk, rfl, rfl, hxl, hx2, HBL, hcl, H, HNE, hBB⟩ := hrel
    have hbld := HBL.out
    have hBs := hBB.size
    have hlt1 := hbld.lt
    by_cases hlt : k < l.length
    · obtain ⟨f, hf⟩ : ∃ f, l[k]? = some f := ⟨_, List.getElem?_eq_getElem hlt⟩
      obtain ⟨b, o, rfl, hb, hcell⟩ := HC.out.2 (by omega)
      have hb1s := hb1.size
      obtain ⟨c0, c1, c2, c3⟩ := item_cells (fun i u h => (hBB.cell (p := ⟨b, o + i, none⟩) (by show b < _; omega)).trans ((hb1.cell (p := ⟨b, o + i, none⟩) hb).trans (hcell i u h))) hf
      obtain ⟨hpe, hie⟩ := HALL.out f (List.mem_of_getElem? hf)
      obtain ⟨hmo, hsi, hma⟩ := itemE_zero hie
      have hp2 := pathE_long hpe
      have hst := (bytesGo_step hf)
      have hla := lastAt_succ hf
      have hsl := sharedL_le (lastAt l k) f.path.data.toList
      have hps := bt_size f.path
      have hsh := fun W => shared_any x f.path W (by omega) (by omega)
      rw [hxl.out] at hsh
      have HST : Hid (S = cur ++ (itemBy (lastAt l k) f ++ bytesGo (lastAt l (k + 1)) (l.drop (k + 1)))) := Lib.hid (by rw [← hst]; exact H.out)
      have HLA : Hid (f.path.data.toList = lastAt l (k + 1)) := Lib.hid hla.symm
      unfold itemBy at HST
      generalize sharedL (lastAt l k) f.path.data.toList = n at *
      have hn : n ≤ f.path.size := by omega
      obtain ⟨m, hmm, hm5⟩ := nat_of hmo.1 (by omega)
      obtain ⟨z, hzz, hz5⟩ := nat_of hsi.1 hsi.2
      rw [hmm] at c1 HST
      rw [hzz] at c2 HST
      clear hst hla hsl hps hcell hpe hie hmm hzz hmo hsi hf HBL hxl H
      have hma1 : f.mark.size ≤ 32 := by omega
      have hkg : (f.path.size : Int) - (n : Int) = ((f.path.size - n : Nat) : Int) := by omega
      have HKG := Lib.hid hkg
      have HSH := Lib.hid hsh
      clear hma hkg hsh
      have hbox := Blk.new wr 58 #[.string f.path, .int .i64 (m : Int), .int .i64 (z : Int), .string f.mark]
      have hbld := hbld.fr ((Fr.refl (fun _ => False) wr).alloc (.cells #[.string f.path, .int .i64 (m : Int), .int .i64 (z : Int), .string f.mark] 58)) (by simp) (by simp)
      have hBB := hBB.alloc hBs (.cells #[.string f.path, .int .i64 (m : Int), .int .i64 (z : Int), .string f.mark] 58)
      have hgB : wr.heap.size ≠ w1.heap.size := by omega
      have n1 : (n : Int) ≤ f.path.size := by omega
      go_wp2_with (first
        | (go_at_call 64; (with_reducible refine (HSH.out _).mono ?_); rintro e w3 ⟨rfl, hb3⟩; have hbox := hbox.below hb3 hbox.lt; have hbld := hbld.fr (Fr.of_below hb3 (fun _ => False)) (by simp) (by simp); have hBB := hBB.trans (hb3.mono hBB.size); obtain ⟨k0, k1, k2, k3⟩ := ibox_cells hbox)
        | (go_at_call 68; (refine (tnum_at _ _ _ _ _ hbld (by omega) (by omega) (by omega)).mono ?_); rintro e w4 ⟨v4, rfl, hbld, hf4, h9⟩; have hcl := app_le hcl h9; have hbox := hf4.blk hbox hgB (by decide); have hBB := hBB.trans (hf4.below hBB.size); obtain ⟨k0, k1, k2, k3⟩ := ibox_cells hbox)
        | (go_at_call 70; (refine (ws_at _ _ _ _ _ hbld (by first | omega | (simp; omega)) (by omega)).mono ?_); rintro e w5 ⟨v5, rfl, hbld, hf5, h9⟩; have hcl := app_le hcl h9; have hbox := hf5.blk hbox hgB (by decide); have hBB := hBB.trans (hf5.below hBB.size); obtain ⟨k0, k1, k2, k3⟩ := ibox_cells hbox))
      have hS := HST.out
      rw [itemBy_cat] at hS
      have HS2 := Lib.hid hS
      have HNE2 := Lib.hid (ne_app6 HNE.out (numL (n : Int).toNat) (numL ((f.path.size : Int) - n).toNat) (f.path.extract n f.path.size).data.toList (numL (m : Int).toNat) (numL (z : Int).toNat) f.mark.data.toList)
      have HBL2 := Lib.hid hbld
      clear hS hbld
      go_roundw
      case rel => exact ⟨k + 1, f.path, _, _, by omega, by go_num, rfl, HLA, hp2, HBL2, by omega, HS2, HNE2, hBB⟩
      case measure => simp [intOf] <;> omega
    · have hS := H.out
      rw [bytesGo_end _ (by omega), List.append_nil] at hS
      subst hS
      have HB := Lib.hid hbld
      clear H hbld
      go_wp2_with (go_at_call 71; (with_reducible refine (string_any _ _ _ _ HB.out HNE.out).mono ?_); rintro e w3 ⟨rfl, hf3⟩)
      go_ret2
      exact ⟨rfl, below_on hb1 (hBB.trans (hf3.below hBB.size))⟩
theorem bytes_any (A : Option Addr) (c : Nat) (l : List ItemD) (w : World) (hz : l.length ≤ 8796093022208) (hx : ∀ f ∈ l, IOk f)
    (hc : Arr w w.heap.size 4 A l.length (icells l)) (hm : Ml w) :
    Calls Tryz.prog 41 #[.slice A l.length c] w fun e w' => e = .returned (.tuple #[.string (bytesS l), .int .i64 (rightE l)]) ∧ Below w.heap.size w w' := by
  by_cases h0 : rightE l = 0
  · unfold bytesS
    rw [if_pos h0, h0]
    exact bytes_ok A c l w hz hx hc hm h0
  · unfold bytesS
    rw [if_neg h0]
    have HR := Lib.hid (right_any A c l w hz hx hc hm)
    have e0 : (rightE l == 0) = false := by rw [beq_eq_false_iff_ne]; exact h0
    generalize rightE l = E at *
    go_enter Tryz.func41, Tryz.ntmps41
    go_wp2_with (go_at_call 66; (with_reducible refine HR.out.mono ?_); rintro e w1 ⟨rfl, hb1⟩)
    go_ret2
    exact ⟨rfl, hb1⟩
end Go.Proofs.YtmcgaaihdjpdgaaGreatDoor
/- The walk through the reference's Bytes; the law TreeBytes. -/
namespace Go.Proofs.YtmcgaaihdjpdgaaGreatDoor
open Go.RowKit
set_option linter.unusedVariables false

theorem cat_list (a b : ByteArray) : (a ++ b).data.toList = a.data.toList ++ b.data.toList := by rw [ByteArray.data_append, Array.toList_append]

end Go.Proofs.YtmcgaaihdjpdgaaGreatDoor
/- Plain laws of a reader's lists: no program in sight. -/
namespace Go.Proofs.YtmcgaaihdjpdgaaGreatDoor
open Go.RowKit

theorem rdNumGo_s (f : Nat) : ∀ (i n : Nat) (r : Rd), (rdNumGo f i n r).2.s = r.s := by
  induction f with
  | zero => intro i n r; rfl
  | succ f ih =>
    intro i n r
    have hb := rdByte_s r
    rw [rdNumGo]
    simp only []
    split
    · exact hb
    · split
      · exact hb
      · split
        · exact hb
        · rw [ih]; exact hb
theorem rdNum_s (r : Rd) : (rdNum r).2.s = r.s := rdNumGo_s 9 0 0 r

theorem rdByte_adv {r : Rd} (h : (rdByte r).2.e = 0) : r.at_ + 1 = (rdByte r).2.at_ ∧ r.e = 0 := by
  unfold rdByte at h ⊢
  split
  · rename_i h0
    rw [if_pos h0] at h
    exact absurd h h0
  · rename_i h0
    rw [if_neg h0] at h
    split
    · exact ⟨rfl, by simpa using h0⟩
    · rename_i h1
      rw [dif_neg h1] at h
      simp at h
theorem rdNumGo_adv (f : Nat) : ∀ (i n : Nat) (r : Rd), (rdNumGo f i n r).2.e = 0 → r.at_ ≤ (rdNumGo f i n r).2.at_ ∧ (0 < f → r.at_ + 1 ≤ (rdNumGo f i n r).2.at_) ∧ r.e = 0 := by
  induction f with
  | zero => intro i n r h; exact ⟨Nat.le_refl _, fun h => absurd h (by omega), h⟩
  | succ f ih =>
    intro i n r h
    rw [rdNumGo] at h ⊢
    simp only [] at h ⊢
    split
    · rename_i h0
      rw [if_pos h0] at h
      exact absurd h h0
    · rename_i h0
      rw [if_neg h0] at h
      have h0' : (rdByte r).2.e = 0 := by simpa using h0
      obtain ⟨ha, he⟩ := rdByte_adv h0'
      split
      · rename_i h1
        rw [if_pos h1] at h
        simp at h
      · rename_i h1
        rw [if_neg h1] at h
        split
        · exact ⟨by show r.at_ ≤ (rdByte r).2.at_; omega, fun _ => by show r.at_ + 1 ≤ (rdByte r).2.at_; omega, he⟩
        · rename_i h2
          rw [if_neg h2] at h
          have := ih _ _ _ h
          exact ⟨by omega, fun _ => by omega, he⟩
theorem rdNum_adv {r : Rd} (h : (rdNum r).2.e = 0) : r.at_ + 1 ≤ (rdNum r).2.at_ ∧ r.e = 0 :=
  have := rdNumGo_adv 9 0 0 r h
  ⟨this.2.1 (by omega), this.2.2⟩

theorem rdNumGo_err (f : Nat) : ∀ (i n : Nat) (r : Rd), (rdNumGo f i n r).2.e ≠ 0 → 0 < f → (rdNumGo f i n r).1 = 0 := by
  induction f with
  | zero => intro i n r h hf; omega
  | succ f ih =>
    intro i n r h _
    rw [rdNumGo] at h ⊢
    simp only [] at h ⊢
    split
    · rfl
    · rename_i h0
      rw [if_neg h0] at h
      split
      · rfl
      · rename_i h1
        rw [if_neg h1] at h
        split
        · rename_i h2
          rw [if_pos h2] at h
          exact absurd h h0
        · rename_i h2
          rw [if_neg h2] at h
          rcases Nat.eq_zero_or_pos f with hf | hf
          · subst hf
            simp only [rdNumGo] at h
            exact absurd h h0
          · exact ih _ _ _ h hf
theorem rdNum_err {r : Rd} (h : (rdNum r).2.e ≠ 0) : (rdNum r).1 = 0 := rdNumGo_err 9 0 0 r h (by omega)

theorem rdCount_s (r : Rd) (m : Int) : (rdCount r m).2.s = r.s := by
  unfold rdCount
  simp only []
  split <;> exact rdNum_s r
theorem rdCount_pos {r : Rd} {m : Int} (h : 0 < (rdCount r m).1) : (rdCount r m).2.e = 0 := by
  unfold rdCount at h ⊢
  simp only [] at h ⊢
  split
  · rename_i h0
    rw [if_pos h0] at h
    simp at h
  · rename_i h0
    rw [if_neg h0] at h
    by_cases he : (rdNum r).2.e = 0
    · exact he
    · have := rdNum_err he
      omega
theorem rdCount_adv {r : Rd} {m : Int} (h : (rdCount r m).2.e = 0) : r.at_ + 1 ≤ (rdCount r m).2.at_ ∧ r.e = 0 := by
  unfold rdCount at h ⊢
  simp only [] at h ⊢
  split
  · rename_i h0
    rw [if_pos h0] at h
    simp at h
  · rename_i h0
    rw [if_neg h0] at h
    exact rdNum_adv h
theorem rdCount_ok' {r : Rd} {m : Int} (h : r.ok) : (rdCount r m).2.ok := by
  unfold rdCount
  simp only []
  split <;> exact rdNum_ok h
theorem rdRaw_s (r : Rd) (n : Int) : (rdRaw r n).2.s = r.s := by
  unfold rdRaw
  (repeat' split) <;> rfl
theorem rdRaw_ok {r : Rd} {n : Int} (h : r.ok) : (rdRaw r n).2.ok := by
  unfold rdRaw
  split
  · exact h
  · split
    · exact h
    · split
      · exact h
      · rename_i h1 h2
        refine ⟨?_, h.2⟩
        show r.at_ + n.toNat ≤ r.s.size
        omega
theorem rdRaw_adv {r : Rd} {n : Int} (h : (rdRaw r n).2.e = 0) : r.at_ ≤ (rdRaw r n).2.at_ ∧ r.e = 0 := by
  unfold rdRaw at h ⊢
  split
  · rename_i h0
    rw [if_pos h0] at h
    exact absurd h h0
  · rename_i h0
    rw [if_neg h0] at h
    have h0' : r.e = 0 := by simpa using h0
    split
    · exact ⟨Nat.le_refl _, h0'⟩
    · split
      · exact ⟨Nat.le_refl _, h0'⟩
      · exact ⟨Nat.le_add_right _ _, h0'⟩
theorem rdText_s (r : Rd) (m : Int) : (rdText r m).2.s = r.s := by
  unfold rdText
  simp only []
  rw [rdRaw_s, rdCount_s]
theorem rdText_ok {r : Rd} {m : Int} (h : r.ok) : (rdText r m).2.ok := by
  unfold rdText
  exact rdRaw_ok (rdCount_ok' h)
theorem rdText_adv {r : Rd} {m : Int} (h : (rdText r m).2.e = 0) : r.at_ + 1 ≤ (rdText r m).2.at_ ∧ r.e = 0 := by
  unfold rdText at h ⊢
  simp only [] at h ⊢
  obtain ⟨h1, h2⟩ := rdRaw_adv h
  obtain ⟨h3, h4⟩ := rdCount_adv h2
  exact ⟨by omega, h4⟩

/-- A number as an int's cell. -/
def natV (n : Nat) : Value := .int .i64 n

/-- Where a list's reading stands: so many are read, so many are to come. -/
def NumsAt (n : Nat) (r1 : Rd) (j : Nat) (done : List Nat) (st : Rd) : Prop := rdNumsGo n r1 = (done ++ (rdNumsGo (n - j) st).1, (rdNumsGo (n - j) st).2)
theorem NumsAt.start (n : Nat) (r1 : Rd) : NumsAt n r1 0 [] r1 := rfl
theorem NumsAt.step {n : Nat} {r1 : Rd} {j : Nat} {done : List Nat} {st : Rd} (h : NumsAt n r1 j done st) (hj : j < n) (he : (rdNum st).2.e = 0) : NumsAt n r1 (j + 1) (done ++ [(rdNum st).1]) (rdNum st).2 := by
  unfold NumsAt at h ⊢
  rw [h, show n - j = (n - (j + 1)) + 1 by omega, rdNumsGo]
  simp only []
  rw [if_neg (by simpa using he)]
  simp
theorem NumsAt.err {n : Nat} {r1 : Rd} {j : Nat} {done : List Nat} {st : Rd} (h : NumsAt n r1 j done st) (hj : j < n) (he : (rdNum st).2.e ≠ 0) : (rdNumsGo n r1).2 = (rdNum st).2 := by
  unfold NumsAt at h
  rw [h, show n - j = (n - (j + 1)) + 1 by omega, rdNumsGo]
  simp only []
  rw [if_pos he]
theorem NumsAt.fin {n : Nat} {r1 : Rd} {j : Nat} {done : List Nat} {st : Rd} (h : NumsAt n r1 j done st) (hj : n ≤ j) : rdNumsGo n r1 = (done, st) := by
  unfold NumsAt at h
  rw [h, show n - j = 0 by omega, rdNumsGo]
  simp
def TextsAt (m : Int) (n : Nat) (r1 : Rd) (j : Nat) (done : List ByteArray) (st : Rd) : Prop := rdTextsGo n m r1 = (done ++ (rdTextsGo (n - j) m st).1, (rdTextsGo (n - j) m st).2)
theorem TextsAt.start (m : Int) (n : Nat) (r1 : Rd) : TextsAt m n r1 0 [] r1 := rfl
theorem TextsAt.step {m : Int} {n : Nat} {r1 : Rd} {j : Nat} {done : List ByteArray} {st : Rd} (h : TextsAt m n r1 j done st) (hj : j < n) (he : (rdText st m).2.e = 0) : TextsAt m n r1 (j + 1) (done ++ [(rdText st m).1]) (rdText st m).2 := by
  unfold TextsAt at h ⊢
  rw [h, show n - j = (n - (j + 1)) + 1 by omega, rdTextsGo]
  simp only []
  rw [if_neg (by simpa using he)]
  simp
theorem TextsAt.err {m : Int} {n : Nat} {r1 : Rd} {j : Nat} {done : List ByteArray} {st : Rd} (h : TextsAt m n r1 j done st) (hj : j < n) (he : (rdText st m).2.e ≠ 0) : (rdTextsGo n m r1).2 = (rdText st m).2 := by
  unfold TextsAt at h
  rw [h, show n - j = (n - (j + 1)) + 1 by omega, rdTextsGo]
  simp only []
  rw [if_pos he]
theorem TextsAt.fin {m : Int} {n : Nat} {r1 : Rd} {j : Nat} {done : List ByteArray} {st : Rd} (h : TextsAt m n r1 j done st) (hj : n ≤ j) : rdTextsGo n m r1 = (done, st) := by
  unfold TextsAt at h
  rw [h, show n - j = 0 by omega, rdTextsGo]
  simp

theorem rdNums_err {r : Rd} {m : Int} {st : Rd} (h : (rdNumsGo (rdCount r m).1 (rdCount r m).2).2 = st) (he : st.e ≠ 0) : rdNums r m = ([], st) := by
  unfold rdNums
  simp only []
  rw [h, if_pos he]
theorem rdNums_fin {r : Rd} {m : Int} {done : List Nat} {st : Rd} (h : rdNumsGo (rdCount r m).1 (rdCount r m).2 = (done, st)) (he : st.e = 0 ∨ done = []) : rdNums r m = (done, st) := by
  unfold rdNums
  simp only []
  rw [h]
  rcases he with he | rfl
  · rw [if_neg (by simpa using he)]
  · split <;> rfl
theorem rdTexts_err {r : Rd} {m k : Int} {st : Rd} (h : (rdTextsGo (rdCount r m).1 k (rdCount r m).2).2 = st) (he : st.e ≠ 0) : rdTexts r m k = ([], st) := by
  unfold rdTexts
  simp only []
  rw [h, if_pos he]
theorem rdTexts_fin {r : Rd} {m k : Int} {done : List ByteArray} {st : Rd} (h : rdTextsGo (rdCount r m).1 k (rdCount r m).2 = (done, st)) (he : st.e = 0 ∨ done = []) : rdTexts r m k = (done, st) := by
  unfold rdTexts
  simp only []
  rw [h]
  rcases he with he | rfl
  · rw [if_neg (by simpa using he)]
  · split <;> rfl
end Go.Proofs.YtmcgaaihdjpdgaaGreatDoor
/- The manifest that bytes are, as plain data: no program in sight. -/
namespace Go.Proofs.YtmcgaaihdjpdgaaGreatDoor
open Go.RowKit
set_option linter.unusedVariables false

/-- One item behind the path last: what is wrong, or the item and the reader behind it. -/
def itErr (last : ByteArray) (n : Nat) (t : ByteArray) (e : Int) : Int :=
  if e ≠ 0 then e else if last.size < n then 5 else if sharedL last.data.toList (last.extract 0 n ++ t).data.toList = n then 0 else 5
def manGo : Nat → ByteArray → List ItemD → Rd → Int × List ItemD × Rd
  | 0, _, acc, r => (0, acc, r)
  | k + 1, last, acc, r =>
    let x1 := rdCount r 200
    let x2 := rdText x1.2 200
    let x3 := rdNum x2.2
    let x4 := rdNum x3.2
    let x5 := rdRaw x4.2 32
    if itErr last x1.1 x2.1 x5.2.e = 0 then manGo k (last.extract 0 x1.1 ++ x2.1) (acc ++ [⟨last.extract 0 x1.1 ++ x2.1, x3.1, x4.1, x5.1⟩]) x5.2
    else (itErr last x1.1 x2.1 x5.2.e, [], r)
/-- What is told of the reader's end. -/
def manEnd (y : Int × List ItemD × Rd) : Int × List ItemD :=
  if y.1 = 0 then if (rdEnd y.2.2).e = 0 then if rightE y.2.1 = 0 then (0, y.2.1) else (rightE y.2.1, []) else ((rdEnd y.2.2).e, []) else (y.1, [])
def manOf (s : ByteArray) : Int × List ItemD := manEnd (manGo (rdCount ⟨s, 0, 0⟩ 256).1 .empty [] (rdCount ⟨s, 0, 0⟩ 256).2)
theorem manGo_step {k : Nat} {last : ByteArray} {acc : List ItemD} {r r1 r2 r3 r4 r5 : Rd} {n m z : Nat} {t q : ByteArray}
    (h1 : rdCount r 200 = (n, r1)) (h2 : rdText r1 200 = (t, r2)) (h3 : rdNum r2 = (m, r3)) (h4 : rdNum r3 = (z, r4)) (h5 : rdRaw r4 32 = (q, r5)) (h0 : itErr last n t r5.e = 0) :
    manGo (k + 1) last acc r = manGo k (last.extract 0 n ++ t) (acc ++ [⟨last.extract 0 n ++ t, m, z, q⟩]) r5 := by
  rw [manGo]
  simp only [h1, h2, h3, h4, h5]
  rw [if_pos h0]
theorem manGo_stop {k : Nat} {last : ByteArray} {acc : List ItemD} {r r1 r2 r3 r4 r5 : Rd} {n m z : Nat} {t q : ByteArray}
    (h1 : rdCount r 200 = (n, r1)) (h2 : rdText r1 200 = (t, r2)) (h3 : rdNum r2 = (m, r3)) (h4 : rdNum r3 = (z, r4)) (h5 : rdRaw r4 32 = (q, r5)) (h0 : itErr last n t r5.e ≠ 0) :
    manEnd (manGo (k + 1) last acc r) = (itErr last n t r5.e, []) := by
  rw [manGo]
  simp only [h1, h2, h3, h4, h5]
  rw [if_neg h0]
  unfold manEnd
  rw [if_neg h0]
theorem manEnd_end {acc : List ItemD} {r : Rd} (h : (rdEnd r).e ≠ 0) : manEnd (0, acc, r) = ((rdEnd r).e, []) := by unfold manEnd; rw [if_pos rfl, if_neg h]
theorem manEnd_right {acc : List ItemD} {r : Rd} (h : (rdEnd r).e = 0) (h2 : rightE acc ≠ 0) : manEnd (0, acc, r) = (rightE acc, []) := by unfold manEnd; rw [if_pos rfl, if_pos h, if_neg h2]
theorem manEnd_ok {acc : List ItemD} {r : Rd} (h : (rdEnd r).e = 0) (h2 : rightE acc = 0) : manEnd (0, acc, r) = (0, acc) := by unfold manEnd; rw [if_pos rfl, if_pos h, if_pos h2]
theorem itErr_bad {last t : ByteArray} {n : Nat} {e : Int} (h : e ≠ 0) : itErr last n t e = e := if_pos h
theorem itErr_far {last t : ByteArray} {n : Nat} {e : Int} (h : e = 0) (h2 : last.size < n) : itErr last n t e = 5 := by unfold itErr; rw [if_neg (by simp [h]), if_pos h2]
theorem itErr_share {last t : ByteArray} {n : Nat} {e : Int} (h : e = 0) (h2 : ¬ last.size < n) (h3 : sharedL last.data.toList (last.extract 0 n ++ t).data.toList ≠ n) : itErr last n t e = 5 := by unfold itErr; rw [if_neg (by simp [h]), if_neg h2, if_neg h3]
theorem itErr_ok {last t : ByteArray} {n : Nat} {e : Int} (h : e = 0) (h2 : ¬ last.size < n) (h3 : sharedL last.data.toList (last.extract 0 n ++ t).data.toList = n) : itErr last n t e = 0 := by unfold itErr; rw [if_neg (by simp [h]), if_neg h2, if_pos h3]
theorem rdRaw_size (r : Rd) (n : Int) : (rdRaw r n).1.size ≤ r.s.size := by
  unfold rdRaw
  split
  · exact Nat.zero_le _
  · split
    · exact Nat.zero_le _
    · split
      · exact Nat.zero_le _
      · simp; omega
theorem rdText_size (r : Rd) (m : Int) : (rdText r m).1.size ≤ r.s.size := by
  unfold rdText
  have := rdRaw_size (rdCount r m).2 (rdCount r m).1
  rwa [rdCount_s] at this
theorem rdCount_most_ (r : Rd) {m : Int} (h : 0 ≤ m) : ((rdCount r m).1 : Int) ≤ m := by
  unfold rdCount
  simp only []
  split
  · exact h
  · rename_i h0
    by_cases he : (rdNum r).2.e = 0
    · have : ¬ m < ((rdNum r).1 : Int) := fun hl => h0 ⟨he, hl⟩
      omega
    · rw [rdNum_err he]
      omega
/-- The five reads of an item, named. -/
theorem reads5 (r : Rd) (ho : r.ok) : ∃ (n : Nat) (r1 : Rd) (t : ByteArray) (r2 : Rd) (m : Nat) (r3 : Rd) (z : Nat) (r4 : Rd) (q : ByteArray) (r5 : Rd),
    rdCount r 200 = (n, r1) ∧ rdText r1 200 = (t, r2) ∧ rdNum r2 = (m, r3) ∧ rdNum r3 = (z, r4) ∧ rdRaw r4 32 = (q, r5) ∧
    (r1.ok ∧ r2.ok ∧ r3.ok ∧ r4.ok ∧ r5.ok) ∧ (t.size ≤ r.s.size ∧ q.size ≤ r.s.size ∧ m ≤ 4611686018427387903 ∧ z ≤ 4611686018427387903 ∧ n ≤ 4611686018427387903) ∧ r5.s = r.s := by
  have o1 := rdCount_ok' (m := 200) ho
  have e1 := rdCount_s r 200
  have l1 := rdCount_le r 200
  obtain ⟨n, r1, h1⟩ : ∃ n r1, rdCount r 200 = (n, r1) := ⟨_, _, rfl⟩
  rw [h1] at o1 e1 l1
  simp only [] at o1 e1 l1
  have o2 := rdText_ok (m := 200) o1
  have e2 := rdText_s r1 200
  have l2 := rdText_size r1 200
  obtain ⟨t, r2, h2⟩ : ∃ t r2, rdText r1 200 = (t, r2) := ⟨_, _, rfl⟩
  rw [h2] at o2 e2 l2
  simp only [] at o2 e2 l2
  have o3 := rdNum_ok o2
  have e3 := rdNum_s r2
  have l3 := rdNum_le r2
  obtain ⟨m, r3, h3⟩ : ∃ m r3, rdNum r2 = (m, r3) := ⟨_, _, rfl⟩
  rw [h3] at o3 e3 l3
  simp only [] at o3 e3 l3
  have o4 := rdNum_ok o3
  have e4 := rdNum_s r3
  have l4 := rdNum_le r3
  obtain ⟨z, r4, h4⟩ : ∃ z r4, rdNum r3 = (z, r4) := ⟨_, _, rfl⟩
  rw [h4] at o4 e4 l4
  simp only [] at o4 e4 l4
  have o5 := rdRaw_ok (n := 32) o4
  have e5 := rdRaw_s r4 32
  have l5 := rdRaw_size r4 32
  obtain ⟨q, r5, h5⟩ : ∃ q r5, rdRaw r4 32 = (q, r5) := ⟨_, _, rfl⟩
  rw [h5] at o5 e5 l5
  simp only [] at o5 e5 l5
  rw [e1] at l2
  rw [e4, e3, e2, e1] at l5
  exact ⟨n, r1, t, r2, m, r3, z, r4, q, r5, h1, h2, h3, h4, h5, ⟨o1, o2, o3, o4, o5⟩, ⟨l2, l5, l3, l4, l1⟩, by rw [e5, e4, e3, e2, e1]⟩
theorem icells_snoc (l : List ItemD) (f : ItemD) : icells (l ++ [f]) = icells l ++ (#[Value.string f.path, .int .i64 f.mode, .int .i64 f.size, .string f.mark] : Array Value).toList := by rw [icells_app]; rfl
/-- A new manifest, and a number. -/
def ItemsOut (w : World) (l : List ItemD) (E : Int) (e : Ending) (w' : World) : Prop := ∃ A c, e = .returned (.tuple #[.slice A l.length c, .int .i64 E]) ∧ Arr w' w'.heap.size 4 A l.length (icells l) ∧ Fresh w.heap.size A ∧ l.length ≤ c ∧ Below w.heap.size w w'
theorem infoItem : (Tryz.prog.info? 58).map (fun i => (i.zero, i.size, i.bytes)) = some (some (.agg #[.string ⟨#[]⟩, .int .i64 0, .int .i64 0, .string ⟨#[]⟩]), 4, 48) := by kernel_rfl
theorem item_zero : (Value.agg #[.string ⟨#[]⟩, .int .i64 0, .int .i64 0, .string ⟨#[]⟩]).cells.size = 4 := rfl
theorem item_one (p q : ByteArray) (m z : Int) : ∀ u ∈ (#[Value.string p, .int .i64 m, .int .i64 z, .string q] : Array Value).toList, u.oneCell' = true := by simp [Value.oneCell']

theorem own_slice {w : World} {base : Nat} {e : TypeId} {size n c : Nat} {A : Option Addr} {xs : List Value} (h : w.ownsRow base e size (.slice A n c) n xs) : Arr w w.heap.size size A n xs := by
  obtain ⟨A', c', hv, _, ha, _⟩ := own_arr h
  injection hv with h1
  rw [h1]
  exact ha
theorem own_ne {w : World} {base b : Nat} {e : TypeId} {size n : Nat} {v : Value} {xs : List Value} (h : w.ownsRow base e size v n xs) (hb : b < base) : v.ownBlock ≠ some b := fun e => by have := (h.lt b e).1; omega
theorem below_grown {w a c : World} {b : Nat} (h : Below w.heap.size w a) (g : a.grownBy c (some b)) (hb : w.heap.size ≤ b) : Below w.heap.size w c := h.grown g h.size (fun j hj => by injection hj with hj; omega)
end Go.Proofs.YtmcgaaihdjpdgaaGreatDoor
