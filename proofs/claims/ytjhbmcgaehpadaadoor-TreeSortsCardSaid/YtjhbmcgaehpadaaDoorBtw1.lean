/- The walks through the reference's place and Sort. -/
import Derived.Test.YtjhbmcgaehpadaaDoorTreeFilter2
import Derived.Test.YtjhbmcgaehpadaaDoorTreeItem1
import Derived.Test.YtjhbmcgaehpadaaDoorTreeRef6
import Derived.Test.YtjhbmcgaehpadaaDoorTreeOf1
namespace Go.Proofs.YtjhbmcgaehpadaaDoor
open Go.RowKit
set_option linter.unusedVariables false

theorem str_ne {a b : ByteArray} (h : a ≠ b) : (a.toList == b.toList) = false := by
  rw [ByteArray.toList_eq, ByteArray.toList_eq, beq_eq_false_iff_ne]
  exact fun e => h (ba_ext e)
def placeGo (p : ByteArray) : Nat → List ItemD → Int
  | _, [] => -1
  | k, f :: r => if f.path = p then k else placeGo p (k + 1) r
theorem place_hit {p : ByteArray} {k : Nat} {l : List ItemD} {f : ItemD} (h : l[k]? = some f) (hp : f.path = p) : placeGo p k (l.drop k) = k := by rw [drop_head h, placeGo, if_pos hp]
theorem place_miss {p : ByteArray} {k : Nat} {l : List ItemD} {f : ItemD} (h : l[k]? = some f) (hp : f.path ≠ p) : placeGo p k (l.drop k) = placeGo p (k + 1) (l.drop (k + 1)) := by rw [drop_head h, placeGo, if_neg hp]
theorem place_end {p : ByteArray} {k : Nat} {l : List ItemD} (h : l.length ≤ k) : placeGo p k (l.drop k) = -1 := by rw [List.drop_eq_nil_of_le h, placeGo]
set_option maxHeartbeats 1000000 in
set_option maxRecDepth 100000 in
theorem place_ref (A : Option Addr) (c : Nat) (l : List ItemD) (p : ByteArray) (w : World) (hz : l.length ≤ 9223372036854775807) (ha : Arr w w.heap.size 4 A l.length (icells l)) :
    Calls Tryd.prog 56 #[.slice A l.length c, .string p] w fun e w' => e = .returned (.int .i64 (placeGo p 0 l)) ∧ Below w.heap.size w w' := by
  have HA := Lib.hid ha
  clear ha
  generalize hR : placeGo p 0 l = R
  have HR : Hid (placeGo p 0 (l.drop 0) = R) := Lib.hid hR
  clear hR
  go_enter Tryd.func56, Tryd.ntmps56
  go_wp2
  go_loopw [5] (fun v wr => ∃ (k : Nat), k ≤ l.length ∧ v = .int .i64 k ∧ Hid (placeGo p k (l.drop k) = R) ∧ Below w.heap.size w wr) (fun v _ => l.length - (intOf v).toNat)
  case atStart => exact ⟨0, Nat.zero_le _, rfl, HR, Below.refl _ _⟩
  case round =>
    obtain ⟨k, hk, rfl, H, hB⟩ := hrel
    by_cases hlt : k < l.length
    · obtain ⟨f, hf⟩ : ∃ f, l[k]? = some f := ⟨_, List.getElem?_eq_getElem hlt⟩
      obtain ⟨b, o, rfl, hb, hcell⟩ := HA.out.2 (by omega)
      obtain ⟨c0, c1, c2, c3⟩ := item_cells (fun i u h => (hB.cell (p := ⟨b, o + i, none⟩) hb).trans (hcell i u h)) hf
      have kl : (k : Int) < l.length := by omega
      by_cases hp : f.path = p
      · have hr := (place_hit hf hp).symm.trans H.out
        subst hr
        have hd : (f.path.toList == p.toList) = true := by rw [hp]; exact beq_self_eq_true _
        clear H hf hcell
        go_wp2
        go_ret
        exact ⟨rfl, hB⟩
      · have hst := Lib.hid ((place_miss hf hp).symm.trans H.out)
        have hd := str_ne hp
        clear H hf hcell
        go_wp2
        go_roundw
        case rel => exact ⟨k + 1, by omega, by go_num, hst, hB⟩
        case measure => simp [intOf] <;> omega
    · have hr := (place_end (p := p) (l := l) (k := k) (by omega)).symm.trans H.out
      subst hr
      clear H
      go_wp2
      go_ret
      exact ⟨rfl, hB⟩

/-! ### the reference's Sort -/
def insGo (f : FileD) : Bool → List FileD → List FileD
  | d, [] => if d then [] else [f]
  | d, g :: r => if d = false ∧ ordS f.path.data.toList g.path.data.toList < 0 then f :: g :: insGo f true r else g :: insGo f d r
theorem insGo_end (f : FileD) (d : Bool) {l : List FileD} {k : Nat} (h : l.length ≤ k) : insGo f d (l.drop k) = if d then [] else [f] := by rw [List.drop_eq_nil_of_le h, insGo]
theorem insGo_new {f g : FileD} {l : List FileD} {k : Nat} (h : l[k]? = some g) (h0 : ordS f.path.data.toList g.path.data.toList < 0) : insGo f false (l.drop k) = f :: g :: insGo f true (l.drop (k + 1)) := by rw [drop_head h, insGo, if_pos ⟨rfl, h0⟩]
theorem insGo_old {f g : FileD} {l : List FileD} {k : Nat} (h : l[k]? = some g) (h0 : ¬ ordS f.path.data.toList g.path.data.toList < 0) : insGo f false (l.drop k) = g :: insGo f false (l.drop (k + 1)) := by rw [drop_head h, insGo, if_neg (fun h => h0 h.2)]
theorem insGo_done {f g : FileD} {l : List FileD} {k : Nat} (h : l[k]? = some g) : insGo f true (l.drop k) = g :: insGo f true (l.drop (k + 1)) := by rw [drop_head h, insGo, if_neg (by simp)]
theorem insGo_len (f : FileD) : ∀ (d : Bool) (l : List FileD), (insGo f d l).length = l.length + if d then 0 else 1
  | true, [] => rfl
  | false, [] => rfl
  | true, g :: r => by rw [insGo, if_neg (by simp), List.length_cons, insGo_len f true r]; simp
  | false, g :: r => by
    rw [insGo]
    split
    · rw [List.length_cons, List.length_cons, insGo_len f true r]; simp
    · rw [List.length_cons, insGo_len f false r]; simp
theorem insGo_all (f : FileD) (P : FileD → Prop) (hf : P f) : ∀ (d : Bool) (l : List FileD), (∀ x ∈ l, P x) → ∀ x ∈ insGo f d l, P x
  | true, [], _, x, hx => by simp [insGo] at hx
  | false, [], _, x, hx => by simp [insGo] at hx; rw [hx]; exact hf
  | d, g :: r, h, x, hx => by
    rw [insGo] at hx
    split at hx
    · rcases List.mem_cons.1 hx with rfl | hx
      · exact hf
      · rcases List.mem_cons.1 hx with rfl | hx
        · exact h _ (by simp)
        · exact insGo_all f P hf true r (fun y hy => h y (by simp [hy])) x hx
    · rcases List.mem_cons.1 hx with rfl | hx
      · exact h _ (by simp)
      · exact insGo_all f P hf d r (fun y hy => h y (by simp [hy])) x hx
def sortS (l : List FileD) : List FileD := l.foldl (fun out f => insGo f false out) []
theorem sort_step {l acc : List FileD} {k : Nat} {f : FileD} (h : l[k]? = some f) : (l.drop k).foldl (fun out f => insGo f false out) acc = (l.drop (k + 1)).foldl (fun out f => insGo f false out) (insGo f false acc) := by rw [drop_head h, List.foldl_cons]
theorem sort_end {l acc : List FileD} {k : Nat} (h : l.length ≤ k) : (l.drop k).foldl (fun out f => insGo f false out) acc = acc := by rw [List.drop_eq_nil_of_le h]; rfl
end Go.Proofs.YtjhbmcgaehpadaaDoor
