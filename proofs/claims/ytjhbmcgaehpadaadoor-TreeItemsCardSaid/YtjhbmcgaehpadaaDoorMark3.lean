/- The walk through Items. -/
import Derived.Test.YtjhbmcgaehpadaaDoorMark2
import Derived.Test.YtjhbmcgaehpadaaDoorTreeFilter1
import Derived.Test.YtjhbmcgaehpadaaDoorTreeFilter2
import Derived.Test.YtjhbmcgaehpadaaDoorTreeOf1
import Derived.Test.YtjhbmcgaehpadaaDoorTreeBytes2
import Derived.Deep.RegionHeld3
import Derived.Deep.AppendLies
namespace Go.Proofs.YtjhbmcgaehpadaaDoor
open Go.RowKit
open Go.Maps (Keyed IsMap)
set_option linter.unusedVariables false

def mkI (f : FileD) (q : ByteArray) : ItemD := ⟨f.path, f.mode, f.data.size, q⟩
/-- Items that are a list of files with marks that a book holds. -/
def ItFits (D : DataW Unit) (l : List FileD) (acc : List ItemD) : Prop := acc.length = l.length ∧ ∀ (i : Nat) (f : FileD), l[i]? = some f → ∃ q, acc[i]? = some (mkI f q) ∧ q.size = 32 ∧ Marked D f.data q
theorem itfits_nil (D : DataW Unit) : ItFits D [] [] := ⟨rfl, fun i f h => by simp at h⟩
theorem itfits_snoc {D D' : DataW Unit} {l : List FileD} {acc : List ItemD} {k : Nat} {f : FileD} {q : ByteArray} (h : ItFits D (l.take k) acc) (hf : l[k]? = some f) (hq : q.size = 32) (hm : Marked D' f.data q) (ho : ∀ s' q', Marked D s' q' → Marked D' s' q') :
    ItFits D' (l.take (k + 1)) (acc ++ [mkI f q]) := by
  obtain ⟨hl, ha⟩ := h
  have hk : k < l.length := (List.getElem?_eq_some_iff.1 hf).1
  have hlk : acc.length = k := by rw [hl, List.length_take]; omega
  rw [take_snoc hf]
  refine ⟨by simp [hl], fun i g hg => ?_⟩
  by_cases hi : i < k
  · rw [List.getElem?_append_left (by rw [List.length_take]; omega)] at hg
    obtain ⟨q', h1, h2, h3⟩ := ha i g hg
    exact ⟨q', by rw [List.getElem?_append_left (by omega)]; exact h1, h2, ho _ _ h3⟩
  · rw [List.getElem?_append_right (by rw [List.length_take]; omega)] at hg
    have hi0 : i - (l.take k).length = 0 := by
      rcases Nat.eq_zero_or_pos (i - (l.take k).length) with h | h
      · exact h
      · rw [List.getElem?_eq_none (by simp only [List.length_cons, List.length_nil]; omega)] at hg; cases hg
    rw [hi0] at hg
    injection hg with hg
    subst hg
    have : i = k := by rw [List.length_take] at hi0; omega
    subst this
    exact ⟨q, by rw [List.getElem?_append_right (by omega), hlk, Nat.sub_self]; rfl, hq, hm⟩
theorem box3 {W W' : World} {g m : Nat} {t : TypeId} {f : FileD} (h : Blk W g t #[.string f.path, .int .i64 f.mode, .string f.data]) (gr : W.grownBy W' (some m)) (hne : g ≠ m) :
    W'.cell? ⟨g, 0, none⟩ = some (.string f.path) ∧ W'.cell? ⟨g, 1, none⟩ = some (.int .i64 f.mode) ∧ W'.cell? ⟨g, 2, none⟩ = some (.string f.data) :=
  have h' : Blk W' g t #[.string f.path, .int .i64 f.mode, .string f.data] := h.grown gr (by simpa using hne)
  ⟨h'.cell 0, h'.cell 1, h'.cell 2⟩
theorem more_base {W w5 : World} {n : Nat} {row : Option Nat} (h : n ≤ W.heap.size) (g : W.grownBy w5 row) (o : Obj) : n ≤ (w5.alloc o).heap.size := by
  have := g.size
  simp
  omega
theorem alloc_size1 (w : World) (o : Obj) : (w.alloc o).heap.size = w.heap.size + 1 := by simp
theorem csi_len (a b : ByteArray) (m n : Int) : (#[Value.string a, .int .i64 m, .int .i64 n, .string b] : Array Value).toList.length = 1 * 4 := rfl
theorem own_far {w : World} {base : Nat} {e : TypeId} {size n : Nat} {v : Value} {xs : List Value} (h : w.ownsRow base e size v n xs) : some w.heap.size ≠ v.ownBlock := fun e => by have := (h.lt _ e.symm).2; omega
theorem boxFar {W W' W6 : World} {g m : Nat} {t : TypeId} {f : FileD} {o : Obj} {row : Option Nat} (h : Blk W g t #[.string f.path, .int .i64 f.mode, .string f.data]) (gr : W.grownBy W' (some m)) (g6 : (W'.alloc o).grownBy W6 row) (hne : g ≠ m) (hr : some g ≠ row) :
    W6.cell? ⟨g, 0, none⟩ = some (.string f.path) ∧ W6.cell? ⟨g, 1, none⟩ = some (.int .i64 f.mode) ∧ W6.cell? ⟨g, 2, none⟩ = some (.string f.data) :=
  have h' : Blk W6 g t #[.string f.path, .int .i64 f.mode, .string f.data] := Blk.grown (Blk.alloc (h.grown gr (by simpa using hne)) o) g6 hr
  ⟨h'.cell 0, h'.cell 1, h'.cell 2⟩
/-- Everything below m is as it was; the book is well. -/
structure At (w : World) (b m n : Nat) (D : DataW Unit) : Prop where
  bk : Bk w b m
  mp : MapAt w m n D
theorem At.below {w w' : World} {b m n B : Nat} {D : DataW Unit} (h : At w b m n D) (hb : Below B w w') (h1 : b < B) (h2 : m < B) : At w' b m n D := ⟨Blk.below h.bk hb h1, MapAt.below h.mp hb h2⟩
theorem At.alloc {w : World} {b m n : Nat} {D : DataW Unit} (h : At w b m n D) (o : Obj) : At (w.alloc o) b m n D := ⟨Blk.alloc h.bk o, World.ownsMap.alloc h.mp o⟩
theorem At.grown {w w' : World} {b m n : Nat} {D : DataW Unit} {row : Option Nat} (h : At w b m n D) (g : w.grownBy w' row) (h1 : some b ≠ row) (h2 : some m ≠ row) : At w' b m n D := ⟨Blk.grown h.bk g h1, World.ownsMap.kept h.mp g h2⟩

set_option maxHeartbeats 2000000 in
set_option maxRecDepth 100000 in
theorem items_any (b m : Nat) (A : Option Addr) (c : Nat) (l : List FileD) (w : World) (hz : l.length ≤ 60) (hx : ∀ f ∈ l, FOk f)
    (ha : Arr w m 3 A l.length (fcells l)) (hm : Ml w) (hat : At w b m 0 (.map [])) (hbm : m < b) :
    Calls Tryd.prog 37 #[.pointer (some ⟨b, 0, none⟩), .slice A l.length c] w fun e w' => (checkE l ≠ 0 ∧ e = .returned (.tuple #[.slice none 0 0, .int .i64 (checkE l)]) ∧ Below m w w' ∧ w.heap.size ≤ w'.heap.size) ∨
      (checkE l = 0 ∧ ∃ A' c' acc D n, e = .returned (.tuple #[.slice A' l.length c', .int .i64 0]) ∧ ItFits D l acc ∧ Arr w' w'.heap.size 4 A' l.length (icells acc) ∧ At w' b m n D ∧ Below m w w' ∧ w.heap.size ≤ w'.heap.size) := by
  obtain ⟨i1, gi0, gz0, gz1, gz2⟩ := info_parts infoItem
  have hbl := Blk.lt hat.bk
  have hmlt := hat.mp.lt
  have hC := Lib.hid (check_any A c l w (by omega) hx (ha.more (by omega)) hm)
  have HX := Lib.hid hx
  have HA := Lib.hid ha
  clear ha hx
  by_cases hE : checkE l = 0
  · rw [hE] at hC
    go_enter Tryd.func37, Tryd.ntmps37
    go_wp2_with (go_at_call 19; (with_reducible refine hC.out.mono ?_); rintro e w1 ⟨rfl, hb1⟩)
    have hs1 := hb1.size
    have hat1 := hat.below hb1 hbl hmlt
    have hB1 : Below m w w1 := hb1.mono (by omega)
    go_loopw [7, 17] (fun vo v wr => ∃ (k : Nat) (acc : List ItemD) (D : DataW Unit), k ≤ l.length ∧ v = .int .i64 k ∧ wr.ownsRow w1.heap.size 56 4 vo acc.length (icells acc) ∧ acc.length = k ∧ Hid (ItFits D (l.take k) acc) ∧ Hid (GoodD D k) ∧ At wr b m k D ∧ w1.heap.size ≤ wr.heap.size ∧ Below m w wr) (fun _ v _ => l.length - (intOf v).toNat)
    case atStart => exact ⟨0, [], _, Nat.zero_le _, rfl, World.ownsRow_nil _ _ _ _, rfl, Lib.hid (itfits_nil _), Lib.hid good_nil, hat1, Nat.le_refl _, hB1⟩
    case round =>
      obtain ⟨k, acc, D, hk, rfl, hown, hal, HF, HG, hat, hzz, hB⟩ := hrel
      have hbse := hB.size
      by_cases hlt : k < l.length
      · obtain ⟨f, hf⟩ : ∃ f, l[k]? = some f := ⟨_, List.getElem?_eq_getElem hlt⟩
        obtain ⟨bA, oA, rfl, hbA, hcell⟩ := HA.out.2 (by omega)
        obtain ⟨c0, c1, c2⟩ := file_cells (fun i u h => (hB.cell (p := ⟨bA, oA + i, none⟩) hbA).trans (hcell i u h)) hf
        have hfx := (HX.out f (List.mem_of_getElem? hf)).2
        have hbox := Blk.new wr 58 #[.string f.path, .int .i64 f.mode, .string f.data]
        have hk0 := hbox.cell 0
        have hk1 := hbox.cell 1
        have hk2 := hbox.cell 2
        have hatA := hat.alloc (.cells #[.string f.path, .int .i64 f.mode, .string f.data] 58)
        have hatD : At (wr.alloc (.cells #[.string f.path, .int .i64 f.mode, .string f.data] 58)).drew b m k D := ⟨hatA.bk, hatA.mp⟩
        have hownA := hown.alloc (.cells #[.string f.path, .int .i64 f.mode, .string f.data] 58)
        have hboxD : Blk (wr.alloc (.cells #[.string f.path, .int .i64 f.mode, .string f.data] 58)).drew wr.heap.size 58 #[.string f.path, .int .i64 f.mode, .string f.data] := hbox
        have hovb := own_far hown
        have hownD : (wr.alloc (.cells #[.string f.path, .int .i64 f.mode, .string f.data] 58)).drew.ownsRow w1.heap.size 56 4 _ acc.length (icells acc) := hownA
        have hBA := hB.alloc (Nat.le_trans (by omega) hzz) (.cells #[.string f.path, .int .i64 f.mode, .string f.data] 58)
        have HMK := Lib.hid (fun W (h : At W b m k D) => mark_any b m k D f.data W h.bk h.mp HG.out (by omega) hfx)
        have kl : (k : Int) < l.length := by omega
        have hne : wr.heap.size ≠ m := by omega
        have HFI := Lib.hid hf
        have hwm : m < wr.heap.size := by omega
        have hwb : b < wr.heap.size := by omega
        have hzA : w1.heap.size ≤ (wr.alloc (.cells #[.string f.path, .int .i64 f.mode, .string f.data] 58)).heap.size := by simp; omega
        have hzD : w1.heap.size ≤ (wr.alloc (.cells #[.string f.path, .int .i64 f.mode, .string f.data] 58)).drew.heap.size := hzA
        have hBD : Below m w (wr.alloc (.cells #[.string f.path, .int .i64 f.mode, .string f.data] 58)).drew := hBA.trans ⟨rfl, rfl, rfl, Nat.le_refl _, fun _ _ => rfl⟩
        have hmx : acc.length + 1 ≤ maxLen := by unfold maxLen; omega
        have hby : (acc.length + 1) * 48 ≤ 140737488355328 := by omega
        have h04 : 0 < 4 := by decide
        have h01 : 0 < 1 := by decide
        have hnb := own_ne hownA (b := m) (by omega)
        clear hcell hk0 hk1 hk2 hf
        go_wp2
        go_region_held3 (fun w' => w'.cell? ⟨wr.heap.size, 0, none⟩ = some (.string f.path) ∧ w'.cell? ⟨wr.heap.size, 1, none⟩ = some (.int .i64 f.mode) ∧ w'.cell? ⟨wr.heap.size, 2, none⟩ = some (.string f.data))
          (first | exact ⟨hbox.cell 0, hbox.cell 1, hbox.cell 2⟩ | exact box3 hboxD g5 hne | exact box3 hboxD (g5.trans (World.grownBy_alloc _ _ _)) hne | exact boxFar hboxD g5 hgrow6 hne hovb)
          (first
            | (go_at_call 65; refine (HMK.out _ hatD).mono ?_; rintro e w5 ⟨q, D5, rfl, hq5, hm5, ho5, hbk5, hmp5, hg5, g5⟩; have hown5 := World.ownsRow.kept hownD g5 (.inr hnb); have hflag : Hid True := Lib.hid trivial)
            | (clear hflag; refine step_append_lies _ rfl (.tmp 21) (.tmp 34) 39 rfl w1.heap.size 56 i1 _ 4 48 Tryd.underlying39 gi0 gz0 gz1 gz2 item_zero h04 _ acc.length (icells acc) rfl (hown5.alloc _) ⟨w5.heap.size, 0, none⟩ 1 1 #[Value.string f.path, .int .i64 f.mode, .int .i64 f.data.size, .string q].toList rfl (csi_len f.path q f.mode f.data.size) (World.news_of_block (cs := #[Value.string f.path, .int .i64 f.mode, .int .i64 f.data.size, .string q]) (t := 56) (fr := (0, 0)) (heap_alloc_new w5 _)) (item_one f.path q f.mode f.data.size) h01 hmx hby (more_base hzD g5 _) (w5.heap.size + 1) (alloc_size1 _ _) ?_; intro gg cap w6 hown6 hgrow6 hat6 hlt6))
        have hB5 := hBD.grown g5 (Nat.le_trans (Nat.le_of_lt hmlt) hBD.size) (fun j hj => by injection hj with hj; omega)
        have hB6 := (hB5.alloc (Nat.le_trans (Nat.le_of_lt hmlt) hB5.size) (.cells #[Value.string f.path, .int .i64 f.mode, .int .i64 f.data.size, .string q] 56)).grown hgrow6 (by have := hB5.size; simp; omega) (fun j hj => by have := (hown5.lt j hj).1; omega)
        have hA6 : At w6 b m (k + 1) D5 := ((At.mk hbk5 hmp5).alloc (.cells #[Value.string f.path, .int .i64 f.mode, .int .i64 f.data.size, .string q] 56)).grown hgrow6 (fun e => own_ne hown5 (by omega) e.symm) (fun e => own_ne hown5 (by omega) e.symm)
        have hF6 := Lib.hid (itfits_snoc HF.out HFI.out hq5 hm5 ho5)
        have hz6 : w1.heap.size ≤ w6.heap.size := by
          have h1 := Nat.le_trans hzD g5.size
          have h2 := hgrow6.size
          rw [alloc_size1] at h2
          omega
        go_wp2
        go_roundw
        case rel => exact ⟨k + 1, acc ++ [mkI f q], D5, by omega, by go_num, by have h := hown6; rw [hal] at h; rw [List.length_append, icells_snoc, hal]; exact h, by simp [hal], hF6, Lib.hid hg5, hA6, hz6, hB6⟩
        case measure => simp [intOf] <;> omega
      · have hke : k = l.length := by omega
        subst hke
        have HF2 := HF.out
        rw [List.take_length] at HF2
        obtain ⟨A', c', rfl, hcap, ha', hfr⟩ := own_arr hown
        rw [hal] at ha'
        have HF3 := Lib.hid HF2
        have HA3 := Lib.hid ha'
        clear HF HF2 ha'
        go_wp2
        go_ret2
        exact .inr ⟨hE, A', c', acc, D, l.length, by rw [hal]; rfl, HF3.out, HA3.out, hat, hB, hbse⟩
  · have hE' : (checkE l == 0) = false := by rw [beq_eq_false_iff_ne]; exact hE
    have hE2 : (checkE l != 0) = true := by rw [bne_iff_ne]; exact hE
    generalize checkE l = E at *
    go_enter Tryd.func37, Tryd.ntmps37
    go_wp2_with (go_at_call 19; (with_reducible refine hC.out.mono ?_); rintro e w1 ⟨rfl, hb1⟩)
    go_ret2
    exact .inl ⟨hE, rfl, hb1.mono (by omega), hb1.size⟩
end Go.Proofs.YtjhbmcgaehpadaaDoor
