/- Chapter 11: Drop, manifest, Roots upon the state; slices.Index, slices.Clone of texts.; Chapter 11: few: at most 12 files of at most 300 bytes; cut.; Chapter 11: Roots, Save upon the state. -/
import Derived.Test.YtmcgaaihdjpdgaaGreatDoorBlD
import Derived.Test.YtmcgaaihdjpdgaaGreatDoorFrmC
import Derived.Test.YtmcgaaihdjpdgaaGreatDoorTreeOf2
import Derived.Test.YtmcgaaihdjpdgaaGreatDoorTreeMix
import Derived.Test.YtmcgaaihdjpdgaaGreatDoorMarkA
/- Chapter 11: Drop, manifest, Roots upon the state; slices.Index, slices.Clone of texts. -/
namespace Go.Proofs.YtmcgaaihdjpdgaaGreatDoor
open Go.RowKit
set_option linter.unusedVariables false

def DropOutS (w : World) (b kb m n : Nat) (D : DataW Unit) (S : Nat → Prop) (l : List KpD) (R : List ByteArray) (s q : ByteArray) (e : Ending) (w' : World) : Prop :=
  e = .returned (.int .i64 (if 0 < cntT l s then 0 else 8)) ∧ BS w' b kb m n D S (dropK l q) R ∧ Stp S S w w'
theorem drop_S {b kb m n : Nat} {D : DataW Unit} {S : Nat → Prop} {l : List KpD} {R : List ByteArray} (s q : ByteArray) (w : World) (h : BS w b kb m n D S l R) (hn : n ≤ 65000) (hq : Marked D s q) :
    Calls Tryz.prog 29 #[.pointer (some ⟨b, 0, none⟩), .string q] w (DropOutS w b kb m n D S l R s q) := by
  obtain ⟨VL, VR, g, hk, hR, hS⟩ := h
  refine (drop_kept q w g (by have := hk.1; omega) (fun k hkk => by obtain ⟨_, a, b, _⟩ := hk.2 k hkk; omega)).mono ?_
  rintro e w' ⟨VL', rfl, g', hf, ho⟩
  refine ⟨?_, ⟨VL', VR, g', drop_ok g.at_.srt hk q, hR, fun k => by rw [ho]; exact hS k⟩, hf.mono ?_, fun k h => .inl h⟩
  · rw [look_find hk g.gd hq]
    cases h2 : findT s l with
    | none => rw [cnt_none h2]; rfl
    | some k =>
      obtain ⟨_, h3, _⟩ := hk.2 k (find_mem h2).1
      rw [cnt_some h2]
      show Ending.returned (Value.int .i64 (if (some k).isSome = true then 0 else 8)) = _
      rw [if_pos (show (some k).isSome = true from rfl), if_pos (by omega)]
  · rintro k _ (h | h)
    · exact (hS k).2 (.inl h)
    · exact (hS k).2 (.inr (.inr (.inr (.inl h))))
theorem get_T {D : DataW Unit} {l : List KpD} {n n' : Nat} {s q : ByteArray} (hk : KOk D l n) (hg : GoodD D n') (hm : Marked D s q) : getV (lookK q l) = if 0 < cntT l s then .tuple #[.string s, .int .i64 0] else .tuple #[.string ⟨#[]⟩, .int .i64 8] := by
  rw [look_find hk hg hm]
  cases h : findT s l with
  | none => rw [cnt_none h]; rfl
  | some k =>
    obtain ⟨_, h3, _⟩ := hk.2 k (find_mem h).1
    rw [cnt_some h, if_pos (by omega)]
    show Value.tuple #[.string k.text, .int .i64 0] = _
    rw [(find_mem h).2]
theorem ref_T {D : DataW Unit} {l : List KpD} {n n' : Nat} {s q : ByteArray} (hk : KOk D l n) (hg : GoodD D n') (hm : Marked D s q) : refV (lookK q l) = cntT l s := by
  rw [look_find hk hg hm]; rfl
/-- What a mark's manifest is. -/
def ManOut (w : World) (c : Int) (E : Int) (l : List ItemD) (e : Ending) (w' : World) : Prop := if 0 < c then ItemsOut w l E e w' else e = .returned (.tuple #[.slice none 0 0, .int .i64 8]) ∧ Below w.heap.size w w'
set_option maxRecDepth 100000 in
theorem manifest_S {b kb m n : Nat} {D : DataW Unit} {S : Nat → Prop} {l : List KpD} {R : List ByteArray} (s q : ByteArray) (w : World) (h : BS w b kb m n D S l R) (hn : n ≤ 65000) (hq : Marked D s q) (hm : Ml w) :
    Calls Tryz.prog 19 #[.pointer (some ⟨b, 0, none⟩), .string q] w (ManOut w (cntT l s) (manOf s).1 (manOf s).2) := by
  have HG := Lib.hid (get_S q w h hn)
  rw [get_T h.ok h.good hq] at HG
  have hc := cnt_pos h.ok (s := s)
  have hk := h.ok
  by_cases hp : 0 < cntT l s
  · obtain ⟨k, h1, _, h2⟩ := hc hp
    have hsz := (hk.2 k (find_mem h1).1).2.2.2
    rw [h2] at hsz
    rw [if_pos hp] at HG
    have HO := Lib.hid (fun W (hb : Below w.heap.size w W) => of_any s W (by omega) (hm.on hb))
    refine Calls.mono (show Calls Tryz.prog 19 #[.pointer (some ⟨b, 0, none⟩), .string q] w (ItemsOut w (manOf s).2 (manOf s).1) from ?_) (fun e w' h => by unfold ManOut; rw [if_pos hp]; exact h)
    generalize (manOf s).1 = E at *
    generalize (manOf s).2 = L at *
    clear h hc hk h1 h2 hp
    go_enter Tryz.func19, Tryz.ntmps19
    go_wp2_with (first
      | (go_at_call 30; (with_reducible refine (HG.out).mono ?_); rintro e w2 ⟨rfl, hb⟩)
      | (go_at_call 39; (with_reducible refine (HO.out _ hb).mono ?_); rintro e w3 ⟨A, c, rfl, ha, hf, hlc, hb3⟩; have HA := Lib.hid ha; have HFR := Lib.hid hf; clear ha hf)
      | fail)
    go_ret2
    exact ⟨A, c, rfl, HA.out, fun g o e => Nat.le_trans hb.size (HFR.out g o e), hlc, below_on hb hb3⟩
  · rw [if_neg hp] at HG
    refine Calls.mono (show Calls Tryz.prog 19 #[.pointer (some ⟨b, 0, none⟩), .string q] w (fun e w' => e = .returned (.tuple #[.slice none 0 0, .int .i64 8]) ∧ Below w.heap.size w w') from ?_) (fun e w' h => by unfold ManOut; rw [if_neg hp]; exact h)
    clear h hc hk hp
    go_enter Tryz.func19, Tryz.ntmps19
    go_wp2_with (first
      | (go_at_call 30; (with_reducible refine (HG.out).mono ?_); rintro e w2 ⟨rfl, hb⟩)
      | fail)
    go_ret2
    exact ⟨rfl, hb⟩
/-- The place of a text in a list; -1: none. -/
def idxL (l : List ByteArray) (q : ByteArray) : Int := if (l.findIdx fun p => decide (p = q)) < l.length then ((l.findIdx fun p => decide (p = q) : Nat) : Int) else -1
set_option maxHeartbeats 1000000 in
set_option maxRecDepth 100000 in
theorem index_any (A : Option Addr) (c : Nat) (l : List ByteArray) (q : ByteArray) (w : World) (hl : l.length ≤ 1000000) (ha : Arr w w.heap.size 1 A l.length (l.map Value.string)) :
    Calls Tryz.prog 56 #[.slice A l.length c, .string q] w fun e w' => e = .returned (.int .i64 (idxL l q)) ∧ Below w.heap.size w w' := by
  have HA := Lib.hid ha
  clear ha
  go_enter Tryz.func56, Tryz.ntmps56
  go_wp2
  go_loopw [8] (fun vi wr => ∃ i : Nat, i ≤ l.length ∧ vi = .int .i64 i ∧ Hid (∀ j, j < i → l[j]? ≠ some q) ∧ Below w.heap.size w wr) (fun vi _ => l.length - (intOf vi).toNat)
  case atStart => exact ⟨0, Nat.zero_le _, rfl, Lib.hid (fun j h => absurd h (by omega)), Below.refl _ _⟩
  case round =>
    obtain ⟨i, hi, rfl, HN, hB⟩ := hrel
    by_cases hlt : i < l.length
    · obtain ⟨p, hp⟩ : ∃ p, l[i]? = some p := ⟨_, List.getElem?_eq_getElem hlt⟩
      obtain ⟨bA, oA, rfl, hbA, hcell⟩ := HA.out.2 (by omega)
      have c0 := (hB.cell (p := ⟨bA, oA + i, none⟩) hbA).trans (hcell i (.string p) (by rw [List.getElem?_map, hp]; rfl))
      have i1 : (i : Int) < l.length := by omega
      by_cases he : q = p
      · subst he
        have HI : Hid (idxL l q = (i : Nat)) := Lib.hid (by
          have hf : (l.findIdx fun p => decide (p = q)) = i := by
            rw [List.findIdx_eq hlt]
            refine ⟨decide_eq_true (by rw [List.getElem?_eq_getElem hlt] at hp; injection hp), fun j hj => decide_eq_false (fun e => HN.out j hj ?_)⟩
            rw [List.getElem?_eq_getElem (by omega), e]
          unfold idxL
          rw [hf, if_pos hlt])
        clear hp hcell HN
        go_wp2
        go_ret
        exact ⟨by rw [HI.out]; rfl, hB⟩
      · have HN2 : Hid (∀ j, j < i + 1 → l[j]? ≠ some q) := Lib.hid (fun j hj h => by
          rcases Nat.lt_or_ge j i with h1 | h1
          · exact HN.out j h1 h
          · rw [show j = i by omega, hp] at h
            injection h with h
            exact he h.symm)
        have e2 : ¬ q.toList = p.toList := fun h => he (by rw [ByteArray.toList_eq, ByteArray.toList_eq] at h; exact ba_ext h)
        have e3 : (q.toList == p.toList) = false := by rw [beq_eq_false_iff_ne]; exact e2
        clear hp hcell HN
        go_wp2
        go_roundw
        case rel => exact ⟨i + 1, by omega, by go_num, HN2, hB⟩
        case measure => simp [intOf] <;> omega
    · have hie : i = l.length := by omega
      subst hie
      have HI : Hid (idxL l q = -1) := Lib.hid (by
        unfold idxL
        rw [if_neg]
        intro h
        have h1 := List.findIdx_getElem (w := h)
        refine HN.out _ h ?_
        rw [List.getElem?_eq_getElem h]
        simpa using h1)
      clear HN
      go_wp2
      go_ret
      exact ⟨by rw [HI.out]; rfl, hB⟩
end Go.Proofs.YtmcgaaihdjpdgaaGreatDoor
/- Chapter 11: few: at most 12 files of at most 300 bytes; cut. -/
namespace Go.Proofs.YtmcgaaihdjpdgaaGreatDoor
open Go.RowKit
set_option linter.unusedVariables false

def cut300 (f : FileD) : FileD := ⟨f.path, f.mode, if 300 < f.data.size then f.data.extract 0 300 else f.data⟩
def few12 (l : List FileD) : List FileD := (l.take 12).map cut300
theorem few12_len (l : List FileD) : (few12 l).length ≤ 12 := by
  unfold few12
  rw [List.length_map, List.length_take]
  omega
theorem few12_data (l : List FileD) : ∀ f ∈ few12 l, f.data.size ≤ 300 := by
  intro f hf
  unfold few12 at hf
  obtain ⟨g, hg, rfl⟩ := List.mem_map.1 hf
  show (if 300 < g.data.size then g.data.extract 0 300 else g.data).size ≤ _
  by_cases hb : 300 < g.data.size
  · rw [if_pos hb, ByteArray.size_extract]; omega
  · rw [if_neg hb]; omega
theorem few12_ok {l : List FileD} (h : ∀ f ∈ l, FOk f) : ∀ f ∈ few12 l, FOk f := by
  intro f hf
  have hd := few12_data l f hf
  unfold few12 at hf
  obtain ⟨g, hg, rfl⟩ := List.mem_map.1 hf
  have h1 := h g (List.mem_of_mem_take hg)
  exact ⟨h1.1, by omega⟩
theorem few12_step {l : List FileD} {k : Nat} {f : FileD} (h : l[k]? = some f) : (l.take (k + 1)).map cut300 = (l.take k).map cut300 ++ [cut300 f] := by
  rw [List.take_add_one, h]
  simp
theorem fbox_c {W : World} {g : Nat} {t : TypeId} {a b c : Value} (h : Blk W g t #[a, b, c]) : W.cell? ⟨g, 0, none⟩ = some a ∧ W.cell? ⟨g, 1, none⟩ = some b ∧ W.cell? ⟨g, 2, none⟩ = some c := ⟨h.cell 0, h.cell 1, h.cell 2⟩
def FewOut (w : World) (R : List FileD) (e : Ending) (w' : World) : Prop := ∃ V, e = .returned V ∧ w'.ownsRow w.heap.size 64 3 V R.length (fcells R) ∧ Below w.heap.size w w'
set_option maxHeartbeats 2000000 in
set_option maxRecDepth 100000 in
theorem few11_any (A : Option Addr) (c : Nat) (l : List FileD) (w : World) (hz : l.length ≤ 9223372036854775807) (hx : ∀ f ∈ l, FOk f) (hc : Arr w w.heap.size 3 A l.length (fcells l)) :
    Calls Tryz.prog 31 #[.slice A l.length c] w (FewOut w (few12 l)) := by
  obtain ⟨i2, fi0, fz0, fz1, fz2⟩ := info_parts infoFile
  have HC := Lib.hid hc
  have HX := Lib.hid hx
  clear hc hx
  go_enter Tryz.func31, Tryz.ntmps31
  go_wp2
  go_loopw [3, 4] (fun vo v wr => ∃ k : Nat, k ≤ l.length ∧ k ≤ 12 ∧ v = .int .i64 k ∧ wr.ownsRow w.heap.size 64 3 vo k (fcells ((l.take k).map cut300)) ∧ Below w.heap.size w wr) (fun _ v _ => l.length - (intOf v).toNat)
  case atStart => exact ⟨0, Nat.zero_le _, by omega, rfl, World.ownsRow_nil _ _ _ _, Below.refl _ _⟩
  case round =>
    obtain ⟨k, hk, hk8, rfl, hown, hB⟩ := hrel
    have hBs := hB.size
    by_cases hend : k < l.length ∧ k < 12
    · obtain ⟨hlt, h8⟩ := hend
      obtain ⟨f, hf⟩ : ∃ f, l[k]? = some f := ⟨_, List.getElem?_eq_getElem hlt⟩
      obtain ⟨b, o, rfl, hb, hcell⟩ := HC.out.2 (by omega)
      obtain ⟨c0, c1, c2⟩ := file_cells (fun i u h => (hB.cell (p := ⟨b, o + i, none⟩) hb).trans (hcell i u h)) hf
      have hfx := (HX.out f (List.mem_of_getElem? hf)).2
      have kl : (k : Int) < l.length := by omega
      have k8 : (k : Int) < 12 := by omega
      have hst := few12_step hf
      have hbox := Blk.new wr 64 #[.string f.path, .int .i64 f.mode, .string f.data]
      obtain ⟨k0, k1, k2⟩ := fbox_c hbox
      have kf := hbox.frozen 2
      by_cases hbig : 300 < f.data.size
      · have hd : (300 : Int) < f.data.size := by omega
        have hd2 : ¬ f.data.size < 300 := by omega
        have hd3 : (300 : Int) ≤ f.data.size := by omega
        have hcf : cut300 f = ⟨f.path, f.mode, f.data.extract 0 300⟩ := by unfold cut300; rw [if_pos hbig]
        rw [hcf] at hst
        have HST := Lib.hid hst
        have hB2 : Below wr.heap.size wr (wr.alloc (.cells #[.string f.path, .int .i64 f.mode, .string (f.data.extract 0 300)] 64)) := (Below.refl _ wr).alloc (Nat.le_refl _) _
        have hbox2 := Blk.new wr 64 #[.string f.path, .int .i64 f.mode, .string (f.data.extract 0 300)]
        obtain ⟨j0, j1, j2⟩ := fbox_c hbox2
        have hown2 := own_below hown hB2
        have hBB2 := hB.trans (hB2.mono hBs)
        have hs2 := hBB2.size
        clear hf hcell hbox2 hbox hst hcf
        go_wp2_with (at_builtin; refine wpList_push rfl _ _ _ rfl Tryz.underlying26 fi0 fz0 fz1 fz2 file_zero (by decide) hown2 rfl (by rw [World.size_alloc]; rfl) rfl (file_one ⟨f.path, f.mode, f.data.extract 0 300⟩) (by unfold maxLen; omega) (by omega) hs2 ?_; intro g6 cap6 w6 hown6 hgr6 hat6; have hB6 := hBB2.grown hgr6 hs2 (fun j hj => (hown2.lt j hj).1))
        go_roundw
        case rel => exact ⟨k + 1, by omega, by omega, by go_num, by rw [HST.out, fcells_snoc]; exact hown6, hB6⟩
        case measure => simp [intOf] <;> omega
      · have hd : ¬ (300 : Int) < f.data.size := by omega
        have hcf : cut300 f = f := by unfold cut300; rw [if_neg hbig]
        rw [hcf] at hst
        have HST := Lib.hid hst
        have hB1 : Below wr.heap.size wr (wr.alloc (.cells #[.string f.path, .int .i64 f.mode, .string f.data] 64)) := (Below.refl _ wr).alloc (Nat.le_refl _) _
        have hown2 := own_below hown hB1
        have hBB2 := hB.trans (hB1.mono hBs)
        have hs2 := hBB2.size
        clear hf hcell hbox hst hcf
        go_wp2_with (at_builtin; refine wpList_push rfl _ _ _ rfl Tryz.underlying26 fi0 fz0 fz1 fz2 file_zero (by decide) hown2 rfl (by rw [World.size_alloc]; rfl) rfl (file_one f) (by unfold maxLen; omega) (by omega) hs2 ?_; intro g6 cap6 w6 hown6 hgr6 hat6; have hB6 := hBB2.grown hgr6 hs2 (fun j hj => (hown2.lt j hj).1))
        go_roundw
        case rel => exact ⟨k + 1, by omega, by omega, by go_num, by rw [HST.out, fcells_snoc]; exact hown6, hB6⟩
        case measure => simp [intOf] <;> omega
    · have hR : Hid (few12 l = (l.take k).map cut300) := Lib.hid (by
        unfold few12
        by_cases h8 : k = 12
        · rw [h8]
        · rw [List.take_of_length_le (show l.length ≤ 12 by omega), List.take_of_length_le (show l.length ≤ k by omega)])
      have hlen : ((l.take k).map cut300).length = k := by rw [List.length_map, List.length_take]; omega
      have g1 : (k : Int) < l.length → ¬ (k : Int) < 12 := by omega
      have HO := Lib.hid hown
      clear hown
      by_cases hlt : k < l.length
      · have h8 : k = 12 := by omega
        subst h8
        have kl : (12 : Int) < l.length := by omega
        clear hend
        go_wp2
        go_ret
        unfold FewOut
        rw [hR.out, hlen]
        exact ⟨_, rfl, HO.out, hB⟩
      · have kl : ¬ (k : Int) < l.length := by omega
        clear hend
        go_wp2
        go_ret
        unfold FewOut
        rw [hR.out, hlen]
        exact ⟨_, rfl, HO.out, hB⟩
/-- A text of at most 500 bytes. -/
def cut500 (s : ByteArray) : ByteArray := if 500 < s.size then s.extract 0 500 else s
theorem cut500_size (s : ByteArray) : (cut500 s).size ≤ 500 := by
  unfold cut500
  by_cases h : 500 < s.size
  · rw [if_pos h, ByteArray.size_extract]; omega
  · rw [if_neg h]; omega
set_option maxRecDepth 100000 in
theorem cut_any11 (s : ByteArray) (w : World) (hs : s.size ≤ 9223372036854775807) : Calls Tryz.prog 21 #[.string s] w fun e w' => e = .returned (.string (cut500 s)) ∧ w' = w := by
  unfold cut500
  by_cases h : 500 < s.size
  · rw [if_pos h]
    have h1 : (500 : Int) < s.size := by omega
    have h2 : (500 : Int) ≤ s.size := by omega
    go_enter Tryz.func21, Tryz.ntmps21
    go_wp2
    go_ret
    exact ⟨rfl, rfl⟩
  · rw [if_neg h]
    have h1 : ¬ (500 : Int) < s.size := by omega
    go_enter Tryz.func21, Tryz.ntmps21
    go_wp2
    go_ret
    exact ⟨rfl, rfl⟩
end Go.Proofs.YtmcgaaihdjpdgaaGreatDoor
/- Chapter 11: Roots, Save upon the state. -/
namespace Go.Proofs.YtmcgaaihdjpdgaaGreatDoor
open Go.RowKit
set_option linter.unusedVariables false

/-- How often a text stands in a list. -/
def occ (t : ByteArray) : List ByteArray → Nat
  | [] => 0
  | x :: l => (if x = t then 1 else 0) + occ t l
theorem occ_app (t : ByteArray) : ∀ a b : List ByteArray, occ t (a ++ b) = occ t a + occ t b
  | [], b => by simp [occ]
  | x :: a, b => by rw [List.cons_append, occ, occ, occ_app t a b]; omega
theorem occ_one (t x : ByteArray) : occ t [x] = if x = t then 1 else 0 := by rw [occ, occ, Nat.add_zero]
theorem occ_pos {t : ByteArray} : ∀ {l : List ByteArray}, t ∈ l → 0 < occ t l
  | x :: l, h => by
    rw [occ]
    rcases List.mem_cons.1 h with rfl | h
    · rw [if_pos rfl]; omega
    · have := occ_pos h; omega
theorem occ_zero {t : ByteArray} : ∀ {l : List ByteArray}, t ∉ l → occ t l = 0
  | [], _ => rfl
  | x :: l, h => by
    rw [occ, if_neg (fun e => h (by rw [e]; simp)), occ_zero (fun h2 => h (by simp [h2]))]
theorem occ_mem {t : ByteArray} {l : List ByteArray} (h : 0 < occ t l) : t ∈ l := Classical.byContradiction fun h2 => by rw [occ_zero h2] at h; omega
theorem occ_le (t : ByteArray) : ∀ l : List ByteArray, occ t l ≤ l.length
  | [] => Nat.le_refl _
  | x :: l => by
    have := occ_le t l
    rw [occ, List.length_cons]
    split <;> omega
theorem strs_one (l : List ByteArray) : ∀ u ∈ l.map Value.string, u.oneCell' = true := by
  intro u hu
  obtain ⟨s, _, rfl⟩ := List.mem_map.1 hu
  rfl
set_option maxHeartbeats 1000000 in
set_option maxRecDepth 100000 in
theorem cloneS_any (A : Option Addr) (c : Nat) (L : List ByteArray) (w : World) (hl : L.length ≤ 1048576) (ha : Arr w w.heap.size 1 A L.length (L.map Value.string)) :
    Calls Tryz.prog 37 #[.slice A L.length c] w fun e w' => ∃ v, e = .returned v ∧ w'.ownsRow w.heap.size 9 1 v L.length (L.map Value.string) ∧ Below w.heap.size w w' := by
  obtain ⟨i0, hi0, hz0, hz1, hz2⟩ := info_parts infoStrF
  have HA := Lib.hid ha
  have q23 : ∀ (w : World) (a : Option Addr) (n c n' c' : Nat), (binOp .eql 47 (.slice a n c) (.slice none n' c')).run Tryz.prog w = .ok (.bool a.isNone) w := fun w a n c n' c' => Lib.run_eql_slice_nil w _ _ a n c n' c' Tryz.underlying47
  have hown : (w.alloc (.cells #[] 9)).ownsRow w.heap.size 9 1 (.slice (some ⟨w.heap.size, 0, none⟩) 0 0) 0 [] := World.ownsRow_lit w #[] 0 (Nat.le_refl _) (by simp [maxLen]) (by simp)
  have hB : Below w.heap.size w (w.alloc (.cells #[] 9)) := (Below.refl _ _).alloc (Nat.le_refl _) _
  have hone := Lib.hid (strs_one L)
  clear ha
  cases A with
  | none =>
    have hl0 : L = [] := by
      have h := HA.out.2
      rcases Nat.eq_zero_or_pos L.length with h0 | h0
      · exact List.eq_nil_of_length_eq_zero h0
      · obtain ⟨b, o, e, _⟩ := h h0
        cases e
    subst hl0
    clear HA
    go_enter Tryz.func37, Tryz.ntmps37
    go_wp2
    go_ret
    exact ⟨_, rfl, World.ownsRow_nil _ _ _ _, Below.refl _ _⟩
  | some ad =>
    go_enter Tryz.func37, Tryz.ntmps37
    go_wp2_with (at_builtin; refine wpList_append_arr _ rfl _ _ 47 rfl Tryz.underlying47 hi0 hz0 hz1 hz2 rfl (by decide) hown rfl rfl (HA.out.below hB) hone.out (by rw [Nat.zero_add]; unfold maxLen; omega) (by rw [Nat.zero_add]; omega) hB.size ?_; intro v' w' hown' hgr' hat')
    go_ret
    exact ⟨_, rfl, by simpa using hown', hB.grown hgr' (by simp) (fun k hk => by simp [Value.ownBlock] at hk; omega)⟩
set_option maxRecDepth 100000 in
theorem roots_S {b kb m n : Nat} {D : DataW Unit} {S : Nat → Prop} {l : List KpD} {R : List ByteArray} (w : World) (h : BS w b kb m n D S l R) (hn : n ≤ 65000) :
    Calls Tryz.prog 17 #[.pointer (some ⟨b, 0, none⟩)] w fun e w' => (∃ A c, e = .returned (.slice A R.length c)) ∧ Below w.heap.size w w' := by
  obtain ⟨VL, VR, g, hk, hR, hS⟩ := h
  have H := Lib.hid (nonB_any w g)
  obtain ⟨A, c, rfl, _, ha, _⟩ := own_arr g.at_.roots
  have HG := Lib.hid (fun W (h : Below w.heap.size w W) => (g.below h).at_.blk)
  have HC := Lib.hid (fun W (h : Below w.heap.size w W) => cloneS_any A c R W (by omega) ((ha.below h).more h.size))
  clear g hk hS ha
  go_enter Tryz.func17, Tryz.ntmps17
  go_wp2_with (first
    | (go_at_call 18; (with_reducible refine (H.out).mono ?_); rintro e w2 ⟨rfl, hb⟩; obtain ⟨k0, k1, k2, _, _, _⟩ := tcellsK (HG.out _ hb))
    | (go_at_call 37; (with_reducible refine (HC.out _ hb).mono ?_); rintro e w3 ⟨v, rfl, ho3, hb3⟩; obtain ⟨A3, c3, rfl, _, _, _⟩ := own_arr ho3)
    | fail)
  go_ret
  exact ⟨⟨A3, c3, rfl⟩, below_on hb hb3⟩
theorem GB.booked {w w' : World} {B b kb m n n' : Nat} {D D' : DataW Unit} {VL VR : Value} {l : List KpD} {R : List ByteArray} (h : GB w B b kb m n D VL VR l R) (hg : w.grownBy w' (some m)) (h1 : Bk w' kb m) (h2 : MapAt w' m n' D') (h3 : GoodD D' n') : GB w' B b kb m n' D' VL VR l R := by
  have hb := blk_ne_map h.at_.blk h.mp
  refine ⟨⟨?_, h.at_.row.kept hg (.inr (row_ne_map h.at_.row h.mp)), h.at_.roots.kept hg (.inr (row_ne_map h.at_.roots h.mp)), h.at_.srt⟩, h1, h2, h3⟩
  exact (hg.block b h.at_.blk.lt (fun e => by injection e with e; exact hb e)).trans h.at_.blk
/-- The book has grown. -/
theorem BS.booked {w w' : World} {b kb m n n' : Nat} {D D' : DataW Unit} {S : Nat → Prop} {l : List KpD} {R : List ByteArray} (h : BS w b kb m n D S l R) (hn : n ≤ n') (hg : w.grownBy w' (some m)) (h1 : Bk w' kb m) (h2 : MapAt w' m n' D') (h3 : GoodD D' n') (hD : ∀ s q, Marked D s q → Marked D' s q) : BS w' b kb m n' D' S l R ∧ Stp S S w w' := by
  obtain ⟨VL, VR, g, hk, hR, hS⟩ := h
  refine ⟨⟨VL, VR, g.booked hg h1 h2 h3, hk.mono hn hD, by omega, hS⟩, Fr.of_grown hg (fun k hk => ?_), fun k h => .inl h⟩
  injection hk with hk
  exact (hS k).2 (.inr (.inr (.inl hk.symm)))
theorem BS.at_ {w : World} {b kb m n : Nat} {D : DataW Unit} {S : Nat → Prop} {l : List KpD} {R : List ByteArray} (h : BS w b kb m n D S l R) : At w kb m n D := by
  obtain ⟨VL, VR, g, hk, hR, hS⟩ := h
  exact ⟨g.bk, g.mp⟩
/-- A root more. -/
theorem BS.rooted {w w' : World} {b kb m n : Nat} {D : DataW Unit} {VL VR V : Value} {S : Nat → Prop} {l : List KpD} {R : List ByteArray} {q : ByteArray} (g : GB w 0 b kb m n D VL VR l R) (hk : KOk D l n) (hR : R.length + 1 ≤ n) (hS : ∀ k, S k ↔ (k = b ∨ k = kb ∨ k = m ∨ VL.ownBlock = some k ∨ VR.ownBlock = some k))
    (hg : w.grownBy w' VR.ownBlock) (hr : w'.ownsRow 0 9 1 V (R.length + 1) ((R ++ [q]).map Value.string)) (hat : V.ownBlock = VR.ownBlock ∨ ∃ k, V.ownBlock = some k ∧ w.heap.size ≤ k) :
    ∃ S', BS (w'.setCell ⟨b, 2, none⟩ V) b kb m n D S' l (R ++ [q]) ∧ Stp S S' w (w'.setCell ⟨b, 2, none⟩ V) := by
  obtain ⟨h1, h2⟩ := g.rooted (R' := R ++ [q]) hg (by rw [List.length_append]; exact hr)
  refine ⟨fun k => k = b ∨ k = kb ∨ k = m ∨ VL.ownBlock = some k ∨ V.ownBlock = some k, ⟨VL, V, h1, hk, by rw [List.length_append]; exact hR, fun k => Iff.rfl⟩, h2.mono ?_, ?_⟩
  · rintro k _ (h | h)
    · exact (hS k).2 (.inl h)
    · exact (hS k).2 (.inr (.inr (.inr (.inr h))))
  · rintro k (h | h | h | h | h)
    · exact .inl ((hS k).2 (.inl h))
    · exact .inl ((hS k).2 (.inr (.inl h)))
    · exact .inl ((hS k).2 (.inr (.inr (.inl h))))
    · exact .inl ((hS k).2 (.inr (.inr (.inr (.inl h)))))
    · rcases hat with ha | ⟨j, ha, hj⟩
      · exact .inl ((hS k).2 (.inr (.inr (.inr (.inr (ha ▸ h))))))
      · rw [ha] at h
        injection h with h
        exact .inr (h ▸ hj)
end Go.Proofs.YtmcgaaihdjpdgaaGreatDoor
