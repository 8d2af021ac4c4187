/- The walk through the reference's Between. -/
import Derived.Test.YtjhbmcgaehpadaaDoorBtwL
import Derived.Test.YtjhbmcgaehpadaaDoorBtw2
import Derived.Test.YtjhbmcgaehpadaaDoorBtw3
namespace Go.Proofs.YtjhbmcgaehpadaaDoor
open Go.RowKit
set_option linter.unusedVariables false

theorem insGo_len0 (f : FileD) (l : List FileD) : (insGo f false l).length = l.length + 1 := by rw [insGo_len]; rfl
theorem fold_len : ∀ (l acc : List FileD), (l.foldl (fun out f => insGo f false out) acc).length = l.length + acc.length
  | [], acc => by simp
  | f :: l, acc => by rw [List.foldl_cons, fold_len l, insGo_len0, List.length_cons]; omega
theorem sort_len (l : List FileD) : (sortS l).length = l.length := by unfold sortS; rw [fold_len]; simp
theorem ins_all (f : FileD) (P : FileD → Prop) (hf : P f) (l : List FileD) (h : ∀ x ∈ l, P x) : ∀ x ∈ insGo f false l, P x := insGo_all f P hf false l h
theorem fold_all (P : FileD → Prop) : ∀ (l acc : List FileD), (∀ x ∈ l, P x) → (∀ x ∈ acc, P x) → ∀ x ∈ l.foldl (fun out f => insGo f false out) acc, P x
  | [], acc, _, h => by simpa using h
  | f :: l, acc, hl, h => by
    rw [List.foldl_cons]
    exact fold_all P l _ (fun x hx => hl x (by simp [hx])) (ins_all f P (hl f (by simp)) acc h)
theorem sort_all (P : FileD → Prop) (l : List FileD) (h : ∀ x ∈ l, P x) : ∀ x ∈ sortS l, P x := fold_all P l [] h (by simp)
def ga (a : List ItemD) : List FileD := a.map fun f => pfile f.path
def gb (a b : List ItemD) : List FileD := (b.filter fun g => (lookI g.path a).isNone).map fun g => pfile g.path
theorem ga_snoc {a : List ItemD} {k : Nat} {f : ItemD} (h : a[k]? = some f) : fcells (ga (a.take (k + 1))) = fcells (ga (a.take k)) ++ (#[Value.string f.path, .int .i64 0, .string ⟨#[]⟩] : Array Value).toList := by
  unfold ga
  rw [take_snoc h, List.map_append, fcells_app]
  rfl
theorem ga_len (a : List ItemD) : (ga a).length = a.length := by unfold ga; simp
theorem gb_yes {a b : List ItemD} {k : Nat} {g : ItemD} (h : b[k]? = some g) (hl : lookI g.path a = none) : gb a (b.drop k) = pfile g.path :: gb a (b.drop (k + 1)) := by
  unfold gb
  rw [drop_head h, List.filter_cons_of_pos (by rw [hl]; rfl), List.map_cons]
theorem gb_no {a b : List ItemD} {k : Nat} {g f : ItemD} (h : b[k]? = some g) (hl : lookI g.path a = some f) : gb a (b.drop k) = gb a (b.drop (k + 1)) := by
  unfold gb
  rw [drop_head h, List.filter_cons_of_neg (by rw [hl]; simp)]
theorem gb_end {a b : List ItemD} {k : Nat} (h : b.length ≤ k) : gb a (b.drop k) = [] := by unfold gb; rw [List.drop_eq_nil_of_le h]; rfl
theorem gb_len (a b : List ItemD) : (gb a b).length ≤ b.length := by unfold gb; rw [List.length_map]; exact List.length_filter_le _ _
theorem ent_end {s : List FileD} {k : Nat} (E : FileD → List ChD) (h : s.length ≤ k) : (s.drop k).flatMap E = [] := by rw [List.drop_eq_nil_of_le h]; rfl
theorem ent_step {s : List FileD} {k : Nat} {f : FileD} (E : FileD → List ChD) (h : s[k]? = some f) : (s.drop k).flatMap E = E f ++ (s.drop (k + 1)).flatMap E := by rw [drop_head h, List.flatMap_cons]
theorem ent1 {a b : List ItemD} {p : ByteArray} (h : lookI p b = none) : entC a b p = [⟨1, p⟩] := by unfold entC; rw [h]
theorem ent2 {a b : List ItemD} {p : ByteArray} {g : ItemD} (h : lookI p b = some g) (h2 : lookI p a = none) : entC a b p = [⟨2, p⟩] := by unfold entC; rw [h, h2]
theorem ent3 {a b : List ItemD} {p : ByteArray} {f g : ItemD} (h : lookI p b = some g) (h2 : lookI p a = some f) (h3 : f.size ≠ g.size ∨ f.mark ≠ g.mark) : entC a b p = [⟨3, p⟩] := by unfold entC; rw [h, h2]; exact if_pos h3
theorem ent4 {a b : List ItemD} {p : ByteArray} {f g : ItemD} (h : lookI p b = some g) (h2 : lookI p a = some f) (h3 : ¬ (f.size ≠ g.size ∨ f.mark ≠ g.mark)) (h4 : f.mode ≠ g.mode) : entC a b p = [⟨4, p⟩] := by
  unfold entC
  rw [h, h2]
  show (if _ then _ else _) = _
  rw [if_neg h3, if_pos h4]
theorem ent0 {a b : List ItemD} {p : ByteArray} {f g : ItemD} (h : lookI p b = some g) (h2 : lookI p a = some f) (h3 : ¬ (f.size ≠ g.size ∨ f.mark ≠ g.mark)) (h4 : ¬ f.mode ≠ g.mode) : entC a b p = [] := by
  unfold entC
  rw [h, h2]
  show (if _ then _ else _) = _
  rw [if_neg h3, if_neg h4]
def EndRel (w : World) (a b : List ItemD) (s : List FileD) (R : List ChD) (vo v : Value) (wr : World) : Prop := ∃ (k : Nat) (out : List ChD), k ≤ s.length ∧ v = .int .i64 k ∧ wr.ownsRow w.heap.size 44 2 vo out.length (ccells out) ∧ out.length ≤ k ∧ Hid (out ++ (s.drop k).flatMap (fun h => entC a b h.path) = R) ∧ Below w.heap.size w wr
set_option maxHeartbeats 4000000 in
set_option maxRecDepth 100000 in
theorem btw_ref (A B : Option Addr) (c d : Nat) (a b : List ItemD) (w : World) (hz : a.length ≤ 256) (hz2 : b.length ≤ 256) (hx : ∀ f ∈ a, IOk f) (hy : ∀ f ∈ b, IOk f)
    (ha : Arr w w.heap.size 4 A a.length (icells a)) (hb : Arr w w.heap.size 4 B b.length (icells b)) (h0 : rightE a = 0) (h1 : rightE b = 0) :
    Calls Tryd.prog 30 #[.slice A a.length c, .slice B b.length d] w fun e w' => ∃ A' c', e = .returned (.tuple #[.slice A' (refC a b).length c', .int .i64 0]) ∧ Arr w' w'.heap.size 2 A' (refC a b).length (ccells (refC a b)) ∧ Below w.heap.size w w' := by
  obtain ⟨i1, gi0, gz0, gz1, gz2⟩ := info_parts infoCh
  obtain ⟨i2, fi0, fz0, fz1, fz2⟩ := info_parts infoFile
  have F1 := Lib.hid (right_ref A c a w (by omega) hx ha)
  have F2 := Lib.hid (fun W (hh : Below w.heap.size w W) => right_ref B d b W (by omega) hy ((hb.below hh).more hh.size))
  rw [h0] at F1
  rw [h1] at F2
  have hGL : (gath a b).length ≤ 512 := by
    have e : gath a b = ga a ++ gb a b := rfl
    have := gb_len a b
    rw [e, List.length_append, ga_len]; omega
  have hG : Hid (ga a ++ gb a (b.drop 0) = gath a b) := Lib.hid rfl
  have hGX : Hid (∀ x ∈ gath a b, FOk x) := Lib.hid (by
    intro x hx2
    unfold gath at hx2
    rcases List.mem_append.1 hx2 with h | h
    · obtain ⟨f, hf, rfl⟩ := List.mem_map.1 h
      exact ⟨(hx f hf).1, by show (0 : Nat) ≤ _; omega⟩
    · obtain ⟨f, hf, rfl⟩ := List.mem_map.1 h
      exact ⟨(hy f (List.mem_filter.1 hf).1).1, by show (0 : Nat) ≤ _; omega⟩)
  have hRC : Hid ([] ++ ((sortS (gath a b)).drop 0).flatMap (fun h => entC a b h.path) = refC a b) := Lib.hid rfl
  have hSL : (sortS (gath a b)).length = (gath a b).length := sort_len _
  generalize hS : sortS (gath a b) = S at *
  have hSS := Lib.hid hS
  clear hS
  generalize gath a b = G at *
  generalize refC a b = R at *
  have HA := Lib.hid ha
  have HB := Lib.hid hb
  have HX := Lib.hid hx
  have HY := Lib.hid hy
  clear ha hb hx hy h0 h1
  go_enter Tryd.func30, Tryd.ntmps30
  go_wp2_with (first
    | (go_at_call 35; (with_reducible refine F1.out.mono ?_); rintro e w1 ⟨rfl, hb1⟩)
    | (go_at_call 35; (with_reducible refine (F2.out _ hb1).mono ?_); rintro e w2 ⟨rfl, hb2⟩))
  have hB0 := below_on hb1 hb2
  clear F1 F2
  go_loopw [7, 8] (fun vo v wr => ∃ (k : Nat), k ≤ a.length ∧ v = .int .i64 k ∧ wr.ownsRow w.heap.size 58 3 vo k (fcells (ga (a.take k))) ∧ Below w.heap.size w wr) (fun _ v _ => a.length - (intOf v).toNat)
  case atStart => exact ⟨0, Nat.zero_le _, rfl, World.ownsRow_nil _ _ _ _, hB0⟩
  case round =>
    obtain ⟨k, hk, rfl, hown, hB⟩ := hrel
    have hbse := hB.size
    by_cases hlt : k < a.length
    · obtain ⟨f, hf⟩ : ∃ f, a[k]? = some f := ⟨_, List.getElem?_eq_getElem hlt⟩
      obtain ⟨bA, oA, rfl, hbA, hcell⟩ := HA.out.2 (by omega)
      obtain ⟨c0, c1, c2, c3⟩ := item_cells (fun i u h => (hB.cell (p := ⟨bA, oA + i, none⟩) hbA).trans (hcell i u h)) hf
      have HT := Lib.hid (ga_snoc hf)
      have kl : (k : Int) < a.length := by omega
      clear hf hcell
      go_wp2_with (at_builtin; refine wpList_push rfl _ _ _ rfl Tryd.underlying29 fi0 fz0 fz1 fz2 file_zero (by decide) hown rfl rfl rfl (file_one (pfile f.path)) (by unfold maxLen; omega) (by omega) hbse ?_; intro g6 cap6 w6 hown6 hgr6 hat6; have hB6 := hB.grown hgr6 hbse (fun j hj => (hown.lt j hj).1))
      go_roundw
      case rel => exact ⟨k + 1, by omega, by go_num, by rw [HT.out]; exact hown6, hB6⟩
      case measure => simp [intOf] <;> omega
    · have hke : k = a.length := by omega
      subst hke
      rw [List.take_of_length_le (Nat.le_refl _)] at hown
      have hown1 := hown
      rw [← ga_len a] at hown1
      have hgl := ga_len a
      generalize hga : ga a = GA at *
      have HGA := Lib.hid hga
      clear hown hga hB0 hb1 hb2
      go_wp2
      obtain ⟨w3, rfl⟩ : ∃ w3, w3 = wr := ⟨_, rfl⟩
      go_loopw [7, 9] (fun vo v wr => ∃ (k : Nat) (out : List FileD), k ≤ b.length ∧ v = .int .i64 k ∧ wr.ownsRow w.heap.size 58 3 vo out.length (fcells out) ∧ out.length ≤ GA.length + k ∧ Hid (out ++ gb a (b.drop k) = G) ∧ Below w.heap.size w wr) (fun _ v _ => b.length - (intOf v).toNat)
      case atStart => exact ⟨0, GA, Nat.zero_le _, rfl, hown1, by omega, hG, hB⟩
      case round =>
        obtain ⟨k, out, hk, rfl, hown, hol, H, hB⟩ := hrel
        have hbse := hB.size
        by_cases hlt : k < b.length
        · obtain ⟨g, hg⟩ : ∃ g, b[k]? = some g := ⟨_, List.getElem?_eq_getElem hlt⟩
          obtain ⟨bB, oB, rfl, hbB, hcell⟩ := HB.out.2 (by omega)
          obtain ⟨c0, c1, c2, c3⟩ := item_cells (fun i u h => (hB.cell (p := ⟨bB, oB + i, none⟩) hbB).trans (hcell i u h)) hg
          have hlow := fun (i u) (h : (icells b)[i]? = some u) (W : World) (hh : Below w.heap.size w W) => (hh.cell (p := ⟨bB, oB + i, none⟩) hbB).trans (hcell i u h)
          have HCG := Lib.hid (fun (W : World) (hh : Below w.heap.size w W) => item_cells (w := W) (fun i u h => hlow i u h W hh) hg)
          have PL := Lib.hid (fun W (hh : Below w.heap.size w W) => place_ref A c a g.path W (by omega) ((HA.out.below hh).more hh.size))
          have kl : (k : Int) < b.length := by omega
          cases hl : lookI g.path a with
          | none =>
            have hst := Lib.hid (show (out ++ [pfile g.path]) ++ gb a (b.drop (k + 1)) = G by have := H.out; rw [gb_yes hg hl] at this; simpa using this)
            rw [place_none hl] at PL
            clear hg hcell hl hlow H
            go_wp2_with (first
              | (go_at_call 56; (with_reducible refine (PL.out _ hB).mono ?_); rintro e w5 ⟨rfl, hb5⟩; have hB := below_on hB hb5; have hown := own_below hown hb5; have hbse := hB.size; obtain ⟨c0, c1, c2, c3⟩ := HCG.out _ hB)
              | (at_builtin; refine wpList_push rfl _ _ _ rfl Tryd.underlying29 fi0 fz0 fz1 fz2 file_zero (by decide) hown rfl rfl rfl (file_one (pfile g.path)) (by unfold maxLen; omega) (by omega) hbse ?_; intro g6 cap6 w6 hown6 hgr6 hat6; have hB6 := hB.grown hgr6 hbse (fun j hj => (hown.lt j hj).1)))
            go_roundw
            case rel => exact ⟨k + 1, out ++ [pfile g.path], by omega, by go_num, by rw [List.length_append, fcells_snoc]; exact hown6, by simp; omega, hst, hB6⟩
            case measure => simp [intOf] <;> omega
          | some f =>
            have hst := Lib.hid (show out ++ gb a (b.drop (k + 1)) = G by have := H.out; rw [gb_no hg hl] at this; exact this)
            obtain ⟨i, hp, hi⟩ := place_some (k := 0) hl
            rw [Nat.zero_add] at hp
            rw [hp] at PL
            have hi0 : ¬ (i : Int) < 0 := by omega
            clear hg hcell hl hlow H hp hi
            go_wp2_with (go_at_call 56; (with_reducible refine (PL.out _ hB).mono ?_); rintro e w5 ⟨rfl, hb5⟩; have hB := below_on hB hb5; have hown := own_below hown hb5)
            go_roundw
            case rel => exact ⟨k + 1, out, by omega, by go_num, hown, by omega, hst, hB⟩
            case measure => simp [intOf] <;> omega
        · have hH := H.out
          rw [gb_end (by omega), List.append_nil] at hH
          subst hH
          obtain ⟨A3, c3, rfl, hcap3, ha3, hfr3⟩ := own_arr hown
          have SR := Lib.hid (sort_ref A3 c3 out wr (by omega) hGX.out ha3)
          rw [hSS.out] at SR
          clear H ha3 hown hown1 hSS hG
          go_wp2_with (go_at_call 43; (with_reducible refine SR.out.mono ?_); rintro e w4 ⟨A4, c4, rfl, ha4, hb4⟩; have HA4 := Lib.hid ha4; clear ha4)
          have hB4 := below_on hB hb4
          clear SR
          rw [← hSL]
          rw [← hSL] at HA4
          have HAw := Lib.hid ((HA.out.below hB4).more hB4.size)
          have HBw := Lib.hid ((HB.out.below hB4).more hB4.size)
          have hSl : S.length ≤ 512 := by omega
          clear hSL
          clear HA HB hB hb4
          obtain ⟨w3', rfl⟩ : ∃ w3', w3' = wr := ⟨_, rfl⟩
          go_loopw [10, 11] (fun vo v wr => EndRel w4 a b S R vo v wr) (fun _ v _ => S.length - (intOf v).toNat)
          case atStart => unfold EndRel; exact ⟨0, [], Nat.zero_le _, rfl, World.ownsRow_nil _ _ _ _, Nat.le_refl _, hRC, Below.refl _ _⟩
          case round =>
            unfold EndRel at hrel
            obtain ⟨k, out2, hk, rfl, hown, hol2, H, hB⟩ := hrel
            by_cases hlt : k < S.length
            · obtain ⟨f, hf⟩ : ∃ f, S[k]? = some f := ⟨_, List.getElem?_eq_getElem hlt⟩
              obtain ⟨b4, o4, rfl, hb44, hcell⟩ := HA4.out.2 (by omega)
              have hbse := hB.size
              obtain ⟨x0, x1, x2⟩ := file_cells (fun i u h => (hB.cell (p := ⟨b4, o4 + i, none⟩) hb44).trans (hcell i u h)) hf
              have kl : (k : Int) < S.length := by omega
              have hstep := H.out
              rw [ent_step _ hf] at hstep
              have PA := Lib.hid (fun W (hh : Below w4.heap.size w4 W) => place_ref A c a f.path W (by omega) ((HAw.out.below hh).more hh.size))
              have PB := Lib.hid (fun W (hh : Below w4.heap.size w4 W) => place_ref B d b f.path W (by omega) ((HBw.out.below hh).more hh.size))
              clear hf hcell H
              cases hlb : lookI f.path b with
              | none =>
                have hst := Lib.hid (show (out2 ++ [⟨1, f.path⟩]) ++ (S.drop (k + 1)).flatMap (fun h => entC a b h.path) = R by rw [ent1 hlb] at hstep; simpa using hstep)
                rw [place_none hlb] at PB
                generalize placeGo f.path 0 a = X at PA
                clear hlb hstep
                go_wp2_with (first
                  | (go_at_call 56; (with_reducible refine (PA.out _ hB).mono ?_); rintro e w8 ⟨rfl, hb8⟩; have hB := below_on hB hb8; have hown := own_below hown hb8)
                  | (go_at_call 56; (with_reducible refine (PB.out _ hB).mono ?_); rintro e w9 ⟨rfl, hb9⟩; have hB := below_on hB hb9; have hown := own_below hown hb9; have hbse := hB.size)
                  | (at_builtin; refine wpList_push rfl _ _ _ rfl Tryd.underlying40 gi0 gz0 gz1 gz2 ch_zero (by decide) hown rfl rfl rfl (ch_one 1 f.path) (by unfold maxLen; omega) (by omega) hbse ?_; intro g6 cap6 w6 hown6 hgr6 hat6; have hB6 := hB.grown hgr6 hbse (fun j hj => (hown.lt j hj).1)))
                go_roundw
                case rel => unfold EndRel; exact ⟨k + 1, out2 ++ [⟨1, f.path⟩], by omega, by go_num, by rw [List.length_append, ccells_snoc]; exact hown6, by simp; omega, hst, hB6⟩
                case measure => simp [intOf] <;> omega
              | some g =>
                obtain ⟨j, hpb, hj⟩ := place_some (k := 0) hlb
                rw [Nat.zero_add] at hpb
                rw [hpb] at PB
                have hj0 : ¬ (j : Int) < 0 := by omega
                cases hla : lookI f.path a with
                | none =>
                  have hst := Lib.hid (show (out2 ++ [⟨2, f.path⟩]) ++ (S.drop (k + 1)).flatMap (fun h => entC a b h.path) = R by rw [ent2 hlb hla] at hstep; simpa using hstep)
                  rw [place_none hla] at PA
                  clear hlb hla hstep hpb hj
                  go_wp2_with (first
                    | (go_at_call 56; (with_reducible refine (PA.out _ hB).mono ?_); rintro e w8 ⟨rfl, hb8⟩; have hB := below_on hB hb8; have hown := own_below hown hb8)
                    | (go_at_call 56; (with_reducible refine (PB.out _ hB).mono ?_); rintro e w9 ⟨rfl, hb9⟩; have hB := below_on hB hb9; have hown := own_below hown hb9; have hbse := hB.size)
                    | (at_builtin; refine wpList_push rfl _ _ _ rfl Tryd.underlying40 gi0 gz0 gz1 gz2 ch_zero (by decide) hown rfl rfl rfl (ch_one 2 f.path) (by unfold maxLen; omega) (by omega) hbse ?_; intro g6 cap6 w6 hown6 hgr6 hat6; have hB6 := hB.grown hgr6 hbse (fun j hj => (hown.lt j hj).1)))
                  go_roundw
                  case rel => unfold EndRel; exact ⟨k + 1, out2 ++ [⟨2, f.path⟩], by omega, by go_num, by rw [List.length_append, ccells_snoc]; exact hown6, by simp; omega, hst, hB6⟩
                  case measure => simp [intOf] <;> omega
                | some x =>
                  obtain ⟨i, hpa, hi⟩ := place_some (k := 0) hla
                  rw [Nat.zero_add] at hpa
                  rw [hpa] at PA
                  have hi0 : ¬ (i : Int) < 0 := by omega
                  have hil : i < a.length := (List.getElem?_eq_some_iff.1 hi).1
                  have hjl : j < b.length := (List.getElem?_eq_some_iff.1 hj).1
                  have il : (i : Int) < a.length := by omega
                  have jl : (j : Int) < b.length := by omega
                  obtain ⟨bA, oA, rfl, hbA, hcA⟩ := HAw.out.2 (by omega)
                  obtain ⟨bB, oB, rfl, hbB, hcB⟩ := HBw.out.2 (by omega)
                  have CA := Lib.hid (fun (W : World) (hh : Below w4.heap.size w4 W) => item_cells (w := W) (fun i u h => (hh.cell (p := ⟨bA, oA + i, none⟩) hbA).trans (hcA i u h)) hi)
                  have CB := Lib.hid (fun (W : World) (hh : Below w4.heap.size w4 W) => item_cells (w := W) (fun i u h => (hh.cell (p := ⟨bB, oB + i, none⟩) hbB).trans (hcB i u h)) hj)
                  have z1 := fun h => ent3 hlb hla h
                  have z2 := fun h h' => ent4 hlb hla h h'
                  have z3 := fun h h' => ent0 hlb hla h h'
                  clear hcA hcB hpa hpb hlb hla hi hj
                  by_cases q1 : x.size = g.size
                  · by_cases q2 : x.mark = g.mark
                    · by_cases q3 : x.mode = g.mode
                      · obtain ⟨A6, c6, rfl, hcap6, ha6, hfr6⟩ := own_arr hown
                        clear ha6 hfr6
                        have hst := Lib.hid (show (out2) ++ (S.drop (k + 1)).flatMap (fun h => entC a b h.path) = R by rw [z3 (by simp [q1, q2]) (by simp [q3])] at hstep; simpa using hstep)
                        clear hstep z1 z2 z3
                        have r1 : (x.size != g.size) = false := by simp [q1]
                        have r2 : (x.mark.toList != g.mark.toList) = false := by simp [q2]
                        have r2' : (x.mark.toList == g.mark.toList) = true := by simp [q2]
                        have r3 : (x.mode != g.mode) = false := by simp [q3]
                        go_wp2_with (first
                          | (go_at_call 56; (with_reducible refine (PA.out _ hB).mono ?_); rintro e w8 ⟨rfl, hb8⟩; have hB := below_on hB hb8; have hown := own_below hown hb8)
                          | (go_at_call 56; (with_reducible refine (PB.out _ hB).mono ?_); rintro e w9 ⟨rfl, hb9⟩; have hB := below_on hB hb9; have hown := own_below hown hb9; have hbse := hB.size; obtain ⟨c0, c1, c2, c3⟩ := CA.out _ hB; obtain ⟨e0, e1, e2, e3⟩ := CB.out _ hB; have hownQ := own_drewN hown))
                        go_quiet (fail)
                        go_wp2
                        go_quiet (fail)
                        go_wp2
                        go_roundw
                        case rel => unfold EndRel; exact ⟨k + 1, out2, by omega, by go_num, hown, by omega, hst, below_drewB hB _⟩
                        case measure => simp [intOf] <;> omega
                      · have hst := Lib.hid (show (out2 ++ [⟨4, f.path⟩]) ++ (S.drop (k + 1)).flatMap (fun h => entC a b h.path) = R by rw [z2 (by simp [q1, q2]) q3] at hstep; simpa using hstep)
                        clear hstep z1 z2 z3
                        have r1 : (x.size != g.size) = false := by simp [q1]
                        have r2 : (x.mark.toList != g.mark.toList) = false := by simp [q2]
                        have r2' : (x.mark.toList == g.mark.toList) = true := by simp [q2]
                        have r3 : (x.mode != g.mode) = true := by simp [q3]
                        go_wp2_with (first
                          | (go_at_call 56; (with_reducible refine (PA.out _ hB).mono ?_); rintro e w8 ⟨rfl, hb8⟩; have hB := below_on hB hb8; have hown := own_below hown hb8)
                          | (go_at_call 56; (with_reducible refine (PB.out _ hB).mono ?_); rintro e w9 ⟨rfl, hb9⟩; have hB := below_on hB hb9; have hown := own_below hown hb9; have hbse := hB.size; obtain ⟨c0, c1, c2, c3⟩ := CA.out _ hB; obtain ⟨e0, e1, e2, e3⟩ := CB.out _ hB; have hownQ := own_drewN hown))
                        go_quiet (fail)
                        go_wp2
                        go_quiet (fail)
                        go_wp2_with (first
                          | (at_builtin; refine wpList_push rfl _ _ _ rfl Tryd.underlying40 gi0 gz0 gz1 gz2 ch_zero (by decide) (hownQ _) rfl rfl rfl (ch_one 4 f.path) (by unfold maxLen; omega) (by omega) hbse ?_; intro g6 cap6 w6 hown6 hgr6 hat6; have hB6 := (below_drewN hB _).grown hgr6 hbse (fun j hj => (hown.lt j hj).1)))
                        go_roundw
                        case rel => unfold EndRel; exact ⟨k + 1, out2 ++ [⟨4, f.path⟩], by omega, by go_num, by rw [List.length_append, ccells_snoc]; exact hown6, by simp; omega, hst, hB6⟩
                        case measure => simp [intOf] <;> omega
                    · have hst := Lib.hid (show (out2 ++ [⟨3, f.path⟩]) ++ (S.drop (k + 1)).flatMap (fun h => entC a b h.path) = R by rw [z1 (.inr q2)] at hstep; simpa using hstep)
                      clear hstep z1 z2 z3
                      have r1 : (x.size != g.size) = false := by simp [q1]
                      have r2 : (x.mark.toList == g.mark.toList) = false := str_ne q2
                      have r2' : (x.mark.toList != g.mark.toList) = true := by rw [bne, r2]; rfl
                      go_wp2_with (first
                        | (go_at_call 56; (with_reducible refine (PA.out _ hB).mono ?_); rintro e w8 ⟨rfl, hb8⟩; have hB := below_on hB hb8; have hown := own_below hown hb8)
                        | (go_at_call 56; (with_reducible refine (PB.out _ hB).mono ?_); rintro e w9 ⟨rfl, hb9⟩; have hB := below_on hB hb9; have hown := own_below hown hb9; have hbse := hB.size; obtain ⟨c0, c1, c2, c3⟩ := CA.out _ hB; obtain ⟨e0, e1, e2, e3⟩ := CB.out _ hB; have hownQ := own_drewN hown))
                      go_quiet (fail)
                      go_wp2_with (first
                        | (at_builtin; refine wpList_push rfl _ _ _ rfl Tryd.underlying40 gi0 gz0 gz1 gz2 ch_zero (by decide) (hownQ _) rfl rfl rfl (ch_one 3 f.path) (by unfold maxLen; omega) (by omega) hbse ?_; intro g6 cap6 w6 hown6 hgr6 hat6; have hB6 := (below_drewN hB _).grown hgr6 hbse (fun j hj => (hown.lt j hj).1)))
                      go_roundw
                      case rel => unfold EndRel; exact ⟨k + 1, out2 ++ [⟨3, f.path⟩], by omega, by go_num, by rw [List.length_append, ccells_snoc]; exact hown6, by simp; omega, hst, hB6⟩
                      case measure => simp [intOf] <;> omega
                  · have hst := Lib.hid (show (out2 ++ [⟨3, f.path⟩]) ++ (S.drop (k + 1)).flatMap (fun h => entC a b h.path) = R by rw [z1 (.inl q1)] at hstep; simpa using hstep)
                    clear hstep z1 z2 z3
                    have r1 : (x.size != g.size) = true := by simp [q1]
                    go_wp2_with (first
                      | (go_at_call 56; (with_reducible refine (PA.out _ hB).mono ?_); rintro e w8 ⟨rfl, hb8⟩; have hB := below_on hB hb8; have hown := own_below hown hb8)
                      | (go_at_call 56; (with_reducible refine (PB.out _ hB).mono ?_); rintro e w9 ⟨rfl, hb9⟩; have hB := below_on hB hb9; have hown := own_below hown hb9; have hbse := hB.size; obtain ⟨c0, c1, c2, c3⟩ := CA.out _ hB; obtain ⟨e0, e1, e2, e3⟩ := CB.out _ hB; have hownQ := own_drewN hown))
                    go_quiet (fail)
                    go_wp2_with (first
                      | (at_builtin; refine wpList_push rfl _ _ _ rfl Tryd.underlying40 gi0 gz0 gz1 gz2 ch_zero (by decide) (hownQ _) rfl rfl rfl (ch_one 3 f.path) (by unfold maxLen; omega) (by omega) hbse ?_; intro g6 cap6 w6 hown6 hgr6 hat6; have hB6 := (below_drewN hB _).grown hgr6 hbse (fun j hj => (hown.lt j hj).1)))
                    go_roundw
                    case rel => unfold EndRel; exact ⟨k + 1, out2 ++ [⟨3, f.path⟩], by omega, by go_num, by rw [List.length_append, ccells_snoc]; exact hown6, by simp; omega, hst, hB6⟩
                    case measure => simp [intOf] <;> omega
            · have hH := H.out
              rw [ent_end _ (by omega), List.append_nil] at hH
              subst hH
              obtain ⟨A6, c6, rfl, hcap6, ha6, hfr6⟩ := own_arr hown
              have HA6 := Lib.hid ha6
              clear H ha6
              go_wp2
              go_ret2
              exact ⟨A6, c6, rfl, HA6.out, below_on hB4 hB⟩
end Go.Proofs.YtjhbmcgaehpadaaDoor
