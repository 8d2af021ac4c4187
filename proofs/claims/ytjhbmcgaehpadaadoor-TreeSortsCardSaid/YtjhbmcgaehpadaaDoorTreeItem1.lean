/- Manifests: what is wrong with one (Right), the walks through the program's and the reference's. -/
import Derived.Test.YtjhbmcgaehpadaaDoorTreeFiltersW
namespace Go.Proofs.YtjhbmcgaehpadaaDoor
open Go.RowKit
set_option linter.unusedVariables false

structure ItemD where
  path : ByteArray
  mode : Int
  size : Int
  mark : ByteArray
def icell (f : ItemD) : List Value := [.string f.path, .int .i64 f.mode, .int .i64 f.size, .string f.mark]
def icells (l : List ItemD) : List Value := (l.map icell).flatten
def IOk (f : ItemD) : Prop := f.path.size ≤ 9223372036854775807 ∧ f.mark.size ≤ 9223372036854775807 ∧ (-9223372036854775808 ≤ f.mode ∧ f.mode ≤ 9223372036854775807) ∧ -9223372036854775808 ≤ f.size ∧ f.size ≤ 9223372036854775807
def itemE (f : ItemD) : Int := if 0 ≤ f.mode ∧ f.mode ≤ 511 then if 0 ≤ f.size ∧ f.size ≤ 65536 then if f.mark.size = 32 then 0 else 5 else 4 else 11
def itemsE : List ItemD → Int
  | [] => 0
  | f :: r => if itemE f = 0 then itemsE r else itemE f
def ipaths (l : List ItemD) : List ByteArray := l.map (·.path)
def rightE (l : List ItemD) : Int := if pathsE (lists (ipaths l)) = 0 then itemsE l else pathsE (lists (ipaths l))
theorem items_step {l : List ItemD} {k : Nat} {f : ItemD} (h : l[k]? = some f) (hs : itemE f = 0) : itemsE (l.drop k) = itemsE (l.drop (k + 1)) := by rw [drop_head h, itemsE, if_pos hs]
theorem items_stop {l : List ItemD} {k : Nat} {f : ItemD} (h : l[k]? = some f) (hs : itemE f ≠ 0) : itemsE (l.drop k) = itemE f := by rw [drop_head h, itemsE, if_neg hs]
theorem items_end {l : List ItemD} {k : Nat} (h : l.length ≤ k) : itemsE (l.drop k) = 0 := by rw [List.drop_eq_nil_of_le h, itemsE]
theorem icell_at {l : List ItemD} {k : Nat} {f : ItemD} (h : l[k]? = some f) : (icells l)[k * 4]? = some (.string f.path) ∧ (icells l)[k * 4 + 1]? = some (.int .i64 f.mode) ∧ (icells l)[k * 4 + 2]? = some (.int .i64 f.size) ∧ (icells l)[k * 4 + 3]? = some (.string f.mark) := by
  have hl : ∀ r ∈ l.map icell, r.length = 4 := by
    intro r hr
    obtain ⟨f, _, rfl⟩ := List.mem_map.1 hr
    rfl
  have hx : (l.map icell)[k]? = some (icell f) := by rw [List.getElem?_map, h]; rfl
  unfold icells
  exact ⟨by rw [show k * 4 = k * 4 + 0 from rfl, flat_at _ k 0 _ hl hx (by omega)]; rfl, by rw [flat_at _ k 1 _ hl hx (by omega)]; rfl, by rw [flat_at _ k 2 _ hl hx (by omega)]; rfl, by rw [flat_at _ k 3 _ hl hx (by omega)]; rfl⟩
theorem item_cells {w : World} {b o k : Nat} {l : List ItemD} {f : ItemD} (hc : ∀ i u, (icells l)[i]? = some u → w.cell? ⟨b, o + i, none⟩ = some u) (h : l[k]? = some f) :
    w.cell? ⟨b, o + k * 4, none⟩ = some (.string f.path) ∧ w.cell? ⟨b, o + k * 4 + 1, none⟩ = some (.int .i64 f.mode) ∧ w.cell? ⟨b, o + k * 4 + 2, none⟩ = some (.int .i64 f.size) ∧ w.cell? ⟨b, o + k * 4 + 3, none⟩ = some (.string f.mark) := by
  obtain ⟨h0, h1, h2, h3⟩ := icell_at h
  exact ⟨hc _ _ h0, by rw [Nat.add_assoc]; exact hc _ _ h1, by rw [Nat.add_assoc]; exact hc _ _ h2, by rw [Nat.add_assoc]; exact hc _ _ h3⟩
theorem ipaths_take {l : List ItemD} {k : Nat} {f : ItemD} (h : l[k]? = some f) : (ipaths (l.take (k + 1))).map Value.string = (ipaths (l.take k)).map Value.string ++ [.string f.path] := by
  rw [take_snoc h]
  unfold ipaths
  simp
theorem ipaths_len (l : List ItemD) : (ipaths l).length = l.length := by unfold ipaths; simp
theorem icells_len (l : List ItemD) : (icells l).length = l.length * 4 := by
  unfold icells
  rw [flat_len_eq (c := 4) _ (by intro r hr; obtain ⟨f, _, rfl⟩ := List.mem_map.1 hr; rfl), List.length_map]
theorem icells_app (l m : List ItemD) : icells (l ++ m) = icells l ++ icells m := by unfold icells; rw [List.map_append, List.flatten_append]
theorem Arr.itake {w : World} {B : Nat} {A : Option Addr} {l : List ItemD} (h : Arr w B 4 A l.length (icells l)) {k : Nat} (hk : k ≤ l.length) : Arr w B 4 A k (icells (l.take k)) := by
  refine ⟨by rw [icells_len, List.length_take]; congr 1; omega, fun hn => ?_⟩
  obtain ⟨b, o, e, hb, hc⟩ := h.2 (by omega)
  refine ⟨b, o, e, hb, fun i u hu => hc i u ?_⟩
  have e2 : icells l = icells (l.take k) ++ icells (l.drop k) := by rw [← icells_app, List.take_append_drop]
  rw [e2]
  exact (List.getElem?_append_left (by
    rcases Nat.lt_or_ge i (icells (l.take k)).length with h | h
    · exact h
    · rw [List.getElem?_eq_none h] at hu; cases hu)).trans hu
theorem itemE_mode {f : ItemD} (h : ¬ (0 ≤ f.mode ∧ f.mode ≤ 511)) : itemE f = 11 := if_neg h
theorem itemE_size {f : ItemD} (h : 0 ≤ f.mode ∧ f.mode ≤ 511) (h2 : ¬ (0 ≤ f.size ∧ f.size ≤ 65536)) : itemE f = 4 := by unfold itemE; rw [if_pos h, if_neg h2]
theorem itemE_mark {f : ItemD} (h : 0 ≤ f.mode ∧ f.mode ≤ 511) (h2 : 0 ≤ f.size ∧ f.size ≤ 65536) (h3 : f.mark.size ≠ 32) : itemE f = 5 := by unfold itemE; rw [if_pos h, if_pos h2, if_neg h3]
theorem itemE_ok {f : ItemD} (h : 0 ≤ f.mode ∧ f.mode ≤ 511) (h2 : 0 ≤ f.size ∧ f.size ≤ 65536) (h3 : f.mark.size = 32) : itemE f = 0 := by unfold itemE; rw [if_pos h, if_pos h2, if_pos h3]

set_option maxHeartbeats 1000000 in
set_option maxRecDepth 100000 in
theorem some_any (A : Option Addr) (c n : Nat) (w : World) (hz : n ≤ 9223372036854775807) (hc : n ≤ c) (hA : 0 < n → ∃ a, A = some a) : Calls Tryd.prog 31 #[.slice A n c] w fun e w' => e = .returned (.slice A (min n 100) c) ∧ w = w' := by
  by_cases h : 100 < n
  · have h' : (100 : Int) < n := by omega
    rw [show min n 100 = 100 by omega]
    have hc2 : 100 ≤ c := by omega
    obtain ⟨a, rfl⟩ := hA (by omega)
    go_enter Tryd.func31, Tryd.ntmps31
    go_wp2
    go_ret
    exact ⟨rfl, rfl⟩
  · have h' : ¬ (100 : Int) < n := by omega
    rw [show min n 100 = n by omega]
    go_enter Tryd.func31, Tryd.ntmps31
    go_wp2
    go_ret
    exact ⟨rfl, rfl⟩

set_option maxHeartbeats 1000000 in
set_option maxRecDepth 100000 in
theorem right_in (b o c : Nat) (l : List ItemD) (w : World) (hn : 0 < l.length) (hz : l.length ≤ 8796093022208) (hx : ∀ f ∈ l, IOk f) (hb : b < w.heap.size)
    (hc : ∀ i u, (icells l)[i]? = some u → w.cell? ⟨b, o + i, none⟩ = some u) (hm : Ml w) :
    Calls Tryd.prog 34 #[.slice (some ⟨b, o, none⟩) l.length c] w fun e w' => e = .returned (.int .i64 (rightE l)) ∧ Below w.heap.size w w' := by
  have hx := Lib.hid hx
  have hc := Lib.hid hc
  obtain ⟨i0, hi0, hz0, hz1, hz2⟩ := info_parts infoStr
  have hp := fun A c W h1 h2 h3 => paths_any A c (ipaths l) W h1 h2 h3
  rw [ipaths_len] at hp
  unfold rightE
  generalize pathsE (lists (ipaths l)) = E at *
  have HP := Lib.hid hp
  clear hp
  generalize hR : itemsE l = R
  have HR : Hid (itemsE (l.drop 0) = R) := Lib.hid hR
  clear hR
  go_enter Tryd.func34, Tryd.ntmps34
  go_wp2
  go_loopw [3, 11] (fun v3 v wr => ∃ (k : Nat), k ≤ l.length ∧ v = .int .i64 k ∧ wr.ownsRow w.heap.size 9 1 v3 k ((ipaths (l.take k)).map Value.string) ∧ Below w.heap.size w wr) (fun _ v _ => l.length - (intOf v).toNat)
  case atStart => exact ⟨0, Nat.zero_le _, rfl, World.ownsRow_nil _ _ _ _, Below.refl _ _⟩
  case round =>
    obtain ⟨k, hk, rfl, hown, hB⟩ := hrel
    have hbse := hB.size
    by_cases hlt : k < l.length
    · obtain ⟨f, hf⟩ : ∃ f, l[k]? = some f := ⟨_, List.getElem?_eq_getElem hlt⟩
      obtain ⟨c0, c1, c2, c3⟩ := item_cells (fun i u h => (hB.cell (p := ⟨b, o + i, none⟩) hb).trans (hc.out i u h)) hf
      have HT := Lib.hid (ipaths_take hf)
      clear hf
      have hown' := hown.alloc (.cells #[.string f.path, .int .i64 f.mode, .int .i64 f.size, .string f.mark] 56)
      have hB' := hB.alloc hbse (.cells #[.string f.path, .int .i64 f.mode, .int .i64 f.size, .string f.mark] 56)
      go_wp2_with (at_builtin; refine wpList_push rfl _ _ _ rfl Tryd.underlying33 hi0 hz0 hz1 hz2 rfl (by decide) hown' rfl (by rw [World.size_alloc]; rfl) rfl (str_one f.path) (by unfold maxLen; omega) (by omega) (by simp; omega) ?_; intro g2 cap2 w1 hown1 hgr1 hat1)
      have hB3 := hB'.grown hgr1 hB'.size (fun j hj => (hown'.lt j hj).1)
      go_roundw
      case rel => exact ⟨k + 1, by omega, by go_num, by rw [HT.out]; exact hown1, hB3⟩
      case measure => simp [intOf] <;> omega
    · have he : l.take k = l := List.take_of_length_le (by omega)
      rw [he] at hown
      obtain ⟨A', c', rfl, hcap, ha, hfr⟩ := own_arr hown
      have hke : k = l.length := by omega
      subst hke
      have hmr := hm.on hB
      have hpc := HP.out A' c' wr (fun x hx2 => by
        unfold ipaths at hx2
        obtain ⟨f, hf, rfl⟩ := List.mem_map.1 hx2
        exact (hx.out f hf).1) (by omega) ha hmr
      have HPC := Lib.hid hpc
      clear hpc ha hfr he hown
      by_cases hE : E = 0
      · subst hE
        go_wp2_with (go_at_call 48; with_reducible refine HPC.out.mono ?_; rintro e w1 ⟨rfl, hb1⟩)
        have hB1 := below_on hB hb1
        clear HPC
        go_loopw [28] (fun v wr => ∃ (k : Nat), k ≤ l.length ∧ v = .int .i64 k ∧ Hid (itemsE (l.drop k) = R) ∧ Below w.heap.size w wr) (fun v _ => l.length - (intOf v).toNat)
        case atStart => exact ⟨0, Nat.zero_le _, rfl, HR, hB1⟩
        case round =>
          obtain ⟨k, hk, rfl, H, hB2⟩ := hrel
          by_cases hlt : k < l.length
          · obtain ⟨f, hf⟩ : ∃ f, l[k]? = some f := ⟨_, List.getElem?_eq_getElem hlt⟩
            obtain ⟨c0, c1, c2, c3⟩ := item_cells (fun i u h => (hB2.cell (p := ⟨b, o + i, none⟩) hb).trans (hc.out i u h)) hf
            have hxf := hx.out f (List.mem_of_getElem? hf)
            have hst := fun h => (items_step hf h).symm.trans H.out
            have hsp := fun h => (items_stop hf h).symm.trans H.out
            have hwd := hB2.size
            have HM := Lib.hid (fun W => mode_any f.mode W)
            have fm := itemE_mode (f := f)
            have fs := itemE_size (f := f)
            have fk := itemE_mark (f := f)
            have fo := itemE_ok (f := f)
            have hB3 := hB2.alloc hwd (.cells #[.string f.path, .int .i64 f.mode, .int .i64 f.size, .string f.mark] 56)
            have hmk := hxf.2.1
            clear hxf hf H
            generalize f.mode = m at *
            generalize f.size = z at *
            by_cases h1 : 0 ≤ m ∧ m ≤ 511
            · have hm1 : (decide (0 ≤ m) && decide (m ≤ 511)) = true := by simpa using h1
              rw [hm1] at HM
              by_cases h2a : 0 ≤ z
              · by_cases h2b : z ≤ 65536
                · by_cases h3 : f.mark.size = 32
                  · have hr := Lib.hid (hst (fo h1 ⟨h2a, h2b⟩ h3))
                    have h4 : ((f.mark.size : Int) == 32) = true := by rw [h3]; rfl
                    have h5 : ((f.mark.size : Int) != 32) = false := by rw [h3]; rfl
                    clear hst hsp fm fs fk fo hm1 h1 h3
                    go_wp2_with (go_at_call 49; with_reducible refine (HM.out _).mono ?_; rintro e w2 ⟨rfl, rfl⟩)
                    go_roundw
                    case rel => exact ⟨k + 1, by omega, by go_num, hr, hB3⟩
                    case measure => simp [intOf] <;> omega
                  · have hr := hsp (by rw [fk h1 ⟨h2a, h2b⟩ h3]; decide)
                    rw [fk h1 ⟨h2a, h2b⟩ h3] at hr
                    have hr := Lib.hid hr
                    have h4 : ((f.mark.size : Int) == 32) = false := by rw [beq_eq_false_iff_ne]; omega
                    have h5 : ((f.mark.size : Int) != 32) = true := by rw [bne_iff_ne]; omega
                    clear hst hsp fm fs fk fo hm1 h1 h3
                    go_wp2_with (go_at_call 49; with_reducible refine (HM.out _).mono ?_; rintro e w2 ⟨rfl, rfl⟩)
                    go_ret
                    exact ⟨by rw [← hr.out]; rfl, hB3⟩
                · have hr := hsp (by rw [fs h1 (fun h => h2b h.2)]; decide)
                  rw [fs h1 (fun h => h2b h.2)] at hr
                  have hr := Lib.hid hr
                  clear hst hsp fm fs fk fo hm1 h1
                  go_wp2_with (go_at_call 49; with_reducible refine (HM.out _).mono ?_; rintro e w2 ⟨rfl, rfl⟩)
                  go_ret
                  exact ⟨by rw [← hr.out]; rfl, hB3⟩
              · have hr := hsp (by rw [fs h1 (fun h => h2a h.1)]; decide)
                rw [fs h1 (fun h => h2a h.1)] at hr
                have hr := Lib.hid hr
                clear hst hsp fm fs fk fo hm1 h1
                go_wp2_with (go_at_call 49; with_reducible refine (HM.out _).mono ?_; rintro e w2 ⟨rfl, rfl⟩)
                go_ret
                exact ⟨by rw [← hr.out]; rfl, hB3⟩
            · have hm1 : (decide (0 ≤ m) && decide (m ≤ 511)) = false := by rw [Bool.eq_false_iff]; intro h; exact h1 (by simpa using h)
              rw [hm1] at HM
              have hr := hsp (by rw [fm h1]; decide)
              rw [fm h1] at hr
              have hr := Lib.hid hr
              clear hst hsp fm fs fk fo hm1 h1
              go_wp2_with (go_at_call 49; with_reducible refine (HM.out _).mono ?_; rintro e w2 ⟨rfl, rfl⟩)
              go_ret
              exact ⟨by rw [← hr.out]; rfl, hB3⟩
          · have hr := H.out
            rw [items_end (by omega)] at hr
            have hr := Lib.hid hr
            clear H
            go_wp2
            go_ret
            exact ⟨by rw [← hr.out]; rfl, hB2⟩
      · have hE' : (E == 0) = false := by rw [beq_eq_false_iff_ne]; exact hE
        go_wp2_with (go_at_call 48; with_reducible refine HPC.out.mono ?_; rintro e w1 ⟨rfl, hb1⟩)
        go_ret
        exact ⟨rfl, below_on hB hb1⟩
theorem right_any (A : Option Addr) (c : Nat) (l : List ItemD) (w : World) (hz : l.length ≤ 8796093022208) (hx : ∀ f ∈ l, IOk f)
    (hc : Arr w w.heap.size 4 A l.length (icells l)) (hm : Ml w) :
    Calls Tryd.prog 34 #[.slice A l.length c] w fun e w' => e = .returned (.int .i64 (rightE l)) ∧ Below w.heap.size w w' := by
  by_cases h0 : 0 < l.length
  · obtain ⟨b, o, rfl, hb, hcell⟩ := hc.2 h0
    exact right_in b o c l w h0 hz hx hb hcell hm
  · have : l = [] := List.eq_nil_of_length_eq_zero (by omega)
    subst this
    rw [show rightE [] = 0 from rfl]
    show Calls _ _ #[.slice A 0 c] _ _
    have HP : Hid (∀ W, Ml W → Calls Tryd.prog 48 #[.slice none 0 0] W fun e w' => e = .returned (.int .i64 0) ∧ Below W.heap.size W w') :=
      Lib.hid fun W h => paths_any none 0 [] W (by simp) (by simp) (Arr.nil _ _ _ _) h
    go_enter Tryd.func34, Tryd.ntmps34
    go_wp2
    go_loopw [3, 11] (fun v3 v wr => v3 = .slice none 0 0 ∧ v = .int .i64 0 ∧ wr = w) (fun _ v _ => 0)
    case atStart => exact ⟨rfl, rfl, rfl⟩
    case round =>
      obtain ⟨rfl, rfl, rfl⟩ := hrel
      go_wp2_with (go_at_call 48; with_reducible refine (HP.out _ hm).mono ?_; rintro e w1 ⟨rfl, hb1⟩)
      go_loopw [28] (fun v w2 => v = .int .i64 0 ∧ w2 = w1) (fun v _ => 0)
      case atStart => exact ⟨rfl, rfl⟩
      case round =>
        obtain ⟨rfl, rfl⟩ := hrel
        go_wp2
        go_ret
        exact ⟨rfl, hb1⟩

/-! ### the reference's -/
set_option maxHeartbeats 1000000 in
set_option maxRecDepth 100000 in
theorem right_ref_in (b o c : Nat) (l : List ItemD) (w : World) (hn : 0 < l.length) (hz : l.length ≤ 8796093022208) (hx : ∀ f ∈ l, IOk f) (hb : b < w.heap.size)
    (hc : ∀ i u, (icells l)[i]? = some u → w.cell? ⟨b, o + i, none⟩ = some u) :
    Calls Tryd.prog 35 #[.slice (some ⟨b, o, none⟩) l.length c] w fun e w' => e = .returned (.int .i64 (rightE l)) ∧ Below w.heap.size w w' := by
  have hx := Lib.hid hx
  have hc := Lib.hid hc
  obtain ⟨i0, hi0, hz0, hz1, hz2⟩ := info_parts infoStr
  have hp := fun A c W h1 h2 => together_any A c (ipaths l) W h1 h2
  rw [ipaths_len] at hp
  unfold rightE
  generalize pathsE (lists (ipaths l)) = E at *
  have HP := Lib.hid hp
  clear hp
  generalize hR : itemsE l = R
  have HR : Hid (itemsE (l.drop 0) = R) := Lib.hid hR
  clear hR
  go_enter Tryd.func35, Tryd.ntmps35
  go_wp2
  go_loopw [3, 4] (fun v3 v wr => ∃ (k : Nat), k ≤ l.length ∧ v = .int .i64 k ∧ wr.ownsRow w.heap.size 9 1 v3 k ((ipaths (l.take k)).map Value.string) ∧ Below w.heap.size w wr) (fun _ v _ => l.length - (intOf v).toNat)
  case atStart => exact ⟨0, Nat.zero_le _, rfl, World.ownsRow_nil _ _ _ _, Below.refl _ _⟩
  case round =>
    obtain ⟨k, hk, rfl, hown, hB⟩ := hrel
    have hbse := hB.size
    by_cases hlt : k < l.length
    · obtain ⟨f, hf⟩ : ∃ f, l[k]? = some f := ⟨_, List.getElem?_eq_getElem hlt⟩
      obtain ⟨c0, c1, c2, c3⟩ := item_cells (fun i u h => (hB.cell (p := ⟨b, o + i, none⟩) hb).trans (hc.out i u h)) hf
      have HT := Lib.hid (ipaths_take hf)
      clear hf
      go_wp2_with (at_builtin; refine wpList_push rfl _ _ _ rfl Tryd.underlying33 hi0 hz0 hz1 hz2 rfl (by decide) hown rfl rfl rfl (str_one f.path) (by unfold maxLen; omega) (by omega) (by omega) ?_; intro g2 cap2 w1 hown1 hgr1 hat1)
      have hB3 := hB.grown hgr1 hbse (fun j hj => (hown.lt j hj).1)
      go_roundw
      case rel => exact ⟨k + 1, by omega, by go_num, by rw [HT.out]; exact hown1, hB3⟩
      case measure => simp [intOf] <;> omega
    · have he : l.take k = l := List.take_of_length_le (by omega)
      rw [he] at hown
      obtain ⟨A', c', rfl, hcap, ha, hfr⟩ := own_arr hown
      have hke : k = l.length := by omega
      subst hke
      have hpc := HP.out A' c' wr (fun x hx2 => by
        unfold ipaths at hx2
        obtain ⟨f, hf, rfl⟩ := List.mem_map.1 hx2
        exact (hx.out f hf).1) (by omega) ha
      have HPC := Lib.hid hpc
      clear hpc ha hfr he hown
      by_cases hE : E = 0
      · subst hE
        go_wp2_with (go_at_call 50; with_reducible refine HPC.out.mono ?_; rintro e w1 ⟨rfl, hb1⟩)
        have hB1 := below_on hB hb1
        clear HPC
        go_loop [6] (fun v => ∃ (k : Nat), k ≤ l.length ∧ v = .int .i64 k ∧ Hid (itemsE (l.drop k) = R)) (fun v => l.length - (intOf v).toNat)
        case atStart => exact ⟨0, Nat.zero_le _, rfl, HR⟩
        case round =>
          obtain ⟨k, hk, rfl, H⟩ := hrel
          by_cases hlt : k < l.length
          · obtain ⟨f, hf⟩ : ∃ f, l[k]? = some f := ⟨_, List.getElem?_eq_getElem hlt⟩
            obtain ⟨c0, c1, c2, c3⟩ := item_cells (fun i u h => (hB1.cell (p := ⟨b, o + i, none⟩) hb).trans (hc.out i u h)) hf
            have hst := fun h => (items_step hf h).symm.trans H.out
            have hsp := fun h => (items_stop hf h).symm.trans H.out
            have fm := itemE_mode (f := f)
            have fs := itemE_size (f := f)
            have fk := itemE_mark (f := f)
            have fo := itemE_ok (f := f)
            clear hf H
            generalize f.mode = m at *
            generalize f.size = z at *
            by_cases h1a : 0 ≤ m
            · by_cases h1b : m ≤ 511
              · have h1 : 0 ≤ m ∧ m ≤ 511 := ⟨h1a, h1b⟩
                by_cases h2a : 0 ≤ z
                · by_cases h2b : z ≤ 65536
                  · by_cases h3 : f.mark.size = 32
                    · have hr := Lib.hid (hst (fo h1 ⟨h2a, h2b⟩ h3))
                      have h4 : ((f.mark.size : Int) == 32) = true := by rw [h3]; rfl
                      have h5 : ((f.mark.size : Int) != 32) = false := by rw [h3]; rfl
                      clear hst hsp fm fs fk fo h1 h3
                      go_wp2
                      go_round
                      case rel => exact ⟨k + 1, by omega, by go_num, hr⟩
                      case measure => simp [intOf] <;> omega
                    · have hr := hsp (by rw [fk h1 ⟨h2a, h2b⟩ h3]; decide)
                      rw [fk h1 ⟨h2a, h2b⟩ h3] at hr
                      have hr := Lib.hid hr
                      have h4 : ((f.mark.size : Int) == 32) = false := by rw [beq_eq_false_iff_ne]; omega
                      have h5 : ((f.mark.size : Int) != 32) = true := by rw [bne_iff_ne]; omega
                      clear hst hsp fm fs fk fo h1 h3
                      go_wp2
                      go_ret
                      exact ⟨by rw [← hr.out]; rfl, hB1⟩
                  · have hr := hsp (by rw [fs h1 (fun h => h2b h.2)]; decide)
                    rw [fs h1 (fun h => h2b h.2)] at hr
                    have hr := Lib.hid hr
                    clear hst hsp fm fs fk fo h1
                    go_wp2
                    go_ret
                    exact ⟨by rw [← hr.out]; rfl, hB1⟩
                · have hr := hsp (by rw [fs h1 (fun h => h2a h.1)]; decide)
                  rw [fs h1 (fun h => h2a h.1)] at hr
                  have hr := Lib.hid hr
                  clear hst hsp fm fs fk fo h1
                  go_wp2
                  go_ret
                  exact ⟨by rw [← hr.out]; rfl, hB1⟩
              · have hr := hsp (by rw [fm (fun h => h1b h.2)]; decide)
                rw [fm (fun h => h1b h.2)] at hr
                have hr := Lib.hid hr
                clear hst hsp fm fs fk fo
                go_wp2
                go_ret
                exact ⟨by rw [← hr.out]; rfl, hB1⟩
            · have hr := hsp (by rw [fm (fun h => h1a h.1)]; decide)
              rw [fm (fun h => h1a h.1)] at hr
              have hr := Lib.hid hr
              clear hst hsp fm fs fk fo
              go_wp2
              go_ret
              exact ⟨by rw [← hr.out]; rfl, hB1⟩
          · have hr := H.out
            rw [items_end (by omega)] at hr
            have hr := Lib.hid hr
            clear H
            go_wp2
            go_ret
            exact ⟨by rw [← hr.out]; rfl, hB1⟩
      · have hE' : (E == 0) = false := by rw [beq_eq_false_iff_ne]; exact hE
        go_wp2_with (go_at_call 50; with_reducible refine HPC.out.mono ?_; rintro e w1 ⟨rfl, hb1⟩)
        go_ret
        exact ⟨rfl, below_on hB hb1⟩
theorem right_ref (A : Option Addr) (c : Nat) (l : List ItemD) (w : World) (hz : l.length ≤ 8796093022208) (hx : ∀ f ∈ l, IOk f)
    (hc : Arr w w.heap.size 4 A l.length (icells l)) :
    Calls Tryd.prog 35 #[.slice A l.length c] w fun e w' => e = .returned (.int .i64 (rightE l)) ∧ Below w.heap.size w w' := by
  by_cases h0 : 0 < l.length
  · obtain ⟨b, o, rfl, hb, hcell⟩ := hc.2 h0
    exact right_ref_in b o c l w h0 hz hx hb hcell
  · have : l = [] := List.eq_nil_of_length_eq_zero (by omega)
    subst this
    rw [show rightE [] = 0 from rfl]
    show Calls _ _ #[.slice A 0 c] _ _
    have HP : Hid (∀ W, Calls Tryd.prog 50 #[.slice none 0 0] W fun e w' => e = .returned (.int .i64 0) ∧ Below W.heap.size W w') :=
      Lib.hid fun W => together_any none 0 [] W (by simp) (by simp) (Arr.nil _ _ _ _)
    go_enter Tryd.func35, Tryd.ntmps35
    go_wp2
    go_loop [3, 4] (fun v3 v => v3 = .slice none 0 0 ∧ v = .int .i64 0) (fun _ v => 0)
    case atStart => exact ⟨rfl, rfl⟩
    case round =>
      obtain ⟨rfl, rfl⟩ := hrel
      go_wp2_with (go_at_call 50; with_reducible refine (HP.out _).mono ?_; rintro e w1 ⟨rfl, hb1⟩)
      go_loop [6] (fun v => v = .int .i64 0) (fun v => 0)
      case atStart => exact rfl
      case round =>
        obtain rfl := hrel
        go_wp2
        go_ret
        exact ⟨rfl, hb1⟩
end Go.Proofs.YtjhbmcgaehpadaaDoor
