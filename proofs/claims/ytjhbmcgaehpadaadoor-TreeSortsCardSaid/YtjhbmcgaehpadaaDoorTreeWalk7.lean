/- The walk through Check, and awake. -/
import Derived.Test.YtjhbmcgaehpadaaDoorTreeWalk6
import Derived.Lib.AppendStr
namespace Go.Proofs.YtjhbmcgaehpadaaDoor
open Go.RowKit
set_option linter.unusedVariables false

theorem infoStr' : (Tryd.prog.info? 9).map (fun i => (i.zero, i.size, i.bytes)) = some (some (.string ByteArray.empty), 1, 16) := infoStr
theorem str_one (s : ByteArray) : ∀ u ∈ (#[Value.string s] : Array Value).toList, u.oneCell' = true := by simp [Value.oneCell']
def fpaths (l : List FileD) : List ByteArray := l.map (·.path)
theorem fpaths_lists (l : List FileD) : lists (fpaths l) = l.map (·.path.data.toList) := by unfold lists fpaths; rw [List.map_map]; rfl
theorem fpaths_take {l : List FileD} {k : Nat} {f : FileD} (h : l[k]? = some f) : (fpaths (l.take (k + 1))).map Value.string = (fpaths (l.take k)).map Value.string ++ [.string f.path] := by
  rw [take_snoc h]
  unfold fpaths
  simp
theorem fpaths_len (l : List FileD) : (fpaths l).length = l.length := by unfold fpaths; simp
theorem fileE_mode {f : FileD} (h : ¬ (0 ≤ f.mode ∧ f.mode ≤ 511)) : fileE f = 11 := if_neg h
theorem fileE_long {f : FileD} (h : 0 ≤ f.mode ∧ f.mode ≤ 511) (h2 : 65536 < f.data.size) : fileE f = 4 := by unfold fileE; rw [if_pos h, if_pos h2]
theorem fileE_ok {f : FileD} (h : 0 ≤ f.mode ∧ f.mode ≤ 511) (h2 : ¬ 65536 < f.data.size) : fileE f = 0 := by unfold fileE; rw [if_pos h, if_neg h2]
/-- The cells of a file that lies in a slice. -/
theorem file_cells {w : World} {b o k : Nat} {l : List FileD} {f : FileD} (hc : ∀ i u, (fcells l)[i]? = some u → w.cell? ⟨b, o + i, none⟩ = some u) (h : l[k]? = some f) :
    w.cell? ⟨b, o + k * 3, none⟩ = some (.string f.path) ∧ w.cell? ⟨b, o + k * 3 + 1, none⟩ = some (.int .i64 f.mode) ∧ w.cell? ⟨b, o + k * 3 + 2, none⟩ = some (.string f.data) := by
  obtain ⟨h0, h1, h2⟩ := fcell_at h
  exact ⟨hc _ _ h0, by rw [Nat.add_assoc]; exact hc _ _ h1, by rw [Nat.add_assoc]; exact hc _ _ h2⟩

set_option maxHeartbeats 1000000 in
set_option maxRecDepth 100000 in
theorem check_in (b o c : Nat) (l : List FileD) (w : World) (hn : 0 < l.length) (hz : l.length ≤ 8796093022208) (hx : ∀ f ∈ l, f.path.size ≤ 9223372036854775807 ∧ f.data.size ≤ 9223372036854775807) (hb : b < w.heap.size)
    (hc : ∀ i u, (fcells l)[i]? = some u → w.cell? ⟨b, o + i, none⟩ = some u) (hm : Ml w) :
    Calls Tryd.prog 19 #[.slice (some ⟨b, o, none⟩) l.length c] w fun e w' => e = .returned (.int .i64 (checkE l)) ∧ Below w.heap.size w w' := by
  have hx := Lib.hid hx
  have hc := Lib.hid hc
  obtain ⟨i0, hi0, hz0, hz1, hz2⟩ := info_parts infoStr
  have hp := fun A c W h1 h2 h3 => paths_any A c (fpaths l) W h1 h2 h3
  rw [fpaths_len] at hp
  rw [show checkE l = if pathsE (lists (fpaths l)) = 0 then filesE l else pathsE (lists (fpaths l)) by rw [fpaths_lists]; rfl]
  generalize pathsE (lists (fpaths l)) = E at *
  have HP := Lib.hid hp
  clear hp
  generalize hR : filesE l = R
  have HR : Hid (filesE (l.drop 0) = R) := Lib.hid hR
  clear hR
  go_enter Tryd.func19, Tryd.ntmps19
  go_wp2
  go_loopw [3, 11] (fun v3 v wr => ∃ (k : Nat), k ≤ l.length ∧ v = .int .i64 k ∧ wr.ownsRow w.heap.size 9 1 v3 k ((fpaths (l.take k)).map Value.string) ∧ Below w.heap.size w wr) (fun _ v _ => l.length - (intOf v).toNat)
  case atStart => exact ⟨0, Nat.zero_le _, rfl, World.ownsRow_nil _ _ _ _, Below.refl _ _⟩
  case round =>
    obtain ⟨k, hk, rfl, hown, hB⟩ := hrel
    have hbse := hB.size
    by_cases hlt : k < l.length
    · obtain ⟨f, hf⟩ : ∃ f, l[k]? = some f := ⟨_, List.getElem?_eq_getElem hlt⟩
      obtain ⟨c0, c1, c2⟩ := file_cells (fun i u h => (hB.cell (p := ⟨b, o + i, none⟩) hb).trans (hc.out i u h)) hf
      have HT := Lib.hid (fpaths_take hf)
      clear hf
      have hown' := hown.alloc (.cells #[.string f.path, .int .i64 f.mode, .string f.data] 58)
      have hB' := hB.alloc hbse (.cells #[.string f.path, .int .i64 f.mode, .string f.data] 58)
      go_wp2_with (at_builtin; refine wpList_push rfl _ _ _ rfl Tryd.underlying33 hi0 hz0 hz1 hz2 rfl (by decide) hown' rfl (by rw [World.size_alloc]; rfl) rfl (str_one f.path) (by unfold maxLen; omega) (by omega) (by simp; omega) ?_; intro g2 cap2 w1 hown1 hgr1 hat1)
      have hB3 := hB'.grown hgr1 hB'.size (fun j hj => (hown'.lt j hj).1)
      go_roundw
      case rel => exact ⟨k + 1, by omega, by go_num, by rw [HT.out]; exact hown1, hB3⟩
      case measure => simp [intOf] <;> omega
    · have he : l.take k = l := List.take_of_length_le (by omega)
      rw [he] at hown
      obtain ⟨A', c', rfl, hcap, ha, hfr⟩ := own_arr hown
      have hke : k = l.length := by omega
      subst hke
      have hmr := hm.on hB
      have hpc := HP.out A' c' wr (fun x hx2 => by
        unfold fpaths at hx2
        obtain ⟨f, hf, rfl⟩ := List.mem_map.1 hx2
        exact (hx.out f hf).1) (by omega) ha hmr
      have HPC := Lib.hid hpc
      clear hpc ha hfr he hown
      by_cases hE : E = 0
      · subst hE
        go_wp2_with (go_at_call 48; with_reducible refine HPC.out.mono ?_; rintro e w1 ⟨rfl, hb1⟩)
        have hB1 := below_on hB hb1
        clear HPC
        go_loopw [28] (fun v wr => ∃ (k : Nat), k ≤ l.length ∧ v = .int .i64 k ∧ Hid (filesE (l.drop k) = R) ∧ Below w.heap.size w wr) (fun v _ => l.length - (intOf v).toNat)
        case atStart => exact ⟨0, Nat.zero_le _, rfl, HR, hB1⟩
        case round =>
          obtain ⟨k, hk, rfl, H, hB2⟩ := hrel
          by_cases hlt : k < l.length
          · obtain ⟨f, hf⟩ : ∃ f, l[k]? = some f := ⟨_, List.getElem?_eq_getElem hlt⟩
            obtain ⟨c0, c1, c2⟩ := file_cells (fun i u h => (hB2.cell (p := ⟨b, o + i, none⟩) hb).trans (hc.out i u h)) hf
            have hxf := hx.out f (List.mem_of_getElem? hf)
            have hst := fun h => (files_step hf h).symm.trans H.out
            have hsp := fun h => (files_stop hf h).symm.trans H.out
            have hwd := hB2.size
            have hbr : b < wr.heap.size := Nat.lt_of_lt_of_le hb hwd
            have HM := Lib.hid (fun W => mode_any f.mode W)
            have fm := fileE_mode (f := f)
            have fl := fileE_long (f := f)
            have fo := fileE_ok (f := f)
            have hB3 := hB2.alloc hwd (.cells #[.string f.path, .int .i64 f.mode, .string f.data] 58)
            generalize f.mode = m at *
            by_cases h1 : 0 ≤ m ∧ m ≤ 511
            · have hm1 : (decide (0 ≤ m) && decide (m ≤ 511)) = true := by simpa using h1
              rw [hm1] at HM
              by_cases h2 : 65536 < f.data.size
              · have hr := hsp (by rw [fl h1 h2]; decide)
                rw [fl h1 h2] at hr
                have hr := Lib.hid hr
                have h3 : (65536 : Int) < f.data.size := by omega
                clear hst hsp fm fl fo H hm1 h1 h2
                go_wp2_with (go_at_call 49; with_reducible refine (HM.out _).mono ?_; rintro e w2 ⟨rfl, rfl⟩)
                go_ret
                exact ⟨by rw [← hr.out]; rfl, hB3⟩
              · have hr := Lib.hid (hst (fo h1 h2))
                have h3 : ¬ (65536 : Int) < f.data.size := by omega
                clear hst hsp fm fl fo H hm1 h1 h2
                go_wp2_with (go_at_call 49; with_reducible refine (HM.out _).mono ?_; rintro e w2 ⟨rfl, rfl⟩)
                go_roundw
                case rel => exact ⟨k + 1, by omega, by go_num, hr, hB3⟩
                case measure => simp [intOf] <;> omega
            · have hm1 : (decide (0 ≤ m) && decide (m ≤ 511)) = false := by rw [Bool.eq_false_iff]; intro h; exact h1 (by simpa using h)
              rw [hm1] at HM
              have hr := hsp (by rw [fm h1]; decide)
              rw [fm h1] at hr
              have hr := Lib.hid hr
              clear hst hsp fm fl fo H hm1 h1
              go_wp2_with (go_at_call 49; with_reducible refine (HM.out _).mono ?_; rintro e w2 ⟨rfl, rfl⟩)
              go_ret
              exact ⟨by rw [← hr.out]; rfl, hB3⟩
          · have hr := H.out
            rw [files_end (by omega)] at hr
            have hr := Lib.hid hr
            clear H
            go_wp2
            go_ret
            exact ⟨by rw [← hr.out]; rfl, hB2⟩
      · have hE' : (E == 0) = false := by rw [beq_eq_false_iff_ne]; exact hE
        go_wp2_with (go_at_call 48; with_reducible refine HPC.out.mono ?_; rintro e w1 ⟨rfl, hb1⟩)
        go_ret
        exact ⟨rfl, below_on hB hb1⟩
end Go.Proofs.YtjhbmcgaehpadaaDoor
