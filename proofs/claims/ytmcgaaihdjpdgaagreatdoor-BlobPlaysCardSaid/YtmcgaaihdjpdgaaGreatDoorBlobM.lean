/- Chapter 11: Load upon the state. -/
import Derived.Test.YtmcgaaihdjpdgaaGreatDoorBlF
namespace Go.Proofs.YtmcgaaihdjpdgaaGreatDoor
open Go.RowKit
set_option linter.unusedVariables false

/-- All that a root needs is kept. -/
def HasAll (l : List KpD) (L : List ByteArray) : Prop := ∀ t ∈ L, 0 < cntT l t
/-- What Load answers. -/
def LoadOut (w : World) (l : List KpD) (r : RtD) (e : Ending) (w' : World) : Prop :=
  (HasAll l r.need ∧ ∃ V, e = .returned (.tuple #[V, .int .i64 0]) ∧ w'.ownsRow w.heap.size 64 3 V r.fl.length (fcells r.fl) ∧ Below w.heap.size w w') ∨
  (¬ HasAll l r.need ∧ e = .returned (.tuple #[.slice none 0 0, .int .i64 8]) ∧ Below w.heap.size w w')
set_option maxHeartbeats 4000000 in
set_option maxRecDepth 100000 in
theorem load_S {b kb m n : Nat} {D : DataW Unit} {S : Nat → Prop} {l : List KpD} {R : List ByteArray} (r : RtD) (w : World) (h : BS w b kb m n D S l R) (hn : n ≤ 65000) (hr : RtGood D r) (hm : Ml w) :
    Calls Tryz.prog 34 #[.pointer (some ⟨b, 0, none⟩), .string r.q] w (LoadOut w l r) := by
  obtain ⟨i2, fi0, fz0, fz1, fz2⟩ := info_parts infoFile
  have H0 := Lib.hid h
  have HK := Lib.hid h.ok
  have HG := Lib.hid h.good
  have HMN := Lib.hid (manifest_S r.man r.q w h hn hr.1 hm)
  unfold RtD.man at HMN
  rw [man_back hr.2.1] at HMN
  have hfit := hr.2.2
  have h256 := (rightE_zero hr.2.1).1
  have HGD := Lib.hid (good_of hr.2.1)
  have hman : r.man = bytesS r.acc := rfl
  clear h
  by_cases hc : 0 < cntT l (bytesS r.acc)
  · have HMN2 := Lib.hid (HMN.out.mono (fun e w' h => (show ItemsOut w r.acc 0 e w' by unfold ManOut at h; rw [if_pos hc] at h; exact h)))
    have HC := Lib.hid hc
    have HFIT := Lib.hid hfit
    have hal := hfit.1
    obtain ⟨q, fl, acc⟩ := r
    simp only at HMN2 HFIT hal h256 HGD hman HC ⊢
    have HMAN := Lib.hid hman
    clear HMN hc hfit hr hman
    go_enter Tryz.func34, Tryz.ntmps34
    go_wp2_with (first
      | (go_at_call 19; (with_reducible refine (HMN2.out).mono ?_); rintro e w3 ⟨A3, c3, rfl, ha3, hf3, hc3, hb3⟩; have HA3 := Lib.hid ha3; clear ha3 hf3)
      | fail)
    go_loopw [8, 24] (fun vo vi wr => ∃ (k : Nat), k ≤ acc.length ∧ vi = .int .i64 k ∧ wr.ownsRow w3.heap.size 64 3 vo k (fcells (fl.take k)) ∧ Hid (∀ f ∈ fl.take k, 0 < cntT l f.data) ∧ Below w3.heap.size w3 wr) (fun _ vi _ => acc.length - (intOf vi).toNat)
    case atStart => exact ⟨0, Nat.zero_le _, rfl, World.ownsRow_nil _ _ _ _, Lib.hid (by simp), Below.refl _ _⟩
    case round =>
      obtain ⟨k, hk, rfl, hown, HALL, hB⟩ := hrel
      have hBs := hB.size
      have hBW := below_on hb3 hB
      by_cases hlt : k < acc.length
      · obtain ⟨x, hx⟩ : ∃ x, acc[k]? = some x := ⟨_, List.getElem?_eq_getElem hlt⟩
        obtain ⟨f, hf, hxf, hxs, hmk⟩ := fits_at HFIT.out hx
        obtain ⟨bI, oI, rfl, hbI, hcellI⟩ := HA3.out.2 (by omega)
        obtain ⟨c0, c1, c2, c3'⟩ := item_cells (fun i u h => (hB.cell (p := ⟨bI, oI + i, none⟩) hbI).trans (hcellI i u h)) hx
        have k1 : (k : Int) < acc.length := by omega
        have hbox := Blk.new wr 58 #[.string x.path, .int .i64 x.mode, .int .i64 x.size, .string x.mark]
        obtain ⟨y0, y1, y2, y3⟩ := ibox4 hbox
        have hBA := hB.alloc hB.size (.cells #[.string x.path, .int .i64 x.mode, .int .i64 x.size, .string x.mark] 58)
        have hBAW := hBW.alloc hBW.size (.cells #[.string x.path, .int .i64 x.mode, .int .i64 x.size, .string x.mark] 58)
        have HGT := Lib.hid (get_S x.mark _ (H0.out.below hBAW) hn)
        rw [get_T HK.out HG.out hmk] at HGT
        have hp1 : x.path = f.path := by rw [hxf]; rfl
        have hp2 : x.mode = f.mode := by rw [hxf]; rfl
        have hp3 : x.size = f.data.size := by rw [hxf]; rfl
        have hst := take_snoc hf
        have hbox2 := Lib.hid hbox
        by_cases hcf : 0 < cntT l f.data
        · rw [if_pos hcf] at HGT
          have HALL2 : Hid (∀ g ∈ fl.take (k + 1), 0 < cntT l g.data) := Lib.hid (by
            rw [hst]
            intro g hg
            rcases List.mem_append.1 hg with hg | hg
            · exact HALL.out g hg
            · obtain rfl : g = f := by simpa using hg
              exact hcf)
          have HST := Lib.hid hst
          obtain ⟨P, M, Z, Q⟩ := x
          simp only at *
          subst hp1 hp2 hp3
          have HOW := Lib.hid hown
          clear hx hf hxf hmk hcellI hbox hst hcf hown
          go_wp2_with (first
            | (go_at_call 30; (with_reducible refine (HGT.out).mono ?_); rintro e w5 ⟨rfl, hb5⟩; obtain ⟨y0, y1, y2, y3⟩ := ibox4 (Blk.below hbox2.out hb5 hbox2.out.lt); have hB5 := hBA.trans (hb5.mono hBA.size); have hown5 := own_below (own_below HOW.out ((Below.refl _ wr).alloc (Nat.le_refl _) _)) hb5; have hs5 := hB5.size)
            | (at_builtin; refine wpList_push rfl _ _ _ rfl Tryz.underlying26 fi0 fz0 fz1 fz2 file_zero (by decide) hown5 rfl rfl rfl (file_one f) (by unfold maxLen; omega) (by omega) hs5 ?_; intro g6 cap6 w6 hown6 hgr6 hat6; have hB6 := hB5.grown hgr6 hs5 (fun j hj => (hown5.lt j hj).1))
            | fail)
          go_roundw
          case rel => exact ⟨k + 1, by omega, by go_num, by rw [HST.out, fcells_snoc]; exact hown6, HALL2, hB6⟩
          case measure => simp [intOf] <;> omega
        · rw [if_neg hcf] at HGT
          have HNO : Hid (¬ HasAll l (RtD.need ⟨q, fl, acc⟩)) := Lib.hid (fun h => hcf (h f.data (List.mem_append.2 (.inl (List.mem_map.2 ⟨f, List.mem_of_getElem? hf, rfl⟩)))))
          clear hx hf hxf hmk hcellI hbox hst hcf hp1 hp2 hp3
          go_wp2_with (first
            | (go_at_call 30; (with_reducible refine (HGT.out).mono ?_); rintro e w5 ⟨rfl, hb5⟩)
            | fail)
          go_ret2
          exact .inr ⟨HNO.out, rfl, hBAW.trans (hb5.mono hBAW.size)⟩
      · have hke : k = acc.length := by omega
        subst hke
        have hal2 := HALL.out
        rw [hal, List.take_length] at hal2
        rw [hal, List.take_length] at hown
        have HY : Hid (HasAll l (RtD.need ⟨q, fl, acc⟩)) := Lib.hid (by
          intro t ht
          rcases List.mem_append.1 ht with ht | ht
          · obtain ⟨f, hf, rfl⟩ := List.mem_map.1 ht
            exact hal2 f hf
          · obtain rfl : t = bytesS acc := (List.mem_singleton.1 ht)
            exact HC.out)
        have HOW := Lib.hid hown
        clear HALL hal2 hown
        go_wp2
        go_ret2
        exact .inl ⟨HY.out, _, rfl, own_mono HOW.out hb3.size, hBW⟩
  · have HMN2 := Lib.hid (HMN.out.mono (fun e w' h => (show e = .returned (.tuple #[.slice none 0 0, .int .i64 8]) ∧ Below w.heap.size w w' by unfold ManOut at h; rw [if_neg hc] at h; exact h)))
    have HNO : Hid (¬ HasAll l r.need) := Lib.hid (fun h => hc (h r.man (List.mem_append.2 (.inr (by simp)))))
    clear HMN hc hfit hr
    go_enter Tryz.func34, Tryz.ntmps34
    go_wp2_with (first
      | (go_at_call 19; (with_reducible refine (HMN2.out).mono ?_); rintro e w3 ⟨rfl, hb3⟩)
      | fail)
    go_ret2
    exact .inr ⟨HNO.out, rfl, hb3⟩
end Go.Proofs.YtmcgaaihdjpdgaaGreatDoor
