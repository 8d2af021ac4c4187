/- The walk of the law CodeReads at a text that is cut. -/
import Derived.Test.YtgcghcmmcljiiaaReadsPre
import Derived.Test.YtgcghcmmcljiiaaSignWalk
set_option linter.unusedVariables false
namespace Go.Proofs.Ytgcghcmmcljiiaa
open Go.RowKit

set_option maxHeartbeats 8000000 in
set_option maxRecDepth 100000 in
theorem law_reads2 (u s : ByteArray) (A : Option Addr) (c : Nat) (l : List (Int × Int × Int)) (w : World) (hs : s.size ≤ 4000) (hns : 4000 < u.size) (hcut : u.extract 0 4000 = s) (hl : l.length * 24 ≤ 140737488351232) (hlb : ∀ x ∈ l, -9223372036854775808 ≤ x.2.1 ∧ x.2.1 ≤ 9223372036854775807) (harr : Arr w w.heap.size 3 A l.length (opCells l)) :
    Calls Try.prog 7 #[.string u, .slice A l.length c] w fun e w' => e = .returned (.bool true) ∧ Below w.heap.size w w' := by
  go_enter Try.func7, Try.ntmps7
  go_wp2_with (go_at_call 17; refine (read_any _ _).mono ?_; rintro e w3 ⟨rfl, hr3, hb3⟩)
  have hs1 := hb3.size
  have hr4 : Rdr (w3.alloc (.cells #[.string s, .int .i64 0, .int .i64 0] 39)) w.heap.size ⟨s, 0, 0⟩ := Blk.alloc hr3 _
  have hq4 : Qdr (w3.alloc (.cells #[.string s, .int .i64 0, .int .i64 0] 39)) w3.heap.size ⟨s, 0, 0⟩ := Blk.new w3 _ _
  have hb4 : Below w.heap.size w (w3.alloc (.cells #[.string s, .int .i64 0, .int .i64 0] 39)) := hb3.alloc hs1 _
  generalize hB : w3.heap.size = B at hs1 hq4
  go_loopw [7] (fun v7 wr => ∃ (k : Nat) (st : Rd), k ≤ l.length ∧ v7 = .int .i64 k ∧ Rdr wr w.heap.size st ∧ Qdr wr B st ∧ st.ok ∧ Hid (st.s = s) ∧ Below w.heap.size w wr) (fun v7 _ => l.length - (intOf v7).toNat)
  case atStart => exact ⟨0, ⟨s, 0, 0⟩, Nat.zero_le _, rfl, hr4, hq4, ⟨Nat.zero_le _, by show s.size ≤ _; omega⟩, rfl, hb4⟩
  case round =>
    obtain ⟨k, st, hk, rfl, hr, hq, hok, HS, hb⟩ := hrel
    clear hr4 hq4 hb4 hr3 hb3 hB
    by_cases hlt : k < l.length ∧ k < 60
    · obtain ⟨hlt, h60⟩ := hlt
      obtain ⟨⟨ok, on, om⟩, hx⟩ : ∃ x, l[k]? = some x := ⟨_, List.getElem?_eq_getElem hlt⟩
      obtain ⟨ab, ao, rfl, hab, hcell⟩ := harr.2 (by omega)
      have hxb := hlb _ (List.mem_of_getElem? hx)
      obtain ⟨o1, o2, o3⟩ := opCells_at hx
      have e1 := (hb.cell (p := ⟨ab, ao + k * 3, none⟩) hab).trans (hcell _ _ o1)
      have e2 := (hb.cell (p := ⟨ab, ao + (k * 3 + 1), none⟩) hab).trans (hcell _ _ o2)
      have e3 := (hb.cell (p := ⟨ab, ao + (k * 3 + 2), none⟩) hab).trans (hcell _ _ o3)
      rw [← Nat.add_assoc] at e2 e3
      have hss : st.s.size ≤ 1099511627776 := by rw [HS.out]; omega
      have hsp := fun W h1 h2 => step_any w.heap.size B st st ok on om W h1 h2 hok hok (.inl hss) hss (.inl rfl) hxb.1 hxb.2
      have hok2 : (rdStep st ok on om).ok := rdStep_ok hok
      have hs2 : Hid ((rdStep st ok on om).s = s) := by rw [Hid, rdStep_s, HS.out]
      generalize rdStep st ok on om = st2 at hsp hok2 hs2
      obtain ⟨s2, at2, er2⟩ := st2
      obtain rfl : s2 = s := hs2
      have HSP := Lib.hid hsp
      have hat2 : at2 ≤ s2.size := hok2.1
      have hw : IntKind.i64.wrap ((s2.size : Int) - (at2 : Int)) = (s2.size : Int) - (at2 : Int) := IntWalk.i64_in _ (by omega)
      have hw2 : (((s2.size : Int) - (at2 : Int)) != ((s2.size : Int) - (at2 : Int))) = false := by simp
      have hw3 : (er2 != er2) = false := by simp
      clear hsp hx o1 o2 o3 hcell harr hxb
      have hwh : w.heap.size ≤ wr.heap.size := hb.size
      go_wp2
      go_region_with (first | (go_at_call 29; refine (HSP.out _ (Rdr.drew hr) (Qdr.drew hq)).mono ?_; rintro e w5 ⟨rfl, h5, q5, g5⟩; have c1 := q5.c1; have c2 := q5.c2) | (go_at_call 23; refine (left_any _ _ _ h5 hok2).mono ?_; rintro e w6 ⟨rfl, n6, rfl⟩) | (go_at_call 24; refine (err_any _ _ _ (Rdr.drewN h5 _)).mono ?_; rintro e w7 ⟨rfl, rfl⟩))
      all_goals
        have hb5 : Below w.heap.size w w5 := Below.trans (b := wr.drew) ⟨hb.os, hb.tape, hb.output, hb.size, hb.block⟩ (Fr.below g5 hwh (fun k hk => by rcases hk with rfl | rfl <;> omega))
        go_wp2
        go_roundw
        case rel => exact ⟨k + 1, ⟨s2, at2, er2⟩, by omega, by go_num, h5, q5, hok2, rfl, ⟨hb5.os, hb5.tape, hb5.output, hb5.size, hb5.block⟩⟩
        case measure => simp [intOf]; omega
    · have hg : (decide (k < l.length ∧ k < 60)) = false := by simpa using hlt
      by_cases h1 : k < l.length
      · have h2 : ¬ k < 60 := fun h => hlt ⟨h1, h⟩
        go_wp2_with (go_at_call 14; refine (awake_any _).mono ?_; rintro e w7 ⟨rfl, hb7⟩)
        go_ret
        exact ⟨rfl, below_next hb (Nat.le_refl _) hb7⟩
      · go_wp2_with (go_at_call 14; refine (awake_any _).mono ?_; rintro e w7 ⟨rfl, hb7⟩)
        go_ret
        exact ⟨rfl, below_next hb (Nat.le_refl _) hb7⟩
end Go.Proofs.Ytgcghcmmcljiiaa
