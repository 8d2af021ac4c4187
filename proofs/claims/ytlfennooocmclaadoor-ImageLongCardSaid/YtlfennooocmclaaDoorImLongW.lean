/- The walk through ImageLong. -/
import Derived.Test.YtlfennooocmclaaDoorImLong1
import Derived.Test.YtlfennooocmclaaDoorImOfsW
import Derived.Test.YtlfennooocmclaaDoorSortB
import Derived.Deep.RegionLaw
import Derived.Deep.AppendLies
import Derived.BigRegion
namespace Go.Proofs.YtlfennooocmclaaDoor
open Go.RowKit
set_option linter.unusedVariables false

theorem blk_new' {w : World} {g : Nat} (h : g = w.heap.size) (t : TypeId) (cs : Array Value) : Blk (w.alloc (.cells cs t)) g t cs := by
  subst h; exact Blk.new _ _ _
def bF (b : UInt8) (d : ByteArray) : FileD := ⟨⟨#[b]⟩, 0, d⟩
theorem file_one' (b : UInt8) (d : ByteArray) : ∀ u ∈ fcell (bF b d), u.oneCell' = true := by
  intro u hu
  simp [fcell] at hu
  rcases hu with rfl | rfl | rfl <;> rfl
theorem file_news {W : World} {g : Nat} {t : TypeId} {b : UInt8} {d : ByteArray} (h : Blk W g t #[.string ⟨#[b]⟩, .int .i64 0, .string d]) {j : Nat} {u : Value} (hj : (fcell (bF b d))[j]? = some u) : W.cell? ((⟨g, 0, none⟩ : Addr).add j) = some u := by
  rw [show ((⟨g, 0, none⟩ : Addr).add j) = ⟨g, j, none⟩ by unfold Addr.add; simp; intro h; exact h.symm]
  rw [h.cell j, ← hj, ← Array.getElem?_toList]
  rfl
theorem gL_get (d : ByteArray) : ∀ k, k < 8 → (gL d d)[k]? = some (gF k d)
  | 0, _ => rfl
  | 1, _ => rfl
  | 2, _ => rfl
  | 3, _ => rfl
  | 4, _ => rfl
  | 5, _ => rfl
  | 6, _ => rfl
  | 7, _ => rfl
  | k + 8, h => absurd h (by omega)
theorem gL_take (d : ByteArray) {k : Nat} (h : k < 8) : (gL d d).take (k + 1) = (gL d d).take k ++ [gF k d] := by
  rw [List.take_add_one, gL_get d k h]; rfl
theorem gL_ok {d e : ByteArray} (hd : d.size ≤ 9223372036854775807) (he : e.size ≤ 9223372036854775807) : ∀ f ∈ gL d e, FOk f := by
  intro f hf
  unfold gL at hf
  have key : ∀ k (x : ByteArray), x.size ≤ 9223372036854775807 → FOk (gF k x) := fun k x hx => ⟨by show 1 ≤ _; omega, hx⟩
  simp only [List.mem_cons, List.not_mem_nil, or_false] at hf
  rcases hf with rfl | rfl | rfl | rfl | rfl | rfl | rfl | rfl
  all_goals (first | exact key _ _ hd | exact key _ _ he)
def LgR (w : World) (d : ByteArray) (vl v : Value) (wr : World) : Prop := ∃ k : Nat, k ≤ 8 ∧ v = .int .i64 k ∧ Hid (wr.ownsRow w.heap.size 33 3 vl k (fcells ((gL d d).take k))) ∧ Hid (Below w.heap.size w wr)
set_option maxHeartbeats 4000000 in
set_option maxRecDepth 100000 in
theorem law_long (n : Int) (w : World) (h0 : -9223372036854775808 ≤ n) (h1 : n ≤ 9223372036854775807) (hm : Ml w) :
    Calls Tryd.prog 4 #[.int .i64 n] w fun e w' => e = .returned (.bool true) ∧ Below w.heap.size w w' := by
  have HA := Lib.hid awakeI_any
  obtain ⟨i2, fi0, fz0, fz1, fz2⟩ := info_parts infoFile
  by_cases hbad : n < 0 ∨ 100 < n
  · have hB : Below w.heap.size w w := Below.refl _ _
    by_cases hn : n < 0
    · clear hbad
      go_enter Tryd.func4, Tryd.ntmps4
      go_wp2_with (go_at_call 15; (with_reducible refine (HA.out _ (hm.on hB)).mono ?_); rintro e w5 ⟨rfl, hb5⟩; have hB := below_on hB hb5)
      go_ret
      exact ⟨rfl, hB⟩
    · have hn2 : 100 < n := by omega
      clear hbad
      go_enter Tryd.func4, Tryd.ntmps4
      go_wp2_with (go_at_call 15; (with_reducible refine (HA.out _ (hm.on hB)).mono ?_); rintro e w5 ⟨rfl, hb5⟩; have hB := below_on hB hb5)
      go_ret
      exact ⟨rfl, hB⟩
  · have hn1 : ¬ n < 0 := by omega
    have hn2 : ¬ 100 < n := by omega
    obtain ⟨s, rfl⟩ : ∃ s : Nat, n = s := ⟨n.toNat, by omega⟩
    obtain ⟨d, hd⟩ : ∃ d, d = zs 65536 := ⟨_, rfl⟩
    have HD := Lib.hid hd
    have mk := fun W => made_bytes 65536 (by omega) W
    rw [show ((65536 : Nat) : Int) = 65536 from rfl] at mk
    obtain ⟨Z, hZ⟩ : ∃ Z, Z = zb 65536 := ⟨_, rfl⟩
    rw [← hZ] at mk
    have HZ := Lib.hid hZ
    clear hbad hd hZ
    go_enter Tryd.func4, Tryd.ntmps4
    go_wp2
    go_loopw [3, 4] (fun vl v wr => LgR w d vl v wr) (fun _ v _ => 8 - (intOf v).toNat)
    case atStart => unfold LgR; exact ⟨0, Nat.zero_le _, rfl, Lib.hid (World.ownsRow_nil _ _ _ _), Lib.hid (Below.refl _ _)⟩
    case round =>
      unfold LgR at hrel
      obtain ⟨k, hk, rfl, HO, HB⟩ := hrel
      by_cases hlt : k < 8
      · have kl : (k : Int) < 8 := by omega
        obtain ⟨b, hb⟩ : ∃ b, b = UInt8.ofNat (97 + k) := ⟨_, rfl⟩
        have hbn : (b.toNat : Int) = 97 + k := by rw [hb]; simp; omega
        have hw64 : IntKind.i64.wrap (97 + (k : Int)) = 97 + k := by rw [IntKind.wrap_i64]; omega
        have hw8 : IntKind.u8.wrap (97 + (k : Int)) = 97 + k := by show (97 + (k : Int)) % 256 = _; omega
        have b1 : Blk (wr.alloc (.cells #[.int .u8 (97 + (k : Int))] 5)) wr.heap.size 5 #[.int .u8 (97 + (k : Int))] := Blk.new _ _ _
        have b2 : Blk ((wr.alloc (.cells #[.int .u8 (97 + (k : Int))] 5)).alloc (.cells Z 5)) wr.heap.size 5 #[.int .u8 (97 + (k : Int))] := b1.alloc _
        have b3 : Blk ((wr.alloc (.cells Z 5)).alloc (.cells #[.int .u8 (97 + (k : Int))] 5)) (wr.heap.size + 1) 5 #[.int .u8 (97 + (k : Int))] := blk_new' (by simp) _ _
        have z1 : Blk (wr.alloc (.cells Z 5)) wr.heap.size 5 Z := Blk.new _ _ _
        have z2 : Blk ((wr.alloc (.cells #[.int .u8 (97 + (k : Int))] 5)).alloc (.cells Z 5)) (wr.heap.size + 1) 5 Z := blk_new' (by simp) _ _
        have z3 : Blk ((wr.alloc (.cells Z 5)).alloc (.cells #[.int .u8 (97 + (k : Int))] 5)) wr.heap.size 5 Z := z1.alloc _
        rw [← hbn] at b1 b2 b3
        rw [HZ.out] at z1 z2 z3
        have CB1 := conv_one b1.drew
        have CB2 := conv_one b2.drew
        have CB3 := conv_one b3.drew
        have CZ1 := conv_zs z1.drew
        have CZ2 := conv_zs z2.drew
        have CZ3 := conv_zs z3.drew
        rw [← HZ.out, ← HD.out] at CZ1 CZ2 CZ3
        rw [hbn] at CB1 CB2 CB3
        have B1 : Below w.heap.size w (((wr.alloc (.cells #[.int .u8 (97 + (k : Int))] 5)).alloc (.cells Z 5)).alloc (.cells #[.string ⟨#[b]⟩, .int .i64 0, .string d] 33)).drew := (((HB.out.alloc HB.out.size _).alloc (by simp; exact Nat.le_trans HB.out.size (by omega)) _).alloc (by simp; exact Nat.le_trans HB.out.size (by omega)) _).drew
        have B2 : Below w.heap.size w (((wr.alloc (.cells Z 5)).alloc (.cells #[.int .u8 (97 + (k : Int))] 5)).alloc (.cells #[.string ⟨#[b]⟩, .int .i64 0, .string d] 33)).drew := (((HB.out.alloc HB.out.size _).alloc (by simp; exact Nat.le_trans HB.out.size (by omega)) _).alloc (by simp; exact Nat.le_trans HB.out.size (by omega)) _).drew
        have O1 : (((wr.alloc (.cells #[.int .u8 (97 + (k : Int))] 5)).alloc (.cells Z 5)).alloc (.cells #[.string ⟨#[b]⟩, .int .i64 0, .string d] 33)).drew.ownsRow w.heap.size 33 3 _ k (fcells ((gL d d).take k)) := ((HO.out.alloc _).alloc _).alloc _
        have O2 : (((wr.alloc (.cells Z 5)).alloc (.cells #[.int .u8 (97 + (k : Int))] 5)).alloc (.cells #[.string ⟨#[b]⟩, .int .i64 0, .string d] 33)).drew.ownsRow w.heap.size 33 3 _ k (fcells ((gL d d).take k)) := ((HO.out.alloc _).alloc _).alloc _
        have hB1 := Lib.hid B1
        have hB2 := Lib.hid B2
        have hO1 := Lib.hid O1
        have hO2 := Lib.hid O2
        have f1 : Blk (((wr.alloc (.cells #[.int .u8 (97 + (k : Int))] 5)).alloc (.cells Z 5)).alloc (.cells #[.string ⟨#[b]⟩, .int .i64 0, .string d] 33)).drew (wr.heap.size + 1 + 1) 33 #[.string ⟨#[b]⟩, .int .i64 0, .string d] := (blk_new' (by simp) _ _).drew
        have f2 : Blk (((wr.alloc (.cells Z 5)).alloc (.cells #[.int .u8 (97 + (k : Int))] 5)).alloc (.cells #[.string ⟨#[b]⟩, .int .i64 0, .string d] 33)).drew (wr.heap.size + 1 + 1) 33 #[.string ⟨#[b]⟩, .int .i64 0, .string d] := (blk_new' (by simp) _ _).drew
        have N1 := Lib.hid (fun (j : Nat) (u : Value) (hj : (fcell (bF b d))[j]? = some u) => file_news f1 hj)
        have N2 := Lib.hid (fun (j : Nat) (u : Value) (hj : (fcell (bF b d))[j]? = some u) => file_news f2 hj)
        have HBB := Lib.hid hb
        clear B1 B2 O1 O2 f1 f2 b1 b2 b3 z1 z2 z3 hb hbn
        go_wp2
        go_region_law (first
          | (refine step_append_lies _ rfl (.tmp 23) (.tmp 32) 22 rfl w.heap.size 33 i2 _ 3 40 Tryd.underlying22 fi0 fz0 fz1 fz2 file_zero (by decide) _ k _ rfl (hO1).out ⟨wr.heap.size + 1 + 1, 0, none⟩ 1 1 (fcell (bF b d)) rfl rfl (N1).out (file_one' b d) (by decide) (by unfold maxLen; omega) (by omega) (hB1).out.size _ rfl ?_; intro g6 cap6 w6 hown6 hgr6 hat6 hlt6; have HB6 := Lib.hid ((hB1).out.grown hgr6 (hB1).out.size (fun j hj => ((hO1).out.lt j hj).1)); have HO6 := Lib.hid hown6; clear hown6)
          | (refine step_append_lies _ rfl (.tmp 23) (.tmp 32) 22 rfl w.heap.size 33 i2 _ 3 40 Tryd.underlying22 fi0 fz0 fz1 fz2 file_zero (by decide) _ k _ rfl (hO2).out ⟨wr.heap.size + 1 + 1, 0, none⟩ 1 1 (fcell (bF b d)) rfl rfl (N2).out (file_one' b d) (by decide) (by unfold maxLen; omega) (by omega) (hB2).out.size _ rfl ?_; intro g6 cap6 w6 hown6 hgr6 hat6 hlt6; have HB6 := Lib.hid ((hB2).out.grown hgr6 (hB2).out.size (fun j hj => ((hO2).out.lt j hj).1)); have HO6 := Lib.hid hown6; clear hown6)
          | (fail))
        all_goals
          go_wp2
          go_roundw
          case rel => unfold LgR; exact ⟨k + 1, by omega, by go_num, Lib.hid (by rw [gL_take d hlt, fcells_app]; have := HO6.out; rw [HBB.out] at this; exact this), HB6⟩
          case measure => simp [intOf] <;> omega
      · obtain rfl : k = 8 := by omega
        have hr0 : wr.ownsRow w.heap.size 33 3 _ 8 (fcells (gL d d)) := HO.out
        obtain ⟨g, cap, rfl, hr1⟩ := own_form hr0 rfl (by decide)
        have hds : d.size = 65536 := by rw [HD.out]; exact zs_size _
        have HDS := Lib.hid hds
        obtain ⟨x0, x1, x2⟩ := hr1.get (i := 7) (f := gF 7 d) rfl
        have p2 := hr1.fz (7 * 3 + 2)
        have c23 : wr.cell? ⟨g, 23, none⟩ = some (.string d) := x2
        have f23 : wr.frozen? ⟨g, 23, none⟩ = false := p2
        have hst := (hr1.own.stored 23 (.string (d.extract 0 (65536 - s)))).1
        have HG := Lib.hid hr1.lt
        obtain ⟨e, he⟩ : ∃ e, e = d.extract 0 (65536 - s) := ⟨_, rfl⟩
        have hes : e.size = 65536 - s := by rw [he, ByteArray.size_extract]; omega
        rw [← he] at hst
        have hst2 : (wr.setCell ⟨g, 23, none⟩ (.string e)).ownsRow w.heap.size 33 3 (.slice (some ⟨g, 0, none⟩) 8 cap) 8 (fcells (gL d e)) := hst
        have HST := Lib.hid hst2
        have HBS := Lib.hid (HB.out.setCell (p := ⟨g, 23, none⟩) hr1.lt.1 (.string e))
        have i0 : (0 : Int) ≤ 65536 - s := by omega
        have i1 : (65536 : Int) - s ≤ d.size := by omega
        have i2' : ((65536 : Int) - s).toNat = 65536 - s := by omega
        have HE := Lib.hid he
        have HES := Lib.hid hes
        have hm2 := hm
        clear hr0 hr1 x0 x1 x2 p2 hst hst2 hds hes HO
        go_wp2
        rw [← HE.out]
        generalize wr.setCell ⟨g, 23, none⟩ (.string e) = w2 at *
        have hB2 := HBS.out
        have hck := gL_check (d := d) (e := e) (by rw [HDS.out]; exact Nat.le_refl _) (by rw [HES.out]; omega)
        have hln := gL_len (d := d) (e := e) (by rw [HDS.out]; omega) (by rw [HDS.out]; omega) (by rw [HES.out]; omega) (by rw [HES.out]; omega)
        rw [HDS.out, HES.out] at hln
        have hfo := gL_ok (d := d) (e := e) (by rw [HDS.out]; omega) (by rw [HES.out]; omega)
        have OX : Hid (∀ X, Below w2.heap.size w2 X → Calls Tryd.prog 12 #[.slice (some ⟨g, 0, none⟩) 8 cap] X (OfIs X (gL d e))) := Lib.hid fun X hb => of_any (some ⟨g, 0, none⟩) cap (gL d e) X (show 8 ≤ 8796093022208 by omega) hfo (own_slice (own_below HST.out hb)) (hm2.on (below_on hB2 hb))
        have SX : Hid (∀ X, Below w2.heap.size w2 X → Calls Tryd.prog 14 #[.slice (some ⟨g, 0, none⟩) 8 cap] X (SzIs X (gL d e))) := Lib.hid fun X hb => size_any (some ⟨g, 0, none⟩) cap (gL d e) X (show 8 ≤ 8796093022208 by omega) hfo (own_slice (own_below HST.out hb)) (hm2.on (below_on hB2 hb))
        have hE : ofE (gL d e) = if s < 49 then 4 else 0 := by
          unfold ofE
          rw [if_pos hck, hln]
          by_cases h : s < 49
          · rw [if_pos h, if_pos (by omega)]
          · rw [if_neg h, if_neg (by omega)]
        have hS : (ofS (gL d e)).size = if s < 49 then 0 else 524337 - s := by
          unfold ofS
          rw [hE]
          by_cases h : s < 49
          · rw [if_pos h, if_neg (by decide), if_pos h]; rfl
          · rw [if_neg h, if_pos rfl, if_neg h]
            show (imgL (gL d e)).toArray.size = _
            rw [List.size_toArray, hln]; omega
        have hN : ofN (gL d e) = if s < 49 then 0 else (524337 : Int) - s := by
          unfold ofN
          rw [hE]
          by_cases h : s < 49
          · rw [if_pos h, if_neg (by decide), if_pos h]
          · rw [if_neg h, if_pos rfl, if_neg h, hln]; omega
        unfold OfIs at OX
        unfold SzIs at SX
        generalize ofE (gL d e) = F at *
        generalize ofN (gL d e) = N at *
        generalize hSS : ofS (gL d e) = S at *
        have HQ := Lib.hid (show (F = if s < 49 then 4 else 0) ∧ (S.size = if s < 49 then 0 else 524337 - s) ∧ N = if s < 49 then 0 else (524337 : Int) - s from ⟨hE, hS, hN⟩)
        clear hck hln hfo hE hS hN hSS
        go_loopw [5, 6] (fun v5 v6 wx => ∃ j : Nat, j ≤ 8 ∧ v5 = .int .i64 (1 + 6 * (j : Int)) ∧ v6 = .int .i64 j ∧ wx = w2) (fun _ v _ => 8 - (intOf v).toNat)
        case atStart => exact ⟨0, Nat.zero_le _, rfl, rfl, rfl⟩
        case round =>
          obtain ⟨j, hj, rfl, rfl, rfl⟩ := hrel
          by_cases hj8 : j < 8
          · have jl : (j : Int) < 8 := by omega
            go_wp2
            go_roundw
            case rel => exact ⟨j + 1, by omega, by go_num, by go_num, by first | trivial | rfl⟩
            case measure => simp [intOf] <;> omega
          · obtain rfl : j = 8 := by omega
            obtain ⟨q1, q2, q3⟩ := HQ.out
            by_cases h49 : s < 49
            · rw [if_pos h49] at q1 q2 q3
              subst q1 q3
              obtain rfl : S = ⟨#[]⟩ := by
                apply ByteArray.ext
                exact Array.eq_empty_of_size_eq_zero q2
              have gt : (524288 : Int) < 524337 - s := by omega
              clear q2 h49 HQ
              go_wp2_with (first
                | (go_at_call 12; (with_reducible refine (OX.out _ (Below.refl _ _)).mono ?_); rintro x w3 ⟨rfl, hb3⟩)
                | (go_at_call 14; (with_reducible refine (SX.out _ hb3).mono ?_); rintro x w4 ⟨rfl, hb4⟩; have hb5 := below_on hb3 hb4)
                | (go_at_call 15; (with_reducible refine (HA.out _ (hm2.on (below_on hB2 hb5))).mono ?_); rintro x w6 ⟨rfl, hb6⟩)
                | (fail))
              go_ret
              exact ⟨rfl, below_on hB2 (below_on hb5 hb6)⟩
            · rw [if_neg h49] at q1 q2 q3
              subst q1 q3
              have ngt : ¬ (524288 : Int) < 524337 - s := by omega
              have hsz : (S.size : Int) = 524337 - s := by omega
              have HSZ := Lib.hid hsz
              clear q2 h49 HQ hsz
              go_wp2_with (first
                | (go_at_call 12; (with_reducible refine (OX.out _ (Below.refl _ _)).mono ?_); rintro x w3 ⟨rfl, hb3⟩; have hsz := HSZ.out)
                | (go_at_call 14; (with_reducible refine (SX.out _ hb3).mono ?_); rintro x w4 ⟨rfl, hb4⟩; have hb5 := below_on hb3 hb4)
                | (go_at_call 15; (with_reducible refine (HA.out _ (hm2.on (below_on hB2 hb5))).mono ?_); rintro x w6 ⟨rfl, hb6⟩)
                | (fail))
              go_ret
              exact ⟨rfl, below_on hB2 (below_on hb5 hb6)⟩
end Go.Proofs.YtlfennooocmclaaDoor
