/- Check of any files; chapter 9's examples. -/
import Derived.Test.YtjhbmcgaehpadaaDoorTreeWalk7
import Derived.KernelRfl
namespace Go.Proofs.YtjhbmcgaehpadaaDoor
open Go.RowKit
set_option linter.unusedVariables false

def FOk (f : FileD) : Prop := f.path.size ≤ 9223372036854775807 ∧ f.data.size ≤ 9223372036854775807
theorem check_any (A : Option Addr) (c : Nat) (l : List FileD) (w : World) (hz : l.length ≤ 8796093022208) (hx : ∀ f ∈ l, FOk f)
    (hc : Arr w w.heap.size 3 A l.length (fcells l)) (hm : Ml w) :
    Calls Tryd.prog 19 #[.slice A l.length c] w fun e w' => e = .returned (.int .i64 (checkE l)) ∧ Below w.heap.size w w' := by
  by_cases h0 : 0 < l.length
  · obtain ⟨b, o, rfl, hb, hcell⟩ := hc.2 h0
    exact check_in b o c l w h0 hz hx hb hcell hm
  · have : l = [] := List.eq_nil_of_length_eq_zero (by omega)
    subst this
    rw [show checkE [] = 0 from rfl]
    show Calls _ _ #[.slice A 0 c] _ _
    have HP : Hid (∀ W, Ml W → Calls Tryd.prog 48 #[.slice none 0 0] W fun e w' => e = .returned (.int .i64 0) ∧ Below W.heap.size W w') :=
      Lib.hid fun W h => paths_any none 0 [] W (by simp) (by simp) (Arr.nil _ _ _ _) h
    go_enter Tryd.func19, Tryd.ntmps19
    go_wp2
    go_loopw [3, 11] (fun v3 v wr => v3 = .slice none 0 0 ∧ v = .int .i64 0 ∧ wr = w) (fun _ v _ => 0)
    case atStart => exact ⟨rfl, rfl, rfl⟩
    case round =>
      obtain ⟨rfl, rfl, rfl⟩ := hrel
      go_wp2_with (go_at_call 48; with_reducible refine (HP.out _ hm).mono ?_; rintro e w1 ⟨rfl, hb1⟩)
      go_loopw [28] (fun v w2 => v = .int .i64 0 ∧ w2 = w1) (fun v _ => 0)
      case atStart => exact ⟨rfl, rfl⟩
      case round =>
        obtain ⟨rfl, rfl⟩ := hrel
        go_wp2
        go_ret
        exact ⟨rfl, hb1⟩

def twoFiles : List FileD := [⟨⟨#[97]⟩, 0, ⟨#[]⟩⟩, ⟨⟨#[97, 47, 98]⟩, 0, ⟨#[]⟩⟩]
theorem check_two (w : World) (hm : Ml w) (b : Nat) (hk : Blk w b 58 (fcells twoFiles).toArray) : Calls Tryd.prog 19 #[.slice (some ⟨b, 0, none⟩) 2 2] w fun e w' => e = .returned (.int .i64 9) ∧ Below w.heap.size w w' := by
  have := check_any (some ⟨b, 0, none⟩) 2 twoFiles w (by decide) (by intro f hf; simp [twoFiles] at hf; rcases hf with rfl | rfl <;> exact ⟨by decide, by decide⟩)
    ⟨by decide, fun _ => ⟨b, 0, rfl, hk.lt, fun i u hu => by rw [Nat.zero_add, hk.cell]; simpa using hu⟩⟩ hm
  rwa [show checkE twoFiles = 9 by kernel_rfl] at this

set_option maxHeartbeats 1000000 in
set_option maxRecDepth 100000 in
theorem awake_any (w : World) (hm : Ml w) : Calls Tryd.prog 16 #[] w fun e w' => e = .returned (.bool true) ∧ Below w.heap.size w w' := by
  have HO : Hid (∀ W, Calls Tryd.prog 18 #[.string ⟨#[97, 47, 98]⟩, .string ⟨#[97, 45, 98]⟩] W fun e w' => e = .returned (.int .i64 (-1)) ∧ ∃ m, w' = W.drewN m) :=
    Lib.hid fun W => (by have := order_any ⟨#[97, 47, 98]⟩ ⟨#[97, 45, 98]⟩ W (by decide) (by decide); rwa [show ordL _ _ = -1 by kernel_rfl] at this)
  have H1 : Hid (∀ W, Ml W → Calls Tryd.prog 23 #[.string ⟨#[97, 47, 42, 42, 47, 99, 63]⟩, .string ⟨#[97, 47, 98, 47, 98, 47, 99, 100]⟩] W fun e w' => e = .returned (.bool true) ∧ Below W.heap.size W w') :=
    Lib.hid fun W h => (by have := match_any ⟨#[97, 47, 42, 42, 47, 99, 63]⟩ ⟨#[97, 47, 98, 47, 98, 47, 99, 100]⟩ W (by decide) (by decide) h; rwa [show matchB _ _ = true by kernel_rfl] at this)
  have H2 : Hid (∀ W, Ml W → Calls Tryd.prog 23 #[.string ⟨#[42]⟩, .string ⟨#[97, 47, 98]⟩] W fun e w' => e = .returned (.bool false) ∧ Below W.heap.size W w') :=
    Lib.hid fun W h => (by have := match_any ⟨#[42]⟩ ⟨#[97, 47, 98]⟩ W (by decide) (by decide) h; rwa [show matchB _ _ = false by kernel_rfl] at this)
  have HC : Hid (∀ (w : World), Ml w → ∀ b, Blk w b 58 #[.string ⟨#[97]⟩, .int .i64 0, .string ⟨#[]⟩, .string ⟨#[97, 47, 98]⟩, .int .i64 0, .string ⟨#[]⟩] → Calls Tryd.prog 19 #[.slice (some ⟨b, 0, none⟩) 2 2] w fun e w' => e = .returned (.int .i64 9) ∧ Below w.heap.size w w') := Lib.hid check_two
  go_enter Tryd.func16, Tryd.ntmps16
  go_wp2_with (first
    | (go_at_call 18; with_reducible refine (HO.out _).mono ?_; rintro e w0 ⟨rfl, m0, rfl⟩; have hB0 := below_drewN (Below.refl w.heap.size w) m0; have hm0 := hm.on hB0)
    | (go_at_call 23; with_reducible refine (H1.out _ hm0).mono ?_; rintro e w1 ⟨rfl, hb1⟩; have hB1 := below_on hB0 hb1; have hm1 := hm.on hB1)
    | (go_at_call 23; with_reducible refine (H2.out _ hm1).mono ?_; rintro e w2 ⟨rfl, hb2⟩; have hB2 := below_on hB1 hb2; have hm2 := hm.on hB2; have hB2s := hB2.size; have hB3 := hB2.alloc hB2s (.cells #[.string ⟨#[97]⟩, .int .i64 0, .string ⟨#[]⟩, .string ⟨#[97, 47, 98]⟩, .int .i64 0, .string ⟨#[]⟩] 58); have hm3 := hm.on hB3; have hk3 := Blk.new w2 58 #[.string ⟨#[97]⟩, .int .i64 0, .string ⟨#[]⟩, .string ⟨#[97, 47, 98]⟩, .int .i64 0, .string ⟨#[]⟩])
    | (go_at_call 19; with_reducible refine (HC.out _ hm3 _ hk3).mono ?_; rintro e w4 ⟨rfl, hb4⟩))
  go_ret
  exact ⟨rfl, below_on hB3 hb4⟩
end Go.Proofs.YtjhbmcgaehpadaaDoor
