/- Check of any files; chapter 9's examples. -/
import Derived.Test.YtlfennooocmclaaDoorTreeWalk7
import Derived.KernelRfl
namespace Go.Proofs.YtlfennooocmclaaDoor
open Go.RowKit
set_option linter.unusedVariables false

def FOk (f : FileD) : Prop := f.path.size ≤ 9223372036854775807 ∧ f.data.size ≤ 9223372036854775807
theorem check_any (A : Option Addr) (c : Nat) (l : List FileD) (w : World) (hz : l.length ≤ 8796093022208) (hx : ∀ f ∈ l, FOk f)
    (hc : Arr w w.heap.size 3 A l.length (fcells l)) (hm : Ml w) :
    Calls Tryd.prog 27 #[.slice A l.length c] w fun e w' => e = .returned (.int .i64 (checkE l)) ∧ Below w.heap.size w w' := by
  by_cases h0 : 0 < l.length
  · obtain ⟨b, o, rfl, hb, hcell⟩ := hc.2 h0
    exact check_in b o c l w h0 hz hx hb hcell hm
  · have : l = [] := List.eq_nil_of_length_eq_zero (by omega)
    subst this
    rw [show checkE [] = 0 from rfl]
    show Calls _ _ #[.slice A 0 c] _ _
    have HP : Hid (∀ W, Ml W → Calls Tryd.prog 49 #[.slice none 0 0] W fun e w' => e = .returned (.int .i64 0) ∧ Below W.heap.size W w') :=
      Lib.hid fun W h => paths_any none 0 [] W (by simp) (by simp) (Arr.nil _ _ _ _) h
    go_enter Tryd.func27, Tryd.ntmps27
    go_wp2
    go_loopw [3, 11] (fun v3 v wr => v3 = .slice none 0 0 ∧ v = .int .i64 0 ∧ wr = w) (fun _ v _ => 0)
    case atStart => exact ⟨rfl, rfl, rfl⟩
    case round =>
      obtain ⟨rfl, rfl, rfl⟩ := hrel
      go_wp2_with (go_at_call 49; with_reducible refine (HP.out _ hm).mono ?_; rintro e w1 ⟨rfl, hb1⟩)
      go_loopw [28] (fun v w2 => v = .int .i64 0 ∧ w2 = w1) (fun v _ => 0)
      case atStart => exact ⟨rfl, rfl⟩
      case round =>
        obtain ⟨rfl, rfl⟩ := hrel
        go_wp2
        go_ret
        exact ⟨rfl, hb1⟩

def twoFiles : List FileD := [⟨⟨#[97]⟩, 0, ⟨#[]⟩⟩, ⟨⟨#[97, 47, 98]⟩, 0, ⟨#[]⟩⟩]
theorem check_two (w : World) (hm : Ml w) (b : Nat) (hk : Blk w b 33 (fcells twoFiles).toArray) : Calls Tryd.prog 27 #[.slice (some ⟨b, 0, none⟩) 2 2] w fun e w' => e = .returned (.int .i64 9) ∧ Below w.heap.size w w' := by
  have := check_any (some ⟨b, 0, none⟩) 2 twoFiles w (by decide) (by intro f hf; simp [twoFiles] at hf; rcases hf with rfl | rfl <;> exact ⟨by decide, by decide⟩)
    ⟨by decide, fun _ => ⟨b, 0, rfl, hk.lt, fun i u hu => by rw [Nat.zero_add, hk.cell]; simpa using hu⟩⟩ hm
  rwa [show checkE twoFiles = 9 by kernel_rfl] at this

end Go.Proofs.YtlfennooocmclaaDoor
