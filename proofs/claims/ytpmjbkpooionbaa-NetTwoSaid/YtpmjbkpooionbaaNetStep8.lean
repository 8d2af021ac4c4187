/- A step of the law, whatever the call: the net and the plain list go on together. -/
import Derived.Test.YtpmjbkpooionbaaNetStep4
import Derived.Test.YtpmjbkpooionbaaNetStep6
import Derived.Test.YtpmjbkpooionbaaNetStep7
import Derived.Test.YtpmjbkpooionbaaRdLaws
set_option linter.unusedVariables false
namespace Go.Proofs.Ytpmjbkpooionbaa
open Go.RowKit Go.Conc

theorem bentS_size (s : ByteArray) (i : Nat) (k : Int) : (bentS s i k).size = s.size := by
  rw [ba_size, ba_size]
  unfold bentS
  simp
theorem mem_erase {L : List ByteArray} {i : Nat} (hm : ∀ x ∈ L, x.size ≤ 200) : ∀ x ∈ L.eraseIdx i, x.size ≤ 200 := fun x hx => hm x (List.mem_of_mem_eraseIdx hx)
theorem mem_snoc {L : List ByteArray} {z : ByteArray} (hm : ∀ x ∈ L, x.size ≤ 200) (hz : z.size ≤ 200) : ∀ x ∈ L ++ [z], x.size ≤ 200 := by
  intro x hx
  rcases List.mem_append.1 hx with h | h
  · exact hm x h
  · rw [List.mem_singleton.1 h]; exact hz
theorem mem_put {L : List ByteArray} {i : Nat} {z : ByteArray} (hm : ∀ x ∈ L, x.size ≤ 200) (hz : z.size ≤ 200) : ∀ x ∈ L.set i z, x.size ≤ 200 := by
  intro x hx
  rcases List.mem_or_eq_of_mem_set hx with h | h
  · exact hm x h
  · rw [h]; exact hz
theorem get_of {L : List ByteArray} {n : Int} (h : 0 ≤ n ∧ n < (L.length : Int)) : ∃ (i : Nat) (x : ByteArray), n = (i : Int) ∧ L[i]? = some x := by
  obtain ⟨i, rfl⟩ := Int.eq_ofNat_of_zero_le h.1
  exact ⟨i, _, rfl, List.getElem?_eq_getElem (by omega)⟩

/-- What a step leaves. -/
def Stepped (w w' : World) (base b ch : Nat) (V : Value) (A : Option Addr) (L : List ByteArray) (sent' lost : Nat) (e : Ending) : Prop :=
  ∃ (L' : List ByteArray) (A' : Option Addr) (c' : Nat) (V' : Value), e = .returned (.tuple #[.slice A' L'.length c', .bool true]) ∧ SPost w w' base b ch V A L.length L' sent' lost V' A' ∧ L'.length ≤ L.length + 1 ∧ ∀ x ∈ L', x.size ≤ 200
theorem Stepped.of {w w' : World} {base b ch : Nat} {V : Value} {A : Option Addr} {L L' : List ByteArray} {sent' lost : Nat} {e : Ending} (h : ∃ A' c' V', e = .returned (.tuple #[.slice A' L'.length c', .bool true]) ∧ SPost w w' base b ch V A L.length L' sent' lost V' A') (h1 : L'.length ≤ L.length + 1) (h2 : ∀ x ∈ L', x.size ≤ 200) : Stepped w w' base b ch V A L sent' lost e := by
  obtain ⟨A', c', V', e1, e2⟩ := h
  exact ⟨L', A', c', V', e1, e2, h1, h2⟩

theorem step_any (base b ch : Nat) (V : Value) (A : Option Addr) (c : Nat) (L : List ByteArray) (sent lost : Nat) (k n m y : Int) (t : ByteArray) (w : World) (h : SP w base b ch V A L sent lost) (hbs : base ≤ w.heap.size) (hl : L.length < 4096) (ht : t.size ≤ 9223372036854775807) (hse : sent ≤ 1000000) (hm : ∀ x ∈ L, x.size ≤ 200)
    (n0 : -9223372036854775808 ≤ n) (n1 : n ≤ 9223372036854775807) (m0 : -9223372036854775808 ≤ m) (m1 : m ≤ 9223372036854775807) (y0 : -9223372036854775808 ≤ y) (y1 : y ≤ 9223372036854775807) :
    Calls Try.prog 17 #[.pointer (some ⟨b, 0, none⟩), .slice A L.length c, .agg #[.int .i64 k, .int .i64 n, .int .i64 m, .int .i64 y, .string t]] w fun e w' => Stepped w w' base b ch V A L (if k = 0 then sent + 1 else sent) lost e := by
  have hl' : L.length ≤ 4096 := by omega
  by_cases k0 : k = 0
  · subst k0
    rw [if_pos rfl]
    exact (step_send base b ch V A c L sent lost n m y t w h hbs hl ht hse).mono fun e w' hh => .of hh (by simp) (mem_snoc hm (cutT_le t))
  · rw [if_neg k0]
    by_cases hin : 0 ≤ n ∧ n < (L.length : Int)
    · obtain ⟨i, x, rfl, hx⟩ := get_of hin
      have hxm := hm x (List.mem_of_getElem? hx)
      by_cases k1 : k = 1
      · subst k1
        exact (step_take base b ch V A c L sent lost i x m y t w h hbs hl' ht hx).mono fun e w' hh => .of hh (by have := List.length_eraseIdx_le L i; omega) (mem_erase hm)
      · by_cases k2 : k = 2
        · subst k2
          exact (step_drop base b ch V A c L sent lost i x m y t w h hbs hl' ht hx).mono fun e w' hh => .of hh (by have := List.length_eraseIdx_le L i; omega) (mem_erase hm)
        · by_cases k7 : k = 7
          · subst k7
            exact (step_peek base b ch V A c L sent lost i x m y t w h hbs hl' ht hx).mono fun e w' hh => .of hh (by omega) hm
          · by_cases k3 : k = 3
            · subst k3
              exact (step_copy base b ch V A c L sent lost i x m y t w h hbs hl ht hx).mono fun e w' hh => .of hh (by simp) (mem_snoc hm hxm)
            · by_cases k4 : k = 4
              · subst k4
                by_cases hj : 0 ≤ m ∧ m < (x.size : Int)
                · obtain ⟨j, rfl⟩ := Int.eq_ofNat_of_zero_le hj.1
                  have hput : ∀ z ∈ L.set i (bentS x j y), z.size ≤ 200 := mem_put hm (by rw [bentS_size]; exact hxm)
                  by_cases hc : 200 < t.size
                  · exact (step_bend_a base b ch V A c L sent lost i j x y t w h hbs hl' ht hx (by omega) hxm y0 y1 hc).mono fun e w' hh => .of hh (by simp) hput
                  · exact (step_bend_b base b ch V A c L sent lost i j x y t w h hbs hl' ht hx (by omega) hxm y0 y1 (by omega)).mono fun e w' hh => .of hh (by simp) hput
                · exact (step_bend_out base b ch V A c L sent lost i x m y t w h hbs hl' ht hx hj).mono fun e w' hh => .of hh (by omega) hm
              · by_cases k5 : k = 5
                · subst k5
                  by_cases hj : 0 ≤ m ∧ m < (L.length : Int)
                  · obtain ⟨j, z, rfl, hz⟩ := get_of hj
                    have hzm := hm z (List.mem_of_getElem? hz)
                    exact (step_swap base b ch V A c L sent lost i j x z y t w h hbs hl' ht hx hz).mono fun e w' hh => .of hh (by simp) (mem_put (mem_put hm hzm) hxm)
                  · exact (step_swap_no base b ch V A c L sent lost i m y t w h hbs hl' ht (fun hh => hj hh.2.2) n0 n1 m0 m1).mono fun e w' hh => .of hh (by omega) hm
                · exact (step_clear base b ch V A c L sent lost k i m y t w h hbs hl' ht k0 k1 k2 k3 k4 k5 k7).mono fun e w' hh => .of hh (by simp) (by simp)
    · by_cases kk : k = 1 ∨ k = 7 ∨ k = 2 ∨ k = 3
      · exact (step_look_no base b ch V A c L sent lost k n m y t w h hbs hl' ht kk hin n0 n1).mono fun e w' hh => .of hh (by omega) hm
      · by_cases k4 : k = 4
        · subst k4
          exact (step_bend_no base b ch V A c L sent lost n m y t w h hbs hl' ht hin n0 n1).mono fun e w' hh => .of hh (by omega) hm
        · by_cases k5 : k = 5
          · subst k5
            exact (step_swap_no base b ch V A c L sent lost n m y t w h hbs hl' ht (fun hh => hin ⟨hh.1, hh.2.1⟩) n0 n1 m0 m1).mono fun e w' hh => .of hh (by omega) hm
          · exact (step_clear base b ch V A c L sent lost k n m y t w h hbs hl' ht k0 (by omega) (by omega) (by omega) k4 k5 (by omega)).mono fun e w' hh => .of hh (by simp) (by simp)
end Go.Proofs.Ytpmjbkpooionbaa
