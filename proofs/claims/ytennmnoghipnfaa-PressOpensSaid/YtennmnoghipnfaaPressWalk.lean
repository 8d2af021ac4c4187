/- The walk through Press. -/
import Derived.Test.YtennmnoghipnfaaPressNew
namespace Go.Proofs.Ytennmnoghipnfaa
open Go.RowKit
set_option linter.unusedVariables false

theorem Blk.new' {w : World} {g : Nat} (h : g = w.heap.size) (t : TypeId) (cs : Array Value) : Blk (w.alloc (.cells cs t)) g t cs := by
  subst h
  exact Blk.new _ _ _

theorem FrB.below' {e : TypeId} {b B : Nat} {w w' : World} (h : FrB e b w w') (hB : B ≤ b) (hb : b ≤ w.heap.size) : Below B w w' := Fr.below h (by omega) fun k hs => by
  rcases hs with rfl | hs
  · exact hB
  · exact Nat.le_trans hB hs.1

theorem FrB.fin {b f g d : Nat} {s : ByteArray} {w w' : World} (h : FrB 5 b w w') (hF : Fin_ w f g s d) (h1 : f ≠ b) (h2 : g ≠ b) : Fin_ w' f g s d := by
  obtain ⟨cs, hb, hc⟩ := hF.blk
  obtain ⟨ps, hp, hq⟩ := hF.row
  exact ⟨⟨cs, h.blk hb h1 (by decide), hc⟩, ⟨ps, h.blk hp h2 (by decide), hq⟩⟩

/-- Where Press stands: the text's block, the builder's, num's, from's, the finder's two. -/
structure PW (w0 w : World) (s : ByteArray) (bs bb bn bf f g d from_ : Nat) (v : Value) (l : List UInt8) : Prop where
  s_ : Blk w bs 9 #[.string s]
  n_ : Blk w bn 39 #[.func (.func 20) #[] #[.pointer (some ⟨bb, 0, none⟩)]]
  b_ : Bld 33 5 w bb v l
  f_ : Blk w bf 3 #[.int .i64 from_]
  fin : Fin_ w f g s d
  ne : bf ≠ g
  base : w0.heap.size ≤ bb ∧ w0.heap.size ≤ bf ∧ w0.heap.size ≤ f ∧ w0.heap.size ≤ g
  below : Below w0.heap.size w0 w
section
variable {w0 w w' : World} {s : ByteArray} {bs bb bn bf f g d from_ : Nat} {v : Value} {l : List UInt8}
theorem PW.bT (h : PW w0 w s bs bb bn bf f g d from_ v l) : ∃ cs, Blk w bb 33 cs := by
  rcases h.b_.blk with hb | hb
  · exact ⟨_, hb⟩
  · exact ⟨_, hb⟩
theorem PW.longest (h : PW w0 w s bs bb bn bf f g d from_ v l) {d' : Nat} (hF : Fin_ w' f g s d') (hR : Fr (fun k => k = f ∨ k = g) w w') : PW w0 w' s bs bb bn bf f g d' from_ v l := by
  obtain ⟨cs, hb, _⟩ := h.fin.blk
  obtain ⟨ps, hp, _⟩ := h.fin.row
  obtain ⟨bs', hB⟩ := h.bT
  have no : ∀ (x : Nat) (t : TypeId) (c : Array Value), Blk w x t c → t ≠ 44 → t ≠ 3 → ¬ (x = f ∨ x = g) := by
    rintro x t c hx h1 h2 (e | e)
    · subst e; exact absurd rfl (hx.ne_ hb h1)
    · subst e; exact absurd rfl (hx.ne_ hp h2)
  refine ⟨hR.blk h.s_ (no _ _ _ h.s_ (by decide) (by decide)), hR.blk h.n_ (no _ _ _ h.n_ (by decide) (by decide)), h.b_.fr hR (no _ _ _ hB (by decide) (by decide)) ?_, hR.blk h.f_ ?_, hF, h.ne, h.base, h.below.trans (hR.below h.below.size ?_)⟩
  · rintro k hk (e | e)
    · subst e; exact Lib.ownBlock_ne h.b_.own hb (by decide) hk
    · subst e; exact Lib.ownBlock_ne h.b_.own hp (by decide) hk
  · rintro (e | e)
    · subst e; exact absurd rfl (h.f_.ne_ hb (by decide))
    · exact h.ne e
  · have := h.base
    rintro k (rfl | rfl) <;> omega
theorem PW.wrote (h : PW w0 w s bs bb bn bf f g d from_ v l) {v' : Value} {l' : List UInt8} (hB : Bld 33 5 w' bb v' l') (hf : FrB 5 bb w w') : PW w0 w' s bs bb bn bf f g d from_ v' l' := by
  obtain ⟨bs', hB'⟩ := h.bT
  obtain ⟨cs, hb, _⟩ := h.fin.blk
  obtain ⟨ps, hp, _⟩ := h.fin.row
  have no : ∀ (x : Nat) (t : TypeId) (c : Array Value), Blk w x t c → t ≠ 33 → x ≠ bb := fun x t c hx h1 e => by
    subst e; exact absurd rfl (hx.ne_ hB' h1)
  exact ⟨hf.blk h.s_ (no _ _ _ h.s_ (by decide)) (by decide), hf.blk h.n_ (no _ _ _ h.n_ (by decide)) (by decide), hB, hf.blk h.f_ (no _ _ _ h.f_ (by decide)) (by decide),
    hf.fin h.fin (no _ _ _ hb (by decide)) (no _ _ _ hp (by decide)), h.ne, h.base, h.below.trans (hf.below' h.base.1 (by have := h.b_.lt; omega))⟩
theorem PW.setFrom (h : PW w0 w s bs bb bn bf f g d from_ v l) (n : Nat) : PW w0 (w.setCell ⟨bf, 0, none⟩ (.int .i64 n)) s bs bb bn bf f g d n v l := by
  obtain ⟨bs', hB⟩ := h.bT
  obtain ⟨cs, hb, _⟩ := h.fin.blk
  have hR : Fr (fun k => k = bf) w (w.setCell ⟨bf, 0, none⟩ (.int .i64 n)) := (Fr.refl (fun k => k = bf) w).setCell (p := ⟨bf, 0, none⟩) (.inl rfl) _
  have no : ∀ (x : Nat) (t : TypeId) (c : Array Value), Blk w x t c → t ≠ 3 → x ≠ bf := fun x t c hx h1 e => by
    subst e; exact absurd rfl (hx.ne_ h.f_ h1)
  refine ⟨hR.blk h.s_ (no _ _ _ h.s_ (by decide)), hR.blk h.n_ (no _ _ _ h.n_ (by decide)), h.b_.fr hR (no _ _ _ hB (by decide)) ?_, h.f_.set_ 0 _, h.fin.fr hR (no _ _ _ hb (by decide)) (fun e => h.ne e.symm), h.ne, h.base, h.below.trans (hR.below h.below.size ?_)⟩
  · rintro k hk e
    subst e; exact Lib.ownBlock_ne h.b_.own h.f_ (by decide) hk
  · have := h.base
    rintro k rfl; omega
theorem PW.setFrom' (h : PW w0 w s bs bb bn bf f g d from_ v l) (n : Nat) (x : Int) (hx : x = (n : Int)) : PW w0 (w.setCell ⟨bf, 0, none⟩ (.int .i64 x)) s bs bb bn bf f g d n v l := by
  subst hx
  exact h.setFrom n
theorem PW.cf (h : PW w0 w s bs bb bn bf f g d from_ v l) : w.cell? ⟨bf, 0, none⟩ = some (.int .i64 from_) := h.f_.cell 0
theorem PW.ff (h : PW w0 w s bs bb bn bf f g d from_ v l) : w.frozen? ⟨bf, 0, none⟩ = false := h.f_.frozen 0
theorem PW.cn (h : PW w0 w s bs bb bn bf f g d from_ v l) : w.cell? ⟨bn, 0, none⟩ = some (.func (.func 20) #[] #[.pointer (some ⟨bb, 0, none⟩)]) := h.n_.cell 0
theorem PW.cs (h : PW w0 w s bs bb bn bf f g d from_ v l) : w.cell? ⟨bs, 0, none⟩ = some (.string s) := h.s_.cell 0
end

set_option maxHeartbeats 2000000 in
set_option maxRecDepth 100000 in
theorem press_any (s : ByteArray) (w : World) (h1 : s.size ≤ 1048576) :
    Calls Try.prog 13 #[.string s] w fun e w' => e = .returned (.tuple #[.string ⟨(pressL s.data.toList).toArray⟩, .int .i64 0]) ∧ Below w.heap.size w w' := by
  have hn4 : Blk (((w.alloc (.cells #[.string s] 9)).alloc (.cells #[.pointer none, .slice none 0 0] 33)).alloc (.cells #[.func (.func 20) #[] #[.pointer (some ⟨w.heap.size + 1, 0, none⟩)]] 39)) (w.heap.size + 1 + 1) 39 #[.func (.func 20) #[] #[.pointer (some ⟨w.heap.size + 1, 0, none⟩)]] := Blk.new' (by simp) _ _
  have hb4 : Bld 33 5 (((w.alloc (.cells #[.string s] 9)).alloc (.cells #[.pointer none, .slice none 0 0] 33)).alloc (.cells #[.func (.func 20) #[] #[.pointer (some ⟨w.heap.size + 1, 0, none⟩)]] 39)) (w.heap.size + 1) (.slice none 0 0) [] :=
    ⟨.inl (Blk.alloc (Blk.new' (by simp) _ _) _), World.ownsRow_nil _ _ _ _⟩
  have hs4 : Blk (((w.alloc (.cells #[.string s] 9)).alloc (.cells #[.pointer none, .slice none 0 0] 33)).alloc (.cells #[.func (.func 20) #[] #[.pointer (some ⟨w.heap.size + 1, 0, none⟩)]] 39)) w.heap.size 9 #[.string s] := Blk.alloc (Blk.alloc (Blk.new _ _ _) _) _
  have hl4 : Below w.heap.size w (((w.alloc (.cells #[.string s] 9)).alloc (.cells #[.pointer none, .slice none 0 0] 33)).alloc (.cells #[.func (.func 20) #[] #[.pointer (some ⟨w.heap.size + 1, 0, none⟩)]] 39)) :=
    (((Below.refl _ _).alloc (Nat.le_refl _) _).alloc (by simp) _).alloc (by simp; omega) _
  have hz4 : (((w.alloc (.cells #[.string s] 9)).alloc (.cells #[.pointer none, .slice none 0 0] 33)).alloc (.cells #[.func (.func 20) #[] #[.pointer (some ⟨w.heap.size + 1, 0, none⟩)]] 39)).heap.size = w.heap.size + 3 := by simp
  go_enter Try.func13, Try.ntmps13
  go_wp2_with (go_at_call 20; refine (num_at (w.heap.size + 1) _ s.size _ [] _ rfl hb4 (by omega) (by simp)).mono ?_; rintro e w5 ⟨v5, rfl, hB5, hf5⟩; have hs5 := hf5.blk hs4 (by omega) (by decide); have es5 := hs5.cell 0; simp only [List.getElem?_toArray, List.getElem?_cons_zero] at es5)
  have hn5 := hf5.blk hn4 (by omega) (by decide)
  have hl5 := hl4.trans (hf5.below' (B := w.heap.size) (by omega) (by rw [hz4]; omega))
  have hz5 := hf5.size
  rw [hz4] at hz5
  clear hn4 hb4 hs4 hl4 hz4 hf5
  obtain ⟨ps, hmk, hps⟩ := new_runs s h1
  obtain ⟨zc, hzs, hze, hzr, hcs⟩ := new_zero s
  have es6 : (w5.alloc (.cells ps 3)).drew.cell? ⟨w.heap.size, 0, none⟩ = some (.string s) := (World.cell?_alloc_past _ _ _ hs5.lt).trans es5
  go_region
  have hR6 : Fr (fun _ => False) w5 ((w5.alloc (.cells ps 3)).alloc (.cells ((zc.setIfInBounds 0 (.string s)).setIfInBounds 4097 (.slice (some ⟨w5.heap.size, 0, none⟩) s.size s.size)) 44)).drew := Fr.drew (Fr.alloc (Fr.alloc (Fr.refl _ _) _) _)
  have hF6 : Fin_ ((w5.alloc (.cells ps 3)).alloc (.cells ((zc.setIfInBounds 0 (.string s)).setIfInBounds 4097 (.slice (some ⟨w5.heap.size, 0, none⟩) s.size s.size)) 44)).drew (w5.heap.size + 1) w5.heap.size s 0 :=
    ⟨⟨_, Blk.drew (Blk.new' (by simp) _ _), hcs _⟩, ⟨_, Blk.drew (Blk.alloc (Blk.new _ _ _) _), hps⟩⟩
  have hz6 : ((w5.alloc (.cells ps 3)).alloc (.cells ((zc.setIfInBounds 0 (.string s)).setIfInBounds 4097 (.slice (some ⟨w5.heap.size, 0, none⟩) s.size s.size)) 44)).drew.heap.size = w5.heap.size + 2 := by
    show ((w5.alloc _).alloc _).heap.size = _
    simp
  clear hmk hps hzr hzs hze hcs es5 es6
  generalize ((w5.alloc (.cells ps 3)).alloc (.cells ((zc.setIfInBounds 0 (.string s)).setIfInBounds 4097 (.slice (some ⟨w5.heap.size, 0, none⟩) s.size s.size)) 44)).drew = w6 at hR6 hF6 hz6 ⊢
  have hA : PW w (w6.alloc (.cells #[.int .i64 0] 3)) s w.heap.size (w.heap.size + 1) (w.heap.size + 1 + 1) w6.heap.size (w5.heap.size + 1) w5.heap.size 0 0 v5 (numL s.size) := by
    have hRa : Fr (fun _ => False) w5 (w6.alloc (.cells #[.int .i64 0] 3)) := Fr.alloc hR6 _
    refine ⟨hRa.blk hs5 (by simp), hRa.blk hn5 (by simp), hB5.fr hRa (by simp) (by simp), Blk.new _ _ _, hF6.fr (Fr.alloc (Fr.refl (fun _ => False) _) _) (by simp) (by simp), by omega, ⟨by omega, by omega, by omega, by omega⟩, hl5.trans (hRa.below (by omega) (by simp))⟩
  rw [hz6] at hA
  have HE0 : Hid (numL s.size ++ prs s.data.toList 0 0 = pressL s.data.toList) := by
    unfold pressL
    rw [← ba_size]
    exact Lib.hid rfl
  have hL5 := press_len5 (t := s.data.toList) (by rw [← ba_size]; exact h1)
  rw [← ba_size] at hL5
  have hne := press_ne s.data.toList
  clear hR6 hF6 hs5 hn5 hB5 hl5
  go_wp2
  go_loopw [9] (fun v9 wr => ∃ (at_ from_ d : Nat) (v : Value) (l : List UInt8), v9 = .int .i64 at_ ∧ from_ ≤ at_ ∧ at_ ≤ s.size ∧ d ≤ at_ ∧ Hid (l ++ prs s.data.toList at_ from_ = pressL s.data.toList) ∧
    PW w wr s w.heap.size (w.heap.size + 1) (w.heap.size + 1 + 1) (w5.heap.size + 2) (w5.heap.size + 1) w5.heap.size d from_ v l) (fun v9 _ => s.size - (intOf v9).toNat)
  case atStart => exact ⟨0, 0, 0, v5, _, rfl, Nat.le_refl _, Nat.zero_le _, Nat.le_refl _, HE0, hA⟩
  case round =>
    obtain ⟨at_, from_, d, v, l, rfl, hfa, has, hda, HE, hP⟩ := hrel
    have hll : l.length ≤ 5 * s.size + 4 := by
      have := congrArg List.length HE.out
      rw [List.length_append] at this
      omega
    have cs := hP.cs
    clear HE0 hA
    by_cases hlt : at_ < s.size
    · have hlt' : at_ < s.data.toList.length := by rw [← ba_size]; exact hlt
      have hL := longest_any (w5.heap.size + 1) w5.heap.size d at_ s wr hP.fin hda has h1
      by_cases hz : (bst s.data.toList at_).2 = 0
      · have HE' := HE.out
        rw [prs_one hlt' hz] at HE'
        have HE2 := Lib.hid HE'
        have hb := bst_z s.data.toList (Nat.le_of_lt hlt') hz
        rw [hb] at hL
        have HL := Lib.hid hL
        clear hL hb hz HE' HE
        go_wp2_with (go_at_call 24; refine HL.out.mono ?_; rintro e w1 ⟨rfl, ⟨d1, hd1, hF1⟩, hR1⟩; have hP := hP.longest hF1 hR1)
        exact ⟨⟨at_ + 1, from_, d1, v, l, by go_num, by omega, by omega, by omega, HE2, hP⟩, by simp [intOf]; omega⟩
      · have HE' := HE.out
        rw [prs_cp hlt' hz] at HE'
        have hbc := bst_cases s.data.toList (Nat.le_of_lt hlt')
        obtain ⟨bk, nn, hb⟩ : ∃ bk nn, bst s.data.toList at_ = (bk, nn) := ⟨_, _, rfl⟩
        rw [hb] at hL hbc HE' hz
        have hbc2 : 1 ≤ bk ∧ bk ≤ at_ ∧ bk ≤ 4096 ∧ 4 ≤ nn ∧ nn ≤ 259 ∧ at_ + nn ≤ s.size := by
          rcases hbc with hbc | ⟨q1, q2, q3, q4, q5, q6, _⟩
          · injection hbc with _ hbc
            exact absurd hbc hz
          · rw [← ba_size] at q6
            exact ⟨q1, q2, q3, q4, q5, q6⟩
        obtain ⟨q1, q2, q3, q4, q5, q6⟩ := hbc2
        have HE2 : Hid ((l ++ run_ s.data.toList from_ at_ ++ numL (2 * (nn - 4) + 1) ++ numL (bk - 1)) ++ prs s.data.toList (at_ + nn) (at_ + nn) = pressL s.data.toList) := Lib.hid (by rw [← HE']; simp only [List.append_assoc])
        have hll2 : (l ++ run_ s.data.toList from_ at_ ++ numL (2 * (nn - 4) + 1) ++ numL (bk - 1)).length ≤ 5 * s.size + 4 := by
          have := congrArg List.length HE2.out
          rw [List.length_append] at this
          omega
        rw [List.length_append, List.length_append] at hll2
        have HL := Lib.hid hL
        clear hL hb hz HE' HE hbc
        go_wp2_with (first
          | (go_at_call 24; refine HL.out.mono ?_; rintro e w1 ⟨rfl, ⟨d1, hd1, hF1⟩, hR1⟩; have hP := hP.longest hF1 hR1; have cs := hP.cs; have cn := hP.cn)
          | (go_at_call 23; refine (plain_any _ _ _ _ from_ at_ s _ _ _ hP.b_ hP.s_ hP.n_ hP.f_ hfa has h1 (by omega)).mono ?_; rintro e w2 ⟨v2, rfl, hB2, hf2⟩; have hP := hP.wrote hB2 hf2; have cs := hP.cs; have cn := hP.cn)
          | (go_at_call 20; refine (num_at _ _ (2 * (nn - 4) + 1) _ _ _ (by omega) hP.b_ (by omega) (by omega)).mono ?_; rintro e w3 ⟨v3, rfl, hB3, hf3⟩; have hP := hP.wrote hB3 hf3; have cs := hP.cs; have cn := hP.cn)
          | (go_at_call 20; refine (num_at _ _ (bk - 1) _ _ _ (by omega) hP.b_ (by omega) (by rw [List.length_append]; omega)).mono ?_; rintro e w4 ⟨v4, rfl, hB4, hf4⟩; have hP := hP.wrote hB4 hf4; have cf := hP.cf; have ff := hP.ff))
        exact ⟨⟨at_ + nn, at_ + nn, d1, _, _, by go_num, Nat.le_refl _, by omega, by omega, HE2, hP.setFrom' (at_ + nn) _ (by omega)⟩, by simp [intOf]; omega⟩
    · obtain rfl : at_ = s.size := by omega
      have HE' := HE.out
      rw [prs_end (by rw [← ba_size]; exact Nat.le_refl _), ← ba_size] at HE'
      have HE2 := Lib.hid HE'
      clear HE' HE
      go_wp2_with (first
        | (go_at_call 23; refine (plain_any _ _ _ _ from_ s.size s _ _ _ hP.b_ hP.s_ hP.n_ hP.f_ hfa has h1 (by omega)).mono ?_; rintro e w2 ⟨v2, rfl, hB2, hf2⟩; have hP := hP.wrote hB2 hf2; have hB3 := hP.b_; rw [HE2.out] at hB3)
        | (go_at_call 25; refine (string_any _ _ _ _ hB3 hne).mono ?_; rintro e w3 ⟨rfl, hf3⟩))
      go_ret2
      exact ⟨rfl, hP.below.trans (hf3.below' (Nat.le_succ _) (by have := hB3.lt; omega))⟩
end Go.Proofs.Ytennmnoghipnfaa
