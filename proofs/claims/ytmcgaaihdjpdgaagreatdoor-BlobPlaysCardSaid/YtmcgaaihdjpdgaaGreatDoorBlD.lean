/- Chapter 11: blobs as a state with the blocks that are theirs; the plain laws of what is kept.; Chapter 11: Put, Get, Refs, Count, Bytes upon the state.; Chapter 11: Drop, Bytes upon the state.; Chapter 11: what is kept, told by texts (plain). -/
import Derived.Test.YtmcgaaihdjpdgaaGreatDoorBlC
import Derived.Test.YtmcgaaihdjpdgaaGreatDoorBlob9
/- Chapter 11: blobs as a state with the blocks that are theirs; the plain laws of what is kept. -/
namespace Go.Proofs.YtmcgaaihdjpdgaaGreatDoor
open Go.RowKit
set_option linter.unusedVariables false

/-- What is kept is well: marked, counted. -/
def KOk (D : DataW Unit) (l : List KpD) (n : Nat) : Prop := l.length ≤ n ∧ ∀ k ∈ l, Marked D k.text k.mark ∧ 1 ≤ k.refs ∧ k.refs ≤ n ∧ k.text.size ≤ 65536
theorem KOk.mono {D D' : DataW Unit} {l : List KpD} {n n' : Nat} (h : KOk D l n) (hn : n ≤ n') (hD : ∀ s q, Marked D s q → Marked D' s q) : KOk D' l n' :=
  ⟨by have := h.1; omega, fun k hk => by obtain ⟨a, b, c, d⟩ := h.2 k hk; exact ⟨hD _ _ a, b, by omega, d⟩⟩
theorem look_mid_ne {A B : List KpD} {x : KpD} {q : ByteArray} (h : x.mark ≠ q) : lookK q (A ++ x :: B) = (lookK q A).or (lookK q B) := by
  unfold lookK
  rw [List.find?_append, List.find?_cons, decide_eq_false h]
theorem look_app {A B : List KpD} {q : ByteArray} : lookK q (A ++ B) = (lookK q A).or (lookK q B) := by
  unfold lookK
  rw [List.find?_append]
theorem look_none {A : List KpD} {q : ByteArray} (h : ∀ a ∈ A, a.mark ≠ q) : lookK q A = none := by
  unfold lookK
  rw [List.find?_eq_none]
  intro a ha
  simpa using h a ha
theorem look_mid_eq {A B : List KpD} {x : KpD} {q : ByteArray} (h : x.mark = q) (hA : ∀ a ∈ A, a.mark ≠ q) : lookK q (A ++ x :: B) = some x := by
  rw [look_app, look_none hA, Option.none_or]
  unfold lookK
  rw [List.find?_cons, decide_eq_true h]
theorem cmp_ne {a b : ByteArray} (h : cmpB a b < 0) : a ≠ b := by
  rintro rfl
  rw [cmpB_self] at h
  omega
theorem srt_mid {A B : List KpD} {x : KpD} (h : KSrt (A ++ x :: B)) : (∀ a ∈ A, a.mark ≠ x.mark) ∧ (∀ c ∈ B, c.mark ≠ x.mark) ∧ KSrt (A ++ B) := by
  obtain ⟨h1, h2, h3⟩ := List.pairwise_append.1 h
  obtain ⟨h4, h5⟩ := List.pairwise_cons.1 h2
  refine ⟨fun a ha => cmp_ne (h3 a ha x (by simp)), fun c hc => (cmp_ne (h4 c hc)).symm, ?_⟩
  exact List.pairwise_append.2 ⟨h1, h5, fun a ha c hc => h3 a ha c (by simp [hc])⟩
theorem look_mem {l : List KpD} {q : ByteArray} {k : KpD} (h : lookK q l = some k) : k ∈ l ∧ k.mark = q := by
  unfold lookK at h
  exact ⟨List.mem_of_find?_eq_some h, by simpa using List.find?_some h⟩
theorem look_of_mem {l : List KpD} {k : KpD} (hs : KSrt l) (h : k ∈ l) : lookK k.mark l = some k := by
  obtain ⟨A, B, rfl⟩ := List.append_of_mem h
  exact look_mid_eq rfl (srt_mid hs).1
/-- A list about a text that is there. -/
theorem at_split {l : List KpD} {p : Nat} {k : KpD} (h : l[p]? = some k) : l = l.take p ++ k :: l.drop (p + 1) := by
  rw [← drop_head h, List.take_append_drop]
theorem set_split {l : List KpD} {p : Nat} {k x : KpD} (h : l[p]? = some k) : l.set p x = l.take p ++ x :: l.drop (p + 1) := by
  have hl : (l.take p).length = p := by
    have := (List.getElem?_eq_some_iff.1 h).1
    rw [List.length_take]; omega
  conv => lhs; rw [at_split h]
  have h1 := List.set_append_right (s := l.take p) (t := k :: l.drop (p + 1)) p x (by omega)
  rw [h1, hl, Nat.sub_self]
  rfl
def moreK (o : Option KpD) (q s : ByteArray) : KpD := match o with
  | some k => ⟨k.mark, k.text, k.refs + 1⟩
  | none => ⟨q, s, 1⟩
theorem put_parts {l : List KpD} (hs : KSrt l) (q s : ByteArray) : ∃ A B, putK l q s = A ++ moreK (lookK q l) q s :: B ∧ (∀ a ∈ A, a.mark ≠ q) ∧ (∀ c ∈ B, c.mark ≠ q) ∧ KSrt (putK l q s) ∧
    ((∃ k, lookK q l = some k ∧ l = A ++ k :: B) ∨ (lookK q l = none ∧ l = A ++ B)) := by
  rcases look_place (m := q) hs with ⟨k, hk, hkm, hlk⟩ | ⟨hno, hlk⟩
  · have e : putK l q s = l.set (placeK q l) ⟨k.mark, k.text, k.refs + 1⟩ := by unfold putK; rw [hlk]
    have hs' := srt_same (l' := l.set (placeK q l) ⟨k.mark, k.text, k.refs + 1⟩) hs (set_marks hk rfl)
    rw [e, hlk]
    have h1 := hs
    rw [at_split hk] at h1
    obtain ⟨h2, h3, _⟩ := srt_mid h1
    rw [hkm] at h2 h3
    exact ⟨_, _, set_split hk, h2, h3, hs', .inl ⟨k, rfl, at_split hk⟩⟩
  · have e : putK l q s = insK l (placeK q l) ⟨q, s, 1⟩ := by unfold putK; rw [hlk]
    have hs' := insK_srt (x := ⟨q, s, 1⟩) hs hno
    rw [e, hlk]
    have h1 := hs'
    rw [show insK l (placeK q l) ⟨q, s, 1⟩ = l.take (placeK q l) ++ ⟨q, s, 1⟩ :: l.drop (placeK q l) from rfl] at h1
    obtain ⟨h2, h3, _⟩ := srt_mid h1
    exact ⟨_, _, rfl, h2, h3, hs', .inr ⟨rfl, (List.take_append_drop _ _).symm⟩⟩
theorem more_mark {l : List KpD} {q s : ByteArray} : (moreK (lookK q l) q s).mark = q := by
  unfold moreK
  cases h : lookK q l with
  | none => rfl
  | some k => exact (look_mem h).2
/-- What stands under a mark, behind Put. -/
theorem look_put {l : List KpD} (hs : KSrt l) (q s q' : ByteArray) : lookK q' (putK l q s) = if q' = q then some (moreK (lookK q l) q s) else lookK q' l := by
  obtain ⟨A, B, h1, h2, h3, h4, h5⟩ := put_parts hs q s
  by_cases e : q' = q
  · subst e
    rw [if_pos rfl, h1]
    exact look_mid_eq more_mark h2
  · rw [if_neg e, h1, look_mid_ne (by rw [more_mark]; exact fun h => e h.symm)]
    rcases h5 with ⟨k, hk, hl⟩ | ⟨_, hl⟩
    · rw [hl, look_mid_ne (by rw [(look_mem hk).2]; exact fun h => e h.symm)]
    · rw [hl, look_app]
theorem put_ok {D D' : DataW Unit} {l : List KpD} {n : Nat} {q s : ByteArray} (hs : KSrt l) (h : KOk D l n) (hm : Marked D' s q) (hD : ∀ s q, Marked D s q → Marked D' s q) (hz : s.size ≤ 65536) : KOk D' (putK l q s) (n + 1) := by
  obtain ⟨A, B, h1, _, _, _, h5⟩ := put_parts hs q s
  have h' := h.mono (Nat.le_succ n) hD
  rw [h1]
  rcases h5 with ⟨k, hk, hl⟩ | ⟨hk, hl⟩
  · rw [hk]
    obtain ⟨a, b, c, d⟩ := h.2 k (look_mem hk).1
    have hlen := h.1
    rw [hl] at hlen h'
    refine ⟨by simp at hlen ⊢; omega, fun x hx => ?_⟩
    rcases List.mem_append.1 hx with hx | hx
    · exact h'.2 x (by simp [hx])
    · rcases List.mem_cons.1 hx with rfl | hx
      · exact ⟨hD _ _ a, by show 1 ≤ k.refs + 1; omega, by show k.refs + 1 ≤ ((n + 1 : Nat) : Int); omega, d⟩
      · exact h'.2 x (by simp [hx])
  · rw [hk]
    have hlen := h.1
    rw [hl] at hlen h'
    refine ⟨by simp at hlen ⊢; omega, fun x hx => ?_⟩
    rcases List.mem_append.1 hx with hx | hx
    · exact h'.2 x (by simp [hx])
    · rcases List.mem_cons.1 hx with rfl | hx
      · exact ⟨hm, Int.le_refl 1, by show (1 : Int) ≤ ((n + 1 : Nat) : Int); omega, hz⟩
      · exact h'.2 x (by simp [hx])
/-- One less that leads to a mark. -/
def dropK (l : List KpD) (q : ByteArray) : List KpD := match lookK q l with
  | some k => if k.refs = 1 then l.eraseIdx (placeK q l) else l.set (placeK q l) ⟨k.mark, k.text, k.refs - 1⟩
  | none => l
theorem look_drop {l : List KpD} (hs : KSrt l) (q q' : ByteArray) : lookK q' (dropK l q) = if q' = q then (match lookK q l with | some k => if k.refs = 1 then none else some ⟨k.mark, k.text, k.refs - 1⟩ | none => none) else lookK q' l := by
  rcases look_place (m := q) hs with ⟨k, hk, hkm, hlk⟩ | ⟨hno, hlk⟩
  · have h1 := hs
    rw [at_split hk] at h1
    obtain ⟨h2, h3, _⟩ := srt_mid h1
    rw [hkm] at h2 h3
    unfold dropK
    rw [hlk]
    simp only []
    by_cases hr : k.refs = 1
    · rw [if_pos hr, if_pos hr, List.eraseIdx_eq_take_drop_succ, look_app]
      by_cases e : q' = q
      · subst e
        rw [if_pos rfl, look_none h2, look_none h3]; rfl
      · rw [if_neg e]
        conv => rhs; rw [at_split hk]
        rw [look_mid_ne (by rw [hkm]; exact fun h => e h.symm)]
    · rw [if_neg hr, if_neg hr, set_split hk]
      by_cases e : q' = q
      · subst e
        rw [if_pos rfl]
        exact look_mid_eq hkm h2
      · rw [if_neg e, look_mid_ne (by show k.mark ≠ q'; rw [hkm]; exact fun h => e h.symm)]
        conv => rhs; rw [at_split hk]
        rw [look_mid_ne (by rw [hkm]; exact fun h => e h.symm)]
  · unfold dropK
    rw [hlk]
    simp only []
    by_cases e : q' = q
    · subst e; rw [if_pos rfl, hlk]
    · rw [if_neg e]
theorem drop_srt {l : List KpD} (hs : KSrt l) (q : ByteArray) : KSrt (dropK l q) := by
  rcases look_place (m := q) hs with ⟨k, hk, hkm, hlk⟩ | ⟨hno, hlk⟩
  · unfold dropK
    rw [hlk]
    simp only []
    split
    · rw [List.eraseIdx_eq_take_drop_succ]
      have h1 := hs
      rw [at_split hk] at h1
      exact (srt_mid h1).2.2
    · exact srt_same hs (set_marks hk rfl)
  · unfold dropK
    rw [hlk]
    exact hs
theorem drop_ok {D : DataW Unit} {l : List KpD} {n : Nat} (hs : KSrt l) (h : KOk D l n) (q : ByteArray) : KOk D (dropK l q) n := by
  rcases look_place (m := q) hs with ⟨k, hk, hkm, hlk⟩ | ⟨hno, hlk⟩
  · unfold dropK
    rw [hlk]
    simp only []
    obtain ⟨a, b, c, d⟩ := h.2 k (look_mem hlk).1
    split
    · exact ⟨Nat.le_trans (by rw [List.length_eraseIdx]; split <;> omega) h.1, fun x hx => h.2 x (List.mem_of_mem_eraseIdx hx)⟩
    · rename_i hr
      refine ⟨by rw [List.length_set]; exact h.1, fun x hx => ?_⟩
      rcases List.mem_or_eq_of_mem_set hx with hx | rfl
      · exact h.2 x hx
      · exact ⟨a, by show 1 ≤ k.refs - 1; omega, by show k.refs - 1 ≤ (n : Int); omega, d⟩
  · unfold dropK
    rw [hlk]
    exact h
/-- The state. -/
def BS (w : World) (b kb m n : Nat) (D : DataW Unit) (S : Nat → Prop) (l : List KpD) (R : List ByteArray) : Prop :=
  ∃ VL VR, GB w 0 b kb m n D VL VR l R ∧ KOk D l n ∧ R.length ≤ n ∧ ∀ k, S k ↔ (k = b ∨ k = kb ∨ k = m ∨ VL.ownBlock = some k ∨ VR.ownBlock = some k)
/-- What a call may change, and what is its own then. -/
def Stp (S S' : Nat → Prop) (w w' : World) : Prop := Fr S w w' ∧ ∀ k, S' k → S k ∨ w.heap.size ≤ k
theorem Stp.refl (S : Nat → Prop) (w : World) : Stp S S w w := ⟨Fr.refl _ _, fun _ h => .inl h⟩
theorem Stp.trans {S S' S'' : Nat → Prop} {a b c : World} (h : Stp S S' a b) (k : Stp S' S'' b c) : Stp S S'' a c :=
  ⟨h.1.trans k.1 (fun i hi hs => (h.2 i hs).elim id (fun h => absurd h (by omega))), fun i hi => (k.2 i hi).elim (h.2 i) (fun hh => .inr (Nat.le_trans h.1.size hh))⟩
theorem Stp.below {S : Nat → Prop} {w w' : World} (h : Below w.heap.size w w') : Stp S S w w' := ⟨Fr.of_below h _, fun _ h => .inl h⟩
theorem BS.below {w w' : World} {b kb m n : Nat} {D : DataW Unit} {S : Nat → Prop} {l : List KpD} {R : List ByteArray} (h : BS w b kb m n D S l R) (hb : Below w.heap.size w w') : BS w' b kb m n D S l R := by
  obtain ⟨VL, VR, g, h2⟩ := h
  exact ⟨VL, VR, g.below hb, h2⟩
/-- Blocks of others may change. -/
theorem BS.aside {w w' : World} {b kb m n : Nat} {D : DataW Unit} {S T : Nat → Prop} {l : List KpD} {R : List ByteArray} (h : BS w b kb m n D S l R) (hf : Fr T w w') (hT : ∀ k, S k → ¬ T k) : BS w' b kb m n D S l R := by
  obtain ⟨VL, VR, g, h1, h2, h3⟩ := h
  have nb := hT b ((h3 b).2 (.inl rfl))
  have nkb := hT kb ((h3 kb).2 (.inr (.inl rfl)))
  have nm := hT m ((h3 m).2 (.inr (.inr (.inl rfl))))
  refine ⟨VL, VR, ⟨⟨hf.blk g.at_.blk nb, hf.own g.at_.row (fun k hk => hT k ((h3 k).2 (.inr (.inr (.inr (.inl hk)))))), hf.own g.at_.roots (fun k hk => hT k ((h3 k).2 (.inr (.inr (.inr (.inr hk)))))), g.at_.srt⟩, ?_, ?_, g.gd⟩, h1, h2, h3⟩
  · exact hf.blk (show Blk w kb _ _ from g.bk) nkb
  · have hlt := g.mp.lt
    obtain ⟨es, clock, hg2, F, hs, hD⟩ := g.mp
    exact ⟨es, clock, (hf.block m hlt nm).trans hg2, F, hs, hD⟩
theorem BS.srt {w : World} {b kb m n : Nat} {D : DataW Unit} {S : Nat → Prop} {l : List KpD} {R : List ByteArray} (h : BS w b kb m n D S l R) : KSrt l := by
  obtain ⟨VL, VR, g, _⟩ := h
  exact g.at_.srt
theorem BS.ok {w : World} {b kb m n : Nat} {D : DataW Unit} {S : Nat → Prop} {l : List KpD} {R : List ByteArray} (h : BS w b kb m n D S l R) : KOk D l n := by
  obtain ⟨VL, VR, g, h1, _⟩ := h
  exact h1
theorem BS.good {w : World} {b kb m n : Nat} {D : DataW Unit} {S : Nat → Prop} {l : List KpD} {R : List ByteArray} (h : BS w b kb m n D S l R) : GoodD D n := by
  obtain ⟨VL, VR, g, h1, _⟩ := h
  exact g.gd
end Go.Proofs.YtmcgaaihdjpdgaaGreatDoor
/- Chapter 11: Put, Get, Refs, Count, Bytes upon the state. -/
namespace Go.Proofs.YtmcgaaihdjpdgaaGreatDoor
open Go.RowKit
set_option linter.unusedVariables false

def PutOutS (w : World) (b kb m n : Nat) (D : DataW Unit) (S : Nat → Prop) (l : List KpD) (R : List ByteArray) (s : ByteArray) (e : Ending) (w' : World) : Prop :=
  ∃ q D' S', e = .returned (.tuple #[.string q, .int .i64 0]) ∧ q.size = 32 ∧ Marked D' s q ∧ (∀ s' q', Marked D s' q' → Marked D' s' q') ∧ BS w' b kb m (n + 1) D' S' (putK l q s) R ∧ Stp S S' w w'
theorem put_S {b kb m n : Nat} {D : DataW Unit} {S : Nat → Prop} {l : List KpD} {R : List ByteArray} (s : ByteArray) (w : World) (h : BS w b kb m n D S l R) (hn : n ≤ 65000) (hs : s.size ≤ 65536) :
    Calls Tryz.prog 24 #[.pointer (some ⟨b, 0, none⟩), .string s] w (PutOutS w b kb m n D S l R s) := by
  obtain ⟨VL, VR, g, hk, hR, hS⟩ := h
  refine (put_kept s w g hn (by have := hk.1; omega) hs (Nat.zero_le _) (fun k hkk => by obtain ⟨_, a, b, _⟩ := hk.2 k hkk; omega)).mono ?_
  rintro e w' ⟨q, D', VL', rfl, hq, hm, hD, g', hf, ho⟩
  refine ⟨q, D', fun k => k = b ∨ k = kb ∨ k = m ∨ VL'.ownBlock = some k ∨ VR.ownBlock = some k, rfl, hq, hm, hD, ⟨VL', VR, g', put_ok g.at_.srt hk hm hD hs, by omega, fun k => Iff.rfl⟩, hf.mono ?_, ?_⟩
  · rintro k _ (h | h | h)
    · exact (hS k).2 (.inl h)
    · exact (hS k).2 (.inr (.inr (.inl h)))
    · exact (hS k).2 (.inr (.inr (.inr (.inl h))))
  · rintro k (h | h | h | h | h)
    · exact .inl ((hS k).2 (.inl h))
    · exact .inl ((hS k).2 (.inr (.inl h)))
    · exact .inl ((hS k).2 (.inr (.inr (.inl h))))
    · rcases ho with ho | ⟨g2, ho, hg2⟩
      · exact .inl ((hS k).2 (.inr (.inr (.inr (.inl (ho ▸ h))))))
      · rw [ho] at h
        injection h with h
        exact .inr (h ▸ hg2)
    · exact .inl ((hS k).2 (.inr (.inr (.inr (.inr h)))))
set_option maxRecDepth 100000 in
theorem put_long {b kb m n : Nat} {D : DataW Unit} {S : Nat → Prop} {l : List KpD} {R : List ByteArray} (s : ByteArray) (w : World) (h : BS w b kb m n D S l R) (hs : 65536 < s.size) :
    Calls Tryz.prog 24 #[.pointer (some ⟨b, 0, none⟩), .string s] w fun e w' => e = .returned (.tuple #[.string ⟨#[]⟩, .int .i64 4]) ∧ Below w.heap.size w w' := by
  obtain ⟨VL, VR, g, hk, hR, hS⟩ := h
  have H := Lib.hid (nonB_any w g)
  have ns : (65536 : Int) < s.size := by omega
  clear g hk hR hS
  go_enter Tryz.func24, Tryz.ntmps24
  go_wp2_with (go_at_call 18; (with_reducible refine (H.out).mono ?_); rintro e w2 ⟨rfl, hb⟩)
  go_ret2
  exact ⟨rfl, hb⟩
/-- What a mark tells: its text, how many lead to it. -/
def getV (o : Option KpD) : Value := match o with
  | some k => .tuple #[.string k.text, .int .i64 0]
  | none => .tuple #[.string ⟨#[]⟩, .int .i64 8]
def refV (o : Option KpD) : Int := match o with
  | some k => k.refs
  | none => 0
set_option maxHeartbeats 2000000 in
set_option maxRecDepth 100000 in
theorem get_S {b kb m n : Nat} {D : DataW Unit} {S : Nat → Prop} {l : List KpD} {R : List ByteArray} (q : ByteArray) (w : World) (h : BS w b kb m n D S l R) (hn : n ≤ 65000) :
    Calls Tryz.prog 30 #[.pointer (some ⟨b, 0, none⟩), .string q] w fun e w' => e = .returned (getV (lookK q l)) ∧ Below w.heap.size w w' := by
  obtain ⟨VL, VR, g, hk, hR, hS⟩ := h
  have hl := hk.1
  have H := Lib.hid (nonB_any w g)
  have HP := Lib.hid (fun W (h : Below w.heap.size w W) => place_any 0 b _ VL VR l R q W (by omega) (g.below h).at_)
  unfold PlOut at HP
  have HG := Lib.hid (fun W (h : Below w.heap.size w W) => g.below h)
  rcases look_place (m := q) g.at_.srt with ⟨k, hk, hkm, hlk⟩ | ⟨hno, hlk⟩
  · have hfd : foundK q l = true := by unfold foundK; rw [hlk]; rfl
    rw [hfd] at HP
    rw [hlk]
    obtain ⟨p, hp⟩ : ∃ p, p = placeK q l := ⟨_, rfl⟩
    rw [← hp] at HP hk
    have hpl : p < l.length := (List.getElem?_eq_some_iff.1 hk).1
    have pl : (p : Int) < l.length := by omega
    have HK := Lib.hid (kcell_at hk)
    obtain ⟨gg, cap, rfl⟩ := own_formK g.at_.row (by omega)
    clear g hR hS hk hlk hfd hkm hp
    go_enter Tryz.func30, Tryz.ntmps30
    go_wp2_with (first
      | (go_at_call 18; (with_reducible refine (H.out).mono ?_); rintro e w2 ⟨rfl, hb⟩)
      | (go_at_call 42; (with_reducible refine (HP.out _ hb).mono ?_); rintro e w3 ⟨rfl, hb3⟩; have hB := below_on hb hb3; have G3 := HG.out _ hB; obtain ⟨k0, k1, k2, _, _, _⟩ := tcellsK G3.at_.blk; have x1 := (G3.at_.row.cellAt (p * 3 + 1) (by omega)).trans HK.out.2.1; clear G3))
    go_ret2
    exact ⟨rfl, hB⟩
  · have hfd : foundK q l = false := by unfold foundK; rw [hlk]; rfl
    rw [hfd] at HP
    rw [hlk]
    clear g hk hR hS hno hlk hfd
    go_enter Tryz.func30, Tryz.ntmps30
    go_wp2_with (first
      | (go_at_call 18; (with_reducible refine (H.out).mono ?_); rintro e w2 ⟨rfl, hb⟩)
      | (go_at_call 42; (with_reducible refine (HP.out _ hb).mono ?_); rintro e w3 ⟨rfl, hb3⟩; have hB := below_on hb hb3))
    go_ret2
    exact ⟨rfl, hB⟩
set_option maxHeartbeats 2000000 in
set_option maxRecDepth 100000 in
theorem refs_S {b kb m n : Nat} {D : DataW Unit} {S : Nat → Prop} {l : List KpD} {R : List ByteArray} (q : ByteArray) (w : World) (h : BS w b kb m n D S l R) (hn : n ≤ 65000) :
    Calls Tryz.prog 27 #[.pointer (some ⟨b, 0, none⟩), .string q] w fun e w' => e = .returned (.int .i64 (refV (lookK q l))) ∧ Below w.heap.size w w' := by
  obtain ⟨VL, VR, g, hk, hR, hS⟩ := h
  have hl := hk.1
  have H := Lib.hid (nonB_any w g)
  have HP := Lib.hid (fun W (h : Below w.heap.size w W) => place_any 0 b _ VL VR l R q W (by omega) (g.below h).at_)
  unfold PlOut at HP
  have HG := Lib.hid (fun W (h : Below w.heap.size w W) => g.below h)
  rcases look_place (m := q) g.at_.srt with ⟨k, hk, hkm, hlk⟩ | ⟨hno, hlk⟩
  · have hfd : foundK q l = true := by unfold foundK; rw [hlk]; rfl
    rw [hfd] at HP
    rw [hlk]
    obtain ⟨p, hp⟩ : ∃ p, p = placeK q l := ⟨_, rfl⟩
    rw [← hp] at HP hk
    have hpl : p < l.length := (List.getElem?_eq_some_iff.1 hk).1
    have pl : (p : Int) < l.length := by omega
    have HK := Lib.hid (kcell_at hk)
    obtain ⟨gg, cap, rfl⟩ := own_formK g.at_.row (by omega)
    clear g hR hS hk hlk hfd hkm hp
    go_enter Tryz.func27, Tryz.ntmps27
    go_wp2_with (first
      | (go_at_call 18; (with_reducible refine (H.out).mono ?_); rintro e w2 ⟨rfl, hb⟩)
      | (go_at_call 42; (with_reducible refine (HP.out _ hb).mono ?_); rintro e w3 ⟨rfl, hb3⟩; have hB := below_on hb hb3; have G3 := HG.out _ hB; obtain ⟨k0, k1, k2, _, _, _⟩ := tcellsK G3.at_.blk; have x1 := (G3.at_.row.cellAt (p * 3 + 2) (by omega)).trans HK.out.2.2; clear G3))
    go_ret
    exact ⟨rfl, hB⟩
  · have hfd : foundK q l = false := by unfold foundK; rw [hlk]; rfl
    rw [hfd] at HP
    rw [hlk]
    clear g hk hR hS hno hlk hfd
    go_enter Tryz.func27, Tryz.ntmps27
    go_wp2_with (first
      | (go_at_call 18; (with_reducible refine (H.out).mono ?_); rintro e w2 ⟨rfl, hb⟩)
      | (go_at_call 42; (with_reducible refine (HP.out _ hb).mono ?_); rintro e w3 ⟨rfl, hb3⟩; have hB := below_on hb hb3))
    go_ret
    exact ⟨rfl, hB⟩
set_option maxRecDepth 100000 in
theorem count_S {b kb m n : Nat} {D : DataW Unit} {S : Nat → Prop} {l : List KpD} {R : List ByteArray} (w : World) (h : BS w b kb m n D S l R) :
    Calls Tryz.prog 15 #[.pointer (some ⟨b, 0, none⟩)] w fun e w' => e = .returned (.int .i64 l.length) ∧ Below w.heap.size w w' := by
  obtain ⟨VL, VR, g, hk, hR, hS⟩ := h
  have H := Lib.hid (nonB_any w g)
  obtain ⟨A, c, rfl, _, _, _⟩ := own_arr g.at_.row
  have HG := Lib.hid (fun W (h : Below w.heap.size w W) => (g.below h).at_.blk)
  clear g hk hR hS
  go_enter Tryz.func15, Tryz.ntmps15
  go_wp2_with (go_at_call 18; (with_reducible refine (H.out).mono ?_); rintro e w2 ⟨rfl, hb⟩; obtain ⟨k0, k1, k2, _, _, _⟩ := tcellsK (HG.out _ hb))
  go_ret
  exact ⟨rfl, hb⟩
end Go.Proofs.YtmcgaaihdjpdgaaGreatDoor
/- Chapter 11: Drop, Bytes upon the state. -/
namespace Go.Proofs.YtmcgaaihdjpdgaaGreatDoor
open Go.RowKit
set_option linter.unusedVariables false

def sumK (l : List KpD) : Nat := (l.map fun k => k.text.size).sum
theorem sumK_le {D : DataW Unit} {l : List KpD} {n : Nat} (h : KOk D l n) : sumK l ≤ l.length * 65536 := by
  have h2 : ∀ l : List KpD, (∀ k ∈ l, k.text.size ≤ 65536) → sumK l ≤ l.length * 65536 := by
    intro l
    induction l with
    | nil => intro _; simp [sumK]
    | cons x l ih =>
      intro h
      have h1 := ih (fun k hk => h k (by simp [hk]))
      have h2 := h x (by simp)
      unfold sumK at h1 ⊢
      simp
      omega
  exact h2 l (fun k hk => (h.2 k hk).2.2.2)
theorem sumK_take {l : List KpD} {i : Nat} {k : KpD} (h : l[i]? = some k) : sumK (l.take (i + 1)) = sumK (l.take i) + k.text.size := by
  rw [take_snoc h]
  unfold sumK
  simp
theorem sumK_take_le (l : List KpD) (i : Nat) : sumK (l.take i) ≤ sumK l := by
  conv => rhs; rw [← List.take_append_drop i l]
  unfold sumK
  rw [List.map_append, List.sum_append]
  omega
theorem bk_ne {w : World} {b kb m : Nat} {cs : Array Value} (h : Blk w b 52 cs) (h' : Bk w kb m) : kb ≠ b := by
  intro e
  have h1 : w.heap[b]? = _ := h
  have h2 : w.heap[kb]? = _ := h'
  rw [e, h1] at h2
  injection h2 with h2
  injection h2 with _ h3 _
  exact absurd h3 (by decide)
/-- Another row of texts stored. -/
theorem GB.listed {w w' : World} {b kb m n : Nat} {D : DataW Unit} {VL V4 VR : Value} {l l' : List KpD} {R : List ByteArray} (h : GB w 0 b kb m n D VL VR l R) (hg : w.grownBy w' VL.ownBlock) (hr : w'.ownsRow 0 60 3 V4 l'.length (kcells l')) (hs : KSrt l') :
    GB (w'.setCell ⟨b, 1, none⟩ V4) 0 b kb m n D V4 VR l' R ∧ Fr (fun k => k = b ∨ VL.ownBlock = some k) w (w'.setCell ⟨b, 1, none⟩ V4) := by
  have nb : VL.ownBlock ≠ some b := row_ne_blk h.at_.row h.at_.blk (by decide)
  have hb : Blk w' b 52 #[.pointer (some ⟨kb, 0, none⟩), VL, VR] := (hg.block b h.at_.blk.lt (fun e => nb e.symm)).trans h.at_.blk
  have F1 := Fr.setCell (S := fun k => k = b) (Fr.refl (fun k => k = b) w') (p := ⟨b, 1, none⟩) (.inl rfl) V4
  have G1 := F1.grown (row := some b) (fun k hk => by rw [hk])
  have r4 : w'.ownsRow 0 9 1 VR R.length (R.map Value.string) := h.at_.roots.kept hg (own_apartB h.at_.roots h.at_.row (by decide))
  have b4 : Bk w' kb m := (hg.block kb (Blk.lt (show Blk _ kb _ _ from h.bk)) (fun e => row_ne_blk h.at_.row (show Blk _ kb _ _ from h.bk) (by decide) e.symm)).trans h.bk
  have m4 : MapAt w' m n D := MapAt.grown h.mp hg (row_ne_map h.at_.row h.mp)
  refine ⟨⟨⟨hb.set_ 1 _, F1.own hr (fun k hk e => row_ne_blk hr hb (by decide) (by rw [hk, e])), F1.own r4 (fun k hk e => row_ne_blk r4 hb (by decide) (by rw [hk, e])), hs⟩, F1.blk b4 (bk_ne hb b4), MapAt.grown m4 G1 (fun e => blk_ne_map hb m4 (by injection e)), h.gd⟩, ?_⟩
  exact (Fr.of_grown hg (fun k hk => .inr hk)).setCell (p := ⟨b, 1, none⟩) (.inl (.inl rfl)) V4
/-- Another row of roots stored. -/
theorem GB.rooted {w w' : World} {b kb m n : Nat} {D : DataW Unit} {VL V4 VR : Value} {l : List KpD} {R R' : List ByteArray} (h : GB w 0 b kb m n D VL VR l R) (hg : w.grownBy w' VR.ownBlock) (hr : w'.ownsRow 0 9 1 V4 R'.length (R'.map Value.string)) :
    GB (w'.setCell ⟨b, 2, none⟩ V4) 0 b kb m n D VL V4 l R' ∧ Fr (fun k => k = b ∨ VR.ownBlock = some k) w (w'.setCell ⟨b, 2, none⟩ V4) := by
  have nb : VR.ownBlock ≠ some b := row_ne_blk h.at_.roots h.at_.blk (by decide)
  have hb : Blk w' b 52 #[.pointer (some ⟨kb, 0, none⟩), VL, VR] := (hg.block b h.at_.blk.lt (fun e => nb e.symm)).trans h.at_.blk
  have F1 := Fr.setCell (S := fun k => k = b) (Fr.refl (fun k => k = b) w') (p := ⟨b, 2, none⟩) (.inl rfl) V4
  have G1 := F1.grown (row := some b) (fun k hk => by rw [hk])
  have r4 : w'.ownsRow 0 60 3 VL l.length (kcells l) := h.at_.row.kept hg (own_apartB h.at_.row h.at_.roots (by decide))
  have b4 : Bk w' kb m := (hg.block kb (Blk.lt (show Blk _ kb _ _ from h.bk)) (fun e => row_ne_blk h.at_.roots (show Blk _ kb _ _ from h.bk) (by decide) e.symm)).trans h.bk
  have m4 : MapAt w' m n D := MapAt.grown h.mp hg (row_ne_map h.at_.roots h.mp)
  refine ⟨⟨⟨hb.set_ 2 _, F1.own r4 (fun k hk e => row_ne_blk r4 hb (by decide) (by rw [hk, e])), F1.own hr (fun k hk e => row_ne_blk hr hb (by decide) (by rw [hk, e])), h.at_.srt⟩, F1.blk b4 (bk_ne hb b4), MapAt.grown m4 G1 (fun e => blk_ne_map hb m4 (by injection e)), h.gd⟩, ?_⟩
  exact (Fr.of_grown hg (fun k hk => .inr hk)).setCell (p := ⟨b, 2, none⟩) (.inl (.inl rfl)) V4
theorem own_hd {w : World} {B sz n g : Nat} {e : TypeId} {v : Value} {xs : List Value} (h : w.ownsRow B e sz v n xs) (hg : v.ownBlock = some g) : ∃ cap, v = .slice (some ⟨g, 0, none⟩) n cap := by
  rcases h.2 with ⟨rfl, _⟩ | ⟨g2, cap, cur, rfl, _⟩
  · cases hg
  · injection hg with hg
    change g2 = g at hg
    subst hg
    exact ⟨cap, rfl⟩
theorem erase_set (l : List KpD) (p : Nat) (x : KpD) : (l.set p x).eraseIdx p = l.eraseIdx p := by
  rw [List.eraseIdx_eq_take_drop_succ, List.eraseIdx_eq_take_drop_succ, List.take_set, List.drop_set_of_lt (by omega)]
  congr 1
  rw [List.set_eq_of_length_le (by rw [List.length_take]; omega)]
theorem erase_srt {l : List KpD} (hs : KSrt l) (p : Nat) : KSrt (l.eraseIdx p) := hs.sublist (List.eraseIdx_sublist l p)
def DropOutK (w : World) (b kb m n : Nat) (D : DataW Unit) (VL VR : Value) (l : List KpD) (R : List ByteArray) (q : ByteArray) (e : Ending) (w' : World) : Prop :=
  ∃ VL', e = .returned (.int .i64 (if (lookK q l).isSome then 0 else 8)) ∧ GB w' 0 b kb m n D VL' VR (dropK l q) R ∧ Fr (fun k => k = b ∨ VL.ownBlock = some k) w w' ∧ VL'.ownBlock = VL.ownBlock
set_option maxHeartbeats 4000000 in
set_option maxRecDepth 100000 in
theorem drop_kept {b kb m n : Nat} {D : DataW Unit} {VL VR : Value} {l : List KpD} {R : List ByteArray} (q : ByteArray) (w : World) (h : GB w 0 b kb m n D VL VR l R) (hl : l.length ≤ 90000)
    (hrf : ∀ k ∈ l, 1 ≤ k.refs ∧ k.refs ≤ 1000000000) :
    Calls Tryz.prog 29 #[.pointer (some ⟨b, 0, none⟩), .string q] w (DropOutK w b kb m n D VL VR l R q) := by
  have H0 := Lib.hid h
  have HRF := Lib.hid hrf
  have HN := Lib.hid (nonB_any w h)
  have HP := Lib.hid (fun W (h : Below w.heap.size w W) => place_any 0 b _ VL VR l R q W (by omega) (H0.out.below h).at_)
  unfold PlOut at HP
  clear h hrf
  rcases look_place (m := q) H0.out.at_.srt with ⟨k, hk, hkm, hlk⟩ | ⟨hno, hlk⟩
  · have hfd : foundK q l = true := by unfold foundK; rw [hlk]; rfl
    rw [hfd] at HP
    obtain ⟨p, hp⟩ : ∃ p, p = placeK q l := ⟨_, rfl⟩
    have hpl : p < l.length := by rw [hp]; exact (List.getElem?_eq_some_iff.1 hk).1
    have HPK : Hid (dropK l q = if k.refs = 1 then l.eraseIdx p else l.set p ⟨k.mark, k.text, k.refs - 1⟩) := Lib.hid (by unfold dropK; rw [hlk, hp])
    have HLK : Hid ((lookK q l).isSome = true) := Lib.hid (by rw [hlk]; rfl)
    rw [← hp] at HP hk
    have pl : (p : Int) < l.length := by omega
    have hr := HRF.out k (List.mem_of_getElem? hk)
    have HK := Lib.hid hk
    have hwr : IntKind.i64.wrap (k.refs - 1) = k.refs - 1 := by rw [IntKind.wrap_i64]; omega
    obtain ⟨g, cap, rfl⟩ := own_formK H0.out.at_.row (by omega)
    clear hk hlk hfd hkm hp
    by_cases hr1 : k.refs = 1
    · rw [if_pos hr1] at HPK
      have hsub : k.refs - 1 = 0 := by omega
      rw [hsub] at hwr
      go_enter Tryz.func29, Tryz.ntmps29
      go_wp2_with (first
        | (go_at_call 18; (with_reducible refine (HN.out).mono ?_); rintro e w2 ⟨rfl, hb⟩)
        | (go_at_call 42; (with_reducible refine (HP.out _ hb).mono ?_); rintro e w3 ⟨rfl, hb3⟩; have hB := below_on hb hb3; have H3 := Lib.hid (H0.out.below hB); obtain ⟨k0, k1, k2, z0, z1, z2⟩ := tcellsK H3.out.at_.blk; have x2 := (H3.out.at_.row.cellAt (p * 3 + 2) (by omega)).trans (kcell_at HK.out).2.2; have p2 := H3.out.at_.row.frozenAt (p * 3 + 2); have hgb := row_ne_blk H3.out.at_.row H3.out.at_.blk (by decide); have n1 : ¬ g = b := (fun e => hgb (by rw [e]; rfl)); have n2 : ¬ b = g := (fun e => n1 e.symm); have N1 := Lib.hid n1; have hst := H3.out.at_.row.stored (p * 3 + 2) (.int .i64 0); rw [setK_cells l p k 0 HK.out] at hst; have HST := Lib.hid hst; clear hst)
        | (go_at_call 47; have h4 := H3.out.rowed (l' := l.set p ⟨k.mark, k.text, 0⟩) HST.out.2 (by rw [List.length_set]; exact HST.out.1) (srt_same H3.out.at_.srt (set_marks HK.out rfl)); have H4 := Lib.hid h4; clear h4; have hrow4 := H4.out.at_.row; rw [List.length_set] at hrow4; (with_reducible refine (delete_any _ 0 _ (l.set p ⟨k.mark, k.text, 0⟩) p H4.out.at_.row (by rw [List.length_set]; exact hpl) (by rw [List.length_set]; omega)).mono ?_); rintro e w4 ⟨V4, rfl, ho4, hgr4, hoe4⟩; rw [erase_set] at ho4; obtain ⟨cap4, rfl⟩ := own_hd ho4 (by rw [hoe4]; rfl); have hfin := H4.out.listed hgr4 ho4 (erase_srt H3.out.at_.srt p); have hb4 : Blk w4 b 52 #[.pointer (some ⟨kb, 0, none⟩), .slice (some ⟨g, 0, none⟩) l.length cap, VR] := (hgr4.block b H4.out.at_.blk.lt (fun e => row_ne_blk H4.out.at_.row H4.out.at_.blk (by decide) e.symm)).trans H4.out.at_.blk; obtain ⟨k0, k1, k2, z0, z1, z2⟩ := tcellsK hb4; have HFIN := Lib.hid hfin; have HOE := Lib.hid hoe4; clear ho4 hgr4 hb4 hoe4 hfin hrow4)
        | fail)
      go_ret
      unfold DropOutK
      rw [HLK.out, HPK.out]
      refine ⟨_, rfl, HFIN.out.1, ?_, HOE.out⟩
      exact (((Fr.of_below hB _).setCell (p := ⟨g, p * 3 + 2, none⟩) (.inl (.inr rfl)) _).next HFIN.out.2)
    · rw [if_neg hr1] at HPK
      have hz : (k.refs - 1 == 0) = false := by rw [beq_eq_false_iff_ne]; omega
      have hz2 : ¬ k.refs - 1 = 0 := by omega
      go_enter Tryz.func29, Tryz.ntmps29
      go_wp2_with (first
        | (go_at_call 18; (with_reducible refine (HN.out).mono ?_); rintro e w2 ⟨rfl, hb⟩)
        | (go_at_call 42; (with_reducible refine (HP.out _ hb).mono ?_); rintro e w3 ⟨rfl, hb3⟩; have hB := below_on hb hb3; have H3 := Lib.hid (H0.out.below hB); obtain ⟨k0, k1, k2, z0, z1, z2⟩ := tcellsK H3.out.at_.blk; have x2 := (H3.out.at_.row.cellAt (p * 3 + 2) (by omega)).trans (kcell_at HK.out).2.2; have p2 := H3.out.at_.row.frozenAt (p * 3 + 2); have hgb := row_ne_blk H3.out.at_.row H3.out.at_.blk (by decide); have n1 : ¬ g = b := (fun e => hgb (by rw [e]; rfl)); have n2 : ¬ b = g := (fun e => n1 e.symm); have hst := H3.out.at_.row.stored (p * 3 + 2) (.int .i64 (k.refs - 1)); rw [setK_cells l p k (k.refs - 1) HK.out] at hst; have HST := Lib.hid hst; clear hst hgb)
        | fail)
      go_ret
      unfold DropOutK
      rw [HLK.out, HPK.out]
      refine ⟨_, rfl, H3.out.rowed (l' := l.set p ⟨k.mark, k.text, k.refs - 1⟩) HST.out.2 (by rw [List.length_set]; exact HST.out.1) (srt_same H3.out.at_.srt (set_marks HK.out rfl)), ?_, rfl⟩
      exact (Fr.of_below hB _).setCell (p := ⟨g, p * 3 + 2, none⟩) (.inl (.inr rfl)) _
  · have hfd : foundK q l = false := by unfold foundK; rw [hlk]; rfl
    rw [hfd] at HP
    have HLK : Hid ((lookK q l).isSome = false) := Lib.hid (by rw [hlk]; rfl)
    have HPK : Hid (dropK l q = l) := Lib.hid (by unfold dropK; rw [hlk])
    clear hno hlk hfd
    go_enter Tryz.func29, Tryz.ntmps29
    go_wp2_with (first
      | (go_at_call 18; (with_reducible refine (HN.out).mono ?_); rintro e w2 ⟨rfl, hb⟩)
      | (go_at_call 42; (with_reducible refine (HP.out _ hb).mono ?_); rintro e w3 ⟨rfl, hb3⟩; have hB := below_on hb hb3))
    go_ret
    unfold DropOutK
    rw [HLK.out, HPK.out]
    exact ⟨VL, rfl, H0.out.below hB, Fr.of_below hB _, rfl⟩
set_option maxHeartbeats 4000000 in
set_option maxRecDepth 100000 in
theorem bytes_S {b kb m n : Nat} {D : DataW Unit} {S : Nat → Prop} {l : List KpD} {R : List ByteArray} (w : World) (h : BS w b kb m n D S l R) (hn : n ≤ 65000) :
    Calls Tryz.prog 16 #[.pointer (some ⟨b, 0, none⟩)] w fun e w' => e = .returned (.int .i64 (sumK l)) ∧ Below w.heap.size w w' := by
  obtain ⟨VL, VR, g, hk, hR, hS⟩ := h
  have H := Lib.hid (nonB_any w g)
  have hsum := sumK_le hk
  have hlen := hk.1
  obtain ⟨A, c, rfl, _, ha, _⟩ := own_arr g.at_.row
  have HA := Lib.hid ha
  have HG := Lib.hid (fun W (h : Below w.heap.size w W) => (g.below h).at_.blk)
  have HKX := Lib.hid (fun k (hk' : k ∈ l) => (hk.2 k hk').2.2.2)
  clear g hk hR hS ha
  go_enter Tryz.func16, Tryz.ntmps16
  go_wp2_with (go_at_call 18; (with_reducible refine (H.out).mono ?_); rintro e w2 ⟨rfl, hb⟩; obtain ⟨k0, k1, k2, _, _, _⟩ := tcellsK (HG.out _ hb))
  have hcl : ∀ i, l.length ≤ i → sumK (l.take i) = sumK l := fun i h => by rw [List.take_of_length_le h]
  go_loopw [3, 13] (fun vn vi wr => ∃ i : Nat, i ≤ l.length ∧ vi = .int .i64 i ∧ vn = .int .i64 (sumK (l.take i) : Nat) ∧ Below w.heap.size w wr) (fun _ vi _ => l.length - (intOf vi).toNat)
  case atStart => exact ⟨0, Nat.zero_le _, rfl, rfl, hb⟩
  case round =>
    obtain ⟨i, hi, rfl, rfl, hB⟩ := hrel
    by_cases hlt : i < l.length
    · obtain ⟨k, hk⟩ : ∃ k, l[i]? = some k := ⟨_, List.getElem?_eq_getElem hlt⟩
      obtain ⟨gA, oA, rfl, hbA, hcell⟩ := HA.out.2 (by omega)
      obtain ⟨c0, c1, c2⟩ := kept_cells (fun j u h => (hB.cell (p := ⟨gA, oA + j, none⟩) hbA).trans (hcell j u h)) hk
      have il : (i : Int) < l.length := by omega
      have hkx := HKX.out k (List.mem_of_getElem? hk)
      have h1 := sumK_take_le l i
      have hsn : ((sumK (l.take (i + 1)) : Nat) : Int) = (sumK (l.take i) : Nat) + k.text.size := by rw [sumK_take hk]; omega
      clear hcell hk
      go_wp2
      go_roundw
      case rel => exact ⟨i + 1, by omega, by go_num, by rw [hsn], by first | exact hB | exact hB.alloc hB.size _ | exact (hB.alloc hB.size _).setCell hB.size _⟩
      case measure => simp [intOf] <;> omega
    · have hke : i = l.length := by omega
      subst hke
      rw [List.take_length]
      go_wp2
      go_ret
      exact ⟨rfl, hB⟩
end Go.Proofs.YtmcgaaihdjpdgaaGreatDoor
/- Chapter 11: what is kept, told by texts (plain). -/
namespace Go.Proofs.YtmcgaaihdjpdgaaGreatDoor
open Go.RowKit
set_option linter.unusedVariables false

def findT (s : ByteArray) (l : List KpD) : Option KpD := l.find? fun k => decide (k.text = s)
/-- How many lead to a text. -/
def cntT (l : List KpD) (s : ByteArray) : Int := refV (findT s l)
theorem find_same {p q : KpD → Bool} : ∀ {l : List KpD}, (∀ k ∈ l, p k = q k) → l.find? p = l.find? q
  | [], _ => rfl
  | x :: l, h => by
    rw [List.find?_cons, List.find?_cons, h x (by simp), find_same (fun k hk => h k (by simp [hk]))]
theorem look_find {D : DataW Unit} {l : List KpD} {n n' : Nat} {s q : ByteArray} (hk : KOk D l n) (hg : GoodD D n') (hm : Marked D s q) : lookK q l = findT s l := by
  unfold lookK findT
  refine find_same fun k h => ?_
  obtain ⟨h1, _⟩ := hk.2 k h
  by_cases e : k.text = s
  · rw [decide_eq_true e]
    rw [e] at h1
    exact decide_eq_true (marked_fun h1 hm)
  · rw [decide_eq_false e]
    exact decide_eq_false (fun e2 => e (marked_inj hg h1 (e2 ▸ hm)))
theorem find_none_of {D : DataW Unit} {l : List KpD} {n : Nat} {s : ByteArray} (hk : KOk D l n) (h : ∀ q, ¬ Marked D s q) : findT s l = none := by
  unfold findT
  rw [List.find?_eq_none]
  intro k hkl
  simp
  intro e
  exact h k.mark (e ▸ (hk.2 k hkl).1)
theorem find_mem {l : List KpD} {s : ByteArray} {k : KpD} (h : findT s l = some k) : k ∈ l ∧ k.text = s := by
  unfold findT at h
  exact ⟨List.mem_of_find?_eq_some h, by simpa using List.find?_some h⟩
theorem cnt_none {l : List KpD} {s : ByteArray} (h : findT s l = none) : cntT l s = 0 := by unfold cntT; rw [h]; rfl
theorem cnt_some {l : List KpD} {s : ByteArray} {k : KpD} (h : findT s l = some k) : cntT l s = k.refs := by unfold cntT; rw [h]; rfl
theorem cnt_nonneg {D : DataW Unit} {l : List KpD} {n : Nat} (hk : KOk D l n) (s : ByteArray) : 0 ≤ cntT l s ∧ cntT l s ≤ n := by
  cases h : findT s l with
  | none => rw [cnt_none h]; omega
  | some k =>
    rw [cnt_some h]
    obtain ⟨_, h1, h2, _⟩ := hk.2 k (find_mem h).1
    omega
theorem cnt_pos {D : DataW Unit} {l : List KpD} {n : Nat} (hk : KOk D l n) {s : ByteArray} (h : 0 < cntT l s) : ∃ k, findT s l = some k ∧ k.refs = cntT l s ∧ k.text = s := by
  cases h2 : findT s l with
  | none => rw [cnt_none h2] at h; omega
  | some k => exact ⟨k, rfl, (cnt_some h2).symm, (find_mem h2).2⟩
theorem cnt_zero {D : DataW Unit} {l : List KpD} {n : Nat} (hk : KOk D l n) {s : ByteArray} (h : ¬ 0 < cntT l s) : findT s l = none := by
  cases h2 : findT s l with
  | none => rfl
  | some k =>
    rw [cnt_some h2] at h
    obtain ⟨_, h1, _⟩ := hk.2 k (find_mem h2).1
    omega
theorem cnt_put {D D' : DataW Unit} {l : List KpD} {n n' : Nat} {q s : ByteArray} (hs : KSrt l) (hk : KOk D l n) (hg : GoodD D' n') (hm : Marked D' s q) (hD : ∀ s q, Marked D s q → Marked D' s q) (hz : s.size ≤ 65536) (t : ByteArray) :
    cntT (putK l q s) t = cntT l t + if t = s then 1 else 0 := by
  have hk' := put_ok hs hk hm hD hz
  have hk2 := hk.mono (Nat.le_refl n) hD
  by_cases e : t = s
  · subst e
    rw [if_pos rfl]
    unfold cntT
    rw [← look_find hk' hg hm, ← look_find hk2 hg hm, look_put hs, if_pos rfl]
    cases lookK q l with
    | none => rfl
    | some k => rfl
  · rw [if_neg e, Int.add_zero]
    by_cases h : ∃ q', Marked D' t q'
    · obtain ⟨q', hq'⟩ := h
      have hne : q' ≠ q := fun e2 => e (marked_inj hg hq' (e2 ▸ hm))
      unfold cntT
      rw [← look_find hk' hg hq', ← look_find hk2 hg hq', look_put hs, if_neg hne]
    · have h2 : ∀ q, ¬ Marked D' t q := fun q hq => h ⟨q, hq⟩
      rw [cnt_none (find_none_of hk' h2), cnt_none (find_none_of hk2 h2)]
theorem cnt_drop {D : DataW Unit} {l : List KpD} {n n' : Nat} {q s : ByteArray} (hs : KSrt l) (hk : KOk D l n) (hg : GoodD D n') (hm : Marked D s q) (t : ByteArray) :
    cntT (dropK l q) t = cntT l t - if t = s ∧ 0 < cntT l s then 1 else 0 := by
  have hk' := drop_ok hs hk q
  by_cases e : t = s
  · subst e
    rw [show cntT (dropK l q) t = refV (lookK q (dropK l q)) from by unfold cntT; rw [look_find hk' hg hm], look_drop hs, if_pos rfl, look_find hk hg hm]
    cases h : findT t l with
    | none => rw [cnt_none h, if_neg (by omega)]; rfl
    | some k =>
      obtain ⟨_, h2, _⟩ := hk.2 k (find_mem h).1
      rw [cnt_some h, if_pos ⟨rfl, by omega⟩]
      simp only []
      by_cases hr : k.refs = 1
      · rw [if_pos hr, hr]; rfl
      · rw [if_neg hr]; rfl
  · rw [if_neg (fun h => e h.1), Int.sub_zero]
    by_cases h : ∃ q', Marked D t q'
    · obtain ⟨q', hq'⟩ := h
      have hne : q' ≠ q := fun e2 => e (marked_inj hg hq' (e2 ▸ hm))
      unfold cntT
      rw [← look_find hk' hg hq', ← look_find hk hg hq', look_drop hs, if_neg hne]
    · have h2 : ∀ q, ¬ Marked D t q := fun q hq => h ⟨q, hq⟩
      rw [cnt_none (find_none_of hk' h2), cnt_none (find_none_of hk h2)]
theorem texts_nodup {D : DataW Unit} {l : List KpD} {n : Nat} (hs : KSrt l) (hk : KOk D l n) : (l.map (·.text)).Nodup := by
  unfold List.Nodup
  rw [List.pairwise_map]
  refine hs.imp_of_mem fun {a b} ha hb h e => ?_
  have h1 := (hk.2 a ha).1
  have h2 := (hk.2 b hb).1
  rw [e] at h1
  exact cmp_ne h (marked_fun h1 h2)
theorem mem_texts {D : DataW Unit} {l : List KpD} {n : Nat} (hk : KOk D l n) (s : ByteArray) : s ∈ l.map (·.text) ↔ 0 < cntT l s := by
  constructor
  · intro h
    obtain ⟨k, hkl, rfl⟩ := List.mem_map.1 h
    cases h2 : findT k.text l with
    | none =>
      unfold findT at h2
      rw [List.find?_eq_none] at h2
      exact absurd (decide_eq_true rfl) (h2 k hkl)
    | some k2 =>
      rw [cnt_some h2]
      have := (hk.2 k2 (find_mem h2).1).2.1
      omega
  · intro h
    obtain ⟨k, h1, _, h2⟩ := cnt_pos hk h
    exact List.mem_map.2 ⟨k, (find_mem h1).1, h2⟩
theorem count_one {α : Type} [DecidableEq α] {a : List α} (h : a.Nodup) {x : α} (hx : x ∈ a) : a.count x = 1 := by
  induction a with
  | nil => cases hx
  | cons y a ih =>
    obtain ⟨h1, h2⟩ := List.nodup_cons.1 h
    rcases List.mem_cons.1 hx with rfl | hx
    · rw [List.count_cons_self, List.count_eq_zero_of_not_mem h1]
    · rw [List.count_cons_of_ne (fun e => h1 (by rw [e]; exact hx)), ih h2 hx]
theorem nodup_perm {α : Type} [DecidableEq α] {a b : List α} (ha : a.Nodup) (hb : b.Nodup) (h : ∀ x, x ∈ a ↔ x ∈ b) : a.Perm b := by
  rw [List.perm_iff_count]
  intro x
  by_cases hx : x ∈ a
  · rw [count_one ha hx, count_one hb ((h x).1 hx)]
  · rw [List.count_eq_zero_of_not_mem hx, List.count_eq_zero_of_not_mem (fun hh => hx ((h x).2 hh))]
/-- A list of just the texts that are kept, each once, tells how many there are and how many bytes. -/
theorem texts_tell {D : DataW Unit} {l : List KpD} {n : Nat} (hs : KSrt l) (hk : KOk D l n) {L : List ByteArray} (hL : L.Nodup) (h : ∀ s, s ∈ L ↔ 0 < cntT l s) : l.length = L.length ∧ sumK l = (L.map (·.size)).sum := by
  have hp : (l.map (·.text)).Perm L := nodup_perm (texts_nodup hs hk) hL fun x => by rw [mem_texts hk, h]
  refine ⟨by rw [← hp.length_eq, List.length_map], ?_⟩
  have h2 := (hp.map (·.size)).sum_nat
  rw [← h2]
  unfold sumK
  rw [List.map_map]
  rfl
end Go.Proofs.YtmcgaaihdjpdgaaGreatDoor
