/- Chapter 11: BlobPlays: the plain model of texts, and the state.; Chapter 11: BlobPlays: the plain model's add and refs.; Chapter 11: BlobPlays: what stands.; Chapter 11: BlobPlays: Put, Drop, Get of a text. -/
import Derived.Test.YtmcgaaihdjpdgaaGreatDoorBlG
import Derived.Test.YtmcgaaihdjpdgaaGreatDoorBlobQ
/- Chapter 11: BlobPlays: the plain model of texts, and the state. -/
namespace Go.Proofs.YtmcgaaihdjpdgaaGreatDoor
open Go.RowKit
set_option linter.unusedVariables false

abbrev TxD := ByteArray × Int
/-- How many lead to a text, by the plain model. -/
def refsT : List TxD → ByteArray → Int
  | [], _ => 0
  | x :: T, s => if x.1 = s then x.2 else refsT T s
def addT : List TxD → ByteArray → Int → List TxD
  | [], s, k => [(s, k)]
  | x :: T, s, k => if x.1 = s then (x.1, x.2 + k) :: T else x :: addT T s k
theorem refs_add (s t : ByteArray) (k : Int) : ∀ T : List TxD, refsT (addT T s k) t = refsT T t + if s = t then k else 0
  | [] => by
    show (if s = t then k else refsT [] t) = 0 + if s = t then k else 0
    rw [show refsT [] t = 0 from rfl]
    omega
  | x :: T => by
    unfold addT
    by_cases e : x.1 = s
    · rw [if_pos e]
      unfold refsT
      by_cases e2 : x.1 = t
      · rw [if_pos e2, if_pos e2, if_pos (e ▸ e2)]
      · rw [if_neg e2, if_neg e2, if_neg (e ▸ e2)]; omega
    · rw [if_neg e]
      unfold refsT
      by_cases e2 : x.1 = t
      · rw [if_pos e2, if_pos e2, if_neg (fun e3 => e (e2.trans e3.symm))]; omega
      · rw [if_neg e2, if_neg e2, refs_add s t k T]
theorem add_fst (s : ByteArray) (k : Int) : ∀ T : List TxD, ((addT T s k).map (·.1) = T.map (·.1)) ∨ ((addT T s k).map (·.1) = T.map (·.1) ++ [s] ∧ s ∉ T.map (·.1))
  | [] => .inr ⟨rfl, by simp⟩
  | x :: T => by
    unfold addT
    by_cases e : x.1 = s
    · rw [if_pos e]; exact .inl rfl
    · rw [if_neg e]
      rcases add_fst s k T with h | ⟨h, h2⟩
      · exact .inl (by rw [List.map_cons, h, List.map_cons])
      · exact .inr ⟨by rw [List.map_cons, h, List.map_cons, List.cons_append], by rw [List.map_cons, List.mem_cons]; rintro (h3 | h3); exact e h3.symm; exact h2 h3⟩
theorem add_nodup {T : List TxD} (h : (T.map (·.1)).Nodup) (s : ByteArray) (k : Int) : ((addT T s k).map (·.1)).Nodup := by
  rcases add_fst s k T with h1 | ⟨h1, h2⟩
  · rw [h1]; exact h
  · rw [h1]
    exact List.nodup_append.2 ⟨h, by simp, fun a ha b hb e => by
      obtain rfl := List.mem_singleton.1 hb
      exact h2 (e ▸ ha)⟩
theorem add_at {s : ByteArray} (k : Int) : ∀ {T : List TxD} {i : Nat} {x : TxD}, T[i]? = some x → x.1 = s → (∀ y ∈ T.take i, y.1 ≠ s) → addT T s k = T.set i (s, x.2 + k) ∧ refsT T s = x.2
  | [], i, x, h, _, _ => by simp at h
  | y :: T, 0, x, h, hx, _ => by
    simp at h
    subst h
    subst hx
    refine ⟨?_, ?_⟩
    · unfold addT; rw [if_pos rfl]; rfl
    · unfold refsT; rw [if_pos rfl]
  | y :: T, i + 1, x, h, hx, hn => by
    have hy : y.1 ≠ s := hn y (by simp)
    obtain ⟨h1, h2⟩ := add_at k (T := T) (i := i) (x := x) (by simpa using h) hx (fun z hz => hn z (by rw [List.take_succ_cons]; exact List.mem_cons_of_mem _ hz))
    refine ⟨?_, ?_⟩
    · unfold addT; rw [if_neg hy, h1]; rfl
    · unfold refsT; rw [if_neg hy, h2]
theorem addT_none {s : ByteArray} (k : Int) : ∀ {T : List TxD}, (∀ y ∈ T, y.1 ≠ s) → addT T s k = T ++ [(s, k)] ∧ refsT T s = 0
  | [], _ => ⟨rfl, rfl⟩
  | y :: T, hn => by
    have hy : y.1 ≠ s := hn y (by simp)
    obtain ⟨h1, h2⟩ := addT_none k (T := T) (fun z hz => hn z (by simp [hz]))
    refine ⟨?_, ?_⟩
    · unfold addT; rw [if_neg hy, h1]; rfl
    · unfold refsT; rw [if_neg hy, h2]
theorem refs_mem : ∀ {T : List TxD} {x : TxD}, (T.map (·.1)).Nodup → x ∈ T → refsT T x.1 = x.2
  | y :: T, x, hn, h => by
    obtain ⟨h1, h2⟩ := List.nodup_cons.1 hn
    rcases List.mem_cons.1 h with rfl | h
    · unfold refsT; rw [if_pos rfl]
    · unfold refsT
      rw [if_neg (fun e : y.1 = x.1 => h1 (List.mem_map.2 ⟨x, h, e.symm⟩)), refs_mem h2 h]
theorem refs_pos : ∀ {T : List TxD} {s : ByteArray}, 0 < refsT T s → ∃ x ∈ T, x.1 = s ∧ 0 < x.2
  | [], s, h => by unfold refsT at h; omega
  | y :: T, s, h => by
    unfold refsT at h
    by_cases e : y.1 = s
    · rw [if_pos e] at h; exact ⟨y, by simp, e, h⟩
    · rw [if_neg e] at h
      obtain ⟨x, h1, h2⟩ := refs_pos h
      exact ⟨x, by simp [h1], h2⟩
/-- Bounds. -/
def TB (T : List TxD) (m : Nat) : Prop := T.length ≤ m ∧ ∀ x ∈ T, -(m : Int) ≤ x.2 ∧ x.2 ≤ m
theorem TB.mono {T : List TxD} {m m' : Nat} (h : TB T m) (hm : m ≤ m') : TB T m' := ⟨by have := h.1; omega, fun x hx => by have := h.2 x hx; omega⟩
theorem TB.add {m : Nat} {s : ByteArray} {k : Int} (hk : -1 ≤ k) (hk1 : k ≤ 1) : ∀ {T : List TxD}, TB T m → TB (addT T s k) (m + 1)
  | [], h => ⟨by unfold addT; simp, fun x hx => by unfold addT at hx; obtain rfl := List.mem_singleton.1 hx; show _ ≤ k ∧ k ≤ _; omega⟩
  | y :: T, h => by
    unfold addT
    by_cases e : y.1 = s
    · rw [if_pos e]
      refine ⟨by have := h.1; simp at this ⊢; omega, fun x hx => ?_⟩
      rcases List.mem_cons.1 hx with rfl | hx
      · have := h.2 y (by simp)
        show _ ≤ y.2 + k ∧ y.2 + k ≤ _
        omega
      · have := h.2 x (by simp [hx]); omega
    · rw [if_neg e]
      have hl := h.1
      have h2 : TB T m := ⟨by simp at hl; omega, fun x hx => h.2 x (by simp [hx])⟩
      have h3 := h2.add (s := s) (k := k) hk hk1
      refine ⟨?_, fun x hx => ?_⟩
      · have : (addT T s k).length ≤ T.length + 1 := by
          have h4 := add_fst s k T
          have e2 : (addT T s k).length = ((addT T s k).map (·.1)).length := by rw [List.length_map]
          rcases h4 with h4 | ⟨h4, _⟩
          · rw [e2, h4, List.length_map]; omega
          · rw [e2, h4, List.length_append, List.length_map]; simp
        simp at hl ⊢; omega
      · rcases List.mem_cons.1 hx with rfl | hx
        · have := h.2 x (by simp); omega
        · exact h3.2 x hx
/-- The row of texts. -/
def tcell (x : TxD) : List Value := [.string x.1, .int .i64 x.2]
def tcs (T : List TxD) : List Value := (T.map tcell).flatten
theorem tcs_cons (x : TxD) (T : List TxD) : tcs (x :: T) = tcell x ++ tcs T := rfl
theorem tcs_app (a b : List TxD) : tcs (a ++ b) = tcs a ++ tcs b := by unfold tcs; rw [List.map_append, List.flatten_append]
theorem tcs_one (x : TxD) : tcs [x] = tcell x := by unfold tcs; simp
theorem tcs_set : ∀ (T : List TxD) (i : Nat) (x : TxD) (v : Int), T[i]? = some x → (tcs T).set (i * 2 + 1) (.int .i64 v) = tcs (T.set i (x.1, v))
  | [], i, x, v, h => by simp at h
  | y :: T, 0, x, v, h => by simp at h; subst h; rfl
  | y :: T, i + 1, x, v, h => by
    have e : (i + 1) * 2 = i * 2 + 2 := by omega
    rw [e, tcs_cons, show (y :: T).set (i + 1) (x.1, v) = y :: T.set i (x.1, v) from rfl, tcs_cons, ← tcs_set T i x v (by simpa using h)]
    rfl
theorem tcs_at {T : List TxD} {i : Nat} {x : TxD} (h : T[i]? = some x) : (tcs T)[i * 2]? = some (.string x.1) ∧ (tcs T)[i * 2 + 1]? = some (.int .i64 x.2) := by
  have f : ∀ j u, j < 2 → (tcell x)[j]? = some u → (tcs T)[i * 2 + j]? = some u := fun j u hj hu => by
    rw [show (tcs T)[i * 2 + j]? = (tcell x)[j]? from flat_at (c := 2) _ i j (tcell x) (by intro r hr; obtain ⟨f, _, rfl⟩ := List.mem_map.1 hr; rfl) (by rw [List.getElem?_map, h]; rfl) hj, hu]
  exact ⟨f 0 _ (by omega) rfl, f 1 _ (by omega) rfl⟩
theorem pcells_set : ∀ (P : List PE) (i : Nat) (y : PE) (v : Bool), P[i]? = some y → (pcells P).set (i * 3 + 2) (.bool v) = pcells (P.set i { y with is := v })
  | [], i, y, v, h => by simp at h
  | z :: P, 0, y, v, h => by simp at h; subst h; rfl
  | z :: P, i + 1, y, v, h => by
    have e : (i + 1) * 3 = i * 3 + 3 := by omega
    rw [e, show pcells (z :: P) = pcell z ++ pcells P from rfl, show (z :: P).set (i + 1) { y with is := v } = z :: P.set i { y with is := v } from rfl, show pcells (z :: P.set i { y with is := v }) = pcell z ++ pcells (P.set i { y with is := v }) from rfl, ← pcells_set P i y v (by simpa using h)]
    rfl
/-- The state. -/
structure PL (w0 w : World) (n : Nat) (D : DataW Unit) (S : Nat → Prop) (l : List KpD) (Rs : List RtD) (VT VP : Value) (T : List TxD) (P : List PE) : Prop where
  lw : LW w0 w n D S l Rs
  pw : PW w0.heap.size w S VT VP P
  tr : w.ownsRow w0.heap.size 43 2 VT T.length (tcs T)
  toff : Off w0.heap.size S VT
  fap : ∀ y ∈ P, ∀ g o, y.A = some ⟨g, o, none⟩ → VT.ownBlock ≠ some g
def US (B : Nat) (S : Nat → Prop) (VT VP : Value) (k : Nat) : Prop := S k ∨ k = B + 3 ∨ VT.ownBlock = some k ∨ VP.ownBlock = some k
theorem US.S {B : Nat} {S : Nat → Prop} {VT VP : Value} {k : Nat} (h : S k) : US B S VT VP k := .inl h
section
variable {w0 w w' : World} {n n' : Nat} {D D' : DataW Unit} {S S' : Nat → Prop} {l l' : List KpD} {Rs Rs' : List RtD} {VT VP : Value} {T : List TxD} {P : List PE}
theorem PL.below (h : PL w0 w n D S l Rs VT VP T P) (hb : Below w.heap.size w w') : PL w0 w' n D S l Rs VT VP T P :=
  ⟨h.lw.below hb, h.pw.below hb, (h.toff.step h.tr (Stp.below hb)).1, h.toff, h.fap⟩
theorem PL.drew (h : PL w0 w n D S l Rs VT VP T P) : PL w0 w.drew n D S l Rs VT VP T P := h.below (Below.drew (Below.refl _ _))
theorem PL.lt (h : PL w0 w n D S l Rs VT VP T P) {k : Nat} (hk : US w0.heap.size S VT VP k) : w0.heap.size ≤ k ∧ k ≠ w0.heap.size + 4 ∧ k < w.heap.size := by
  have hbig := h.lw.big
  rcases hk with hk | hk | hk | hk
  · exact ⟨(h.lw.lo k hk).1, (h.lw.lo k hk).2.2, h.lw.bs.lt hk⟩
  · omega
  · have := (h.toff k hk).2; have := (h.tr.lt k hk).2; omega
  · have := (h.pw.off k hk).2; have := (h.pw.row.lt k hk).2; omega
/-- A call of the blobs. -/
theorem PL.blob (h : PL w0 w n D S l Rs VT VP T P) (hL : LW w0 w' n' D' S' l' Rs') (hs : Stp S S' w w') : PL w0 w' n' D' S' l' Rs' VT VP T P ∧ Stp (US w0.heap.size S VT VP) (US w0.heap.size S' VT VP) w w' := by
  obtain ⟨h1, h2⟩ := h.toff.step h.tr hs
  refine ⟨⟨hL, h.pw.step hs (fun hk => (h.lw.lo _ hk).2.1 rfl), h1, h2, h.fap⟩, hs.1.mono (fun k _ hk => .inl hk), fun k hk => ?_⟩
  rcases hk with hk | hk
  · exact (hs.2 k hk).imp (fun a => .inl a) id
  · exact .inl (.inr hk)
theorem PL.apart (h : PL w0 w n D S l Rs VT VP T P) {k : Nat} (hk : VT.ownBlock = some k) : VP.ownBlock ≠ some k := by
  rcases own_apartB h.tr h.pw.row (by decide) with e | e
  · rw [e] at hk; cases hk
  · rw [← hk]; exact e.symm
/-- Some more lead to a text that stands there. -/
theorem PL.tset {g cap i : Nat} {x : TxD} (h : PL w0 w n D S l Rs (.slice (some ⟨g, 0, none⟩) T.length cap) VP T P) (hx : T[i]? = some x) (v : Int) :
    PL w0 (w.setCell ⟨g, i * 2 + 1, none⟩ (.int .i64 v)) n D S l Rs (.slice (some ⟨g, 0, none⟩) T.length cap) VP (T.set i (x.1, v)) P ∧
      Stp (US w0.heap.size S (.slice (some ⟨g, 0, none⟩) T.length cap) VP) (US w0.heap.size S (.slice (some ⟨g, 0, none⟩) T.length cap) VP) w (w.setCell ⟨g, i * 2 + 1, none⟩ (.int .i64 v)) := by
  obtain ⟨hnS, hg5⟩ := h.toff g rfl
  have hf : Fr (fun k => k = g) w (w.setCell ⟨g, i * 2 + 1, none⟩ (.int .i64 v)) := (Fr.refl (fun k => k = g) w).setCell (.inl rfl) _
  have hst := (h.tr.stored (i * 2 + 1) (.int .i64 v)).1
  rw [tcs_set T i x v hx] at hst
  refine ⟨⟨h.lw.aside2 hf (fun k hk => by subst hk; exact ⟨by omega, by omega, hnS⟩), ⟨hf.blk h.pw.pb (by omega), hf.own h.pw.row (fun k hk e => h.apart rfl (by rw [hk, e])), h.pw.off, fun y hy => ?_⟩, ?_, h.toff, h.fap⟩, hf.mono (fun k _ hk => .inr (.inr (.inl (by rw [hk]; rfl)))), fun k hk => .inl hk⟩
  · obtain ⟨h3, h4⟩ := h.pw.fs y hy
    refine ⟨h3.fr hf (fun g2 o e hk => h.fap y hy g2 o e (by rw [hk]; rfl)), fun g2 o e => ?_⟩
    obtain ⟨a, b, c, d⟩ := h4 g2 o e
    exact ⟨a, b, Nat.lt_of_lt_of_le c hf.size, d⟩
  · rw [List.length_set]; exact hst
/-- One text more. -/
theorem PL.tpush {g cap : Nat} (x : TxD) (h : PL w0 w n D S l Rs VT VP T P) (hown : w'.ownsRow w0.heap.size 43 2 (.slice (some ⟨g, 0, none⟩) (T.length + 1) cap) (T.length + 1) (tcs T ++ tcell x)) (hgr : w.grownBy w' VT.ownBlock) (hat : VT.ownBlock = some g ∨ w.heap.size ≤ g) :
    PL w0 (w'.setCell ⟨w0.heap.size + 3, 0, none⟩ (.slice (some ⟨g, 0, none⟩) (T.length + 1) cap)) n D S l Rs (.slice (some ⟨g, 0, none⟩) (T.length + 1) cap) VP (T ++ [x]) P ∧
      Stp (US w0.heap.size S VT VP) (US w0.heap.size S (.slice (some ⟨g, 0, none⟩) (T.length + 1) cap) VP) w (w'.setCell ⟨w0.heap.size + 3, 0, none⟩ (.slice (some ⟨g, 0, none⟩) (T.length + 1) cap)) := by
  have hbig := h.lw.big
  have hgg : ¬ S g ∧ w0.heap.size + 5 ≤ g := by
    rcases hat with e | e
    · exact h.toff g e
    · exact ⟨fun hS => by have := h.lw.bs.lt hS; omega, by omega⟩
  have hnV : VT.ownBlock ≠ some (w0.heap.size + 3) := fun e => by have := (h.toff _ e).2; omega
  have hf1 : Fr (fun k => k = w0.heap.size + 3 ∨ VT.ownBlock = some k) w w' := Fr.of_grown hgr (fun k e => .inr e)
  have hf : Fr (fun k => k = w0.heap.size + 3 ∨ VT.ownBlock = some k) w (w'.setCell ⟨w0.heap.size + 3, 0, none⟩ (.slice (some ⟨g, 0, none⟩) (T.length + 1) cap)) := hf1.setCell (.inl (.inl rfl)) _
  refine ⟨⟨h.lw.aside2 hf ?_, ⟨(h.pw.pb.grown hgr (fun e => hnV e.symm)).set_ 0 _, hf.own h.pw.row ?_, h.pw.off, fun y hy => ?_⟩, ?_, ?_, ?_⟩, hf.mono (fun k _ hk => ?_), fun k hk => ?_⟩
  · rintro k (e | e)
    · exact ⟨by omega, by omega, fun hk => (h.lw.lo k hk).2.1 e⟩
    · obtain ⟨a, b⟩ := h.toff k e
      exact ⟨by omega, by omega, a⟩
  · rintro k hk (e | e)
    · have := (h.pw.off k hk).2; omega
    · exact h.apart e hk
  · obtain ⟨h3, h4⟩ := h.pw.fs y hy
    refine ⟨h3.fr hf (fun g2 o e hk => ?_), fun g2 o e => ?_⟩
    · obtain ⟨a, b, c, d⟩ := h4 g2 o e
      rcases hk with hk | hk
      · omega
      · exact h.fap y hy g2 o e hk
    · obtain ⟨a, b, c, d⟩ := h4 g2 o e
      exact ⟨a, b, Nat.lt_of_lt_of_le c hf.size, d⟩
  · rw [List.length_append, tcs_app, tcs_one]
    have hz2 : Fr (fun k => k = w0.heap.size + 3) w' (w'.setCell ⟨w0.heap.size + 3, 0, none⟩ (.slice (some ⟨g, 0, none⟩) (T.length + 1) cap)) := (Fr.refl (fun k => k = w0.heap.size + 3) w').setCell (p := ⟨w0.heap.size + 3, 0, none⟩) (.inl rfl) _
    exact hz2.own hown (fun k hk e => by injection hk with hk; change g = k at hk; omega)
  · intro k hk
    injection hk with hk
    change g = k at hk
    subst hk
    exact hgg
  · intro y hy g2 o e hk
    injection hk with hk
    change g = g2 at hk
    subst hk
    rcases hat with e2 | e2
    · exact h.fap y hy g o e e2
    · have := ((h.pw.fs y hy).2 g o e).2.2.1; omega
  · rcases hk with hk | hk
    · exact .inr (.inl hk)
    · exact .inr (.inr (.inl hk))
  · rcases hk with hk | hk | hk | hk
    · exact .inl (.inl hk)
    · exact .inl (.inr (.inl hk))
    · injection hk with hk
      change g = k at hk
      subst hk
      rcases hat with e | e
      · exact .inl (.inr (.inr (.inl e)))
      · exact .inr e
    · exact .inl (.inr (.inr (.inr hk)))
/-- One root more. -/
theorem PL.rpush {g cap : Nat} (y : PE) (h : PL w0 w n D S l Rs VT VP T P) (hown : w'.ownsRow w0.heap.size 45 3 (.slice (some ⟨g, 0, none⟩) (P.length + 1) cap) (P.length + 1) (pcells P ++ pcell y)) (hgr : w.grownBy w' VP.ownBlock) (hat : VP.ownBlock = some g ∨ w.heap.size ≤ g)
    (hy : Arr w w.heap.size 3 y.A y.fl.length (fcells y.fl)) (hyA : ∀ g o, y.A = some ⟨g, o, none⟩ → ¬ US w0.heap.size S VT VP g ∧ w0.heap.size + 5 ≤ g ∧ g < w.heap.size) :
    PL w0 (w'.setCell ⟨w0.heap.size + 3, 1, none⟩ (.slice (some ⟨g, 0, none⟩) (P.length + 1) cap)) n D S l Rs VT (.slice (some ⟨g, 0, none⟩) (P.length + 1) cap) T (P ++ [y]) ∧
      Stp (US w0.heap.size S VT VP) (US w0.heap.size S VT (.slice (some ⟨g, 0, none⟩) (P.length + 1) cap)) w (w'.setCell ⟨w0.heap.size + 3, 1, none⟩ (.slice (some ⟨g, 0, none⟩) (P.length + 1) cap)) := by
  have hbig := h.lw.big
  obtain ⟨h1, hf⟩ := h.pw.push y (fun k hk => h.lw.bs.lt hk) hbig hown hgr hat hy (fun g o e => by
    obtain ⟨a, b, c⟩ := hyA g o e
    exact ⟨fun hk => a (.inl hk), b, c, fun hk => a (.inr (.inr (.inr hk)))⟩)
  refine ⟨⟨h.lw.aside2 hf ?_, h1, hf.own h.tr ?_, h.toff, ?_⟩, hf.mono (fun k _ hk => ?_), fun k hk => ?_⟩
  · rintro k (e | e)
    · exact ⟨by omega, by omega, fun hk => (h.lw.lo k hk).2.1 e⟩
    · obtain ⟨a, b⟩ := h.pw.off k e
      exact ⟨by omega, by omega, a⟩
  · rintro k hk (e | e)
    · have := (h.toff k hk).2; omega
    · exact h.apart hk e
  · intro z hz g2 o e hk
    rcases List.mem_append.1 hz with hz | hz
    · exact h.fap z hz g2 o e hk
    · obtain rfl := List.mem_singleton.1 hz
      exact (hyA g2 o e).1 (.inr (.inr (.inl hk)))
  · rcases hk with hk | hk
    · exact .inr (.inl hk)
    · exact .inr (.inr (.inr hk))
  · rcases hk with hk | hk | hk | hk
    · exact .inl (.inl hk)
    · exact .inl (.inr (.inl hk))
    · exact .inl (.inr (.inr (.inl hk)))
    · injection hk with hk
      change g = k at hk
      subst hk
      rcases hat with e | e
      · exact .inl (.inr (.inr (.inr e)))
      · exact .inr e
/-- A root is no more. -/
theorem PL.rset {g cap i : Nat} {y : PE} (h : PL w0 w n D S l Rs VT (.slice (some ⟨g, 0, none⟩) P.length cap) T P) (hy : P[i]? = some y) (v : Bool) :
    PL w0 (w.setCell ⟨g, i * 3 + 2, none⟩ (.bool v)) n D S l Rs VT (.slice (some ⟨g, 0, none⟩) P.length cap) T (P.set i { y with is := v }) ∧
      Stp (US w0.heap.size S VT (.slice (some ⟨g, 0, none⟩) P.length cap)) (US w0.heap.size S VT (.slice (some ⟨g, 0, none⟩) P.length cap)) w (w.setCell ⟨g, i * 3 + 2, none⟩ (.bool v)) := by
  obtain ⟨hnS, hg5⟩ := h.pw.off g rfl
  have hf : Fr (fun k => k = g) w (w.setCell ⟨g, i * 3 + 2, none⟩ (.bool v)) := (Fr.refl (fun k => k = g) w).setCell (.inl rfl) _
  have hst := (h.pw.row.stored (i * 3 + 2) (.bool v)).1
  rw [pcells_set P i y v hy] at hst
  have hmem : ∀ z ∈ P.set i { y with is := v }, ∃ z' ∈ P, z.A = z'.A ∧ z.fl = z'.fl := by
    intro z hz
    rcases List.mem_or_eq_of_mem_set hz with hz | rfl
    · exact ⟨z, hz, rfl, rfl⟩
    · exact ⟨y, List.mem_of_getElem? hy, rfl, rfl⟩
  refine ⟨⟨h.lw.aside2 hf (fun k hk => by subst hk; exact ⟨by omega, by omega, hnS⟩), ⟨hf.blk h.pw.pb (by omega), by rw [List.length_set]; exact hst, h.pw.off, fun z hz => ?_⟩, hf.own h.tr (fun k hk e => h.apart hk (by rw [e]; rfl)), h.toff, fun z hz => ?_⟩, hf.mono (fun k _ hk => .inr (.inr (.inr (by rw [hk]; rfl)))), fun k hk => .inl hk⟩
  · obtain ⟨z', hz', eA, ef⟩ := hmem z hz
    obtain ⟨h3, h4⟩ := h.pw.fs z' hz'
    rw [eA, ef]
    refine ⟨h3.fr hf (fun g2 o e hk => (h4 g2 o e).2.2.2 (by rw [hk]; rfl)), fun g2 o e => ?_⟩
    obtain ⟨a, b, c, d⟩ := h4 g2 o e
    exact ⟨a, b, Nat.lt_of_lt_of_le c hf.size, d⟩
  · obtain ⟨z', hz', eA, ef⟩ := hmem z hz
    rw [eA]
    exact h.fap z' hz'
end
end Go.Proofs.YtmcgaaihdjpdgaaGreatDoor
/- Chapter 11: BlobPlays: the plain model's add and refs. -/
namespace Go.Proofs.YtmcgaaihdjpdgaaGreatDoor
open Go.RowKit
set_option linter.unusedVariables false

theorem infoText : (Tryz.prog.info? 43).map (fun i => (i.zero, i.size, i.bytes)) = some (some (.agg #[.string ⟨#[]⟩, .int .i64 0]), 2, 24) := by kernel_rfl
theorem text_zero : (Value.agg #[.string ⟨#[]⟩, .int .i64 0]).cells.size = 2 := rfl
theorem text_one (x : TxD) : ∀ u ∈ (#[.string x.1, .int .i64 x.2] : Array Value).toList, u.oneCell' = true := by
  intro u hu
  simp at hu
  rcases hu with rfl | rfl <;> rfl
theorem take_no {T : List TxD} {i : Nat} {x : TxD} {s : ByteArray} (h : T[i]? = some x) (hx : x.1 ≠ s) (hn : ∀ y ∈ T.take i, y.1 ≠ s) : ∀ y ∈ T.take (i + 1), y.1 ≠ s := by
  intro y hy
  rw [take_snoc h] at hy
  rcases List.mem_append.1 hy with hy | hy
  · exact hn y hy
  · rw [List.mem_singleton.1 hy]; exact hx
theorem Stp.drew {S S' : Nat → Prop} {w w' : World} (h : Stp S S' w w') : Stp S S' w w'.drew := h.trans (Stp.below (Below.drew (Below.refl _ _)))
def AddOut (w0 w : World) (n : Nat) (D : DataW Unit) (S : Nat → Prop) (l : List KpD) (Rs : List RtD) (VT VP : Value) (T : List TxD) (P : List PE) (s : ByteArray) (k : Int) (e : Ending) (w' : World) : Prop :=
  ∃ VT', e = .returned (.tuple #[]) ∧ PL w0 w' n D S l Rs VT' VP (addT T s k) P ∧ Stp (US w0.heap.size S VT VP) (US w0.heap.size S VT' VP) w w'
set_option maxHeartbeats 4000000 in
set_option maxRecDepth 100000 in
theorem prefs_any {w0 w : World} {n : Nat} {D : DataW Unit} {S : Nat → Prop} {l : List KpD} {Rs : List RtD} {VT VP : Value} {T : List TxD} {P : List PE} (s : ByteArray) (h : PL w0 w n D S l Rs VT VP T P) (hT : T.length ≤ 1000000) :
    Calls Tryz.prog 23 #[.pointer (some ⟨w0.heap.size + 3, 0, none⟩), .string s] w fun e w' => e = .returned (.int .i64 (refsT T s)) ∧ w' = w := by
  have HP := Lib.hid h
  have hpb := h.pw.pb
  obtain ⟨AT, cT, rfl, _, haT, _⟩ := own_arr h.tr
  have HAT := Lib.hid haT
  have k0 := hpb.cell 0
  clear haT h hpb
  go_enter Tryz.func23, Tryz.ntmps23
  go_wp2
  go_loopw [5] (fun vi wr => ∃ (i : Nat), i ≤ T.length ∧ vi = .int .i64 i ∧ wr = w ∧ Hid (∀ y ∈ T.take i, y.1 ≠ s)) (fun vi _ => T.length - (intOf vi).toNat)
  case atStart => exact ⟨0, Nat.zero_le _, rfl, rfl, Lib.hid (by simp)⟩
  case round =>
    obtain ⟨i, hi, rfl, rfl, HN⟩ := hrel
    by_cases hlt : i < T.length
    · have i1 : (i : Int) < T.length := by omega
      obtain ⟨x, hx⟩ : ∃ x, T[i]? = some x := ⟨_, List.getElem?_eq_getElem hlt⟩
      obtain ⟨bT, oT, rfl, hbT, hcell⟩ := HAT.out.2 (by omega)
      have e0 := hcell (i * 2) _ (tcs_at hx).1
      have e1 := hcell (i * 2 + 1) _ (tcs_at hx).2
      rw [← Nat.add_assoc] at e1
      have HX := Lib.hid hx
      clear hx hcell
      obtain ⟨d, v⟩ := x
      replace e0 : _ = some (Value.string d) := e0
      replace e1 : _ = some (Value.int .i64 v) := e1
      by_cases hd : d = s
      · subst hd
        go_wp2
        go_ret
        rw [(add_at 0 HX.out rfl HN.out).2]
        exact ⟨rfl, rfl⟩
      · have q0 : ¬ d.toList = s.toList := ne_list hd
        have q1 : (d.toList == s.toList) = false := by rw [beq_eq_false_iff_ne]; exact q0
        have HD := Lib.hid hd
        go_wp2
        go_roundw
        case rel => exact ⟨i + 1, by omega, by go_num, by trivial, Lib.hid (take_no HX.out HD.out HN.out)⟩
        case measure => simp [intOf] <;> omega
    · have i1 : ¬ (i : Int) < T.length := by omega
      have hn := HN.out
      rw [List.take_of_length_le (by omega)] at hn
      have hz := Lib.hid (addT_none 0 hn).2
      clear hn
      go_wp2
      go_ret
      rw [hz.out]
      exact ⟨rfl, rfl⟩
set_option maxHeartbeats 4000000 in
set_option maxRecDepth 100000 in
theorem padd_any {w0 w : World} {n : Nat} {D : DataW Unit} {S : Nat → Prop} {l : List KpD} {Rs : List RtD} {VT VP : Value} {T : List TxD} {P : List PE} {m : Nat} (s : ByteArray) (k : Int) (h : PL w0 w n D S l Rs VT VP T P) (hT : TB T m) (hm : m ≤ 1000000) (hk : -1 ≤ k) (hk1 : k ≤ 1) :
    Calls Tryz.prog 25 #[.pointer (some ⟨w0.heap.size + 3, 0, none⟩), .string s, .int .i64 k] w (AddOut w0 w n D S l Rs VT VP T P s k) := by
  obtain ⟨i2, fi0, fz0, fz1, fz2⟩ := info_parts infoText
  have HP := Lib.hid h
  have hpb := h.pw.pb
  have hbig := h.lw.big
  have hlen := hT.1
  have HT := Lib.hid hT
  obtain ⟨AT, cT, rfl, _, haT, _⟩ := own_arr h.tr
  have HAT := Lib.hid haT
  have k0 := hpb.cell 0
  have z0 := hpb.frozen 0
  clear haT h hpb hT
  go_enter Tryz.func25, Tryz.ntmps25
  go_wp2
  go_loopw [6] (fun vi wr => ∃ (i : Nat), i ≤ T.length ∧ vi = .int .i64 i ∧ wr = w ∧ Hid (∀ y ∈ T.take i, y.1 ≠ s)) (fun vi _ => T.length - (intOf vi).toNat)
  case atStart => exact ⟨0, Nat.zero_le _, rfl, rfl, Lib.hid (by simp)⟩
  case round =>
    obtain ⟨i, hi, rfl, rfl, HN⟩ := hrel
    by_cases hlt : i < T.length
    · have i1 : (i : Int) < T.length := by omega
      obtain ⟨x, hx⟩ : ∃ x, T[i]? = some x := ⟨_, List.getElem?_eq_getElem hlt⟩
      have hv := HT.out.2 x (List.mem_of_getElem? hx)
      obtain ⟨g, cap, hsl⟩ := own_some HP.out.tr (by omega)
      injection hsl with hsl _ hcap
      subst hsl
      subst hcap
      have e0 := (HP.out.tr.cellAt (i * 2) (by omega)).trans (tcs_at hx).1
      have e1 := (HP.out.tr.cellAt (i * 2 + 1) (by omega)).trans (tcs_at hx).2
      have f1 := HP.out.tr.frozenAt (i * 2 + 1)
      have HX := Lib.hid hx
      clear hx
      obtain ⟨d, v⟩ := x
      replace e0 : _ = some (Value.string d) := e0
      replace e1 : _ = some (Value.int .i64 v) := e1
      replace hv : -(m : Int) ≤ v ∧ v ≤ m := hv
      by_cases hd : d = s
      · subst hd
        have hwr : IntKind.i64.wrap (v + k) = v + k := by rw [IntKind.wrap_i64]; omega
        have HST := Lib.hid (HP.out.tset HX.out (v + k))
        have HAD := Lib.hid (add_at k HX.out rfl HN.out).1
        go_upto_region 4 with fail
        go_region
        all_goals
          go_wp2_with fail
          refine bodyPost_ret (results_none rfl _ _ _) rfl ?_
          refine ⟨_, rfl, ?_, HST.out.2.drew⟩
          rw [HAD.out]
          exact HST.out.1.drew
      · have q0 : ¬ d.toList = s.toList := ne_list hd
        have q1 : (d.toList == s.toList) = false := by rw [beq_eq_false_iff_ne]; exact q0
        have HD := Lib.hid hd
        go_wp2
        go_roundw
        case rel => exact ⟨i + 1, by omega, by go_num, by trivial, Lib.hid (take_no HX.out HD.out HN.out)⟩
        case measure => simp [intOf] <;> omega
    · have i1 : ¬ (i : Int) < T.length := by omega
      have hn := HN.out
      rw [List.take_of_length_le (by omega)] at hn
      have HAD := Lib.hid (addT_none k hn).1
      clear hn
      go_wp2_with (at_builtin; refine wpList_push rfl _ _ _ rfl Tryz.underlying38 fi0 fz0 fz1 fz2 text_zero (by decide) HP.out.tr rfl rfl rfl (text_one (s, k)) (by unfold maxLen; omega) (by omega) (by omega) ?_; intro g6 cap6 w6 hown6 hgr6 hat6; have HST := Lib.hid (HP.out.tpush (s, k) hown6 hgr6 hat6); have hne : (Value.slice AT T.length cT).ownBlock ≠ some (w0.heap.size + 3) := (fun e => by have := (HP.out.toff _ e).2; omega); have hb6 := HP.out.pw.pb.grown hgr6 (fun e => hne e.symm); have k0 := hb6.cell 0; have z0 := hb6.frozen 0; clear hown6 hgr6 hat6 hne hb6)
      refine bodyPost_ret (results_none rfl _ _ _) rfl ?_
      refine ⟨_, rfl, ?_, HST.out.2⟩
      rw [HAD.out]
      exact HST.out.1
end Go.Proofs.YtmcgaaihdjpdgaaGreatDoor
/- Chapter 11: BlobPlays: what stands. -/
namespace Go.Proofs.YtmcgaaihdjpdgaaGreatDoor
open Go.RowKit
set_option linter.unusedVariables false

def live (P : List PE) : List PE := P.filter (·.is)
/-- What is plain about the state. -/
structure PI (D : DataW Unit) (l : List KpD) (Rs : List RtD) (T : List TxD) (P : List PE) : Prop where
  nod : (T.map (·.1)).Nodup
  cnt : ∀ s, refsT T s = cntT l s
  perm : ((live P).map (·.q)).Perm (Rs.map (·.q))
  rt : ∀ y ∈ P, ∃ r, RtGood D r ∧ r.q = y.q ∧ r.fl = y.fl
  need : ∀ t, (needT t Rs : Int) ≤ cntT l t
  len : ∀ y ∈ P, y.fl.length ≤ 12
theorem PI.step {D D' : DataW Unit} {l l' : List KpD} {Rs : List RtD} {T T' : List TxD} {P : List PE} (h : PI D l Rs T P) (hD : ∀ s q, Marked D s q → Marked D' s q) (hn : (T'.map (·.1)).Nodup) (hc : ∀ s, refsT T' s = cntT l' s) (hd : ∀ t, (needT t Rs : Int) ≤ cntT l' t) : PI D' l' Rs T' P :=
  ⟨hn, hc, h.perm, fun y hy => by obtain ⟨r, h1, h2⟩ := h.rt y hy; exact ⟨r, h1.mono hD, h2⟩, hd, h.len⟩
def posT (T : List TxD) : List ByteArray := (T.filter fun x => decide (0 < x.2)).map (·.1)
def sizT (L : List ByteArray) : Nat := (L.map (·.size)).sum
theorem pos_app (a b : List TxD) : posT (a ++ b) = posT a ++ posT b := by unfold posT; rw [List.filter_append, List.map_append]
theorem siz_app (a b : List ByteArray) : sizT (a ++ b) = sizT a + sizT b := by unfold sizT; rw [List.map_append, List.sum_append]
theorem pos_yes {T : List TxD} {i : Nat} {x : TxD} (h : T[i]? = some x) (hx : 0 < x.2) : posT (T.take (i + 1)) = posT (T.take i) ++ [x.1] := by
  rw [take_snoc h, pos_app]
  congr 1
  unfold posT
  simp [hx]
theorem pos_no {T : List TxD} {i : Nat} {x : TxD} (h : T[i]? = some x) (hx : ¬ 0 < x.2) : posT (T.take (i + 1)) = posT (T.take i) := by
  rw [take_snoc h, pos_app]
  unfold posT
  simp [hx]
theorem pos_le (T : List TxD) (i : Nat) : (posT (T.take i)).length ≤ T.length ∧ sizT (posT (T.take i)) ≤ sizT (posT T) := by
  have h : posT T = posT (T.take i) ++ posT (T.drop i) := by rw [← pos_app, List.take_append_drop]
  refine ⟨?_, by rw [h, siz_app]; omega⟩
  unfold posT
  rw [List.length_map]
  exact Nat.le_trans (List.length_filter_le _ _) (by rw [List.length_take]; omega)
theorem live_yes {P : List PE} {i : Nat} {y : PE} (h : P[i]? = some y) (hy : y.is = true) : live (P.take (i + 1)) = live (P.take i) ++ [y] := by
  rw [take_snoc h]
  unfold live
  rw [List.filter_append]
  simp [hy]
theorem live_no {P : List PE} {i : Nat} {y : PE} (h : P[i]? = some y) (hy : y.is = false) : live (P.take (i + 1)) = live (P.take i) := by
  rw [take_snoc h]
  unfold live
  rw [List.filter_append]
  simp [hy]
theorem live_le (P : List PE) (i : Nat) : (live (P.take i)).length ≤ P.length := Nat.le_trans (List.length_filter_le _ _) (by rw [List.length_take]; omega)
/-- The texts of the plain model are those that are kept. -/
theorem pos_tell {D : DataW Unit} {l : List KpD} {Rs : List RtD} {T : List TxD} {P : List PE} {n : Nat} (h : PI D l Rs T P) (hs : KSrt l) (hk : KOk D l n) : l.length = (posT T).length ∧ sumK l = sizT (posT T) := by
  refine texts_tell hs hk ?_ (fun s => ?_)
  · unfold posT
    exact h.nod.sublist (List.filter_sublist.map _)
  · rw [← h.cnt]
    constructor
    · intro hm
      unfold posT at hm
      obtain ⟨x, hx, rfl⟩ := List.mem_map.1 hm
      obtain ⟨h1, h2⟩ := List.mem_filter.1 hx
      rw [refs_mem h.nod h1]
      simpa using h2
    · intro hm
      obtain ⟨x, h1, rfl, h3⟩ := refs_pos hm
      exact List.mem_map.2 ⟨x, List.mem_filter.2 ⟨h1, by simpa using h3⟩, rfl⟩
set_option maxHeartbeats 4000000 in
set_option maxRecDepth 100000 in
theorem stands_any {w0 w : World} {n : Nat} {D : DataW Unit} {S : Nat → Prop} {l : List KpD} {Rs : List RtD} {VT VP : Value} {T : List TxD} {P : List PE} (h : PL w0 w n D S l Rs VT VP T P) (hI : PI D l Rs T P) (hn : n ≤ 65000) (hT : T.length ≤ 1000000) (hP : P.length ≤ 1000000) :
    Calls Tryz.prog 6 #[.pointer (some ⟨w0.heap.size + 4, 0, none⟩)] w fun e w' => e = .returned (.bool true) ∧ Below w.heap.size w w' := by
  obtain ⟨hl, hsum⟩ := pos_tell hI h.lw.bs.srt h.lw.bs.ok
  have hkk := sumK_le h.lw.bs.ok
  have hll := h.lw.bs.ok.1
  have hbnd : sizT (posT T) ≤ 4259840000 := by rw [← hsum]; omega
  have hrl : Rs.length = (live P).length := by have := hI.perm.length_eq; rw [List.length_map, List.length_map] at this; exact this.symm
  have HC := Lib.hid (count_S w h.lw.bs)
  rw [hl] at HC
  have HB := Lib.hid (fun W (hb : Below w.heap.size w W) => bytes_S W (h.lw.below hb).bs hn)
  rw [hsum] at HB
  have HR := Lib.hid (fun W (hb : Below w.heap.size w W) => roots_S W (h.lw.below hb).bs hn)
  rw [List.length_map, hrl] at HR
  have HK := Lib.hid (fun W (hb : Below w.heap.size w W) => tcellsK (h.lw.below hb).wb)
  obtain ⟨k0, k1, k2, _, _, _⟩ := tcellsK h.lw.wb
  obtain ⟨AT, cT, rfl, _, haT, _⟩ := own_arr h.tr
  obtain ⟨AP, cP, rfl, _, haP, _⟩ := own_arr h.pw.row
  have p0 : w.cell? ⟨w0.heap.size + 3, 0, none⟩ = some (.slice AT T.length cT) := h.pw.pb.cell 0
  have p1 : w.cell? ⟨w0.heap.size + 3, 1, none⟩ = some (.slice AP P.length cP) := h.pw.pb.cell 1
  have HAT := Lib.hid haT
  have HAP := Lib.hid haP
  clear h hI hl hsum hkk hll hrl haT haP
  go_enter Tryz.func6, Tryz.ntmps6
  go_wp2
  go_loopw [3, 4, 5] (fun v3 v4 v5 wr => ∃ (i : Nat), i ≤ T.length ∧ v3 = .int .i64 (posT (T.take i)).length ∧ v4 = .int .i64 (sizT (posT (T.take i))) ∧ v5 = .int .i64 i ∧ wr = w) (fun _ _ vi _ => T.length - (intOf vi).toNat)
  case atStart => exact ⟨0, Nat.zero_le _, rfl, rfl, rfl, rfl⟩
  case round =>
    obtain ⟨i, hi, rfl, rfl, rfl, rfl⟩ := hrel
    by_cases hlt : i < T.length
    · have i1 : (i : Int) < T.length := by omega
      obtain ⟨x, hx⟩ : ∃ x, T[i]? = some x := ⟨_, List.getElem?_eq_getElem hlt⟩
      obtain ⟨bT, oT, rfl, hbT, hcell⟩ := HAT.out.2 (by omega)
      have e0 := hcell (i * 2) _ (tcs_at hx).1
      have e1 := hcell (i * 2 + 1) _ (tcs_at hx).2
      rw [← Nat.add_assoc] at e1
      have hle := pos_le T (i + 1)
      have hle0 := pos_le T i
      by_cases hv : 0 < x.2
      · rw [pos_yes hx hv, siz_app, List.length_append, List.length_singleton, show sizT [x.1] = x.1.size from by simp [sizT]] at hle
        have HS1 := Lib.hid (show ((posT (T.take (i + 1))).length : Int) = (posT (T.take i)).length + 1 ∧ ((sizT (posT (T.take (i + 1))) : Nat) : Int) = sizT (posT (T.take i)) + x.1.size by rw [pos_yes hx hv, siz_app, List.length_append, show sizT [x.1] = x.1.size from by simp [sizT]]; simp)
        clear hx hcell
        generalize (posT (T.take i)).length = a1 at *
        generalize sizT (posT (T.take i)) = a2 at *
        obtain ⟨d, v⟩ := x
        replace hv : 0 < v := hv
        replace hle : a1 + 1 ≤ T.length ∧ a2 + d.size ≤ sizT (posT T) := hle
        replace e0 : _ = some (Value.string d) := e0
        replace e1 : _ = some (Value.int .i64 v) := e1
        obtain ⟨b1, b2⟩ := hle
        have w1 : IntKind.i64.wrap ((a1 : Int) + 1) = a1 + 1 := by rw [IntKind.wrap_i64]; omega
        have w2 : IntKind.i64.wrap ((a2 : Int) + d.size) = a2 + d.size := by rw [IntKind.wrap_i64]; omega
        go_wp2
        go_roundw
        case rel => exact ⟨i + 1, by omega, by rw [HS1.out.1], by rw [HS1.out.2], by go_num, by trivial⟩
        case measure => simp [intOf] <;> omega
      · have HS1 := Lib.hid (pos_no hx hv)
        clear hx hcell
        obtain ⟨d, v⟩ := x
        replace hv : ¬ 0 < v := hv
        replace e0 : _ = some (Value.string d) := e0
        replace e1 : _ = some (Value.int .i64 v) := e1
        go_wp2
        go_roundw
        case rel => exact ⟨i + 1, by omega, by rw [HS1.out], by rw [HS1.out], by go_num, by trivial⟩
        case measure => simp [intOf] <;> omega
    · have i1 : ¬ (i : Int) < T.length := by omega
      obtain rfl : i = T.length := by omega
      clear hi hlt
      rw [List.take_length]
      go_wp2
      go_loopw [6, 7] (fun v6 v7 wr' => ∃ (i : Nat), i ≤ P.length ∧ v6 = .int .i64 (live (P.take i)).length ∧ v7 = .int .i64 i ∧ wr' = wr) (fun _ vi _ => P.length - (intOf vi).toNat)
      case atStart => exact ⟨0, Nat.zero_le _, rfl, rfl, rfl⟩
      case round =>
        obtain ⟨i, hi, rfl, rfl, rfl⟩ := hrel
        by_cases hlt : i < P.length
        · have i1' : (i : Int) < P.length := by omega
          obtain ⟨y, hy⟩ : ∃ y, P[i]? = some y := ⟨_, List.getElem?_eq_getElem hlt⟩
          obtain ⟨bP, oP, rfl, hbP, hcell⟩ := HAP.out.2 (by omega)
          obtain ⟨e0, e1, e2⟩ := pe_cells hcell hy
          have hle := live_le P (i + 1)
          have hle0 := live_le P i
          cases hyi : y.is with
          | true =>
            rw [hyi] at e2
            rw [live_yes hy hyi, List.length_append, List.length_singleton] at hle
            have HS1 := Lib.hid (show ((live (P.take (i + 1))).length : Int) = (live (P.take i)).length + 1 by rw [live_yes hy hyi, List.length_append]; simp)
            clear hy hcell hyi
            generalize (live (P.take i)).length = a1 at *
            have w1 : IntKind.i64.wrap ((a1 : Int) + 1) = a1 + 1 := by rw [IntKind.wrap_i64]; omega
            go_wp2
            go_roundw
            case rel => exact ⟨i + 1, by omega, by rw [HS1.out], by go_num, by trivial⟩
            case measure => simp [intOf] <;> omega
          | false =>
            rw [hyi] at e2
            have HS1 := Lib.hid (live_no hy hyi)
            clear hy hcell hyi
            go_wp2
            go_roundw
            case rel => exact ⟨i + 1, by omega, by rw [HS1.out], by go_num, by trivial⟩
            case measure => simp [intOf] <;> omega
        · have i1' : ¬ (i : Int) < P.length := by omega
          obtain rfl : i = P.length := by omega
          clear hi hlt
          rw [List.take_length]
          generalize (live P).length = a3 at *
          generalize (posT T).length = a1 at *
          generalize sizT (posT T) = a2 at *
          go_wp2_with (first
            | (go_at_call 15; (with_reducible refine (HC.out).mono ?_); rintro e wa ⟨rfl, hba⟩; obtain ⟨k0, k1, k2, _, _, _⟩ := HK.out _ hba)
            | (go_at_call 16; (with_reducible refine (HB.out _ hba).mono ?_); rintro e wb ⟨rfl, hbb⟩; have hb2 := below_on hba hbb; obtain ⟨k0, k1, k2, _, _, _⟩ := HK.out _ hb2)
            | (go_at_call 17; (with_reducible refine (HR.out _ hb2).mono ?_); rintro e wd ⟨⟨AR, cR, rfl⟩, hbd⟩)
            | fail)
          go_ret
          exact ⟨rfl, below_on hb2 hbd⟩
end Go.Proofs.YtmcgaaihdjpdgaaGreatDoor
/- Chapter 11: BlobPlays: Put, Drop, Get of a text. -/
namespace Go.Proofs.YtmcgaaihdjpdgaaGreatDoor
open Go.RowKit
set_option linter.unusedVariables false

def PyOut (w0 : World) (n m np : Nat) (e : Ending) (w' : World) : Prop :=
  ∃ n' D' S' l' Rs' VT' VP' T' P', e = .returned (.bool true) ∧ PL w0 w' n' D' S' l' Rs' VT' VP' T' P' ∧ PI D' l' Rs' T' P' ∧ TB T' (m + 26) ∧ n' ≤ n + 26 ∧ P'.length ≤ np + 1
set_option maxHeartbeats 8000000 in
set_option maxRecDepth 100000 in
theorem ptext_any {w0 w : World} {n m : Nat} {D : DataW Unit} {S : Nat → Prop} {l : List KpD} {Rs : List RtD} {VT VP : Value} {T : List TxD} {P : List PE} (x : InOp) (h : PL w0 w n D S l Rs VT VP T P) (hI : PI D l Rs T P) (hn : n ≤ 60000) (hT : TB T m) (hm : m ≤ 900000)
    (hx : x.text.size ≤ 9223372036854775807) (hfr : x.kind = 1 → needT (cut500 x.text) Rs = 0) :
    Calls Tryz.prog 12 #[.pointer (some ⟨w0.heap.size + 4, 0, none⟩), opval x] w (PyOut w0 n m P.length) := by
  have hb0 := Blk.new w 28 #[.int .i64 x.kind, .int .i64 x.n, .string x.text, .slice x.fA x.files.length x.fC]
  have c0 := hb0.cell 0
  have c2 := hb0.cell 2
  have HP1 := Lib.hid (h.below (w' := w.alloc (.cells #[.int .i64 x.kind, .int .i64 x.n, .string x.text, .slice x.fA x.files.length x.fC] 28)) ((Below.refl w.heap.size w).alloc (Nat.le_refl _) _))
  have HI := Lib.hid hI
  have HT := Lib.hid hT
  have hTl := hT.1
  have HCT := Lib.hid (fun W => cut_any11 x.text W hx)
  have hsz := cut500_size x.text
  obtain ⟨s, hs⟩ : ∃ s, cut500 x.text = s := ⟨_, rfl⟩
  rw [hs] at HCT hsz hfr
  have HRF := Lib.hid (prefs_any s HP1.out (by omega))
  have hc := hI.cnt s
  have hck := cnt_nonneg h.lw.bs.ok s
  rw [← hc] at hck
  obtain ⟨nn, hnn⟩ : ∃ nn, refsT T s = nn := ⟨_, rfl⟩
  have HC : Hid (cntT l s = nn) := Lib.hid (by rw [← hnn, hc])
  rw [hnn] at HRF hck
  have hnk : (HP1.out.lw.bs).ok.1 = (HP1.out.lw.bs).ok.1 := rfl
  obtain ⟨k0, k1, k2, _, _, _⟩ := tcellsK HP1.out.lw.wb
  obtain ⟨hck0, hck1⟩ := hck
  have w1 : IntKind.i64.wrap (nn + 1) = nn + 1 := by rw [IntKind.wrap_i64]; omega
  have w2 : IntKind.i64.wrap (nn - 1) = nn - 1 := by rw [IntKind.wrap_i64]; omega
  have W1 := Lib.hid w1
  have W2 := Lib.hid w2
  have HNN := Lib.hid hnn
  unfold opval
  clear h hI hT hb0 hc hnk w1 w2 hx hs hnn
  obtain ⟨kind, xn, text, fA, fC, files⟩ := x
  replace c0 : _ = some (Value.int .i64 kind) := c0
  replace c2 : _ = some (Value.string text) := c2
  by_cases h0 : kind = 0
  · subst h0
    have HPT := Lib.hid (put_S s _ HP1.out.lw.bs (by omega) (show s.size ≤ 65536 by omega))
    unfold PutOutS at HPT
    have w1 := W1.out
    clear hfr
    go_enter Tryz.func12, Tryz.ntmps12
    go_wp2_with (first
      | (go_at_call 21; (with_reducible refine (HCT.out _).mono ?_); rintro e wa ⟨rfl, hwa⟩; subst hwa)
      | (go_at_call 23; (with_reducible refine (HRF.out).mono ?_); rintro e wb ⟨rfl, hwb⟩; subst hwb)
      | (go_at_call 24; (with_reducible refine (HPT.out).mono ?_); rintro e w2 ⟨q, D2, S2, rfl, _, hmk2, hmo2, hbs2, hst2⟩; have HP2 := Lib.hid (HP1.out.blob (HP1.out.lw.go hbs2 hst2 hmo2) hst2).1; have HMK2 := Lib.hid hmk2; have HMO2 := Lib.hid hmo2; obtain ⟨k0, k1, k2, _, _, _⟩ := tcellsK HP2.out.lw.wb; have HPC := Lib.hid (fun t => cnt_put HP1.out.lw.bs.srt HP1.out.lw.bs.ok hbs2.good hmk2 hmo2 (show s.size ≤ 65536 by omega) t); have HAD := Lib.hid (padd_any s 1 HP2.out HT.out (by omega) (by decide) (by decide)); clear hmk2 hmo2 hbs2 hst2)
      | (go_at_call 25; (with_reducible refine (HAD.out).mono ?_); rintro e w3 ⟨VT3, rfl, hp3, _⟩; have HP3 := Lib.hid hp3; obtain ⟨k0, k1, k2, _, _, _⟩ := tcellsK hp3.lw.wb; clear hp3)
      | (go_at_call 26; (with_reducible refine (is_S s q _ HP3.out.lw.bs (by omega) HMK2.out).mono ?_); rintro e w4 ⟨rfl, hb4⟩; have HP4 := Lib.hid (HP3.out.below hb4); obtain ⟨k0, k1, k2, _, _, _⟩ := tcellsK HP4.out.lw.wb; have HRV := Lib.hid (refs_S q _ HP4.out.lw.bs (by omega)); rw [ref_T HP4.out.lw.bs.ok HP4.out.lw.bs.good HMK2.out, HPC.out, HC.out, if_pos rfl] at HRV)
      | (go_at_call 27; (with_reducible refine (HRV.out).mono ?_); rintro e w5 ⟨rfl, hb5⟩)
      | fail)
    go_ret
    refine ⟨_, D2, S2, _, Rs, VT3, VP, _, P, rfl, HP4.out.below hb5, HI.out.step HMO2.out (add_nodup HI.out.nod s 1) (fun t => ?_) (fun t => ?_), (HT.out.add (by decide) (by decide)).mono (by omega), by omega, by omega⟩
    · rw [refs_add, HPC.out, HI.out.cnt]
      by_cases e : t = s
      · rw [if_pos e, if_pos e.symm]
      · rw [if_neg e, if_neg (fun e2 => e e2.symm)]
    · rw [HPC.out]
      have := HI.out.need t
      split <;> omega
  · have q0 : (kind == 0) = false := by rw [beq_eq_false_iff_ne]; exact h0
    have HMK := Lib.hid (mark_S s _ HP1.out.lw.bs (by omega) (show s.size ≤ 9223372036854775807 by omega))
    by_cases h1 : kind = 1
    · subst h1
      have hfr := hfr rfl
      have HFR := Lib.hid hfr
      clear hfr
      by_cases hz : nn = 0
      · subst hz
        go_enter Tryz.func12, Tryz.ntmps12
        go_wp2_with (first
          | (go_at_call 21; (with_reducible refine (HCT.out _).mono ?_); rintro e wa ⟨rfl, hwa⟩; subst hwa)
          | (go_at_call 23; (with_reducible refine (HRF.out).mono ?_); rintro e wb ⟨rfl, hwb⟩; subst hwb)
          | ((go_at_call 28; (with_reducible refine (HMK.out).mono ?_); rintro e w2 ⟨q, D2, rfl, hmk2, hmo2, hbs2, hst2⟩; have HP2 := Lib.hid (HP1.out.blob (HP1.out.lw.go hbs2 hst2 hmo2) hst2).1; have HMK2 := Lib.hid hmk2; have HMO2 := Lib.hid hmo2; obtain ⟨k0, k1, k2, _, _, _⟩ := tcellsK HP2.out.lw.wb; clear hmk2 hmo2 hbs2 hst2); have HDR := Lib.hid (drop_S s q _ HP2.out.lw.bs (by omega) HMK2.out); unfold DropOutS at HDR; rw [HC.out, if_neg (by decide)] at HDR)
          | (go_at_call 29; (with_reducible refine (HDR.out).mono ?_); rintro e w3 ⟨rfl, hbs3, hst3⟩; have HP3 := Lib.hid (HP2.out.blob (HP2.out.lw.go hbs3 hst3 (fun _ _ h => h)) hst3).1; clear hbs3 hst3)
          | fail)
        go_ret
        have hcd := fun t => cnt_drop HP2.out.lw.bs.srt HP2.out.lw.bs.ok HP2.out.lw.bs.good HMK2.out t
        have hcd2 : ∀ t, cntT (dropK l q) t = cntT l t := fun t => by rw [hcd, HC.out, if_neg (by omega)]; omega
        refine ⟨_, D2, S, _, Rs, VT, VP, T, P, rfl, HP3.out, HI.out.step HMO2.out HI.out.nod (fun t => ?_) (fun t => ?_), HT.out.mono (by omega), by omega, by omega⟩
        · rw [hcd2]; exact HI.out.cnt t
        · rw [hcd2]; exact HI.out.need t
      · have q1 : (nn == 0) = false := by rw [beq_eq_false_iff_ne]; exact hz
        have w2 := W2.out
        go_enter Tryz.func12, Tryz.ntmps12
        go_wp2_with (first
          | (go_at_call 21; (with_reducible refine (HCT.out _).mono ?_); rintro e wa ⟨rfl, hwa⟩; subst hwa)
          | (go_at_call 23; (with_reducible refine (HRF.out).mono ?_); rintro e wb ⟨rfl, hwb⟩; subst hwb)
          | ((go_at_call 28; (with_reducible refine (HMK.out).mono ?_); rintro e w2 ⟨q, D2, rfl, hmk2, hmo2, hbs2, hst2⟩; have HP2 := Lib.hid (HP1.out.blob (HP1.out.lw.go hbs2 hst2 hmo2) hst2).1; have HMK2 := Lib.hid hmk2; have HMO2 := Lib.hid hmo2; obtain ⟨k0, k1, k2, _, _, _⟩ := tcellsK HP2.out.lw.wb; clear hmk2 hmo2 hbs2 hst2); have HDR := Lib.hid (drop_S s q _ HP2.out.lw.bs (by omega) HMK2.out); unfold DropOutS at HDR; rw [HC.out, if_pos (by omega)] at HDR; have HPC := Lib.hid (fun t => cnt_drop HP2.out.lw.bs.srt HP2.out.lw.bs.ok HP2.out.lw.bs.good HMK2.out t))
          | (go_at_call 29; (with_reducible refine (HDR.out).mono ?_); rintro e w3 ⟨rfl, hbs3, hst3⟩; have HP3 := Lib.hid (HP2.out.blob (HP2.out.lw.go hbs3 hst3 (fun _ _ h => h)) hst3).1; obtain ⟨k0, k1, k2, _, _, _⟩ := tcellsK HP3.out.lw.wb; have HAD := Lib.hid (padd_any s (-1) HP3.out HT.out (by omega) (by decide) (by decide)); clear hbs3 hst3)
          | (go_at_call 25; (with_reducible refine (HAD.out).mono ?_); rintro e w4 ⟨VT4, rfl, hp4, _⟩; have HP4 := Lib.hid hp4; obtain ⟨k0, k1, k2, _, _, _⟩ := tcellsK hp4.lw.wb; have HRV := Lib.hid (refs_S q _ HP4.out.lw.bs (by omega)); rw [ref_T HP4.out.lw.bs.ok HP4.out.lw.bs.good HMK2.out, HPC.out, HC.out, if_pos ⟨rfl, by omega⟩] at HRV; clear hp4)
          | (go_at_call 27; (with_reducible refine (HRV.out).mono ?_); rintro e w5 ⟨rfl, hb5⟩)
          | fail)
        go_ret
        refine ⟨_, D2, S, _, Rs, VT4, VP, _, P, rfl, HP4.out.below hb5, HI.out.step HMO2.out (add_nodup HI.out.nod s (-1)) (fun t => ?_) (fun t => ?_), (HT.out.add (by decide) (by decide)).mono (by omega), by omega, by omega⟩
        · rw [refs_add, HPC.out, HI.out.cnt, HC.out]
          by_cases e : t = s
          · rw [if_pos e.symm, if_pos ⟨e, by omega⟩]; omega
          · rw [if_neg (fun e2 => e e2.symm), if_neg (fun h => e h.1)]; omega
        · rw [HPC.out]
          have := HI.out.need t
          split
          · rename_i he
            rw [he.1] at this ⊢
            rw [HC.out] at this ⊢
            have h9 := HFR.out
            omega
          · omega
    · have q1 : (kind == 1) = false := by rw [beq_eq_false_iff_ne]; exact h1
      clear hfr
      by_cases hz : nn = 0
      · subst hz
        go_enter Tryz.func12, Tryz.ntmps12
        go_wp2_with (first
          | (go_at_call 21; (with_reducible refine (HCT.out _).mono ?_); rintro e wa ⟨rfl, hwa⟩; subst hwa)
          | (go_at_call 23; (with_reducible refine (HRF.out).mono ?_); rintro e wb ⟨rfl, hwb⟩; subst hwb)
          | ((go_at_call 28; (with_reducible refine (HMK.out).mono ?_); rintro e w2 ⟨q, D2, rfl, hmk2, hmo2, hbs2, hst2⟩; have HP2 := Lib.hid (HP1.out.blob (HP1.out.lw.go hbs2 hst2 hmo2) hst2).1; have HMK2 := Lib.hid hmk2; have HMO2 := Lib.hid hmo2; obtain ⟨k0, k1, k2, _, _, _⟩ := tcellsK HP2.out.lw.wb; clear hmk2 hmo2 hbs2 hst2); have HGT := Lib.hid (get_S q _ HP2.out.lw.bs (by omega)); rw [get_T HP2.out.lw.bs.ok HP2.out.lw.bs.good HMK2.out, HC.out, if_neg (by decide)] at HGT; have HRV := Lib.hid (fun W (hb : Below w2.heap.size w2 W) => refs_S q W (HP2.out.lw.below hb).bs (by omega)); rw [ref_T HP2.out.lw.bs.ok HP2.out.lw.bs.good HMK2.out, HC.out] at HRV)
          | (go_at_call 30; (with_reducible refine (HGT.out).mono ?_); rintro e w3 ⟨rfl, hb3⟩; have HP3 := Lib.hid (HP2.out.below hb3); obtain ⟨k0, k1, k2, _, _, _⟩ := tcellsK HP3.out.lw.wb)
          | (go_at_call 27; (with_reducible refine (HRV.out _ hb3).mono ?_); rintro e w5 ⟨rfl, hb5⟩)
          | fail)
        go_ret
        exact ⟨_, D2, S, _, Rs, VT, VP, T, P, rfl, HP3.out.below hb5, HI.out.step HMO2.out HI.out.nod HI.out.cnt HI.out.need, HT.out.mono (by omega), by omega, by omega⟩
      · have q2 : (nn == 0) = false := by rw [beq_eq_false_iff_ne]; exact hz
        go_enter Tryz.func12, Tryz.ntmps12
        go_wp2_with (first
          | (go_at_call 21; (with_reducible refine (HCT.out _).mono ?_); rintro e wa ⟨rfl, hwa⟩; subst hwa)
          | (go_at_call 23; (with_reducible refine (HRF.out).mono ?_); rintro e wb ⟨rfl, hwb⟩; subst hwb)
          | ((go_at_call 28; (with_reducible refine (HMK.out).mono ?_); rintro e w2 ⟨q, D2, rfl, hmk2, hmo2, hbs2, hst2⟩; have HP2 := Lib.hid (HP1.out.blob (HP1.out.lw.go hbs2 hst2 hmo2) hst2).1; have HMK2 := Lib.hid hmk2; have HMO2 := Lib.hid hmo2; obtain ⟨k0, k1, k2, _, _, _⟩ := tcellsK HP2.out.lw.wb; clear hmk2 hmo2 hbs2 hst2); have HGT := Lib.hid (get_S q _ HP2.out.lw.bs (by omega)); rw [get_T HP2.out.lw.bs.ok HP2.out.lw.bs.good HMK2.out, HC.out, if_pos (by omega)] at HGT; have HRV := Lib.hid (fun W (hb : Below w2.heap.size w2 W) => refs_S q W (HP2.out.lw.below hb).bs (by omega)); rw [ref_T HP2.out.lw.bs.ok HP2.out.lw.bs.good HMK2.out, HC.out] at HRV)
          | (go_at_call 30; (with_reducible refine (HGT.out).mono ?_); rintro e w3 ⟨rfl, hb3⟩; have HP3 := Lib.hid (HP2.out.below hb3); obtain ⟨k0, k1, k2, _, _, _⟩ := tcellsK HP3.out.lw.wb)
          | (go_at_call 27; (with_reducible refine (HRV.out _ hb3).mono ?_); rintro e w5 ⟨rfl, hb5⟩)
          | fail)
        go_ret
        exact ⟨_, D2, S, _, Rs, VT, VP, T, P, rfl, HP3.out.below hb5, HI.out.step HMO2.out HI.out.nod HI.out.cnt HI.out.need, HT.out.mono (by omega), by omega, by omega⟩
end Go.Proofs.YtmcgaaihdjpdgaaGreatDoor
