/- The walk of the law's step. -/
import Derived.Test.YtgcghcmmcljiiaaRdOff
set_option linter.unusedVariables false
namespace Go.Proofs.Ytgcghcmmcljiiaa
open Go.RowKit
theorem twin_int {x y : Int} (h : y = x) : Ending.returned (.bool (x == y)) = .returned (.bool true) := by rw [h]; simp
theorem twin_nat {x y : Nat} (h : y = x) : Ending.returned (.bool ((x : Int) == (y : Int))) = .returned (.bool true) := by rw [h]; simp
theorem twin_str {x y : ByteArray} (h : y = x) : Ending.returned (.bool (x.toList == y.toList)) = .returned (.bool true) := by rw [h]; simp
theorem rq_ne {w : World} {a b : Nat} {r q : Rd} (hr : Rdr w a r) (hq : Qdr w b q) : b ≠ a := Blk.ne_ hq hr (by decide)
theorem some_ne {a b : Nat} (h : a ≠ b) : some a ≠ some b := fun e => h (by injection e)

set_option maxHeartbeats 1000000 in
set_option maxRecDepth 100000 in
theorem step_byte (a b : Nat) (r q : Rd) (n m : Int) (w : World) (hr : Rdr w a r) (hq : Qdr w b q) (hro : r.ok) (hqo : q.ok) (hrs : r.s.size ≤ 1099511627776 ∨ r.e ≠ 0) (hqs : q.s.size ≤ 1099511627776) (ht : Twin r q) (hn0 : -9223372036854775808 ≤ n) (hn1 : n ≤ 9223372036854775807) :
    Calls Try.prog 29 #[.pointer (some ⟨a, 0, none⟩), .pointer (some ⟨b, 0, none⟩), .agg #[.int .i64 0, .int .i64 n, .int .i64 m]] w fun e w' => e = .returned (.bool true) ∧ Rdr w' a (rdStep r 0 n m) ∧ Qdr w' b (rdStep q 0 n m) ∧ Fr2 a b w w' := by
  have hne := rq_ne hr hq
  have hal := Blk.lt hr
  have hbl := Blk.lt hq
  have HT := Lib.hid (twin_byte ht)
  clear ht
  go_enter Try.func29, Try.ntmps29
  go_wp2_with (first | (go_at_call 25; refine (byte_any a r _ (Blk.alloc hr _) hro).mono ?_; rintro e w1 ⟨rfl, h1, g1⟩) | (go_at_call 41; refine (qbyte_any b q _ (Blk.grown (Blk.alloc hq _) (by assumption) (by simp; omega)) hqo).mono ?_; rintro e w2 ⟨rfl, h2, g2⟩))
  go_ret
  exact ⟨twin_nat HT.out, Blk.grown h1 g2 (by simp; omega), h2, Fr.next (Fr.alloc (Fr.refl _ _) _) (fr2_of g1 g2)⟩

set_option maxHeartbeats 1000000 in
set_option maxRecDepth 100000 in
theorem step_num (a b : Nat) (r q : Rd) (n m : Int) (w : World) (hr : Rdr w a r) (hq : Qdr w b q) (hro : r.ok) (hqo : q.ok) (hrs : r.s.size ≤ 1099511627776 ∨ r.e ≠ 0) (hqs : q.s.size ≤ 1099511627776) (ht : Twin r q) (hn0 : -9223372036854775808 ≤ n) (hn1 : n ≤ 9223372036854775807) :
    Calls Try.prog 29 #[.pointer (some ⟨a, 0, none⟩), .pointer (some ⟨b, 0, none⟩), .agg #[.int .i64 1, .int .i64 n, .int .i64 m]] w fun e w' => e = .returned (.bool true) ∧ Rdr w' a (rdStep r 1 n m) ∧ Qdr w' b (rdStep q 1 n m) ∧ Fr2 a b w w' := by
  have hne := rq_ne hr hq
  have hal := Blk.lt hr
  have hbl := Blk.lt hq
  have HT := Lib.hid (twin_num ht)
  clear ht
  go_enter Try.func29, Try.ntmps29
  go_wp2_with (first | (go_at_call 26; refine (num_any a r _ (Blk.alloc hr _) hro).mono ?_; rintro e w1 ⟨rfl, h1, g1⟩) | (go_at_call 42; refine (qnum_any b q _ (Blk.grown (Blk.alloc hq _) (by assumption) (by simp; omega)) hqo).mono ?_; rintro e w2 ⟨rfl, h2, g2⟩))
  go_ret
  exact ⟨twin_nat HT.out, Blk.grown h1 g2 (by simp; omega), h2, Fr.next (Fr.alloc (Fr.refl _ _) _) (fr2_of g1 g2)⟩

set_option maxHeartbeats 1000000 in
set_option maxRecDepth 100000 in
theorem step_signed (a b : Nat) (r q : Rd) (n m : Int) (w : World) (hr : Rdr w a r) (hq : Qdr w b q) (hro : r.ok) (hqo : q.ok) (hrs : r.s.size ≤ 1099511627776 ∨ r.e ≠ 0) (hqs : q.s.size ≤ 1099511627776) (ht : Twin r q) (hn0 : -9223372036854775808 ≤ n) (hn1 : n ≤ 9223372036854775807) :
    Calls Try.prog 29 #[.pointer (some ⟨a, 0, none⟩), .pointer (some ⟨b, 0, none⟩), .agg #[.int .i64 2, .int .i64 n, .int .i64 m]] w fun e w' => e = .returned (.bool true) ∧ Rdr w' a (rdStep r 2 n m) ∧ Qdr w' b (rdStep q 2 n m) ∧ Fr2 a b w w' := by
  have hne := rq_ne hr hq
  have hal := Blk.lt hr
  have hbl := Blk.lt hq
  have HT := Lib.hid (twin_signed ht)
  clear ht
  go_enter Try.func29, Try.ntmps29
  go_wp2_with (first | (go_at_call 18; refine (signed_any a r _ (Blk.alloc hr _) hro).mono ?_; rintro e w1 ⟨rfl, h1, g1⟩) | (go_at_call 43; refine (qsigned_any b q _ (Blk.grown (Blk.alloc hq _) (by assumption) (by simp; omega)) hqo).mono ?_; rintro e w2 ⟨rfl, h2, g2⟩))
  go_ret
  exact ⟨twin_int HT.out, Blk.grown h1 g2 (by simp; omega), h2, Fr.next (Fr.alloc (Fr.refl _ _) _) (fr2_of g1 g2)⟩

set_option maxHeartbeats 1000000 in
set_option maxRecDepth 100000 in
theorem step_raw (a b : Nat) (r q : Rd) (n m : Int) (w : World) (hr : Rdr w a r) (hq : Qdr w b q) (hro : r.ok) (hqo : q.ok) (hrs : r.s.size ≤ 1099511627776 ∨ r.e ≠ 0) (hqs : q.s.size ≤ 1099511627776) (ht : Twin r q) (hn0 : -9223372036854775808 ≤ n) (hn1 : n ≤ 9223372036854775807) :
    Calls Try.prog 29 #[.pointer (some ⟨a, 0, none⟩), .pointer (some ⟨b, 0, none⟩), .agg #[.int .i64 3, .int .i64 n, .int .i64 m]] w fun e w' => e = .returned (.bool true) ∧ Rdr w' a (rdStep r 3 n m) ∧ Qdr w' b (rdStep q 3 n m) ∧ Fr2 a b w w' := by
  have hne := rq_ne hr hq
  have hal := Blk.lt hr
  have hbl := Blk.lt hq
  have HT := Lib.hid (twin_raw n ht)
  clear ht
  go_enter Try.func29, Try.ntmps29
  go_wp2
  go_region_held3 (fun w' => w'.cell? ⟨w.heap.size, 1, none⟩ = some (.int .i64 n)) (first | (simp [go_sem]; done) | (simp; done) | (exact World.grownBy.cell (by assumption) (by assumption) (some_ne (by simp; omega))))
    (first
      | (go_at_call 27; refine (raw_any a r n _ ?_ hro hn0 hn1).mono ?_; (first | exact Blk.drew (Blk.alloc hr _) | exact Blk.alloc hr _); rintro e w1 ⟨rfl, h1, g1⟩; have hq1 : Qdr w1 b q := Blk.grown (Blk.drew (Blk.alloc hq _)) g1 (some_ne hne))
      | (go_at_call 44; refine (qraw_any b q n _ ?_ hqo hn0 hn1).mono ?_; assumption; rintro e w2 ⟨rfl, h2, g2⟩))
  go_wp2
  go_ret
  exact ⟨twin_str HT.out, Blk.grown h1 g2 (by simp; omega), h2, Fr.next (Fr.drew (Fr.alloc (Fr.refl _ _) _)) (fr2_of g1 g2)⟩

set_option maxHeartbeats 1000000 in
set_option maxRecDepth 100000 in
theorem step_count (a b : Nat) (r q : Rd) (n m : Int) (w : World) (hr : Rdr w a r) (hq : Qdr w b q) (hro : r.ok) (hqo : q.ok) (hrs : r.s.size ≤ 1099511627776 ∨ r.e ≠ 0) (hqs : q.s.size ≤ 1099511627776) (ht : Twin r q) (hn0 : -9223372036854775808 ≤ n) (hn1 : n ≤ 9223372036854775807) :
    Calls Try.prog 29 #[.pointer (some ⟨a, 0, none⟩), .pointer (some ⟨b, 0, none⟩), .agg #[.int .i64 4, .int .i64 n, .int .i64 m]] w fun e w' => e = .returned (.bool true) ∧ Rdr w' a (rdStep r 4 n m) ∧ Qdr w' b (rdStep q 4 n m) ∧ Fr2 a b w w' := by
  have hne := rq_ne hr hq
  have hal := Blk.lt hr
  have hbl := Blk.lt hq
  have HT := Lib.hid (twin_count n ht)
  clear ht
  go_enter Try.func29, Try.ntmps29
  go_wp2
  go_region_held3 (fun w' => w'.cell? ⟨w.heap.size, 1, none⟩ = some (.int .i64 n)) (first | (simp [go_sem]; done) | (simp; done) | (exact World.grownBy.cell (by assumption) (by assumption) (some_ne (by simp; omega))))
    (first
      | (go_at_call 40; refine (count_any a r n _ ?_ hro).mono ?_; (first | exact Blk.drew (Blk.alloc hr _) | exact Blk.alloc hr _); rintro e w1 ⟨rfl, h1, g1⟩; have hq1 : Qdr w1 b q := Blk.grown (Blk.drew (Blk.alloc hq _)) g1 (some_ne hne))
      | (go_at_call 45; refine (qcount_any b q n _ ?_ hqo).mono ?_; assumption; rintro e w2 ⟨rfl, h2, g2⟩))
  go_wp2
  go_ret
  exact ⟨twin_nat HT.out, Blk.grown h1 g2 (by simp; omega), h2, Fr.next (Fr.drew (Fr.alloc (Fr.refl _ _) _)) (fr2_of g1 g2)⟩

set_option maxHeartbeats 1000000 in
set_option maxRecDepth 100000 in
theorem step_text (a b : Nat) (r q : Rd) (n m : Int) (w : World) (hr : Rdr w a r) (hq : Qdr w b q) (hro : r.ok) (hqo : q.ok) (hrs : r.s.size ≤ 1099511627776 ∨ r.e ≠ 0) (hqs : q.s.size ≤ 1099511627776) (ht : Twin r q) (hn0 : -9223372036854775808 ≤ n) (hn1 : n ≤ 9223372036854775807) :
    Calls Try.prog 29 #[.pointer (some ⟨a, 0, none⟩), .pointer (some ⟨b, 0, none⟩), .agg #[.int .i64 5, .int .i64 n, .int .i64 m]] w fun e w' => e = .returned (.bool true) ∧ Rdr w' a (rdStep r 5 n m) ∧ Qdr w' b (rdStep q 5 n m) ∧ Fr2 a b w w' := by
  have hne := rq_ne hr hq
  have hal := Blk.lt hr
  have hbl := Blk.lt hq
  have HT := Lib.hid (twin_text n ht)
  clear ht
  go_enter Try.func29, Try.ntmps29
  go_wp2
  go_region_held3 (fun w' => w'.cell? ⟨w.heap.size, 1, none⟩ = some (.int .i64 n)) (first | (simp [go_sem]; done) | (simp; done) | (exact World.grownBy.cell (by assumption) (by assumption) (some_ne (by simp; omega))))
    (first
      | (go_at_call 22; refine (text_any a r n _ ?_ hro).mono ?_; (first | exact Blk.drew (Blk.alloc hr _) | exact Blk.alloc hr _); rintro e w1 ⟨rfl, h1, g1⟩; have hq1 : Qdr w1 b q := Blk.grown (Blk.drew (Blk.alloc hq _)) g1 (some_ne hne))
      | (go_at_call 46; refine (qtext_any b q n _ ?_ hqo).mono ?_; assumption; rintro e w2 ⟨rfl, h2, g2⟩))
  go_wp2
  go_ret
  exact ⟨twin_str HT.out, Blk.grown h1 g2 (by simp; omega), h2, Fr.next (Fr.drew (Fr.alloc (Fr.refl _ _) _)) (fr2_of g1 g2)⟩

theorem rdNumsGo_len : ∀ (n : Nat) (r : Rd), (rdNumsGo n r).1.length ≤ n
  | 0, r => Nat.le_refl _
  | n + 1, r => by
    rw [rdNumsGo]
    simp only []
    split
    · simp
    · have := rdNumsGo_len n (rdNum r).2
      simp only [List.length_cons]
      omega
theorem rdNums_len (r : Rd) (m : Int) : (rdNums r m).1.length ≤ 4611686018427387903 := by
  have h1 := rdNumsGo_len (rdCount r m).1 (rdCount r m).2
  have h2 := rdCount_le r m
  unfold rdNums
  simp only []
  split
  · simp
  · omega
theorem rdTextsGo_len (m : Int) : ∀ (n : Nat) (r : Rd), (rdTextsGo n m r).1.length ≤ n
  | 0, r => Nat.le_refl _
  | n + 1, r => by
    rw [rdTextsGo]
    simp only []
    split
    · simp
    · have := rdTextsGo_len m n (rdText r m).2
      simp only [List.length_cons]
      omega
theorem rdTexts_len (r : Rd) (m k : Int) : (rdTexts r m k).1.length ≤ 4611686018427387903 := by
  have h1 := rdTextsGo_len k (rdCount r m).1 (rdCount r m).2
  have h2 := rdCount_le r m
  unfold rdTexts
  simp only []
  split
  · simp
  · omega
theorem natV_map (L : List Nat) : (L.map fun n : Nat => (n : Int)).map (Value.int .i64) = L.map natV := by simp [natV]
theorem ints_nat (A A' : Option Addr) (c c' : Nat) (L : List Nat) (w : World) (hl : L.length ≤ 9223372036854775807) (h : Arr w w.heap.size 1 A L.length (L.map natV)) (h' : Arr w w.heap.size 1 A' L.length (L.map natV)) :
    Calls Try.prog 35 #[.slice A L.length c, .slice A' L.length c'] w fun e w' => e = .returned (.bool true) ∧ Below w.heap.size w w' := by
  have := ints_same A A' c c' (L.map fun n : Nat => (n : Int)) w (by simpa using hl) (by rw [natV_map]; simpa using h) (by rw [natV_map]; simpa using h')
  simpa using this
theorem qnums_to (b : Nat) (r : Rd) (most : Int) (L : List Nat) (w : World) (h : Qdr w b r) (ho : r.ok) (hsz : r.s.size ≤ 1099511627776) (hL : Hid ((rdNums r most).1 = L)) :
    Calls Try.prog 47 #[.pointer (some ⟨b, 0, none⟩), .int .i64 most] w fun e w' => ∃ A c, e = .returned (.slice A L.length c) ∧ Arr w' w'.heap.size 1 A L.length (L.map natV) ∧ Fresh w.heap.size A ∧ Qdr w' b (rdNums r most).2 ∧ w.grownBy w' (some b) := by
  have := qnums_any b r most w h ho hsz
  rw [hL.out] at this
  exact this
theorem nums_to (b : Nat) (r : Rd) (most : Int) (L : List Nat) (w : World) (h : Rdr w b r) (ho : r.ok) (hsz : r.s.size ≤ 1099511627776 ∨ r.e ≠ 0) (hL : Hid ((rdNums r most).1 = L)) :
    Calls Try.prog 28 #[.pointer (some ⟨b, 0, none⟩), .int .i64 most] w fun e w' => ∃ A c, e = .returned (.slice A L.length c) ∧ Arr w' w'.heap.size 1 A L.length (L.map natV) ∧ Fresh w.heap.size A ∧ Rdr w' b (rdNums r most).2 ∧ w.grownBy w' (some b) := by
  have := nums_any2 b r most w h ho hsz
  rw [hL.out] at this
  exact this
theorem qtexts_to (b : Nat) (r : Rd) (most each : Int) (L : List ByteArray) (w : World) (h : Qdr w b r) (ho : r.ok) (hsz : r.s.size ≤ 1099511627776) (hL : Hid ((rdTexts r most each).1 = L)) :
    Calls Try.prog 48 #[.pointer (some ⟨b, 0, none⟩), .int .i64 most, .int .i64 each] w fun e w' => ∃ A c, e = .returned (.slice A L.length c) ∧ Arr w' w'.heap.size 1 A L.length (L.map Value.string) ∧ Fresh w.heap.size A ∧ Qdr w' b (rdTexts r most each).2 ∧ w.grownBy w' (some b) := by
  have := qtexts_any b r most each w h ho hsz
  rw [hL.out] at this
  exact this
theorem texts_to (b : Nat) (r : Rd) (most each : Int) (L : List ByteArray) (w : World) (h : Rdr w b r) (ho : r.ok) (hsz : r.s.size ≤ 1099511627776 ∨ r.e ≠ 0) (hL : Hid ((rdTexts r most each).1 = L)) :
    Calls Try.prog 34 #[.pointer (some ⟨b, 0, none⟩), .int .i64 most, .int .i64 each] w fun e w' => ∃ A c, e = .returned (.slice A L.length c) ∧ Arr w' w'.heap.size 1 A L.length (L.map Value.string) ∧ Fresh w.heap.size A ∧ Rdr w' b (rdTexts r most each).2 ∧ w.grownBy w' (some b) := by
  have := texts_any2 b r most each w h ho hsz
  rw [hL.out] at this
  exact this
theorem keep2 {w w' : World} {a : Nat} {p q : Addr} {x y : Value} (g : w.grownBy w' (some a)) (h : w.cell? p = some x ∧ w.cell? q = some y) (hp : p.block ≠ a) (hq : q.block ≠ a) : w'.cell? p = some x ∧ w'.cell? q = some y :=
  ⟨g.cell h.1 (some_ne hp), g.cell h.2 (some_ne hq)⟩
theorem keep2b {w w' : World} {p q : Addr} {x y : Value} (g : Below w.heap.size w w') (h : w.cell? p = some x ∧ w.cell? q = some y) : w'.cell? p = some x ∧ w'.cell? q = some y :=
  ⟨cell_later g h.1, cell_later g h.2⟩

set_option maxHeartbeats 1000000 in
set_option maxRecDepth 100000 in
theorem step_nums (a b : Nat) (r q : Rd) (n m : Int) (w : World) (hr : Rdr w a r) (hq : Qdr w b q) (hro : r.ok) (hqo : q.ok) (hrs : r.s.size ≤ 1099511627776 ∨ r.e ≠ 0) (hqs : q.s.size ≤ 1099511627776) (ht : Twin r q) (hn0 : -9223372036854775808 ≤ n) (hn1 : n ≤ 9223372036854775807) :
    Calls Try.prog 29 #[.pointer (some ⟨a, 0, none⟩), .pointer (some ⟨b, 0, none⟩), .agg #[.int .i64 6, .int .i64 n, .int .i64 m]] w fun e w' => e = .returned (.bool true) ∧ Rdr w' a (rdStep r 6 n m) ∧ Qdr w' b (rdStep q 6 n m) ∧ Fr2 a b w w' := by
  have hne := rq_ne hr hq
  have hal := Blk.lt hr
  have hbl := Blk.lt hq
  have ht' := twin_nums n ht
  have hl := rdNums_len r n
  generalize hL : (rdNums r n).1 = L at ht' hl
  have HT := Lib.hid ht'
  have HL := Lib.hid hL
  clear ht ht' hL
  go_enter Try.func29, Try.ntmps29
  go_wp2
  go_region_held3 (fun w' => w'.cell? ⟨w.heap.size, 1, none⟩ = some (.int .i64 n)) (first | (simp [go_sem]; done) | (simp; done) | (exact cell_later hb3 (by assumption)) | (exact World.grownBy.cell (by assumption) (by assumption) (some_ne (by simp; omega))))
    (first
      | (go_at_call 28; refine (nums_to a r n L _ ?_ hro hrs HL).mono ?_; (first | exact Blk.drew (Blk.alloc hr _) | exact Blk.alloc hr _); rintro e w1 ⟨A1, k1, rfl, ha1, fr1, h1, g1⟩; have hq1 : Qdr w1 b q := Blk.grown (Blk.drew (Blk.alloc hq _)) g1 (some_ne hne))
      | (go_at_call 47; refine (qnums_to b q n L _ ?_ hqo hqs HT).mono ?_; assumption; rintro e w2 ⟨A2, k2, rfl, ha2, fr2, h2, g2⟩; have ha12 := Arr.grown (by assumption) g2 (by assumption) (show b < _ by simp; omega))
      | (go_at_call 35; refine (ints_nat _ _ _ _ L _ (by omega) (by assumption) (by assumption)).mono ?_; rintro e w3 ⟨rfl, hb3⟩))
  go_wp2
  go_ret
  exact ⟨rfl, Blk.below (Blk.grown h1 g2 (by simp; omega)) hb3 (Blk.lt (Blk.grown h1 g2 (by simp; omega))), Blk.below h2 hb3 (Blk.lt h2), Fr.next (Fr.next (Fr.drew (Fr.alloc (Fr.refl _ _) _)) (fr2_of g1 g2)) (Fr.of_below hb3 _)⟩

set_option maxHeartbeats 1000000 in
set_option maxRecDepth 100000 in
theorem step_texts (a b : Nat) (r q : Rd) (n m : Int) (w : World) (hr : Rdr w a r) (hq : Qdr w b q) (hro : r.ok) (hqo : q.ok) (hrs : r.s.size ≤ 1099511627776 ∨ r.e ≠ 0) (hqs : q.s.size ≤ 1099511627776) (ht : Twin r q) (hn0 : -9223372036854775808 ≤ n) (hn1 : n ≤ 9223372036854775807) :
    Calls Try.prog 29 #[.pointer (some ⟨a, 0, none⟩), .pointer (some ⟨b, 0, none⟩), .agg #[.int .i64 7, .int .i64 n, .int .i64 m]] w fun e w' => e = .returned (.bool true) ∧ Rdr w' a (rdStep r 7 n m) ∧ Qdr w' b (rdStep q 7 n m) ∧ Fr2 a b w w' := by
  have hne := rq_ne hr hq
  have hal := Blk.lt hr
  have hbl := Blk.lt hq
  have ht' := twin_texts n m ht
  have hl := rdTexts_len r n m
  generalize hL : (rdTexts r n m).1 = L at ht' hl
  have HT := Lib.hid ht'
  have HL := Lib.hid hL
  clear ht ht' hL
  go_enter Try.func29, Try.ntmps29
  go_wp2
  go_region_held3 (fun w' => w'.cell? ⟨w.heap.size, 1, none⟩ = some (.int .i64 n) ∧ w'.cell? ⟨w.heap.size, 2, none⟩ = some (.int .i64 m)) (first | (simp [go_sem]; done) | (simp; done) | (exact keep2b hb3 (by assumption)) | (exact keep2 (by assumption) (by assumption) (by simp; omega) (by simp; omega)))
    (first
      | (go_at_call 34; refine (texts_to a r n m L _ ?_ hro hrs HL).mono ?_; (first | exact Blk.drew (Blk.alloc hr _) | exact Blk.alloc hr _); rintro e w1 ⟨A1, k1, rfl, ha1, fr1, h1, g1⟩; have hq1 : Qdr w1 b q := Blk.grown (Blk.drew (Blk.alloc hq _)) g1 (some_ne hne))
      | (go_at_call 48; refine (qtexts_to b q n m L _ ?_ hqo hqs HT).mono ?_; assumption; rintro e w2 ⟨A2, k2, rfl, ha2, fr2, h2, g2⟩; have ha12 := Arr.grown (by assumption) g2 (by assumption) (show b < _ by simp; omega))
      | (go_at_call 36; refine (texts_same _ _ _ _ L _ (by omega) (by assumption) (by assumption)).mono ?_; rintro e w3 ⟨rfl, hb3⟩))
  go_wp2
  go_ret
  exact ⟨rfl, Blk.below (Blk.grown h1 g2 (by simp; omega)) hb3 (Blk.lt (Blk.grown h1 g2 (by simp; omega))), Blk.below h2 hb3 (Blk.lt h2), Fr.next (Fr.next (Fr.drew (Fr.alloc (Fr.refl _ _) _)) (fr2_of g1 g2)) (Fr.of_below hb3 _)⟩

set_option maxHeartbeats 1000000 in
set_option maxRecDepth 100000 in
theorem step_end (a b : Nat) (r q : Rd) (k n m : Int) (w : World) (hr : Rdr w a r) (hq : Qdr w b q) (hro : r.ok) (hqo : q.ok) (hrs : r.s.size ≤ 1099511627776 ∨ r.e ≠ 0) (hqs : q.s.size ≤ 1099511627776) (ht : Twin r q) (hk : ¬ (k = 0 ∨ k = 1 ∨ k = 2 ∨ k = 3 ∨ k = 4 ∨ k = 5 ∨ k = 6 ∨ k = 7)) (hn0 : -9223372036854775808 ≤ n) (hn1 : n ≤ 9223372036854775807) :
    Calls Try.prog 29 #[.pointer (some ⟨a, 0, none⟩), .pointer (some ⟨b, 0, none⟩), .agg #[.int .i64 k, .int .i64 n, .int .i64 m]] w fun e w' => e = .returned (.bool true) ∧ Rdr w' a (rdEnd r) ∧ Qdr w' b (rdEnd q) ∧ Fr2 a b w w' := by
  have hne := rq_ne hr hq
  have hal := Blk.lt hr
  have hbl := Blk.lt hq
  have HT := Lib.hid (twin_end ht)
  clear ht
  have k0 : (k == 0) = false := by simp; omega
  have k1 : (k == 1) = false := by simp; omega
  have k2 : (k == 2) = false := by simp; omega
  have k3 : (k == 3) = false := by simp; omega
  have k4 : (k == 4) = false := by simp; omega
  have k5 : (k == 5) = false := by simp; omega
  have k6 : (k == 6) = false := by simp; omega
  have k7 : (k == 7) = false := by simp; omega
  clear hk
  go_enter Try.func29, Try.ntmps29
  go_wp2_with (first | (go_at_call 19; refine (end_any a r _ (Blk.alloc hr _) hro).mono ?_; rintro e w1 ⟨rfl, h1, g1⟩) | (go_at_call 49; refine (qend_any b q _ (Blk.grown (Blk.alloc hq _) (by assumption) (by simp; omega)) hqo).mono ?_; rintro e w2 ⟨rfl, h2, g2⟩))
  go_ret
  exact ⟨twin_int HT.out, Blk.grown h1 g2 (by simp; omega), h2, Fr.next (Fr.alloc (Fr.refl _ _) _) (fr2_of g1 g2)⟩
end Go.Proofs.Ytgcghcmmcljiiaa
