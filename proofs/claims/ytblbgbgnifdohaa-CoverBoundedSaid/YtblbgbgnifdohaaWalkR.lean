/-
  The walks of the functions that CoverBounded hands to ContainsFunc.
-/
import Derived.Test.YtblbgbgnifdohaaWalkQ
import Derived.ArgAppend
namespace Go.Proofs.Ytblbgbgnifdohaa
open Go.RowKit Go.Maps

theorem has_any {B : Nat} {v : Value} {xs : List Int} {w : World} (x : Int) (h : w.ownsRow B 3 1 v xs.length (xs.map (Value.int .i64))) (hn : xs.length ≤ 16) : Calls Try.prog 8 #[v, .int .i64 x] w fun e w' => e = .returned (.bool (xs.contains x)) ∧ w = w' := by
  rcases h.2 with ⟨rfl, h0⟩ | ⟨g, cap, cur, rfl, _⟩
  · obtain rfl : xs = [] := List.length_eq_zero_iff.1 h0
    refine (Try.slices_Contains_int_empty none 0 x w).mono ?_
    rintro e w' ⟨rfl, rfl⟩
    exact ⟨rfl, rfl⟩
  · refine (Try.slices_Contains_int g 0 xs.length cap xs x w (Nat.le_refl _) (by omega) (fun j hj => ?_)).mono ?_
    · rw [Nat.zero_add, h.cellAt j (by omega)]
      simp [List.getD, List.getElem?_eq_getElem hj]
    · rintro e w' ⟨rfl, rfl⟩
      exact ⟨by rw [List.take_length], rfl⟩

theorem c1_any {B : Nat} {v : Value} {xs : List Int} {w : World} (u t : Int) (h : w.ownsRow B 3 1 v xs.length (xs.map (Value.int .i64))) (hn : xs.length ≤ 16) :
    Calls Try.prog 7 #[.agg #[.int .i64 u, .int .i64 t, v]] w fun e w' => e = .returned (.bool (xs.contains (-1))) ∧ Below w.heap.size w w' := by
  obtain ⟨A, c, rfl⟩ := row_slice h
  have HC := Lib.hid (has_any (-1) (h.alloc (.cells #[.int .i64 u, .int .i64 t, .slice A xs.length c] 33)) hn)
  have HB := Lib.hid ((Below.refl w.heap.size w).alloc (Nat.le_refl _) (.cells #[.int .i64 u, .int .i64 t, .slice A xs.length c] 33))
  obtain ⟨b, hb⟩ : ∃ b, xs.contains (-1) = b := ⟨_, rfl⟩
  rw [hb] at HC ⊢
  clear h hb
  go_enter Try.func7, Try.ntmps7
  go_wp2_with fail
  refine HC.out.mono ?_
  rintro e w' ⟨rfl, rfl⟩
  go_wp2_with fail
  go_ret
  exact ⟨rfl, HB.out⟩

theorem c3_any {B B' : Nat} {v : Value} {xs ys : List Int} {Ax : Option Addr} {cx xb : Nat} {w : World} (u t : Int) (h : w.ownsRow B 3 1 v xs.length (xs.map (Value.int .i64))) (hn : xs.length ≤ 16)
    (hx : w.cell? ⟨xb, 0, none⟩ = some (.slice Ax ys.length cx)) (hy : w.ownsRow B' 3 1 (.slice Ax ys.length cx) ys.length (ys.map (Value.int .i64))) (hyn : ys.length ≤ 16) :
    Calls Try.prog 12 #[.agg #[.int .i64 u, .int .i64 t, v], .pointer (some ⟨xb, 0, none⟩)] w fun e w' => e = .returned (.bool (xs == ys)) ∧ Below w.heap.size w w' := by
  obtain ⟨A, c, rfl⟩ := row_slice h
  have hxb := cell_lt hx
  have HC := Lib.hid (equal_any A Ax xs.length ys.length c cx xs ys _ _ (w.alloc (.cells #[.int .i64 u, .int .i64 t, .slice A xs.length c] 33)) (by omega) (by omega) rfl rfl (row_reads (h.alloc _)) (row_reads (hy.alloc _)))
  have HB := Lib.hid ((Below.refl w.heap.size w).alloc (Nat.le_refl _) (.cells #[.int .i64 u, .int .i64 t, .slice A xs.length c] 33))
  clear h hy
  go_enter Try.func12, Try.ntmps12
  go_wp2_with fail
  refine HC.out.mono ?_
  rintro e w' ⟨rfl, q, rfl⟩
  go_wp2_with fail
  go_ret
  exact ⟨rfl, HB.out.trans ((below_drewN _ q).mono (by simp))⟩

theorem c4_any {B B' : Nat} {v : Value} {xs ys : List Int} {Ax : Option Addr} {cx kb : Nat} {w : World} (h : w.ownsRow B 3 1 v xs.length (xs.map (Value.int .i64))) (hn : xs.length ≤ 16)
    (hx : w.cell? ⟨kb, 2, none⟩ = some (.slice Ax ys.length cx)) (hy : w.ownsRow B' 3 1 (.slice Ax ys.length cx) ys.length (ys.map (Value.int .i64))) (hyn : ys.length ≤ 16) :
    Calls Try.prog 15 #[v, .pointer (some ⟨kb, 0, none⟩)] w fun e w' => e = .returned (.bool (ys == xs)) ∧ Below w.heap.size w w' := by
  obtain ⟨A, c, rfl⟩ := row_slice h
  have hxb := cell_lt hx
  have HC := Lib.hid (equal_any Ax A ys.length xs.length cx c ys xs _ _ w (by omega) (by omega) rfl rfl (row_reads hy) (row_reads h))
  clear h hy
  go_enter Try.func15, Try.ntmps15
  go_wp2_with fail
  refine HC.out.mono ?_
  rintro e w' ⟨rfl, q, rfl⟩
  go_wp2_with fail
  go_ret
  exact ⟨rfl, below_drewN _ q⟩

/-! ### a number more than there may be -/
def big (xs : List Int) : Bool := xs.any fun x => decide (1000000 < x)
theorem fold_big : ∀ (xs : List Int) (a : Int), (1000000 < xs.foldl max a) ↔ (1000000 < a ∨ big xs = true)
  | [], a => by simp [big]
  | x :: xs, a => by
    rw [List.foldl_cons, fold_big xs (max a x)]
    have h1 : (1000000 < max a x) ↔ (1000000 < a ∨ 1000000 < x) := by omega
    rw [h1, or_assoc]
    simp only [big, List.any_cons, Bool.or_eq_true, decide_eq_true_eq]
theorem max_big (xs : List Int) : decide (1000000 < Lib.maxOf (xs ++ [0])) = big xs := by
  rw [Bool.eq_iff_iff, decide_eq_true_eq]
  unfold Lib.maxOf
  cases xs with
  | nil => simp [big]
  | cons x xs =>
    rw [fold_big]
    have h1 : big (x :: (xs ++ [0])) = big (x :: xs) := by simp [big]
    have h2 : big (x :: xs) = true ↔ (1000000 < x ∨ big xs = true) := by simp [big]
    rw [show x :: xs ++ [0] = x :: (xs ++ [0]) from rfl, List.headD_cons, h1, h2]
    constructor
    · rintro (h | h)
      · exact .inl h
      · exact h
    · exact .inr
theorem max_any {B : Nat} {v : Value} {xs : List Int} {w : World} (h : w.ownsRow B 3 1 v xs.length (xs.map (Value.int .i64))) (h0 : 0 < xs.length) (hn : xs.length ≤ 17) : Calls Try.prog 11 #[v] w fun e w' => e = .returned (.int .i64 (Lib.maxOf xs)) ∧ w = w' := by
  obtain ⟨g, cap, rfl, _, _⟩ := row_form h h0
  refine (Try.slices_Max_int g 0 xs.length cap xs w h0 (Nat.le_refl _) (by omega) (fun j hj => ?_)).mono ?_
  · rw [Nat.zero_add, h.cellAt j (by omega)]
    simp [List.getD, List.getElem?_eq_getElem hj]
  · rintro e w' ⟨rfl, rfl⟩
    exact ⟨by rw [List.take_length], rfl⟩

/-- the world w' is as w was, but for places behind the first N ones of blocks from B on, of type 3. -/
def Tail (B N : Nat) (w w' : World) : Prop := Below B w w' ∧
  (∀ (e : TypeId) (s n : Nat) (v : Value) (xs : List Value), w.ownsRow B e s v n xs → e ≠ 3 ∨ (s = 1 ∧ n ≤ N) → w'.ownsRow B e s v n xs)
theorem own_spare {w : World} {B e s n g j : Nat} {v : Value} {xs : List Value} (h : w.ownsRow B e s v n xs) (hs : e ≠ 3 ∨ (s = 1 ∧ n ≤ j)) (hT : ∃ cs r, w.heap[g]? = some (.cells cs 3 r)) (u : Value) : (w.setCell ⟨g, j, none⟩ u).ownsRow B e s v n xs := by
  obtain ⟨hl, h⟩ := h
  refine ⟨hl, ?_⟩
  rcases h with h | ⟨g', cap, cur, e1, hB, hh, hcap, hm, hsz, ht⟩
  · exact .inl h
  · by_cases hg : g' = g
    · subst hg
      obtain ⟨cs, r, hc⟩ := hT
      rw [hc] at hh
      simp only [Option.some.injEq, Obj.cells.injEq] at hh
      obtain ⟨rfl, rfl, rfl⟩ := hh
      obtain ⟨rfl, hn⟩ := hs.resolve_left (by simp)
      refine .inr ⟨g', cap, cs.setIfInBounds j u, e1, hB, ?_, hcap, hm, by simpa using hsz, ?_⟩
      · simp [World.setCell, Array.getElem?_modify, hc]
      · rw [← ht, Array.toList_setIfInBounds, List.take_set_of_le (by omega)]
    · exact .inr ⟨g', cap, cur, e1, hB, (heap_set_other (by simpa using hg) u).trans hh, hcap, hm, hsz, ht⟩
theorem room_row {w : World} {B g n cap : Nat} {xs : List Value} (h : w.ownsRow B 3 1 (.slice (some ⟨g, 0, none⟩) n cap) n xs) (hr : n + 1 ≤ cap) (u : Value) :
    (w.setCell ⟨g, n, none⟩ u).ownsRow B 3 1 (.slice (some ⟨g, 0, none⟩) (n + 1) cap) (n + 1) (xs ++ [u]) := by
  obtain ⟨hl, h⟩ := h
  rcases h with ⟨e, _⟩ | ⟨g', cap', cur, e1, hB, hh, hcap, hm, hsz, ht⟩
  · cases e
  · simp only [Value.slice.injEq, Option.some.injEq, Addr.mk.injEq, true_and, and_true] at e1
    obtain ⟨rfl, rfl⟩ := e1
    refine ⟨by simp; omega, .inr ⟨g, cap, cur.setIfInBounds n u, rfl, hB, ?_, hr, hm, by simpa using hsz, ?_⟩⟩
    · simp [World.setCell, Array.getElem?_modify, hh]
    · rw [Array.toList_setIfInBounds, Nat.mul_one, List.take_succ_eq_append_getElem (by simp; omega), List.take_set_of_le (Nat.le_refl _)]
      rw [Nat.mul_one] at ht
      rw [ht]
      simp
theorem room_cell {w : World} {B g n cap : Nat} {xs : List Value} (h : w.ownsRow B 3 1 (.slice (some ⟨g, 0, none⟩) n cap) n xs) (hr : n + 1 ≤ cap) : (w.cell? ⟨g, n, none⟩).isSome = true ∧ w.frozen? ⟨g, n, none⟩ = false ∧ (∃ cs r, w.heap[g]? = some (.cells cs 3 r)) ∧ B ≤ g := by
  obtain ⟨hl, h⟩ := h
  rcases h with ⟨e, _⟩ | ⟨g', cap', cur, e1, hB, hh, hcap, hm, hsz, ht⟩
  · cases e
  · simp only [Value.slice.injEq, Option.some.injEq, Addr.mk.injEq, true_and, and_true] at e1
    obtain ⟨rfl, rfl⟩ := e1
    refine ⟨?_, by simp [World.frozen?, hh], ⟨_, _, hh⟩, hB⟩
    have : n < cur.size := by omega
    simp [World.cell?, hh, this]
theorem Tail.of_below {w w' : World} {B N : Nat} (hB : B ≤ w.heap.size) (h : Below w.heap.size w w') : Tail B N w w' := ⟨h.mono hB, fun _ _ _ _ _ hr _ => own_below hr h⟩
theorem Tail.trans {a b c : World} {B N : Nat} (h : Tail B N a b) (k : Tail B N b c) : Tail B N a c := ⟨h.1.trans k.1, fun e s n v xs hr hh => k.2 e s n v xs (h.2 e s n v xs hr hh) hh⟩

set_option maxHeartbeats 1000000 in
theorem c2_any {B : Nat} {v : Value} {xs : List Int} {w : World} (u t : Int) (h : w.ownsRow B 3 1 v xs.length (xs.map (Value.int .i64))) (hn : xs.length ≤ 16) (hB : B ≤ w.heap.size) :
    Calls Try.prog 10 #[.agg #[.int .i64 u, .int .i64 t, v]] w fun e w' => e = .returned (.bool (big xs)) ∧ Tail B xs.length w w' := by
  obtain ⟨i0, hi, hz0, hz1, hz2⟩ := info_parts infoI
  rcases h.2 with ⟨rfl, h0⟩ | ⟨g, cap, cur, rfl, hBg, hhg, _⟩
  · obtain rfl : xs = [] := List.length_eq_zero_iff.1 h0
    obtain ⟨W1, hW1⟩ : ∃ W1, (w.alloc (.cells #[.int .i64 u, .int .i64 t, .slice none 0 0] 33)).alloc (.cells #[.int .i64 0] 3) = W1 := ⟨_, rfl⟩
    have HB1 : Hid (Below w.heap.size w W1) := Lib.hid (hW1 ▸ ((Below.refl w.heap.size w).alloc (Nat.le_refl _) _).alloc (by simp) _)
    have hsz : W1.heap.size = w.heap.size + 2 := by rw [← hW1]; simp
    have hc : W1.cell? ⟨w.heap.size + 1, 0, none⟩ = some (.int .i64 0) := by rw [← hW1]; simp [go_sem]
    have HC := Lib.hid hc
    have HW1 := Lib.hid hW1
    have HN := Lib.hid (World.ownsRow_nil W1 w.heap.size 3 1)
    clear h hW1 hc
    go_enter Try.func10, Try.ntmps10
    go_wp2_with (at_builtin; rw [HW1.out]; refine wpList_append_own _ rfl (.tmp 4) (.tmp 5) 25 rfl w.heap.size 3 i0 _ 1 8 Try.underlying25 hi hz0 hz1 hz2 rfl (by decide) (.slice none 0 0) 0 [] rfl HN.out ⟨w.heap.size + 1, 0, none⟩ 1 1 [.int .i64 0] rfl rfl ?c1 ?c2 (by decide) (by decide) (by omega) ?_)
    case c1 =>
      intro j u hu
      obtain ⟨hj, rfl⟩ := List.getElem?_eq_some_iff.1 hu
      obtain rfl : j = 0 := by simpa using hj
      exact HC.out
    case c2 => intro u hu; simp only [List.mem_singleton] at hu; subst hu; rfl
    intro v2 W2 hown2 hgrow2 _
    have HMX := Lib.hid (max_any (xs := [0]) hown2 (by decide) (by decide))
    have HB2 : Hid (Below w.heap.size w W2) := Lib.hid (HB1.out.grown hgrow2 (by omega) (fun k hk => by cases hk))
    clear hown2 hgrow2
    go_wp2_with fail
    refine HMX.out.mono ?_
    rintro e w' ⟨rfl, rfl⟩
    go_wp2_with fail
    go_ret
    exact ⟨rfl, Tail.of_below hB HB2.out⟩
  · have hgs := (Array.getElem?_eq_some_iff.1 hhg).1
    obtain ⟨W1, hW1⟩ : ∃ W1, (w.alloc (.cells #[.int .i64 u, .int .i64 t, .slice (some ⟨g, 0, none⟩) xs.length cap] 33)).alloc (.cells #[.int .i64 0] 3) = W1 := ⟨_, rfl⟩
    have HB1 : Hid (Below w.heap.size w W1) := Lib.hid (hW1 ▸ ((Below.refl w.heap.size w).alloc (Nat.le_refl _) _).alloc (by simp) _)
    have hsz : W1.heap.size = w.heap.size + 2 := by rw [← hW1]; simp
    have hc : W1.cell? ⟨w.heap.size + 1, 0, none⟩ = some (.int .i64 0) := by rw [← hW1]; simp [go_sem]
    have HC := Lib.hid hc
    have HW1 := Lib.hid hW1
    have HR := Lib.hid (own_below h HB1.out)
    obtain ⟨b, hb⟩ : ∃ b, big xs = b := ⟨_, rfl⟩
    rw [hb]
    have HMB : Hid (decide (1000000 < Lib.maxOf (xs ++ [0])) = b) := Lib.hid (by rw [max_big, hb])
    clear h hW1 hc hhg hb
    go_enter Try.func10, Try.ntmps10
    go_wp2_with (at_builtin; rw [HW1.out]; refine wpList_append_arg _ rfl (.tmp 4) (.tmp 5) 25 rfl 3 i0 _ 1 8 Try.underlying25 hi hz0 hz1 hz2 rfl (by decide) g 0 xs.length cap (xs.map (Value.int .i64)) rfl (by simp) ?d0 ⟨w.heap.size + 1, 0, none⟩ 1 1 [.int .i64 0] rfl rfl ?d1 ?d2 ?d3 ?d4 ?d5 ?room ?grow)
    case d0 => intro j u hu; rw [Nat.zero_add, HR.out.cellAt j (by have := (List.getElem?_eq_some_iff.1 hu).1; simp at this; omega)]; exact hu
    case d1 =>
      intro j u hu
      obtain ⟨hj, rfl⟩ := List.getElem?_eq_some_iff.1 hu
      obtain rfl : j = 0 := by simpa using hj
      exact HC.out
    case d2 => intro u hu; simp only [List.mem_singleton] at hu; subst hu; rfl
    case d3 =>
      intro hr j hj
      obtain rfl : j = 0 := by simpa using hj
      obtain ⟨a1, a2, _⟩ := room_cell HR.out hr
      simp only [Nat.zero_add, Nat.mul_one, Nat.add_zero]
      exact ⟨a1, a2⟩
    case d4 => unfold maxLen; omega
    case d5 => omega
    case room =>
      intro hr
      obtain ⟨_, _, hT, hg⟩ := room_cell HR.out hr
      have hrow := room_row HR.out hr (.int .i64 0)
      simp only [Nat.mul_one, World.setCells]
      have HT : Hid (Tail B xs.length w (W1.setCell ⟨g, xs.length, none⟩ (.int .i64 0))) := Lib.hid ((Tail.of_below hB HB1.out).trans ⟨(Below.refl B W1).setCell (p := ⟨g, xs.length, none⟩) hg _, fun e s n v ys hr2 hh => own_spare hr2 hh hT _⟩)
      have hrow2 : (W1.setCell ⟨g, xs.length, none⟩ (.int .i64 0)).ownsRow B 3 1 (.slice (some ⟨g, 0, none⟩) (xs.length + 1) cap) (xs ++ [0]).length ((xs ++ [0]).map (Value.int .i64)) := by simpa using hrow
      have HMX := Lib.hid (max_any hrow2 (by simp) (by simp; omega))
      clear hrow hrow2 hT hr
      generalize W1.setCell ⟨g, xs.length, none⟩ (.int .i64 0) = W2 at *
      go_wp2_with fail
      refine HMX.out.mono ?_
      rintro e w' ⟨rfl, rfl⟩
      obtain ⟨mx, hmx⟩ : ∃ mx, Lib.maxOf (xs ++ [0]) = mx := ⟨_, rfl⟩
      rw [hmx] at HMB ⊢
      clear hmx
      go_wp2_with fail
      go_ret
      exact ⟨ret_bool HMB.out, HT.out⟩
    case grow =>
      intro hr v2 W2 hown2 hgrow2
      have hrow2 : W2.ownsRow (w.heap.size + 2) 3 1 v2 (xs ++ [0]).length ((xs ++ [0]).map (Value.int .i64)) := by simpa using hown2
      have HMX := Lib.hid (max_any hrow2 (by simp) (by simp; omega))
      have HB2 : Hid (Below w.heap.size w W2) := Lib.hid (HB1.out.grown hgrow2 (by omega) (fun k hk => by cases hk))
      clear hown2 hgrow2 hrow2 hr
      go_wp2_with fail
      refine HMX.out.mono ?_
      rintro e w' ⟨rfl, rfl⟩
      obtain ⟨mx, hmx⟩ : ∃ mx, Lib.maxOf (xs ++ [0]) = mx := ⟨_, rfl⟩
      rw [hmx] at HMB ⊢
      clear hmx
      go_wp2_with fail
      go_ret
      exact ⟨ret_bool HMB.out, Tail.of_below hB HB2.out⟩
end Go.Proofs.Ytblbgbgnifdohaa
