/-
  The walk of text.line: a transition, as a text.
-/
import Derived.Test.YtednlgeidgnogaaDoorWalkB
import Derived.Deep.RegionHeld3
namespace Go.Proofs.YtednlgeidgnogaaDoor
open Go.RowKit

theorem cell_new0 (w : World) (x y z : Value) (t : TypeId) : (w.alloc (.cells #[x, y, z] t)).cell? ⟨w.heap.size, 0, none⟩ = some x ∧ (w.alloc (.cells #[x, y, z] t)).cell? ⟨w.heap.size, 1, none⟩ = some y ∧ (w.alloc (.cells #[x, y, z] t)).cell? ⟨w.heap.size, 2, none⟩ = some z := by
  refine ⟨?_, ?_, ?_⟩ <;> simp [go_sem]

/-- what stands in memory while a line is written. -/
structure LineAt (w W : World) : Prop where
  bel : Below w.heap.size w W
  lt : w.heap.size < W.heap.size
theorem LineAt.next {w W W' : World} (h : LineAt w W) (hb : Below W.heap.size W W') : LineAt w W' :=
  ⟨h.bel.trans (hb.mono (Nat.le_of_lt h.lt)), Nat.lt_of_lt_of_le h.lt hb.size⟩
theorem LineAt.drew {w W : World} (h : LineAt w W) : LineAt w W.drew := ⟨h.bel.drew, h.lt⟩
theorem LineAt.cell {w W W' : World} (h : LineAt w W) (hb : Below W.heap.size W W') (i : Nat) : W'.cell? ⟨w.heap.size, i, none⟩ = W.cell? ⟨w.heap.size, i, none⟩ := hb.cell (p := ⟨w.heap.size, i, none⟩) h.lt

theorem LineAt.reads {w W : World} {x y z : Value} {A : Option Addr} {n : Nat} {xs : List Value} (h : Reads w w.heap.size 1 A n xs)
    (hl : W.cell? ⟨w.heap.size, 0, none⟩ = some x ∧ W.cell? ⟨w.heap.size, 1, none⟩ = some y ∧ W.cell? ⟨w.heap.size, 2, none⟩ = some z ∧ LineAt w W) : Reads W W.heap.size 1 A n xs :=
  (h.below hl.2.2.2.bel).more (Nat.le_of_lt hl.2.2.2.lt)
theorem LineAt.after {w W W' : World} {x y z : Value} (hb : Below W.heap.size W W') (h : W.cell? ⟨w.heap.size, 0, none⟩ = some x ∧ W.cell? ⟨w.heap.size, 1, none⟩ = some y ∧ W.cell? ⟨w.heap.size, 2, none⟩ = some z ∧ LineAt w W) :
    W'.cell? ⟨w.heap.size, 0, none⟩ = some x ∧ W'.cell? ⟨w.heap.size, 1, none⟩ = some y ∧ W'.cell? ⟨w.heap.size, 2, none⟩ = some z ∧ LineAt w W' :=
  ⟨(h.2.2.2.cell hb 0).trans h.1, (h.2.2.2.cell hb 1).trans h.2.1, (h.2.2.2.cell hb 2).trans h.2.2.1, h.2.2.2.next hb⟩

theorem LineAt.afterK {w W W' : World} {x y z : Value} {G : Prop} (hb : Below W.heap.size W W') (h : W.cell? ⟨w.heap.size, 0, none⟩ = some x ∧ W.cell? ⟨w.heap.size, 1, none⟩ = some y ∧ W.cell? ⟨w.heap.size, 2, none⟩ = some z ∧ LineAt w W)
    (k : (W'.cell? ⟨w.heap.size, 0, none⟩ = some x ∧ W'.cell? ⟨w.heap.size, 1, none⟩ = some y ∧ W'.cell? ⟨w.heap.size, 2, none⟩ = some z ∧ LineAt w W') → G) : G := k (LineAt.after hb h)
theorem LineAt.fin {w W : World} {x y z : Value} (h : W.cell? ⟨w.heap.size, 0, none⟩ = some x ∧ W.cell? ⟨w.heap.size, 1, none⟩ = some y ∧ W.cell? ⟨w.heap.size, 2, none⟩ = some z ∧ LineAt w W) : Below w.heap.size w W := h.2.2.2.bel
theorem line_data (l : Int) (xs ys : List Int) : (({ data := (Tx.labelS l).toArray } : ByteArray) ++ { data := #[32, 58] } ++ { data := (Tx.side xs).toArray } ++ { data := #[32, 62] } ++ { data := (Tx.side ys).toArray }) = ⟨(Tx.lineS ⟨l, xs, ys⟩).toArray⟩ := by
  apply ByteArray.ext
  simp [Tx.lineS]
theorem label_len (l : Int) : (Tx.labelS l).length ≤ 1 := by
  unfold Tx.labelS; split <;> simp
theorem side_len : ∀ (xs : List Int) (p : Nat), p + xs.length ≤ 100 → (∀ x ∈ xs, 0 ≤ x ∧ x ≤ 9) → (Tx.sideFrom p xs).length ≤ 8 * xs.length
  | [], _, _, _ => by simp [Tx.sideFrom]
  | x :: r, p, hp, h => by
    have ih := side_len r (p + 1) (by simp at hp; omega) (fun y hy => h y (by simp [hy]))
    have hx := h x (by simp)
    obtain ⟨m, rfl⟩ := Int.eq_ofNat_of_zero_le hx.1
    have hn := num_len p m (by simp at hp; omega) (by omega)
    simp only [Tx.sideFrom, List.length_append, List.length_cons]
    omega
theorem line_any (l : Int) (A1 A2 : Option Addr) (n1 c1 n2 c2 : Nat) (xs ys : List Int) (w : World) (h0 : 0 ≤ l) (h1 : l ≤ 26) (hn1 : n1 ≤ 16) (hn2 : n2 ≤ 16)
    (hl1 : xs.length = n1) (hl2 : ys.length = n2) (h9x : ∀ x ∈ xs, 0 ≤ x ∧ x ≤ 9) (h9y : ∀ x ∈ ys, 0 ≤ x ∧ x ≤ 9)
    (hr1 : Reads w w.heap.size 1 A1 n1 (xs.map (Value.int .i64))) (hr2 : Reads w w.heap.size 1 A2 n2 (ys.map (Value.int .i64))) :
    Calls Tryd.prog 24 #[.agg #[.int .i64 l, .slice A1 n1 c1, .slice A2 n2 c2]] w fun e w' => e = .returned (.string ⟨(Tx.lineS ⟨l, xs, ys⟩).toArray⟩) ∧ Below w.heap.size w w' := by
  have HL1 := Lib.hid hl1
  have HL2 := Lib.hid hl2
  have HX := Lib.hid h9x
  have HY := Lib.hid h9y
  have HR1 := Lib.hid hr1
  have HR2 := Lib.hid hr2
  clear hl1 hl2 h9x h9y hr1 hr2
  have hlab := label_len l
  have hs1 : (Tx.side xs).length ≤ 128 := by have := side_len xs 0 (by rw [HL1.out]; omega) HX.out; rw [HL1.out] at this; unfold Tx.side; omega
  have hs2 : (Tx.side ys).length ≤ 128 := by have := side_len ys 0 (by rw [HL2.out]; omega) HY.out; rw [HL2.out] at this; unfold Tx.side; omega
  have q3 : ¬ 9223372036854775807 < (Tx.labelS l).length + 2 := by omega
  have q7 : ¬ 9223372036854775807 < (Tx.labelS l).length + 2 + (Tx.side xs).length := by omega
  have q8 : ¬ 9223372036854775807 < (Tx.labelS l).length + 2 + (Tx.side xs).length + 2 := by omega
  have q12 : ¬ 9223372036854775807 < (Tx.labelS l).length + 2 + (Tx.side xs).length + 2 + (Tx.side ys).length := by omega
  clear hlab hs1 hs2
  go_enter Tryd.func24, Tryd.ntmps24
  go_wp2_with fail
  obtain ⟨k0, k1, k2⟩ := cell_new0 w (.int .i64 l) (.slice A1 n1 c1) (.slice A2 n2 c2) 41
  have HA : LineAt w (w.alloc (.cells #[.int .i64 l, .slice A1 n1 c1, .slice A2 n2 c2] 41)) := ⟨(Below.refl _ w).alloc (Nat.le_refl _) _, by simp⟩
  generalize w.alloc (.cells #[.int .i64 l, .slice A1 n1 c1, .slice A2 n2 c2] 41) = W at *
  go_region_held3 (fun w' => w'.cell? ⟨w.heap.size, 0, none⟩ = some (.int .i64 l) ∧ w'.cell? ⟨w.heap.size, 1, none⟩ = some (.slice A1 n1 c1) ∧ w'.cell? ⟨w.heap.size, 2, none⟩ = some (.slice A2 n2 c2) ∧ LineAt w w')
    (first | exact ⟨k0, k1, k2, HA.drew⟩ | assumption)
    (first
      | (go_at_call 42; refine (label_any l _ h0 h1).mono ?_; rintro e w' ⟨rfl, rfl⟩)
      | (go_at_call_of 43 A1; refine (side_any A1 n1 c1 xs _ hn1 HL1.out HX.out ?_).mono ?_; (refine LineAt.reads (x := .int .i64 l) (y := .slice A1 n1 c1) (z := .slice A2 n2 c2) HR1.out ?_; assumption); rintro e w2 ⟨rfl, hb⟩; refine LineAt.afterK (w := w) (x := .int .i64 l) (y := .slice A1 n1 c1) (z := .slice A2 n2 c2) hb ?_ ?_; assumption; intro q; clear hb)
      | (go_at_call_of 43 A2; refine (side_any A2 n2 c2 ys _ hn2 HL2.out HY.out ?_).mono ?_; (refine LineAt.reads (x := .int .i64 l) (y := .slice A1 n1 c1) (z := .slice A2 n2 c2) HR2.out ?_; assumption); rintro e w2 ⟨rfl, hb⟩; refine LineAt.afterK (w := w) (x := .int .i64 l) (y := .slice A1 n1 c1) (z := .slice A2 n2 c2) hb ?_ ?_; assumption; intro q; clear hb))
  all_goals
    go_wp2_with fail
    go_ret
    refine ⟨ret_string (line_data l xs ys), LineAt.fin (x := .int .i64 l) (y := .slice A1 n1 c1) (z := .slice A2 n2 c2) ?_⟩
    assumption
end Go.Proofs.YtednlgeidgnogaaDoor
