/-
  Lines: a text is the join of its pieces cut behind each newline, and the pieces are fixed by that.
-/
import Derived.Test.YtednlgeidgnogaaDoorSpec
namespace Go.Proofs.YtednlgeidgnogaaDoor
namespace Tx
open Go.Lib

theorem index_one_nil (c : UInt8) : index [] [c] = -1 := by simp [index]
theorem index_one_eq (c : UInt8) (l : List UInt8) : index (c :: l) [c] = 0 := by simp [index]
theorem index_one_ne (b c : UInt8) (l : List UInt8) (h : b ≠ c) : index (b :: l) [c] = if index l [c] == -1 then -1 else index l [c] + 1 := by
  simp [index, Ne.symm h]
theorem index_one_miss (c : UInt8) : ∀ l : List UInt8, c ∉ l → index l [c] = -1
  | [], _ => index_one_nil c
  | b :: l, h => by
    have h1 : b ≠ c := fun e => h (by simp [e])
    have h2 : c ∉ l := fun e => h (by simp [e])
    rw [index_one_ne b c l h1, index_one_miss c l h2]; rfl
theorem index_one_hit (c : UInt8) : ∀ x y : List UInt8, c ∉ x → index (x ++ c :: y) [c] = x.length
  | [], y, _ => by simpa using index_one_eq c y
  | b :: x, y, h => by
    have h1 : b ≠ c := fun e => h (by simp [e])
    have h2 : c ∉ x := fun e => h (by simp [e])
    have ih := index_one_hit c x y h2
    rw [List.cons_append, index_one_ne b c _ h1, ih]
    have : ¬ ((x.length : Int) == -1) = true := fun e => by have := beq_iff_eq.1 e; omega
    rw [if_neg this]; simp
/-- a list has a byte, or does not. -/
theorem parts_at (c : UInt8) : ∀ l : List UInt8, c ∉ l ∨ ∃ x y, l = x ++ c :: y ∧ c ∉ x
  | [] => .inl (by simp)
  | b :: l => by
    by_cases h : b = c
    · exact .inr ⟨[], l, by simp [h], by simp⟩
    · rcases parts_at c l with h2 | ⟨x, y, rfl, hx⟩
      · exact .inl (by simp [Ne.symm h, h2])
      · exact .inr ⟨b :: x, y, rfl, by simp [Ne.symm h, hx]⟩

def Good : List (List UInt8) → Prop
  | [] => False
  | [l] => 10 ∉ l
  | l :: r => (∃ x, l = x ++ [10] ∧ 10 ∉ x) ∧ Good r

theorem Good.cons {x : List UInt8} {r : List (List UInt8)} (hx : 10 ∉ x) (hr : Good r) : Good ((x ++ [10]) :: r) := by
  cases r with
  | nil => exact hr.elim
  | cons a r => exact ⟨⟨x, rfl, hx⟩, hr⟩
theorem Good.inv {l : List UInt8} {r : List (List UInt8)} (h : Good (l :: r)) : (r = [] ∧ 10 ∉ l) ∨ (∃ x, l = x ++ [10] ∧ 10 ∉ x) ∧ Good r := by
  cases r with
  | nil => exact .inl ⟨rfl, h⟩
  | cons a r => exact .inr h

theorem linesS_miss (l : List UInt8) (h : 10 ∉ l) : linesS l = [l] := by
  unfold linesS
  rw [count_miss (index_one_miss 10 l h)]
  rfl
theorem linesS_hit (x y : List UInt8) (h : 10 ∉ x) : linesS (x ++ 10 :: y) = (x ++ [10]) :: linesS y := by
  have hi := index_one_hit 10 x y h
  have e1 : (x ++ 10 :: y).drop (x.length + [(10 : UInt8)].length) = y := by
    rw [show x ++ 10 :: y = (x ++ [10]) ++ y by simp]
    have : x.length + [(10 : UInt8)].length = (x ++ [10]).length := by simp
    rw [this, List.drop_left]
  have e2 : (x ++ 10 :: y).take (x.length + 1) = x ++ [10] := by
    rw [show x ++ 10 :: y = (x ++ [10]) ++ y by simp]
    have : x.length + 1 = (x ++ [(10 : UInt8)]).length := by simp
    rw [this, List.take_left]
  unfold linesS
  rw [count_hit (by simp) hi, e1, Nat.add_comm 1]
  show (if _ then _ else _) = _
  have hn : ¬ (index (x ++ 10 :: y) [10] == -1) = true := fun e => by have := beq_iff_eq.1 e; omega
  rw [if_neg hn, hi]
  simp only [Int.toNat_natCast]
  rw [e1, e2]

theorem lines_ind {Q : List UInt8 → Prop} (h1 : ∀ l, 10 ∉ l → Q l) (h2 : ∀ x y, 10 ∉ x → Q y → Q (x ++ 10 :: y)) : ∀ l, Q l := by
  have : ∀ n, ∀ l : List UInt8, l.length ≤ n → Q l := by
    intro n
    induction n with
    | zero => intro l hl; exact h1 l (by have : l = [] := by simpa using hl
                                         simp [this])
    | succ n ih =>
      intro l hl
      rcases parts_at 10 l with h | ⟨x, y, rfl, hx⟩
      · exact h1 l h
      · exact h2 x y hx (ih y (by simp at hl; omega))
  exact fun l => this l.length l (Nat.le_refl _)

theorem linesS_good : ∀ l, Good (linesS l) := by
  refine lines_ind ?_ ?_
  · intro l h; rw [linesS_miss l h]; exact h
  · intro x y hx hy; rw [linesS_hit x y hx]; exact Good.cons hx hy
theorem linesS_flat : ∀ l, (linesS l).flatten = l := by
  refine lines_ind ?_ ?_
  · intro l h; rw [linesS_miss l h]; simp
  · intro x y hx hy; rw [linesS_hit x y hx]; simp [hy]
theorem linesS_len : ∀ l, (linesS l).length = l.count 10 + 1 := by
  refine lines_ind ?_ ?_
  · intro l h; rw [linesS_miss l h]; simp [List.count_eq_zero.2 h]
  · intro x y hx hy; rw [linesS_hit x y hx]; simp [hy, List.count_eq_zero.2 hx]
theorem Good.lines : ∀ {ls : List (List UInt8)}, Good ls → linesS ls.flatten = ls
  | [], h => h.elim
  | l :: r, h => by
    rcases h.inv with ⟨rfl, hl⟩ | ⟨⟨x, rfl, hx⟩, hr⟩
    · simpa using linesS_miss l hl
    · have ih := Good.lines hr
      have : ((x ++ [10]) :: r).flatten = x ++ 10 :: r.flatten := by simp
      rw [this, linesS_hit x _ hx, ih]

theorem suffix_nl (x : List UInt8) : hasSuffix (x ++ [10]) [10] = true := by simp [hasSuffix]
theorem suffix_no (x : List UInt8) (h : 10 ∉ x) : hasSuffix x [10] = false := by
  rw [Bool.eq_false_iff]
  intro e
  have : [(10 : UInt8)] <:+ x := by simpa [hasSuffix] using e
  exact h (this.subset (by simp))
theorem trim_nl (x : List UInt8) : trimSuffix (x ++ [10]) [10] = x := by
  unfold trimSuffix
  rw [suffix_nl]
  simp
theorem whole_inv {l : List UInt8} (h : hasSuffix l [10] = true) : l = trimSuffix l [10] ++ [10] := by
  have hs : [(10 : UInt8)] <:+ l := by simpa [hasSuffix] using h
  obtain ⟨t, rfl⟩ := hs
  rw [trim_nl]

end Tx
end Go.Proofs.YtednlgeidgnogaaDoor
