/-
  Plain facts of grow: a pass that changes nothing leaves the mark; one that changes it leaves fewer numbers; and the least number with a property.
-/
import Derived.Test.YtblbgbgnifdohaaWalkF
namespace Go.Proofs.Ytblbgbgnifdohaa
open Go.RowKit

/-- how many places have a number. -/
def nums (m : List Int) : Nat := m.countP (· != -1)
theorem raise_nums : ∀ (x m : List Int), x.length = m.length → nums (Cv.raiseV x m) ≤ nums m ∧ (Cv.raiseV x m ≠ m → nums (Cv.raiseV x m) < nums m)
  | [], [], _ => ⟨Nat.le_refl _, fun h => absurd rfl h⟩
  | a :: x, b :: m, h => by
    have ih := raise_nums x m (by simpa using h)
    have e : Cv.raiseV (a :: x) (b :: m) = (if b ≠ -1 ∧ a < b ∧ a ≠ -1 then -1 else b) :: Cv.raiseV x m := by simp [Cv.raiseV]
    have hc : ∀ (y : Int) (l : List Int), nums (y :: l) = nums l + (if y = -1 then 0 else 1) := fun y l => by
      unfold nums; rw [List.countP_cons]; congr 1; by_cases hy : y = -1 <;> simp [hy]
    rw [e, hc, hc]
    by_cases hcond : b ≠ -1 ∧ a < b ∧ a ≠ -1
    · rw [if_pos hcond, if_pos rfl, if_neg hcond.1]
      exact ⟨by omega, fun _ => by omega⟩
    · rw [if_neg hcond]
      refine ⟨by omega, fun hne => ?_⟩
      have := ih.2 (fun e' => hne (by rw [e']))
      omega
theorem step_nums (s : List Int × Bool) (x : List Int) (h : x.length = s.1.length) : nums (Cv.growStep s x).1 ≤ nums s.1 ∧ ((Cv.growStep s x).2 = true → s.2 = true ∨ nums (Cv.growStep s x).1 < nums s.1) ∧ ((Cv.growStep s x).2 = false → (Cv.growStep s x).1 = s.1 ∧ s.2 = false) := by
  unfold Cv.growStep
  have hr := raise_nums x s.1 h
  split
  · refine ⟨hr.1, fun e => ?_, fun e => ?_⟩
    · simp only [Bool.or_eq_true] at e
      rcases e with e | e
      · exact .inl e
      · exact .inr (hr.2 (by simpa using e))
    · simp only [Bool.or_eq_false_iff] at e
      exact ⟨by simpa using e.2, e.1⟩
  · exact ⟨Nat.le_refl _, fun e => .inl e, fun e => ⟨rfl, e⟩⟩
theorem fold_nums : ∀ (xs : List (List Int)) (s : List Int × Bool), (∀ x ∈ xs, x.length = s.1.length) → nums (xs.foldl Cv.growStep s).1 ≤ nums s.1 ∧ ((xs.foldl Cv.growStep s).2 = true → s.2 = true ∨ nums (xs.foldl Cv.growStep s).1 < nums s.1) ∧ ((xs.foldl Cv.growStep s).2 = false → (xs.foldl Cv.growStep s).1 = s.1 ∧ s.2 = false)
  | [], s, _ => ⟨Nat.le_refl _, fun e => .inl e, fun e => ⟨rfl, e⟩⟩
  | x :: xs, s, h => by
    have h1 := step_nums s x (h x (by simp))
    have hk := Cv.kept_step s x (h x (by simp))
    have h2 := fold_nums xs (Cv.growStep s x) (fun y hy => by rw [hk.1]; exact h y (by simp [hy]))
    simp only [List.foldl_cons]
    refine ⟨Nat.le_trans h2.1 h1.1, fun e => ?_, fun e => ?_⟩
    · rcases h2.2.1 e with e' | e'
      · rcases h1.2.1 e' with e'' | e''
        · exact .inl e''
        · exact .inr (by omega)
      · exact .inr (by omega)
    · obtain ⟨a, b⟩ := h2.2.2 e
      obtain ⟨c, d⟩ := h1.2.2 b
      exact ⟨a.trans c, d⟩

/-- what is still to come when a pass begins: again, or not. -/
structure Going (xs : List (List Int)) (res : List Int) (mk : List Int) (b : Bool) : Prop where
  go : b = true → ∃ f, nums mk < f ∧ Cv.growF xs f mk = res
  stop : b = false → mk = res
theorem going_start (xs : List (List Int)) (m : List Int) : Going xs (Cv.growV xs m) m true := ⟨fun _ => ⟨_, Nat.lt_succ_self _, rfl⟩, fun e => by cases e⟩
theorem going_pass {xs : List (List Int)} {res mk : List Int} (h : Going xs res mk true) (hl : ∀ x ∈ xs, x.length = mk.length) :
    Going xs res (xs.foldl Cv.growStep (mk, false)).1 (xs.foldl Cv.growStep (mk, false)).2 ∧
    2 * nums (xs.foldl Cv.growStep (mk, false)).1 + (if (xs.foldl Cv.growStep (mk, false)).2 then 1 else 0) < 2 * nums mk + 1 ∧ (xs.foldl Cv.growStep (mk, false)).1.length = mk.length := by
  obtain ⟨f, hf, e⟩ := h.go rfl
  obtain ⟨f, rfl⟩ : ∃ g, f = g + 1 := ⟨f - 1, by omega⟩
  unfold Cv.growF at e
  have hn := fold_nums xs (mk, false) hl
  have hk := Cv.kept_fold xs (mk, false) hl
  cases hb : (xs.foldl Cv.growStep (mk, false)).2 with
  | true =>
    rw [hb] at e hn
    have := hn.2.1 rfl
    simp only [Bool.false_eq_true, false_or] at this
    exact ⟨⟨fun _ => ⟨f, by omega, by simpa using e⟩, fun e => by cases e⟩, by simp only [if_true]; omega, hk.1⟩
  | false =>
    rw [hb] at e hn
    exact ⟨⟨(fun e => by cases e), fun _ => e⟩, by have := hn.1; simp only [Bool.false_eq_true, if_false]; simp only at this; omega, hk.1⟩

/-! ### one look at a mark above, place by place -/
theorem raise_at {x m : List Int} {n k : Nat} (hx : x.length = n) (hm : m.length = n) (hk : k < n) :
    (Cv.raiseV x m)[k]? = some (if m[k]?.getD 0 ≠ -1 ∧ x[k]?.getD 0 < m[k]?.getD 0 ∧ x[k]?.getD 0 ≠ -1 then -1 else m[k]?.getD 0) := by
  unfold Cv.raiseV
  rw [List.getElem?_map]
  have : (x.zip m)[k]? = some (x[k]?.getD 0, m[k]?.getD 0) := by
    rw [List.getElem?_zip_eq_some]
    simp [List.getElem?_eq_getElem (show k < x.length by omega), List.getElem?_eq_getElem (show k < m.length by omega)]
  rw [this]; rfl
theorem flag_same {r m : List Int} {n k : Nat} (hr : r.length = n) (hm : m.length = n) (hk : k < n) (h : r[k]? = some (m[k]?.getD 0)) : (part r m (k + 1) != m) = (part r m k != m) := by
  rw [part_same hr hm hk h]
theorem flag_new {r m : List Int} {n k : Nat} {y : Int} (hr : r.length = n) (hm : m.length = n) (hk : k < n) (h : r[k]? = some y) (hne : y ≠ m[k]?.getD 0) : (part r m (k + 1) != m) = true := by
  rw [part_succ hr hm hk h]
  simp only [bne_iff_ne, ne_eq]
  intro e
  apply hne
  have hl : (part r m k).length = n := part_len hr hm (Nat.le_of_lt hk)
  have : ((part r m k).set k y)[k]? = some y := by rw [List.getElem?_set_self (by omega)]
  rw [e] at this
  rw [this]; rfl

/-! ### the least number with a property -/
theorem least_ex {p : Nat → Prop} (h : ∃ n, p n) : ∃ n, p n ∧ ∀ m, p m → n ≤ m := by
  obtain ⟨n, hn⟩ := h
  induction n using Nat.strongRecOn with
  | _ n ih =>
    by_cases hm : ∃ m, m < n ∧ p m
    · obtain ⟨m, h1, h2⟩ := hm
      exact ih m h1 h2
    · exact ⟨n, hn, fun m h => Nat.le_of_not_lt (fun hlt => hm ⟨m, hlt, h⟩)⟩
open Classical in
noncomputable def least (p : Nat → Prop) : Nat := if h : ∃ n, p n then Classical.choose (least_ex h) else 0
theorem least_spec {p : Nat → Prop} (h : ∃ n, p n) : p (least p) := by
  unfold least; rw [dif_pos h]; exact (Classical.choose_spec (least_ex h)).1
theorem least_le {p : Nat → Prop} {m : Nat} (h : p m) : least p ≤ m := by
  unfold least; rw [dif_pos ⟨m, h⟩]; exact (Classical.choose_spec (least_ex ⟨m, h⟩)).2 m h
theorem least_drop {p : Nat → Prop} {m n : Nat} (h : p m) (hl : m < n) : (∃ k, p k) ∧ least p < n := ⟨⟨m, h⟩, Nat.lt_of_le_of_lt (least_le h) hl⟩
end Go.Proofs.Ytblbgbgnifdohaa
