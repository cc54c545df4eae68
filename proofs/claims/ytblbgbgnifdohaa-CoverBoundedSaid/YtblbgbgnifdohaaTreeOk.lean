/-
  Plain facts of the tree while it grows: each knot comes of an elder one; marks are as long as the net has places; numbers stay small.
-/
import Derived.Test.YtblbgbgnifdohaaGrow
namespace Go.Proofs.Ytblbgbgnifdohaa
open Cv

theorem raise_small : ∀ (x m : List Int) (b : Int), (∀ y ∈ m, -1 ≤ y ∧ y ≤ b) → 0 ≤ b → ∀ y ∈ raiseV x m, -1 ≤ y ∧ y ≤ b := by
  intro x m b h hb y hy
  unfold raiseV at hy
  obtain ⟨q, hq, rfl⟩ := List.mem_map.1 hy
  have := h q.2 (List.of_mem_zip hq).2
  split
  · omega
  · exact this
theorem step_small {s : List Int × Bool} {x : List Int} {b : Int} (h : ∀ y ∈ s.1, -1 ≤ y ∧ y ≤ b) (hb : 0 ≤ b) : ∀ y ∈ (growStep s x).1, -1 ≤ y ∧ y ≤ b := by
  unfold growStep
  split
  · exact raise_small x s.1 b h hb
  · exact h
theorem fold_small {b : Int} (hb : 0 ≤ b) : ∀ (xs : List (List Int)) (s : List Int × Bool), (∀ y ∈ s.1, -1 ≤ y ∧ y ≤ b) → ∀ y ∈ (xs.foldl growStep s).1, -1 ≤ y ∧ y ≤ b
  | [], _, h => h
  | x :: xs, s, h => fold_small hb xs (growStep s x) (step_small h hb)
theorem grow_small {b : Int} (hb : 0 ≤ b) (xs : List (List Int)) : ∀ (f : Nat) (m : List Int), (∀ y ∈ m, -1 ≤ y ∧ y ≤ b) → ∀ y ∈ growF xs f m, -1 ≤ y ∧ y ≤ b
  | 0, _, h => h
  | f + 1, m, h => by
    have h1 := fold_small hb xs (m, false) h
    unfold growF
    split
    · exact grow_small hb xs f _ h1
    · exact h1

/-- what holds of the knots while the tree grows. -/
structure TOk (P most : Nat) (ks : List Kn) : Prop where
  up : UpOk ks
  len : ∀ kn ∈ ks, kn.mark.length = P
  small : ∀ kn ∈ ks, ∀ y ∈ kn.mark, -1 ≤ y ∧ y ≤ 1000000 + 9 * ks.length
  most : ks.length ≤ most
  pos : 0 < ks.length

theorem TOk.root {P most : Nat} {m : List Int} (hl : m.length = P) (hr : rightV m = true) (h1 : 1 ≤ most) : TOk P most [⟨-1, -1, m⟩] := by
  refine ⟨?_, ?_, ?_, by simpa using h1, by simp⟩
  · intro i kn hi
    have : i = 0 := by have := (List.getElem?_eq_some_iff.1 hi).1; simpa using this
    subst this
    simp at hi; subst hi; simp
  · intro kn hk; simp at hk; subst hk; exact hl
  · intro kn hk y hy
    simp at hk; subst hk
    unfold rightV at hr
    have := List.any_eq_false.1 (by simpa using hr) y hy
    simp only [badN, Bool.not_eq_true, Bool.or_eq_false_iff, decide_eq_false_iff_not] at this
    simp; omega

theorem fire_small {t : Tx.Tr} {mk : List Int} {b : Int} (hb : 0 ≤ b) (h9 : ∀ x ∈ t.post, 0 ≤ x ∧ x ≤ 9) (h0 : ∀ x ∈ t.pre, 0 ≤ x ∧ x ≤ 9) (hbl : belowV t.pre mk = true) (hm : ∀ y ∈ mk, -1 ≤ y ∧ y ≤ b) :
    ∀ y ∈ fireV t mk, -1 ≤ y ∧ y ≤ b + 9 := by
  intro y hy
  unfold fireV at hy
  obtain ⟨q, hq, rfl⟩ := List.mem_map.1 hy
  obtain ⟨i, hi⟩ := List.mem_iff_getElem?.1 hq
  rw [List.getElem?_zip_eq_some] at hi
  obtain ⟨h1, h2⟩ := hi
  have h2' := h2
  rw [List.getElem?_zip_eq_some] at h2'
  obtain ⟨h3, h4⟩ := h2'
  have hx := hm q.1 (List.mem_of_getElem? h1)
  have hp := h0 _ (List.mem_of_getElem? h3)
  have hr := h9 _ (List.mem_of_getElem? h4)
  have hbe : belowP q.2.1 q.1 = true := by
    rw [belowV_eq] at hbl
    have := List.all_eq_true.1 hbl (q.2.1, q.1) (List.mem_iff_getElem?.2 ⟨i, by rw [List.getElem?_zip_eq_some]; exact ⟨h3, h1⟩⟩)
    exact this
  split
  · omega
  · rename_i hne
    unfold belowP at hbe
    simp only [Bool.not_eq_true', Bool.and_eq_false_iff, Bool.or_eq_false_iff, bne_eq_false_iff_eq, decide_eq_false_iff_not] at hbe
    rcases hbe with hbe | ⟨_, hbe⟩
    · exact absurd hbe hne
    · omega

theorem TOk.push {P most : Nat} {ks : List Kn} (h : TOk P most ks) {k i : Nat} {kn : Kn} {t : Tx.Tr} (hk : ks[k]? = some kn) (h9 : ∀ x ∈ t.post, 0 ≤ x ∧ x ≤ 9) (h0 : ∀ x ∈ t.pre, 0 ≤ x ∧ x ≤ 9) (hl1 : t.pre.length = P) (hl2 : t.post.length = P)
    (hbl : belowV t.pre kn.mark = true) (hne : ks.length ≠ most) : TOk P most (ks ++ [⟨k, i, growV (pathV ks k) (fireV t kn.mark)⟩]) ∧ (growV (pathV ks k) (fireV t kn.mark)).length = P ∧ (fireV t kn.mark).length = P := by
  have hkl := (List.getElem?_eq_some_iff.1 hk).1
  have hmem := List.mem_of_getElem? hk
  have hml := h.len kn hmem
  have hfl : (fireV t kn.mark).length = P := by rw [fireV_len _ _ (by rw [hl1, hml]) (by rw [hl2, hml]), hml]
  have hke : Kept (fireV t kn.mark) (growV (pathV ks k) (fireV t kn.mark)) := kept_grow _ _ (fun x hx => by
    obtain ⟨j, kj, _, hj, rfl⟩ := path_mem ks (fun i kn hi => (h.up i kn hi).2) _ _ _ hx
    rw [h.len kj (List.mem_of_getElem? hj), hfl])
  have hm := h.most
  refine ⟨⟨?_, ?_, ?_, by simp; omega, by simp⟩, by rw [hke.1, hfl], hfl⟩
  · intro j kj hj
    rcases get_snoc hj with hj | ⟨rfl, rfl⟩
    · exact h.up j kj hj
    · simp; omega
  · intro kj hj
    rcases List.mem_append.1 hj with hj | hj
    · exact h.len kj hj
    · simp at hj; subst hj
      simp only
      rw [hke.1, hfl]
  · intro kj hj y hy
    rcases List.mem_append.1 hj with hj | hj
    · have := h.small kj hj y hy
      simp; omega
    · simp at hj; subst hj
      simp only at hy
      have hf := fire_small (b := 1000000 + 9 * ks.length) (by omega) h9 h0 hbl (h.small kn hmem)
      have := grow_small (b := 1000000 + 9 * ks.length + 9) (by omega) (pathV ks k) _ _ hf y hy
      simp; omega
end Go.Proofs.Ytblbgbgnifdohaa
