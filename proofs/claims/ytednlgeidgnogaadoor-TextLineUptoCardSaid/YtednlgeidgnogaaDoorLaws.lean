/-
  The plain laws of the text chapter: what is read is written as it was; what stands ahead of a wrong line is a text.
-/
import Derived.Test.YtednlgeidgnogaaDoorLines
namespace Go.Proofs.YtednlgeidgnogaaDoor
namespace Tx
open Go.Lib

theorem weightsGo_ok (places : Nat) : ∀ (fs : List (List UInt8)) (out o : List Int), weightsGo places fs out = some o → (∀ x ∈ out, 0 ≤ x ∧ x ≤ 9) → o.length = out.length ∧ ∀ x ∈ o, 0 ≤ x ∧ x ≤ 9
  | [], out, o, h, h9 => by
    simp only [weightsGo] at h; injection h with h; subst h; exact ⟨rfl, h9⟩
  | f :: r, out, o, h, h9 => by
    simp only [weightsGo] at h
    cases hf : fieldW places f with
    | none => rw [hf] at h; cases h
    | some v =>
      obtain ⟨p, n⟩ := v
      rw [hf] at h
      have hn : 0 ≤ n ∧ n ≤ 9 := by
        unfold fieldW at hf
        dsimp only at hf
        split at hf
        · split at hf
          · rename_i hh; injection hf with hf; injection hf with _ hf; omega
          · cases hf
        · cases hf
      have ih := weightsGo_ok places r _ o h (fun x hx => by
        rcases List.mem_or_eq_of_mem_set hx with hx | hx
        · exact h9 x hx
        · subst hx; exact hn)
      simpa using ih
theorem weightsS_ok {places : Nat} {s : List UInt8} {o : List Int} (h : weightsS places s = some o) : o.length = places ∧ ∀ x ∈ o, 0 ≤ x ∧ x ≤ 9 := by
  have := weightsGo_ok places _ _ o h (fun x hx => by rw [List.mem_replicate] at hx; omega)
  simpa using this
theorem no_bad {l : List Int} (h : ∀ x ∈ l, 0 ≤ x ∧ x ≤ 9) : l.any badW = false := by
  rw [List.any_eq_false]
  intro x hx
  have := h x hx
  simp [badW]; omega
theorem tranS_ok {places : Nat} {s : List UInt8} {t : Tr} (h : tranS places s = some t) : lineS t = s ∧ trWrong places t = false := by
  unfold tranS at h
  dsimp only at h
  split at h
  · split at h
    · rename_i a b ha hb
      split at h
      · rename_i hh
        injection h with h
        subst h
        have h1 := weightsS_ok ha
        have h2 := weightsS_ok hb
        refine ⟨hh.2.2, ?_⟩
        simp [trWrong, no_bad h1.2, no_bad h2.2, h1.1, h2.1]
        omega
      · cases h
    · cases h
  · cases h

theorem headS_ok {l : List UInt8} {p : Int} (h : headS l = some p) : 0 ≤ p ∧ p ≤ 16 ∧ l = netB ++ itoa p := by
  unfold headS at h
  split at h
  · split at h
    · rename_i hh; injection h with h; subst h; exact hh
    · cases h
  · cases h

/-- the text of transitions, line by line. -/
def linesOf (ts : List Tr) : List UInt8 := (ts.map fun t => lineS t ++ [10]).flatten

theorem parseGo_step {k : Nat} {n : Nt} {l : List UInt8} {r : List (List UInt8)} (hk : 0 < k) :
    (l = [] ∧ parseGo k n (l :: r) = ⟨n, 0, true⟩) ∨ (parseGo k n (l :: r) = noNet k) ∨
    ∃ t, k ≤ 24 ∧ hasSuffix l [10] = true ∧ tranS n.places.toNat (trimSuffix l [10]) = some t ∧ parseGo k n (l :: r) = parseGo (k + 1) ⟨n.places, n.trans ++ [t]⟩ r := by
  by_cases h0 : l = []
  · exact .inl ⟨h0, by unfold parseGo; rw [if_pos ⟨hk, h0⟩]⟩
  · by_cases h1 : hasSuffix l [10] = false ∨ 24 < k
    · refine .inr (.inl ?_)
      unfold parseGo; rw [if_neg (by simp [h0]), if_pos h1]
    · cases ht : tranS n.places.toNat (trimSuffix l [10]) with
      | none =>
        refine .inr (.inl ?_)
        unfold parseGo; rw [if_neg (by simp [h0]), if_neg h1, if_neg (by omega), ht]
      | some t =>
        refine .inr (.inr ⟨t, by omega, ?_, rfl, ?_⟩)
        · cases h : hasSuffix l [10] with
          | true => rfl
          | false => exact absurd (.inl h) h1
        · rw [parseGo, if_neg (by simp [h0]), if_neg h1, if_neg (by omega), ht]

theorem ntWrong_snoc {p : Int} {ts : List Tr} {t : Tr} (h : ntWrong ⟨p, ts⟩ = false) (h24 : ts.length + 1 ≤ 24) (ht : trWrong p t = false) : ntWrong ⟨p, ts ++ [t]⟩ = false := by
  simp only [ntWrong, Bool.or_eq_false_iff, List.any_append, List.length_append, List.any_cons, List.any_nil, decide_eq_false_iff_not] at h ⊢
  refine ⟨⟨h.1.1, ?_⟩, h.2, ht, ?_⟩
  · simp; omega
  · trivial

theorem parseGo_ok : ∀ (ls : List (List UInt8)) (k : Nat) (n m : Nt) (j : Nat), 0 < k → Good ls → n.trans.length = k - 1 → 0 ≤ n.places → ntWrong n = false →
    parseGo k n ls = ⟨m, j, true⟩ → ∃ us, m = ⟨n.places, n.trans ++ us⟩ ∧ ls.flatten = linesOf us ∧ ntWrong m = false
  | [], _, _, _, _, _, h, _, _, _, _ => h.elim
  | l :: r, k, n, m, j, hk, hg, hlen, hp, hw, h => by
    rcases parseGo_step (n := n) (l := l) (r := r) hk with ⟨h0, e⟩ | e | ⟨t, h24, hs, ht, e⟩
    · rw [e] at h
      injection h with h
      subst h
      have hr : r = [] := by
        rcases hg.inv with ⟨hr, _⟩ | ⟨⟨x, hx, _⟩, _⟩
        · exact hr
        · rw [h0] at hx; simp at hx
      subst hr h0
      exact ⟨[], by simp, by simp [linesOf], hw⟩
    · rw [e] at h; injection h with _ _ h; cases h
    · rw [e] at h
      have hl := whole_inv hs
      have htr := tranS_ok ht
      rw [show ((n.places.toNat : Nat) : Int) = n.places by omega] at htr
      have hgr : Good r := by
        rcases hg.inv with ⟨_, hl'⟩ | ⟨_, hr⟩
        · rw [hl] at hl'; simp at hl'
        · exact hr
      obtain ⟨us, rfl, hf, hw'⟩ := parseGo_ok r (k + 1) ⟨n.places, n.trans ++ [t]⟩ m j (by omega) hgr (by simp; omega) hp
        (ntWrong_snoc hw (by omega) htr.2) h
      refine ⟨t :: us, by simp, ?_, hw'⟩
      rw [List.flatten_cons, hf, hl, ← htr.1]
      simp [linesOf]

theorem parseS_step (s : List UInt8) : parseS s = noNet 0 ∨ ∃ l r p, linesS s = l :: r ∧ Good r ∧ hasSuffix l [10] = true ∧ headS (trimSuffix l [10]) = some p ∧ parseS s = parseGo 1 ⟨p, []⟩ r := by
  unfold parseS
  have hg := linesS_good s
  generalize linesS s = ls at hg
  cases ls with
  | nil => exact hg.elim
  | cons l r =>
    by_cases h1 : hasSuffix l [10] = false
    · refine .inl ?_
      rw [parseGo, if_neg (by simp), if_pos (.inl h1)]
    · have hs : hasSuffix l [10] = true := by simpa using h1
      cases hh : headS (trimSuffix l [10]) with
      | none =>
        refine .inl ?_
        rw [parseGo, if_neg (by simp), if_neg (by simp [hs]), if_pos rfl, hh]
      | some p =>
        refine .inr ⟨l, r, p, rfl, ?_, hs, hh, ?_⟩
        · rcases hg.inv with ⟨_, hl'⟩ | ⟨_, hr⟩
          · rw [whole_inv hs] at hl'; simp at hl'
          · exact hr
        · rw [parseGo, if_neg (by simp), if_neg (by simp [hs]), if_pos rfl, hh]

/-- WHAT IS READ IS WRITTEN AS IT WAS. -/
theorem only_ok {s : List UInt8} {m : Nt} {j : Nat} (h : parseS s = ⟨m, j, true⟩) : ntWrong m = false ∧ printS m = s := by
  rcases parseS_step s with e | ⟨l, r, p, hl, hg, hs, hh, e⟩
  · rw [e] at h; injection h with _ _ h; cases h
  · rw [e] at h
    have hp := headS_ok hh
    obtain ⟨us, rfl, hf, hw⟩ := parseGo_ok r 1 ⟨p, []⟩ m j (by omega) hg rfl hp.1 (by simp [ntWrong]; omega) h
    refine ⟨hw, ?_⟩
    have hflat := linesS_flat s
    rw [hl, List.flatten_cons, hf, whole_inv hs, hp.2.2] at hflat
    rw [← hflat]
    simp [printS, linesOf]

theorem parseGo_err : ∀ (ls : List (List UInt8)) (k : Nat) (n m : Nt) (j : Nat), 0 < k → Good ls → parseGo k n ls = ⟨m, j, false⟩ →
    m = ⟨0, []⟩ ∧ k ≤ j ∧ j - k < ls.length ∧ Good (ls.take (j - k) ++ [[]]) ∧ ∃ us, us.length = j - k ∧ parseGo k n (ls.take (j - k) ++ [[]]) = ⟨⟨n.places, n.trans ++ us⟩, 0, true⟩
  | [], _, _, _, _, _, h, _ => h.elim
  | l :: r, k, n, m, j, hk, hg, h => by
    rcases parseGo_step (n := n) (l := l) (r := r) hk with ⟨h0, e⟩ | e | ⟨t, h24, hs, ht, e⟩
    · rw [e] at h; injection h with _ _ h; cases h
    · rw [e] at h
      injection h with h1 h2
      subst h1 h2
      refine ⟨rfl, Nat.le_refl _, by simp, by simp [Good], [], by simp, ?_⟩
      simp [parseGo, hk]
    · rw [e] at h
      have hgr : (∃ x, l = x ++ [10] ∧ 10 ∉ x) ∧ Good r := by
        rcases hg.inv with ⟨_, hl'⟩ | hr
        · rw [whole_inv hs] at hl'; simp at hl'
        · exact hr
      obtain ⟨hm, hkj, hlt, hgg, us, hus, hpar⟩ := parseGo_err r (k + 1) _ m j (by omega) hgr.2 h
      have e1 : (l :: r).take (j - k) = l :: r.take (j - (k + 1)) := by
        rw [show j - k = (j - (k + 1)) + 1 by omega, List.take_succ_cons]
      refine ⟨hm, by omega, by simp; omega, ?_, t :: us, by simp; omega, ?_⟩
      · rw [e1, List.cons_append]
        obtain ⟨x, rfl, hx⟩ := hgr.1
        exact Good.cons hx hgg
      · rw [e1, List.cons_append]
        have hne : l ≠ [] := by rw [whole_inv hs]; simp
        rw [parseGo, if_neg (by simp [hne]), if_neg (by simp [hs]; omega), if_neg (by omega), ht]
        simp only
        rw [hpar]
        simp

/-- where it is no text: no net, and a line that there is. -/
theorem only_err {s : List UInt8} {m : Nt} {j : Nat} (h : parseS s = ⟨m, j, false⟩) : m = ⟨0, []⟩ ∧ j ≤ s.count 10 := by
  have hlen := linesS_len s
  rcases parseS_step s with e | ⟨l, r, p, hl, hg, hs, hh, e⟩
  · rw [e] at h; injection h with h1 h2; subst h1 h2; exact ⟨rfl, by omega⟩
  · rw [e] at h
    obtain ⟨hm, hkj, hlt, _⟩ := parseGo_err r 1 _ m j (by omega) hg h
    rw [hl, List.length_cons] at hlen
    exact ⟨hm, by omega⟩

/-- WHAT IS AHEAD OF A WRONG LINE IS RIGHT. -/
theorem line_ok {s : List UInt8} {m : Nt} {j : Nat} (h : parseS s = ⟨m, j, false⟩) (hj : j ≠ 0) :
    j < (linesS s).length ∧ ∃ n, parseS ((linesS s).take j).flatten = ⟨n, 0, true⟩ ∧ n.trans.length = j - 1 := by
  have hgs := linesS_good s
  rcases parseS_step s with e | ⟨l, r, p, hl, hg, hs, hh, e⟩
  · rw [e] at h; injection h with h1 h2; exact absurd h2.symm hj
  · rw [e] at h
    obtain ⟨hm, hkj, hlt, hgg, us, hus, hpar⟩ := parseGo_err r 1 _ m j (by omega) hg h
    have hgl : ∃ x, l = x ++ [10] ∧ 10 ∉ x := by
      rw [hl] at hgs
      rcases hgs.inv with ⟨_, hl'⟩ | hr
      · rw [whole_inv hs] at hl'; simp at hl'
      · exact hr.1
    have e1 : (l :: r).take j = l :: r.take (j - 1) := by
      rw [show j = (j - 1) + 1 by omega, List.take_succ_cons]; simp
    rw [hl, e1]
    refine ⟨by simp; omega, ⟨p, us⟩, ?_, hus⟩
    have hgood : Good (l :: (r.take (j - 1) ++ [[]])) := by
      obtain ⟨x, rfl, hx⟩ := hgl
      exact Good.cons hx hgg
    have hlines := hgood.lines
    have hfl : (l :: (r.take (j - 1) ++ [[]])).flatten = (l :: r.take (j - 1)).flatten := by simp
    rw [hfl] at hlines
    unfold parseS
    rw [hlines, parseGo, if_neg (by simp), if_neg (by simp [hs]), if_pos rfl, hh]
    simp only
    rw [hpar]
    simp

end Tx
end Go.Proofs.YtednlgeidgnogaaDoor
