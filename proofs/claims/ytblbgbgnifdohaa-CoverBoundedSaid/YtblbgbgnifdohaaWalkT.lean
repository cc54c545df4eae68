/-
  The walk of CoverBounded.
-/
import Derived.Test.YtblbgbgnifdohaaWalkS
namespace Go.Proofs.Ytblbgbgnifdohaa
open Go.RowKit Go.Maps

theorem tree_range (p : Int) (A : Option Addr) (n c : Nat) (v : Value) (most : Int) (w : World) (hm : most < 1 ∨ 300 < most) :
    Calls Try.prog 5 #[.agg #[.int .i64 p, .slice A n c], v, .int .i64 most] w fun e w' => e = .returned (.tuple #[.slice none 0 0, .int .i64 2]) ∧ Below w.heap.size w w' := by
  have HB := Lib.hid ((Below.refl w.heap.size w).alloc (Nat.le_refl _) (.cells #[.int .i64 p, .slice A n c] 24))
  rcases hm with hm | hm
  · go_enter Try.func5, Try.ntmps5
    go_wp2_with fail
    go_ret2
    exact ⟨rfl, HB.out⟩
  · have h1 : ¬ most < 1 := by omega
    go_enter Try.func5, Try.ntmps5
    go_wp2_with fail
    go_ret2
    exact ⟨rfl, HB.out⟩
theorem tree_unfit (p : Int) (A : Option Addr) (n c : Nat) (ts : List Tx.Tr) (Am : Option Addr) (cm : Nat) (m : List Int) (most : Int) (w : World) (hn : n ≤ 9223372036854775807) (hl : ts.length = n) (hr : TrsAt w w.heap.size A n ts)
    (hnm : m.length ≤ 9223372036854775807) (hm : Reads w w.heap.size 1 Am m.length (m.map (Value.int .i64))) (hf : Cv.fitV ⟨p, ts⟩ m = false) (h1 : 1 ≤ most) (h2 : most ≤ 300) :
    Calls Try.prog 5 #[.agg #[.int .i64 p, .slice A n c], .slice Am m.length cm, .int .i64 most] w fun e w' => e = .returned (.tuple #[.slice none 0 0, .int .i64 2]) ∧ Below w.heap.size w w' := by
  have HW := Lib.hid ((Below.refl w.heap.size w).alloc (Nat.le_refl _) (.cells #[.int .i64 p, .slice A n c] 24))
  have HE := Lib.hid (enabled_no p A n c ts Am cm m (w.alloc (.cells #[.int .i64 p, .slice A n c] 24)) hn hl ((hr.below HW.out).more (by simp)) hnm ((hm.below HW.out).more (by simp)) hf)
  have g1 : ¬ most < 1 := by omega
  have g2 : ¬ 300 < most := by omega
  clear hl hr hm hf
  go_enter Try.func5, Try.ntmps5
  go_wp2_with fail
  refine HE.out.mono ?_
  rintro e W1 ⟨rfl, hb⟩
  have HB := Lib.hid (HW.out.trans (hb.mono (by simp)))
  clear hb
  go_wp2_with fail
  go_ret2
  exact ⟨rfl, HB.out⟩

theorem tree_facts {n : Tx.Nt} {m : List Int} {most : Nat} {ks : List Cv.Kn} (hfit : Cv.fitV n m = true) (h1 : 1 ≤ most) (ht : Cv.treeV n m most = some ks) : (∀ kn ∈ ks, kn.mark.length = m.length) ∧ ks.length ≤ most := by
  obtain ⟨_, _, _, _, hts⟩ := Cv.fit_parts hfit
  have hto : ∀ t ∈ n.trans, Cv.TrOk m.length t := fun t h => ⟨(hts t h).1, (hts t h).2.1, fun x hx => ((hts t h).2.2.1 x hx).1⟩
  have g : Cv.Grown m.length most n.trans m ks.length ks := by
    refine Cv.treeF_grown hto (most + 1) 0 _ ks ⟨?_, ?_, ?_, ?_, ?_, ?_⟩ ht
    · intro i kn hi
      obtain ⟨hi', _⟩ := List.getElem?_eq_some_iff.1 hi
      have : i = 0 := by simpa using hi'
      subst this
      simp at hi; subst hi; simp
    · intro kn hk; simp at hk; subst hk; rfl
    · exact ⟨_, rfl, rfl⟩
    · simpa using h1
    · intro i kn hi h0
      obtain ⟨hi', _⟩ := List.getElem?_eq_some_iff.1 hi
      simp at hi'; omega
    · intro i kn hi; omega
  exact ⟨g.len, g.most⟩
end Go.Proofs.Ytblbgbgnifdohaa
