/-
  CoverBounded returns true for every net, mark and bound: where no knot has Many, the marks that are reached are those of knots, and no other ones; and the arguments are left as they were.
  Conditions: none.
-/
import Derived.Test.YtblbgbgnifdohaaWalkU
import Derived.ProofKit
import Derived.OpenShut
import Derived.Lib.SmallJoins
import Derived.Deep.Slices
namespace Go.Proofs.Ytblbgbgnifdohaa
open Go.ChangeShapes Go.WideShapes Go.ChangeAt Go.RowKit

theorem own : ownKnob Try.prog.godebug = none := by kernel_rfl
theorem laidOut : laidOutB Try.prog = true := by kernel_rfl
section
variable {H : Type} {enc : TypeId × Value → H} {W : World} {fuel : Nat}
theorem cells3 : Try.prog.cellsOf 3 = 1 := by kernel_rfl
theorem cells25 : Try.prog.cellsOf 25 = 1 := by kernel_rfl
theorem cells48 : Try.prog.cellsOf 48 = 3 := by kernel_rfl
theorem cells24 : Try.prog.cellsOf 24 = 2 := by kernel_rfl

set_option maxRecDepth 100000 in
/-- a slice of ints that came in. -/
theorem ints_in {cs : List Value} {x : DataW H × List MemPlace} (h : DataW.trod enc Try.prog W 0 (fun _ => true) true fuel 25 cs = some x) : ∃ v xs, cs = [v] ∧ Ints W W.heap.size v xs := by
  rcases open_ints Try.underlying25 Try.underlying3 cells3 h with ⟨rfl, _⟩ | ⟨a, len, cap, zs, rfl, _, hlc, hcm, hzl, _, hcell, _⟩
  · exact ⟨_, [], rfl, none, 0, rfl, Nat.le_refl _, by omega, Reads.none_⟩
  · have hzl' : zs.length = cap := by simpa using hzl
    refine ⟨_, zs.take len, rfl, some a, cap, by rw [List.length_take, hzl', Nat.min_eq_left hlc], by rw [List.length_take]; omega, by unfold maxLen at hcm; omega, by simp, fun hn => ?_⟩
    have hl0 : 0 < len := by rw [List.length_take] at hn; omega
    have h0 := cell_lt (hcell 0 (by omega))
    rw [block_of_add] at h0
    refine ⟨a, rfl, h0, fun j u hu => ?_⟩
    obtain ⟨hj, he⟩ := List.getElem?_eq_some_iff.1 hu
    have hj' : j < len := by simp at hj; omega
    rw [hcell j (by omega)]
    rw [← he]
    simp [List.getElem?_eq_getElem (show j < zs.length by omega)]

set_option maxRecDepth 100000 in
/-- one transition that came in. -/
theorem tran_in {cs : List Value} {x : DataW H × List MemPlace} (h : DataW.trod enc Try.prog W 0 (fun _ => true) true fuel 48 cs = some x) : ∃ l v1 v2 xs ys, cs = [.int .i64 l, v1, v2] ∧ Ints W W.heap.size v1 xs ∧ Ints W W.heap.size v2 ys := by
  obtain ⟨y0, y1, y2, n, _, hl, h0, h1, h2⟩ := Go.Deep.trod_struct3 Try.underlying48 h
  rw [cells48] at hl
  match cs, hl with
  | [c0, c1, c2], _ =>
    simp only [cells3, cells25, List.drop_zero, List.drop_succ_cons, List.take_succ_cons, List.take_zero] at h0 h1 h2
    obtain ⟨l, e0, _⟩ := DataW.trod_int Try.underlying3 h0
    obtain ⟨v1, xs, e1, hx⟩ := ints_in h1
    obtain ⟨v2, ys, e2, hy⟩ := ints_in h2
    simp only [List.cons.injEq, and_true] at e0 e1 e2
    subst e0 e1 e2
    exact ⟨l, _, _, xs, ys, rfl, hx, hy⟩

set_option maxRecDepth 100000 in
/-- a slice of transitions that came in. -/
theorem trans_in {v : Value} {x : DataW H × List MemPlace} (h : DataW.trod enc Try.prog W 0 (fun _ => true) true fuel 22 [v] = some x) :
    ∃ A n c ts, v = .slice A n c ∧ n ≤ 9223372036854775807 ∧ List.length ts = n ∧ TrsAt W W.heap.size A n ts := by
  rcases Go.Deep.open_slice Try.underlying22 h with ⟨e, _⟩ | ⟨a, len, cap, m, n, D, Pl, e, _, hlc, hcm, hm, _, hall⟩
  · simp only [List.cons.injEq, and_true] at e
    exact ⟨none, 0, 0, [], e, by omega, rfl, fun h0 => absurd h0 (by omega)⟩
  · simp only [List.cons.injEq, and_true] at e
    have hm' : m = cap := by simpa using hm
    have hex : ∀ i, ∃ t : Tx.Tr, i < len → TranCells W W.heap.size (a.add (i * 3)) t ∧ (a.add (i * 3)).block < W.heap.size := by
      intro i
      by_cases hi : i < len
      · obtain ⟨cs, hc, ht⟩ := hall i (by omega)
        rw [cells48] at hc
        obtain ⟨l, v1, v2, xs, ys, rfl, h1, h2⟩ := tran_in ht
        obtain ⟨_, _, hat⟩ := World.cells?_some hc
        have c0 := hat 0 (by omega)
        have c1 := hat 1 (by omega)
        have c2 := hat 2 (by omega)
        simp only [List.getElem?_cons_zero, List.getElem?_cons_succ] at c0 c1 c2
        have e0 : (a.add (i * 3)).add 0 = a.add (i * 3) := rfl
        rw [e0] at c0
        have e1 : (a.add (i * 3)).add 1 = ⟨(a.add (i * 3)).block, (a.add (i * 3)).off + 1, none⟩ := rfl
        have e2 : (a.add (i * 3)).add 2 = ⟨(a.add (i * 3)).block, (a.add (i * 3)).off + 2, none⟩ := rfl
        rw [e1] at c1
        rw [e2] at c2
        exact ⟨⟨l, xs, ys⟩, fun _ => ⟨⟨v1, v2, c0, c1, c2, h1, h2⟩, cell_lt c0⟩⟩
      · exact ⟨⟨0, [], []⟩, fun h => absurd h hi⟩
    obtain ⟨f, hf⟩ := Classical.axiomOfChoice hex
    refine ⟨some a, len, cap, (List.range len).map f, e, by unfold maxLen at hcm; omega, by simp, fun hn => ?_⟩
    have hb := (hf 0 hn).2
    rw [block_of_add] at hb
    refine ⟨a, rfl, hb, fun k t ht => ?_⟩
    obtain ⟨hk, he⟩ := List.getElem?_eq_some_iff.1 ht
    have hk' : k < len := by simpa using hk
    have he' : f k = t := by simpa using he
    rw [← he']
    exact (hf k hk').1
end

set_option maxRecDepth 100000 in
theorem cover_lifted (os : Os) (started : os.Started) (H : Type) (enc : TypeId × Value → H) :
    ReturnsInHanded {} Try.checked os 3 .any (Rows.coverBoundedSpec.pre6 enc Try.prog Try.f3 Rows.coverBoundedRow.domain false) (Rows.coverBoundedSpec.post enc Try.prog Try.f3 false true false false) := by
  refine returnsInHanded_of_change (C := Try.checked) own started (by kernel_rfl) Try.func3
    (ChangeSpec.witness6 (enc := enc) (C := Try.checked) false ⟨#[], #[.agg #[.int .i64 0, .slice none 0 0], .slice none 0 0, .int .i64 0], []⟩ 8 (by kernel_rfl) (by kernel_rfl) (by kernel_rfl) (by kernel_rfl)) ?_
  intro W base args ds gs before hval0 hW hcnd _
  have hval : ∀ (j : Nat) t v, Try.f3.params[j]? = some t → args[j]? = some v → Value.okWide Try.prog W .any base t v := hval0
  have hW' := hW
  have hlt : ∀ p ∈ before, p.block < W.heap.size := fun p hp => hW.lt p hp
  obtain ⟨p, q, hA0, hV, rfl, hfz, hnd⟩ := hW
  have hA : DataW.TrodAll enc Try.prog W 0 (fun _ => true) true Try.f3.params.toList args.toList ds p := hA0
  rw [Try.params3] at hA hval
  obtain ⟨v0, v1, v2, d0, d1, d2, p0, p1, p2, rfl, rfl, rfl, h0, h1, h2⟩ := trodAll_three hA
  obtain ⟨rfl, rfl⟩ := trodVars_none hV
  obtain ⟨c0, c1, y0, y1, n, rfl, _, _, g1, g2⟩ := Joins.open_agg2 Try.underlying24 (by kernel_rfl) cells24 (hval 0 24 v0 rfl rfl) h0
  obtain ⟨pl, e0, _⟩ := DataW.trod_int Try.underlying3 g1
  simp only [List.cons.injEq, and_true] at e0
  subst e0
  obtain ⟨A, k, c, ts, rfl, hk, hl, hat⟩ := trans_in g2
  obtain ⟨a1, len, cap, rfl⟩ := okWide_slice Try.underlying25 (hval 1 25 v1 rfl rfl)
  obtain ⟨fu, hf⟩ := h1
  obtain ⟨v, xs, ev, hin⟩ := ints_in hf
  simp [Value.cells] at ev
  obtain ⟨Am, cm, em, hcm, hcm2, hrm⟩ := hin
  rw [em] at ev
  simp only [Value.slice.injEq] at ev
  obtain ⟨rfl, rfl, rfl⟩ := ev
  obtain ⟨mo, rfl, rfl, rfl, wmo⟩ := open_int Try.underlying3 (hval 2 3 v2 rfl rfl) h2
  have hT0 : ∀ W', Below W.heap.size W W' → _ := fun W' hb => Below.trod laidOut (by kernel_rfl) (of_decide_eq_true (by kernel_rfl)) h0 hb (fun x hx => hlt x (by simp [hx]))
  have hT1 : ∀ W', Below W.heap.size W W' → _ := fun W' hb => Below.trod laidOut (by kernel_rfl) (of_decide_eq_true (by kernel_rfl)) ⟨fu, hf⟩ hb (fun x hx => hlt x (by simp [hx]))
  refine (cover_any pl A k c ts a1 cap xs mo W hk hl hat (by omega) hrm).mono fun e W' ⟨he, hb⟩ => ?_
  subst he
  refine ⟨_, rfl, _, _, _, [], p0 ++ (p1 ++ []), [], hW', ?_, ?_, ?_, World.keptBut_mono (fun x hx => ⟨by simpa using hx, .inr (.inl (by simpa using hx))⟩) (hb.frame (· ∈ (p0 ++ p1 ++ []) ++ [])), fun h => by cases h⟩
  · exact trodAll_cons_mk (shut_bool Try.underlying4 true) trodAll_mk0
  · exact trodAll_mk3 (hT0 _ hb) (hT1 _ hb) (shut_int Try.underlying3 wmo)
  · rfl

theorem cover_said : Rows.CoverBoundedSaid :=
  OpenClaim.holds_of_wide 3 Try.f3 rfl rfl rfl rfl rfl rfl rfl ⟨rfl, rfl, rfl, rfl, rfl⟩ rfl rfl rfl rfl rfl (by kernel_rfl) Try.func3 (by kernel_rfl)
    (of_decide_eq_true (by kernel_rfl)) (by unfold Func.isWrapper; rw [if_neg (of_decide_eq_false (by kernel_rfl))]; exact ⟨rfl, rfl⟩)
    (fun os started H enc _ => cover_lifted os started H enc)
end Go.Proofs.Ytblbgbgnifdohaa
