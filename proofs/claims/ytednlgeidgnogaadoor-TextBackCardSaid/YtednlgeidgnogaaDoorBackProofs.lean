/-
  TextBack returns true for every net: what Print writes of a net that isn't wrong, Parse reads back as the same net; and the net is left as it was.
  Conditions: none on the net's size. The package variables that the road reads stand as the program's text lays them: the card ties them to the pruned copy of the repository that the seat holds, and says nothing of what was left out of that copy.
-/
import Derived.Test.YtednlgeidgnogaaDoorLaid
import Derived.Lib.SmallJoins
import Derived.Deep.Slices
import Derived.Deep.Strs
namespace Go.Proofs.YtednlgeidgnogaaDoor
open Go.ChangeShapes Go.WideShapes Go.ChangeAt Go.RowKit

section
variable {H : Type} {enc : TypeId × Value → H} {W : World} {fuel : Nat}
theorem cells3 : Tryd.prog.cellsOf 3 = 1 := by kernel_rfl
theorem cells39 : Tryd.prog.cellsOf 39 = 1 := by kernel_rfl
theorem cells41 : Tryd.prog.cellsOf 41 = 3 := by kernel_rfl
theorem cells25 : Tryd.prog.cellsOf 25 = 2 := by kernel_rfl
theorem add_at (a : Addr) (j : Nat) (h : a.spot = none) : a.add j = ⟨a.block, a.off + j, none⟩ := by
  obtain ⟨b, o, s⟩ := a
  simp only at h
  subst h
  unfold Addr.add
  split
  · rename_i h0; subst h0; rfl
  · rfl

set_option maxRecDepth 100000 in
/-- a slice of ints that came in. -/
theorem ints_in {cs : List Value} {x : DataW H × List MemPlace} (h : DataW.trod enc Tryd.prog W 0 (fun _ => true) true fuel 39 cs = some x) : ∃ v xs, cs = [v] ∧ Ints W W.heap.size v xs := by
  rcases open_ints Tryd.underlying39 Tryd.underlying3 cells3 h with ⟨rfl, _⟩ | ⟨a, len, cap, zs, rfl, _, hlc, hcm, hzl, _, hcell, _⟩
  · exact ⟨_, [], rfl, none, 0, rfl, Nat.le_refl _, by omega, Reads.none_⟩
  · have hzl' : zs.length = cap := by simpa using hzl
    refine ⟨_, zs.take len, rfl, some a, cap, by rw [List.length_take, hzl', Nat.min_eq_left hlc], by rw [List.length_take]; omega, by unfold maxLen at hcm; omega, by simp, fun hn => ?_⟩
    have hl0 : 0 < len := by rw [List.length_take] at hn; omega
    have h0 := cell_lt (hcell 0 (by omega))
    rw [block_of_add] at h0
    refine ⟨a, rfl, h0, fun j u hu => ?_⟩
    obtain ⟨hj, he⟩ := List.getElem?_eq_some_iff.1 hu
    have hj' : j < len := by simp at hj; omega
    rw [hcell j (by omega)]
    rw [← he]
    simp [List.getElem?_eq_getElem (show j < zs.length by omega)]

set_option maxRecDepth 100000 in
/-- one transition that came in. -/
theorem tran_in {cs : List Value} {x : DataW H × List MemPlace} (h : DataW.trod enc Tryd.prog W 0 (fun _ => true) true fuel 41 cs = some x) : ∃ l v1 v2 xs ys, cs = [.int .i64 l, v1, v2] ∧ Ints W W.heap.size v1 xs ∧ Ints W W.heap.size v2 ys := by
  obtain ⟨y0, y1, y2, n, _, hl, h0, h1, h2⟩ := Go.Deep.trod_struct3 Tryd.underlying41 h
  rw [cells41] at hl
  match cs, hl with
  | [c0, c1, c2], _ =>
    simp only [cells3, cells39, List.drop_zero, List.drop_succ_cons, List.take_succ_cons, List.take_zero] at h0 h1 h2
    obtain ⟨l, e0, _⟩ := DataW.trod_int Tryd.underlying3 h0
    obtain ⟨v1, xs, e1, hx⟩ := ints_in h1
    obtain ⟨v2, ys, e2, hy⟩ := ints_in h2
    simp only [List.cons.injEq, and_true] at e0 e1 e2
    subst e0 e1 e2
    exact ⟨l, _, _, xs, ys, rfl, hx, hy⟩

set_option maxRecDepth 100000 in
/-- a slice of transitions that came in. -/
theorem trans_in {v : Value} {x : DataW H × List MemPlace} (h : DataW.trod enc Tryd.prog W 0 (fun _ => true) true fuel 23 [v] = some x) :
    ∃ A n c ts, v = .slice A n c ∧ n ≤ 9223372036854775807 ∧ List.length ts = n ∧ TrsAt W W.heap.size A n ts := by
  rcases Go.Deep.open_slice Tryd.underlying23 h with ⟨e, _⟩ | ⟨a, len, cap, m, n, D, Pl, e, _, hlc, hcm, hm, _, hall⟩
  · simp only [List.cons.injEq, and_true] at e
    exact ⟨none, 0, 0, [], e, by omega, rfl, fun h0 => absurd h0 (by omega)⟩
  · simp only [List.cons.injEq, and_true] at e
    have hm' : m = cap := by simpa using hm
    have hex : ∀ i, ∃ t : Tx.Tr, i < len → TranCells W W.heap.size (a.add (i * 3)) t ∧ (a.add (i * 3)).block < W.heap.size := by
      intro i
      by_cases hi : i < len
      · obtain ⟨cs, hc, ht⟩ := hall i (by omega)
        rw [cells41] at hc
        obtain ⟨l, v1, v2, xs, ys, rfl, h1, h2⟩ := tran_in ht
        obtain ⟨_, _, hat⟩ := World.cells?_some hc
        have c0 := hat 0 (by omega)
        have c1 := hat 1 (by omega)
        have c2 := hat 2 (by omega)
        simp only [List.getElem?_cons_zero, List.getElem?_cons_succ] at c0 c1 c2
        have e0 : (a.add (i * 3)).add 0 = a.add (i * 3) := rfl
        rw [e0] at c0
        have e1 : (a.add (i * 3)).add 1 = ⟨(a.add (i * 3)).block, (a.add (i * 3)).off + 1, none⟩ := rfl
        have e2 : (a.add (i * 3)).add 2 = ⟨(a.add (i * 3)).block, (a.add (i * 3)).off + 2, none⟩ := rfl
        rw [e1] at c1
        rw [e2] at c2
        exact ⟨⟨l, xs, ys⟩, fun _ => ⟨⟨v1, v2, c0, c1, c2, h1, h2⟩, cell_lt c0⟩⟩
      · exact ⟨⟨0, [], []⟩, fun h => absurd h hi⟩
    obtain ⟨f, hf⟩ := Classical.axiomOfChoice hex
    refine ⟨some a, len, cap, (List.range len).map f, e, by unfold maxLen at hcm; omega, by simp, fun hn => ?_⟩
    have hb := (hf 0 hn).2
    rw [block_of_add] at hb
    refine ⟨a, rfl, hb, fun k t ht => ?_⟩
    obtain ⟨hk, he⟩ := List.getElem?_eq_some_iff.1 ht
    have hk' : k < len := by simpa using hk
    have he' : f k = t := by simpa using he
    rw [← he']
    exact (hf k hk').1
end

set_option maxRecDepth 100000 in
theorem back_reads (os : Os) {H : Type} (enc : TypeId × Value → H) : ∃ places, DataW.whole enc Tryd.prog ((laidWorld os).forCall (fun _ _ => 0) ⟨#[], #[.agg #[.int .i64 0, .slice none 0 0]], []⟩).memory Tryd.f4.params.toList Rows.textBackSpec.vars false #[Value.agg #[.int .i64 0, .slice none 0 0]].toList 12 = some ([.agg [.lit (.int .i64 0), .nil]], [], places) :=
  ⟨[], by kernel_rfl⟩
set_option maxRecDepth 100000 in
theorem back_contract (H : Type) (enc : TypeId × Value → H) (W : World) (base : Nat) (args : Array Value) (ds gs : List (DataW H)) (before : List MemPlace)
    (hval : ∀ (j : Nat) t v, Tryd.f4.params[j]? = some t → args[j]? = some v → Value.okWide Tryd.prog W .any base t v)
    (hW : DataW.Whole enc Tryd.prog Tryd.f4.params.toList Rows.textBackSpec.vars false W args.toList ds gs before) (hL : laidMetH Tryd.prog Rows.textBackRow.laid W) (hS : W.ShapedOpen Tryd.prog) :
    Calls Tryd.prog 4 args W fun e W' => ∃ v, e = .returned v ∧ Rows.textBackSpec.post enc Tryd.prog Tryd.f4 false true false false W args v W' := by
  have hg := glob_of hL hS
  have hW' := hW
  obtain ⟨p, q, hA0, hV, rfl, _, _⟩ := hW
  obtain ⟨rfl, rfl⟩ := trodVars_none hV
  have hA : DataW.TrodAll enc Tryd.prog W 0 (fun _ => true) true Tryd.f4.params.toList args.toList ds p := hA0
  rw [Tryd.params4] at hA hval
  obtain ⟨v0, d0, rfl, rfl, h0⟩ := trodAll_one hA
  obtain ⟨c0, c1, y0, y1, n, rfl, _, _, h1, h2⟩ := Joins.open_agg2 Tryd.underlying25 (by kernel_rfl) cells25 (hval 0 25 v0 rfl rfl) h0
  obtain ⟨pl, e0, _⟩ := DataW.trod_int Tryd.underlying3 h1
  simp only [List.cons.injEq, and_true] at e0
  subst e0
  obtain ⟨A, k, c, ts, rfl, hk, hl, hat⟩ := trans_in h2
  refine (back_walk pl A k c ts W hk hl hat hg).mono fun e W' ⟨he, hb⟩ => ?_
  subst he
  exact ⟨_, rfl, true_post (ty := 25) rfl rfl (by kernel_rfl) (by kernel_rfl) (of_decide_eq_true (by kernel_rfl)) (fun d => rfl) hW' hb⟩

set_option maxRecDepth 100000 in
theorem back_lifted (os : Os) (started : os.Started) (H : Type) (enc : TypeId × Value → H) (F : Stop.Interp) :
    ReturnsInHanded {} Tryd.checked os 4 .any ((OpenSpec.ofChange Rows.textBackSpec).preRow enc Tryd.prog Tryd.f4 Rows.textBackRow.domain false Rows.textBackRow.laid) (((OpenSpec.ofChange Rows.textBackSpec).at F).post enc Tryd.prog Tryd.f4 false true false false) := by
  obtain ⟨places, hx⟩ := back_reads os enc
  refine returnsInHanded_of_row (C := Tryd.checked) (s := OpenSpec.ofChange Rows.textBackSpec) own started (by kernel_rfl) Tryd.func4
    (witness_row_atRef (enc := enc) (C := Tryd.checked) false (laidWorld os) #[.agg #[.int .i64 0, .slice none 0 0]] rfl (by kernel_rfl) (by kernel_rfl) (by kernel_rfl)
      (OpenSpec.preRow_of_cond 12 hx (by kernel_rfl) (fun k hk => by cases hk) (by kernel_rfl) (laid_met os _))) ?_
  intro W base args ds gs before hval hW _ _ _ hL hsh _
  exact back_contract H enc W base args ds gs before hval hW hL hsh

theorem back_said : Rows.TextBackSaid :=
  OpenClaim.holds_of_cond 4 Tryd.f4 rfl rfl rfl rfl rfl rfl rfl ⟨rfl, rfl, rfl, rfl, rfl⟩ rfl rfl rfl rfl rfl (by kernel_rfl) Tryd.func4 (by kernel_rfl)
    (of_decide_eq_true (by kernel_rfl)) (by unfold Func.isWrapper; rw [if_neg (of_decide_eq_false (by kernel_rfl))]; exact ⟨rfl, rfl⟩)
    (fun os started H enc _ F => by rw [OpenClaim.pre_eq_preRow]; exact back_lifted os started H enc F)

theorem back_plain (f : FuncId) (fn : Func) (hf : Tryd.pinned.checked.prog.funcNamed "tokenhall/tokenhallkeep.TextBack" = some f) (hfn : Tryd.pinned.checked.prog.funcs[f]? = some fn) :
    true = Tryd.pinned.checked.prog.looks [] ∧ ∀ (j : Nat) t, fn.params[j]? = some t → Tryd.pinned.checked.prog.wantsStandIn t = false := by
  obtain rfl : f = 4 := Option.some.inj ((show Tryd.prog.funcNamed "tokenhall/tokenhallkeep.TextBack" = some 4 by kernel_rfl).symm.trans hf) |>.symm
  obtain rfl : fn = Tryd.f4 := (Option.some.inj (Tryd.func4.symm.trans hfn)).symm
  refine ⟨by kernel_rfl, fun j t ht => ?_⟩
  rw [Tryd.params4] at ht
  obtain rfl : t = 25 := by simpa using Array.mem_of_getElem? ht
  exact (show Tryd.prog.wantsStandIn 25 = false by kernel_rfl)

/-- ████ THE CARD ████ -/
theorem back_card : Rows.TextBackCardSaid :=
  Claim7.holds_tied_plain_at .later [] _ _ _ _ back_said (fun _ h => by cases h) (by kernel_rfl) (fun _ h => by cases h) textBack_row_tie rfl ⟨rfl, rfl⟩ (by kernel_rfl) rfl back_plain (by kernel_rfl)
end Go.Proofs.YtednlgeidgnogaaDoor
