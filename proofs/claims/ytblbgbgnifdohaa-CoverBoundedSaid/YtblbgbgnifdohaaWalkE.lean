/-
  Walks: the knots in memory; the way from a knot to all those that it comes of (ahead, and the function that it hands back).
-/
import Derived.Test.YtblbgbgnifdohaaWalkD
import Derived.Test.YtblbgbgnifdohaaFenceT
import Derived.RangeFuncNested
import Derived.RangeFuncBound
import Derived.RangeFuncCalls
import Derived.RangeFuncLeaves
import Derived.Shelf.Abstract
import Derived.Shelf.RegionOpen
import Derived.OwnWalkIn
import Derived.TacticsInMore
import Derived.LoopNIn
import Derived.LoopIn
namespace Go.Proofs.Ytblbgbgnifdohaa
open Go.RowKit Go.Shelf
attribute [local go_sem] Oper.semAt_some

/-- the way up from a knot, place by place. -/
structure Chain (ks : List Cv.Kn) (k : Int) (xs : List (List Int)) (n : Nat) (pos : Nat → Int) : Prop where
  zero : pos 0 = k
  inn : ∀ i, i < n → 0 ≤ pos i ∧ pos (i + 1) < pos i ∧ ∃ kn, ks[(pos i).toNat]? = some kn ∧ kn.up = pos (i + 1) ∧ xs[i]? = some kn.mark
  out : pos n < 0
  len : xs.length = n

def UpOk (ks : List Cv.Kn) : Prop := ∀ (i : Nat) (kn : Cv.Kn), ks[i]? = some kn → -1 ≤ kn.up ∧ kn.up < i

theorem chain_of {ks : List Cv.Kn} (hu : UpOk ks) : ∀ (f : Nat) (k : Int), k < f → k < ks.length → ∃ n pos, Chain ks k (Cv.pathF ks f k) n pos
  | 0, k, hf, _ => ⟨0, fun _ => k, rfl, fun i hi => absurd hi (by omega), by simpa using hf, rfl⟩
  | f + 1, k, hf, hk => by
    by_cases h0 : k < 0
    · exact ⟨0, fun _ => k, rfl, fun i hi => absurd hi (by omega), h0, by simp [Cv.pathF, h0]⟩
    · have hlt : k.toNat < ks.length := by omega
      have hg : ks[k.toNat]? = some ks[k.toNat] := List.getElem?_eq_getElem hlt
      have hup := hu _ _ hg
      obtain ⟨n, pos, c⟩ := chain_of hu f ks[k.toNat].up (by omega) (by omega)
      have e : Cv.pathF ks (f + 1) k = ks[k.toNat].mark :: Cv.pathF ks f ks[k.toNat].up := by
        rw [Cv.pathF, if_neg h0, hg]
      refine ⟨n + 1, fun i => match i with | 0 => k | j + 1 => pos j, rfl, fun i hi => ?_, c.out, by rw [e]; simp [c.len]⟩
      match i with
      | 0 => exact ⟨by simp only; omega, by simp only; rw [c.zero]; omega, _, hg, by simp only; rw [c.zero], by rw [e]; rfl⟩
      | j + 1 =>
        obtain ⟨h1, h2, kn, h3, h4, h5⟩ := c.inn j (by omega)
        exact ⟨h1, h2, kn, h3, h4, by rw [e]; simpa using h5⟩
theorem chain_path {ks : List Cv.Kn} (hu : UpOk ks) {k : Int} (hk : k < ks.length) (h1 : -1 ≤ k) : ∃ n pos, Chain ks k (Cv.pathV ks k) n pos := chain_of hu _ k (by omega) hk

theorem ahead_any (pa : Option Addr) (k : Int) (w : World) : Calls Try.prog 29 #[.pointer pa, .int .i64 k] w fun e w' =>
    e = .returned (.func (.func 35) #[] #[.pointer (some ⟨w.heap.size + 1, 0, none⟩), .pointer (some ⟨w.heap.size, 0, none⟩)]) ∧ w' = (w.alloc (.cells #[.pointer pa] 53)).alloc (.cells #[.int .i64 k] 3) := by
  go_enter Try.func29, Try.ntmps29
  go_wp2_with fail
  go_ret
  exact ⟨rfl, rfl⟩

theorem below_drewN (w : World) (n : Nat) : Below w.heap.size w (w.drewN n) := ⟨rfl, rfl, rfl, Nat.le_refl _, fun _ _ => rfl⟩
theorem ahead_at (bt : Addr) (k : Int) (w : World) (N : Nat) (hN : w.heap.size = N) : Calls Try.prog 29 #[.pointer (some bt), .int .i64 k] w fun e w' =>
    e = .returned (.func (.func 35) #[] #[.pointer (some ⟨N + 1, 0, none⟩), .pointer (some ⟨N, 0, none⟩)]) ∧ Below N w w' ∧ w'.heap.size = N + 2 ∧
    w'.cell? ⟨N + 1, 0, none⟩ = some (.int .i64 k) ∧ w'.frozen? ⟨N + 1, 0, none⟩ = false ∧ w'.cell? ⟨N, 0, none⟩ = some (.pointer (some bt)) := by
  subst hN
  refine (ahead_any (some bt) k w).mono ?_
  rintro e w' ⟨rfl, rfl⟩
  exact ⟨rfl, ((Below.refl _ w).alloc (Nat.le_refl _) _).alloc (by simp) _, by simp, by simp [go_sem], by simp [go_sem], by simp [go_sem]⟩

/-- what the iterator reads. -/
structure Look (W : World) (kb tb bt g cap : Nat) (ks : List Cv.Kn) (vs : List Value) (q : Int) : Prop where
  k : W.cell? ⟨kb, 0, none⟩ = some (.int .i64 q)
  fr : W.frozen? ⟨kb, 0, none⟩ = false
  t : W.cell? ⟨tb, 0, none⟩ = some (.pointer (some ⟨bt, 0, none⟩))
  row : W.cell? ⟨bt, 2, none⟩ = some (.slice (some ⟨g, 0, none⟩) ks.length cap)
  kn : ∀ (j : Nat) (kn : Cv.Kn) (v : Value), ks[j]? = some kn → vs[j]? = some v → W.cell? ⟨g, j * 3, none⟩ = some (.int .i64 kn.up) ∧ W.cell? ⟨g, j * 3 + 2, none⟩ = some v

theorem ahead1_any (m l kb tb bt g cap n : Nat) (ks : List Cv.Kn) (vs : List Value) (k0 : Int) (xs : List (List Int)) (pos : Nat → Int) (hc : Chain ks k0 xs n pos) (hks : ks.length ≤ 300) (hvs : vs.length = ks.length)
    (J J' : Nat → World → Prop) (Jx : World → Prop)
    (hJ : ∀ i W, J i W → Look W kb tb bt g cap ks vs (pos i)) (hJ' : ∀ i W, J' i W → Look W kb tb bt g cap ks vs (pos i))
    (hd : ∀ i W q, J i W → J i (World.drewN W q)) (hd' : ∀ i W q, J' i W → J' i (World.drewN W q))
    (hY : ∀ i, i < n → ∀ W v, J i W → vs[(pos i).toNat]? = some v → YieldAt Fence.wide (m - 1) Try.prog l #[v] W fun e W' => (e = .returned (.bool true) ∧ J' i W') ∨ (e = .returned (.bool false) ∧ Jx W'))
    (hs : ∀ i W, i < n → J' i W → J (i + 1) (W.setCell ⟨kb, 0, none⟩ (.int .i64 (pos (i + 1))))) (W : World) (h0 : J 0 W) :
    CallsIn Fence.wide m Try.prog 35 #[.func (.yield l) #[] #[], .pointer (some ⟨kb, 0, none⟩), .pointer (some ⟨tb, 0, none⟩)] W fun e W' => (∃ v, e = .returned v) ∧ (J n W' ∨ Jx W') := by
  have HC := Lib.hid hc
  have HJ := Lib.hid hJ
  have HJ' := Lib.hid hJ'
  have HD := Lib.hid hd
  have HD' := Lib.hid hd'
  have HY := Lib.hid hY
  have HS := Lib.hid hs
  clear hc hJ hJ' hd hd' hY hs
  refine callsIn_of_wp Try.func35 rfl trivial ?_
  simp only [Try.ntmps35, List.size_toArray, List.length_cons, List.length_nil, Nat.reduceAdd, Nat.reduceSub, Array.replicate_succ, Array.replicate_zero, List.push_toArray, List.append_toArray, List.nil_append, List.cons_append]
  gi_wp2
  gi_loopw [] (fun wr => ∃ i, i ≤ n ∧ J i wr) (fun wr => (intOf ((wr.cell? ⟨kb, 0, none⟩).getD undef) + 1).toNat)
  case atStart => exact ⟨0, Nat.zero_le _, h0⟩
  case round =>
    obtain ⟨i, hi, hj⟩ := hrel
    obtain ⟨lk, lfr, lt, lrow, lkn⟩ := HJ.out i wr hj
    by_cases hlt : i < n
    · obtain ⟨p0, p1, kn, hkn, hup, hxs⟩ := HC.out.inn i hlt
      have hvl : (pos i).toNat < vs.length := by rw [hvs]; exact (List.getElem?_eq_some_iff.1 hkn).1
      have hv : vs[(pos i).toNat]? = some vs[(pos i).toNat] := List.getElem?_eq_getElem hvl
      obtain ⟨lup, lmk⟩ := lkn _ _ _ hkn hv
      obtain ⟨fn, tmps, assign, body, hy, hR⟩ := HY.out i hlt _ _ (HD.out i wr 1 hj) hv
      have HRR := Lib.hid hR
      have hpl : (pos i).toNat < ks.length := by omega
      have HPN : Hid ((((pos i).toNat : Nat) : Int) = pos i) := Lib.hid (Int.toNat_of_nonneg p0)
      rw [← HPN.out] at lk
      have HLK := Lib.hid lk
      have HPI := Lib.hid p1
      clear p1
      generalize vs[(pos i).toNat] = mv at *
      generalize hq : (pos i).toNat = q at *
      have HKN := Lib.hid hkn
      have HV := Lib.hid hv
      have HUP := Lib.hid hup
      clear hR hkn hv hxs lkn hup
      gi_wp2
      refine region_tail_wide 9 (by kernel_rfl) (by kernel_rfl) ?_
      simp only [List.take_succ_cons, List.take_zero, List.drop_succ_cons, List.drop_zero]
      repeat still_step
      refine wpStill_nil ?_
      change wpListIn _ _ _ _ _ _ _ (World.drewN wr 1)
      generalize World.drewN wr 1 = w1 at *
      clear lk lfr lt lrow lup lmk
      gi_wp2
      refine ⟨(fun e => absurd e (by simp [Fence.wide])), HRR.out.mono ?_⟩
      rintro e W3 (⟨rfl, hJ3⟩ | ⟨rfl, hJx3⟩)
      · obtain ⟨mk, mfr, mt, mrow, mkn⟩ := HJ'.out i W3 hJ3
        obtain ⟨nup, _⟩ := mkn _ _ _ HKN.out HV.out
        rw [← HPN.out] at mk
        rw [HUP.out] at nup
        have HJD := Lib.hid (HD'.out i W3 1 hJ3)
        clear mkn hJ3
        gi_wp2
        refine region_tail_wide 8 (by kernel_rfl) (by kernel_rfl) ?_
        simp only [List.take_succ_cons, List.take_zero, List.drop_succ_cons, List.drop_zero]
        repeat still_step
        refine wpStill_nil ?_
        change wpListIn _ _ _ _ _ _ _ (World.drewN W3 1)
        have mk' : (World.drewN W3 1).cell? ⟨kb, 0, none⟩ = some (.int .i64 q) := mk
        have mfr' : (World.drewN W3 1).frozen? ⟨kb, 0, none⟩ = false := mfr
        clear mk mfr mt mrow nup
        generalize World.drewN W3 1 = W4 at *
        gi_wp2
        go_roundw
        case rel => exact ⟨i + 1, by omega, HS.out i _ hlt HJD.out⟩
        case measure =>
          rw [World.cell?_setCell_same' _ _ _ (by rw [mk']; rfl), HLK.out]
          simp only [Option.getD_some, intOf]
          have := HPI.out
          have := HPN.out
          omega
      · gi_wp2
        refine bodyPost_ret (results_none rfl _ _ _) rfl ?_
        exact ⟨⟨_, rfl⟩, .inr hJx3⟩
    · obtain rfl : i = n := by omega
      have hout := HC.out.out
      gi_wp2
      go_end0
      exact ⟨⟨_, rfl⟩, .inl hj⟩
end Go.Proofs.Ytblbgbgnifdohaa
