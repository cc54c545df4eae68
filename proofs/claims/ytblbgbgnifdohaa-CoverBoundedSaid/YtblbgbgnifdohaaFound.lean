/-
  What the finder of marks keeps in memory, and how it changes.
-/
import Derived.Test.YtblbgbgnifdohaaWalkL
import Derived.Maps.OwnSet
import Derived.StringKeys
namespace Go.Proofs.Ytblbgbgnifdohaa
open Go.RowKit Go.Maps

/-- the map's key for a mark. -/
def keyL (m : List Int) : Lit := .string (strOfNums (nameI m)).data.toList
/-- the map has the marks that were found, and no other ones. -/
structure SetIs (P : Nat) (D : DataW Unit) (ms : List (List Int)) : Prop where
  is : IsMap D
  has : ∀ x : List Int, x.length = P → (∀ y ∈ x, 0 ≤ y ∧ y ≤ 1000000) → Maps.has D (keyL x) = ms.contains x
theorem SetIs.none (P : Nat) : SetIs P (.map []) [] := ⟨isMap_empty, fun _ _ _ => rfl⟩
theorem key_isKey (m : List Int) : WideAt.IsKeyLit (keyL m) := trivial
theorem SetIs.push {P : Nat} {D : DataW Unit} {ms : List (List Int)} (h : SetIs P D ms) {m : List Int} (hl : m.length = P) (hm : ∀ y ∈ m, 0 ≤ y ∧ y ≤ 1000000) (d : DataW Unit) : SetIs P (D.put (keyL m) d) (ms ++ [m]) := by
  refine ⟨h.is.put _ _, fun x hx hr => ?_⟩
  by_cases e : x = m
  · subst e
    rw [has_put_same h.is (key_isKey _)]
    simp
  · have hne : keyL x ≠ keyL m := fun he => e (by
      have h1 : (strOfNums (nameI x)).data.toList = (strOfNums (nameI m)).data.toList := by unfold keyL at he; exact Lit.string.inj he
      exact name_inj hr hm (hx.trans hl.symm) (by rw [strOfNums_data, strOfNums_data] at h1; exact h1))
    rw [has_put_other hne, h.has x hx hr]
    simp [e]

/-- rows that stay as they are: of another block than first's. -/
def Safe (W : World) (B : Nat) (fv : Value) (G : List (Value × List Int)) : Prop :=
  ∀ q ∈ G, W.ownsRow B 3 1 q.1 q.2.length (q.2.map (Value.int .i64)) ∧ ∀ b, q.1.ownBlock = some b → fv.ownBlock ≠ some b
theorem Safe.below {W W' : World} {B : Nat} {fv : Value} {G : List (Value × List Int)} (h : Safe W B fv G) (hb : Below W.heap.size W W') : Safe W' B fv G := fun q hq => ⟨own_below (h q hq).1 hb, (h q hq).2⟩
theorem Safe.add {W : World} {B : Nat} {fv v : Value} {xs : List Int} {G : List (Value × List Int)} (h : Safe W B fv G) (hx : W.ownsRow B 3 1 v xs.length (xs.map (Value.int .i64))) (hn : ∀ b, v.ownBlock = some b → fv.ownBlock ≠ some b) : Safe W B fv ((v, xs) :: G) := fun q hq => by
  rcases List.mem_cons.1 hq with rfl | hq
  · exact ⟨hx, hn⟩
  · exact h q hq

/-- the finder, between its steps. -/
structure FP (W : World) (B P fb : Nat) (p : Int) (A : Option Addr) (n c most mb nm nf na : Nat) (ms : List (List Int)) (mv av fv : Value) (vs : List Value) (G : List (Value × List Int)) : Prop where
  blk : W.heap[fb]? = some (.cells #[.int .i64 p, .slice A n c, .int .i64 most, .map (some mb), mv, av, fv] 67 (0, 0))
  map : ∃ D : DataW Unit, W.ownsMap Try.prog 9 (plainElem Try.prog 3) mb ms.length D ∧ SetIs P D ms
  marks : W.ownsRow B 25 1 mv nm vs
  arcs : ∃ cs, W.ownsRow B 79 3 av na cs
  first : ∃ xs : List Int, xs.length = nf ∧ W.ownsRow B 3 1 fv nf (xs.map (Value.int .i64))
  safe : Safe W B fv G
  hfb : B ≤ fb
  hmb : B ≤ mb
/-- the finder. -/
structure FI (W : World) (B P fb : Nat) (p : Int) (A : Option Addr) (n c most mb na : Nat) (ms : List (List Int)) (mv av fv : Value) (vs : List Value) (G : List (Value × List Int)) : Prop where
  fp : FP W B P fb p A n c most mb ms.length ms.length na ms mv av fv vs G
  inn : ∀ (i : Nat) (m : List Int) (v : Value), ms[i]? = some m → vs[i]? = some v → (v, m) ∈ G
  good : ∀ m ∈ ms, m.length = P ∧ ∀ y ∈ m, 0 ≤ y ∧ y ≤ 1000000
  hms : ms.length ≤ most

section
variable {W W' : World} {B P fb : Nat} {p : Int} {A : Option Addr} {n c most mb nm nf na : Nat} {ms : List (List Int)} {mv av fv : Value} {vs : List Value} {G : List (Value × List Int)}
theorem map_below {D : DataW Unit} {N : Nat} (h : W.ownsMap Try.prog 9 (plainElem Try.prog 3) mb N D) (hb : Below W.heap.size W W') : W'.ownsMap Try.prog 9 (plainElem Try.prog 3) mb N D :=
  h.kept (row := none) ⟨hb.os, hb.tape, hb.output, hb.size, fun k hk _ => hb.block k hk⟩ (by simp)
theorem FP.below (h : FP W B P fb p A n c most mb nm nf na ms mv av fv vs G) (hb : Below W.heap.size W W') : FP W' B P fb p A n c most mb nm nf na ms mv av fv vs G := by
  obtain ⟨D, hD, hS⟩ := h.map
  obtain ⟨cs, hc⟩ := h.arcs
  obtain ⟨xs, hx, hf⟩ := h.first
  exact ⟨(hb.block fb (Array.getElem?_eq_some_iff.1 h.blk).1).trans h.blk, ⟨D, map_below hD hb, hS⟩, own_below h.marks hb, ⟨cs, own_below hc hb⟩, ⟨xs, hx, own_below hf hb⟩, h.safe.below hb, h.hfb, h.hmb⟩
theorem FI.below (h : FI W B P fb p A n c most mb na ms mv av fv vs G) (hb : Below W.heap.size W W') : FI W' B P fb p A n c most mb na ms mv av fv vs G := ⟨h.fp.below hb, h.inn, h.good, h.hms⟩
theorem FP.lt (h : FP W B P fb p A n c most mb nm nf na ms mv av fv vs G) : fb < W.heap.size := (Array.getElem?_eq_some_iff.1 h.blk).1
theorem FP.cells (h : FP W B P fb p A n c most mb nm nf na ms mv av fv vs G) : W.cell? ⟨fb, 0, none⟩ = some (.int .i64 p) ∧ W.cell? ⟨fb, 1, none⟩ = some (.slice A n c) ∧ W.cell? ⟨fb, 2, none⟩ = some (.int .i64 most) ∧ W.cell? ⟨fb, 3, none⟩ = some (.map (some mb)) ∧
    W.cell? ⟨fb, 4, none⟩ = some mv ∧ W.cell? ⟨fb, 5, none⟩ = some av ∧ W.cell? ⟨fb, 6, none⟩ = some fv ∧ W.frozen? ⟨fb, 4, none⟩ = false ∧ W.frozen? ⟨fb, 5, none⟩ = false ∧ W.frozen? ⟨fb, 6, none⟩ = false := by
  have hb := h.blk
  simp [World.cell?, World.frozen?, hb]
/-- a row's block is neither of these. -/
theorem ne_of_type {e T : TypeId} {s N b : Nat} {v : Value} {xs : List Value} {cs : Array Value} {r : Nat × Nat} (h : W.ownsRow B e s v N xs) (hb : W.heap[b]? = some (.cells cs T r)) (hT : T ≠ e) : ∀ b', v.ownBlock = some b' → b' ≠ b := fun b' hv e1 => own_ne h hb hT (by rw [hv, e1])
theorem ne_of_map {e : TypeId} {s N b : Nat} {v : Value} {xs : List Value} {es : Array MapEntry} {cl : Nat} (h : W.ownsRow B e s v N xs) (hb : W.heap[b]? = some (.map es cl)) : ∀ b', v.ownBlock = some b' → b' ≠ b := fun b' hv e1 => by
  subst e1
  rcases h.2 with ⟨rfl, _⟩ | ⟨g, cap, cur, rfl, _, hh, _⟩
  · simp [Value.ownBlock] at hv
  · simp only [Value.ownBlock, Option.some.injEq] at hv
    subst hv
    rw [hb] at hh
    cases hh
theorem ne_rows {e1 e2 : TypeId} {s1 s2 N1 N2 : Nat} {v1 v2 : Value} {xs ys : List Value} (h1 : W.ownsRow B e1 s1 v1 N1 xs) (h2 : W.ownsRow B e2 s2 v2 N2 ys) (hT : e1 ≠ e2) : ∀ b, v1.ownBlock = some b → v2.ownBlock ≠ some b := fun b hv hv2 => by
  rcases h1.2 with ⟨rfl, _⟩ | ⟨g, cap, cur, rfl, _, hh, _⟩
  · simp [Value.ownBlock] at hv
  · simp only [Value.ownBlock, Option.some.injEq] at hv
    subst hv
    exact own_ne h2 hh hT hv2
theorem kept_ne {e : TypeId} {s N : Nat} {v : Value} {xs : List Value} {row : Option Nat} (h : W.ownsRow B e s v N xs) (hg : W.grownBy W' row) (hn : ∀ b, v.ownBlock = some b → row ≠ some b) : W'.ownsRow B e s v N xs := by
  refine h.kept hg ?_
  cases hv : v.ownBlock with
  | none => exact .inl rfl
  | some b => exact .inr (fun e => hn b hv e.symm)

/-- the map gets one more. -/
theorem FP.mapped (h : FP W B P fb p A n c most mb nm nf na ms mv av fv vs G) {m : List Int} (hl : m.length = P) (hm : ∀ y ∈ m, 0 ≤ y ∧ y ≤ 1000000) {D D0 : DataW Unit} (d : DataW Unit) (h0 : W.ownsMap Try.prog 9 (plainElem Try.prog 3) mb ms.length D0) (hS : SetIs P D ms)
    (hD : W'.ownsMap Try.prog 9 (plainElem Try.prog 3) mb (ms.length + 1) (D.put (keyL m) d)) (hg : W.grownBy W' (some mb)) : FP W' B P fb p A n c most mb nm nf na (ms ++ [m]) mv av fv vs G := by
  obtain ⟨es, cl, he, _⟩ := h0
  obtain ⟨cs, hc⟩ := h.arcs
  obtain ⟨xs, hx, hf⟩ := h.first
  have K : ∀ {e : TypeId} {s N : Nat} {v : Value} {xs : List Value}, W.ownsRow B e s v N xs → W'.ownsRow B e s v N xs := fun hr => kept_ne hr hg (fun b hv e1 => ne_of_map hr he b hv (Option.some.inj e1).symm)
  refine ⟨?_, ⟨_, by rw [List.length_append]; exact hD, hS.push hl hm d⟩, K h.marks, ⟨cs, K hc⟩, ⟨xs, hx, K hf⟩, fun q hq => ⟨K (h.safe q hq).1, (h.safe q hq).2⟩, h.hfb, h.hmb⟩
  rw [hg.block fb h.lt (fun e => by rw [← Option.some.inj e, h.blk] at he; cases he)]
  exact h.blk

/-- a cell of the finder's block is written. -/
theorem own_setfb {e : TypeId} {s N : Nat} {v : Value} {xs : List Value} {cs : Array Value} {r : Nat × Nat} (h : W.ownsRow B e s v N xs) (hb : W.heap[fb]? = some (.cells cs 67 r)) (he : 67 ≠ e) (j : Nat) (u : Value) : (W.setCell ⟨fb, j, none⟩ u).ownsRow B e s v N xs :=
  own_kx h ((Kx.refl W [fb]).set (.inl (by simp)) u) (fun b hv hm => by simp at hm; exact ne_of_type h hb he b hv hm)
theorem map_setfb {D : DataW Unit} {N j : Nat} {u : Value} {cs : Array Value} {r : Nat × Nat} (h : W.ownsMap Try.prog 9 (plainElem Try.prog 3) mb N D) (hb : W.heap[fb]? = some (.cells cs 67 r)) : (W.setCell ⟨fb, j, none⟩ u).ownsMap Try.prog 9 (plainElem Try.prog 3) mb N D :=
  h.setCell (a := ⟨fb, j, none⟩) (fun e => by obtain ⟨es, cl, he, _⟩ := h; rw [show mb = fb from e, hb] at he; cases he) u

/-- the marks get one more. -/
theorem FP.marked (h : FP W B P fb p A n c most mb nm nf na ms mv av fv vs G) {mv' x : Value} (ho : W'.ownsRow B 25 1 mv' (nm + 1) (vs ++ [x])) (hg : W.grownBy W' mv.ownBlock) :
    W'.heap[fb]? = some (.cells #[.int .i64 p, .slice A n c, .int .i64 most, .map (some mb), mv, av, fv] 67 (0, 0)) ∧ FP (W'.setCell ⟨fb, 4, none⟩ mv') B P fb p A n c most mb (nm + 1) nf na ms mv' av fv (vs ++ [x]) G := by
  obtain ⟨D, hD, hS⟩ := h.map
  obtain ⟨cs, hc⟩ := h.arcs
  obtain ⟨xs, hx, hf⟩ := h.first
  have K : ∀ {e : TypeId} {s N : Nat} {v : Value} {xs : List Value}, e ≠ 25 → W.ownsRow B e s v N xs → W'.ownsRow B e s v N xs := fun hne hr => kept_ne hr hg (fun b hv => ne_rows hr h.marks hne b hv)
  have hb : W'.heap[fb]? = some (.cells #[.int .i64 p, .slice A n c, .int .i64 most, .map (some mb), mv, av, fv] 67 (0, 0)) := (hg.block fb h.lt (fun e => ne_of_type h.marks h.blk (by decide) fb e.symm rfl)).trans h.blk
  have hD' : W'.ownsMap Try.prog 9 (plainElem Try.prog 3) mb ms.length D := hD.kept hg (fun e => by obtain ⟨es, cl, he, _⟩ := hD; exact ne_of_map h.marks he mb e.symm rfl)
  refine ⟨hb, ?_, ⟨D, map_setfb hD' hb, hS⟩, own_setfb ho hb (by decide) _ _, ⟨cs, own_setfb (K (by decide) hc) hb (by decide) _ _⟩, ⟨xs, hx, own_setfb (K (by decide) hf) hb (by decide) _ _⟩,
    fun q hq => ⟨own_setfb (K (by decide) (h.safe q hq).1) hb (by decide) _ _, (h.safe q hq).2⟩, h.hfb, h.hmb⟩
  simp [World.setCell, Array.getElem?_modify, hb]
/-- first gets one more. -/
theorem FP.firsted (h : FP W B P fb p A n c most mb nm nf na ms mv av fv vs G) {g cap : Nat} {xs : List Int} {x : Int} (hx : xs.length = nf) (ho : W'.ownsRow B 3 1 (.slice (some ⟨g, 0, none⟩) (nf + 1) cap) (nf + 1) (xs.map (Value.int .i64) ++ [.int .i64 x])) (hf : W.ownsRow B 3 1 fv nf (xs.map (Value.int .i64)))
    (hg : W.grownBy W' fv.ownBlock) (hat : fv.ownBlock = some g ∨ g = W.heap.size) :
    W'.heap[fb]? = some (.cells #[.int .i64 p, .slice A n c, .int .i64 most, .map (some mb), mv, av, fv] 67 (0, 0)) ∧
    FP (W'.setCell ⟨fb, 6, none⟩ (.slice (some ⟨g, 0, none⟩) (nf + 1) cap)) B P fb p A n c most mb nm (nf + 1) na ms mv av (.slice (some ⟨g, 0, none⟩) (nf + 1) cap) vs G := by
  obtain ⟨D, hD, hS⟩ := h.map
  obtain ⟨cs, hc⟩ := h.arcs
  have K : ∀ {e : TypeId} {s N : Nat} {v : Value} {xs : List Value}, e ≠ 3 → W.ownsRow B e s v N xs → W'.ownsRow B e s v N xs := fun hne hr => kept_ne hr hg (fun b hv => ne_rows hr hf hne b hv)
  have hb : W'.heap[fb]? = some (.cells #[.int .i64 p, .slice A n c, .int .i64 most, .map (some mb), mv, av, fv] 67 (0, 0)) := (hg.block fb h.lt (fun e => ne_of_type hf h.blk (by decide) fb e.symm rfl)).trans h.blk
  have hD' : W'.ownsMap Try.prog 9 (plainElem Try.prog 3) mb ms.length D := hD.kept hg (fun e => by obtain ⟨es, cl, he, _⟩ := hD; exact ne_of_map hf he mb e.symm rfl)
  refine ⟨hb, ?_, ⟨D, map_setfb hD' hb, hS⟩, own_setfb (K (by decide) h.marks) hb (by decide) _ _, ⟨cs, own_setfb (K (by decide) hc) hb (by decide) _ _⟩, ⟨xs ++ [x], by simp [hx], own_setfb (by simpa using ho) hb (by decide) _ _⟩,
    fun q hq => ⟨own_setfb (kept_ne (h.safe q hq).1 hg (h.safe q hq).2) hb (by decide) _ _, fun b hv e => ?_⟩, h.hfb, h.hmb⟩
  · simp [World.setCell, Array.getElem?_modify, hb]
  · simp only [Value.ownBlock, Option.some.injEq] at e
    subst e
    rcases hat with hat | hat
    · exact (h.safe q hq).2 g hv hat
    · have := (h.safe q hq).1.lt g hv
      omega
/-- the arcs get one more. -/
theorem FP.arced (h : FP W B P fb p A n c most mb nm nf na ms mv av fv vs G) {av' : Value} {cs' : List Value} (ho : W'.ownsRow B 79 3 av' (na + 1) cs') (hg : W.grownBy W' av.ownBlock) :
    W'.heap[fb]? = some (.cells #[.int .i64 p, .slice A n c, .int .i64 most, .map (some mb), mv, av, fv] 67 (0, 0)) ∧ FP (W'.setCell ⟨fb, 5, none⟩ av') B P fb p A n c most mb nm nf (na + 1) ms mv av' fv vs G := by
  obtain ⟨D, hD, hS⟩ := h.map
  obtain ⟨cs, hc⟩ := h.arcs
  obtain ⟨xs, hx, hf⟩ := h.first
  have K : ∀ {e : TypeId} {s N : Nat} {v : Value} {xs : List Value}, e ≠ 79 → W.ownsRow B e s v N xs → W'.ownsRow B e s v N xs := fun hne hr => kept_ne hr hg (fun b hv => ne_rows hr hc hne b hv)
  have hb : W'.heap[fb]? = some (.cells #[.int .i64 p, .slice A n c, .int .i64 most, .map (some mb), mv, av, fv] 67 (0, 0)) := (hg.block fb h.lt (fun e => ne_of_type hc h.blk (by decide) fb e.symm rfl)).trans h.blk
  have hD' : W'.ownsMap Try.prog 9 (plainElem Try.prog 3) mb ms.length D := hD.kept hg (fun e => by obtain ⟨es, cl, he, _⟩ := hD; exact ne_of_map hc he mb e.symm rfl)
  refine ⟨hb, ?_, ⟨D, map_setfb hD' hb, hS⟩, own_setfb (K (by decide) h.marks) hb (by decide) _ _, ⟨cs', own_setfb ho hb (by decide) _ _⟩, ⟨xs, hx, own_setfb (K (by decide) hf) hb (by decide) _ _⟩,
    fun q hq => ⟨own_setfb (K (by decide) (h.safe q hq).1) hb (by decide) _ _, (h.safe q hq).2⟩, h.hfb, h.hmb⟩
  simp [World.setCell, Array.getElem?_modify, hb]
end
end Go.Proofs.Ytblbgbgnifdohaa
