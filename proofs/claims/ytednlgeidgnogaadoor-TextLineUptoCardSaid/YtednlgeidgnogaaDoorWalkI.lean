/-
  The pieces of a text, and the way out with a line's number; what a net that is being read owns.
-/
import Derived.Test.YtednlgeidgnogaaDoorWalkH
namespace Go.Proofs.YtednlgeidgnogaaDoor
open Go.RowKit

theorem no_any (k : Int) (w : World) : Calls Tryd.prog 14 #[.int .i64 k] w fun e w' => e = .returned (.tuple #[.agg #[.int .i64 0, .slice none 0 0], .int .i64 k, .int .i64 1]) ∧ Below w.heap.size w w' := by
  have HB := Lib.hid ((Below.refl w.heap.size w).alloc (Nat.le_refl _) (.cells #[.int .i64 0, .slice none 0 0] 25))
  go_enter Tryd.func14, Tryd.ntmps14
  go_wp2_with fail
  exact bodyPost_ret (v := .tuple #[.agg #[.int .i64 0, .slice none 0 0], .int .i64 k, .int .i64 1]) (by simp [results, Tryd.results14, go_sem]) rfl ⟨rfl, (by repeat (first | exact HB.out | refine Below.setCell ?_ (by first | exact Nat.le_refl _ | omega) _))⟩

theorem count_ba (s : List UInt8) : Lib.countB ⟨s.toArray⟩ ⟨#[10]⟩ = Lib.count s [10] := rfl
theorem split_lines (s : List UInt8) : (Lib.splitB ⟨#[10]⟩ 1 (Lib.count s [10]) ⟨s.toArray⟩).map (·.data.toList) = Tx.linesS s := by
  rw [Lib.splitB_data]; rfl

theorem lines_any (s : List UInt8) (w : World) (hs : s.length < 4294967281) (hg : Glob w) :
    Calls Tryd.prog 12 #[.string ⟨s.toArray⟩, .string ⟨#[10]⟩] w fun e w' => e = .returned (.slice (some ⟨w.heap.size, 0, none⟩) (Tx.linesS s).length (Tx.linesS s).length) ∧ Strs w' w.heap.size (Tx.linesS s) ∧ Below w.heap.size w w' := by
  obtain ⟨m, hm⟩ := hg.maxLen
  have hcl : Lib.count s [10] ≤ s.length := by rw [Lib.count_one]; exact List.count_le_length
  have c := Tryd.strings_genSplit ⟨s.toArray⟩ ⟨#[10]⟩ 1 (-1) (Lib.count s [10] + 1) m w (by simpa [ByteArray.size] using hs) hm (by decide) (by decide) (by decide) (by decide) (by
    rw [if_pos (by decide), count_ba]
    simp only [ByteArray.size, List.size_toArray]
    omega)
  rw [Nat.add_sub_cancel] at c
  have hl := congrArg List.length (split_lines s)
  rw [List.length_map] at hl
  have hc := Tx.linesS_len s
  rw [← Lib.count_one] at hc
  rw [hl, ← hc] at c
  have HC := Lib.hid c
  have HS := Lib.hid (split_lines s)
  clear c hl hc hcl hm
  go_enter Tryd.func12, Tryd.ntmps12
  go_wp2_with fail
  refine HC.out.mono ?_
  rintro e w' ⟨rfl, rfl⟩
  have HB := Lib.hid ((Below.refl w.heap.size w).alloc (Nat.le_refl _) (.cells (Lib.cellsOf (Lib.splitB ⟨#[10]⟩ 1 (Lib.count s [10]) ⟨s.toArray⟩) (Tx.linesS s).length) 9))
  have HN := Lib.hid (heap_alloc_new w (.cells (Lib.cellsOf (Lib.splitB ⟨#[10]⟩ 1 (Lib.count s [10]) ⟨s.toArray⟩) (Tx.linesS s).length) 9))
  generalize (w.alloc (.cells (Lib.cellsOf (Lib.splitB ⟨#[10]⟩ 1 (Lib.count s [10]) ⟨s.toArray⟩) (Tx.linesS s).length) 9)) = W at *
  go_wp2_with fail
  go_ret
  refine ⟨rfl, ⟨(Array.getElem?_eq_some_iff.1 HN.out).1, fun j x hx => ?_⟩, HB.out⟩
  have h1 := HN.out
  have h2 : (Lib.splitB ⟨#[10]⟩ 1 (Lib.count s [10]) ⟨s.toArray⟩)[j]? = some ⟨x.toArray⟩ := by
    rw [← HS.out, List.getElem?_map] at hx
    cases hj : (Lib.splitB ⟨#[10]⟩ 1 (Lib.count s [10]) ⟨s.toArray⟩)[j]? with
    | none => rw [hj] at hx; cases hx
    | some y =>
      rw [hj] at hx
      simp only [Option.map_some, Option.some.injEq] at hx
      rw [← hx, ba_mk]
  obtain ⟨hj, he⟩ := List.getElem?_eq_some_iff.1 h2
  simp only [World.cell?, h1, Lib.cellsOf]
  simp [List.getElem?_append_left, hj, he]

/-- two cells of a net, and no more. -/
def Blk2 (w : World) (b : Nat) (x y : Value) : Prop := w.heap[b]? = some (.cells #[x, y] 25 (0, 0))
section
variable {w w' : World} {b : Nat} {x y : Value}
theorem Blk2.lt (h : Blk2 w b x y) : b < w.heap.size := (Array.getElem?_eq_some_iff.1 h).1
theorem Blk2.below (h : Blk2 w b x y) (hb : Below w.heap.size w w') : Blk2 w' b x y := (hb.block b h.lt).trans h
theorem Blk2.cells (h : Blk2 w b x y) : w.cell? ⟨b, 0, none⟩ = some x ∧ w.cell? ⟨b, 1, none⟩ = some y ∧ w.frozen? ⟨b, 0, none⟩ = false ∧ w.frozen? ⟨b, 1, none⟩ = false := by
  unfold Blk2 at h
  simp [World.cell?, World.frozen?, h]
theorem Blk2.set0 (h : Blk2 w b x y) (u : Value) : Blk2 (w.setCell ⟨b, 0, none⟩ u) b u y := by
  unfold Blk2 at h ⊢; simp [World.setCell, Array.getElem?_modify, h]
theorem Blk2.set1 (h : Blk2 w b x y) (u : Value) : Blk2 (w.setCell ⟨b, 1, none⟩ u) b x u := by
  unfold Blk2 at h ⊢; simp [World.setCell, Array.getElem?_modify, h]
theorem Blk2.far (h : Blk2 w b x y) {p : Addr} (hp : b ≠ p.block) (u : Value) : Blk2 (w.setCell p u) b x y := (Below.heap_setCell w p u b hp).trans h
theorem Blk2.new (w : World) (x y : Value) : Blk2 (w.alloc (.cells #[x, y] 25)) w.heap.size x y := heap_alloc_new w _
theorem Blk2.grown (h : Blk2 w b x y) {row : Option Nat} (hg : w.grownBy w' row) (hr : row ≠ some b) : Blk2 w' b x y := (hg.block b h.lt (fun e => hr e.symm)).trans h
end

/-- the cells of transitions whose weights lie in these blocks. -/
def trCells (t : Tx.Tr) (g : Nat × Nat) : List Value := [.int .i64 t.label, .slice (some ⟨g.1, 0, none⟩) t.pre.length t.pre.length, .slice (some ⟨g.2, 0, none⟩) t.post.length t.post.length]
def tsCells (ts : List Tx.Tr) (gs : List (Nat × Nat)) : List Value := (ts.zip gs).flatMap fun p => trCells p.1 p.2
/-- a slice value that owns a row of transitions, each with rows of weights. -/
def Owns (w : World) (B : Nat) (v : Value) (ts : List Tx.Tr) : Prop :=
  ∃ gs : List (Nat × Nat), gs.length = ts.length ∧ w.ownsRow B 41 3 v ts.length (tsCells ts gs) ∧
    ∀ (i : Nat) (t : Tx.Tr) (g : Nat × Nat), ts[i]? = some t → gs[i]? = some g → RowInts w g.1 t.pre ∧ RowInts w g.2 t.post ∧ t.pre.length ≤ 16 ∧ t.post.length ≤ 16

theorem Owns.nil (w : World) (B : Nat) : Owns w B (.slice none 0 0) [] := ⟨[], rfl, World.ownsRow_nil _ _ _ _, fun i t g h => by simp at h⟩
theorem Owns.form {w : World} {B : Nat} {v : Value} {ts : List Tx.Tr} (h : Owns w B v ts) : ∃ A c, v = .slice A ts.length c := by
  obtain ⟨gs, hl, hown, _⟩ := h
  rcases hown.2 with ⟨rfl, h0⟩ | ⟨g, cap, cur, rfl, _⟩
  · exact ⟨none, 0, by rw [h0]⟩
  · exact ⟨_, cap, rfl⟩
theorem Owns.below {w w' : World} {B : Nat} {v : Value} {ts : List Tx.Tr} (h : Owns w B v ts) (hb : Below w.heap.size w w') : Owns w' B v ts := by
  obtain ⟨gs, hl, hown, hr⟩ := h
  exact ⟨gs, hl, owns_below hown hb, fun i t g h1 h2 => ⟨(hr i t g h1 h2).1.below hb, (hr i t g h1 h2).2.1.below hb, (hr i t g h1 h2).2.2⟩⟩
/-- the row's own block bears another type than what this block bears. -/
theorem own_ne {w : World} {B : Nat} {v : Value} {n b : Nat} {xs : List Value} {cs : Array Value} {T : TypeId} (hown : w.ownsRow B 41 3 v n xs) (hb : w.heap[b]? = some (.cells cs T (0, 0))) (hT : T ≠ 41) : v.ownBlock ≠ some b := by
  rcases hown.2 with ⟨rfl, _⟩ | ⟨g, cap, cur, rfl, _, hh, _⟩
  · simp [Value.ownBlock]
  · intro e
    simp only [Value.ownBlock, Option.some.injEq] at e
    subst e
    rw [hb] at hh
    simp only [Option.some.injEq, Obj.cells.injEq] at hh
    exact hT hh.2.1
theorem Owns.set {w : World} {B b : Nat} {x y : Value} {v : Value} {ts : List Tx.Tr} (h : Owns w B v ts) (hb : Blk2 w b x y) (o : Nat) (u : Value) : Owns (w.setCell ⟨b, o, none⟩ u) B v ts := by
  obtain ⟨gs, hl, hown, hr⟩ := h
  have hne := own_ne hown hb (by decide)
  have hri : ∀ {g : Nat} {xs : List Int}, RowInts w g xs → RowInts (w.setCell ⟨b, o, none⟩ u) g xs := fun {g xs} hg => hg.far (by
    intro e
    subst e
    unfold RowInts at hg
    unfold Blk2 at hb
    rw [hb] at hg
    simp at hg) u
  refine ⟨gs, hl, hown.kept (row := some b) ⟨rfl, rfl, rfl, by simp [World.setCell], fun k _ hk => Below.heap_setCell _ _ _ _ (fun e => hk (by simp [e]))⟩ (.inr hne), fun i t g h1 h2 => ⟨hri (hr i t g h1 h2).1, hri (hr i t g h1 h2).2.1, (hr i t g h1 h2).2.2⟩⟩

theorem tsCells_snoc {ts : List Tx.Tr} {gs : List (Nat × Nat)} (h : gs.length = ts.length) (t : Tx.Tr) (g : Nat × Nat) : tsCells (ts ++ [t]) (gs ++ [g]) = tsCells ts gs ++ trCells t g := by
  unfold tsCells
  rw [List.zip_append h.symm, List.flatMap_append]
  simp
theorem Owns.push {w w' : World} {B g1 g2 : Nat} {v v' : Value} {ts : List Tx.Tr} {gs : List (Nat × Nat)} {t : Tx.Tr} (hl : gs.length = ts.length) (hown : w.ownsRow B 41 3 v ts.length (tsCells ts gs))
    (hr : ∀ (i : Nat) (t : Tx.Tr) (g : Nat × Nat), ts[i]? = some t → gs[i]? = some g → RowInts w g.1 t.pre ∧ RowInts w g.2 t.post ∧ t.pre.length ≤ 16 ∧ t.post.length ≤ 16) (h1 : RowInts w g1 t.pre) (h2 : RowInts w g2 t.post) (h16 : t.pre.length ≤ 16 ∧ t.post.length ≤ 16)
    (hown' : w'.ownsRow B 41 3 v' (ts.length + 1) (tsCells ts gs ++ trCells t (g1, g2))) (hg : w.grownBy w' v.ownBlock) : Owns w' B v' (ts ++ [t]) := by
  have hri : ∀ {g : Nat} {xs : List Int}, RowInts w g xs → RowInts w' g xs := fun {g xs} hx => (hg.block g hx.lt (fun e => own_ne hown hx (by decide) e.symm)).trans hx
  refine ⟨gs ++ [(g1, g2)], by simp [hl], by rw [tsCells_snoc hl]; simpa using hown', fun i t' g h3 h4 => ?_⟩
  by_cases hi : i < ts.length
  · rw [List.getElem?_append_left hi] at h3
    rw [List.getElem?_append_left (by omega)] at h4
    have := hr i t' g h3 h4
    exact ⟨hri this.1, hri this.2.1, this.2.2⟩
  · have hie : i = ts.length := by
      have := (List.getElem?_eq_some_iff.1 h3).1
      simp at this; omega
    subst hie
    simp at h3
    rw [← hl] at h4
    simp at h4
    subst h3 h4
    exact ⟨hri h1, hri h2, h16⟩
theorem flat3 : ∀ (l : List (Tx.Tr × (Nat × Nat))) (k : Nat) (p : Tx.Tr × (Nat × Nat)), l[k]? = some p → ∀ j, j < 3 → (l.flatMap fun p => trCells p.1 p.2)[k * 3 + j]? = (trCells p.1 p.2)[j]?
  | [], k, p, h, _, _ => by simp at h
  | q :: l, 0, p, h, j, hj => by
    simp at h; subst h
    rw [List.flatMap_cons, List.getElem?_append_left (by simp [trCells]; omega)]
    simp
  | q :: l, k + 1, p, h, j, hj => by
    have ih := flat3 l k p (by simpa using h) j hj
    rw [List.flatMap_cons, List.getElem?_append_right (by simp [trCells]; omega)]
    rw [show (k + 1) * 3 + j - (trCells q.1 q.2).length = k * 3 + j by simp [trCells]; omega]
    exact ih
theorem Owns.at {w : World} {B : Nat} {A : Option Addr} {n c : Nat} {ts : List Tx.Tr} (h : Owns w B (.slice A n c) ts) : TrsAt w w.heap.size A n ts := by
  obtain ⟨gs, hl, hown, hr⟩ := h
  intro hn
  rcases hown.2 with ⟨h0, h1⟩ | ⟨g, cap, cur, h0, hB, hh, rest⟩
  · simp at h0; omega
  · simp only [Value.slice.injEq] at h0
    obtain ⟨rfl, rfl, rfl⟩ := h0
    refine ⟨_, rfl, (Array.getElem?_eq_some_iff.1 hh).1, fun k t ht => ?_⟩
    have hk : k < ts.length := (List.getElem?_eq_some_iff.1 ht).1
    obtain ⟨gg, hgg⟩ : ∃ gg, gs[k]? = some gg := ⟨_, List.getElem?_eq_getElem (by omega)⟩
    have hz : (ts.zip gs)[k]? = some (t, gg) := by rw [List.getElem?_zip_eq_some]; exact ⟨ht, hgg⟩
    have hx := hr k t gg ht hgg
    have cell : ∀ j, j < 3 → w.cell? ⟨g, k * 3 + j, none⟩ = (trCells t gg)[j]? := fun j hj => by
      rw [← flat3 _ k (t, gg) hz j hj]
      exact hown.cellAt (k * 3 + j) (by omega)
    have ea : ((⟨g, 0, none⟩ : Addr).add (k * 3)) = ⟨g, k * 3, none⟩ := by
      unfold Addr.add
      split
      · rename_i h0; rw [h0]
      · simp
    rw [ea]
    exact ⟨_, _, cell 0 (by omega), cell 1 (by omega), cell 2 (by omega), ⟨_, _, rfl, Nat.le_refl _, by omega, hx.1.reads⟩, ⟨_, _, rfl, Nat.le_refl _, by omega, hx.2.1.reads⟩⟩
end Go.Proofs.YtednlgeidgnogaaDoor
