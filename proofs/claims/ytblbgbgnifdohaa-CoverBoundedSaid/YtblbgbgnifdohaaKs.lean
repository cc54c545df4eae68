/-
  The knots that the code owns: a row of knots, each with a row of numbers; what reads them; one knot more.
-/
import Derived.Test.YtblbgbgnifdohaaWalkG
import Derived.Test.YtblbgbgnifdohaaWalkH
namespace Go.Proofs.Ytblbgbgnifdohaa
open Go.RowKit

def knCells (k : Cv.Kn) (v : Value) : List Value := [.int .i64 k.up, .int .i64 k.tran, v]
def ksCells (ks : List Cv.Kn) (vs : List Value) : List Value := (ks.zip vs).flatMap fun p => knCells p.1 p.2
theorem flat3 : ∀ (l : List (Cv.Kn × Value)) (k : Nat) (p : Cv.Kn × Value), l[k]? = some p → ∀ j, j < 3 → (l.flatMap fun p => knCells p.1 p.2)[k * 3 + j]? = (knCells p.1 p.2)[j]?
  | [], k, p, h, _, _ => by simp at h
  | q :: l, 0, p, h, j, hj => by
    simp at h; subst h
    rw [List.flatMap_cons, List.getElem?_append_left (by simp [knCells]; omega)]
    simp
  | q :: l, k + 1, p, h, j, hj => by
    have ih := flat3 l k p (by simpa using h) j hj
    rw [List.flatMap_cons, List.getElem?_append_right (by simp [knCells]; omega)]
    rw [show (k + 1) * 3 + j - (knCells q.1 q.2).length = k * 3 + j by simp [knCells]; omega]
    exact ih
theorem ksCells_snoc {ks : List Cv.Kn} {vs : List Value} (h : vs.length = ks.length) (k : Cv.Kn) (v : Value) : ksCells (ks ++ [k]) (vs ++ [v]) = ksCells ks vs ++ knCells k v := by
  unfold ksCells
  rw [List.zip_append h.symm, List.flatMap_append]
  simp

/-- a slice value that owns a row of knots, each with a row of numbers. -/
structure KsOwn (w : World) (B : Nat) (kv : Value) (ks : List Cv.Kn) (vs : List Value) : Prop where
  len : vs.length = ks.length
  row : w.ownsRow B 33 3 kv ks.length (ksCells ks vs)
  marks : ∀ (i : Nat) (k : Cv.Kn) (v : Value), ks[i]? = some k → vs[i]? = some v → w.ownsRow B 3 1 v k.mark.length (k.mark.map (Value.int .i64))
section
variable {w w' : World} {B : Nat} {kv : Value} {ks : List Cv.Kn} {vs : List Value}
theorem own_below {e : TypeId} {s n : Nat} {v : Value} {xs : List Value} (h : w.ownsRow B e s v n xs) (hb : Below w.heap.size w w') : w'.ownsRow B e s v n xs := by
  obtain ⟨hl, h⟩ := h
  refine ⟨hl, ?_⟩
  rcases h with h | ⟨g, cap, cur, e1, hB, hh, rest⟩
  · exact .inl h
  · exact .inr ⟨g, cap, cur, e1, hB, (hb.block g (Array.getElem?_eq_some_iff.1 hh).1).trans hh, rest⟩
theorem own_kx {e : TypeId} {s n : Nat} {v : Value} {xs : List Value} {ex : List Nat} (h : w.ownsRow B e s v n xs) (hx : Kx w ex w') (hn : ∀ b, v.ownBlock = some b → b ∉ ex) : w'.ownsRow B e s v n xs := by
  obtain ⟨hl, h⟩ := h
  refine ⟨hl, ?_⟩
  rcases h with h | ⟨g, cap, cur, e1, hB, hh, rest⟩
  · exact .inl h
  · exact .inr ⟨g, cap, cur, e1, hB, (hx.block g (Array.getElem?_eq_some_iff.1 hh).1 (hn g (by rw [e1]; rfl))).trans hh, rest⟩
/-- a block of another type is not the row's. -/
theorem own_ne {e T : TypeId} {s n b : Nat} {v : Value} {xs : List Value} {cs : Array Value} {r : Nat × Nat} (h : w.ownsRow B e s v n xs) (hb : w.heap[b]? = some (.cells cs T r)) (hT : T ≠ e) : v.ownBlock ≠ some b := by
  rcases h.2 with ⟨rfl, _⟩ | ⟨g, cap, cur, rfl, _, hh, _⟩
  · simp [Value.ownBlock]
  · intro e1
    simp only [Value.ownBlock, Option.some.injEq] at e1
    subst e1
    rw [hb] at hh
    simp only [Option.some.injEq, Obj.cells.injEq] at hh
    exact hT hh.2.1
theorem KsOwn.below (h : KsOwn w B kv ks vs) (hb : Below w.heap.size w w') : KsOwn w' B kv ks vs :=
  ⟨h.len, own_below h.row hb, fun i k v a b => own_below (h.marks i k v a b) hb⟩
/-- a block of another make turns: the knots lie as they lay. -/
theorem KsOwn.set (h : KsOwn w B kv ks vs) {p : Addr} {cs : Array Value} {T : TypeId} {r : Nat × Nat} (hp : w.heap[p.block]? = some (.cells cs T r)) (h1 : T ≠ 33) (h2 : T ≠ 3) (u : Value) : KsOwn (w.setCell p u) B kv ks vs :=
  ⟨h.len, own_kx h.row ((Kx.refl w [p.block]).set (.inl (by simp)) u) (fun b hb hm => by simp at hm; subst hm; exact own_ne h.row hp h1 hb),
    fun i k v a b => own_kx (h.marks i k v a b) ((Kx.refl w [p.block]).set (.inl (by simp)) u) (fun b' hb hm => by simp at hm; subst hm; exact own_ne (h.marks i k v a b) hp h2 hb)⟩
theorem KsOwn.form (h : KsOwn w B kv ks vs) (hn : 0 < ks.length) : ∃ g cap, kv = .slice (some ⟨g, 0, none⟩) ks.length cap ∧ B ≤ g ∧ g < w.heap.size := by
  rcases h.row.2 with ⟨_, h0⟩ | ⟨g, cap, cur, rfl, hb, hh, _⟩
  · omega
  · exact ⟨g, cap, rfl, hb, (Array.getElem?_eq_some_iff.1 hh).1⟩
theorem ints_own {xs : List Int} {v : Value} (h : w.ownsRow B 3 1 v xs.length (xs.map (Value.int .i64))) : Ints w w.heap.size v xs :=
  MarkRow.ints (World.ownsRow.mono h (Nat.zero_le _))
/-- the cells of a knot. -/
theorem KsOwn.knot {g cap : Nat} (h : KsOwn w B (.slice (some ⟨g, 0, none⟩) ks.length cap) ks vs) {j : Nat} {k : Cv.Kn} {v : Value} (hk : ks[j]? = some k) (hv : vs[j]? = some v) :
    w.cell? ⟨g, j * 3, none⟩ = some (.int .i64 k.up) ∧ w.cell? ⟨g, j * 3 + 1, none⟩ = some (.int .i64 k.tran) ∧ w.cell? ⟨g, j * 3 + 2, none⟩ = some v ∧ Ints w w.heap.size v k.mark := by
  have hz : (ks.zip vs)[j]? = some (k, v) := by rw [List.getElem?_zip_eq_some]; exact ⟨hk, hv⟩
  have hj := (List.getElem?_eq_some_iff.1 hk).1
  have cell : ∀ i, i < 3 → w.cell? ⟨g, j * 3 + i, none⟩ = (knCells k v)[i]? := fun i hi => by
    have := h.row.cellAt (j * 3 + i) (by omega)
    rw [this]
    exact flat3 _ j (k, v) hz i hi
  exact ⟨cell 0 (by omega), cell 1 (by omega), cell 2 (by omega), ints_own (h.marks j k v hk hv)⟩
/-- the knots, read behind the place where the code keeps them. -/
theorem KsOwn.rd {g cap bt : Nat} (h : KsOwn w B (.slice (some ⟨g, 0, none⟩) ks.length cap) ks vs) (hg : g < w.heap.size) (hb : w.cell? ⟨bt, 2, none⟩ = some (.slice (some ⟨g, 0, none⟩) ks.length cap)) : KsRd w w.heap.size bt g cap ks vs :=
  ⟨cell_lt hb, hg, hb, h.len, fun _ _ _ a b => h.knot a b⟩
/-- one knot more. -/
theorem KsOwn.push (h : KsOwn w B kv ks vs) {kv' v : Value} {k : Cv.Kn} (hm : w.ownsRow B 3 1 v k.mark.length (k.mark.map (Value.int .i64))) (hown : w'.ownsRow B 33 3 kv' (ks.length + 1) (ksCells ks vs ++ knCells k v)) (hg : w.grownBy w' kv.ownBlock) : KsOwn w' B kv' (ks ++ [k]) (vs ++ [v]) := by
  have hkeep : ∀ {v' : Value} {n : Nat} {xs : List Value}, w.ownsRow B 3 1 v' n xs → w'.ownsRow B 3 1 v' n xs := fun {v' n xs} hr => by
    refine hr.kept hg ?_
    rcases h.row.2 with ⟨hkv, _⟩ | ⟨g, cap, cur, hkv, _, hh, _⟩
    · rw [hkv]
      cases hb : v'.ownBlock with
      | none => exact .inl rfl
      | some b => right; simp [Value.ownBlock]
    · right
      rw [hkv]
      exact own_ne hr hh (by decide)
  refine ⟨by simp [h.len], by rw [ksCells_snoc h.len]; simpa using hown, fun i k' v' a b => ?_⟩
  rcases Cv.get_snoc a with a | ⟨rfl, rfl⟩
  · rcases Cv.get_snoc b with b | ⟨rfl, rfl⟩
    · exact hkeep (h.marks i k' v' a b)
    · have := (List.getElem?_eq_some_iff.1 a).1
      rw [h.len] at this; omega
  · rw [← h.len] at b
    simp at b
    subst b
    exact hkeep hm
end
end Go.Proofs.Ytblbgbgnifdohaa
