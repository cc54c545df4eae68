/-
  Words for memory: a slice value that reads as a list of cells; of ints; a transition. (The first section follows the guide's page extra-words.)
-/
import Derived.Test.YtblbgbgnifdohaaLaw
import Derived.Below
import Derived.Laws.OwnMore
import Derived.Deep.AppendLies
import Derived.Deep.Draws
import Derived.OwnWalk
import Derived.Lib.Hide
import Derived.Test.YtblbgbgnifdohaaFence
namespace Go.Proofs.Ytblbgbgnifdohaa
open Go.RowKit

theorem block_of_add (a : Addr) (n : Nat) : (a.add n).block = a.block := by unfold Addr.add; split <;> rfl
theorem add_of_add (a : Addr) (i j : Nat) : (a.add i).add j = a.add (i + j) := by
  unfold Addr.add
  by_cases hi : i = 0 <;> by_cases hj : j = 0 <;> simp [hi, hj, Nat.add_assoc]

/-- the slice value's cells, all below block B. -/
def Reads (w : World) (B size : Nat) (A : Option Addr) (n : Nat) (xs : List Value) : Prop :=
  xs.length = n * size ∧ (0 < n → ∃ ad, A = some ad ∧ ad.block < B ∧ ∀ j u, xs[j]? = some u → w.cell? (ad.add j) = some u)

section
variable {w w' : World} {B B' size n : Nat} {A : Option Addr} {xs : List Value}
theorem Reads.none_ : Reads w B size A 0 [] := ⟨by simp, fun h => absurd h (by omega)⟩
theorem Reads.keep (h : Reads w B size A n xs) (hk : ∀ p : Addr, p.block < B → w'.cell? p = w.cell? p) : Reads w' B size A n xs :=
  ⟨h.1, fun hn => by
    obtain ⟨ad, e, hb, hc⟩ := h.2 hn
    exact ⟨ad, e, hb, fun j u hu => (hk _ (by rw [block_of_add]; exact hb)).trans (hc j u hu)⟩⟩
theorem Reads.more (h : Reads w B size A n xs) (hB : B ≤ B') : Reads w B' size A n xs :=
  ⟨h.1, fun hn => by
    obtain ⟨ad, e, hb, hc⟩ := h.2 hn
    exact ⟨ad, e, by omega, hc⟩⟩
theorem Reads.below (h : Reads w B size A n xs) (hb : Below B w w') : Reads w' B size A n xs := h.keep fun _ hp => hb.cell hp
end

/-- a slice value that reads as ints. -/
def Ints (w : World) (B : Nat) (v : Value) (xs : List Int) : Prop :=
  ∃ A c, v = .slice A xs.length c ∧ xs.length ≤ c ∧ c ≤ 9223372036854775807 ∧ Reads w B 1 A xs.length (xs.map (Value.int .i64))
theorem Ints.keep {w w' : World} {B : Nat} {v : Value} {xs : List Int} (h : Ints w B v xs) (hk : ∀ p : Addr, p.block < B → w'.cell? p = w.cell? p) : Ints w' B v xs := by
  obtain ⟨A, c, e, hc, hm, hr⟩ := h
  exact ⟨A, c, e, hc, hm, hr.keep hk⟩
theorem Ints.more {w : World} {B B' : Nat} {v : Value} {xs : List Int} (h : Ints w B v xs) (hB : B ≤ B') : Ints w B' v xs := by
  obtain ⟨A, c, e, hc, hm, hr⟩ := h
  exact ⟨A, c, e, hc, hm, hr.more hB⟩
theorem Ints.below {w w' : World} {B : Nat} {v : Value} {xs : List Int} (h : Ints w B v xs) (hb : Below B w w') : Ints w' B v xs := h.keep fun _ hp => hb.cell hp

/-- the cell of one int. -/
theorem Reads.int_at {w : World} {B n k : Nat} {A : Option Addr} {xs : List Int} (h : Reads w B 1 A n (xs.map (Value.int .i64))) (hk : k < n) :
    ∃ ad, A = some ad ∧ ad.block < B ∧ w.cell? (ad.add k) = some (.int .i64 (xs[k]?.getD 0)) := by
  obtain ⟨ad, e, hb, hc⟩ := h.2 (by omega)
  refine ⟨ad, e, hb, hc k _ ?_⟩
  have hl : k < xs.length := by have := h.1; simp at this; omega
  simp [List.getElem?_eq_getElem hl]

/-- one transition's three cells at an address. -/
def TranCells (w : World) (B : Nat) (p : Addr) (t : Tx.Tr) : Prop :=
  ∃ v1 v2, w.cell? p = some (.int .i64 t.label) ∧ w.cell? ⟨p.block, p.off + 1, none⟩ = some v1 ∧ w.cell? ⟨p.block, p.off + 2, none⟩ = some v2 ∧ Ints w B v1 t.pre ∧ Ints w B v2 t.post
theorem TranCells.keep {w w' : World} {B : Nat} {p : Addr} {t : Tx.Tr} (h : TranCells w B p t) (hp : p.block < B) (hk : ∀ p : Addr, p.block < B → w'.cell? p = w.cell? p) : TranCells w' B p t := by
  obtain ⟨v1, v2, h0, h1, h2, h3, h4⟩ := h
  exact ⟨v1, v2, (hk p hp).trans h0, (hk ⟨p.block, p.off + 1, none⟩ hp).trans h1, (hk ⟨p.block, p.off + 2, none⟩ hp).trans h2, h3.keep hk, h4.keep hk⟩

/-- a slice value that reads as transitions. -/
def Trans (w : World) (B : Nat) (v : Value) (ts : List Tx.Tr) : Prop :=
  ∃ A c, v = .slice A ts.length c ∧ ts.length ≤ c ∧ (0 < ts.length → ∃ ad, A = some ad ∧ ad.block < B ∧ ∀ k t, ts[k]? = some t → TranCells w B (ad.add (k * 3)) t)
theorem Trans.keep {w w' : World} {B : Nat} {v : Value} {ts : List Tx.Tr} (h : Trans w B v ts) (hk : ∀ p : Addr, p.block < B → w'.cell? p = w.cell? p) : Trans w' B v ts := by
  obtain ⟨A, c, e, hc, hr⟩ := h
  refine ⟨A, c, e, hc, fun hn => ?_⟩
  obtain ⟨ad, e, hb, hx⟩ := hr hn
  exact ⟨ad, e, hb, fun k t ht => (hx k t ht).keep (by rw [block_of_add]; exact hb) hk⟩
theorem Trans.below {w w' : World} {B : Nat} {v : Value} {ts : List Tx.Tr} (h : Trans w B v ts) (hb : Below B w w') : Trans w' B v ts := h.keep fun _ hp => hb.cell hp


theorem cell_lt {w : World} {p : Addr} {v : Value} (h : w.cell? p = some v) : p.block < w.heap.size := by
  unfold World.cell? at h
  cases hb : w.heap[p.block]? with
  | none => rw [hb] at h; simp at h
  | some o => exact (Array.getElem?_eq_some_iff.1 hb).1

/-- the world w' is as w was but for these blocks. -/
structure Kx (w : World) (ex : List Nat) (w' : World) : Prop where
  os : w'.os = w.os
  tape : w'.tape = w.tape
  output : w'.output = w.output
  size : w.heap.size ≤ w'.heap.size
  block : ∀ k, k < w.heap.size → k ∉ ex → w'.heap[k]? = w.heap[k]?
section
variable {w w' a b c : World} {ex : List Nat}
theorem Kx.refl (w : World) (ex : List Nat) : Kx w ex w := ⟨rfl, rfl, rfl, Nat.le_refl _, fun _ _ _ => rfl⟩
theorem Kx.set (h : Kx w ex w') {p : Addr} (hp : p.block ∈ ex ∨ w.heap.size ≤ p.block) (u : Value) : Kx w ex (w'.setCell p u) :=
  ⟨h.os, h.tape, h.output, by simpa using h.size, fun k hk hn => (Below.heap_setCell w' p u k (fun e => by subst e; rcases hp with hp | hp; exact hn hp; omega)).trans (h.block k hk hn)⟩
theorem Kx.drew (h : Kx w ex w') (n : Nat) : Kx w ex (w'.drewN n) := ⟨h.os, h.tape, h.output, h.size, h.block⟩
theorem Kx.put (h : Kx w ex w') {l : Nat} (hl : l ∈ ex ∨ w.heap.size ≤ l) (o : Obj) : Kx w ex (w'.putObj l o) :=
  ⟨h.os, h.tape, h.output, by simpa [World.putObj] using h.size, fun k hk hn => (World.putObj_heap_other (fun e => by subst e; rcases hl with hl | hl; exact hn hl; omega)).trans (h.block k hk hn)⟩
theorem Kx.frozen (h : Kx w ex w') {p : Addr} (hp : p.block ∉ ex) (hb : p.block < w.heap.size) : w'.frozen? p = w.frozen? p := World.frozen?_of_block (w := w) (h.block _ hb hp)
theorem cell_put {W : World} {l : Nat} {p : Addr} (hne : p.block ≠ l) (o : Obj) : (W.putObj l o).cell? p = W.cell? p := World.cell?_of_block (World.putObj_heap_other (fun e => hne e))
theorem frozen_put {W : World} {l : Nat} {p : Addr} (hne : p.block ≠ l) (o : Obj) : (W.putObj l o).frozen? p = W.frozen? p := World.frozen?_of_block (w := W) (World.putObj_heap_other (fun e => hne e))
theorem heap_set_other {W : World} {k : Nat} {p : Addr} (hne : k ≠ p.block) (u : Value) : (W.setCell p u).heap[k]? = W.heap[k]? := Below.heap_setCell W p u k hne
theorem Kx.alloc (h : Kx w ex w') (o : Obj) : Kx w ex (w'.alloc o) :=
  ⟨h.os, h.tape, h.output, by have := h.size; simp; omega, fun k hk hn => (Below.heap_alloc w' o k (by have := h.size; omega)).trans (h.block k hk hn)⟩
theorem Kx.trans (h : Kx a ex b) (k : Kx b ex c) : Kx a ex c :=
  ⟨k.os.trans h.os, k.tape.trans h.tape, k.output.trans h.output, Nat.le_trans h.size k.size, fun i hi hn => (k.block i (Nat.lt_of_lt_of_le hi h.size) hn).trans (h.block i hi hn)⟩
theorem Kx.then (h : Kx a ex b) (k : Below b.heap.size b c) : Kx a ex c :=
  ⟨k.os.trans h.os, k.tape.trans h.tape, k.output.trans h.output, Nat.le_trans h.size k.size, fun i hi hn => (k.block i (Nat.lt_of_lt_of_le hi h.size)).trans (h.block i hi hn)⟩
theorem Kx.below {B : Nat} (h : Kx w ex w') (hB : ∀ k ∈ ex, B ≤ k) (hs : B ≤ w.heap.size) : Below B w w' :=
  ⟨h.os, h.tape, h.output, h.size, fun k hk => h.block k (by omega) (fun hm => by have := hB k hm; omega)⟩
theorem Kx.of_below (h : Below w.heap.size w w') (ex : List Nat) : Kx w ex w' := ⟨h.os, h.tape, h.output, h.size, fun k hk _ => h.block k hk⟩
theorem Kx.cell (h : Kx w ex w') {p : Addr} {v : Value} (hp : p.block ∉ ex) (hc : w.cell? p = some v) : w'.cell? p = some v :=
  (World.cell?_of_block (h.block _ (cell_lt hc) hp)).trans hc
theorem Kx.more {ex' : List Nat} (h : Kx w ex w') (hs : ∀ k ∈ ex, k ∈ ex') : Kx w ex' w' := ⟨h.os, h.tape, h.output, h.size, fun k hk hn => h.block k hk (fun hm => hn (hs k hm))⟩
end

/-- a mark of the code's own: a row of ints that nothing else holds. -/
def MarkRow (w : World) (v : Value) (xs : List Int) : Prop := w.ownsRow 0 3 1 v xs.length (xs.map (Value.int .i64))
theorem MarkRow.ints {w : World} {v : Value} {xs : List Int} (h : MarkRow w v xs) : Ints w w.heap.size v xs := by
  obtain ⟨hl, h⟩ := h
  rcases h with ⟨rfl, h0⟩ | ⟨g, cap, cur, rfl, _, hh, hc, hm, hs, ht⟩
  · obtain rfl : xs = [] := List.length_eq_zero_iff.1 h0
    exact ⟨none, 0, rfl, Nat.le_refl _, by omega, Reads.none_⟩
  · refine ⟨some ⟨g, 0, none⟩, cap, rfl, hc, by unfold maxLen at hm; omega, by simp, fun _ => ⟨_, rfl, (Array.getElem?_eq_some_iff.1 hh).1, fun j u hu => ?_⟩⟩
    rw [← ht] at hu
    have hj : j < xs.length * 1 := by have := (List.getElem?_eq_some_iff.1 hu).1; simp at this; omega
    rw [List.getElem?_take_of_lt hj] at hu
    have ea : ((⟨g, 0, none⟩ : Addr).add j) = ⟨g, j, none⟩ := by
      unfold Addr.add
      split
      · rename_i h0; rw [h0]
      · simp
    rw [ea]
    simp only [World.cell?, hh]
    simpa using hu
theorem MarkRow.below {w w' : World} {v : Value} {xs : List Int} (h : MarkRow w v xs) (hb : Below w.heap.size w w') : MarkRow w' v xs := by
  obtain ⟨hl, h⟩ := h
  refine ⟨hl, ?_⟩
  rcases h with h | ⟨g, cap, cur, e, hB, hh, rest⟩
  · exact .inl h
  · exact .inr ⟨g, cap, cur, e, hB, (hb.block g (Array.getElem?_eq_some_iff.1 hh).1).trans hh, rest⟩
theorem MarkRow.kx {w w' : World} {v : Value} {xs : List Int} {ex : List Nat} (h : MarkRow w v xs) (hb : Kx w ex w') (hn : ∀ b, v.ownBlock = some b → b ∉ ex) : MarkRow w' v xs := by
  obtain ⟨hl, h⟩ := h
  refine ⟨hl, ?_⟩
  rcases h with h | ⟨g, cap, cur, e, hB, hh, rest⟩
  · exact .inl h
  · exact .inr ⟨g, cap, cur, e, hB, (hb.block g (Array.getElem?_eq_some_iff.1 hh).1 (hn g (by rw [e]; rfl))).trans hh, rest⟩
/-- a block of another type is not the row's. -/
theorem MarkRow.ne {w : World} {v : Value} {xs : List Int} {b : Nat} {cs : Array Value} {T : TypeId} {r : Nat × Nat} (h : MarkRow w v xs) (hb : w.heap[b]? = some (.cells cs T r)) (hT : T ≠ 3) : v.ownBlock ≠ some b := by
  rcases h.2 with ⟨rfl, _⟩ | ⟨g, cap, cur, rfl, _, hh, _⟩
  · simp [Value.ownBlock]
  · intro e
    simp only [Value.ownBlock, Option.some.injEq] at e
    subst e
    rw [hb] at hh
    simp only [Option.some.injEq, Obj.cells.injEq] at hh
    exact hT hh.2.1
end Go.Proofs.Ytblbgbgnifdohaa
