/-
  Words for memory: a slice value that reads as a list of cells; of ints; a transition; a net. (The first section follows the guide's page extra-words.)
-/
import Derived.Test.YtednlgeidgnogaaDoorLaws
import Derived.Below
import Derived.Laws.OwnMore
import Derived.Deep.AppendLies
import Derived.Deep.Draws
import Derived.OwnWalk
import Derived.Lib.Hide
namespace Go.Proofs.YtednlgeidgnogaaDoor
open Go.RowKit

theorem block_of_add (a : Addr) (n : Nat) : (a.add n).block = a.block := by unfold Addr.add; split <;> rfl
theorem add_of_add (a : Addr) (i j : Nat) : (a.add i).add j = a.add (i + j) := by
  unfold Addr.add
  by_cases hi : i = 0 <;> by_cases hj : j = 0 <;> simp [hi, hj, Nat.add_assoc]

/-- the slice value's cells, all below block B. -/
def Reads (w : World) (B size : Nat) (A : Option Addr) (n : Nat) (xs : List Value) : Prop :=
  xs.length = n * size ∧ (0 < n → ∃ ad, A = some ad ∧ ad.block < B ∧ ∀ j u, xs[j]? = some u → w.cell? (ad.add j) = some u)

section
variable {w w' : World} {B B' size n : Nat} {A : Option Addr} {xs : List Value}
theorem Reads.none_ : Reads w B size A 0 [] := ⟨by simp, fun h => absurd h (by omega)⟩
theorem Reads.keep (h : Reads w B size A n xs) (hk : ∀ p : Addr, p.block < B → w'.cell? p = w.cell? p) : Reads w' B size A n xs :=
  ⟨h.1, fun hn => by
    obtain ⟨ad, e, hb, hc⟩ := h.2 hn
    exact ⟨ad, e, hb, fun j u hu => (hk _ (by rw [block_of_add]; exact hb)).trans (hc j u hu)⟩⟩
theorem Reads.more (h : Reads w B size A n xs) (hB : B ≤ B') : Reads w B' size A n xs :=
  ⟨h.1, fun hn => by
    obtain ⟨ad, e, hb, hc⟩ := h.2 hn
    exact ⟨ad, e, by omega, hc⟩⟩
theorem Reads.below (h : Reads w B size A n xs) (hb : Below B w w') : Reads w' B size A n xs := h.keep fun _ hp => hb.cell hp
end

/-- a slice value that reads as ints. -/
def Ints (w : World) (B : Nat) (v : Value) (xs : List Int) : Prop :=
  ∃ A c, v = .slice A xs.length c ∧ xs.length ≤ c ∧ c ≤ 9223372036854775807 ∧ Reads w B 1 A xs.length (xs.map (Value.int .i64))
theorem Ints.keep {w w' : World} {B : Nat} {v : Value} {xs : List Int} (h : Ints w B v xs) (hk : ∀ p : Addr, p.block < B → w'.cell? p = w.cell? p) : Ints w' B v xs := by
  obtain ⟨A, c, e, hc, hm, hr⟩ := h
  exact ⟨A, c, e, hc, hm, hr.keep hk⟩
theorem Ints.more {w : World} {B B' : Nat} {v : Value} {xs : List Int} (h : Ints w B v xs) (hB : B ≤ B') : Ints w B' v xs := by
  obtain ⟨A, c, e, hc, hm, hr⟩ := h
  exact ⟨A, c, e, hc, hm, hr.more hB⟩
theorem Ints.below {w w' : World} {B : Nat} {v : Value} {xs : List Int} (h : Ints w B v xs) (hb : Below B w w') : Ints w' B v xs := h.keep fun _ hp => hb.cell hp

/-- the cell of one int. -/
theorem Reads.int_at {w : World} {B n k : Nat} {A : Option Addr} {xs : List Int} (h : Reads w B 1 A n (xs.map (Value.int .i64))) (hk : k < n) :
    ∃ ad, A = some ad ∧ ad.block < B ∧ w.cell? (ad.add k) = some (.int .i64 (xs[k]?.getD 0)) := by
  obtain ⟨ad, e, hb, hc⟩ := h.2 (by omega)
  refine ⟨ad, e, hb, hc k _ ?_⟩
  have hl : k < xs.length := by have := h.1; simp at this; omega
  simp [List.getElem?_eq_getElem hl]

/-- one transition's three cells at an address. -/
def TranCells (w : World) (B : Nat) (p : Addr) (t : Tx.Tr) : Prop :=
  ∃ v1 v2, w.cell? p = some (.int .i64 t.label) ∧ w.cell? ⟨p.block, p.off + 1, none⟩ = some v1 ∧ w.cell? ⟨p.block, p.off + 2, none⟩ = some v2 ∧ Ints w B v1 t.pre ∧ Ints w B v2 t.post
theorem TranCells.keep {w w' : World} {B : Nat} {p : Addr} {t : Tx.Tr} (h : TranCells w B p t) (hp : p.block < B) (hk : ∀ p : Addr, p.block < B → w'.cell? p = w.cell? p) : TranCells w' B p t := by
  obtain ⟨v1, v2, h0, h1, h2, h3, h4⟩ := h
  exact ⟨v1, v2, (hk p hp).trans h0, (hk ⟨p.block, p.off + 1, none⟩ hp).trans h1, (hk ⟨p.block, p.off + 2, none⟩ hp).trans h2, h3.keep hk, h4.keep hk⟩

/-- a slice value that reads as transitions. -/
def Trans (w : World) (B : Nat) (v : Value) (ts : List Tx.Tr) : Prop :=
  ∃ A c, v = .slice A ts.length c ∧ ts.length ≤ c ∧ (0 < ts.length → ∃ ad, A = some ad ∧ ad.block < B ∧ ∀ k t, ts[k]? = some t → TranCells w B (ad.add (k * 3)) t)
theorem Trans.keep {w w' : World} {B : Nat} {v : Value} {ts : List Tx.Tr} (h : Trans w B v ts) (hk : ∀ p : Addr, p.block < B → w'.cell? p = w.cell? p) : Trans w' B v ts := by
  obtain ⟨A, c, e, hc, hr⟩ := h
  refine ⟨A, c, e, hc, fun hn => ?_⟩
  obtain ⟨ad, e, hb, hx⟩ := hr hn
  exact ⟨ad, e, hb, fun k t ht => (hx k t ht).keep (by rw [block_of_add]; exact hb) hk⟩
theorem Trans.below {w w' : World} {B : Nat} {v : Value} {ts : List Tx.Tr} (h : Trans w B v ts) (hb : Below B w w') : Trans w' B v ts := h.keep fun _ hp => hb.cell hp

end Go.Proofs.YtednlgeidgnogaaDoor
