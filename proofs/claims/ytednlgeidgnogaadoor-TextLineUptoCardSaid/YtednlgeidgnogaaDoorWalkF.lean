/-
  What the text chapter's reader asks of the library: the variables that lie in memory, and the callees' contracts at lists of bytes.
-/
import Derived.Test.YtednlgeidgnogaaDoorWalkE
import Derived.Lib.LaidU8
namespace Go.Proofs.YtednlgeidgnogaaDoor
open Go.RowKit

/-- the library's variables as they lie in memory. -/
structure Glob (w : World) : Prop where
  maxLen : ∃ m, w.cell? ⟨0, 0, none⟩ = some (.int .i64 m)
  syn : ∃ te pe, w.cell? ⟨1, 0, none⟩ = some (.iface te pe)
  rng : ∃ te pe, w.cell? ⟨2, 0, none⟩ = some (.iface te pe)
  space : Lib.TabIs Tryd.prog w "strings.asciiSpace" .u8 Lib.asciiSpaceTab
  white : Lib.WhiteTab 5 w

theorem gSpace : Tryd.prog.globalNamed "strings.asciiSpace" = some 3 := by kernel_rfl
theorem cell_lt {w : World} {a : Addr} {v : Value} (h : w.cell? a = some v) : a.block < w.heap.size := by
  rcases Nat.lt_or_ge a.block w.heap.size with h' | h'
  · exact h'
  · simp [World.cell?, Array.getElem?_eq_none h'] at h
theorem Glob.below {w w' : World} (h : Glob w) (hb : Below w.heap.size w w') : Glob w' := by
  obtain ⟨⟨m, h0⟩, ⟨t1, p1, h1⟩, ⟨t2, p2, h2⟩, h3, h4⟩ := h
  refine ⟨⟨m, (hb.cell (cell_lt h0)).trans h0⟩, ⟨t1, p1, (hb.cell (cell_lt h1)).trans h1⟩, ⟨t2, p2, (hb.cell (cell_lt h2)).trans h2⟩, ?_, WhiteTab_below h4 hb⟩
  have hlt : (3 : Nat) < w.heap.size := cell_lt (h3.cell gSpace 0 (by rw [Lib.asciiSpaceTab_length]; decide))
  unfold Lib.TabIs World.var? at h3 ⊢
  rw [gSpace] at h3 ⊢
  simp only [Option.bind_some] at h3 ⊢
  rw [hb.block 3 hlt]
  exact h3
theorem Glob.drewN {w : World} (h : Glob w) (n : Nat) : Glob (w.drewN n) := h.below ⟨rfl, rfl, rfl, Nat.le_refl _, fun _ _ => rfl⟩

theorem below_drewN (w : World) (n : Nat) : Below w.heap.size w (w.drewN n) := ⟨rfl, rfl, rfl, Nat.le_refl _, fun _ _ => rfl⟩

theorem ba_mk (s : ByteArray) : (⟨s.data.toList.toArray⟩ : ByteArray) = s := by cases s; simp

/-- strings.Cut at lists of bytes, the parts under names. -/
theorem cut_any {s sep a b : List UInt8} {two : Bool} (w : World) (hs : s.length < 4294967281) (hg : Glob w) (hc : Lib.cut s sep = (a, b, two)) :
    Calls Tryd.prog 38 #[.string ⟨s.toArray⟩, .string ⟨sep.toArray⟩] w fun e w' => e = .returned (.tuple #[.string ⟨a.toArray⟩, .string ⟨b.toArray⟩, .bool two]) ∧ Below w.heap.size w w' := by
  obtain ⟨m, hm⟩ := hg.maxLen
  refine (Tryd.strings_Cut ⟨s.toArray⟩ ⟨sep.toArray⟩ m w (by simpa [ByteArray.size] using hs) hm).mono ?_
  rintro e w' ⟨rfl, n, rfl⟩
  refine ⟨?_, below_drewN w n⟩
  simp [hc]

/-- an error. -/
def NoNum (e : Ending) : Prop := ∃ x N, e = .returned (.tuple #[.int .i64 x, .iface 81 (.pointer (some ⟨N, 0, none⟩))])
theorem atoi_ok {s : List UInt8} {v : Int} (w : World) (hs : s.length < 4294967281) (h : Lib.atoiAll s = .ok v) :
    Calls Tryd.prog 16 #[.string ⟨s.toArray⟩] w fun e w' => e = .returned (.tuple #[.int .i64 v, .nilIface]) ∧ Below w.heap.size w w' := by
  refine (Tryd.strconv_Atoi_ok ⟨s.toArray⟩ (by simp [ByteArray.size]; omega) v (by simpa using h) w).mono ?_
  rintro e w' ⟨rfl, hw⟩
  refine ⟨rfl, ?_⟩
  rcases hw with rfl | ⟨t, rfl⟩
  · exact Below.refl _ _
  · exact Lib.bytesWorld_below w 5 t
theorem atoi_no {s : List UInt8} (w : World) (hs : s.length < 4294967281) (hg : Glob w) (h : ∀ v, Lib.atoiAll s ≠ .ok v) :
    Calls Tryd.prog 16 #[.string ⟨s.toArray⟩] w fun e w' => NoNum e ∧ Below w.heap.size w w' := by
  obtain ⟨t1, p1, h1⟩ := hg.syn
  obtain ⟨t2, p2, h2⟩ := hg.rng
  rcases ha : Lib.atoiAll s with v | _ | _
  · exact absurd ha (h v)
  · refine (Any.strconv_Atoi_syntax Tryd.laysC172 ⟨s.toArray⟩ (by simp [ByteArray.size]; omega) (by simpa using ha) _ w h1 (.inr ⟨_, _, rfl⟩)).mono ?_
    rintro e w' ⟨N, rfl, _, _, hb⟩
    exact ⟨⟨_, _, rfl⟩, hb⟩
  · refine (Any.strconv_Atoi_range Tryd.laysC172 ⟨s.toArray⟩ (by simp [ByteArray.size]; omega) (by simpa using ha) _ w h2 (.inr ⟨_, _, rfl⟩)).mono ?_
    rintro e w' ⟨N, rfl, _, _, hb⟩
    exact ⟨⟨_, _, rfl⟩, hb⟩

/-- the strings of a slice, below a block. -/
def Strs (w : World) (A : Nat) (fs : List (List UInt8)) : Prop := A < w.heap.size ∧ ∀ j x, fs[j]? = some x → w.cell? ⟨A, j, none⟩ = some (.string ⟨x.toArray⟩)
theorem Strs.below {w w' : World} {A : Nat} {fs : List (List UInt8)} (h : Strs w A fs) (hb : Below w.heap.size w w') : Strs w' A fs :=
  ⟨Nat.lt_of_lt_of_le h.1 hb.size, fun j x hx => (hb.cell (p := ⟨A, j, none⟩) h.1).trans (h.2 j x hx)⟩
/-- what strings.Fields hands back. -/
def FieldsRes (w : World) (fs : List (List UInt8)) (e : Ending) (w' : World) : Prop := ∃ A, e = .returned (.slice (some ⟨A, 0, none⟩) fs.length fs.length) ∧ w.heap.size ≤ A ∧ Strs w' A fs ∧ Below w.heap.size w w'
theorem fields_any {s : List UInt8} (w : World) (hs : s.length < 4294967281) (hg : Glob w) :
    Calls Tryd.prog 56 #[.string ⟨s.toArray⟩] w (FieldsRes w (Lib.fieldsD s)) := by
  refine (Tryd.strings_Fields_any ⟨s.toArray⟩ w (by simpa [ByteArray.size] using hs) hg.space hg.white).mono ?_
  rintro e w' ⟨A, rfl, hA, hown, hb⟩
  simp only at hown ⊢
  refine ⟨A, rfl, hA, ⟨?_, fun j x hx => ?_⟩, hb⟩
  · rcases hown.2 with ⟨h, _⟩ | ⟨g, cap, cur, h, _, hh, _⟩
    · simp at h
    · simp only [Value.slice.injEq, Option.some.injEq, Addr.mk.injEq] at h
      rw [h.1.1]; exact (Array.getElem?_eq_some_iff.1 hh).1
  · have := hown.cells (g := A) rfl j (.string ⟨x.toArray⟩) (by simp [hx])
    by_cases h0 : j = 0
    · subst h0; simpa [Addr.add] using this
    · simpa [Addr.add, h0] using this
end Go.Proofs.YtednlgeidgnogaaDoor
