/-
  The walk of alive5: the closed fact of the chapter holds.
-/
import Derived.Test.YtblbgbgnifdohaaWalkP
namespace Go.Proofs.Ytblbgbgnifdohaa
open Go.RowKit Go.Maps

def t5 : Tx.Tr := ⟨0, [1, 0], [1, 1]⟩
def ks5 : List Cv.Kn := [⟨-1, -1, [1, 0]⟩, ⟨0, 0, [1, -1]⟩, ⟨1, 0, [1, -1]⟩]
theorem tree5 : Cv.treeV ⟨2, [t5]⟩ [1, 0] 9 = some ks5 := by rfl
theorem fit5 : Cv.fitV ⟨2, [t5]⟩ [1, 0] = true := by decide
theorem lim5a : Cv.limitV ks5 1 = -1 := by decide
theorem lim5b : Cv.limitV ks5 0 = 1 := by decide

structure A5 (W : World) (b : Nat) : Prop where
  h0 : W.heap[b]? = some (.cells #[.int .i64 1, .int .i64 0] 3 (0, 0))
  h1 : W.heap[b + 1]? = some (.cells #[.int .i64 1, .int .i64 1] 3 (0, 0))
  h2 : W.heap[b + 1 + 1]? = some (.cells #[.int .i64 0, .slice (some ⟨b, 0, none⟩) 2 2, .slice (some ⟨b + 1, 0, none⟩) 2 2] 48 (0, 0))
  h3 : W.heap[b + 1 + 1 + 1]? = some (.cells #[.int .i64 2, .slice (some ⟨b + 1 + 1, 0, none⟩) 1 1] 24 (0, 0))
theorem A5.lt {W : World} {b : Nat} (h : A5 W b) : b + 3 < W.heap.size := (Array.getElem?_eq_some_iff.1 h.h3).1
theorem A5.below {W W' : World} {b : Nat} (h : A5 W b) (hb : Below W.heap.size W W') : A5 W' b := by
  have := h.lt
  exact ⟨(hb.block _ (by omega)).trans h.h0, (hb.block _ (by omega)).trans h.h1, (hb.block _ (by omega)).trans h.h2, (hb.block _ (by omega)).trans h.h3⟩
theorem reads2 {W : World} {B b : Nat} {x y : Int} (h : W.heap[b]? = some (.cells #[.int .i64 x, .int .i64 y] 3 (0, 0))) (hb : b < B) : Reads W B 1 (some ⟨b, 0, none⟩) 2 ([x, y].map (Value.int .i64)) := by
  refine ⟨rfl, fun _ => ⟨_, rfl, hb, fun j u hu => ?_⟩⟩
  rw [add_lit', Nat.zero_add]
  simp only [World.cell?, h]
  have : j < 2 := by have := (List.getElem?_eq_some_iff.1 hu).1; simpa using this
  match j, this with
  | 0, _ => simpa using hu
  | 1, _ => simpa using hu
theorem A5.trs {W : World} {b : Nat} (h : A5 W b) : TrsAt W W.heap.size (some ⟨b + 1 + 1, 0, none⟩) 1 [t5] := by
  have hlt := h.lt
  intro _
  refine ⟨_, rfl, by dsimp only; omega, fun k t hk => ?_⟩
  have hk0 : k = 0 := by have := (List.getElem?_eq_some_iff.1 hk).1; simpa using this
  subst hk0
  have ht : t5 = t := by simpa using hk
  subst ht
  have h2 := h.h2
  refine ⟨.slice (some ⟨b, 0, none⟩) 2 2, .slice (some ⟨b + 1, 0, none⟩) 2 2, ?_, ?_, ?_, ⟨_, 2, rfl, Nat.le_refl _, by decide, reads2 h.h0 (by omega)⟩, ⟨_, 2, rfl, Nat.le_refl _, by decide, reads2 h.h1 (by omega)⟩⟩
  · rw [add_lit']; simp [World.cell?, h2, t5]
  · rw [add_lit']; simp [World.cell?, h2]
  · rw [add_lit']; simp [World.cell?, h2]

set_option maxRecDepth 100000 in
set_option maxHeartbeats 2000000 in
theorem alive_any (w : World) : Calls Try.prog 4 #[] w fun e w' => e = .returned (.bool true) ∧ Below w.heap.size w w' := by
  obtain ⟨W0, hW0⟩ : ∃ W0, ((((w.alloc (.cells #[.int .i64 1, .int .i64 0] 3)).alloc (.cells #[.int .i64 1, .int .i64 1] 3)).alloc (.cells #[.int .i64 0, .slice (some ⟨w.heap.size, 0, none⟩) 2 2, .slice (some ⟨w.heap.size + 1, 0, none⟩) 2 2] 48)).alloc (.cells #[.int .i64 2, .slice (some ⟨w.heap.size + 1 + 1, 0, none⟩) 1 1] 24)) = W0 := ⟨_, rfl⟩
  have HB0 : Hid (Below w.heap.size w W0) := Lib.hid (hW0 ▸ ((((Below.refl _ w).alloc (Nat.le_refl _) _).alloc (by simp) _).alloc (by simp; omega) _).alloc (by simp; omega) _)
  have HA0 : Hid (A5 W0 w.heap.size) := Lib.hid (by
    rw [← hW0]
    refine ⟨?_, ?_, ?_, ?_⟩
    · rw [Below.heap_alloc _ _ _ (by simp; omega), Below.heap_alloc _ _ _ (by simp; omega), Below.heap_alloc _ _ _ (by simp)]; exact heap_alloc_new _ _
    · rw [Below.heap_alloc _ _ _ (by simp), Below.heap_alloc _ _ _ (by simp)]
      have := heap_alloc_new (w.alloc (.cells #[.int .i64 1, .int .i64 0] 3)) (.cells #[.int .i64 1, .int .i64 1] 3)
      rw [World.size_alloc] at this; exact this
    · rw [Below.heap_alloc _ _ _ (by simp)]
      have := heap_alloc_new ((w.alloc (.cells #[.int .i64 1, .int .i64 0] 3)).alloc (.cells #[.int .i64 1, .int .i64 1] 3)) (.cells #[.int .i64 0, .slice (some ⟨w.heap.size, 0, none⟩) 2 2, .slice (some ⟨w.heap.size + 1, 0, none⟩) 2 2] 48)
      rw [World.size_alloc, World.size_alloc] at this; exact this
    · have := heap_alloc_new (((w.alloc (.cells #[.int .i64 1, .int .i64 0] 3)).alloc (.cells #[.int .i64 1, .int .i64 1] 3)).alloc (.cells #[.int .i64 0, .slice (some ⟨w.heap.size, 0, none⟩) 2 2, .slice (some ⟨w.heap.size + 1, 0, none⟩) 2 2] 48)) (.cells #[.int .i64 2, .slice (some ⟨w.heap.size + 1 + 1, 0, none⟩) 1 1] 24)
      rw [World.size_alloc, World.size_alloc, World.size_alloc] at this; exact this)
  have HW0 := Lib.hid hW0
  clear hW0
  go_enter Try.func4, Try.ntmps4
  go_upto_region 2 with (fail)
  rw [HW0.out]
  have step : ∀ W, A5 W w.heap.size → Hid (A5 (W.alloc (.cells #[.int .i64 1, .int .i64 0] 3)) w.heap.size ∧ Reads (W.alloc (.cells #[.int .i64 1, .int .i64 0] 3)) (W.alloc (.cells #[.int .i64 1, .int .i64 0] 3)).heap.size 1 (some ⟨W.heap.size, 0, none⟩) 2 ([1, 0].map (Value.int .i64))) := fun W h => Lib.hid ⟨h.below ((Below.refl _ W).alloc (Nat.le_refl _) _), reads2 (heap_alloc_new W _) (by simp)⟩
  have S0 := step W0 HA0.out
  have a3 := HA0.out.h3
  have c0 : W0.cell? ⟨w.heap.size + 1 + 1 + 1, 0, none⟩ = some (.int .i64 2) := by simp [World.cell?, a3]
  have c1 : W0.cell? ⟨w.heap.size + 1 + 1 + 1, 1, none⟩ = some (.slice (some ⟨w.heap.size + 1 + 1, 0, none⟩) 1 1) := by simp [World.cell?, a3]
  have HT := Lib.hid (tree_any 2 (some ⟨w.heap.size + 1 + 1, 0, none⟩) 1 1 [t5] (some ⟨W0.heap.size, 0, none⟩) 2 [1, 0] 9 (W0.alloc (.cells #[.int .i64 1, .int .i64 0] 3)) rfl S0.out.1.trs S0.out.2 fit5 (by omega) (by omega))
  rw [tree5] at HT
  clear a3
  go_wp2_with fail
  refine HT.out.mono ?_
  rintro e W1 ⟨hb1, kv, vs, rfl, hown, hpos⟩
  have hz0 := HB0.out.size
  have HB1 : Hid (Below w.heap.size w W1) := Lib.hid ((HB0.out.alloc hz0 _).trans (hb1.mono (by simp; omega)))
  have HA1 := Lib.hid (S0.out.1.below hb1)
  have HOWN := Lib.hid hown
  have a3 := HA1.out.h3
  have c0 : W1.cell? ⟨w.heap.size + 1 + 1 + 1, 0, none⟩ = some (.int .i64 2) := by simp [World.cell?, a3]
  have c1 : W1.cell? ⟨w.heap.size + 1 + 1 + 1, 1, none⟩ = some (.slice (some ⟨w.heap.size + 1 + 1, 0, none⟩) 1 1) := by simp [World.cell?, a3]
  have S1 := step W1 HA1.out
  obtain ⟨g, cap, rfl, _, hg⟩ := hown.form hpos
  have hlen : ∀ k ∈ ks5, 1 < k.mark.length := by decide
  have HL1 := Lib.hid (limit_any 2 (some ⟨w.heap.size + 1 + 1, 0, none⟩) 1 1 [t5] (some ⟨W1.heap.size, 0, none⟩) 2 [1, 0] 1 9 (W1.alloc (.cells #[.int .i64 1, .int .i64 0] 3)) rfl S1.out.1.trs S1.out.2 fit5 (by omega) (by omega) (by decide) ks5 tree5 (by decide) hlen)
  rw [lim5a] at HL1
  have HLEN := Lib.hid hlen
  clear hb1 hown a3 hlen
  go_wp2_with fail
  refine HL1.out.mono ?_
  rintro e W2 ⟨rfl, hb2⟩
  have hz1 := HB1.out.size
  have HB2 : Hid (Below w.heap.size w W2) := Lib.hid ((HB1.out.alloc hz1 _).trans (hb2.mono (by simp; omega)))
  have HA2 := Lib.hid (S1.out.1.below hb2)
  have HO2 := Lib.hid ((HOWN.out.below ((Below.refl _ W1).alloc (Nat.le_refl _) _)).below hb2)
  have a3 := HA2.out.h3
  have d0 : W2.cell? ⟨w.heap.size + 1 + 1 + 1, 0, none⟩ = some (.int .i64 2) := by simp [World.cell?, a3]
  have d1 : W2.cell? ⟨w.heap.size + 1 + 1 + 1, 1, none⟩ = some (.slice (some ⟨w.heap.size + 1 + 1, 0, none⟩) 1 1) := by simp [World.cell?, a3]
  have S2 := step W2 HA2.out
  have HL0 := Lib.hid (limit_any 2 (some ⟨w.heap.size + 1 + 1, 0, none⟩) 1 1 [t5] (some ⟨W2.heap.size, 0, none⟩) 2 [1, 0] 0 9 (W2.alloc (.cells #[.int .i64 1, .int .i64 0] 3)) rfl S2.out.1.trs S2.out.2 fit5 (by omega) (by omega) (by decide) ks5 tree5 (by decide) (fun k hk => Nat.lt_trans Nat.zero_lt_one (HLEN.out k hk)))
  rw [lim5b] at HL0
  clear hb2 a3 c0 c1
  go_wp2_with fail
  refine HL0.out.mono ?_
  rintro e W3 ⟨rfl, hb3⟩
  have hz2 := HB2.out.size
  have HB3 : Hid (Below w.heap.size w W3) := Lib.hid ((HB2.out.alloc hz2 _).trans (hb3.mono (by simp; omega)))
  have hO3 := (HO2.out.below ((Below.refl _ W2).alloc (Nat.le_refl _) _)).below hb3
  obtain ⟨v1, hv1⟩ : ∃ v, vs[1]? = some v := ⟨_, List.getElem?_eq_getElem (by rw [HOWN.out.len]; decide)⟩
  obtain ⟨_, _, e2, A1, c1, rfl, _, _, hr1⟩ := hO3.knot (j := 1) (k := ⟨0, 0, [1, -1]⟩) rfl hv1
  have hz3 := HB3.out.size
  have HEQ := Lib.hid (equal_any A1 (some ⟨W3.heap.size, 0, none⟩) 2 2 c1 2 [1, -1] [1, -1] W3.heap.size (W3.heap.size + 1) (W3.alloc (.cells #[.int .i64 1, .int .i64 (-1)] 3)) (by omega) (by omega) rfl rfl (hr1.keep (fun q hq => World.cell?_alloc_lt W3 _ q hq)) (reads2 (heap_alloc_new W3 _) (by omega)))
  have hg3 : g < W3.heap.size := by rcases hO3.row.2 with ⟨h, _⟩ | ⟨g', _, _, h, _, hh, _⟩; cases h; (simp only [Value.slice.injEq, Option.some.injEq, Addr.mk.injEq, true_and, and_true] at h; obtain ⟨rfl, _⟩ := h; exact (Array.getElem?_eq_some_iff.1 hh).1)
  have e2' : W3.cell? ⟨g, 5, none⟩ = some (.slice A1 2 c1) := e2
  have HB4 := Lib.hid (HB3.out.alloc hz3 (.cells #[.int .i64 1, .int .i64 (-1)] 3))
  have hkl : Hid (ks5.length = 3) := Lib.hid rfl
  clear hb3 hO3 hr1 hv1 e2 d0 d1 S0 S1 S2 step
  rw [hkl.out]
  go_wp2_with (go_at_call 13; refine HEQ.out.mono ?_; rintro e w' ⟨rfl, q, rfl⟩)
  go_ret
  exact ⟨rfl, HB4.out.trans ((below_drewN _ q).mono HB4.out.size)⟩
end Go.Proofs.Ytblbgbgnifdohaa
