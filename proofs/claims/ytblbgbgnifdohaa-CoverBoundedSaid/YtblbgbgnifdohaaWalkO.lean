/-
  The walks of reach.search and reach.Graph.
-/
import Derived.Test.YtblbgbgnifdohaaWalkN
namespace Go.Proofs.Ytblbgbgnifdohaa
open Go.RowKit Go.Maps

/-- the marks that Graph hands back. -/
def MarksAt (W : World) (B : Nat) (mv : Value) (ms : List (List Int)) : Prop :=
  ∃ vs, W.ownsRow B 25 1 mv ms.length vs ∧ ∀ (i : Nat) (m : List Int) (v : Value), ms[i]? = some m → vs[i]? = some v → W.ownsRow B 3 1 v m.length (m.map (Value.int .i64))
theorem FI.at {W : World} {B P fb : Nat} {p : Int} {A : Option Addr} {n c most mb na : Nat} {ms : List (List Int)} {mv av fv : Value} {vs : List Value} {G : List (Value × List Int)} (h : FI W B P fb p A n c most mb na ms mv av fv vs G) : MarksAt W B mv ms :=
  ⟨vs, h.fp.marks, fun i m v a b => (h.fp.safe _ (h.inn i m v a b)).1⟩
theorem MarksAt.mono {W : World} {B B' : Nat} {mv : Value} {ms : List (List Int)} (h : MarksAt W B mv ms) (hB : B' ≤ B) : MarksAt W B' mv ms := by
  obtain ⟨vs, h1, h2⟩ := h
  exact ⟨vs, h1.mono hB, fun i m v a b => (h2 i m v a b).mono hB⟩
theorem MarksAt.set {W : World} {B b : Nat} {mv : Value} {ms : List (List Int)} {cs : Array Value} {T : TypeId} {r : Nat × Nat} (h : MarksAt W B mv ms) (hb : W.heap[b]? = some (.cells cs T r)) (h1 : T ≠ 25) (h2 : T ≠ 3) (w2 : World) (hx : Kx W [b] w2) : MarksAt w2 B mv ms := by
  obtain ⟨vs, k1, k2⟩ := h
  exact ⟨vs, own_kx k1 hx (fun b' hv hm => by simp at hm; exact ne_of_type k1 hb h1 b' hv hm), fun i m v a b => own_kx (k2 i m v a b) hx (fun b' hv hm => by simp at hm; exact ne_of_type (k2 i m v a b) hb h2 b' hv hm)⟩
theorem MarksAt.below {W W' : World} {B : Nat} {mv : Value} {ms : List (List Int)} (h : MarksAt W B mv ms) (hb : Below W.heap.size W W') : MarksAt W' B mv ms := by
  obtain ⟨vs, h1, h2⟩ := h
  exact ⟨vs, own_below h1 hb, fun i m v a b => own_below (h2 i m v a b) hb⟩

def searchR (W : World) (B : Nat) (e : Ending) : Option (List (List Int)) → Prop
  | some ms => ∃ fb x y z u A4 n4 c4 A5 n5 c5 fv, e = .returned (.tuple #[.pointer (some ⟨fb, 0, none⟩), .int .i64 0]) ∧ W.heap[fb]? = some (.cells #[x, y, z, u, .slice A4 n4 c4, .slice A5 n5 c5, fv] 67 (0, 0)) ∧ MarksAt W B (.slice A4 n4 c4) ms
  | none => ∃ k : Int, k ≠ 0 ∧ e = .returned (.tuple #[.pointer none, .int .i64 k])
def graphR (W : World) (B : Nat) (e : Ending) : Option (List (List Int)) → Prop
  | some ms => ∃ A4 n4 c4 A5 n5 c5, e = .returned (.tuple #[.agg #[.slice A4 n4 c4, .slice A5 n5 c5], .int .i64 0]) ∧ MarksAt W B (.slice A4 n4 c4) ms
  | none => ∃ k : Int, k ≠ 0 ∧ e = .returned (.tuple #[.agg #[.slice none 0 0, .slice none 0 0], .int .i64 k])

theorem fi_start (W : World) (B P : Nat) (p : Int) (A : Option Addr) (n c : Nat) (hB : B ≤ W.heap.size) :
    FI ((W.alloc (.map #[] 0)).alloc (.cells #[.int .i64 p, .slice A n c, .int .i64 300, .map (some W.heap.size), .slice none 0 0, .slice none 0 0, .slice none 0 0] 67)) B P (W.heap.size + 1) p A n c 300 W.heap.size 0 [] (.slice none 0 0) (.slice none 0 0) (.slice none 0 0) [] [] := by
  refine ⟨⟨?_, ⟨.map [], (World.ownsMap_made W _ _ _).alloc _, SetIs.none P⟩, World.ownsRow_nil _ _ _ _, ⟨[], World.ownsRow_nil _ _ _ _⟩, ⟨[], rfl, World.ownsRow_nil _ _ _ _⟩, fun q hq => (by cases hq), by omega, hB⟩, fun i m v h _ => (by simp at h), fun m hm => (by cases hm), Nat.zero_le _⟩
  have := heap_alloc_new (W.alloc (.map #[] 0)) (.cells #[.int .i64 p, .slice A n c, .int .i64 300, .map (some W.heap.size), .slice none 0 0, .slice none 0 0, .slice none 0 0] 67)
  rw [World.size_alloc] at this
  exact this

set_option maxHeartbeats 2000000 in
theorem search_any (p : Int) (A : Option Addr) (n c : Nat) (ts : List Tx.Tr) (Am : Option Addr) (cm : Nat) (m : List Int) (w : World) (hl : ts.length = n) (hr : TrsAt w w.heap.size A n ts)
    (hm : Reads w w.heap.size 1 Am m.length (m.map (Value.int .i64))) (hf : Cv.fitV ⟨p, ts⟩ m = true) :
    Calls Try.prog 25 #[.agg #[.int .i64 p, .slice A n c], .slice Am m.length cm, .int .i64 300] w fun e w' => Below w.heap.size w w' ∧ searchR w' w.heap.size e (Cv.graphF ⟨p, ts⟩ m) := by
  obtain ⟨hlp, hrt, htl, hml, hts⟩ := Cv.fit_parts hf
  have hnw : Tx.ntWrong ⟨p, ts⟩ = false := by
    simp only [Cv.fitV, Bool.and_eq_true, Bool.not_eq_true'] at hf
    exact hf.1.1
  dsimp only at hlp htl hts
  have HR := Lib.hid hr
  have HL := Lib.hid hl
  have HM := Lib.hid hm
  have HLP := Lib.hid hlp
  have HNW := Lib.hid hnw
  have HRT := Lib.hid (right_get hrt)
  have R0 : RootAt w p A n c (w.alloc (.cells #[.int .i64 p, .slice A n c] 24)) := ⟨by simp [go_sem], by simp [go_sem], (Below.refl _ w).alloc (Nat.le_refl _) _, by simp⟩
  have HE := Lib.hid (enabled_any p A n c ts Am cm m (w.alloc (.cells #[.int .i64 p, .slice A n c] 24)) hl ((hr.below R0.bel).more (by simp)) ((hm.below R0.bel).more (by simp)) hf)
  have HR0 := Lib.hid R0
  have hmm := @run_makeMap Try.prog
  obtain ⟨X, hX⟩ : ∃ X, Cv.graphF ⟨p, ts⟩ m = X := ⟨_, rfl⟩
  rw [hX]
  have HX := Lib.hid hX
  clear hr hl hm hf hts hrt hlp hnw R0 hX
  go_enter Try.func25, Try.ntmps25
  go_wp2_with fail
  refine HE.out.mono ?_
  rintro e w2 ⟨v2, rfl, _, hb2⟩
  have R2 := HR0.out.next hb2
  clear hb2 HR0
  have hc0 := R2.c0
  have hc1 := R2.c1
  have HR2 := Lib.hid R2
  clear R2
  go_wp2_with fail
  obtain ⟨W0, hW0⟩ : ∃ W0, (w2.alloc (.map #[] 0)).alloc (.cells #[.int .i64 p, .slice A n c, .int .i64 300, .map (some w2.heap.size), .slice none 0 0, .slice none 0 0, .slice none 0 0] 67) = W0 := ⟨_, rfl⟩
  have hz2 := HR2.out.bel.size
  have HF0 : Hid (FI W0 w.heap.size m.length (w2.heap.size + 1) p A n c 300 w2.heap.size 0 [] (.slice none 0 0) (.slice none 0 0) (.slice none 0 0) [] []) := Lib.hid (hW0 ▸ fi_start w2 w.heap.size m.length p A n c hz2)
  have HB0 : Hid (Below w.heap.size w W0) := Lib.hid (hW0 ▸ (HR2.out.bel.alloc hz2 _).alloc (by simp; omega) _)
  rw [hW0]
  clear hW0 hc0 hc1
  refine (clone_any Am m.length cm m w.heap.size W0 (by omega) rfl (HM.out.below HB0.out)).mono ?_
  rintro e W3 ⟨v3, rfl, hrow3, hb3⟩
  obtain ⟨A3, c3, rfl⟩ := row_slice hrow3
  have hz0 := HB0.out.size
  have HF3 := Lib.hid ((HF0.out.below hb3).add (v := .slice A3 m.length c3) (xs := m) hrow3 (by omega) HF0.out.fvlt)
  have HB3 : Hid (Below w.heap.size w W3) := Lib.hid (HB0.out.trans (hb3.mono hz0))
  clear hrow3 hb3
  have hz3 := HB3.out.size
  have HFN := Lib.hid (find_new w.heap.size m.length (w2.heap.size + 1) p A A3 n c c3 300 w2.heap.size 0 [] (.slice none 0 0) (.slice none 0 0) (.slice none 0 0) [] _ m (-1) W3 HF3.out List.mem_cons_self rfl HRT.out hml (by omega) (by omega) rfl (by decide))
  go_wp2_with fail
  refine HFN.out.mono ?_
  rintro e W4 ⟨k4, rfl, ⟨mv4, fv4, hf4⟩, hb4⟩
  have HF4 := Lib.hid hf4
  have HB4 : Hid (Below w.heap.size w W4) := Lib.hid (HB3.out.trans hb4)
  have hz4 := HB4.out.size
  clear hf4 hb4
  have HEX := Lib.hid (explore_any w.heap.size m.length (w2.heap.size + 1) p A n c 300 w2.heap.size ts [m] mv4 (.slice none 0 0) fv4 _ _ W4 HF4.out HL.out (HR.out.below HB4.out) HNW.out HLP.out (by omega) (by omega))
  have hgr : Cv.exploreF 300 ts (300 + 1) 0 [m] = X := HX.out
  rw [hgr] at HEX
  clear hgr
  go_wp2_with fail
  refine HEX.out.mono ?_
  rintro e W5 ⟨hres, hb5⟩
  have HB5 : Hid (Below w.heap.size w W5) := Lib.hid (HB4.out.trans hb5)
  clear hb5
  cases X with
  | none =>
    obtain ⟨k5, hk5, rfl⟩ := hres
    have hk5b : (k5 != 0) = true := by simpa using hk5
    go_wp2_with fail
    go_ret2
    exact ⟨HB5.out, k5, hk5, rfl⟩
  | some ms =>
    obtain ⟨rfl, na, mv, av, fv, vs, G, hf5⟩ := hres
    obtain ⟨A4, c4, rfl⟩ : ∃ A4 c4, mv = .slice A4 ms.length c4 := slice_of hf5.fp.marks
    obtain ⟨A5, c5, rfl⟩ : ∃ A5 c5, av = .slice A5 na c5 := by obtain ⟨cs, hcs⟩ := hf5.fp.arcs; exact slice_of3 hcs
    have HF5 := Lib.hid hf5
    clear hf5
    go_wp2_with fail
    go_ret2
    exact ⟨HB5.out, _, _, _, _, _, _, _, _, _, _, _, fv, rfl, HF5.out.fp.blk, HF5.out.at⟩

theorem graph_any (p : Int) (A : Option Addr) (n c : Nat) (ts : List Tx.Tr) (Am : Option Addr) (cm : Nat) (m : List Int) (w : World) (hl : ts.length = n) (hr : TrsAt w w.heap.size A n ts)
    (hm : Reads w w.heap.size 1 Am m.length (m.map (Value.int .i64))) (hf : Cv.fitV ⟨p, ts⟩ m = true) :
    Calls Try.prog 9 #[.agg #[.int .i64 p, .slice A n c], .slice Am m.length cm, .int .i64 300] w fun e w' => Below w.heap.size w w' ∧ graphR w' w.heap.size e (Cv.graphF ⟨p, ts⟩ m) := by
  obtain ⟨W0, hW0⟩ : ∃ W0, (w.alloc (.cells #[.int .i64 p, .slice A n c] 24)).alloc (.cells #[.slice none 0 0, .slice none 0 0] 39) = W0 := ⟨_, rfl⟩
  have HW : Hid (Below w.heap.size w W0) := Lib.hid (hW0 ▸ ((Below.refl w.heap.size w).alloc (Nat.le_refl _) _).alloc (by simp) _)
  have hb6 : W0.heap[w.heap.size + 1]? = some (.cells #[.slice none 0 0, .slice none 0 0] 39 (0, 0)) := by
    have := heap_alloc_new (w.alloc (.cells #[.int .i64 p, .slice A n c] 24)) (.cells #[.slice none 0 0, .slice none 0 0] 39)
    rw [World.size_alloc, hW0] at this
    exact this
  have HB6 := Lib.hid hb6
  have c0 : W0.cell? ⟨w.heap.size, 0, none⟩ = some (.int .i64 p) := by rw [← hW0]; simp [go_sem]
  have c1 : W0.cell? ⟨w.heap.size, 1, none⟩ = some (.slice A n c) := by rw [← hW0]; simp [go_sem]
  have HS := Lib.hid (search_any p A n c ts Am cm m W0 hl ((hr.below HW.out).more HW.out.size) ((hm.below HW.out).more HW.out.size) hf)
  obtain ⟨X, hX⟩ : ∃ X, Cv.graphF ⟨p, ts⟩ m = X := ⟨_, rfl⟩
  rw [hX] at HS ⊢
  have HW0 := Lib.hid hW0
  clear hl hr hm hf hX hW0 hb6
  go_enter Try.func9, Try.ntmps9
  go_upto_region 1 with (fail)
  rw [HW0.out]
  go_wp2_with fail
  refine HS.out.mono ?_
  rintro e W1 ⟨hb1, hres⟩
  have HB1 : Hid (Below w.heap.size w W1) := Lib.hid (HW.out.trans (hb1.mono HW.out.size))
  have d6 := (hb1.block _ (Array.getElem?_eq_some_iff.1 HB6.out).1).trans HB6.out
  have e0 : W1.cell? ⟨w.heap.size + 1, 0, none⟩ = some (.slice none 0 0) := by simp [World.cell?, d6]
  have e1 : W1.cell? ⟨w.heap.size + 1, 1, none⟩ = some (.slice none 0 0) := by simp [World.cell?, d6]
  have f0 : W1.frozen? ⟨w.heap.size + 1, 0, none⟩ = false := by simp [World.frozen?, d6]
  have f1 : W1.frozen? ⟨w.heap.size + 1, 1, none⟩ = false := by simp [World.frozen?, d6]
  have D6 := Lib.hid d6
  clear d6 hb1 c0 c1
  cases X with
  | none =>
    obtain ⟨k, hk, rfl⟩ := hres
    have hkb : (k != 0) = true := by simpa using hk
    go_wp2_with fail
    refine bodyPost_ret (v := .tuple #[.agg #[.slice none 0 0, .slice none 0 0], .int .i64 k]) ?_ rfl ⟨(HB1.out.setCell (p := ⟨w.heap.size + 1, 0, none⟩) (by simp) _).setCell (p := ⟨w.heap.size + 1, 1, none⟩) (by simp) _, k, hk, rfl⟩
    have D := D6.out
    simp [results, Try.f9, go_sem, World.cell?, World.setCell, Array.getElem?_modify, D]
  | some ms =>
    obtain ⟨fb, x, y, z, u, A4, n4, c4, A5, n5, c5, fv, rfl, hblk, hms⟩ := hres
    have g4 : W1.cell? ⟨fb, 4, none⟩ = some (.slice A4 n4 c4) := by simp [World.cell?, hblk]
    have g5 : W1.cell? ⟨fb, 5, none⟩ = some (.slice A5 n5 c5) := by simp [World.cell?, hblk]
    have HMS := Lib.hid (hms.mono HW.out.size)
    clear hms hblk
    go_wp2_with fail
    refine bodyPost_ret (v := .tuple #[.agg #[.slice A4 n4 c4, .slice A5 n5 c5], .int .i64 0]) ?_ rfl ⟨(HB1.out.setCell (p := ⟨w.heap.size + 1, 0, none⟩) (by simp) _).setCell (p := ⟨w.heap.size + 1, 1, none⟩) (by simp) _, _, _, _, _, _, _, rfl,
      HMS.out.set D6.out (by decide) (by decide) _ (((Kx.refl W1 [w.heap.size + 1]).set (.inl (by simp)) _).set (.inl (by simp)) _)⟩
    have D := D6.out
    simp [results, Try.f9, go_sem, World.cell?, World.setCell, Array.getElem?_modify, D]
end Go.Proofs.Ytblbgbgnifdohaa
