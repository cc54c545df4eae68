/-
  The walk of tree.again: does a knot's mark stand on its way up?
-/
import Derived.Test.YtblbgbgnifdohaaWalkE
namespace Go.Proofs.Ytblbgbgnifdohaa
open Go.RowKit Go.Shelf
attribute [local go_sem] Oper.semAt_some

/-- the knots, as they are read. -/
structure KsRd (w : World) (B bt g cap : Nat) (ks : List Cv.Kn) (vs : List Value) : Prop where
  hbt : bt < B
  hg : g < B
  row : w.cell? ⟨bt, 2, none⟩ = some (.slice (some ⟨g, 0, none⟩) ks.length cap)
  len : vs.length = ks.length
  kn : ∀ (j : Nat) (kn : Cv.Kn) (v : Value), ks[j]? = some kn → vs[j]? = some v →
    w.cell? ⟨g, j * 3, none⟩ = some (.int .i64 kn.up) ∧ w.cell? ⟨g, j * 3 + 1, none⟩ = some (.int .i64 kn.tran) ∧ w.cell? ⟨g, j * 3 + 2, none⟩ = some v ∧ Ints w B v kn.mark
theorem KsRd.keep {w w' : World} {B bt g cap : Nat} {ks : List Cv.Kn} {vs : List Value} (h : KsRd w B bt g cap ks vs) (hk : ∀ p : Addr, p.block < B → w'.cell? p = w.cell? p) : KsRd w' B bt g cap ks vs :=
  ⟨h.hbt, h.hg, (hk _ h.hbt).trans h.row, h.len, fun j kn v h1 h2 => by
    obtain ⟨a, b, c, d⟩ := h.kn j kn v h1 h2
    exact ⟨(hk ⟨g, j * 3, none⟩ h.hg).trans a, (hk ⟨g, j * 3 + 1, none⟩ h.hg).trans b, (hk ⟨g, j * 3 + 2, none⟩ h.hg).trans c, d.keep hk⟩⟩
theorem KsRd.below {w w' : World} {B bt g cap : Nat} {ks : List Cv.Kn} {vs : List Value} (h : KsRd w B bt g cap ks vs) (hb : Below B w w') : KsRd w' B bt g cap ks vs := h.keep fun _ hp => hb.cell hp
theorem KsRd.look {w : World} {B bt g cap : Nat} {ks : List Cv.Kn} {vs : List Value} (h : KsRd w B bt g cap ks vs) {kb tb : Nat} {q : Int} (h1 : w.cell? ⟨kb, 0, none⟩ = some (.int .i64 q)) (h2 : w.frozen? ⟨kb, 0, none⟩ = false)
    (h3 : w.cell? ⟨tb, 0, none⟩ = some (.pointer (some ⟨bt, 0, none⟩))) : Look w kb tb bt g cap ks vs q :=
  ⟨h1, h2, h3, h.row, fun j kn v a b => ⟨(h.kn j kn v a b).1, (h.kn j kn v a b).2.2.1⟩⟩

set_option maxHeartbeats 2000000 in
theorem again_any (bt g cap k : Nat) (ks : List Cv.Kn) (vs : List Value) (kn : Cv.Kn) (w : World) (hk : ks[k]? = some kn) (h : KsRd w w.heap.size bt g cap ks vs) (hu : UpOk ks) (h300 : ks.length ≤ 300) (h16 : ∀ kn ∈ ks, kn.mark.length ≤ 16) :
    Calls Try.prog 19 #[.pointer (some ⟨bt, 0, none⟩), .int .i64 k] w fun e w' => e = .returned (.bool (Cv.againV ks k)) ∧ Below w.heap.size w w' := by
  obtain ⟨v, hv⟩ : ∃ v, vs[k]? = some v := ⟨_, List.getElem?_eq_getElem (by rw [h.len]; exact (List.getElem?_eq_some_iff.1 hk).1)⟩
  obtain ⟨e0, _, e2, hi⟩ := h.kn k kn v hk hv
  have hkl := (List.getElem?_eq_some_iff.1 hk).1
  have e1 := h.row
  have hbt := h.hbt
  have hg := h.hg
  obtain ⟨n, pos, hc⟩ := chain_path hu (k := kn.up) (by have := (hu k kn hk).2; omega) (hu k kn hk).1
  have HC := Lib.hid hc
  have HI := Lib.hid hi
  have HK := Lib.hid hk
  have HV := Lib.hid hv
  have H := Lib.hid h
  have HU := Lib.hid hu
  have H16 := Lib.hid h16
  clear hc hi hk hv h hu h16
  refine (callsIn_wide (n := 9)).1 ?_
  refine callsIn_of_wp_marks Try.func19 rfl trivial ?_
  simp only [Try.ntmps19, List.size_toArray, List.length_cons, List.length_nil, Nat.reduceAdd, Nat.reduceSub, Array.replicate_succ, Array.replicate_zero, List.push_toArray, List.append_toArray, List.nil_append, List.cons_append]
  gi_wp2
  obtain ⟨W0, hW0⟩ : ∃ W0, (((w.alloc (.cells #[.pointer (some ⟨bt, 0, none⟩)] 53)).alloc (.cells #[.int .i64 k] 3)).alloc (.cells #[.bool false] 4)) = W0 := ⟨_, rfl⟩
  have HB0 : Hid (Below w.heap.size w W0) := Lib.hid (hW0 ▸ (((Below.refl _ w).alloc (Nat.le_refl _) _).alloc (by simp) _).alloc (by simp; omega) _)
  have c0 : W0.cell? ⟨w.heap.size, 0, none⟩ = some (.pointer (some ⟨bt, 0, none⟩)) := by rw [← hW0]; simp [go_sem]
  have c1 : W0.cell? ⟨w.heap.size + 1, 0, none⟩ = some (.int .i64 k) := by rw [← hW0]; simp [go_sem]
  have c2 : W0.cell? ⟨w.heap.size + 1 + 1, 0, none⟩ = some (.bool false) := by rw [← hW0]; simp [go_sem]
  have f2 : W0.frozen? ⟨w.heap.size + 1 + 1, 0, none⟩ = false := by rw [← hW0]; simp [go_sem]
  have hsz : W0.heap.size = w.heap.size + 3 := by rw [← hW0]; simp
  rw [hW0]
  clear hW0
  replace e0 := (HB0.out.cell (p := ⟨g, k * 3, none⟩) hg).trans e0
  replace e1 := (HB0.out.cell (p := ⟨bt, 2, none⟩) hbt).trans e1
  replace e2 := (HB0.out.cell (p := ⟨g, k * 3 + 2, none⟩) hg).trans e2
  refine region_tail_wide 9 (by kernel_rfl) (by kernel_rfl) ?_
  simp only [List.take_succ_cons, List.take_zero, List.drop_succ_cons, List.drop_zero]
  repeat still_step
  refine wpStill_nil ?_
  change wpListIn _ _ _ _ _ _ _ (World.drewN W0 1)
  have HA := Lib.hid (ahead_at ⟨bt, 0, none⟩ kn.up (World.drewN W0 1) (w.heap.size + 3) hsz)
  gi_wp2
  refine ⟨trivial, (wide_calls HA.out).mono ?_⟩
  rintro e w2 ⟨rfl, hb2, hsz2, k0, k1, k2⟩
  have HB2 : Hid (Below (w.heap.size + 3) W0 w2) := Lib.hid (((below_drewN W0 1).mono (by omega)).trans hb2)
  clear hb2
  replace c0 := (HB2.out.cell (p := ⟨w.heap.size, 0, none⟩) (by dsimp only; omega)).trans c0
  replace c1 := (HB2.out.cell (p := ⟨w.heap.size + 1, 0, none⟩) (by dsimp only; omega)).trans c1
  replace c2 := (HB2.out.cell (p := ⟨w.heap.size + 1 + 1, 0, none⟩) (by dsimp only; omega)).trans c2
  replace f2 := (HB2.out.frozen (p := ⟨w.heap.size + 1 + 1, 0, none⟩) (by dsimp only; omega)).trans f2
  have HBW := Lib.hid (HB0.out.trans (HB2.out.mono (by omega)))
  clear e0 e1 e2
  gi_wp2
  refine range_walk (l := w.heap.size + 6) rfl (enters_of Try.func35 (by kernel_rfl) rfl) (by omega) (fun rec hyield => ?_)
  have HY := Lib.hid hyield
  clear hyield
  obtain ⟨W1, hW1⟩ : ∃ W1, (w2.alloc (.deferred (some []))).alloc (.loop (rec .ready none)) = W1 := ⟨_, rfl⟩
  rw [hW1]
  have HB3 : Hid (Below w2.heap.size w2 W1) := Lib.hid (hW1 ▸ ((Below.refl _ w2).alloc (Nat.le_refl _) _).alloc (by simp) _)
  have hszW : W1.heap.size = w.heap.size + 7 := by rw [← hW1]; simp; omega
  have hlo : W1.heap[w.heap.size + 6]? = some (.loop (rec .ready none)) := by
    rw [← hW1, show w.heap.size + 6 = (w2.alloc (.deferred (some []))).heap.size by simp; omega]; exact World.alloc_heap_new _ _
  have hde : W1.heap[w.heap.size + 5]? = some (.deferred (some [])) := by
    rw [← hW1, show w.heap.size + 5 = w2.heap.size by omega]; exact (Below.heap_alloc _ _ _ (by simp)).trans (World.alloc_heap_new w2 _)
  clear hW1
  have HB4 : Hid (Below w.heap.size w W1) := Lib.hid (HB0.out.trans ((HB2.out.mono (by omega)).trans (HB3.out.mono (by omega))))
  have d0 := (HB3.out.cell (p := ⟨w.heap.size, 0, none⟩) (by dsimp only; omega)).trans c0
  have d1 := (HB3.out.cell (p := ⟨w.heap.size + 1, 0, none⟩) (by dsimp only; omega)).trans c1
  have d2 := (HB3.out.cell (p := ⟨w.heap.size + 1 + 1, 0, none⟩) (by dsimp only; omega)).trans c2
  have d3 := (HB3.out.frozen (p := ⟨w.heap.size + 1 + 1, 0, none⟩) (by dsimp only; omega)).trans f2
  have m0 := (HB3.out.cell (p := ⟨w.heap.size + 3 + 1, 0, none⟩) (by dsimp only; omega)).trans k0
  have m1 := (HB3.out.frozen (p := ⟨w.heap.size + 3 + 1, 0, none⟩) (by dsimp only; omega)).trans k1
  have m2 := (HB3.out.cell (p := ⟨w.heap.size + 3, 0, none⟩) (by dsimp only; omega)).trans k2
  clear k0 k1 k2 c0 c1 c2 f2 HB2 HB3 HB0
  have HJ0 : Hid (∀ W, Kx W1 [w.heap.size + 3 + 1, w.heap.size + 6] W → Below w.heap.size w W) := Lib.hid (fun W h => HB4.out.trans (h.below (by simp; omega) (by omega)))
  have HLK : Hid (∀ W q, Kx W1 [w.heap.size + 3 + 1, w.heap.size + 6] W → W.cell? ⟨w.heap.size + 3 + 1, 0, none⟩ = some (.int .i64 q) → W.frozen? ⟨w.heap.size + 3 + 1, 0, none⟩ = false → Look W (w.heap.size + 3 + 1) (w.heap.size + 3) bt g cap ks vs q) :=
    Lib.hid (fun W q h1 h2 h3 => (H.out.below (HJ0.out W h1)).look h2 h3 (h1.cell (by simp) m2))
  simp only [List.append_toArray, List.cons_append, List.nil_append]
  refine (ahead1_any 8 (w.heap.size + 6) (w.heap.size + 3 + 1) (w.heap.size + 3) bt g cap n ks vs kn.up (Cv.pathV ks kn.up) pos HC.out h300 H.out.len
    (fun i W => Kx W1 [w.heap.size + 3 + 1, w.heap.size + 6] W ∧ W.heap[w.heap.size + 6]? = some (.loop (rec .ready none)) ∧ W.cell? ⟨w.heap.size + 3 + 1, 0, none⟩ = some (.int .i64 (pos i)) ∧ W.frozen? ⟨w.heap.size + 3 + 1, 0, none⟩ = false ∧ ∀ j, j < i → (Cv.pathV ks kn.up)[j]? ≠ some kn.mark)
    (fun i W => Kx W1 [w.heap.size + 3 + 1, w.heap.size + 6] W ∧ W.heap[w.heap.size + 6]? = some (.loop (rec .ready none)) ∧ W.cell? ⟨w.heap.size + 3 + 1, 0, none⟩ = some (.int .i64 (pos i)) ∧ W.frozen? ⟨w.heap.size + 3 + 1, 0, none⟩ = false ∧ ∀ j, j < i + 1 → (Cv.pathV ks kn.up)[j]? ≠ some kn.mark)
    (fun W => Kx W1 [w.heap.size + 3 + 1, w.heap.size + 6, w.heap.size + 1 + 1] W ∧ W.heap[w.heap.size + 6]? = some (.loop (rec .done (some .ret))) ∧ W.cell? ⟨w.heap.size + 1 + 1, 0, none⟩ = some (.bool true) ∧ kn.mark ∈ Cv.pathV ks kn.up)
    (fun i W h => HLK.out W _ h.1 h.2.2.1 h.2.2.2.1) (fun i W h => HLK.out W _ h.1 h.2.2.1 h.2.2.2.1)
    (fun i W q h => ⟨h.1.drew q, h.2.1, h.2.2.1, h.2.2.2.1, h.2.2.2.2⟩) (fun i W q h => ⟨h.1.drew q, h.2.1, h.2.2.1, h.2.2.2.1, h.2.2.2.2⟩) ?round ?step W1 ⟨Kx.refl _ _, hlo, by rw [HC.out.zero]; exact m0, m1, fun j hj => absurd hj (by omega)⟩).mono ?fin
  case step =>
    rintro i W hi ⟨h1, h2, h3, h4, h5⟩
    exact ⟨h1.set (.inl (by simp)) _, by rw [heap_set_other (by simp)]; exact h2, World.cell?_setCell_same' _ _ _ (by rw [h3]; rfl), by rw [World.frozen?_setCell]; exact h4, h5⟩
  case round =>
    rintro i hi W v' ⟨h1, h2, h3, h4, h5⟩ hv'
    refine HY.out _ _ _ _ h2 rfl ?_
    simp only [List.zip_toArray, List.zip_cons_cons, List.zip_nil_right, List.foldl_toArray, List.foldl_cons, List.foldl_nil, List.setIfInBounds_toArray, List.set_cons_succ, List.set_cons_zero]
    obtain ⟨_, _, ki, hki, _, hxi⟩ := HC.out.inn i hi
    have hrd := H.out.below (HJ0.out W h1)
    obtain ⟨_, _, _, A', c', rfl, _, _, hr'⟩ := hrd.kn _ _ _ hki hv'
    obtain ⟨_, _, g2, A, c, rfl, _, _, hr⟩ := hrd.kn k kn v HK.out HV.out
    have g1 := hrd.row
    have q0 := (cell_put (p := ⟨w.heap.size, 0, none⟩) (l := w.heap.size + 6) (by simp <;> omega) (.loop (rec .busy none))).trans (h1.cell (p := ⟨w.heap.size, 0, none⟩) (by simp <;> omega) d0)
    have q1 := (cell_put (p := ⟨w.heap.size + 1, 0, none⟩) (l := w.heap.size + 6) (by simp <;> omega) (.loop (rec .busy none))).trans (h1.cell (p := ⟨w.heap.size + 1, 0, none⟩) (by simp <;> omega) d1)
    have q2 := (cell_put (p := ⟨w.heap.size + 1 + 1, 0, none⟩) (l := w.heap.size + 6) (by simp <;> omega) (.loop (rec .busy none))).trans (h1.cell (p := ⟨w.heap.size + 1 + 1, 0, none⟩) (by simp <;> omega) d2)
    have q3 := (frozen_put (p := ⟨w.heap.size + 1 + 1, 0, none⟩) (l := w.heap.size + 6) (by simp <;> omega) (.loop (rec .busy none))).trans ((h1.frozen (p := ⟨w.heap.size + 1 + 1, 0, none⟩) (by simp <;> omega) (by dsimp only; omega)).trans d3)
    have q4 := (cell_put (p := ⟨bt, 2, none⟩) (l := w.heap.size + 6) (by dsimp only; omega) (.loop (rec .busy none))).trans g1
    have q5 := (cell_put (p := ⟨g, k * 3 + 2, none⟩) (l := w.heap.size + 6) (by dsimp only; omega) (.loop (rec .busy none))).trans g2
    have q6 := (cell_put (p := ⟨w.heap.size + 3 + 1, 0, none⟩) (l := w.heap.size + 6) (by simp <;> omega) (.loop (rec .busy none))).trans h3
    have q7 := (frozen_put (p := ⟨w.heap.size + 3 + 1, 0, none⟩) (l := w.heap.size + 6) (by simp <;> omega) (.loop (rec .busy none))).trans h4
    have HRA : Hid (Reads (W.putObj (w.heap.size + 6) (.loop (rec .busy none))) w.heap.size 1 A kn.mark.length (kn.mark.map (Value.int .i64))) := Lib.hid (hr.keep (fun p hp => cell_put (by omega) _))
    have HRB : Hid (Reads (W.putObj (w.heap.size + 6) (.loop (rec .busy none))) w.heap.size 1 A' ki.mark.length (ki.mark.map (Value.int .i64))) := Lib.hid (hr'.keep (fun p hp => cell_put (by omega) _))
    have HKX : Hid (Kx W1 [w.heap.size + 3 + 1, w.heap.size + 6] (W.putObj (w.heap.size + 6) (.loop (rec .busy none)))) := Lib.hid (h1.put (.inl (by simp)) _)
    have HLO : Hid ((W.putObj (w.heap.size + 6) (.loop (rec .busy none))).heap[w.heap.size + 6]? = some (.loop (rec .busy none))) := Lib.hid (World.putObj_heap_same (by have := h1.size; omega))
    have HH5 := Lib.hid h5
    have HXI := Lib.hid hxi
    have l1 := H16.out kn (List.mem_of_getElem? HK.out)
    have l2 := H16.out ki (List.mem_of_getElem? hki)
    gi_wp2
    clear hrd hr hr' hki hv' hxi h1 h2 h3 h4 h5 g1 g2 d0 d1 d2 d3 m0 m1 m2 hlo hde
    generalize W.putObj (w.heap.size + 6) (.loop (rec .busy none)) = Wb at *
    obtain ⟨b, hb⟩ : ∃ b, (ki.mark == kn.mark) = b := ⟨_, rfl⟩
    have HEQ : ∀ q, Hid (Calls Try.prog 13 #[.slice A' ki.mark.length c', .slice A kn.mark.length c] (Wb.drewN q) fun e w' => e = .returned (.bool b) ∧ ∃ m, w' = (Wb.drewN q).drewN m) := fun q => Lib.hid (hb ▸ equal_any A' A ki.mark.length kn.mark.length c' c ki.mark kn.mark w.heap.size w.heap.size (Wb.drewN q) (by omega) (by omega) rfl rfl (HRB.out.keep (fun _ _ => rfl)) (HRA.out.keep (fun _ _ => rfl)))
    refine round_quiet (by kernel_rfl) (by kernel_rfl) ?_
    repeat (go_big_quiet_step (first | (go_at_call 13; exact Calls.quiet_of (HEQ _).out)))
    refine wpQuiet_nil ?_
    rintro _ ⟨nq, rfl⟩
    have HKX2 := Lib.hid (HKX.out.drew nq)
    replace HLO : Hid ((Wb.drewN nq).heap[w.heap.size + 6]? = some (.loop (rec .busy none))) := HLO
    replace q2 : (Wb.drewN nq).cell? ⟨w.heap.size + 1 + 1, 0, none⟩ = some (.bool false) := q2
    replace q3 : (Wb.drewN nq).frozen? ⟨w.heap.size + 1 + 1, 0, none⟩ = false := q3
    replace q6 : (Wb.drewN nq).cell? ⟨w.heap.size + 3 + 1, 0, none⟩ = some (.int .i64 (pos i)) := q6
    replace q7 : (Wb.drewN nq).frozen? ⟨w.heap.size + 3 + 1, 0, none⟩ = false := q7
    clear q0 q1 q4 q5 HRA HRB HKX HEQ
    generalize Wb.drewN nq = Wc at *
    have hszc : w.heap.size + 6 < Wc.heap.size := (Array.getElem?_eq_some_iff.1 HLO.out).1
    cases b with
    | true =>
      gi_wp2
      refine ⟨by rw [heap_set_other (by simp <;> omega)]; exact HLO.out, .inr ⟨rfl, ((HKX2.out.more (fun x hx => by simp at hx ⊢; rcases hx with rfl | rfl <;> simp)).set (.inl (by simp)) _).put (.inl (by simp)) _,
        World.putObj_heap_same (by simpa using hszc), (cell_put (by simp <;> omega) _).trans (World.cell?_setCell_same' _ _ _ (by rw [q2]; rfl)), ?_⟩⟩
      have := List.mem_of_getElem? HXI.out
      rwa [eq_of_beq hb] at this
    | false =>
      gi_wp2
      refine ⟨HLO.out, .inl ⟨rfl, HKX2.out.put (.inl (by simp)) _, World.putObj_heap_same hszc, (cell_put (by simp <;> omega) _).trans q6, (frozen_put (by simp <;> omega) _).trans q7, fun j hj => ?_⟩⟩
      by_cases h : j < i
      · exact HH5.out j h
      · obtain rfl : j = i := by omega
        rw [HXI.out]
        intro e
        rw [Option.some.inj e] at hb
        simp at hb
  case fin =>
    rintro e W2 ⟨⟨v', rfl⟩, (⟨h1, h2, h3, h4, h5⟩ | ⟨h1, h2, h3, h4⟩)⟩
    · refine ⟨⟨_, rfl⟩, .inl ⟨h2, ?_⟩⟩
      have HAG : Hid (Cv.againV ks k = false) := Lib.hid (by
        unfold Cv.againV
        rw [HK.out]
        refine List.any_eq_false.2 (fun x hx => ?_)
        obtain ⟨j, hj⟩ := List.mem_iff_getElem?.1 hx
        intro e
        exact h5 j (by have := (List.getElem?_eq_some_iff.1 hj).1; rwa [HC.out.len] at this) (by rw [hj, eq_of_beq e]))
      have q2 := (cell_put (p := ⟨w.heap.size + 1 + 1, 0, none⟩) (l := w.heap.size + 6) (by simp <;> omega) (.loop (rec .exhausted none))).trans (h1.cell (p := ⟨w.heap.size + 1 + 1, 0, none⟩) (by simp <;> omega) d2)
      have q3 := (frozen_put (p := ⟨w.heap.size + 1 + 1, 0, none⟩) (l := w.heap.size + 6) (by simp <;> omega) (.loop (rec .exhausted none))).trans ((h1.frozen (p := ⟨w.heap.size + 1 + 1, 0, none⟩) (by simp <;> omega) (by dsimp only; omega)).trans d3)
      have HKX : Hid (Kx W1 [w.heap.size + 3 + 1, w.heap.size + 6, w.heap.size + 1 + 1, w.heap.size + 5] (W2.putObj (w.heap.size + 6) (.loop (rec .exhausted none)))) := Lib.hid ((h1.more (fun x hx => by simp at hx ⊢; rcases hx with rfl | rfl <;> simp)).put (.inl (by simp)) _)
      have hde2 : (W2.putObj (w.heap.size + 6) (.loop (rec .exhausted none))).heap[w.heap.size + 5]? = some (.deferred (some [])) := (World.putObj_heap_other (by omega)).trans ((h1.block _ (by omega) (by simp <;> omega)).trans hde)
      generalize W2.putObj (w.heap.size + 6) (.loop (rec .exhausted none)) = W3 at *
      rw [hsz2]
      clear h1 h2 h3 h4 h5 m0 m1 m2 d0 d1 d2 d3 hlo hde
      gi_wp2
      have hd4 : (W3.setCell ⟨w.heap.size + 1 + 1, 0, none⟩ (.bool false)).heap[w.heap.size + 3 + 2]? = some (.deferred (some [])) := by rw [heap_set_other (by simp <;> omega)]; exact hde2
      refine ⟨by simp, .inl ⟨_, _, rfl, run_takeDeferred hd4, ?_⟩⟩
      have hc5 : ((W3.setCell ⟨w.heap.size + 1 + 1, 0, none⟩ (.bool false)).putObj (w.heap.size + 3 + 2) (.deferred none)).cell? ⟨w.heap.size + 1 + 1, 0, none⟩ = some (.bool false) :=
        (cell_put (by simp <;> omega) _).trans (World.cell?_setCell_same' _ _ _ (by rw [q2]; rfl))
      refine ⟨.bool false, ?_, by rw [HAG.out], ?_⟩
      · simp [results, Try.f19, go_sem, hc5]
      · exact HB4.out.trans (((HKX.out.set (.inl (by simp)) _).put (.inl (by simp)) _).below (by simp <;> omega) (by omega))
    · refine ⟨⟨_, rfl⟩, .inr ⟨h2, ?_⟩⟩
      have HAG : Hid (Cv.againV ks k = true) := Lib.hid (by
        unfold Cv.againV
        rw [HK.out]
        exact List.any_eq_true.2 ⟨_, h4, by simp⟩)
      have q2 := (cell_put (p := ⟨w.heap.size + 1 + 1, 0, none⟩) (l := w.heap.size + 6) (by simp <;> omega) (.loop (rec .exhausted (some .ret)))).trans h3
      have HKX : Hid (Kx W1 [w.heap.size + 3 + 1, w.heap.size + 6, w.heap.size + 1 + 1, w.heap.size + 5] (W2.putObj (w.heap.size + 6) (.loop (rec .exhausted (some .ret))))) := Lib.hid ((h1.more (fun x hx => by simp at hx ⊢; rcases hx with rfl | rfl | rfl <;> simp)).put (.inl (by simp)) _)
      have hde2 : (W2.putObj (w.heap.size + 6) (.loop (rec .exhausted (some .ret)))).heap[w.heap.size + 3 + 2]? = some (.deferred (some [])) := (World.putObj_heap_other (by omega)).trans ((h1.block _ (by omega) (by simp <;> omega)).trans hde)
      generalize W2.putObj (w.heap.size + 6) (.loop (rec .exhausted (some .ret))) = W3 at *
      rw [hsz2]
      clear h1 h2 h3 h4 m0 m1 m2 d0 d1 d2 d3 hlo hde
      gi_wp2
      refine ⟨by simp, .inl ⟨_, _, rfl, run_takeDeferred hde2, ?_⟩⟩
      have hc5 : (W3.putObj (w.heap.size + 3 + 2) (.deferred none)).cell? ⟨w.heap.size + 1 + 1, 0, none⟩ = some (.bool true) := (cell_put (by simp <;> omega) _).trans q2
      refine ⟨.bool true, ?_, by rw [HAG.out], ?_⟩
      · simp [results, Try.f19, go_sem, hc5]
      · exact HB4.out.trans ((HKX.out.put (.inl (by simp)) _).below (by simp <;> omega) (by omega))
end Go.Proofs.Ytblbgbgnifdohaa
