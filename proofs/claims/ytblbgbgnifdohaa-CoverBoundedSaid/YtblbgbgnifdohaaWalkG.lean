/-
  The walk of tree.grow: a mark gets Many where it has more than one that it comes of, and that it covers.
-/
import Derived.Test.YtblbgbgnifdohaaGrow
namespace Go.Proofs.Ytblbgbgnifdohaa
open Go.RowKit Go.Shelf
attribute [local go_sem] Oper.semAt_some

/-- the marks that a loop over a function leaves among the deferred calls: newest first. -/
def Marks (s : Nat) (W : World) : Nat → List Deferred → Prop
  | _, [] => True
  | hi, d :: r => ∃ D, d = { target := .collected D, args := #[] } ∧ D < hi ∧ s < D ∧ W.heap[D]? = some (.deferred (some [])) ∧ Marks s W D r
theorem Marks.more {s : Nat} {W : World} : ∀ {ds : List Deferred} {hi hi' : Nat}, Marks s W hi ds → hi ≤ hi' → Marks s W hi' ds
  | [], _, _, _, _ => trivial
  | _ :: _, _, _, h, hh => by obtain ⟨D, a, b, c⟩ := h; exact ⟨D, a, by omega, c⟩
theorem Marks.keep {s : Nat} {W W' : World} : ∀ {ds : List Deferred} {hi : Nat}, Marks s W hi ds → (∀ D, s < D → D < hi → W.heap[D]? = some (.deferred (some [])) → W'.heap[D]? = some (.deferred (some []))) → Marks s W' hi ds
  | [], _, _, _ => trivial
  | _ :: _, _, h, hk => by
    obtain ⟨D, a, b, c, d, e⟩ := h
    exact ⟨D, a, b, c, hk D c b d, e.keep (fun D' h1 h2 h3 => hk D' h1 (by omega) h3)⟩
theorem leaves_marks {s n : Nat} {P : Program} {fn : Func} {tmps : Array Value} {R : Ending → World → Prop} (Φ : World → Prop)
    (hΦ : ∀ W D, s < D → Φ W → W.heap[D]? = some (.deferred (some [])) → Φ (W.putObj D (.deferred none)))
    (hend : ∀ W, Φ W → LeavesIn Fence.wide n P fn tmps R [] .returning W) : ∀ (ds : List Deferred) (hi : Nat) (W : World), Marks s W hi ds → Φ W → LeavesInM Fence.wide n P fn tmps R ds .returning W
  | [], _, W, _, h => hend W h
  | d :: r, hi, W, hm, h => by
    obtain ⟨D, rfl, h1, h2, h3, h4⟩ := hm
    refine ⟨by simp, .inl ⟨_, _, rfl, run_takeDeferred h3, ?_⟩⟩
    exact leaves_marks Φ hΦ hend r D _ (h4.keep (fun D' _ h6 h7 => (World.putObj_heap_other (by omega)).trans h7)) (hΦ W D h2 h h3)

theorem row_reads {W : World} {base P cp : Nat} {A' : Option Addr} {xs : List Int} (h : W.ownsRow base 3 1 (.slice A' P cp) P (xs.map (Value.int .i64))) : Reads W W.heap.size 1 A' P (xs.map (Value.int .i64)) := by
  refine ⟨by simpa using h.1, fun hn => ?_⟩
  obtain ⟨g, cap, e, _, hlt⟩ := row_form h hn
  simp only [Value.slice.injEq, true_and] at e
  obtain ⟨rfl, rfl⟩ := e
  refine ⟨_, rfl, hlt, fun j u hu => ?_⟩
  rw [add_lit', Nat.zero_add]
  have hj : j < P := by have := (List.getElem?_eq_some_iff.1 hu).1; have := h.1; omega
  rw [h.cellAt j (by omega)]; exact hu
theorem row_kx {w W : World} {base P : Nat} {v : Value} {xs : List Value} {ex : List Nat} (h : w.ownsRow base 3 1 v P xs) (hx : Kx w ex W) (hn : ∀ b, v.ownBlock = some b → b ∉ ex) : W.ownsRow base 3 1 v P xs := by
  obtain ⟨hl, h⟩ := h
  refine ⟨hl, ?_⟩
  rcases h with h | ⟨g, cap, cur, e, hB, hh, rest⟩
  · exact .inl h
  · exact .inr ⟨g, cap, cur, e, hB, (hx.block g (Array.getElem?_eq_some_iff.1 hh).1 (hn g (by rw [e]; rfl))).trans hh, rest⟩
/-- the row's own block, as a list. -/
def ownL (v : Value) : List Nat := v.ownBlock.toList
theorem mem_ownL {v : Value} {b : Nat} (h : b ∈ ownL v) : v.ownBlock = some b := by unfold ownL at h; simpa using h

/-- memory when a pass begins. -/
structure GW (w : World) (B0 P cp : Nat) (A' : Option Addr) (xs : List (List Int)) (res : List Int) (W : World) (ag : Nat) (mk : List Int) (b : Bool) : Prop where
  row : W.ownsRow B0 3 1 (.slice A' P cp) P (mk.map (Value.int .i64))
  agc : W.cell? ⟨ag, 0, none⟩ = some (.bool b)
  agf : W.frozen? ⟨ag, 0, none⟩ = false
  ags : w.heap.size < ag
  box : W.cell? ⟨w.heap.size, 0, none⟩ = some (.slice A' P cp)
  bel : Below B0 w W
  going : Going xs res mk b
  len : mk.length = P
/-- the frame and the memory when a pass begins; N: what is still to do, at most. -/
def GI (w : World) (bt B0 k P cp : Nat) (A' : Option Addr) (xs : List (List Int)) (res : List Int) (N : Nat) (a : Act) (W : World) : Prop :=
  ∃ (us : List Value) (ag : Nat) (mk : List Int) (b : Bool) (ds : List Deferred), us.length = 45 ∧
    a = { tmps := (Value.pointer (some ⟨bt, 0, none⟩) :: .slice A' P cp :: .int .i64 k :: undef :: .pointer (some ⟨w.heap.size, 0, none⟩) :: undef :: .slice none 0 0 :: .pointer (some ⟨ag, 0, none⟩) :: us).toArray, defers := ds } ∧
    N = 2 * nums mk + (if b then 1 else 0) ∧ GW w B0 P cp A' xs res W ag mk b ∧ Marks w.heap.size W W.heap.size ds

set_option maxRecDepth 100000 in
set_option maxHeartbeats 8000000 in
theorem grow_any (bt g cap B0 k P cp : Nat) (A' : Option Addr) (ks : List Cv.Kn) (vs : List Value) (m : List Int) (w : World) (hk : k < ks.length) (h : KsRd w B0 bt g cap ks vs) (hB : B0 ≤ w.heap.size) (hu : UpOk ks) (h300 : ks.length ≤ 300)
    (hP : ∀ kn ∈ ks, kn.mark.length = P) (h16 : P ≤ 16) (hm : m.length = P) (hrow : w.ownsRow B0 3 1 (.slice A' P cp) P (m.map (Value.int .i64))) :
    Calls Try.prog 21 #[.pointer (some ⟨bt, 0, none⟩), .slice A' P cp, .int .i64 k] w fun e w' => e = .returned (.slice A' P cp) ∧ w'.ownsRow B0 3 1 (.slice A' P cp) P ((Cv.growV (Cv.pathV ks k) m).map (Value.int .i64)) ∧ Below B0 w w' := by
  obtain ⟨n, pos, hc⟩ := chain_path hu (k := (k : Int)) (by omega) (by omega)
  have HC := Lib.hid hc
  have H := Lib.hid h
  have HU := Lib.hid hu
  have HP := Lib.hid hP
  have HROW := Lib.hid hrow
  have HM := Lib.hid hm
  clear hc h hu hP hrow hm
  obtain ⟨xs, hxs⟩ : ∃ xs, Cv.pathV ks k = xs := ⟨_, rfl⟩
  obtain ⟨res, hres⟩ : ∃ res, Cv.growV xs m = res := ⟨_, rfl⟩
  rw [hxs] at HC ⊢
  rw [hres]
  have HXL : Hid (∀ x ∈ xs, x.length = P) := Lib.hid (fun x hx => by
    obtain ⟨i, hi⟩ := List.mem_iff_getElem?.1 hx
    obtain ⟨_, _, kn, hkn, _, he⟩ := HC.out.inn i (by have := (List.getElem?_eq_some_iff.1 hi).1; rwa [HC.out.len] at this)
    rw [hi] at he
    cases he
    exact HP.out kn (List.mem_of_getElem? hkn))
  have HRES := Lib.hid hres
  clear hres hxs
  refine (callsIn_wide (n := 9)).1 ?_
  refine callsIn_of_wp_marks Try.func21 rfl trivial ?_
  simp only [Try.ntmps21, List.size_toArray, List.length_cons, List.length_nil, Nat.reduceAdd, Nat.reduceSub, Array.replicate_succ, Array.replicate_zero, List.push_toArray, List.append_toArray, List.nil_append, List.cons_append]
  gi_wp2
  refine wpIn_loop (fun a w' => ∃ N, GI w bt B0 k P cp A' xs res N a w') (fun a w' => least (fun N => GI w bt B0 k P cp A' xs res N a w')) ?start ?round
  case start =>
    refine ⟨_, _, w.heap.size + 1, m, true, [], ?_, rfl, rfl, ⟨?_, ?_, ?_, by omega, ?_, ?_, HRES.out ▸ going_start xs m, HM.out⟩, trivial⟩
    · rfl
    · exact (HROW.out.alloc _).alloc _
    · simp [go_sem]
    · simp [go_sem]
    · simp [go_sem]
    · exact ((Below.refl _ w).alloc hB _).alloc (by simp; omega) _
  rintro a W hex
  have hN := least_spec hex
  generalize least (fun N => GI w bt B0 k P cp A' xs res N a W) = N at hN ⊢
  clear hex
  obtain ⟨us, ag, mk, b, ds, hus, rfl, rfl, hgw, hmarks⟩ := hN
  have HG := Lib.hid hgw
  have HMK := Lib.hid hmarks
  clear hmarks
  obtain ⟨_, agc, agf, ags, box, _, _, _⟩ := hgw
  rcases us with _ | ⟨u8, us⟩
  · simp at hus
  rcases us with _ | ⟨u9, us⟩
  · simp at hus
  rcases us with _ | ⟨u10, us⟩
  · simp at hus
  rcases us with _ | ⟨u11, us⟩
  · simp at hus
  rcases us with _ | ⟨u12, us⟩
  · simp at hus
  rcases us with _ | ⟨u13, us⟩
  · simp at hus
  rcases us with _ | ⟨u14, us⟩
  · simp at hus
  rcases us with _ | ⟨u15, us⟩
  · simp at hus
  rcases us with _ | ⟨u16, us⟩
  · simp at hus
  rcases us with _ | ⟨u17, us⟩
  · simp at hus
  rcases us with _ | ⟨u18, us⟩
  · simp at hus
  rcases us with _ | ⟨u19, us⟩
  · simp at hus
  rcases us with _ | ⟨u20, us⟩
  · simp at hus
  rcases us with _ | ⟨u21, us⟩
  · simp at hus
  rcases us with _ | ⟨u22, us⟩
  · simp at hus
  rcases us with _ | ⟨u23, us⟩
  · simp at hus
  rcases us with _ | ⟨u24, us⟩
  · simp at hus
  rcases us with _ | ⟨u25, us⟩
  · simp at hus
  rcases us with _ | ⟨u26, us⟩
  · simp at hus
  rcases us with _ | ⟨u27, us⟩
  · simp at hus
  rcases us with _ | ⟨u28, us⟩
  · simp at hus
  rcases us with _ | ⟨u29, us⟩
  · simp at hus
  rcases us with _ | ⟨u30, us⟩
  · simp at hus
  rcases us with _ | ⟨u31, us⟩
  · simp at hus
  rcases us with _ | ⟨u32, us⟩
  · simp at hus
  rcases us with _ | ⟨u33, us⟩
  · simp at hus
  rcases us with _ | ⟨u34, us⟩
  · simp at hus
  rcases us with _ | ⟨u35, us⟩
  · simp at hus
  rcases us with _ | ⟨u36, us⟩
  · simp at hus
  rcases us with _ | ⟨u37, us⟩
  · simp at hus
  rcases us with _ | ⟨u38, us⟩
  · simp at hus
  rcases us with _ | ⟨u39, us⟩
  · simp at hus
  rcases us with _ | ⟨u40, us⟩
  · simp at hus
  rcases us with _ | ⟨u41, us⟩
  · simp at hus
  rcases us with _ | ⟨u42, us⟩
  · simp at hus
  rcases us with _ | ⟨u43, us⟩
  · simp at hus
  rcases us with _ | ⟨u44, us⟩
  · simp at hus
  rcases us with _ | ⟨u45, us⟩
  · simp at hus
  rcases us with _ | ⟨u46, us⟩
  · simp at hus
  rcases us with _ | ⟨u47, us⟩
  · simp at hus
  rcases us with _ | ⟨u48, us⟩
  · simp at hus
  rcases us with _ | ⟨u49, us⟩
  · simp at hus
  rcases us with _ | ⟨u50, us⟩
  · simp at hus
  rcases us with _ | ⟨u51, us⟩
  · simp at hus
  rcases us with _ | ⟨u52, us⟩
  · simp at hus
  obtain rfl : us = [] := List.length_eq_zero_iff.1 (by simpa using hus)
  clear hus
  have HOWN : Hid (∀ b ∈ ownL (.slice A' P cp), B0 ≤ b ∧ b < w.heap.size) := Lib.hid (fun b hb => HROW.out.lt b (mem_ownL hb))
  cases b with
  | false =>
    gi_wp2
    refine leaves_marks (s := w.heap.size) (fun V => V.ownsRow B0 3 1 (.slice A' P cp) P (res.map (Value.int .i64)) ∧ Below B0 w V) ?_ ?_ ds _ W HMK.out ⟨by rw [← HG.out.going.stop rfl]; exact HG.out.row, HG.out.bel⟩
    · rintro V D hD ⟨h1, h2⟩ h3
      exact ⟨ownsRow_putObj h1 _ h3 rfl, h2.trans ⟨rfl, rfl, rfl, by simp [World.putObj], fun j hj => World.putObj_heap_other (by omega)⟩⟩
    · rintro V ⟨h1, h2⟩
      exact ⟨_, results_tmp rfl _ _ _, rfl, h1, h2⟩
  | true =>
    have hagl : ag < W.heap.size := cell_lt agc
    gi_wp2
    obtain ⟨Wa, hWa⟩ : ∃ Wa, W.setCell ⟨ag, 0, none⟩ (.bool false) = Wa := ⟨_, rfl⟩
    have hsa : Wa.heap.size = W.heap.size := by rw [← hWa]; simp
    have HA := Lib.hid (ahead_at ⟨bt, 0, none⟩ k Wa W.heap.size hsa)
    rw [hWa]
    refine ⟨trivial, (wide_calls HA.out).mono ?_⟩
    rintro e w2 ⟨rfl, hb2, hsz2, k0, k1, k2⟩
    have HB2 := Lib.hid hb2
    clear hb2 HA
    gi_wp2
    refine range_walk (l := W.heap.size + 3) rfl (enters_of Try.func35 (by kernel_rfl) rfl) (by omega) (fun rec hyield => ?_)
    have HY := Lib.hid hyield
    clear hyield
    obtain ⟨W1, hW1⟩ : ∃ W1, (w2.alloc (.deferred (some []))).alloc (.loop (rec .ready none)) = W1 := ⟨_, rfl⟩
    rw [hW1]
    have HB3 : Hid (Below w2.heap.size w2 W1) := Lib.hid (hW1 ▸ ((Below.refl _ w2).alloc (Nat.le_refl _) _).alloc (by simp) _)
    have hszW : W1.heap.size = W.heap.size + 4 := by rw [← hW1]; simp; omega
    have hlo : W1.heap[W.heap.size + 3]? = some (.loop (rec .ready none)) := by
      rw [← hW1, show W.heap.size + 3 = (w2.alloc (.deferred (some []))).heap.size by simp; omega]; exact World.alloc_heap_new _ _
    have hde : W1.heap[W.heap.size + 2]? = some (.deferred (some [])) := by
      rw [← hW1, show W.heap.size + 2 = w2.heap.size by omega]; exact (Below.heap_alloc _ _ _ (by simp)).trans (World.alloc_heap_new w2 _)
    clear hW1
    obtain ⟨own, hown⟩ : ∃ own, ownL (.slice A' P cp) = own := ⟨_, rfl⟩
    rw [hown] at HOWN
    have HON : Hid (∀ b, (Value.slice A' P cp).ownBlock = some b → b ∈ own) := Lib.hid (fun b hb => by rw [← hown]; unfold ownL; rw [hb]; simp)
    clear hown
    have HKa : Hid (Kx W [ag] Wa) := Lib.hid (hWa ▸ (Kx.refl W [ag]).set (.inl (by simp)) _)
    have HB5 : Hid (Below W.heap.size Wa W1) := Lib.hid (HB2.out.trans (HB3.out.mono (by omega)))
    have hag0 : Wa.cell? ⟨ag, 0, none⟩ = some (.bool false) := by rw [← hWa]; exact World.cell?_setCell_same' _ _ _ (by rw [agc]; rfl)
    have hag1 : Wa.frozen? ⟨ag, 0, none⟩ = false := by rw [← hWa, World.frozen?_setCell]; exact agf
    clear hWa
    have d0 := (HB5.out.cell (p := ⟨ag, 0, none⟩) (by dsimp only; omega)).trans hag0
    have d1 := (HB5.out.frozen (p := ⟨ag, 0, none⟩) (by dsimp only; omega)).trans hag1
    have hsl := cell_lt box
    have d2 := (HB5.out.cell (p := ⟨w.heap.size, 0, none⟩) hsl).trans (HKa.out.cell (p := ⟨w.heap.size, 0, none⟩) (by simp; omega) box)
    have m0 := (HB3.out.cell (p := ⟨W.heap.size + 1, 0, none⟩) (by dsimp only; omega)).trans k0
    have m1 := (HB3.out.frozen (p := ⟨W.heap.size + 1, 0, none⟩) (by dsimp only; omega)).trans k1
    have m2 := (HB3.out.cell (p := ⟨W.heap.size, 0, none⟩) (by dsimp only; omega)).trans k2
    have HR1 : Hid (W1.ownsRow B0 3 1 (.slice A' P cp) P (mk.map (Value.int .i64))) := Lib.hid (row_kx (row_kx HG.out.row HKa.out (fun b hb => by have := HOWN.out b (HON.out b hb); simp; omega)) (Kx.of_below (hsa ▸ HB5.out) []) (fun b _ => by simp))
    have HBW : Hid (Below B0 w W1) := Lib.hid (HG.out.bel.trans ((HKa.out.below (by simp; omega) (by omega)).trans (HB5.out.mono (by omega))))
    clear k0 k1 k2 hag0 hag1 HB2 HB3
    have HBV : Hid (∀ V, Kx W1 ((W.heap.size + 1) :: (W.heap.size + 3) :: ag :: own) V → Below B0 w V) := Lib.hid (fun V hV => HBW.out.trans (hV.below (fun b hb => by
      simp only [List.mem_cons] at hb
      rcases hb with rfl | rfl | rfl | hb
      · omega
      · omega
      · omega
      · exact (HOWN.out b hb).1) (by omega)))
    have HLK : Hid (∀ V q, Kx W1 ((W.heap.size + 1) :: (W.heap.size + 3) :: ag :: own) V → V.cell? ⟨W.heap.size + 1, 0, none⟩ = some (.int .i64 q) → V.frozen? ⟨W.heap.size + 1, 0, none⟩ = false → Look V (W.heap.size + 1) W.heap.size bt g cap ks vs q) :=
      Lib.hid (fun V q h1 h2 h3 => (H.out.below (HBV.out V h1)).look h2 h3 (h1.cell (fun hb => by
        simp only [List.mem_cons] at hb
        rcases hb with hb | hb | hb | hb
        · omega
        · omega
        · omega
        · have := (HOWN.out _ hb).2; omega) m2))
    simp only [List.append_toArray, List.cons_append, List.nil_append]
    refine (ahead1_any 8 (W.heap.size + 3) (W.heap.size + 1) W.heap.size bt g cap n ks vs k xs pos HC.out h300 H.out.len
      (fun i V => Kx W1 ((W.heap.size + 1) :: (W.heap.size + 3) :: ag :: own) V ∧ V.heap[W.heap.size + 3]? = some (.loop (rec .ready none)) ∧ V.cell? ⟨W.heap.size + 1, 0, none⟩ = some (.int .i64 (pos i)) ∧ V.frozen? ⟨W.heap.size + 1, 0, none⟩ = false ∧
        V.ownsRow B0 3 1 (.slice A' P cp) P (((xs.take i).foldl Cv.growStep (mk, false)).1.map (Value.int .i64)) ∧ V.cell? ⟨ag, 0, none⟩ = some (.bool ((xs.take i).foldl Cv.growStep (mk, false)).2) ∧ V.frozen? ⟨ag, 0, none⟩ = false)
      (fun i V => Kx W1 ((W.heap.size + 1) :: (W.heap.size + 3) :: ag :: own) V ∧ V.heap[W.heap.size + 3]? = some (.loop (rec .ready none)) ∧ V.cell? ⟨W.heap.size + 1, 0, none⟩ = some (.int .i64 (pos i)) ∧ V.frozen? ⟨W.heap.size + 1, 0, none⟩ = false ∧
        V.ownsRow B0 3 1 (.slice A' P cp) P (((xs.take (i + 1)).foldl Cv.growStep (mk, false)).1.map (Value.int .i64)) ∧ V.cell? ⟨ag, 0, none⟩ = some (.bool ((xs.take (i + 1)).foldl Cv.growStep (mk, false)).2) ∧ V.frozen? ⟨ag, 0, none⟩ = false)
      (fun V => False)
      (fun i V h => HLK.out V _ h.1 h.2.2.1 h.2.2.2.1) (fun i V h => HLK.out V _ h.1 h.2.2.1 h.2.2.2.1)
      (fun i V q h => ⟨h.1.drew q, h.2⟩) (fun i V q h => ⟨h.1.drew q, h.2⟩) ?inner ?step W1 ⟨Kx.refl _ _, hlo, by rw [HC.out.zero]; exact m0, m1, by simpa using HR1.out, by simpa using d0, d1⟩).mono ?fin
    case step =>
      rintro i V hi ⟨h1, h2, h3, h4, h5, h6, h7⟩
      have hne : ∀ b, (Value.slice A' P cp).ownBlock = some b → b ∉ [W.heap.size + 1] := fun b hb => by have := HOWN.out b (HON.out b hb); simp; omega
      exact ⟨h1.set (.inl (by simp)) _, by rw [heap_set_other (by simp)]; exact h2, World.cell?_setCell_same' _ _ _ (by rw [h3]; rfl), by rw [World.frozen?_setCell]; exact h4,
        row_kx h5 ((Kx.refl V [W.heap.size + 1]).set (.inl (by simp)) _) hne, ((Kx.refl V [W.heap.size + 1]).set (.inl (by simp)) _).cell (by simp; omega) h6, by rw [World.frozen?_setCell]; exact h7⟩
    case fin =>
      rintro e W2 ⟨⟨v', rfl⟩, (⟨h1, h2, h3, h4, h5, h6, h7⟩ | h)⟩
      · refine ⟨⟨_, rfl⟩, .inl ⟨h2, ?_⟩⟩
        rw [← HC.out.len, List.take_length] at h5 h6
        have HPASS := Lib.hid (going_pass HG.out.going (fun x hx => by rw [HXL.out x hx, HG.out.len]))
        obtain ⟨st, hst⟩ : ∃ st, xs.foldl Cv.growStep (mk, false) = st := ⟨_, rfl⟩
        rw [hst] at h5 h6 HPASS
        clear hst
        obtain ⟨mn, bn⟩ := st
        dsimp only at h5 h6
        have hna : ag ≠ W.heap.size + 3 := by omega
        have hns : w.heap.size ≠ W.heap.size + 3 := by omega
        have q2 := (cell_put (p := ⟨w.heap.size, 0, none⟩) (l := W.heap.size + 3) hns (.loop (rec .exhausted none))).trans (h1.cell (p := ⟨w.heap.size, 0, none⟩) (fun hb => by
          simp only [List.mem_cons] at hb
          rcases hb with hb | hb | hb | hb
          · omega
          · omega
          · omega
          · have := (HOWN.out _ hb).2; omega) d2)
        have q8 := (cell_put (p := ⟨ag, 0, none⟩) (l := W.heap.size + 3) hna (.loop (rec .exhausted none))).trans h6
        have HRN : Hid ((W2.putObj (W.heap.size + 3) (.loop (rec .exhausted none))).ownsRow B0 3 1 (.slice A' P cp) P (mn.map (Value.int .i64))) := Lib.hid (row_kx h5 ((Kx.refl W2 [W.heap.size + 3]).put (.inl (by simp)) _) (fun b hb => by have := HOWN.out b (HON.out b hb); simp; omega))
        have HBN : Hid (Below B0 w (W2.putObj (W.heap.size + 3) (.loop (rec .exhausted none)))) := Lib.hid (HBV.out _ (h1.put (.inl (by simp)) _))
        have HDE : Hid ((W2.putObj (W.heap.size + 3) (.loop (rec .exhausted none))).heap[W.heap.size + 2]? = some (.deferred (some []))) := Lib.hid ((World.putObj_heap_other (by omega)).trans ((h1.block _ (by omega) (fun hb => by
          simp only [List.mem_cons] at hb
          rcases hb with hb | hb | hb | hb
          · omega
          · omega
          · omega
          · have := (HOWN.out _ hb).2; omega)).trans hde))
        have HMK2 : Hid (Marks w.heap.size (W2.putObj (W.heap.size + 3) (.loop (rec .exhausted none))) W.heap.size ds) := Lib.hid (HMK.out.keep (fun D hD1 hD2 hD3 => by
          rw [World.putObj_heap_other (by omega), h1.block D (by omega) (fun hb => by
            simp only [List.mem_cons] at hb
            rcases hb with hb | hb | hb | hb
            · omega
            · omega
            · subst hb
              unfold World.cell? at agc
              rw [hD3] at agc
              cases agc
            · have := (HOWN.out _ hb).2; omega), HB5.out.block D (by omega), HKa.out.block D (by omega) (fun hb => by
              simp only [List.mem_cons, List.not_mem_nil, or_false] at hb
              subst hb
              unfold World.cell? at agc
              rw [hD3] at agc
              cases agc)]
          exact hD3))
        have hsn : W.heap.size + 4 ≤ (W2.putObj (W.heap.size + 3) (.loop (rec .exhausted none))).heap.size := by have := h1.size; simp [World.putObj]; omega
        clear h1 h2 h3 h4 h5 h6 h7 hlo hde d0 d1 d2 m0 m1 m2 agf box agc
        generalize W2.putObj (W.heap.size + 3) (.loop (rec .exhausted none)) = We at *
        rw [hsz2]
        gi_wp2
        refine least_drop (m := 2 * nums mn + (if bn then 1 else 0)) ⟨_, We.heap.size, mn, bn, _, ?hlen, rfl, rfl, ?gw, ?mks⟩ ?lt
        case hlen => rfl
        case lt => have := HPASS.out.2.1; simpa using this
        case gw => exact ⟨HRN.out.alloc _, by simp [go_sem], by simp [go_sem], by omega, (World.cell?_alloc_lt _ _ ⟨w.heap.size, 0, none⟩ (cell_lt q2)).trans q2, HBN.out.alloc (by omega) _, HPASS.out.1, HPASS.out.2.2.trans HG.out.len⟩
        case mks =>
          refine ⟨W.heap.size + 2, rfl, by simp; omega, by omega, (Below.heap_alloc _ _ _ (by omega)).trans HDE.out, ?_⟩
          exact (HMK2.out.more (by omega : W.heap.size ≤ W.heap.size + 2)).keep (fun D hD1 hD2 hD3 => (Below.heap_alloc _ _ _ (by omega)).trans hD3)
      · exact h.elim
    case inner =>
      rintro i hi V v' ⟨h1, h2, h3, h4, h5, h6, h7⟩ hv'
      refine HY.out _ _ _ _ h2 rfl ?_
      simp only [List.zip_toArray, List.zip_cons_cons, List.zip_nil_right, List.foldl_toArray, List.foldl_cons, List.foldl_nil, List.setIfInBounds_toArray, List.set_cons_succ, List.set_cons_zero]
      obtain ⟨_, _, ki, hki, _, hxi⟩ := HC.out.inn i hi
      obtain ⟨_, _, _, A1, c1, rfl, _, _, hr0⟩ := H.out.kn _ _ _ hki hv'
      have hkl := HP.out ki (List.mem_of_getElem? hki)
      rw [hkl] at hr0 hv' ⊢
      have hr' := hr0.below (HBV.out V h1)
      have HXR : Hid (∀ V, Kx W1 ((W.heap.size + 1) :: (W.heap.size + 3) :: ag :: own) V → Reads V B0 1 A1 P (ki.mark.map (Value.int .i64))) := Lib.hid (fun V h => hr0.below (HBV.out V h))
      have HXI := Lib.hid hxi
      have hns : w.heap.size ≠ W.heap.size + 3 := by omega
      have hna : ag ≠ W.heap.size + 3 := by omega
      have q2 := (cell_put (p := ⟨w.heap.size, 0, none⟩) (l := W.heap.size + 3) hns (.loop (rec .busy none))).trans (h1.cell (p := ⟨w.heap.size, 0, none⟩) (fun hb => by
        simp only [List.mem_cons] at hb
        rcases hb with hb | hb | hb | hb
        · omega
        · omega
        · omega
        · have := (HOWN.out _ hb).2; omega) d2)
      have q6 := (cell_put (p := ⟨W.heap.size + 1, 0, none⟩) (l := W.heap.size + 3) (by simp) (.loop (rec .busy none))).trans h3
      have q7 := (frozen_put (p := ⟨W.heap.size + 1, 0, none⟩) (l := W.heap.size + 3) (by simp) (.loop (rec .busy none))).trans h4
      have q8 := (cell_put (p := ⟨ag, 0, none⟩) (l := W.heap.size + 3) hna (.loop (rec .busy none))).trans h6
      have q9 := (frozen_put (p := ⟨ag, 0, none⟩) (l := W.heap.size + 3) hna (.loop (rec .busy none))).trans h7
      have HQ6 := Lib.hid q6
      have HQ7 := Lib.hid q7
      have HKX : Hid (Kx W1 ((W.heap.size + 1) :: (W.heap.size + 3) :: ag :: own) (V.putObj (W.heap.size + 3) (.loop (rec .busy none)))) := Lib.hid (h1.put (.inl (by simp)) _)
      have HLO : Hid ((V.putObj (W.heap.size + 3) (.loop (rec .busy none))).heap[W.heap.size + 3]? = some (.loop (rec .busy none))) := Lib.hid (World.putObj_heap_same (by have := h1.size; omega))
      have HRX : Hid (Reads (V.putObj (W.heap.size + 3) (.loop (rec .busy none))) B0 1 A1 P (ki.mark.map (Value.int .i64))) := Lib.hid (hr'.keep (fun p hp => cell_put (by omega) _))
      have HRM : Hid ((V.putObj (W.heap.size + 3) (.loop (rec .busy none))).ownsRow B0 3 1 (.slice A' P cp) P (((xs.take i).foldl Cv.growStep (mk, false)).1.map (Value.int .i64))) := Lib.hid (row_kx h5 ((Kx.refl V [W.heap.size + 3]).put (.inl (by simp)) _) (fun b hb => by have := HOWN.out b (HON.out b hb); simp; omega))
      have HKL := Lib.hid hkl
      have HST : Hid ((xs.take (i + 1)).foldl Cv.growStep (mk, false) = Cv.growStep ((xs.take i).foldl Cv.growStep (mk, false)) ki.mark) := Lib.hid (by
        rw [List.take_add_one, hxi]
        simp [List.foldl_append])
      rw [HST.out]
      clear q6 q7 hkl hxi hr0 hr' hki hv' h1 h3 h4 h5 h6 h7 hlo hde d0 d1 d2 m0 m1 m2 agc agf box
      obtain ⟨st, hst⟩ : ∃ st, (xs.take i).foldl Cv.growStep (mk, false) = st := ⟨_, rfl⟩
      rw [hst] at HRM HST q8 ⊢
      clear hst
      obtain ⟨mi, bi⟩ := st
      dsimp only at q8
      have hml : mi.length = P := by have := HRM.out.1; simpa using this
      have HBL := Lib.hid (below_any A1 A' P c1 cp ki.mark mi B0 _ (V.putObj (W.heap.size + 3) (.loop (rec .busy none))) (by omega) HKL.out hml HRX.out (row_reads HRM.out))
      gi_wp2
      clear h2
      generalize V.putObj (W.heap.size + 3) (.loop (rec .busy none)) = Vb at *
      refine ⟨trivial, (CallsIn.inRound _ (wide_calls HBL.out)).mono ?_⟩
      rintro e w4 ⟨rfl, rfl⟩
      have HEND : Hid (∀ (V' : World) (mi' : List Int) (bi' : Bool), Kx W1 ((W.heap.size + 1) :: (W.heap.size + 3) :: ag :: own) V' → V'.heap[W.heap.size + 3]? = some (.loop (rec .busy none)) → V'.cell? ⟨W.heap.size + 1, 0, none⟩ = some (.int .i64 (pos i)) → V'.frozen? ⟨W.heap.size + 1, 0, none⟩ = false →
          V'.ownsRow B0 3 1 (.slice A' P cp) P (mi'.map (Value.int .i64)) → V'.cell? ⟨ag, 0, none⟩ = some (.bool bi') → V'.frozen? ⟨ag, 0, none⟩ = false → Cv.growStep (mi, bi) ki.mark = (mi', bi') →
          Kx W1 ((W.heap.size + 1) :: (W.heap.size + 3) :: ag :: own) (V'.putObj (W.heap.size + 3) (.loop (rec .ready none))) ∧ (V'.putObj (W.heap.size + 3) (.loop (rec .ready none))).heap[W.heap.size + 3]? = some (.loop (rec .ready none)) ∧ (V'.putObj (W.heap.size + 3) (.loop (rec .ready none))).cell? ⟨W.heap.size + 1, 0, none⟩ = some (.int .i64 (pos i)) ∧
          (V'.putObj (W.heap.size + 3) (.loop (rec .ready none))).frozen? ⟨W.heap.size + 1, 0, none⟩ = false ∧ (V'.putObj (W.heap.size + 3) (.loop (rec .ready none))).ownsRow B0 3 1 (.slice A' P cp) P ((Cv.growStep (mi, bi) ki.mark).1.map (Value.int .i64)) ∧
          (V'.putObj (W.heap.size + 3) (.loop (rec .ready none))).cell? ⟨ag, 0, none⟩ = some (.bool (Cv.growStep (mi, bi) ki.mark).2) ∧ (V'.putObj (W.heap.size + 3) (.loop (rec .ready none))).frozen? ⟨ag, 0, none⟩ = false) :=
        Lib.hid (fun V' mi' bi' a1 a2 a3 a4 a5 a6 a7 a8 => by
          rw [a8]
          exact ⟨a1.put (.inl (by simp)) _, World.putObj_heap_same (Array.getElem?_eq_some_iff.1 a2).1, (cell_put (by simp) _).trans a3, (frozen_put (by simp) _).trans a4,
            row_kx a5 ((Kx.refl V' [W.heap.size + 3]).put (.inl (by simp)) _) (fun b hb => by have := HOWN.out b (HON.out b hb); simp; omega), (cell_put hna _).trans a6, (frozen_put hna _).trans a7⟩)
      cases hbl : Cv.belowV ki.mark mi with
      | false =>
        have HGS : Hid (Cv.growStep (mi, bi) ki.mark = (mi, bi)) := Lib.hid (by unfold Cv.growStep; simp [hbl])
        clear hbl
        gi_wp2
        exact ⟨HLO.out, rfl, HEND.out Vb mi bi HKX.out HLO.out HQ6.out HQ7.out HRM.out q8 q9 HGS.out⟩
      | true =>
        have HGS : Hid (Cv.growStep (mi, bi) ki.mark = (Cv.raiseV ki.mark mi, bi || (Cv.raiseV ki.mark mi != mi))) := Lib.hid (by unfold Cv.growStep; simp [hbl])
        have HRL : Hid ((Cv.raiseV ki.mark mi).length = P) := Lib.hid (by rw [Cv.raise_len _ _ (by rw [HKL.out, hml]), hml])
        have HRA : Hid (∀ q, q < P → (Cv.raiseV ki.mark mi)[q]? = some (if mi[q]?.getD 0 ≠ -1 ∧ ki.mark[q]?.getD 0 < mi[q]?.getD 0 ∧ ki.mark[q]?.getD 0 ≠ -1 then -1 else mi[q]?.getD 0)) := Lib.hid (fun q hq => raise_at HKL.out hml hq)
        clear hbl
        gi_wp2
        gi_loopw [21] (fun p wr => ∃ q : Nat, q ≤ P ∧ p = .int .i64 q ∧ Kx W1 ((W.heap.size + 1) :: (W.heap.size + 3) :: ag :: own) wr ∧ wr.heap[W.heap.size + 3]? = some (.loop (rec .busy none)) ∧ wr.cell? ⟨W.heap.size + 1, 0, none⟩ = some (.int .i64 (pos i)) ∧ wr.frozen? ⟨W.heap.size + 1, 0, none⟩ = false ∧
          wr.ownsRow B0 3 1 (.slice A' P cp) P ((part (Cv.raiseV ki.mark mi) mi q).map (Value.int .i64)) ∧ wr.cell? ⟨ag, 0, none⟩ = some (.bool (bi || (part (Cv.raiseV ki.mark mi) mi q != mi))) ∧ wr.frozen? ⟨ag, 0, none⟩ = false ∧ wr.cell? ⟨w.heap.size, 0, none⟩ = some (.slice A' P cp)) (fun p _ => P - (intOf p).toNat)
        case atStart => exact ⟨0, Nat.zero_le _, rfl, HKX.out, HLO.out, HQ6.out, HQ7.out, by rw [part_zero]; exact HRM.out, by rw [part_zero]; simpa using q8, q9, q2⟩
        case round =>
          obtain ⟨q, hq, rfl, a1, a2, a3, a4, a5, a6, a7, a8⟩ := hrel
          by_cases hlt : q < P
          · obtain ⟨g', cap', e, hg1, hg2⟩ := row_form a5 (by omega)
            simp only [Value.slice.injEq, true_and] at e
            obtain ⟨rfl, rfl⟩ := e
            obtain ⟨ad, rfl, _, f1⟩ := (HXR.out wr a1).int_at hlt
            have f0 := row_int a5 hlt
            rw [part_get HRL.out hml hlt] at f0
            have HAT := Lib.hid (HRA.out q hlt)
            have hfz := a5.frozenAt q
            have hgl : g' < w.heap.size := (HOWN.out g' (HON.out g' rfl)).2
            have HA5 := Lib.hid a5
            have HA1 := Lib.hid a1
            have HA2 := Lib.hid a2
            have HA3 := Lib.hid a3
            have HA4 := Lib.hid a4
            have HA8 := Lib.hid a8
            have HSAME : Hid ((Cv.raiseV ki.mark mi)[q]? = some (mi[q]?.getD 0) → part (Cv.raiseV ki.mark mi) mi (q + 1) = part (Cv.raiseV ki.mark mi) mi q ∧ (part (Cv.raiseV ki.mark mi) mi (q + 1) != mi) = (part (Cv.raiseV ki.mark mi) mi q != mi)) := Lib.hid (fun h => ⟨part_same HRL.out hml hlt h, flag_same HRL.out hml hlt h⟩)
            have HNEW : Hid (mi[q]?.getD 0 ≠ -1 → (Cv.raiseV ki.mark mi)[q]? = some (-1) → part (Cv.raiseV ki.mark mi) mi (q + 1) = (part (Cv.raiseV ki.mark mi) mi q).set q (-1) ∧ (part (Cv.raiseV ki.mark mi) mi (q + 1) != mi) = true) := Lib.hid (fun hne h => ⟨part_succ HRL.out hml hlt h, flag_new HRL.out hml hlt h (Ne.symm hne)⟩)
            clear a1 a2 a3 a4 a5
            generalize ki.mark[q]?.getD 0 = x at *
            generalize mi[q]?.getD 0 = y at *
            have HGO : Hid (∀ wq, (∃ m, wq = World.drewN wr m) → (Cv.raiseV ki.mark mi)[q]? = some y → Kx W1 ((W.heap.size + 1) :: (W.heap.size + 3) :: ag :: own) wq ∧ wq.heap[W.heap.size + 3]? = some (.loop (rec .busy none)) ∧ wq.cell? ⟨W.heap.size + 1, 0, none⟩ = some (.int .i64 (pos i)) ∧ wq.frozen? ⟨W.heap.size + 1, 0, none⟩ = false ∧
                wq.ownsRow B0 3 1 (.slice (some ⟨g', 0, none⟩) P cp) P ((part (Cv.raiseV ki.mark mi) mi (q + 1)).map (Value.int .i64)) ∧ wq.cell? ⟨ag, 0, none⟩ = some (.bool (bi || (part (Cv.raiseV ki.mark mi) mi (q + 1) != mi))) ∧ wq.frozen? ⟨ag, 0, none⟩ = false ∧ wq.cell? ⟨w.heap.size, 0, none⟩ = some (.slice (some ⟨g', 0, none⟩) P cp)) :=
              Lib.hid (fun wq hm hs => by
                obtain ⟨m, rfl⟩ := hm
                obtain ⟨s1, s2⟩ := HSAME.out hs
                rw [s2, s1]
                exact ⟨HA1.out.drew m, HA2.out, HA3.out, HA4.out, HA5.out, a6, a7, HA8.out⟩)
            by_cases h1 : y = -1
            · have hb1 : (y != -1) = false := by simpa using h1
              have HS := Lib.hid (HAT.out.trans (congrArg some (if_neg (fun e => e.1 h1))))
              clear h1
              gi_wp2
              refine round_quiet (by kernel_rfl) (by kernel_rfl) ?_
              repeat (go_big_quiet_step (fail))
              refine wpQuiet_nil ?_
              rintro _ ⟨nq, rfl⟩
              have HJ := Lib.hid (HGO.out _ ⟨nq, rfl⟩ HS.out)
              clear f0 f1 a6 a7 a8 hfz
              generalize World.drewN wr nq = wq at *
              gi_wp2
              go_roundw
              case rel => exact ⟨q + 1, by omega, by go_num, HJ.out⟩
              case measure => simp [intOf]; omega
            · have hb1 : (y != -1) = true := by simpa using h1
              by_cases h2 : x < y
              · by_cases h3 : x = -1
                · have hb3 : (x != -1) = false := by simpa using h3
                  have HS := Lib.hid (HAT.out.trans (congrArg some (if_neg (fun e => e.2.2 h3))))
                  clear h3
                  gi_wp2
                  refine round_quiet (by kernel_rfl) (by kernel_rfl) ?_
                  repeat (go_big_quiet_step (fail))
                  refine wpQuiet_nil ?_
                  rintro _ ⟨nq, rfl⟩
                  have HJ := Lib.hid (HGO.out _ ⟨nq, rfl⟩ HS.out)
                  clear f0 f1 a6 a7 a8 hfz
                  generalize World.drewN wr nq = wq at *
                  gi_wp2
                  go_roundw
                  case rel => exact ⟨q + 1, by omega, by go_num, HJ.out⟩
                  case measure => simp [intOf]; omega
                · have hb3 : (x != -1) = true := by simpa using h3
                  have HS := Lib.hid (HAT.out.trans (congrArg some (if_pos ⟨h1, h2, h3⟩)))
                  have HNW := Lib.hid (HNEW.out h1 HS.out)
                  gi_wp2
                  refine round_quiet (by kernel_rfl) (by kernel_rfl) ?_
                  repeat (go_big_quiet_step (fail))
                  refine wpQuiet_nil ?_
                  rintro _ ⟨nq, rfl⟩
                  replace f0 : (World.drewN wr nq).cell? ⟨g', q, none⟩ = some (.int .i64 y) := f0
                  replace hfz : (World.drewN wr nq).frozen? ⟨g', q, none⟩ = false := hfz
                  replace a6 : (World.drewN wr nq).cell? ⟨ag, 0, none⟩ = some (.bool (bi || (part (Cv.raiseV ki.mark mi) mi q != mi))) := a6
                  replace a7 : (World.drewN wr nq).frozen? ⟨ag, 0, none⟩ = false := a7
                  replace a8 : (World.drewN wr nq).cell? ⟨w.heap.size, 0, none⟩ = some (.slice (some ⟨g', 0, none⟩) P cp) := a8
                  replace HA1 : Hid (Kx W1 ((W.heap.size + 1) :: (W.heap.size + 3) :: ag :: own) (World.drewN wr nq)) := Lib.hid (HA1.out.drew nq)
                  replace HA2 : Hid ((World.drewN wr nq).heap[W.heap.size + 3]? = some (.loop (rec .busy none))) := HA2
                  replace HA3 : Hid ((World.drewN wr nq).cell? ⟨W.heap.size + 1, 0, none⟩ = some (.int .i64 (pos i))) := HA3
                  replace HA4 : Hid ((World.drewN wr nq).frozen? ⟨W.heap.size + 1, 0, none⟩ = false) := HA4
                  replace HA5 : Hid ((World.drewN wr nq).ownsRow B0 3 1 (.slice (some ⟨g', 0, none⟩) P cp) P ((part (Cv.raiseV ki.mark mi) mi q).map (Value.int .i64))) := HA5
                  clear HA8 HSAME HGO f1
                  generalize World.drewN wr nq = wq at *
                  have hga : ag ≠ g' := by omega
                  have hgn : g' ∈ own := HON.out g' rfl
                  have hfa : (wq.setCell ⟨g', q, none⟩ (.int .i64 (-1))).frozen? ⟨ag, 0, none⟩ = false := by rw [World.frozen?_setCell]; exact a7
                  have HXX : Hid (Kx wq [g', ag] ((wq.setCell ⟨g', q, none⟩ (.int .i64 (-1))).setCell ⟨ag, 0, none⟩ (.bool true))) := Lib.hid (((Kx.refl wq [g', ag]).set (.inl (by simp)) _).set (.inl (by simp)) _)
                  gi_wp2
                  go_roundw
                  case rel =>
                    refine ⟨q + 1, by omega, by go_num, (HA1.out.set (.inl (by simp [hgn])) _).set (.inl (by simp)) _, ?_, ?_, ?_, ?_, ?_, ?_, ?_⟩
                    · rw [heap_set_other (by dsimp only; omega), heap_set_other (by dsimp only; omega)]; exact HA2.out
                    · exact HXX.out.cell (by simp; omega) HA3.out
                    · rw [World.frozen?_setCell, World.frozen?_setCell]; exact HA4.out
                    · rw [HNW.out.1]
                      exact row_kx (row_set HA5.out (-1)) ((Kx.refl _ [ag]).set (.inl (by simp)) _) (fun b hb => by simp only [Value.ownBlock, Option.some.injEq] at hb; simp; omega)
                    · rw [HNW.out.2, Bool.or_true]
                      exact World.cell?_setCell_same' _ _ _ (by rw [((Kx.refl wq [g']).set (.inl (by simp)) _).cell (by simp; omega) a6]; rfl)
                    · rw [World.frozen?_setCell]; exact hfa
                    · exact HXX.out.cell (by simp; omega) a8
                  case measure => simp [intOf]; omega
              · have hb2 : decide (x < y) = false := by simpa using h2
                have HS := Lib.hid (HAT.out.trans (congrArg some (if_neg (fun e => h2 e.2.1))))
                clear h2
                gi_wp2
                refine round_quiet (by kernel_rfl) (by kernel_rfl) ?_
                repeat (go_big_quiet_step (fail))
                refine wpQuiet_nil ?_
                rintro _ ⟨nq, rfl⟩
                have HJ := Lib.hid (HGO.out _ ⟨nq, rfl⟩ HS.out)
                clear f0 f1 a6 a7 a8 hfz
                generalize World.drewN wr nq = wq at *
                gi_wp2
                go_roundw
                case rel => exact ⟨q + 1, by omega, by go_num, HJ.out⟩
                case measure => simp [intOf]; omega
          · obtain rfl : q = P := by omega
            have HF := Lib.hid (HEND.out wr (Cv.raiseV ki.mark mi) (bi || (Cv.raiseV ki.mark mi != mi)) a1 a2 a3 a4 (by rw [part_all HRL.out hml] at a5; exact a5) (by rw [part_all HRL.out hml] at a6; exact a6) a7 HGS.out)
            have HA2 := Lib.hid a2
            clear a1 a2 a3 a4 a5 a6 a7 a8
            gi_wp2
            exact ⟨HA2.out, rfl, HF.out⟩
end Go.Proofs.Ytblbgbgnifdohaa
