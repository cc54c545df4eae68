/-
  The walk of finder.explore.
-/
import Derived.Test.YtblbgbgnifdohaaWalkM
namespace Go.Proofs.Ytblbgbgnifdohaa
open Go.RowKit Go.Maps

theorem FI.add {W : World} {B P fb : Nat} {p : Int} {A : Option Addr} {n c most mb na : Nat} {ms : List (List Int)} {mv av fv : Value} {vs : List Value} {G : List (Value × List Int)} (h : FI W B P fb p A n c most mb na ms mv av fv vs G) {v : Value} {xs : List Int} {N : Nat}
    (hx : W.ownsRow N 3 1 v xs.length (xs.map (Value.int .i64))) (hB : B ≤ N) (hN : ∀ b, fv.ownBlock = some b → b < N) : FI W B P fb p A n c most mb na ms mv av fv vs ((v, xs) :: G) :=
  ⟨{ h.fp with safe := h.fp.safe.add (hx.mono hB) (fun b hv e => by have := (hx.lt b hv).1; have := hN b e; omega) }, fun i m v' a b => List.mem_cons_of_mem _ (h.inn i m v' a b), h.good, h.hms⟩
theorem FI.fvlt {W : World} {B P fb : Nat} {p : Int} {A : Option Addr} {n c most mb na : Nat} {ms : List (List Int)} {mv av fv : Value} {vs : List Value} {G : List (Value × List Int)} (h : FI W B P fb p A n c most mb na ms mv av fv vs G) : ∀ b, fv.ownBlock = some b → b < W.heap.size := fun b hb => by
  obtain ⟨xs, _, hf⟩ := h.fp.first
  exact (hf.lt b hb).2
theorem good_fit {p : Int} {ts : List Tx.Tr} {P : Nat} {m : List Int} (hw : Tx.ntWrong ⟨p, ts⟩ = false) (hP : (P : Int) = p) (hl : m.length = P) (hm : ∀ y ∈ m, 0 ≤ y ∧ y ≤ 1000000) : Cv.fitV ⟨p, ts⟩ m = true := by
  have h1 : ((m.length : Int) == p) = true := by simp; omega
  simp only [Cv.fitV, hw, h1, right_of hm]
  rfl
theorem fireR_good {t : Tx.Tr} {m : List Int} {P : Nat} (hl : m.length = P) (hm : ∀ y ∈ m, 0 ≤ y ∧ y ≤ 1000000) (h1 : t.pre.length = P) (h2 : t.post.length = P) (h9 : ∀ x ∈ t.pre, 0 ≤ x ∧ x ≤ 9) (hr9 : ∀ x ∈ t.post, 0 ≤ x ∧ x ≤ 9)
    (hc : Cv.coversV m t.pre = true) (ho : okN (Cv.fireR t m) = true) : (Cv.fireR t m).length = P ∧ ∀ y ∈ Cv.fireR t m, 0 ≤ y ∧ y ≤ 1000000 := by
  rw [fireR_eq] at ho ⊢
  have hz := zipI_len (f := fun a b => a - b) hl h1
  refine ⟨zipI_len hz h2, fun y hy => ⟨?_, ?_⟩⟩
  · obtain ⟨k, hk, rfl⟩ := zipI_mem hz h2 hy
    have a := left_ok hl h1 (right_of hm) h9 hc _ (get_in hz hk)
    have b := hr9 _ (get_in h2 hk)
    omega
  · have h1 : (zipI (fun a b => a + b) (zipI (fun a b => a - b) m t.pre) t.post).any (fun x => decide (1000000 < x)) = false := by simpa [okN] using ho
    have := List.any_eq_false.1 h1 y hy
    simpa using this
theorem enabled_get {ts : List Tx.Tr} {m : List Int} {j k : Nat} (h : (Cv.enabledI ts m)[j]? = some k) : ∃ t, ts[k]? = some t ∧ Cv.coversV m t.pre = true := by
  have hm := List.mem_of_getElem? h
  unfold Cv.enabledI at hm
  have := (List.mem_filter.1 hm).2
  cases ht : ts[k]? with
  | none => rw [ht] at this; cases this
  | some t => rw [ht] at this; exact ⟨t, rfl, this⟩
theorem slice_of3 {w : World} {B N s : Nat} {e : TypeId} {v : Value} {xs : List Value} (h : w.ownsRow B e s v N xs) : ∃ A c, v = .slice A N c := by
  rcases h.2 with ⟨rfl, rfl⟩ | ⟨g, cap, cur, rfl, _⟩
  · exact ⟨none, 0, rfl⟩
  · exact ⟨_, _, rfl⟩
theorem natI_eq (l : List Nat) : natI l = (l.map fun (k : Nat) => (k : Int)).map (Value.int .i64) := by simp [natI]

/-- what is still to come. -/
def XTodo (ts : List Tx.Tr) (most : Nat) (X : Option (List (List Int))) (k : Nat) (ms : List (List Int)) : Prop := k ≤ ms.length ∧ Cv.exploreF most ts (most + 1 - k) k ms = X
def XKids (ts : List Tx.Tr) (most : Nat) (X : Option (List (List Int))) (k : Nat) (m : List Int) (j : Nat) (ms : List (List Int)) : Prop :=
  k < ms.length ∧ (match Cv.roundM most ts m ((Cv.enabledI ts m).drop j) ms with
    | none => none
    | some ms' => Cv.exploreF most ts (most - k) (k + 1) ms') = X
theorem XTodo.fin {ts : List Tx.Tr} {most k : Nat} {X : Option (List (List Int))} {ms : List (List Int)} (h : XTodo ts most X k ms) (hm : ms.length ≤ most) (hk : ¬ k < ms.length) : X = some ms := by
  obtain ⟨h1, h2⟩ := h
  rw [← h2, show most + 1 - k = (most - k) + 1 by omega, Cv.exploreF, List.getElem?_eq_none (by omega)]
theorem XTodo.kids {ts : List Tx.Tr} {most k : Nat} {X : Option (List (List Int))} {ms : List (List Int)} {m : List Int} (h : XTodo ts most X k ms) (hm : ms.length ≤ most) (hk : ms[k]? = some m) : XKids ts most X k m 0 ms := by
  obtain ⟨h1, h2⟩ := h
  have hkl := (List.getElem?_eq_some_iff.1 hk).1
  refine ⟨hkl, ?_⟩
  rw [← h2, show most + 1 - k = (most - k) + 1 by omega, Cv.exploreF, hk, List.drop_zero]
  simp only
  generalize Cv.roundM most ts m (Cv.enabledI ts m) ms = o
  cases o <;> rfl
theorem XKids.fin {ts : List Tx.Tr} {most k j : Nat} {X : Option (List (List Int))} {ms : List (List Int)} {m : List Int} (h : XKids ts most X k m j ms) (hj : (Cv.enabledI ts m).length ≤ j) : XTodo ts most X (k + 1) ms := by
  obtain ⟨h1, h2⟩ := h
  rw [List.drop_of_length_le hj] at h2
  exact ⟨by omega, by rw [show most + 1 - (k + 1) = most - k by omega]; exact h2⟩
theorem XKids.next {ts : List Tx.Tr} {most k j i : Nat} {X : Option (List (List Int))} {ms : List (List Int)} {m : List Int} {t : Tx.Tr} (h : XKids ts most X k m j ms) (hj : (Cv.enabledI ts m)[j]? = some i) (ht : ts[i]? = some t) :
    (okN (Cv.fireR t m) = false → X = none) ∧ (okN (Cv.fireR t m) = true → ms.contains (Cv.fireR t m) = true → XKids ts most X k m (j + 1) ms) ∧
    (okN (Cv.fireR t m) = true → ms.contains (Cv.fireR t m) = false → ms.length = most → X = none) ∧
    (okN (Cv.fireR t m) = true → ms.contains (Cv.fireR t m) = false → ms.length ≠ most → XKids ts most X k m (j + 1) (ms ++ [Cv.fireR t m])) := by
  obtain ⟨h1, h2⟩ := h
  obtain ⟨hjl, hje⟩ := List.getElem?_eq_some_iff.1 hj
  rw [List.drop_eq_getElem_cons hjl, hje, Cv.roundM, Cv.stepM, ht] at h2
  have ho : ∀ b, okN (Cv.fireR t m) = b → (Cv.fireR t m).any (fun x => decide (1000000 < x)) = !b := fun b hb => by rw [← hb]; simp [okN]
  refine ⟨fun a => ?_, fun a b => ⟨h1, ?_⟩, fun a b d => ?_, fun a b d => ⟨by simp; omega, ?_⟩⟩
  · simpa [ho _ a] using h2.symm
  · have b' : Cv.fireR t m ∈ ms := by simpa using b
    simpa [ho _ a, b'] using h2
  · have b' : ¬ Cv.fireR t m ∈ ms := by simpa using b
    simpa [ho _ a, b', d] using h2.symm
  · have b' : ¬ Cv.fireR t m ∈ ms := by simpa using b
    simpa [ho _ a, b', d] using h2

/-- what explore answers. -/
def expR (W : World) (B P fb : Nat) (p : Int) (A : Option Addr) (n c most mb : Nat) (e : Ending) : Option (List (List Int)) → Prop
  | some ms => e = .returned (.int .i64 0) ∧ ∃ na mv av fv vs G, FI W B P fb p A n c most mb na ms mv av fv vs G
  | none => ∃ k : Int, k ≠ 0 ∧ e = .returned (.int .i64 k)

theorem info79 : (Try.prog.info? 79).map (fun i => (i.zero, i.size, i.bytes)) = some (some (.agg #[.int .i64 0, .int .i64 0, .int .i64 0]), 3, 24) := by kernel_rfl

set_option maxRecDepth 100000 in
set_option maxHeartbeats 4000000 in
theorem explore_any (B P fb : Nat) (p : Int) (A : Option Addr) (n c most mb : Nat) (ts : List Tx.Tr) (ms : List (List Int)) (mv av fv : Value) (vs : List Value) (G : List (Value × List Int)) (w : World)
    (h : FI w B P fb p A n c most mb 0 ms mv av fv vs G) (hl : ts.length = n) (hr : TrsAt w B A n ts) (hw : Tx.ntWrong ⟨p, ts⟩ = false) (hP : (P : Int) = p) (hmost : most ≤ 300) (hB : B ≤ w.heap.size) :
    Calls Try.prog 31 #[.pointer (some ⟨fb, 0, none⟩)] w fun e w' => expR w' B P fb p A n c most mb e (Cv.exploreF most ts (most + 1) 0 ms) ∧ Below B w w' := by
  obtain ⟨iA, hiA, hzA, hzA1, hzA2⟩ := info_parts info79
  obtain ⟨X, hX⟩ : ∃ X, Cv.exploreF most ts (most + 1) 0 ms = X := ⟨_, rfl⟩
  rw [hX]
  have HT0 : Hid (XTodo ts most X 0 ms) := Lib.hid ⟨Nat.zero_le _, hX⟩
  have H := Lib.hid h
  have HL := Lib.hid hl
  have HR := Lib.hid hr
  have HW := Lib.hid hw
  have HP := Lib.hid hP
  have h24 : n ≤ 24 := by
    simp only [Tx.ntWrong, Bool.or_eq_false_iff, decide_eq_false_iff_not] at hw
    omega
  clear h hl hr hw hP hX
  go_enter Try.func31, Try.ntmps31
  go_wp2_with fail
  go_loopw [3] (fun i W => ∃ (k na : Nat) (ms : List (List Int)) (mv av fv : Value) (vs : List Value) (G : List (Value × List Int)), i = .int .i64 k ∧ FI W B P fb p A n c most mb na ms mv av fv vs G ∧ na ≤ 24 * k ∧ XTodo ts most X k ms ∧ Below B w W) (fun i _ => most + 1 - (intOf i).toNat)
  case atStart => exact ⟨0, 0, ms, mv, av, fv, vs, G, rfl, H.out, by omega, HT0.out, Below.refl _ _⟩
  case round =>
    clear H HT0
    obtain ⟨k, na, ms, mv, av, fv, vs, G, rfl, hfi, hna, htd, hbe⟩ := hrel
    have H := Lib.hid hfi
    have HTD := Lib.hid htd
    have HBE := Lib.hid hbe
    have hms := hfi.hms
    obtain ⟨s0, s1, _, _, s4, _⟩ := hfi.fp.cells
    obtain ⟨A4, c4, rfl⟩ : ∃ A4 c4, mv = .slice A4 ms.length c4 := slice_of hfi.fp.marks
    have hsz := hbe.size
    clear hfi htd hbe
    by_cases hlt : k < ms.length
    · obtain ⟨m, hm⟩ : ∃ m, ms[k]? = some m := ⟨_, List.getElem?_eq_getElem hlt⟩
      have HK := Lib.hid (HTD.out.kids hms hm)
      have hvl : vs.length = ms.length := by have := H.out.fp.marks.1; simpa using this
      obtain ⟨xv, hxv⟩ : ∃ v, vs[k]? = some v := ⟨_, List.getElem?_eq_getElem (by omega)⟩
      have hin := H.out.inn k m xv hm hxv
      obtain ⟨hml, hmr⟩ := H.out.good m (List.mem_of_getElem? hm)
      have hrow : wr.ownsRow B 3 1 xv m.length (m.map (Value.int .i64)) := (H.out.fp.safe _ hin).1
      obtain ⟨Ax, cx, rfl⟩ := row_slice hrow
      obtain ⟨g4, cap4, e4, _, _⟩ := H.out.fp.marks.form (by omega)
      simp only [Value.slice.injEq, true_and] at e4
      obtain ⟨rfl, rfl⟩ := e4
      have s5 : wr.cell? ⟨g4, k, none⟩ = some (.slice Ax m.length cx) := by rw [H.out.fp.marks.cellAt k (by omega)]; exact hxv
      have HEN := Lib.hid (enabled_any p A n c ts Ax cx m wr HL.out ((HR.out.below HBE.out).more (by omega)) (row_reads hrow) (good_fit HW.out HP.out hml hmr))
      have HIN := Lib.hid hin
      have HML := Lib.hid hml
      have HMR := Lib.hid hmr
      have HM := Lib.hid hm
      clear hin hml hmr hrow hm hxv hvl
      go_wp2_with fail
      refine HEN.out.mono ?_
      rintro e W5 ⟨lv, rfl, hrowl, hb5⟩
      obtain ⟨Al, cl, rfl⟩ := row_slice hrowl
      obtain ⟨en, hen⟩ : ∃ en, Cv.enabledI ts m = en := ⟨_, rfl⟩
      rw [hen] at hrowl ⊢
      have HEN2 := Lib.hid hen
      have hrowl2 : W5.ownsRow wr.heap.size 3 1 (.slice Al en.length cl) (en.map fun (k : Nat) => (k : Int)).length ((en.map fun (k : Nat) => (k : Int)).map (Value.int .i64)) := by rw [List.length_map, ← natI_eq]; exact hrowl
      have henl : en.length ≤ 24 := by rw [← hen]; have := en_len ts m ts.length; rw [en_all] at this; have := HL.out; omega
      have HF5 := Lib.hid ((H.out.below hb5).add hrowl2 (by omega) H.out.fvlt)
      have HBE5 : Hid (Below B w W5) := Lib.hid (HBE.out.trans (hb5.mono (by omega)))
      clear hrowl hrowl2 hb5 hen s0 s1 s4 s5
      go_wp2_with fail
      go_loopw [45] (fun jv W => ∃ (j na : Nat) (ms : List (List Int)) (mv av fv : Value) (vs : List Value) (G : List (Value × List Int)), j ≤ en.length ∧ jv = .int .i64 j ∧ FI W B P fb p A n c most mb na ms mv av fv vs G ∧ (.slice Al en.length cl, en.map fun (k : Nat) => (k : Int)) ∈ G ∧ (.slice Ax m.length cx, m) ∈ G ∧ na ≤ 24 * k + j ∧ XKids ts most X k m j ms ∧ Below B w W) (fun j _ => en.length - (intOf j).toNat)
      case atStart => exact ⟨0, na, ms, _, av, fv, vs, _, Nat.zero_le _, rfl, HF5.out, List.mem_cons_self, List.mem_cons_of_mem _ HIN.out, by omega, HK.out, HBE5.out⟩
      case round =>
        have hkm : k < most := by omega
        have h16 : P ≤ 16 := by obtain ⟨_, _, _, h, _⟩ := Cv.fit_parts (good_fit HW.out HP.out HML.out HMR.out); have := HML.out; omega
        clear H HTD HBE HK HEN HIN HM HF5 HBE5 hms hlt hsz hna
        obtain ⟨j, na, ms, mv, av, fv, vs, G, hj, rfl, hfi, hinl, hinm, hna, hxk, hbe⟩ := hrel
        have H := Lib.hid hfi
        have HINL := Lib.hid hinl
        have HINM := Lib.hid hinm
        have HXK := Lib.hid hxk
        have HBE := Lib.hid hbe
        have hsz := hbe.size
        have hms := hfi.hms
        clear hinl hinm hxk hbe
        by_cases hlt : j < en.length
        · obtain ⟨kk, hkk⟩ : ∃ kk, en[j]? = some kk := ⟨_, List.getElem?_eq_getElem hlt⟩
          obtain ⟨t, ht, hcov⟩ := enabled_get (ts := ts) (m := m) (j := j) (k := kk) (by rw [HEN2.out]; exact hkk)
          obtain ⟨s0, s1, _⟩ := hfi.fp.cells
          have hrl : wr.ownsRow B 3 1 (.slice Al en.length cl) en.length ((en.map fun (k : Nat) => (k : Int)).map (Value.int .i64)) := by have := (hfi.fp.safe _ HINL.out).1; rwa [List.length_map] at this
          obtain ⟨gl, capl, el, _, _⟩ := row_form hrl (by omega)
          simp only [Value.slice.injEq, true_and] at el
          obtain ⟨rfl, rfl⟩ := el
          have s6 := row_int hrl hlt
          rw [List.getElem?_map, hkk] at s6
          simp only [Option.map_some, Option.getD_some] at s6
          have hrm : wr.ownsRow B 3 1 (.slice Ax m.length cx) m.length (m.map (Value.int .i64)) := (hfi.fp.safe _ HINM.out).1
          have HFI := Lib.hid (fireN_any p A n c ts Ax cx m kk t wr HL.out ((HR.out.below HBE.out).more (by omega)) (row_reads hrm) (good_fit HW.out HP.out HML.out HMR.out) ht hcov)
          have HNX := Lib.hid (HXK.out.next (by rw [HEN2.out]; exact hkk) ht)
          obtain ⟨_, _, _, _, hts⟩ := Cv.fit_parts (good_fit HW.out HP.out HML.out HMR.out)
          obtain ⟨hp1, hp2, hp9, hr9⟩ := hts t (List.mem_of_getElem? ht)
          have HFR := Lib.hid (fun ho => fireR_good HML.out HMR.out (hp1.trans HML.out) (hp2.trans HML.out) hp9 hr9 hcov ho)
          obtain ⟨b, hb⟩ : ∃ b, okN (Cv.fireR t m) = b := ⟨_, rfl⟩
          rw [hb] at HFI
          have HB := Lib.hid hb
          obtain ⟨Aa, ca, rfl⟩ : ∃ Aa ca, av = .slice Aa na ca := by obtain ⟨cs, hcs⟩ := H.out.fp.arcs; exact slice_of3 hcs
          clear hfi hkk ht hcov hrl hrm hts hp1 hp2 hp9 hr9 hb
          go_wp2_with fail
          refine HFI.out.mono ?_
          rintro e W6 ⟨hb6, hres⟩
          have HBE6 : Hid (Below B w W6) := Lib.hid (HBE.out.trans (hb6.mono (by omega)))
          cases b with
          | false =>
            obtain rfl : e = _ := hres
            have HN := Lib.hid (HNX.out.1 HB.out)
            clear hb6
            go_wp2_with fail
            go_ret
            exact ⟨by rw [HN.out]; exact ⟨4, by decide, rfl⟩, HBE6.out⟩
          | true =>
            obtain ⟨v6, rfl, hrow6⟩ := hres
            obtain ⟨A6, c6, rfl⟩ := row_slice hrow6
            have HFG := Lib.hid (HFR.out HB.out)
            have hlen : (Cv.fireR t m).length = m.length := HFG.out.1.trans HML.out.symm
            have HLEN := Lib.hid hlen
            have HF6 := Lib.hid ((H.out.below hb6).add (v := .slice A6 m.length c6) (xs := Cv.fireR t m) (by rw [hlen]; exact hrow6) (by omega) H.out.fvlt)
            have HX6 : Hid ((Value.slice A6 m.length c6, Cv.fireR t m) ∈ (Value.slice A6 m.length c6, Cv.fireR t m) :: G) := Lib.hid List.mem_cons_self
            obtain ⟨_, _, _, _, _, r5, _⟩ := HF6.out.fp.cells
            clear hb6 hrow6 hlen s0 s1 s6 HFI HFR
            go_wp2_with fail
            clear r5
            by_cases hct : ms.contains (Cv.fireR t m) = true
            · have HCT := Lib.hid hct
              clear hct
              have HFN := Lib.hid (find_old B P fb p A A6 n c c6 most mb na ms mv (.slice Aa na ca) fv vs _ (Cv.fireR t m) na W6 HF6.out (by rw [HLEN.out]; exact HX6.out) HFG.out.1 HFG.out.2 h16 (by have := HBE6.out.size; omega) hmost HCT.out)
              rw [HLEN.out] at HFN
              refine HFN.out.mono ?_
              rintro e W7 ⟨kx, rfl, hfi7, hb7⟩
              have HF7 := Lib.hid hfi7
              have HBE7 : Hid (Below B w W7) := Lib.hid (HBE6.out.trans hb7)
              have hz7 := HBE7.out.size
              obtain ⟨_, _, _, _, _, q5, _⟩ := hfi7.fp.cells
              have HWA := Lib.hid ((Below.refl W7.heap.size W7).alloc (Nat.le_refl _) (.cells #[.int .i64 k, .int .i64 kk, .int .i64 kx] 79))
              have HFA := Lib.hid (hfi7.fp.below HWA.out)
              obtain ⟨cs, hcs⟩ := HFA.out.arcs
              have HCS := Lib.hid hcs
              have HNW : Hid (∀ j u, ([.int .i64 k, .int .i64 kk, .int .i64 kx] : List Value)[j]? = some u → (W7.alloc (.cells #[.int .i64 k, .int .i64 kk, .int .i64 kx] 79)).cell? ((⟨W7.heap.size, 0, none⟩ : Addr).add j) = some u) := Lib.hid (by
                intro j u hu
                rw [add_lit', Nat.zero_add]
                have := heap_alloc_new W7 (.cells #[.int .i64 k, .int .i64 kk, .int .i64 kx] 79)
                simp only [World.cell?, this]
                simpa using hu)
              have HBA := Lib.hid (HBE7.out.alloc (by omega) (.cells #[.int .i64 k, .int .i64 kk, .int .i64 kx] 79))
              have HKF := Lib.hid (HNX.out.2.1 HB.out HCT.out)
              clear hfi7 hb7 hcs
              go_wp2_with (at_builtin; refine wpList_append_lies _ rfl (.tmp 81) (.tmp 86) 37 rfl B 79 iA _ 3 24 Try.underlying37 hiA hzA hzA1 hzA2 rfl (by decide) (.slice Aa na ca) na cs rfl HCS.out ⟨W7.heap.size, 0, none⟩ 1 1 [.int .i64 k, .int .i64 kk, .int .i64 kx] rfl rfl HNW.out ?a2 (by decide) ?a3 ?a4 ?a5 _ rfl ?_)
              case a2 => intro u hu; simp at hu; rcases hu with rfl | rfl | rfl <;> rfl
              case a3 => unfold maxLen; omega
              case a4 => omega
              case a5 => simp; omega
              intro g8 cap8 W8 hown8 hgrow8 _ _
              obtain ⟨hb8, hfp9⟩ := HFA.out.arced hown8 hgrow8
              have HF9 : Hid (FI (W8.setCell ⟨fb, 5, none⟩ (.slice (some ⟨g8, 0, none⟩) (na + 1) cap8)) B P fb p A n c most mb (na + 1) ms mv (.slice (some ⟨g8, 0, none⟩) (na + 1) cap8) fv vs _) := Lib.hid ⟨hfp9, HF7.out.inn, HF7.out.good, HF7.out.hms⟩
              have HBE8 : Hid (Below B w W8) := Lib.hid (HBA.out.grown hgrow8 (by simp; omega) (fun j hj => (HCS.out.lt j hj).1))
              have q5' : W8.cell? ⟨fb, 5, none⟩ = some (.slice Aa na ca) := by simp [World.cell?, hb8]
              have q5f : W8.frozen? ⟨fb, 5, none⟩ = false := by simp [World.frozen?, hb8]
              have HBE9 := Lib.hid (HBE8.out.setCell (p := ⟨fb, 5, none⟩) HF7.out.fp.hfb (.slice (some ⟨g8, 0, none⟩) (na + 1) cap8))
              clear hown8 hgrow8 hfp9 hb8 q5
              go_wp2_with fail
              go_roundw
              case rel => exact ⟨j + 1, na + 1, _, _, _, _, _, _, by omega, by go_num, HF9.out, List.mem_cons_of_mem _ HINL.out, List.mem_cons_of_mem _ HINM.out, by omega, HKF.out, HBE9.out⟩
              case measure => simp [intOf]; omega
            · have hcf : ms.contains (Cv.fireR t m) = false := by simpa using hct
              have HCF := Lib.hid hcf
              clear hct hcf
              by_cases hfull : ms.length = most
              · have HN := Lib.hid (HNX.out.2.2.1 HB.out HCF.out hfull)
                have HFN := Lib.hid (find_full B P fb p A A6 n c c6 most mb na ms mv (.slice Aa na ca) fv vs _ (Cv.fireR t m) na W6 HF6.out (by rw [HLEN.out]; exact HX6.out) HFG.out.1 HFG.out.2 h16 (by have := HBE6.out.size; omega) hmost HCF.out hfull)
                rw [HLEN.out] at HFN
                refine HFN.out.mono ?_
                rintro e W7 ⟨rfl, hb7⟩
                have HBE7 : Hid (Below B w W7) := Lib.hid (HBE6.out.trans hb7)
                clear hb7
                go_wp2_with fail
                go_ret
                exact ⟨by rw [HN.out]; exact ⟨4, by decide, rfl⟩, HBE7.out⟩
              · have HFU := Lib.hid hfull
                clear hfull
                have HFN := Lib.hid (find_new B P fb p A A6 n c c6 most mb na ms mv (.slice Aa na ca) fv vs _ (Cv.fireR t m) na W6 HF6.out (by rw [HLEN.out]; exact HX6.out) HFG.out.1 HFG.out.2 h16 (by have := HBE6.out.size; omega) hmost HCF.out HFU.out)
                rw [HLEN.out] at HFN
                refine HFN.out.mono ?_
                rintro e W7 ⟨kx, rfl, ⟨mv', fv', hfi7⟩, hb7⟩
                have HF7 := Lib.hid hfi7
                have HBE7 : Hid (Below B w W7) := Lib.hid (HBE6.out.trans hb7)
                have hz7 := HBE7.out.size
                obtain ⟨_, _, _, _, _, q5, _⟩ := hfi7.fp.cells
                have HWA := Lib.hid ((Below.refl W7.heap.size W7).alloc (Nat.le_refl _) (.cells #[.int .i64 k, .int .i64 kk, .int .i64 kx] 79))
                have HFA := Lib.hid (hfi7.fp.below HWA.out)
                obtain ⟨cs, hcs⟩ := HFA.out.arcs
                have HCS := Lib.hid hcs
                have HNW : Hid (∀ j u, ([.int .i64 k, .int .i64 kk, .int .i64 kx] : List Value)[j]? = some u → (W7.alloc (.cells #[.int .i64 k, .int .i64 kk, .int .i64 kx] 79)).cell? ((⟨W7.heap.size, 0, none⟩ : Addr).add j) = some u) := Lib.hid (by
                  intro j u hu
                  rw [add_lit', Nat.zero_add]
                  have := heap_alloc_new W7 (.cells #[.int .i64 k, .int .i64 kk, .int .i64 kx] 79)
                  simp only [World.cell?, this]
                  simpa using hu)
                have HBA := Lib.hid (HBE7.out.alloc (by omega) (.cells #[.int .i64 k, .int .i64 kk, .int .i64 kx] 79))
                have HKF := Lib.hid (HNX.out.2.2.2 HB.out HCF.out HFU.out)
                clear hfi7 hb7 hcs
                go_wp2_with (at_builtin; refine wpList_append_lies _ rfl (.tmp 81) (.tmp 86) 37 rfl B 79 iA _ 3 24 Try.underlying37 hiA hzA hzA1 hzA2 rfl (by decide) (.slice Aa na ca) na cs rfl HCS.out ⟨W7.heap.size, 0, none⟩ 1 1 [.int .i64 k, .int .i64 kk, .int .i64 kx] rfl rfl HNW.out ?a2 (by decide) ?a3 ?a4 ?a5 _ rfl ?_)
                case a2 => intro u hu; simp at hu; rcases hu with rfl | rfl | rfl <;> rfl
                case a3 => unfold maxLen; omega
                case a4 => omega
                case a5 => simp; omega
                intro g8 cap8 W8 hown8 hgrow8 _ _
                obtain ⟨hb8, hfp9⟩ := HFA.out.arced hown8 hgrow8
                have HF9 : Hid (FI (W8.setCell ⟨fb, 5, none⟩ (.slice (some ⟨g8, 0, none⟩) (na + 1) cap8)) B P fb p A n c most mb (na + 1) (ms ++ [Cv.fireR t m]) mv' (.slice (some ⟨g8, 0, none⟩) (na + 1) cap8) fv' (vs ++ [.slice A6 m.length c6]) _) := Lib.hid ⟨hfp9, HF7.out.inn, HF7.out.good, HF7.out.hms⟩
                have HBE8 : Hid (Below B w W8) := Lib.hid (HBA.out.grown hgrow8 (by simp; omega) (fun j hj => (HCS.out.lt j hj).1))
                have q5' : W8.cell? ⟨fb, 5, none⟩ = some (.slice Aa na ca) := by simp [World.cell?, hb8]
                have q5f : W8.frozen? ⟨fb, 5, none⟩ = false := by simp [World.frozen?, hb8]
                have HBE9 := Lib.hid (HBE8.out.setCell (p := ⟨fb, 5, none⟩) HF7.out.fp.hfb (.slice (some ⟨g8, 0, none⟩) (na + 1) cap8))
                clear hown8 hgrow8 hfp9 hb8 q5
                go_wp2_with fail
                go_roundw
                case rel => exact ⟨j + 1, na + 1, _, _, _, _, _, _, by omega, by go_num, HF9.out, List.mem_cons_of_mem _ HINL.out, List.mem_cons_of_mem _ HINM.out, by omega, HKF.out, HBE9.out⟩
                case measure => simp [intOf]; omega
        · have HFIN := Lib.hid (HXK.out.fin (by rw [HEN2.out]; omega))
          clear hfi
          go_wp2_with fail
          exact ⟨⟨k + 1, na, ms, mv, av, fv, vs, G, by go_num, H.out, by omega, HFIN.out, HBE.out⟩, by simp [intOf]; omega⟩
    · have HFIN := Lib.hid (HTD.out.fin hms hlt)
      go_wp2_with fail
      go_ret
      exact ⟨by rw [HFIN.out]; exact ⟨rfl, na, _, av, fv, vs, G, H.out⟩, HBE.out⟩
end Go.Proofs.Ytblbgbgnifdohaa
