/-
  The walk of CoverBounded: it returns true.
-/
import Derived.Test.YtblbgbgnifdohaaWalkT
namespace Go.Proofs.Ytblbgbgnifdohaa
open Go.RowKit Go.Maps

theorem big_any (ks : List Cv.Kn) : (ks.any fun k => big k.mark) = ks.any fun k => k.mark.any fun x => decide (1000000 < x) := rfl
theorem KsOwn.mark16 {W : World} {B : Nat} {kv v : Value} {ks : List Cv.Kn} {vs : List Value} (h : KsOwn W B kv ks vs) {i : Nat} {k : Cv.Kn} (a : ks[i]? = some k) (b : vs[i]? = some v) : W.ownsRow B 3 1 v k.mark.length (k.mark.map (Value.int .i64)) := h.marks i k v a b

theorem KsOwn.tail {W W' : World} {B P : Nat} {kv : Value} {ks : List Cv.Kn} {vs : List Value} (h : KsOwn W B kv ks vs) (hT : Tail B P W W') (hl : ∀ k ∈ ks, k.mark.length = P) : KsOwn W' B kv ks vs :=
  ⟨h.len, hT.2 _ _ _ _ _ h.row (.inl (by decide)), fun i k v a b => hT.2 _ _ _ _ _ (h.marks i k v a b) (.inr ⟨rfl, by rw [hl k (List.mem_of_getElem? a)]; exact Nat.le_refl _⟩)⟩
theorem own_maxn {w : World} {B N : Nat} {e : TypeId} {v : Value} {xs : List Value} (h : w.ownsRow B e 1 v N xs) : N ≤ 9223372036854775807 := by
  rcases h.2 with ⟨_, rfl⟩ | ⟨g, cap, cur, _, _, _, hc, hm, _⟩
  · omega
  · unfold maxLen at hm; omega
theorem all_at {α : Type} {p : α → Bool} {l : List α} {i : Nat} {x : α} (h : l.all p = true) (hx : l[i]? = some x) : p x = true := List.all_eq_true.1 h x (List.mem_of_getElem? hx)

set_option maxRecDepth 100000 in
set_option maxHeartbeats 4000000 in
/-- the tree is there, and has nowhere many. -/
theorem cover_fit (p : Int) (A : Option Addr) (n c : Nat) (ts : List Tx.Tr) (Am : Option Addr) (cm : Nat) (m : List Int) (most : Nat) (w : World) (hl : ts.length = n) (hr : TrsAt w w.heap.size A n ts)
    (hm : Reads w w.heap.size 1 Am m.length (m.map (Value.int .i64))) (hf : Cv.fitV ⟨p, ts⟩ m = true) (h1 : 1 ≤ most) (h2 : most ≤ 300) :
    Calls Try.prog 3 #[.agg #[.int .i64 p, .slice A n c], .slice Am m.length cm, .int .i64 most] w fun e w' => e = .returned (.bool true) ∧ Below w.heap.size w w' := by
  have hml : m.length ≤ 16 := by obtain ⟨_, _, _, b, _⟩ := Cv.fit_parts hf; exact b
  have HLAW := Lib.hid (fun ks => Cv.law ⟨p, ts⟩ m most ks hf h1 h2)
  have HTF := Lib.hid (fun ks => tree_facts (most := most) (ks := ks) hf h1)
  have HW := Lib.hid ((Below.refl w.heap.size w).alloc (Nat.le_refl _) (.cells #[.int .i64 p, .slice A n c] 24))
  have c0 : (w.alloc (.cells #[.int .i64 p, .slice A n c] 24)).cell? ⟨w.heap.size, 0, none⟩ = some (.int .i64 p) := by simp [go_sem]
  have c1 : (w.alloc (.cells #[.int .i64 p, .slice A n c] 24)).cell? ⟨w.heap.size, 1, none⟩ = some (.slice A n c) := by simp [go_sem]
  have hlt0 : w.heap.size < (w.alloc (.cells #[.int .i64 p, .slice A n c] 24)).heap.size := by simp
  have HAL := Lib.hid (alive_any (w.alloc (.cells #[.int .i64 p, .slice A n c] 24)))
  have HL := Lib.hid hl
  have HR := Lib.hid hr
  have HM := Lib.hid hm
  have HF := Lib.hid hf
  clear hl hr hm hf
  go_enter Try.func3, Try.ntmps3
  go_upto_region 1 with (fail)
  generalize w.alloc (.cells #[.int .i64 p, .slice A n c] 24) = W0 at *
  have C0 := Lib.hid c0
  have C1 := Lib.hid c1
  clear c0 c1
  go_wp2_with fail
  refine HAL.out.mono ?_
  rintro e W1 ⟨rfl, hb1⟩
  have HB1 : Hid (Below w.heap.size w W1) := Lib.hid (HW.out.trans (hb1.mono (Nat.le_of_lt hlt0)))
  have d0 := (hb1.cell (p := ⟨w.heap.size, 0, none⟩) hlt0).trans C0.out
  have d1 := (hb1.cell (p := ⟨w.heap.size, 1, none⟩) hlt0).trans C1.out
  have hlt1 : w.heap.size < W1.heap.size := by have := hb1.size; omega
  have D0 := Lib.hid d0
  have D1 := Lib.hid d1
  have HT := Lib.hid (tree_any p A n c ts Am cm m most W1 HL.out ((HR.out.below HB1.out).more (Nat.le_of_lt hlt1)) ((HM.out.below HB1.out).more (Nat.le_of_lt hlt1)) HF.out h1 h2)
  clear hb1 HAL
  go_wp2_with fail
  clear d0 d1
  refine HT.out.mono ?_
  rintro e W2 ⟨hb2, hres⟩
  have HB2 : Hid (Below w.heap.size w W2) := Lib.hid (HB1.out.trans (hb2.mono (Nat.le_of_lt hlt1)))
  have d0 := (hb2.cell (p := ⟨w.heap.size, 0, none⟩) hlt1).trans D0.out
  have d1 := (hb2.cell (p := ⟨w.heap.size, 1, none⟩) hlt1).trans D1.out
  have hlt2 : w.heap.size < W2.heap.size := by have := hb2.size; omega
  have E0 := Lib.hid d0
  have E1 := Lib.hid d1
  clear hb2 d0 d1 HT
  obtain ⟨o, ho⟩ : ∃ o, Cv.treeV ⟨p, ts⟩ m most = o := ⟨_, rfl⟩
  rw [ho] at hres
  cases o with
  | none =>
    obtain rfl : e = _ := hres
    clear ho
    go_wp2_with fail
    go_ret
    exact ⟨rfl, HB2.out⟩
  | some ks =>
    obtain ⟨kv, vs, rfl, hown, hpos⟩ := hres
    obtain ⟨hkl, hkm⟩ := HTF.out ks ho
    have HKL := Lib.hid hkl
    have HOWN := Lib.hid (KsOwn.mk hown.len (hown.row.mono (Nat.le_of_lt hlt1)) (fun i k v a b => (hown.marks i k v a b).mono (Nat.le_of_lt hlt1)))
    have HLW := Lib.hid (HLAW.out ks ho)
    clear ho hkl hown HLAW HTF
    have HC1 := Lib.hid (con7_any w.heap.size kv ks vs (fun k => k.mark.contains (-1)) (fun W => KsOwn W w.heap.size kv ks vs ∧ Below W2.heap.size W2 W) (fun W h => h.1) (by omega)
      (fun W i k v hj a b => by
        have hl := HKL.out k (List.mem_of_getElem? a)
        refine (c1_any k.up k.tran (hj.1.marks i k v a b) (by omega)).mono ?_
        rintro e W' ⟨rfl, hb⟩
        exact ⟨rfl, hj.1.below hb, hj.2.trans (hb.mono hj.2.size)⟩) W2 ⟨HOWN.out, Below.refl _ _⟩)
    have hhm : (ks.any fun k => k.mark.contains (-1)) = Cv.hasMany ks := rfl
    rw [hhm] at HC1
    clear hhm
    cases hmany : Cv.hasMany ks with
    | true =>
      rw [hmany] at HC1
      clear hmany
      go_wp2_with (go_at_call 6; refine HC1.out.mono ?_; rintro e W3 ⟨rfl, hj3⟩)
      have HJ3 := Lib.hid hj3
      clear hj3
      go_wp2_with fail
      go_ret
      exact ⟨rfl, HB2.out.trans (HJ3.out.2.mono (Nat.le_of_lt hlt2))⟩
    | false =>
      rw [hmany] at HC1
      have HBD := Lib.hid (HLW.out hmany)
      clear hmany
      go_wp2_with fail
      refine HC1.out.mono ?_
      rintro e W3 ⟨rfl, hj3⟩
      have HO3 := Lib.hid hj3.1
      have HB3 : Hid (Below w.heap.size w W3) := Lib.hid (HB2.out.trans (hj3.2.mono (Nat.le_of_lt hlt2)))
      have d0 := (hj3.2.cell (p := ⟨w.heap.size, 0, none⟩) hlt2).trans E0.out
      have d1 := (hj3.2.cell (p := ⟨w.heap.size, 1, none⟩) hlt2).trans E1.out
      have hlt3 : w.heap.size < W3.heap.size := by have := hj3.2.size; omega
      have HG := Lib.hid (graph_any p A n c ts Am cm m W3 HL.out ((HR.out.below HB3.out).more (Nat.le_of_lt hlt3)) ((HM.out.below HB3.out).more (Nat.le_of_lt hlt3)) HF.out)
      clear hj3 HC1
      go_wp2_with fail
      clear d0 d1
      refine HG.out.mono ?_
      rintro e W4 ⟨hb4, hres⟩
      have HB4 : Hid (Below w.heap.size w W4) := Lib.hid (HB3.out.trans (hb4.mono (Nat.le_of_lt hlt3)))
      have HO4 := Lib.hid (HO3.out.below hb4)
      have hlt4 : w.heap.size < W4.heap.size := by have := hb4.size; omega
      clear hb4 HG HO3
      obtain ⟨gx, hgx⟩ : ∃ gx, Cv.graphF ⟨p, ts⟩ m = gx := ⟨_, rfl⟩
      rw [hgx] at hres HBD
      clear hgx
      obtain ⟨A2, c2, rfl⟩ : ∃ A2 c2, kv = .slice A2 ks.length c2 := slice_of3 HOWN.out.row
      cases gx with
      | none =>
        obtain ⟨kk, hkk, rfl⟩ := hres
        have hkb : (kk != 0) = true := by simpa using hkk
        go_upto_region 8 with (fail)
        have HB5 : Hid (Below w.heap.size w (W4.alloc (.cells #[.slice none 0 0, .slice none 0 0] 39))) := Lib.hid (HB4.out.alloc (Nat.le_of_lt hlt4) _)
        have HO5 := Lib.hid (HO4.out.below ((Below.refl _ W4).alloc (Nat.le_refl _) (.cells #[.slice none 0 0, .slice none 0 0] 39)))
        generalize W4.alloc (.cells #[.slice none 0 0, .slice none 0 0] 39) = W5 at *
        have HC2 := Lib.hid (con10_any w.heap.size (.slice A2 ks.length c2) ks vs (fun k => big k.mark) (fun W => KsOwn W w.heap.size (.slice A2 ks.length c2) ks vs ∧ Below w.heap.size w W) (fun W h => h.1) (by omega)
          (fun W i k v hj a b => by
            have hl := HKL.out k (List.mem_of_getElem? a)
            refine (c2_any k.up k.tran (hj.1.marks i k v a b) (by omega) hj.2.size).mono ?_
            rintro e W' ⟨rfl, hT⟩
            rw [hl] at hT
            exact ⟨rfl, hj.1.tail hT HKL.out, hj.2.trans hT.1⟩) W5 ⟨HO5.out, HB5.out⟩)
        have hbg : (ks.any fun k => big k.mark) = true := HBD.out
        rw [hbg] at HC2
        clear hbg
        go_wp2_with fail
        refine HC2.out.mono ?_
        rintro e W6 ⟨rfl, hj6⟩
        have HJ6 := Lib.hid hj6.2
        clear hj6
        go_wp2_with fail
        go_ret
        exact ⟨rfl, HJ6.out⟩
      | some ms =>
        obtain ⟨A4, n4, c4, A5, n5, c5, rfl, hms⟩ := hres
        obtain ⟨A4', c4', e4⟩ : ∃ A c, (Value.slice A4 n4 c4) = .slice A ms.length c := by obtain ⟨vs', h, _⟩ := hms; exact slice_of h
        simp only [Value.slice.injEq] at e4
        obtain ⟨rfl, rfl, rfl⟩ := e4
        obtain ⟨hba, hbb⟩ : (ms.all fun x => ks.any fun k => k.mark == x) = true ∧ (ks.all fun k => ms.any fun x => k.mark == x) = true := by simpa [Cv.boundedV] using HBD.out
        have HBA := Lib.hid hba
        have HBB := Lib.hid hbb
        have HMS := Lib.hid hms
        clear hba hbb hms HBD
        go_upto_region 10 with (fail)
        obtain ⟨W5, hW5⟩ : ∃ W5, W4.alloc (.cells #[.slice A4 ms.length c4, .slice A5 n5 c5] 39) = W5 := ⟨_, rfl⟩
        have hsb : W5.heap[W4.heap.size]? = some (.cells #[.slice A4 ms.length c4, .slice A5 n5 c5] 39 (0, 0)) := by rw [← hW5]; exact heap_alloc_new _ _
        have hz5 : W5.heap.size = W4.heap.size + 1 := by rw [← hW5]; simp
        have HB5 : Hid (Below w.heap.size w W5) := Lib.hid (hW5 ▸ HB4.out.alloc (Nat.le_of_lt hlt4) _)
        have hab : Below W4.heap.size W4 W5 := hW5 ▸ (Below.refl _ W4).alloc (Nat.le_refl _) _
        have HO5 := Lib.hid (HO4.out.below hab)
        have HMS5 := Lib.hid (HMS.out.below hab)
        have hmsn : ms.length ≤ 9223372036854775807 := by obtain ⟨vs', h, _⟩ := HMS.out; exact own_maxn h
        have hlt5 : w.heap.size < W5.heap.size := by omega
        obtain ⟨sb, hsbe⟩ : ∃ sb, W4.heap.size = sb := ⟨_, rfl⟩
        rw [hsbe] at hsb
        have HSB := Lib.hid hsb
        rw [hW5, hsbe]
        clear hab hW5 HMS HO4 HB4 hsb
        go_loopw [43] (fun i W => ∃ j : Nat, j ≤ ms.length ∧ i = .int .i64 j ∧ Below W5.heap.size W5 W) (fun i _ => ms.length - (intOf i).toNat)
        case atStart => exact ⟨0, Nat.zero_le _, rfl, Below.refl _ _⟩
        case round =>
          obtain ⟨j, hj, rfl, hbe⟩ := hrel
          have HBE := Lib.hid hbe
          have hszr := hbe.size
          clear hbe
          by_cases hlt : j < ms.length
          · obtain ⟨x, hx⟩ : ∃ x, ms[j]? = some x := ⟨_, List.getElem?_eq_getElem hlt⟩
            obtain ⟨ws, hrow, hrows⟩ := HMS5.out.below HBE.out
            obtain ⟨v, hv⟩ : ∃ v, ws[j]? = some v := ⟨_, List.getElem?_eq_getElem (by have := hrow.1; omega)⟩
            have hxr := hrows j x v hx hv
            obtain ⟨Ax, cx, rfl⟩ := row_slice hxr
            obtain ⟨g, cap', e, _, hg2⟩ := hrow.form (by omega)
            simp only [Value.slice.injEq, true_and] at e
            obtain ⟨rfl, rfl⟩ := e
            have e0 : wr.cell? ⟨g, j, none⟩ = some (.slice Ax x.length cx) := by rw [hrow.cellAt j (by omega)]; exact hv
            have hx16 : x.length ≤ 16 := by
              have hpx := all_at HBA.out hx
              obtain ⟨k, hk, he⟩ := List.any_eq_true.1 hpx
              have := HKL.out k hk
              rw [← eq_of_beq he, this]; exact hml
            obtain ⟨W6, hW6⟩ : ∃ W6, wr.alloc (.cells #[.slice Ax x.length cx] 25) = W6 := ⟨_, rfl⟩
            have hab : Below wr.heap.size wr W6 := hW6 ▸ (Below.refl _ wr).alloc (Nat.le_refl _) _
            have hxc : W6.cell? ⟨wr.heap.size, 0, none⟩ = some (.slice Ax x.length cx) := by rw [← hW6]; simp [go_sem]
            have HXC := Lib.hid hxc
            have HXR := Lib.hid (own_below hxr hab)
            have HB6 : Hid (Below W5.heap.size W5 W6) := Lib.hid (HBE.out.trans (hab.mono hszr))
            have HO6 := Lib.hid (HO5.out.below HB6.out)
            have HW6 := Lib.hid hW6
            have HPX := Lib.hid (all_at HBA.out hx)
            have HC3 := Lib.hid (con12_any w.heap.size (.slice A2 ks.length c2) ks vs wr.heap.size (fun k => k.mark == x) (fun W => KsOwn W w.heap.size (.slice A2 ks.length c2) ks vs ∧ Below W6.heap.size W6 W) (fun W h => h.1) (by omega)
              (fun W i k v hj a b => by
                have hl := HKL.out k (List.mem_of_getElem? a)
                refine (c3_any k.up k.tran (hj.1.marks i k v a b) (by omega) ((hj.2.cell (p := ⟨wr.heap.size, 0, none⟩) (cell_lt HXC.out)).trans HXC.out) (own_below HXR.out hj.2) hx16).mono ?_
                rintro e W' ⟨rfl, hb⟩
                exact ⟨rfl, hj.1.below hb, hj.2.trans (hb.mono hj.2.size)⟩) W6 ⟨HO6.out, Below.refl _ _⟩)
            rw [HPX.out] at HC3
            clear hx hv hxr hrow hrows hab hxc hW6
            go_upto_region 12 with (fail)
            rw [HW6.out]
            go_wp2_with fail
            refine HC3.out.mono ?_
            rintro e W7 ⟨rfl, hj7⟩
            have HB7 : Hid (Below W5.heap.size W5 W7) := Lib.hid (HB6.out.trans (hj7.2.mono HB6.out.size))
            clear hj7 e0
            go_wp2_with fail
            go_roundw
            case rel => exact ⟨j + 1, by omega, by go_num, HB7.out⟩
            case measure => simp [intOf]; omega
          · go_upto_region 16 with (fail)
            have HBX := HBE
            clear HBE hlt hj hszr
            go_loopw [54] (fun i W => ∃ j : Nat, j ≤ ks.length ∧ i = .int .i64 j ∧ Below W5.heap.size W5 W) (fun i _ => ks.length - (intOf i).toNat)
            case atStart => exact ⟨0, Nat.zero_le _, rfl, HBX.out⟩
            case round =>
              clear HBX
              obtain ⟨j, hj, rfl, hbe⟩ := hrel
              have HBE := Lib.hid hbe
              have hszr := hbe.size
              clear hbe
              by_cases hlt : j < ks.length
              · obtain ⟨k, hk⟩ : ∃ k, ks[j]? = some k := ⟨_, List.getElem?_eq_getElem hlt⟩
                have HO6 := Lib.hid (HO5.out.below HBE.out)
                obtain ⟨v, hv⟩ : ∃ v, vs[j]? = some v := ⟨_, List.getElem?_eq_getElem (by have := HO6.out.len; omega)⟩
                obtain ⟨g, cap', e, _, hg2⟩ := HO6.out.form (by omega)
                simp only [Value.slice.injEq, true_and] at e
                obtain ⟨rfl, rfl⟩ := e
                obtain ⟨e0, e1, e2, Ak, ck, rfl, _, _, _⟩ := HO6.out.knot hk hv
                have hkr := HO6.out.marks j k _ hk hv
                have hk16 : k.mark.length ≤ 16 := by rw [HKL.out k (List.mem_of_getElem? hk)]; exact hml
                obtain ⟨W6, hW6⟩ : ∃ W6, wr.alloc (.cells #[.int .i64 k.up, .int .i64 k.tran, .slice Ak k.mark.length ck] 33) = W6 := ⟨_, rfl⟩
                have hab : Below wr.heap.size wr W6 := hW6 ▸ (Below.refl _ wr).alloc (Nat.le_refl _) _
                have hxc : W6.cell? ⟨wr.heap.size, 2, none⟩ = some (.slice Ak k.mark.length ck) := by rw [← hW6]; simp [go_sem]
                have HXC := Lib.hid hxc
                have HXR := Lib.hid (own_below hkr hab)
                have HB6 : Hid (Below W5.heap.size W5 W6) := Lib.hid (HBE.out.trans (hab.mono hszr))
                obtain ⟨ws, hrow, hrows⟩ := HMS5.out.below HB6.out
                have HRO := Lib.hid hrow
                have HRS := Lib.hid hrows
                have HW6 := Lib.hid hW6
                have hpx := all_at HBB.out hk
                have HPX := Lib.hid hpx
                have hsbl : sb < W5.heap.size := (Array.getElem?_eq_some_iff.1 HSB.out).1
                have f0 : W6.cell? ⟨sb, 0, none⟩ = some (.slice A4 ms.length c4) := by
                  have := (HB6.out.block sb hsbl).trans HSB.out
                  simp [World.cell?, this]
                have HXS : Hid (∀ x ∈ ms, x.length ≤ 16) := Lib.hid (fun x hx => by
                  have hpx := List.all_eq_true.1 HBA.out x hx
                  obtain ⟨k, hk, he⟩ := List.any_eq_true.1 hpx
                  rw [← eq_of_beq he, HKL.out k hk]; exact hml)
                have HC4 := Lib.hid (con15_any w.heap.size (.slice A4 ms.length c4) ms ws wr.heap.size (fun x => k.mark == x) (fun W => W.ownsRow w.heap.size 25 1 (.slice A4 ms.length c4) ms.length ws ∧ Below W6.heap.size W6 W) (fun W h => h.1) hmsn
                  (fun W i x v hj a b => by
                    have hx16 := HXS.out x (List.mem_of_getElem? a)
                    refine (c4_any (own_below (HRS.out i x v a b) hj.2) (by omega) ((hj.2.cell (p := ⟨wr.heap.size, 2, none⟩) (cell_lt HXC.out)).trans HXC.out) (own_below HXR.out hj.2) hk16).mono ?_
                    rintro e W' ⟨rfl, hb⟩
                    exact ⟨rfl, own_below hj.1 hb, hj.2.trans (hb.mono hj.2.size)⟩) W6 ⟨HRO.out.mono (Nat.le_of_lt hlt3), Below.refl _ _⟩)
                rw [HPX.out] at HC4
                clear hk hv hkr hrow hrows hab hxc hW6 hpx
                go_upto_region 18 with (fail)
                rw [HW6.out]
                go_wp2_with fail
                refine HC4.out.mono ?_
                rintro e W7 ⟨rfl, hj7⟩
                have HB7 : Hid (Below W5.heap.size W5 W7) := Lib.hid (HB6.out.trans (hj7.2.mono HB6.out.size))
                clear hj7 e0 e1 e2 f0
                go_wp2_with fail
                go_roundw
                case rel => exact ⟨j + 1, by omega, by go_num, HB7.out⟩
                case measure => simp [intOf]; omega
              · go_wp2_with fail
                go_ret
                exact ⟨rfl, HB5.out.trans (HBE.out.mono (Nat.le_of_lt hlt5))⟩

/-- whatever came in. -/
theorem cover_any (p : Int) (A : Option Addr) (n c : Nat) (ts : List Tx.Tr) (Am : Option Addr) (cm : Nat) (m : List Int) (most : Int) (w : World) (hn : n ≤ 9223372036854775807) (hl : ts.length = n) (hr : TrsAt w w.heap.size A n ts)
    (hnm : m.length ≤ 9223372036854775807) (hm : Reads w w.heap.size 1 Am m.length (m.map (Value.int .i64))) :
    Calls Try.prog 3 #[.agg #[.int .i64 p, .slice A n c], .slice Am m.length cm, .int .i64 most] w fun e w' => e = .returned (.bool true) ∧ Below w.heap.size w w' := by
  by_cases hmo : most < 1 ∨ 300 < most
  · have HW := Lib.hid ((Below.refl w.heap.size w).alloc (Nat.le_refl _) (.cells #[.int .i64 p, .slice A n c] 24))
    have HAL := Lib.hid (alive_any (w.alloc (.cells #[.int .i64 p, .slice A n c] 24)))
    have HT := Lib.hid (fun W => tree_range p A n c (.slice Am m.length cm) most W hmo)
    clear hl hr hm hmo
    go_enter Try.func3, Try.ntmps3
    go_wp2_with fail
    refine HAL.out.mono ?_
    rintro e W1 ⟨rfl, hb1⟩
    have d0 : W1.cell? ⟨w.heap.size, 0, none⟩ = some (.int .i64 p) := (hb1.cell (p := ⟨w.heap.size, 0, none⟩) (by simp)).trans (by simp [go_sem])
    have d1 : W1.cell? ⟨w.heap.size, 1, none⟩ = some (.slice A n c) := (hb1.cell (p := ⟨w.heap.size, 1, none⟩) (by simp)).trans (by simp [go_sem])
    have HB1 : Hid (Below w.heap.size w W1) := Lib.hid (HW.out.trans (hb1.mono (by simp)))
    clear hb1
    go_wp2_with fail
    clear d0 d1
    refine (HT.out _).mono ?_
    rintro e W2 ⟨rfl, hb2⟩
    have HB2 : Hid (Below w.heap.size w W2) := Lib.hid (HB1.out.trans (hb2.mono HB1.out.size))
    clear hb2
    go_wp2_with fail
    go_ret
    exact ⟨rfl, HB2.out⟩
  · obtain ⟨mm, rfl⟩ : ∃ mm : Nat, most = mm := ⟨most.toNat, by omega⟩
    cases hf : Cv.fitV ⟨p, ts⟩ m with
    | true => exact cover_fit p A n c ts Am cm m mm w hl hr hm hf (by omega) (by omega)
    | false =>
      have HW := Lib.hid ((Below.refl w.heap.size w).alloc (Nat.le_refl _) (.cells #[.int .i64 p, .slice A n c] 24))
      have HAL := Lib.hid (alive_any (w.alloc (.cells #[.int .i64 p, .slice A n c] 24)))
      have HT := Lib.hid (fun W (h : Below w.heap.size w W) => tree_unfit p A n c ts Am cm m mm W hn hl ((hr.below h).more h.size) hnm ((hm.below h).more h.size) hf (by omega) (by omega))
      clear hl hr hm hf
      go_enter Try.func3, Try.ntmps3
      go_wp2_with fail
      refine HAL.out.mono ?_
      rintro e W1 ⟨rfl, hb1⟩
      have d0 : W1.cell? ⟨w.heap.size, 0, none⟩ = some (.int .i64 p) := (hb1.cell (p := ⟨w.heap.size, 0, none⟩) (by simp)).trans (by simp [go_sem])
      have d1 : W1.cell? ⟨w.heap.size, 1, none⟩ = some (.slice A n c) := (hb1.cell (p := ⟨w.heap.size, 1, none⟩) (by simp)).trans (by simp [go_sem])
      have HB1 : Hid (Below w.heap.size w W1) := Lib.hid (HW.out.trans (hb1.mono (by simp)))
      clear hb1
      go_wp2_with fail
      clear d0 d1
      refine (HT.out _ HB1.out).mono ?_
      rintro e W2 ⟨rfl, hb2⟩
      have HB2 : Hid (Below w.heap.size w W2) := Lib.hid (HB1.out.trans (hb2.mono HB1.out.size))
      clear hb2
      go_wp2_with fail
      go_ret
      exact ⟨rfl, HB2.out⟩
end Go.Proofs.Ytblbgbgnifdohaa
