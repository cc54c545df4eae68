/-
  The walk of net.Fire.
-/
import Derived.Test.YtblbgbgnifdohaaWalkJ
namespace Go.Proofs.Ytblbgbgnifdohaa
open Go.RowKit

theorem fireR_eq (t : Tx.Tr) (m : List Int) : Cv.fireR t m = zipI (fun a b => a + b) (zipI (fun a b => a - b) m t.pre) t.post := rfl
theorem covers_get {xs ys : List Int} {n k : Nat} (hl : xs.length = n) (hl' : ys.length = n) (h : Cv.coversV xs ys = true) (hk : k < n) : ys[k]?.getD 0 ≤ xs[k]?.getD 0 := by
  have := List.all_eq_true.1 h (xs[k]?.getD 0, ys[k]?.getD 0) (List.mem_iff_getElem?.2 ⟨k, by
    rw [List.getElem?_zip_eq_some]
    simp [List.getElem?_eq_getElem (show k < xs.length by omega), List.getElem?_eq_getElem (show k < ys.length by omega)]⟩)
  simpa using this
theorem right_get {xs : List Int} (h : Cv.rightV xs = true) : ∀ x ∈ xs, 0 ≤ x ∧ x ≤ 1000000 := by
  intro x hx
  have h1 : xs.any Cv.badN = false := by simpa [Cv.rightV] using h
  have := List.any_eq_false.1 h1 x hx
  simp only [Cv.badN, Bool.or_eq_true, decide_eq_true_eq, not_or] at this
  omega
theorem zipI_mem {f : Int → Int → Int} {xs ys : List Int} {n : Nat} (h : xs.length = n) (h' : ys.length = n) {z : Int} (hz : z ∈ zipI f xs ys) : ∃ k, k < n ∧ z = f (xs[k]?.getD 0) (ys[k]?.getD 0) := by
  obtain ⟨k, hk⟩ := List.mem_iff_getElem?.1 hz
  have hkl : k < n := by have := (List.getElem?_eq_some_iff.1 hk).1; rwa [zipI_len h h'] at this
  refine ⟨k, hkl, ?_⟩
  rw [zipI_at h h' hkl] at hk
  exact (Option.some.inj hk).symm
theorem left_ok {m : List Int} {t : Tx.Tr} {n : Nat} (hm : m.length = n) (h1 : t.pre.length = n) (hr : Cv.rightV m = true) (h9 : ∀ x ∈ t.pre, 0 ≤ x ∧ x ≤ 9) (hc : Cv.coversV m t.pre = true) : ∀ x ∈ zipI (fun a b => a - b) m t.pre, 0 ≤ x ∧ x ≤ 1000000 := by
  intro x hx
  obtain ⟨k, hk, rfl⟩ := zipI_mem hm h1 hx
  have a := right_get hr _ (get_in hm hk)
  have b := h9 _ (get_in h1 hk)
  have c := covers_get hm h1 hc hk
  omega

/-- what Fire answers. -/
def fireRes (w : World) (o : Bool) (n : Nat) (xs : List Int) (e : Ending) (w' : World) : Prop :=
  Below w.heap.size w w' ∧ match o with
    | true => ∃ v', e = .returned (.tuple #[v', .int .i64 0]) ∧ w'.ownsRow w.heap.size 3 1 v' n (xs.map (Value.int .i64))
    | false => e = .returned (.tuple #[.slice none 0 0, .int .i64 4])
def okN (xs : List Int) : Bool := !xs.any (fun x => decide (1000000 < x))

theorem plus_both (A A' : Option Addr) (n c c' : Nat) (xs ys : List Int) (w : World) (hn : n ≤ 16) (hl : xs.length = n) (hl' : ys.length = n) (hx : ∀ x ∈ xs, 0 ≤ x ∧ x ≤ 1000000) (hy : ∀ x ∈ ys, 0 ≤ x ∧ x ≤ 1000000)
    (hr : Reads w w.heap.size 1 A n (xs.map (Value.int .i64))) (hr' : Reads w w.heap.size 1 A' n (ys.map (Value.int .i64))) :
    Calls Try.prog 42 #[.slice A n c, .slice A' n c'] w (fireRes w (okN (zipI (fun a b => a + b) xs ys)) n (zipI (fun a b => a + b) xs ys)) := by
  cases h : okN (zipI (fun a b => a + b) xs ys) with
  | true =>
    have hall : ∀ k, k < n → xs[k]?.getD 0 + ys[k]?.getD 0 ≤ 1000000 := fun k hk => by
      have h1 : (zipI (fun a b => a + b) xs ys).any (fun x => decide (1000000 < x)) = false := by simpa [okN] using h
      have := List.any_eq_false.1 h1 _ (List.mem_of_getElem? (zipI_at hl hl' hk))
      simpa using this
    refine (plus_any A A' n c c' xs ys w hn hl hl' hx hy hall hr hr').mono ?_
    rintro e w' ⟨v', h1, h2, h3⟩
    exact ⟨h3, v', h1, h2⟩
  | false =>
    have hex : ∃ k, k < n ∧ 1000000 < xs[k]?.getD 0 + ys[k]?.getD 0 := by
      have h1 : (zipI (fun a b => a + b) xs ys).any (fun x => decide (1000000 < x)) = true := by simpa [okN] using h
      obtain ⟨z, hz, hb⟩ := List.any_eq_true.1 h1
      obtain ⟨k, hk, rfl⟩ := zipI_mem hl hl' hz
      exact ⟨k, hk, by simpa using hb⟩
    refine (plus_no A A' n c c' xs ys w hn hl hl' hx hy hex hr hr').mono ?_
    rintro e w' ⟨h1, h3⟩
    exact ⟨h3, h1⟩

set_option maxHeartbeats 1000000 in
theorem fireN_any (p : Int) (A : Option Addr) (n c : Nat) (ts : List Tx.Tr) (Am : Option Addr) (cm : Nat) (m : List Int) (k : Nat) (t : Tx.Tr) (w : World) (hl : ts.length = n) (hr : TrsAt w w.heap.size A n ts)
    (hm : Reads w w.heap.size 1 Am m.length (m.map (Value.int .i64))) (hf : Cv.fitV ⟨p, ts⟩ m = true) (hk : ts[k]? = some t) (hc : Cv.coversV m t.pre = true) :
    Calls Try.prog 37 #[.agg #[.int .i64 p, .slice A n c], .slice Am m.length cm, .int .i64 k] w (fireRes w (okN (Cv.fireR t m)) m.length (Cv.fireR t m)) := by
  obtain ⟨hlp, hrt, htl, hml, hts⟩ := Cv.fit_parts hf
  dsimp only at hlp htl hts
  have hkn : k < n := by have := (List.getElem?_eq_some_iff.1 hk).1; omega
  obtain ⟨hp1, hp2, hp9, hr9⟩ := hts t (List.mem_of_getElem? hk)
  obtain ⟨ad, rfl, hbk, hcells⟩ := hr (by omega)
  have hb1 : (ad.add (k * 3)).block < w.heap.size := by rw [block_of_add]; exact hbk
  obtain ⟨v1, v2, e0, e1, e2, ⟨A1, c1, rfl, _, _, hr1⟩, ⟨A2, c2, rfl, _, _, hr2⟩⟩ := hcells k _ hk
  rw [hp1] at hr1 e1
  rw [hp2] at hr2 e2
  have HW := Lib.hid ((Below.refl w.heap.size w).alloc (Nat.le_refl _) (.cells #[.int .i64 p, .slice (some ad) n c] 24))
  have HC := Lib.hid (fits_any p (some ad) n c ts Am cm m (w.alloc (.cells #[.int .i64 p, .slice (some ad) n c] 24)) (by omega) hl ((hr.below HW.out).more (by simp)) (by omega) ((hm.below HW.out).more (by simp)))
  rw [hf] at HC
  have HM := Lib.hid hm
  have HR1 := Lib.hid hr1
  have HR2 := Lib.hid hr2
  have HP1 := Lib.hid hp1
  have HP2 := Lib.hid hp2
  have HP9 := Lib.hid hp9
  have HR9 := Lib.hid hr9
  have HRT := Lib.hid hrt
  have HCV := Lib.hid hc
  have HE1 := Lib.hid e1
  have HE2 := Lib.hid e2
  clear hr hl hm hf hts hlp hrt hk hc hp1 hp2 hp9 hr9 hcells hr1 hr2 e0 e1 e2
  obtain ⟨b, hb⟩ : ∃ b, okN (Cv.fireR t m) = b := ⟨_, rfl⟩
  rw [hb]
  have HOK := Lib.hid hb
  clear hb
  go_enter Try.func37, Try.ntmps37
  go_wp2_with fail
  refine HC.out.mono ?_
  rintro e w2 ⟨rfl, hb2⟩
  have HB := Lib.hid (HW.out.trans (hb2.mono (by simp)))
  have hc1 : w2.cell? ⟨w.heap.size, 1, none⟩ = some (.slice (some ad) n c) := (hb2.cell (p := ⟨w.heap.size, 1, none⟩) (by simp)).trans (by simp [go_sem])
  have hz : w.heap.size < w2.heap.size := by have := hb2.size; simp at this; omega
  have f1 := (HB.out.cell (p := ⟨(ad.add (k * 3)).block, (ad.add (k * 3)).off + 1, none⟩) hb1).trans HE1.out
  clear hb2
  simp only [fitE]
  have HMI := Lib.hid (minus_any Am A1 m.length cm c1 m t.pre w2 hml rfl HP1.out (right_get HRT.out) (fun x hx => by have := HP9.out x hx; omega) (fun j hj => covers_get rfl HP1.out HCV.out hj)
    ((HM.out.below HB.out).more (Nat.le_of_lt hz)) ((HR1.out.below HB.out).more (Nat.le_of_lt hz)))
  go_wp2_with fail
  refine HMI.out.mono ?_
  rintro e w3 ⟨v3, rfl, hrow3, hb3⟩
  obtain ⟨A3, c3, rfl⟩ := row_slice hrow3
  have HB3 := Lib.hid (HB.out.trans (hb3.mono (Nat.le_of_lt hz)))
  have hz3 : w.heap.size < w3.heap.size := by have := hb3.size; omega
  have d1 : w3.cell? ⟨w.heap.size, 1, none⟩ = some (.slice (some ad) n c) := (hb3.cell (p := ⟨w.heap.size, 1, none⟩) hz).trans hc1
  have f2 := (HB3.out.cell (p := ⟨(ad.add (k * 3)).block, (ad.add (k * 3)).off + 2, none⟩) hb1).trans HE2.out
  have HPL := Lib.hid (plus_both A3 A2 m.length c3 c2 (zipI (fun a b => a - b) m t.pre) t.post w3 hml (zipI_len rfl HP1.out) HP2.out (left_ok rfl HP1.out HRT.out HP9.out HCV.out) (fun x hx => by have := HR9.out x hx; omega)
    (row_reads hrow3) ((HR2.out.below HB3.out).more (Nat.le_of_lt hz3)))
  clear hb3 hrow3 hc1 f1
  rw [← fireR_eq, HOK.out] at HPL
  go_wp2_with fail
  refine HPL.out.mono ?_
  rintro e w4 hres
  obtain ⟨hb4, hres⟩ := hres
  have HB4 := Lib.hid (HB3.out.trans (hb4.mono (Nat.le_of_lt hz3)))
  clear hb4
  cases b with
  | true =>
    obtain ⟨v4, rfl, hrow4⟩ := hres
    have HR4 := Lib.hid (hrow4.mono (Nat.le_of_lt hz3))
    clear hrow4
    go_wp2_with fail
    go_ret2
    exact ⟨HB4.out, _, rfl, HR4.out⟩
  | false =>
    obtain rfl : e = _ := hres
    go_wp2_with fail
    go_ret2
    exact ⟨HB4.out, rfl⟩
end Go.Proofs.Ytblbgbgnifdohaa
