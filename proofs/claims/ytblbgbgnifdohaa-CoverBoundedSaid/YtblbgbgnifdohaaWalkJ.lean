/-
  Walks: mark.zip at the two functions that it is handed; mark.Minus, mark.Plus.
-/
import Derived.Test.YtblbgbgnifdohaaWalkI
namespace Go.Proofs.Ytblbgbgnifdohaa
open Go.RowKit

theorem minus1_ok (x y : Int) (w : World) (h0 : 0 ≤ x) (h1 : x ≤ 1000000) (h2 : 0 ≤ y) (h3 : y ≤ x) : Calls Try.prog 45 #[.int .i64 x, .int .i64 y] w fun e w' => e = .returned (.tuple #[.int .i64 (x - y), .int .i64 0]) ∧ w = w' := by
  have h4 : ¬ x < y := by omega
  go_enter Try.func45, Try.ntmps45
  go_wp2_with fail
  go_ret2
  exact ⟨rfl, rfl⟩
theorem plus1_ok (x y : Int) (w : World) (h0 : 0 ≤ x) (h1 : x ≤ 1000000) (h2 : 0 ≤ y) (h3 : y ≤ 1000000) (h4 : x + y ≤ 1000000) : Calls Try.prog 46 #[.int .i64 x, .int .i64 y] w fun e w' => e = .returned (.tuple #[.int .i64 (x + y), .int .i64 0]) ∧ w = w' := by
  have h5 : ¬ 1000000 < x + y := by omega
  go_enter Try.func46, Try.ntmps46
  go_wp2_with fail
  go_ret2
  exact ⟨rfl, rfl⟩
theorem plus1_no (x y : Int) (w : World) (h0 : 0 ≤ x) (h1 : x ≤ 1000000) (h2 : 0 ≤ y) (h3 : y ≤ 1000000) (h4 : 1000000 < x + y) : Calls Try.prog 46 #[.int .i64 x, .int .i64 y] w fun e w' => e = .returned (.tuple #[.int .i64 0, .int .i64 4]) ∧ w = w' := by
  go_enter Try.func46, Try.ntmps46
  go_wp2_with fail
  go_ret2
  exact ⟨rfl, rfl⟩

/-- a row of nils, just made. -/
theorem made_row (w : World) (n : Nat) (hn : n ≤ 4294967296) : (w.alloc (.cells (madeCells #[.int .i64 0] n) 3)).ownsRow w.heap.size 3 1 (.slice (some ⟨w.heap.size, 0, none⟩) n n) n ((List.replicate n 0).map (Value.int .i64)) := by
  refine ⟨by simp, .inr ⟨w.heap.size, n, _, rfl, Nat.le_refl _, heap_alloc_new _ _, Nat.le_refl _, by unfold maxLen; omega, by simp [size_madeCells], ?_⟩⟩
  apply List.ext_getElem
  · simp [madeCells]
  · intro i h1 h2
    simp [madeCells, Nat.mod_one]

def zipI (f : Int → Int → Int) (xs ys : List Int) : List Int := (xs.zip ys).map fun p => f p.1 p.2
theorem zipI_len {f : Int → Int → Int} {xs ys : List Int} {n : Nat} (h : xs.length = n) (h' : ys.length = n) : (zipI f xs ys).length = n := by simp [zipI, h, h']
theorem zipI_at {f : Int → Int → Int} {xs ys : List Int} {n k : Nat} (h : xs.length = n) (h' : ys.length = n) (hk : k < n) : (zipI f xs ys)[k]? = some (f (xs[k]?.getD 0) (ys[k]?.getD 0)) := by
  unfold zipI
  rw [List.getElem?_map]
  have : (xs.zip ys)[k]? = some (xs[k]?.getD 0, ys[k]?.getD 0) := by
    rw [List.getElem?_zip_eq_some]
    simp [List.getElem?_eq_getElem (show k < xs.length by omega), List.getElem?_eq_getElem (show k < ys.length by omega)]
  rw [this]; rfl
theorem get_in {xs : List Int} {n k : Nat} (hl : xs.length = n) (hk : k < n) : xs[k]?.getD 0 ∈ xs := by
  rw [List.getElem?_eq_getElem (by omega)]; simp
theorem right_of {xs : List Int} (h : ∀ x ∈ xs, 0 ≤ x ∧ x ≤ 1000000) : Cv.rightV xs = true := by
  have : xs.any Cv.badN = false := List.any_eq_false.2 (fun x hx => by have := h x hx; simp [Cv.badN]; omega)
  simp [Cv.rightV, this]

set_option maxHeartbeats 1000000 in
theorem zip_minus (A A' : Option Addr) (n c c' : Nat) (xs ys : List Int) (w : World) (hn : n ≤ 16) (hl : xs.length = n) (hl' : ys.length = n) (hx : ∀ x ∈ xs, 0 ≤ x ∧ x ≤ 1000000) (hy : ∀ x ∈ ys, 0 ≤ x ∧ x ≤ 1000000) (hc : ∀ k, k < n → ys[k]?.getD 0 ≤ xs[k]?.getD 0)
    (hr : Reads w w.heap.size 1 A n (xs.map (Value.int .i64))) (hr' : Reads w w.heap.size 1 A' n (ys.map (Value.int .i64))) :
    Calls Try.prog 44 #[.slice A n c, .slice A' n c', .func (.func 45) #[] #[]] w fun e w' => ∃ v', e = .returned (.tuple #[v', .int .i64 0]) ∧ w'.ownsRow w.heap.size 3 1 v' n ((zipI (fun a b => a - b) xs ys).map (Value.int .i64)) ∧ Below w.heap.size w w' := by
  have hmk := run_make_row' (P := Try.prog) 25 3 (.int .i64 0) 8 Try.underlying25 infoI rfl .i64 .i64 n (by omega) (by omega)
  have HRX := Lib.hid (right_any A n c xs w.heap.size w (by omega) hl hr)
  have HRY := Lib.hid (right_any A' n c' ys w.heap.size w (by omega) hl' hr')
  rw [right_of hx] at HRX
  rw [right_of hy] at HRY
  have HR := Lib.hid hr
  have HR' := Lib.hid hr'
  have HL := Lib.hid hl
  have HL' := Lib.hid hl'
  have HX := Lib.hid hx
  have HY := Lib.hid hy
  have HC := Lib.hid hc
  have HM := Lib.hid (made_row w n (by omega))
  have HB0 := Lib.hid ((Below.refl w.heap.size w).alloc (Nat.le_refl _) (.cells (madeCells #[.int .i64 0] n) 3))
  clear hr hr' hl hl' hx hy hc
  go_enter Try.func44, Try.ntmps44
  go_wp2_with fail
  refine HRX.out.mono ?_
  rintro e w' ⟨rfl, rfl⟩
  go_wp2_with fail
  refine HRY.out.mono ?_
  rintro e w' ⟨rfl, rfl⟩
  go_wp2_with fail
  go_loopw [28] (fun i wr => ∃ k : Nat, k ≤ n ∧ i = .int .i64 k ∧ wr.ownsRow w.heap.size 3 1 (.slice (some ⟨w.heap.size, 0, none⟩) n n) n ((part (zipI (fun a b => a - b) xs ys) (List.replicate n 0) k).map (Value.int .i64)) ∧ Below w.heap.size w wr ∧ True) (fun i _ => n - (intOf i).toNat)
  case atStart => exact ⟨0, Nat.zero_le _, rfl, by rw [part_zero]; exact HM.out, HB0.out, trivial⟩
  case round =>
    obtain ⟨k, hk, rfl, hrow, hbel, hgood⟩ := hrel
    have HROW := Lib.hid hrow
    have HBE := Lib.hid hbel
    have HGO := Lib.hid hgood
    clear hrow hbel hgood
    by_cases hlt : k < n
    · have hxk := HX.out _ (get_in HL.out hlt)
      have hyk := HY.out _ (get_in HL'.out hlt)
      have hck := HC.out k hlt
      have HAX := Lib.hid (at_any A n c xs w.heap.size k wr hlt (HR.out.below HBE.out))
      have HAY := Lib.hid (at_any A' n c' ys w.heap.size k wr hlt (HR'.out.below HBE.out))
      have HAT := Lib.hid (zipI_at (f := (fun a b => a - b)) HL.out HL'.out hlt)
      generalize xs[k]?.getD 0 = x at *
      generalize ys[k]?.getD 0 = y at *
      obtain ⟨hx1, hx2⟩ := hxk
      obtain ⟨hy1, hy2⟩ := hyk
      go_wp2_with fail
      refine HAX.out.mono ?_
      rintro e w' ⟨rfl, rfl⟩
      go_wp2_with fail
      refine HAY.out.mono ?_
      rintro e w' ⟨rfl, rfl⟩
      go_wp2_with fail
      refine (minus1_ok x y w' hx1 hx2 hy1 hck).mono ?_
      rintro e w'' ⟨rfl, rfl⟩
      have hcl := row_int HROW.out hlt
      have hfz := HROW.out.frozenAt k
      have hblk := HBE.out.size
      go_wp2_with fail
      go_roundw
      case rel => exact ⟨k + 1, by omega, by go_num, by rw [part_succ (zipI_len HL.out HL'.out) (by simp) hlt HAT.out]; exact row_set HROW.out _, HBE.out.setCell (Nat.le_refl _) _, trivial⟩
      case measure => simp [intOf]; omega
    · go_wp2_with fail
      obtain rfl : k = n := by omega
      go_ret2
      exact ⟨_, rfl, by have h := HROW.out; rwa [part_all (zipI_len HL.out HL'.out) (by simp)] at h, HBE.out⟩

set_option maxHeartbeats 1000000 in
theorem zip_plus (A A' : Option Addr) (n c c' : Nat) (xs ys : List Int) (w : World) (hn : n ≤ 16) (hl : xs.length = n) (hl' : ys.length = n) (hx : ∀ x ∈ xs, 0 ≤ x ∧ x ≤ 1000000) (hy : ∀ x ∈ ys, 0 ≤ x ∧ x ≤ 1000000) (hc : ∀ k, k < n → xs[k]?.getD 0 + ys[k]?.getD 0 ≤ 1000000)
    (hr : Reads w w.heap.size 1 A n (xs.map (Value.int .i64))) (hr' : Reads w w.heap.size 1 A' n (ys.map (Value.int .i64))) :
    Calls Try.prog 44 #[.slice A n c, .slice A' n c', .func (.func 46) #[] #[]] w fun e w' => ∃ v', e = .returned (.tuple #[v', .int .i64 0]) ∧ w'.ownsRow w.heap.size 3 1 v' n ((zipI (fun a b => a + b) xs ys).map (Value.int .i64)) ∧ Below w.heap.size w w' := by
  have hmk := run_make_row' (P := Try.prog) 25 3 (.int .i64 0) 8 Try.underlying25 infoI rfl .i64 .i64 n (by omega) (by omega)
  have HRX := Lib.hid (right_any A n c xs w.heap.size w (by omega) hl hr)
  have HRY := Lib.hid (right_any A' n c' ys w.heap.size w (by omega) hl' hr')
  rw [right_of hx] at HRX
  rw [right_of hy] at HRY
  have HR := Lib.hid hr
  have HR' := Lib.hid hr'
  have HL := Lib.hid hl
  have HL' := Lib.hid hl'
  have HX := Lib.hid hx
  have HY := Lib.hid hy
  have HC := Lib.hid hc
  have HM := Lib.hid (made_row w n (by omega))
  have HB0 := Lib.hid ((Below.refl w.heap.size w).alloc (Nat.le_refl _) (.cells (madeCells #[.int .i64 0] n) 3))
  clear hr hr' hl hl' hx hy hc
  go_enter Try.func44, Try.ntmps44
  go_wp2_with fail
  refine HRX.out.mono ?_
  rintro e w' ⟨rfl, rfl⟩
  go_wp2_with fail
  refine HRY.out.mono ?_
  rintro e w' ⟨rfl, rfl⟩
  go_wp2_with fail
  go_loopw [28] (fun i wr => ∃ k : Nat, k ≤ n ∧ i = .int .i64 k ∧ wr.ownsRow w.heap.size 3 1 (.slice (some ⟨w.heap.size, 0, none⟩) n n) n ((part (zipI (fun a b => a + b) xs ys) (List.replicate n 0) k).map (Value.int .i64)) ∧ Below w.heap.size w wr ∧ True) (fun i _ => n - (intOf i).toNat)
  case atStart => exact ⟨0, Nat.zero_le _, rfl, by rw [part_zero]; exact HM.out, HB0.out, trivial⟩
  case round =>
    obtain ⟨k, hk, rfl, hrow, hbel, hgood⟩ := hrel
    have HROW := Lib.hid hrow
    have HBE := Lib.hid hbel
    have HGO := Lib.hid hgood
    clear hrow hbel hgood
    by_cases hlt : k < n
    · have hxk := HX.out _ (get_in HL.out hlt)
      have hyk := HY.out _ (get_in HL'.out hlt)
      have hck := HC.out k hlt
      have HAX := Lib.hid (at_any A n c xs w.heap.size k wr hlt (HR.out.below HBE.out))
      have HAY := Lib.hid (at_any A' n c' ys w.heap.size k wr hlt (HR'.out.below HBE.out))
      have HAT := Lib.hid (zipI_at (f := (fun a b => a + b)) HL.out HL'.out hlt)
      generalize xs[k]?.getD 0 = x at *
      generalize ys[k]?.getD 0 = y at *
      obtain ⟨hx1, hx2⟩ := hxk
      obtain ⟨hy1, hy2⟩ := hyk
      go_wp2_with fail
      refine HAX.out.mono ?_
      rintro e w' ⟨rfl, rfl⟩
      go_wp2_with fail
      refine HAY.out.mono ?_
      rintro e w' ⟨rfl, rfl⟩
      go_wp2_with fail
      refine (plus1_ok x y w' hx1 hx2 hy1 hy2 hck).mono ?_
      rintro e w'' ⟨rfl, rfl⟩
      have hcl := row_int HROW.out hlt
      have hfz := HROW.out.frozenAt k
      have hblk := HBE.out.size
      go_wp2_with fail
      go_roundw
      case rel => exact ⟨k + 1, by omega, by go_num, by rw [part_succ (zipI_len HL.out HL'.out) (by simp) hlt HAT.out]; exact row_set HROW.out _, HBE.out.setCell (Nat.le_refl _) _, trivial⟩
      case measure => simp [intOf]; omega
    · go_wp2_with fail
      obtain rfl : k = n := by omega
      go_ret2
      exact ⟨_, rfl, by have h := HROW.out; rwa [part_all (zipI_len HL.out HL'.out) (by simp)] at h, HBE.out⟩

set_option maxHeartbeats 1000000 in
theorem zip_plusNo (A A' : Option Addr) (n c c' : Nat) (xs ys : List Int) (w : World) (hn : n ≤ 16) (hl : xs.length = n) (hl' : ys.length = n) (hx : ∀ x ∈ xs, 0 ≤ x ∧ x ≤ 1000000) (hy : ∀ x ∈ ys, 0 ≤ x ∧ x ≤ 1000000) (hc : ∃ k, k < n ∧ 1000000 < xs[k]?.getD 0 + ys[k]?.getD 0)
    (hr : Reads w w.heap.size 1 A n (xs.map (Value.int .i64))) (hr' : Reads w w.heap.size 1 A' n (ys.map (Value.int .i64))) :
    Calls Try.prog 44 #[.slice A n c, .slice A' n c', .func (.func 46) #[] #[]] w fun e w' => e = .returned (.tuple #[.slice none 0 0, .int .i64 4]) ∧ Below w.heap.size w w' := by
  have hmk := run_make_row' (P := Try.prog) 25 3 (.int .i64 0) 8 Try.underlying25 infoI rfl .i64 .i64 n (by omega) (by omega)
  have HRX := Lib.hid (right_any A n c xs w.heap.size w (by omega) hl hr)
  have HRY := Lib.hid (right_any A' n c' ys w.heap.size w (by omega) hl' hr')
  rw [right_of hx] at HRX
  rw [right_of hy] at HRY
  have HR := Lib.hid hr
  have HR' := Lib.hid hr'
  have HL := Lib.hid hl
  have HL' := Lib.hid hl'
  have HX := Lib.hid hx
  have HY := Lib.hid hy
  have HC := Lib.hid hc
  have HM := Lib.hid (made_row w n (by omega))
  have HB0 := Lib.hid ((Below.refl w.heap.size w).alloc (Nat.le_refl _) (.cells (madeCells #[.int .i64 0] n) 3))
  clear hr hr' hl hl' hx hy hc
  go_enter Try.func44, Try.ntmps44
  go_wp2_with fail
  refine HRX.out.mono ?_
  rintro e w' ⟨rfl, rfl⟩
  go_wp2_with fail
  refine HRY.out.mono ?_
  rintro e w' ⟨rfl, rfl⟩
  go_wp2_with fail
  go_loopw [28] (fun i wr => ∃ k : Nat, k ≤ n ∧ i = .int .i64 k ∧ wr.ownsRow w.heap.size 3 1 (.slice (some ⟨w.heap.size, 0, none⟩) n n) n ((part (zipI (fun a b => a + b) xs ys) (List.replicate n 0) k).map (Value.int .i64)) ∧ Below w.heap.size w wr ∧ ∀ j, j < k → xs[j]?.getD 0 + ys[j]?.getD 0 ≤ 1000000) (fun i _ => n - (intOf i).toNat)
  case atStart => exact ⟨0, Nat.zero_le _, rfl, by rw [part_zero]; exact HM.out, HB0.out, fun j hj => absurd hj (by omega)⟩
  case round =>
    obtain ⟨k, hk, rfl, hrow, hbel, hgood⟩ := hrel
    have HROW := Lib.hid hrow
    have HBE := Lib.hid hbel
    have HGO := Lib.hid hgood
    clear hrow hbel hgood
    by_cases hlt : k < n
    · have hxk := HX.out _ (get_in HL.out hlt)
      have hyk := HY.out _ (get_in HL'.out hlt)
      have HNX : Hid (xs[k]?.getD 0 + ys[k]?.getD 0 ≤ 1000000 → ∀ j, j < k + 1 → xs[j]?.getD 0 + ys[j]?.getD 0 ≤ 1000000) := Lib.hid (fun h j hj => by
        by_cases e : j < k
        · exact HGO.out j e
        · obtain rfl : j = k := by omega
          exact h)
      have HAX := Lib.hid (at_any A n c xs w.heap.size k wr hlt (HR.out.below HBE.out))
      have HAY := Lib.hid (at_any A' n c' ys w.heap.size k wr hlt (HR'.out.below HBE.out))
      have HAT := Lib.hid (zipI_at (f := (fun a b => a + b)) HL.out HL'.out hlt)
      generalize xs[k]?.getD 0 = x at *
      generalize ys[k]?.getD 0 = y at *
      obtain ⟨hx1, hx2⟩ := hxk
      obtain ⟨hy1, hy2⟩ := hyk
      by_cases hck : 1000000 < x + y
      · go_wp2_with fail
        refine HAX.out.mono ?_
        rintro e w' ⟨rfl, rfl⟩
        go_wp2_with fail
        refine HAY.out.mono ?_
        rintro e w' ⟨rfl, rfl⟩
        go_wp2_with fail
        refine (plus1_no x y w' hx1 hx2 hy1 hy2 hck).mono ?_
        rintro e w'' ⟨rfl, rfl⟩
        go_wp2_with fail
        go_ret2
        exact ⟨rfl, HBE.out⟩
      · go_wp2_with fail
        refine HAX.out.mono ?_
        rintro e w' ⟨rfl, rfl⟩
        go_wp2_with fail
        refine HAY.out.mono ?_
        rintro e w' ⟨rfl, rfl⟩
        go_wp2_with fail
        refine (plus1_ok x y w' hx1 hx2 hy1 hy2 (by omega)).mono ?_
        rintro e w'' ⟨rfl, rfl⟩
        have hcl := row_int HROW.out hlt
        have hfz := HROW.out.frozenAt k
        have hblk := HBE.out.size
        go_wp2_with fail
        go_roundw
        case rel => exact ⟨k + 1, by omega, by go_num, by rw [part_succ (zipI_len HL.out HL'.out) (by simp) hlt HAT.out]; exact row_set HROW.out _, HBE.out.setCell (Nat.le_refl _) _, HNX.out (by omega)⟩
        case measure => simp [intOf]; omega
    · go_wp2_with fail
      obtain rfl : k = n := by omega
      exfalso
      obtain ⟨j, hj, h⟩ := HC.out
      have := HGO.out j hj
      omega

theorem minus_any (A A' : Option Addr) (n c c' : Nat) (xs ys : List Int) (w : World) (hn : n ≤ 16) (hl : xs.length = n) (hl' : ys.length = n) (hx : ∀ x ∈ xs, 0 ≤ x ∧ x ≤ 1000000) (hy : ∀ x ∈ ys, 0 ≤ x ∧ x ≤ 1000000) (hc : ∀ k, k < n → ys[k]?.getD 0 ≤ xs[k]?.getD 0)
    (hr : Reads w w.heap.size 1 A n (xs.map (Value.int .i64))) (hr' : Reads w w.heap.size 1 A' n (ys.map (Value.int .i64))) :
    Calls Try.prog 41 #[.slice A n c, .slice A' n c'] w fun e w' => ∃ v', e = .returned (.tuple #[v', .int .i64 0]) ∧ w'.ownsRow w.heap.size 3 1 v' n ((zipI (fun a b => a - b) xs ys).map (Value.int .i64)) ∧ Below w.heap.size w w' := by
  have HZ := Lib.hid (zip_minus A A' n c c' xs ys w hn hl hl' hx hy hc hr hr')
  clear hr hr' hl hl' hx hy hc
  go_enter Try.func41, Try.ntmps41
  go_wp2_with fail
  refine HZ.out.mono ?_
  rintro e w2 ⟨v', rfl, hrow, hb⟩
  have HROW := Lib.hid hrow
  have HB := Lib.hid hb
  clear hrow hb
  go_wp2_with fail
  go_ret2
  exact ⟨_, rfl, HROW.out, HB.out⟩
theorem plus_any (A A' : Option Addr) (n c c' : Nat) (xs ys : List Int) (w : World) (hn : n ≤ 16) (hl : xs.length = n) (hl' : ys.length = n) (hx : ∀ x ∈ xs, 0 ≤ x ∧ x ≤ 1000000) (hy : ∀ x ∈ ys, 0 ≤ x ∧ x ≤ 1000000) (hc : ∀ k, k < n → xs[k]?.getD 0 + ys[k]?.getD 0 ≤ 1000000)
    (hr : Reads w w.heap.size 1 A n (xs.map (Value.int .i64))) (hr' : Reads w w.heap.size 1 A' n (ys.map (Value.int .i64))) :
    Calls Try.prog 42 #[.slice A n c, .slice A' n c'] w fun e w' => ∃ v', e = .returned (.tuple #[v', .int .i64 0]) ∧ w'.ownsRow w.heap.size 3 1 v' n ((zipI (fun a b => a + b) xs ys).map (Value.int .i64)) ∧ Below w.heap.size w w' := by
  have HZ := Lib.hid (zip_plus A A' n c c' xs ys w hn hl hl' hx hy hc hr hr')
  clear hr hr' hl hl' hx hy hc
  go_enter Try.func42, Try.ntmps42
  go_wp2_with fail
  refine HZ.out.mono ?_
  rintro e w2 ⟨v', rfl, hrow, hb⟩
  have HROW := Lib.hid hrow
  have HB := Lib.hid hb
  clear hrow hb
  go_wp2_with fail
  go_ret2
  exact ⟨_, rfl, HROW.out, HB.out⟩
theorem plus_no (A A' : Option Addr) (n c c' : Nat) (xs ys : List Int) (w : World) (hn : n ≤ 16) (hl : xs.length = n) (hl' : ys.length = n) (hx : ∀ x ∈ xs, 0 ≤ x ∧ x ≤ 1000000) (hy : ∀ x ∈ ys, 0 ≤ x ∧ x ≤ 1000000) (hc : ∃ k, k < n ∧ 1000000 < xs[k]?.getD 0 + ys[k]?.getD 0)
    (hr : Reads w w.heap.size 1 A n (xs.map (Value.int .i64))) (hr' : Reads w w.heap.size 1 A' n (ys.map (Value.int .i64))) :
    Calls Try.prog 42 #[.slice A n c, .slice A' n c'] w fun e w' => e = .returned (.tuple #[.slice none 0 0, .int .i64 4]) ∧ Below w.heap.size w w' := by
  have HZ := Lib.hid (zip_plusNo A A' n c c' xs ys w hn hl hl' hx hy hc hr hr')
  clear hr hr' hl hl' hx hy hc
  go_enter Try.func42, Try.ntmps42
  go_wp2_with fail
  refine HZ.out.mono ?_
  rintro e w2 ⟨rfl, hb⟩
  have HB := Lib.hid hb
  clear hb
  go_wp2_with fail
  go_ret2
  exact ⟨rfl, HB.out⟩
end Go.Proofs.Ytblbgbgnifdohaa
