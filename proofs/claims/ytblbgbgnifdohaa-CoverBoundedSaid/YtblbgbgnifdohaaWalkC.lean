/-
  Walks: a mark beside its net (fits), at, Covers, below.
-/
import Derived.Test.YtblbgbgnifdohaaWalkB
namespace Go.Proofs.Ytblbgbgnifdohaa
open Go.RowKit

/-- the cells of transitions behind an address. -/
def TrsAt (w : World) (B : Nat) (A : Option Addr) (n : Nat) (ts : List Tx.Tr) : Prop :=
  0 < n → ∃ ad, A = some ad ∧ ad.block < B ∧ ∀ k t, ts[k]? = some t → TranCells w B (ad.add (k * 3)) t
theorem TrsAt.below {w w' : World} {B n : Nat} {A : Option Addr} {ts : List Tx.Tr} (h : TrsAt w B A n ts) (hb : Below B w w') : TrsAt w' B A n ts := fun hn => by
  obtain ⟨ad, e, hk, hx⟩ := h hn
  exact ⟨ad, e, hk, fun k t ht => (hx k t ht).keep (by rw [block_of_add]; exact hk) (fun _ hp => hb.cell hp)⟩
theorem TranCells.more {w : World} {B B' : Nat} {p : Addr} {t : Tx.Tr} (h : TranCells w B p t) (hB : B ≤ B') : TranCells w B' p t := by
  obtain ⟨v1, v2, h0, h1, h2, h3, h4⟩ := h
  exact ⟨v1, v2, h0, h1, h2, h3.more hB, h4.more hB⟩
theorem TrsAt.more {w : World} {B B' n : Nat} {A : Option Addr} {ts : List Tx.Tr} (h : TrsAt w B A n ts) (hB : B ≤ B') : TrsAt w B' A n ts := fun hn => by
  obtain ⟨ad, e, hk, hx⟩ := h hn
  exact ⟨ad, e, by omega, fun k t ht => (hx k t ht).more hB⟩

def fitE (b : Bool) : Int := if b then 0 else 2
theorem ret_int {a b : Int} (h : a = b) : Ending.returned (.int .i64 a) = .returned (.int .i64 b) := by rw [h]

theorem fits_any (p : Int) (A : Option Addr) (n c : Nat) (ts : List Tx.Tr) (Am : Option Addr) (cm : Nat) (xs : List Int) (w : World) (hn : n ≤ 9223372036854775807) (hl : ts.length = n) (hr : TrsAt w w.heap.size A n ts)
    (hnm : xs.length ≤ 9223372036854775807) (hm : Reads w w.heap.size 1 Am xs.length (xs.map (Value.int .i64))) :
    Calls Try.prog 27 #[.agg #[.int .i64 p, .slice A n c], .slice Am xs.length cm] w fun e w' => e = .returned (.int .i64 (fitE (Cv.fitV ⟨p, ts⟩ xs))) ∧ Below w.heap.size w w' := by
  have HW := Lib.hid ((Below.refl w.heap.size w).alloc (Nat.le_refl _) (.cells #[.int .i64 p, .slice A n c] 24))
  have HC := Lib.hid (wrong_any p A n c ts (w.alloc (.cells #[.int .i64 p, .slice A n c] 24)) hn hl ((hr.below HW.out).more (by simp)))
  have HM := Lib.hid hm
  clear hr hl hm
  go_enter Try.func27, Try.ntmps27
  go_wp2_with fail
  refine HC.out.mono ?_
  rintro e w2 ⟨rfl, hb2⟩
  have HB := Lib.hid (HW.out.trans (hb2.mono (by simp)))
  have hc0 : w2.cell? ⟨w.heap.size, 0, none⟩ = some (.int .i64 p) := (hb2.cell (p := ⟨w.heap.size, 0, none⟩) (by simp)).trans (by simp [go_sem])
  clear hb2
  cases hwr : Tx.ntWrong ⟨p, ts⟩ with
  | true =>
    have HF : Hid (Cv.fitV ⟨p, ts⟩ xs = false) := Lib.hid (by simp [Cv.fitV, hwr])
    simp only [wrongE, if_true]
    clear hwr
    go_wp2_with fail
    go_ret
    exact ⟨ret_int (by rw [HF.out]; rfl), HB.out⟩
  | false =>
    have HWR := Lib.hid hwr
    simp only [wrongE]
    clear hwr
    by_cases hlen : (xs.length : Int) = p
    · have HR := Lib.hid (right_any Am xs.length cm xs w.heap.size w2 hnm rfl (HM.out.below HB.out))
      have HF : Hid (Cv.fitV ⟨p, ts⟩ xs = Cv.rightV xs) := Lib.hid (by simp [Cv.fitV, HWR.out, hlen])
      cases hrt : Cv.rightV xs with
      | true =>
        rw [hrt] at HR HF
        clear hrt
        go_wp2_with (go_at_call 33; refine HR.out.mono ?_; rintro e w' ⟨rfl, rfl⟩)
        go_ret
        exact ⟨ret_int (by rw [HF.out]; rfl), HB.out⟩
      | false =>
        rw [hrt] at HR HF
        clear hrt
        go_wp2_with (go_at_call 33; refine HR.out.mono ?_; rintro e w' ⟨rfl, rfl⟩)
        go_ret
        exact ⟨ret_int (by rw [HF.out]; rfl), HB.out⟩
    · have HF : Hid (Cv.fitV ⟨p, ts⟩ xs = false) := Lib.hid (by simp [Cv.fitV, hlen])
      go_wp2_with fail
      go_ret
      exact ⟨ret_int (by rw [HF.out]; rfl), HB.out⟩

theorem at_any (A : Option Addr) (n c : Nat) (xs : List Int) (B k : Nat) (w : World) (hk : k < n) (hr : Reads w B 1 A n (xs.map (Value.int .i64))) :
    Calls Try.prog 34 #[.slice A n c, .int .i64 k] w fun e w' => e = .returned (.int .i64 (xs[k]?.getD 0)) ∧ w' = w := by
  obtain ⟨ad, rfl, _, hcell⟩ := hr.int_at hk
  clear hr
  go_enter Try.func34, Try.ntmps34
  go_wp2_with fail
  go_ret
  exact ⟨rfl, rfl⟩

theorem covers_at {xs ys : List Int} {n k : Nat} (hl : xs.length = n) (hl' : ys.length = n) (hk : k < n) (h : xs[k]?.getD 0 < ys[k]?.getD 0) : Cv.coversV xs ys = false := by
  refine Bool.eq_false_iff.2 (fun e => ?_)
  unfold Cv.coversV at e
  have := List.all_eq_true.1 e (xs[k], ys[k]) (List.mem_iff_getElem?.2 ⟨k, by simp [List.getElem?_zip_eq_some, show k < xs.length by omega, show k < ys.length by omega]⟩)
  simp only [decide_eq_true_iff] at this
  rw [List.getElem?_eq_getElem (by omega), List.getElem?_eq_getElem (by omega)] at h
  simp at h
  omega
theorem covers_all {xs ys : List Int} {n : Nat} (hl : xs.length = n) (hl' : ys.length = n) (h : ∀ k, k < n → ys[k]?.getD 0 ≤ xs[k]?.getD 0) : Cv.coversV xs ys = true := by
  unfold Cv.coversV
  refine List.all_eq_true.2 (fun p hp => ?_)
  obtain ⟨k, hk⟩ := List.mem_iff_getElem?.1 hp
  rw [List.getElem?_zip_eq_some] at hk
  have hkl := (List.getElem?_eq_some_iff.1 hk.1).1
  have := h k (by omega)
  rw [hk.1, hk.2] at this
  simpa using this

theorem covers_any (A A' : Option Addr) (n c c' : Nat) (xs ys : List Int) (B B' : Nat) (w : World) (hn : n ≤ 9223372036854775807) (hl : xs.length = n) (hl' : ys.length = n) (hr : Reads w B 1 A n (xs.map (Value.int .i64))) (hr' : Reads w B' 1 A' n (ys.map (Value.int .i64))) :
    Calls Try.prog 28 #[.slice A n c, .slice A' n c'] w fun e w' => e = .returned (.bool (Cv.coversV xs ys)) ∧ w = w' := by
  have HR := Lib.hid hr
  have HR' := Lib.hid hr'
  have HL := Lib.hid hl
  have HL' := Lib.hid hl'
  clear hr hr' hl hl'
  go_enter Try.func28, Try.ntmps28
  go_wp2_with fail
  go_loop [11] (fun i => ∃ k : Nat, k ≤ n ∧ i = .int .i64 k ∧ ∀ j, j < k → ys[j]?.getD 0 ≤ xs[j]?.getD 0) (fun i => n - (intOf i).toNat)
  case atStart => exact ⟨0, Nat.zero_le _, rfl, fun j hj => absurd hj (by omega)⟩
  case round =>
    obtain ⟨k, hk, rfl, hall⟩ := hrel
    have HA := Lib.hid hall
    clear hall
    by_cases hlt : k < n
    · have HX := Lib.hid (at_any A n c xs B k w hlt HR.out)
      have HY := Lib.hid (at_any A' n c' ys B' k w hlt HR'.out)
      by_cases hcmp : xs[k]?.getD 0 < ys[k]?.getD 0
      · go_wp2_with fail
        refine HX.out.mono ?_
        rintro e w' ⟨rfl, rfl⟩
        go_wp2_with fail
        refine HY.out.mono ?_
        rintro e w' ⟨rfl, rfl⟩
        go_wp2_with fail
        go_ret
        exact ⟨ret_bool (covers_at HL.out HL'.out hlt hcmp).symm, rfl⟩
      · go_wp2_with fail
        refine HX.out.mono ?_
        rintro e w' ⟨rfl, rfl⟩
        go_wp2_with fail
        refine HY.out.mono ?_
        rintro e w' ⟨rfl, rfl⟩
        go_wp2_with fail
        go_round
        case rel => exact ⟨k + 1, by omega, by go_num, fun j hj => by
          by_cases h : j < k
          · exact HA.out j h
          · obtain rfl : j = k := by omega
            omega⟩
        case measure => simp [intOf]; omega
    · go_wp2_with fail
      go_ret
      exact ⟨ret_bool (covers_all HL.out HL'.out (fun j hj => HA.out j (by omega))).symm, rfl⟩

/-! ### below -/
def belowP (x y : Int) : Bool := !(y != -1 && (x == -1 || decide (y < x)))
theorem belowV_eq (xs ys : List Int) : Cv.belowV xs ys = (xs.zip ys).all fun p => belowP p.1 p.2 := rfl
theorem below_at {xs ys : List Int} {n k : Nat} (hl : xs.length = n) (hl' : ys.length = n) (hk : k < n) (h : belowP (xs[k]?.getD 0) (ys[k]?.getD 0) = false) : Cv.belowV xs ys = false := by
  refine Bool.eq_false_iff.2 (fun e => ?_)
  rw [belowV_eq] at e
  have := List.all_eq_true.1 e (xs[k], ys[k]) (List.mem_iff_getElem?.2 ⟨k, by simp [List.getElem?_zip_eq_some, show k < xs.length by omega, show k < ys.length by omega]⟩)
  rw [List.getElem?_eq_getElem (by omega), List.getElem?_eq_getElem (by omega)] at h
  simp only [Option.getD_some] at h
  rw [h] at this
  cases this
theorem below_all {xs ys : List Int} {n : Nat} (hl : xs.length = n) (hl' : ys.length = n) (h : ∀ k, k < n → belowP (xs[k]?.getD 0) (ys[k]?.getD 0) = true) : Cv.belowV xs ys = true := by
  rw [belowV_eq]
  refine List.all_eq_true.2 (fun p hp => ?_)
  obtain ⟨k, hk⟩ := List.mem_iff_getElem?.1 hp
  rw [List.getElem?_zip_eq_some] at hk
  have hkl := (List.getElem?_eq_some_iff.1 hk.1).1
  have := h k (by omega)
  rw [hk.1, hk.2] at this
  simpa using this

theorem below_any (A A' : Option Addr) (n c c' : Nat) (xs ys : List Int) (B B' : Nat) (w : World) (hn : n ≤ 9223372036854775807) (hl : xs.length = n) (hl' : ys.length = n) (hr : Reads w B 1 A n (xs.map (Value.int .i64))) (hr' : Reads w B' 1 A' n (ys.map (Value.int .i64))) :
    Calls Try.prog 20 #[.slice A n c, .slice A' n c'] w fun e w' => e = .returned (.bool (Cv.belowV xs ys)) ∧ w = w' := by
  have HR := Lib.hid hr
  have HR' := Lib.hid hr'
  have HL := Lib.hid hl
  have HL' := Lib.hid hl'
  clear hr hr' hl hl'
  go_enter Try.func20, Try.ntmps20
  go_wp2_with fail
  go_loop [9] (fun i => ∃ k : Nat, k ≤ n ∧ i = .int .i64 k ∧ ∀ j, j < k → belowP (xs[j]?.getD 0) (ys[j]?.getD 0) = true) (fun i => n - (intOf i).toNat)
  case atStart => exact ⟨0, Nat.zero_le _, rfl, fun j hj => absurd hj (by omega)⟩
  case round =>
    obtain ⟨k, hk, rfl, hall⟩ := hrel
    have HA := Lib.hid hall
    clear hall
    by_cases hlt : k < n
    · obtain ⟨ad, rfl, _, hcell⟩ := HR.out.int_at hlt
      obtain ⟨ad', rfl, _, hcell'⟩ := HR'.out.int_at hlt
      have HN : Hid (belowP (xs[k]?.getD 0) (ys[k]?.getD 0) = true → ∀ j, j < k + 1 → belowP (xs[j]?.getD 0) (ys[j]?.getD 0) = true) := Lib.hid (fun hb j hj => by
          by_cases h : j < k
          · exact HA.out j h
          · obtain rfl : j = k := by omega
            exact hb)
      have HF : Hid (belowP (xs[k]?.getD 0) (ys[k]?.getD 0) = false → Cv.belowV xs ys = false) := Lib.hid (below_at HL.out HL'.out hlt)
      generalize xs[k]?.getD 0 = x at *
      generalize ys[k]?.getD 0 = y at *
      by_cases h1 : y = -1
      · subst h1
        go_wp2_with fail
        go_round
        case rel => exact ⟨k + 1, by omega, by go_num, HN.out (by simp [belowP])⟩
        case measure => simp [intOf]; omega
      · by_cases h2 : x = -1
        · subst h2
          go_wp2_with fail
          go_ret
          exact ⟨ret_bool (HF.out (by simp [belowP, h1])).symm, rfl⟩
        · have h2b : (x == -1) = false := by simpa using h2
          by_cases h3 : y < x
          · go_wp2_with fail
            go_ret
            exact ⟨ret_bool (HF.out (by simp [belowP, h1, h3])).symm, rfl⟩
          · have h4 : x ≤ y := Int.not_lt.1 h3
            have HD : Hid (belowP x y = true) := Lib.hid (by simp [belowP, h2, h3])
            clear h3
            go_wp2_with fail
            go_round
            case rel => exact ⟨k + 1, by omega, by go_num, HN.out HD.out⟩
            case measure => simp [intOf]; omega
    · go_wp2_with fail
      go_ret
      exact ⟨ret_bool (below_all HL.out HL'.out (fun j hj => HA.out j (by omega))).symm, rfl⟩
end Go.Proofs.Ytblbgbgnifdohaa
