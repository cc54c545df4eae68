/-
  Walks: slices.Equal and slices.Clone at slices that lie anywhere; a transition fires (cover.fire).
-/
import Derived.Test.YtblbgbgnifdohaaWalkC
import Derived.StillTailTactics
import Derived.Deep.Onto
namespace Go.Proofs.Ytblbgbgnifdohaa
open Go.RowKit

theorem list_ne {xs ys : List Int} {n k : Nat} (hl : xs.length = n) (hl' : ys.length = n) (hk : k < n) (h : xs[k]?.getD 0 ≠ ys[k]?.getD 0) : (xs == ys) = false := by
  refine Bool.eq_false_iff.2 (fun e => h ?_)
  rw [eq_of_beq e]
theorem list_eq {xs ys : List Int} {n : Nat} (hl : xs.length = n) (hl' : ys.length = n) (h : ∀ k, k < n → xs[k]?.getD 0 = ys[k]?.getD 0) : (xs == ys) = true := by
  have : xs = ys := List.ext_getElem (by omega) (fun k h1 h2 => by
    have := h k (by omega)
    rw [List.getElem?_eq_getElem h1, List.getElem?_eq_getElem h2] at this
    simpa using this)
  simp [this]

theorem equal_any (A A' : Option Addr) (n n' c c' : Nat) (xs ys : List Int) (B B' : Nat) (w : World) (hn : n ≤ 9223372036854775807) (hn' : n' ≤ 9223372036854775807) (hl : xs.length = n) (hl' : ys.length = n')
    (hr : Reads w B 1 A n (xs.map (Value.int .i64))) (hr' : Reads w B' 1 A' n' (ys.map (Value.int .i64))) :
    Calls Try.prog 13 #[.slice A n c, .slice A' n' c'] w fun e w' => e = .returned (.bool (xs == ys)) ∧ ∃ q, w' = w.drewN q := by
  by_cases hnn : n = n'
  · subst hnn
    have HR := Lib.hid hr
    have HR' := Lib.hid hr'
    have HL := Lib.hid hl
    have HL' := Lib.hid hl'
    clear hr hr' hl hl'
    go_enter Try.func13, Try.ntmps13
    go_wp2_with fail
    go_loopw [13] (fun i wr => ∃ k q : Nat, k ≤ n ∧ i = .int .i64 k ∧ wr = w.drewN q ∧ ∀ j, j < k → xs[j]?.getD 0 = ys[j]?.getD 0) (fun i _ => n - (intOf i).toNat)
    case atStart => exact ⟨0, 0, Nat.zero_le _, rfl, rfl, fun j hj => absurd hj (by omega)⟩
    case round =>
      obtain ⟨k, q, hk, rfl, rfl, hall⟩ := hrel
      have HA := Lib.hid hall
      clear hall
      by_cases hlt : k < n
      · obtain ⟨ad, rfl, _, hcell⟩ := HR.out.int_at hlt
        obtain ⟨ad', rfl, _, hcell'⟩ := HR'.out.int_at hlt
        by_cases he : xs[k]?.getD 0 = ys[k]?.getD 0
        · have HE := Lib.hid he
          rw [← he] at hcell'
          clear he
          go_wp2_with fail
          go_quiet (fail)
          go_wp2_with fail
          go_roundw
          case rel => exact ⟨k + 1, _, by omega, by go_num, by first | rfl | exact (World.drewN_drewN _ _ _).symm | exact World.drewN_drewN _ _ _, fun j hj => by
            by_cases h : j < k
            · exact HA.out j h
            · obtain rfl : j = k := by omega
              exact HE.out⟩
          case measure => simp [intOf]; omega
        · have HN := Lib.hid (list_ne HL.out HL'.out hlt he)
          have heb : (xs[k]?.getD 0 != ys[k]?.getD 0) = true := by simpa using he
          have heb2 : (xs[k]?.getD 0 == ys[k]?.getD 0) = false := by simpa using he
          clear he
          go_wp2_with fail
          go_quiet (fail)
          go_wp2_with fail
          go_ret
          exact ⟨ret_bool HN.out.symm, q + nq, World.drewN_drewN _ _ _⟩
      · go_wp2_with fail
        go_ret
        exact ⟨ret_bool (list_eq HL.out HL'.out (fun j hj => HA.out j (by omega))).symm, q, rfl⟩
  · have HN : Hid ((xs == ys) = false) := Lib.hid (Bool.eq_false_iff.2 (fun e => hnn (by rw [← hl, ← hl', eq_of_beq e])))
    have c := Try.slices_Equal_int_lens A A' n c n' c' w hnn
    refine c.mono ?_
    rintro e w' ⟨rfl, rfl⟩
    exact ⟨ret_bool HN.out.symm, 0, rfl⟩

theorem spot_none {w : World} {p : Addr} {v : Value} (h : w.cell? p = some v) : p.spot = none := by
  unfold World.cell? at h
  split at h
  · split at h
    · cases h
    · rename_i hs; simpa using hs
  · cases h
theorem add_lit' (b o j : Nat) : (⟨b, o, none⟩ : Addr).add j = ⟨b, o + j, none⟩ := by
  unfold Addr.add
  split
  · rename_i h; rw [h]; rfl
  · rfl

theorem clone_any (A : Option Addr) (n c : Nat) (xs : List Int) (B : Nat) (w : World) (hn : n ≤ 4294967296) (hl : xs.length = n) (hr : Reads w B 1 A n (xs.map (Value.int .i64))) :
    Calls Try.prog 18 #[.slice A n c] w fun e w' => ∃ v', e = .returned v' ∧ w'.ownsRow w.heap.size 3 1 v' n (xs.map (Value.int .i64)) ∧ Below w.heap.size w w' := by
  cases A with
  | none =>
    obtain rfl : n = 0 := by
      rcases Nat.eq_zero_or_pos n with h | h
      · exact h
      · obtain ⟨ad, e, _⟩ := hr.2 h
        cases e
    obtain rfl : xs = [] := List.length_eq_zero_iff.1 hl
    refine (Try.slices_Clone_int_nil 0 c w).mono ?_
    rintro e w' ⟨rfl, rfl⟩
    exact ⟨_, rfl, World.ownsRow_nil _ _ _ _, Below.refl _ _⟩
  | some ad =>
    rcases Nat.eq_zero_or_pos n with h | h
    · subst h
      obtain rfl : xs = [] := List.length_eq_zero_iff.1 hl
      refine (Try.slices_Clone_int_zero ad c w).mono ?_
      rintro e w' ⟨v', rfl, h1, _, h2⟩
      exact ⟨v', rfl, h1, h2⟩
    · obtain ⟨ad', e, hb, hc⟩ := hr.2 h
      cases e
      have h0 := hc 0 (.int .i64 (xs[0]'(by omega))) (by simp)
      have hs := spot_none h0
      obtain ⟨b, o, s⟩ := ad
      have hs' : s = none := hs
      subst hs'
      refine (Try.slices_Clone_int b o n c xs w (by omega) (by omega) (fun j hj => ?_)).mono ?_
      · rw [← add_lit']
        exact hc j _ (by simp [List.getD, List.getElem?_eq_getElem hj])
      · rintro e w' ⟨v', rfl, h1, _, h2⟩
        rw [List.take_of_length_le (by omega)] at h1
        exact ⟨v', rfl, h1, h2⟩

/-! ### a transition fires -/
def fireP (x q r : Int) : Int := if x = -1 then -1 else x + (r - q)
theorem fireV_at (l : Int) (xs qs rs : List Int) {n k : Nat} (hx : xs.length = n) (hq : qs.length = n) (hr : rs.length = n) (hk : k < n) :
    (Cv.fireV ⟨l, qs, rs⟩ xs)[k]? = some (fireP (xs[k]?.getD 0) (qs[k]?.getD 0) (rs[k]?.getD 0)) := by
  unfold Cv.fireV
  rw [List.getElem?_map]
  have : (xs.zip (qs.zip rs))[k]? = some (xs[k]?.getD 0, (qs[k]?.getD 0, rs[k]?.getD 0)) := by
    rw [List.getElem?_zip_eq_some]
    simp only
    refine ⟨by simp [List.getElem?_eq_getElem (show k < xs.length by omega)], ?_⟩
    rw [List.getElem?_zip_eq_some]
    simp [List.getElem?_eq_getElem (show k < qs.length by omega), List.getElem?_eq_getElem (show k < rs.length by omega)]
  rw [this]; rfl
/-- the row when k places are done. -/
def part (ys xs : List Int) (k : Nat) : List Int := ys.take k ++ xs.drop k
theorem part_zero (ys xs : List Int) : part ys xs 0 = xs := by simp [part]
theorem part_all {ys xs : List Int} {n : Nat} (h : ys.length = n) (h' : xs.length = n) : part ys xs n = ys := by
  unfold part; rw [List.take_of_length_le (by omega), List.drop_of_length_le (by omega), List.append_nil]
theorem part_len {ys xs : List Int} {n k : Nat} (h : ys.length = n) (h' : xs.length = n) (hk : k ≤ n) : (part ys xs k).length = n := by
  unfold part; simp; omega
theorem part_get {ys xs : List Int} {n k : Nat} (h : ys.length = n) (h' : xs.length = n) (hk : k < n) : (part ys xs k)[k]?.getD 0 = xs[k]?.getD 0 := by
  unfold part
  rw [List.getElem?_append_right (by simp; omega)]
  simp [List.length_take, Nat.min_eq_left (show k ≤ ys.length by omega)]
theorem part_succ {ys xs : List Int} {n k : Nat} {y : Int} (h : ys.length = n) (h' : xs.length = n) (hk : k < n) (hy : ys[k]? = some y) : part ys xs (k + 1) = (part ys xs k).set k y := by
  apply List.ext_getElem?
  intro i
  unfold part
  rw [List.getElem?_set]
  obtain ⟨hk', rfl⟩ := List.getElem?_eq_some_iff.1 hy
  by_cases hi : k = i
  · subst hi
    simp only [if_true]
    rw [if_pos (by simp; omega), List.getElem?_append_left (by simp; omega)]
    simp [List.getElem?_take, hk']
  · rw [if_neg hi]
    by_cases hlt : i < k
    · rw [List.getElem?_append_left (by simp; omega), List.getElem?_append_left (by simp; omega)]
      simp [List.getElem?_take, hlt, show i < k + 1 by omega]
    · rw [List.getElem?_append_right (by simp; omega), List.getElem?_append_right (by simp; omega)]
      simp only [List.length_take, Nat.min_eq_left (show k ≤ ys.length by omega), Nat.min_eq_left (show k + 1 ≤ ys.length by omega), List.getElem?_drop]
      congr 1
      omega
theorem part_same {ys xs : List Int} {n k : Nat} (h : ys.length = n) (h' : xs.length = n) (hk : k < n) (hy : ys[k]? = some (xs[k]?.getD 0)) : part ys xs (k + 1) = part ys xs k := by
  rw [part_succ h h' hk hy]
  have hg := part_get h h' hk
  have hl := part_len h h' (Nat.le_of_lt hk)
  rw [List.getElem?_eq_getElem (by omega)] at hg
  simp only [Option.getD_some] at hg
  rw [← hg, List.set_getElem_self]

/-- a cell of an own row. -/
theorem row_int {w : World} {base g n cap k : Nat} {xs : List Int} (h : w.ownsRow base 3 1 (.slice (some ⟨g, 0, none⟩) n cap) n (xs.map (Value.int .i64))) (hk : k < n) : w.cell? ⟨g, k, none⟩ = some (.int .i64 (xs[k]?.getD 0)) := by
  rw [h.cellAt k (by omega)]
  have hl : xs.length = n := by have := h.1; simp at this; omega
  simp [List.getElem?_eq_getElem (show k < xs.length by omega)]
theorem row_set {w : World} {base g n cap k : Nat} {xs : List Int} (h : w.ownsRow base 3 1 (.slice (some ⟨g, 0, none⟩) n cap) n (xs.map (Value.int .i64))) (y : Int) :
    (w.setCell ⟨g, k, none⟩ (.int .i64 y)).ownsRow base 3 1 (.slice (some ⟨g, 0, none⟩) n cap) n ((xs.set k y).map (Value.int .i64)) := by
  have := (h.stored k (.int .i64 y)).1
  rwa [← List.map_set] at this
theorem row_form {w : World} {base n : Nat} {v : Value} {xs : List Value} (h : w.ownsRow base 3 1 v n xs) (hn : 0 < n) : ∃ g cap, v = .slice (some ⟨g, 0, none⟩) n cap ∧ base ≤ g ∧ g < w.heap.size := by
  rcases h.2 with ⟨_, h0⟩ | ⟨g, cap, cur, rfl, hb, hh, _⟩
  · omega
  · exact ⟨g, cap, rfl, hb, (Array.getElem?_eq_some_iff.1 hh).1⟩

theorem row_slice {w : World} {base n : Nat} {v : Value} {xs : List Value} (h : w.ownsRow base 3 1 v n xs) : ∃ A c, v = .slice A n c := by
  rcases h.2 with ⟨rfl, rfl⟩ | ⟨g, cap, cur, rfl, _⟩
  · exact ⟨none, 0, rfl⟩
  · exact ⟨_, _, rfl⟩
set_option maxHeartbeats 1000000 in
theorem fire_any (l : Int) (A1 A2 Am : Option Addr) (n c1 c2 cm : Nat) (qs rs xs : List Int) (w : World) (hn : n ≤ 16) (hq : qs.length = n) (hr : rs.length = n) (hx : xs.length = n)
    (hq9 : ∀ x ∈ qs, 0 ≤ x ∧ x ≤ 9) (hr9 : ∀ x ∈ rs, 0 ≤ x ∧ x ≤ 9) (hx9 : ∀ x ∈ xs, -1 ≤ x ∧ x ≤ 4294967296)
    (h1 : Reads w w.heap.size 1 A1 n (qs.map (Value.int .i64))) (h2 : Reads w w.heap.size 1 A2 n (rs.map (Value.int .i64))) (hm : Reads w w.heap.size 1 Am n (xs.map (Value.int .i64))) :
    Calls Try.prog 22 #[.agg #[.int .i64 l, .slice A1 n c1, .slice A2 n c2], .slice Am n cm] w fun e w' => ∃ v', e = .returned v' ∧ w'.ownsRow w.heap.size 3 1 v' n ((Cv.fireV ⟨l, qs, rs⟩ xs).map (Value.int .i64)) ∧ Below w.heap.size w w' := by
  have HW := Lib.hid ((Below.refl w.heap.size w).alloc (Nat.le_refl _) (.cells #[.int .i64 l, .slice A1 n c1, .slice A2 n c2] 48))
  have HC := Lib.hid (clone_any Am n cm xs w.heap.size (w.alloc (.cells #[.int .i64 l, .slice A1 n c1, .slice A2 n c2] 48)) (by omega) hx (hm.below HW.out))
  have HQ := Lib.hid h1
  have HR := Lib.hid h2
  have HLQ := Lib.hid hq
  have HLR := Lib.hid hr
  have HLX := Lib.hid hx
  have HQ9 := Lib.hid hq9
  have HR9 := Lib.hid hr9
  have HX9 := Lib.hid hx9
  clear h1 h2 hm hq hr hx hq9 hr9 hx9
  go_enter Try.func22, Try.ntmps22
  go_wp2_with fail
  refine HC.out.mono ?_
  rintro e w2 ⟨v', rfl, hown, hb2⟩
  obtain ⟨A', cap, rfl⟩ := row_slice hown
  have HOWN := Lib.hid hown
  have HB2 := Lib.hid hb2
  have hc1 : w2.cell? ⟨w.heap.size, 1, none⟩ = some (.slice A1 n c1) := (hb2.cell (p := ⟨w.heap.size, 1, none⟩) (by simp)).trans (by simp [go_sem])
  have hc2 : w2.cell? ⟨w.heap.size, 2, none⟩ = some (.slice A2 n c2) := (hb2.cell (p := ⟨w.heap.size, 2, none⟩) (by simp)).trans (by simp [go_sem])
  have HC1 := Lib.hid hc1
  have HC2 := Lib.hid hc2
  have hlt2 : w.heap.size < w2.heap.size := by have := hb2.size; simp at this; omega
  have HFL : Hid ((Cv.fireV ⟨l, qs, rs⟩ xs).length = n) := Lib.hid (by simp [Cv.fireV, HLQ.out, HLR.out, HLX.out])
  clear hown hb2 hc1 hc2
  go_wp2_with fail
  go_loopw [11] (fun i wr => ∃ k : Nat, k ≤ n ∧ i = .int .i64 k ∧ wr.ownsRow (w.heap.size + 1) 3 1 (.slice A' n cap) n ((part (Cv.fireV ⟨l, qs, rs⟩ xs) xs k).map (Value.int .i64)) ∧ Below (w.heap.size + 1) w2 wr) (fun i _ => n - (intOf i).toNat)
  case atStart => exact ⟨0, Nat.zero_le _, rfl, by have := HOWN.out; rw [World.size_alloc] at this; rw [part_zero]; exact this, Below.refl _ _⟩
  case round =>
    obtain ⟨k, hk, rfl, hrow, hbel⟩ := hrel
    have HROW := Lib.hid hrow
    have HBE := Lib.hid hbel
    clear hrow hbel
    by_cases hlt : k < n
    · obtain ⟨g, cap', e, hg1, hg2⟩ := row_form HROW.out (by omega)
      simp only [Value.slice.injEq, true_and] at e
      obtain ⟨rfl, rfl⟩ := e
      have d1 : wr.cell? ⟨w.heap.size, 1, none⟩ = some (.slice A1 n c1) := (HBE.out.cell (p := ⟨w.heap.size, 1, none⟩) (by simp)).trans HC1.out
      have d2 : wr.cell? ⟨w.heap.size, 2, none⟩ = some (.slice A2 n c2) := (HBE.out.cell (p := ⟨w.heap.size, 2, none⟩) (by simp)).trans HC2.out
      have hbw : Below w.heap.size w wr := HW.out.trans ((HB2.out.mono (by simp)).trans (HBE.out.mono (by omega)))
      obtain ⟨a1, rfl, hb1, f1⟩ := (HQ.out.below hbw).int_at hlt
      obtain ⟨a2, rfl, hb2, f2⟩ := (HR.out.below hbw).int_at hlt
      have f0 := row_int HROW.out hlt
      rw [part_get HFL.out HLX.out hlt] at f0
      have hfz := HROW.out.frozenAt k
      have HAT := Lib.hid (fireV_at l xs qs rs HLX.out HLQ.out HLR.out hlt)
      have hx9 := HX9.out (xs[k]?.getD 0) (by rw [List.getElem?_eq_getElem (by rw [HLX.out]; exact hlt)]; simp)
      have hq9 := HQ9.out (qs[k]?.getD 0) (by rw [List.getElem?_eq_getElem (by rw [HLQ.out]; exact hlt)]; simp)
      have hr9 := HR9.out (rs[k]?.getD 0) (by rw [List.getElem?_eq_getElem (by rw [HLR.out]; exact hlt)]; simp)
      have HBW := Lib.hid hbw
      have HP : Hid (xs[k]?.getD 0 = -1 → part (Cv.fireV ⟨l, qs, rs⟩ xs) xs (k + 1) = part (Cv.fireV ⟨l, qs, rs⟩ xs) xs k) := Lib.hid (fun e => part_same HFL.out HLX.out hlt (by rw [HAT.out, e]; rfl))
      have HP2 : Hid (xs[k]?.getD 0 ≠ -1 → part (Cv.fireV ⟨l, qs, rs⟩ xs) xs (k + 1) = (part (Cv.fireV ⟨l, qs, rs⟩ xs) xs k).set k (xs[k]?.getD 0 + (rs[k]?.getD 0 - qs[k]?.getD 0))) := Lib.hid (fun e => part_succ HFL.out HLX.out hlt (by rw [HAT.out, fireP, if_neg e]))
      obtain ⟨hx1, hx2⟩ := hx9
      obtain ⟨hq1, hq2⟩ := hq9
      obtain ⟨hr1, hr2⟩ := hr9
      clear hbw HAT
      generalize xs[k]?.getD 0 = x at *
      generalize qs[k]?.getD 0 = q at *
      generalize rs[k]?.getD 0 = r at *
      by_cases h1 : x = -1
      · subst h1
        go_wp2_with fail
        go_roundw
        case rel => exact ⟨k + 1, by omega, by go_num, by rw [HP.out rfl]; exact HROW.out, HBE.out⟩
        case measure => simp [intOf]; omega
      · have hxb : (x != -1) = true := by simpa using h1
        go_wp2_with fail
        go_still_tail 17, (by kernel_rfl)
        change wpList _ _ _ _ _ wr.drew
        have HROWD := Lib.hid HROW.out.drew
        have HBED := Lib.hid HBE.out.drew
        have hfz' : wr.drew.frozen? ⟨g, k, none⟩ = false := hfz
        have f0' : wr.drew.cell? ⟨g, k, none⟩ = some (.int .i64 x) := f0
        clear f0 hfz d1 d2 f1 f2
        generalize wr.drew = w3 at *
        go_wp2_with fail
        go_roundw
        case rel => exact ⟨k + 1, by omega, by go_num, by rw [HP2.out h1]; exact row_set HROWD.out _, HBED.out.setCell (by simp; omega) _⟩
        case measure => simp [intOf]; omega
    · go_wp2_with fail
      obtain rfl : k = n := by omega
      go_ret
      refine ⟨_, rfl, ?_, ?_⟩
      · have := HROW.out
        rw [part_all HFL.out HLX.out] at this
        exact this.mono (by omega)
      · exact HW.out.trans ((HB2.out.mono (by simp)).trans (HBE.out.mono (by omega)))
end Go.Proofs.Ytblbgbgnifdohaa
