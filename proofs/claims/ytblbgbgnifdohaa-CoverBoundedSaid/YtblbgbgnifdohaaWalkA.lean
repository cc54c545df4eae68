/-
  Walks of the small functions: a weight's test, a number of tokens' test, ContainsFunc of each; Right.
-/
import Derived.Test.YtblbgbgnifdohaaRows
import Derived.Test.YtblbgbgnifdohaaMem
import Derived.Test.YtblbgbgnifdohaaShelf
import Derived.WalkKit
import Derived.WalkLawsBesides
import Derived.WalkSpells
import Derived.Lib.Hide
import Derived.BigQuiet
import Derived.Deep.QuietTactic
namespace Go.Proofs.Ytblbgbgnifdohaa
open Go.RowKit

theorem ret_bool {a b : Bool} (h : a = b) : Ending.returned (.bool a) = .returned (.bool b) := by rw [h]

theorem bad_any (x : Int) (w : World) : Calls Try.prog 38 #[.int .i64 x] w fun e w' => e = .returned (.bool (Tx.badW x)) ∧ w = w' := by
  by_cases h1 : x < 0
  · have e1 : Tx.badW x = true := by simp [Tx.badW, h1]
    rw [e1]; clear e1
    go_enter Try.func38, Try.ntmps38
    go_wp2
    go_ret
    exact ⟨rfl, rfl⟩
  · by_cases h2 : 9 < x
    · have e1 : Tx.badW x = true := by simp [Tx.badW, h2]
      rw [e1]; clear e1
      go_enter Try.func38, Try.ntmps38
      go_wp2
      go_ret
      exact ⟨rfl, rfl⟩
    · have e1 : Tx.badW x = false := by simp [Tx.badW, h1, h2]
      rw [e1]; clear e1
      go_enter Try.func38, Try.ntmps38
      go_wp2
      go_ret
      exact ⟨rfl, rfl⟩

/-- the first weight that may not be: its place, or -1. -/
def firstBad : List Int → Int
  | [] => -1
  | x :: r => if Tx.badW x then 0 else if firstBad r = -1 then -1 else firstBad r + 1
theorem firstBad_none : ∀ {l : List Int}, l.any Tx.badW = false → firstBad l = -1
  | [], _ => rfl
  | x :: r, h => by
    simp only [List.any_cons, Bool.or_eq_false_iff] at h
    simp [firstBad, h.1, firstBad_none h.2]
theorem firstBad_at : ∀ {l : List Int} {k : Nat}, k < l.length → (l.take k).any Tx.badW = false → Tx.badW (l[k]?.getD 0) = true → firstBad l = k
  | [], k, hk, _, _ => by simp at hk
  | x :: r, 0, _, _, h => by simp at h; simp [firstBad, h]
  | x :: r, k + 1, hk, ht, h => by
    simp only [List.take_succ_cons, List.any_cons, Bool.or_eq_false_iff] at ht
    have ih := firstBad_at (l := r) (k := k) (by simpa using hk) ht.2 (by simpa using h)
    rw [firstBad, ht.1, ih]
    rw [if_neg (by simp), if_neg (by omega)]
    simp
theorem firstBad_any : ∀ l : List Int, (0 ≤ firstBad l ↔ l.any Tx.badW = true) ∧ -1 ≤ firstBad l
  | [] => by simp [firstBad]
  | x :: r => by
    have ih := firstBad_any r
    by_cases h : Tx.badW x = true
    · simp [firstBad, h]
    · simp only [firstBad, h, List.any_cons]
      by_cases h2 : firstBad r = -1
      · have : ¬ r.any Tx.badW = true := fun e => by have := ih.1.2 e; omega
        simp [h2, this]
      · have h3 : r.any Tx.badW = true := ih.1.1 (by omega)
        simp only [h2, h3, Bool.or_true, iff_true, Bool.false_eq_true, if_false]
        omega

theorem firstBad_dec (l : List Int) : decide (0 ≤ firstBad l) = l.any Tx.badW := by
  rw [Bool.eq_iff_iff, decide_eq_true_iff]; exact (firstBad_any l).1
theorem idx_bad (A : Option Addr) (n c : Nat) (xs : List Int) (B : Nat) (w : World) (hn : n ≤ 9223372036854775807) (hl : xs.length = n) (hr : Reads w B 1 A n (xs.map (Value.int .i64))) :
    Calls Try.prog 43 #[.slice A n c, .func (.func 38) #[] #[]] w fun e w' => e = .returned (.int .i64 (firstBad xs)) ∧ w = w' := by
  have HR := Lib.hid hr
  have HL := Lib.hid hl
  clear hr hl
  go_enter Try.func43, Try.ntmps43
  go_wp2
  go_loop [8] (fun i => ∃ k : Nat, k ≤ n ∧ i = .int .i64 k ∧ (xs.take k).any Tx.badW = false) (fun i => n - (intOf i).toNat)
  case atStart => exact ⟨0, Nat.zero_le _, rfl, by simp⟩
  case round =>
    obtain ⟨k, hk, rfl, hno⟩ := hrel
    have HN := Lib.hid hno
    clear hno
    by_cases hlt : k < n
    · obtain ⟨ad, rfl, _, hcell⟩ := HR.out.int_at hlt
      cases hb : Tx.badW (xs[k]?.getD 0) with
      | true =>
        have HB := Lib.hid hb
        clear hb
        go_wp2_with (go_at_call 38; refine (bad_any _ _).mono ?_; rintro e w' ⟨rfl, rfl⟩; rw [HB.out])
        go_ret
        exact ⟨by rw [firstBad_at (by rw [HL.out]; exact hlt) HN.out HB.out]; rfl, rfl⟩
      | false =>
        have HB := Lib.hid hb
        clear hb
        go_wp2_with (go_at_call 38; refine (bad_any _ _).mono ?_; rintro e w' ⟨rfl, rfl⟩; rw [HB.out])
        go_round
        case rel => exact ⟨k + 1, by omega, by go_num, by
          have : k < xs.length := by rw [HL.out]; exact hlt
          rw [List.take_succ_eq_append_getElem this, List.any_append, HN.out]
          have h2 := HB.out
          rw [List.getElem?_eq_getElem this] at h2
          simpa using h2⟩
        case measure => simp [intOf]; omega
    · go_wp2
      go_ret
      exact ⟨by rw [firstBad_none (by have h := HN.out; rwa [List.take_of_length_le (by rw [HL.out]; omega)] at h)]; rfl, rfl⟩

theorem contains_bad (A : Option Addr) (n c : Nat) (xs : List Int) (B : Nat) (w : World) (hn : n ≤ 9223372036854775807) (hl : xs.length = n) (hr : Reads w B 1 A n (xs.map (Value.int .i64))) :
    Calls Try.prog 39 #[.slice A n c, .func (.func 38) #[] #[]] w fun e w' => e = .returned (.bool (xs.any Tx.badW)) ∧ w = w' := by
  have c1 := idx_bad A n c xs B w hn hl hr
  have HC := Lib.hid c1
  clear c1 hr hl
  go_enter Try.func39, Try.ntmps39
  go_wp2_with (go_at_call 43; refine HC.out.mono ?_; rintro e w' ⟨rfl, rfl⟩)
  go_ret
  exact ⟨ret_bool (firstBad_dec xs), rfl⟩
theorem badN_any (x : Int) (w : World) : Calls Try.prog 40 #[.int .i64 x] w fun e w' => e = .returned (.bool (Cv.badN x)) ∧ w = w' := by
  by_cases h1 : x < 0
  · have e1 : Cv.badN x = true := by simp [Cv.badN, h1]
    rw [e1]; clear e1
    go_enter Try.func40, Try.ntmps40
    go_wp2
    go_ret
    exact ⟨rfl, rfl⟩
  · by_cases h2 : 1000000 < x
    · have e1 : Cv.badN x = true := by simp [Cv.badN, h2]
      rw [e1]; clear e1
      go_enter Try.func40, Try.ntmps40
      go_wp2
      go_ret
      exact ⟨rfl, rfl⟩
    · have e1 : Cv.badN x = false := by simp [Cv.badN, h1, h2]
      rw [e1]; clear e1
      go_enter Try.func40, Try.ntmps40
      go_wp2
      go_ret
      exact ⟨rfl, rfl⟩

/-- the first number of tokens that may not be: its place, or -1. -/
def firstN : List Int → Int
  | [] => -1
  | x :: r => if Cv.badN x then 0 else if firstN r = -1 then -1 else firstN r + 1
theorem firstN_none : ∀ {l : List Int}, l.any Cv.badN = false → firstN l = -1
  | [], _ => rfl
  | x :: r, h => by
    simp only [List.any_cons, Bool.or_eq_false_iff] at h
    simp [firstN, h.1, firstN_none h.2]
theorem firstN_at : ∀ {l : List Int} {k : Nat}, k < l.length → (l.take k).any Cv.badN = false → Cv.badN (l[k]?.getD 0) = true → firstN l = k
  | [], k, hk, _, _ => by simp at hk
  | x :: r, 0, _, _, h => by simp at h; simp [firstN, h]
  | x :: r, k + 1, hk, ht, h => by
    simp only [List.take_succ_cons, List.any_cons, Bool.or_eq_false_iff] at ht
    have ih := firstN_at (l := r) (k := k) (by simpa using hk) ht.2 (by simpa using h)
    rw [firstN, ht.1, ih]
    rw [if_neg (by simp), if_neg (by omega)]
    simp
theorem firstN_any : ∀ l : List Int, (0 ≤ firstN l ↔ l.any Cv.badN = true) ∧ -1 ≤ firstN l
  | [] => by simp [firstN]
  | x :: r => by
    have ih := firstN_any r
    by_cases h : Cv.badN x = true
    · simp [firstN, h]
    · simp only [firstN, h, List.any_cons]
      by_cases h2 : firstN r = -1
      · have : ¬ r.any Cv.badN = true := fun e => by have := ih.1.2 e; omega
        simp [h2, this]
      · have h3 : r.any Cv.badN = true := ih.1.1 (by omega)
        simp only [h2, h3, Bool.or_true, iff_true, Bool.false_eq_true, if_false]
        omega

theorem firstN_dec (l : List Int) : decide (0 ≤ firstN l) = l.any Cv.badN := by
  rw [Bool.eq_iff_iff, decide_eq_true_iff]; exact (firstN_any l).1
theorem idx_badN (A : Option Addr) (n c : Nat) (xs : List Int) (B : Nat) (w : World) (hn : n ≤ 9223372036854775807) (hl : xs.length = n) (hr : Reads w B 1 A n (xs.map (Value.int .i64))) :
    Calls Try.prog 43 #[.slice A n c, .func (.func 40) #[] #[]] w fun e w' => e = .returned (.int .i64 (firstN xs)) ∧ w = w' := by
  have HR := Lib.hid hr
  have HL := Lib.hid hl
  clear hr hl
  go_enter Try.func43, Try.ntmps43
  go_wp2
  go_loop [8] (fun i => ∃ k : Nat, k ≤ n ∧ i = .int .i64 k ∧ (xs.take k).any Cv.badN = false) (fun i => n - (intOf i).toNat)
  case atStart => exact ⟨0, Nat.zero_le _, rfl, by simp⟩
  case round =>
    obtain ⟨k, hk, rfl, hno⟩ := hrel
    have HN := Lib.hid hno
    clear hno
    by_cases hlt : k < n
    · obtain ⟨ad, rfl, _, hcell⟩ := HR.out.int_at hlt
      cases hb : Cv.badN (xs[k]?.getD 0) with
      | true =>
        have HB := Lib.hid hb
        clear hb
        go_wp2_with (go_at_call 40; refine (badN_any _ _).mono ?_; rintro e w' ⟨rfl, rfl⟩; rw [HB.out])
        go_ret
        exact ⟨by rw [firstN_at (by rw [HL.out]; exact hlt) HN.out HB.out]; rfl, rfl⟩
      | false =>
        have HB := Lib.hid hb
        clear hb
        go_wp2_with (go_at_call 40; refine (badN_any _ _).mono ?_; rintro e w' ⟨rfl, rfl⟩; rw [HB.out])
        go_round
        case rel => exact ⟨k + 1, by omega, by go_num, by
          have : k < xs.length := by rw [HL.out]; exact hlt
          rw [List.take_succ_eq_append_getElem this, List.any_append, HN.out]
          have h2 := HB.out
          rw [List.getElem?_eq_getElem this] at h2
          simpa using h2⟩
        case measure => simp [intOf]; omega
    · go_wp2
      go_ret
      exact ⟨by rw [firstN_none (by have h := HN.out; rwa [List.take_of_length_le (by rw [HL.out]; omega)] at h)]; rfl, rfl⟩

theorem contains_badN (A : Option Addr) (n c : Nat) (xs : List Int) (B : Nat) (w : World) (hn : n ≤ 9223372036854775807) (hl : xs.length = n) (hr : Reads w B 1 A n (xs.map (Value.int .i64))) :
    Calls Try.prog 39 #[.slice A n c, .func (.func 40) #[] #[]] w fun e w' => e = .returned (.bool (xs.any Cv.badN)) ∧ w = w' := by
  have c1 := idx_badN A n c xs B w hn hl hr
  have HC := Lib.hid c1
  clear c1 hr hl
  go_enter Try.func39, Try.ntmps39
  go_wp2_with (go_at_call 43; refine HC.out.mono ?_; rintro e w' ⟨rfl, rfl⟩)
  go_ret
  exact ⟨ret_bool (firstN_dec xs), rfl⟩

theorem right_any (A : Option Addr) (n c : Nat) (xs : List Int) (B : Nat) (w : World) (hn : n ≤ 9223372036854775807) (hl : xs.length = n) (hr : Reads w B 1 A n (xs.map (Value.int .i64))) :
    Calls Try.prog 33 #[.slice A n c] w fun e w' => e = .returned (.bool (Cv.rightV xs)) ∧ w = w' := by
  have HC := Lib.hid (contains_badN A n c xs B w hn hl hr)
  clear hr hl
  go_enter Try.func33, Try.ntmps33
  go_wp2_with (go_at_call 39; refine HC.out.mono ?_; rintro e w' ⟨rfl, rfl⟩)
  go_ret
  exact ⟨rfl, rfl⟩
end Go.Proofs.Ytblbgbgnifdohaa
