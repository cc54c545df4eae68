/-
  Walks: slices.IndexFunc and slices.ContainsFunc over knots and over marks, at the functions that CoverBounded hands them.
-/
import Derived.Test.YtblbgbgnifdohaaWalkR
namespace Go.Proofs.Ytblbgbgnifdohaa
open Go.RowKit Go.Maps

/-- the first place with a property, or -1. -/
def firstP {α : Type} (p : α → Bool) : List α → Int
  | [] => -1
  | x :: r => if p x then 0 else if firstP p r = -1 then -1 else firstP p r + 1
section
variable {α : Type} {p : α → Bool}
theorem firstP_none : ∀ {l : List α}, l.any p = false → firstP p l = -1
  | [], _ => rfl
  | x :: r, h => by
    simp only [List.any_cons, Bool.or_eq_false_iff] at h
    simp [firstP, h.1, firstP_none h.2]
theorem firstP_at : ∀ {l : List α} {k : Nat} {x : α}, l[k]? = some x → (l.take k).any p = false → p x = true → firstP p l = k
  | [], k, x, hk, _, _ => by simp at hk
  | x :: r, 0, y, hk, _, h => by simp at hk; subst hk; simp [firstP, h]
  | x :: r, k + 1, y, hk, ht, h => by
    simp only [List.take_succ_cons, List.any_cons, Bool.or_eq_false_iff] at ht
    have ih := firstP_at (l := r) (k := k) (by simpa using hk) ht.2 h
    rw [firstP, ht.1, ih]
    rw [if_neg (by simp), if_neg (by omega)]
    simp
theorem firstP_any : ∀ l : List α, (0 ≤ firstP p l ↔ l.any p = true) ∧ -1 ≤ firstP p l
  | [] => by simp [firstP]
  | x :: r => by
    have ih := firstP_any r
    by_cases h : p x = true
    · simp [firstP, h]
    · simp only [firstP, h, List.any_cons]
      by_cases h2 : firstP p r = -1
      · have : ¬ r.any p = true := fun e => by have := ih.1.2 e; omega
        simp [h2, this]
      · have h3 : r.any p = true := ih.1.1 (by omega)
        simp only [h2, h3, Bool.or_true, iff_true, Bool.false_eq_true, if_false]
        omega
theorem firstP_dec (l : List α) : decide (0 ≤ firstP p l) = l.any p := by
  rw [Bool.eq_iff_iff, decide_eq_true_iff]; exact (firstP_any l).1
theorem take_anyP {l : List α} {k : Nat} {x : α} (h : l[k]? = some x) : (l.take (k + 1)).any p = ((l.take k).any p || p x) := by
  obtain ⟨hk, rfl⟩ := List.getElem?_eq_some_iff.1 h
  rw [List.take_succ_eq_append_getElem hk, List.any_append]
  simp
end

set_option maxRecDepth 100000 in
set_option maxHeartbeats 1000000 in
theorem idx7_any (B : Nat) (kv : Value) (ks : List Cv.Kn) (vs : List Value)  (p : Cv.Kn → Bool) (J : World → Prop) (hJ : ∀ W, J W → KsOwn W B kv ks vs) (hn : ks.length ≤ 9223372036854775807)
    (hc : ∀ (W : World) (i : Nat) (k : Cv.Kn) (v : Value), J W → ks[i]? = some k → vs[i]? = some v → Calls Try.prog 7 #[.agg #[.int .i64 k.up, .int .i64 k.tran, v]] W fun e W' => e = .returned (.bool (p k)) ∧ J W') (w : World) (h0 : J w) :
    Calls Try.prog 23 #[kv, .func (.func 7) #[] #[]] w fun e W' => e = .returned (.int .i64 (firstP p ks)) ∧ J W' := by
  have HJ := Lib.hid hJ
  have HC := Lib.hid hc
  have HOW := Lib.hid (hJ w h0)
  clear hJ hc
  obtain ⟨A, cap, rfl⟩ : ∃ A cap, kv = .slice A ks.length cap := slice_of3 HOW.out.row
  go_enter Try.func23, Try.ntmps23
  go_wp2_with fail
  go_loopw [8] (fun i W => ∃ k : Nat, k ≤ ks.length ∧ i = .int .i64 k ∧ (ks.take k).any p = false ∧ J W) (fun i _ => ks.length - (intOf i).toNat)
  case atStart => exact ⟨0, Nat.zero_le _, rfl, rfl, h0⟩
  case round =>
    obtain ⟨k, hk, rfl, hno, hj⟩ := hrel
    have HN := Lib.hid hno
    have HJW := Lib.hid hj
    clear hno
    by_cases hlt : k < ks.length
    · obtain ⟨x, hx⟩ : ∃ x, ks[k]? = some x := ⟨_, List.getElem?_eq_getElem hlt⟩
      have HO := Lib.hid (HJ.out wr hj)
      have hvl : vs.length = ks.length := HO.out.len
      obtain ⟨v, hv⟩ : ∃ v, vs[k]? = some v := ⟨_, List.getElem?_eq_getElem (by omega)⟩
      obtain ⟨g, cap', e, _, hg2⟩ := HO.out.row.form (by omega)
      simp only [Value.slice.injEq, true_and] at e
      obtain ⟨rfl, rfl⟩ := e
      have HCA := Lib.hid (HC.out wr k x v hj hx hv)
      obtain ⟨e0, e1, e2, A3, c3, rfl, _, _, _⟩ := HO.out.knot hx hv
      have HX := Lib.hid hx
      clear hx hv hj
      obtain ⟨b, hb⟩ : ∃ b, p x = b := ⟨_, rfl⟩
      rw [hb] at HCA
      have HB := Lib.hid hb
      clear hb
      go_wp2_with fail
      refine HCA.out.mono ?_
      rintro e W' ⟨rfl, hj'⟩
      have HJ' := Lib.hid hj'
      clear hj' e0 e1 e2
      cases b with
      | true =>
        have HF := Lib.hid (firstP_at HX.out HN.out HB.out)
        go_wp2_with fail
        go_ret
        exact ⟨by rw [HF.out]; rfl, HJ'.out⟩
      | false =>
        have HF := Lib.hid (take_anyP (p := p) HX.out)
        go_wp2_with fail
        go_roundw
        case rel => exact ⟨k + 1, by omega, by go_num, by rw [HF.out, HN.out, HB.out]; rfl, HJ'.out⟩
        case measure => simp [intOf]; omega
    · have HF : Hid (firstP p ks = -1) := Lib.hid (firstP_none (by have h := HN.out; rwa [List.take_of_length_le (by omega)] at h))
      clear hj
      go_wp2_with fail
      go_ret
      exact ⟨by rw [HF.out]; rfl, HJW.out⟩

theorem con7_any (B : Nat) (kv : Value) (ks : List Cv.Kn) (vs : List Value)  (p : Cv.Kn → Bool) (J : World → Prop) (hJ : ∀ W, J W → KsOwn W B kv ks vs) (hn : ks.length ≤ 9223372036854775807)
    (hc : ∀ (W : World) (i : Nat) (k : Cv.Kn) (v : Value), J W → ks[i]? = some k → vs[i]? = some v → Calls Try.prog 7 #[.agg #[.int .i64 k.up, .int .i64 k.tran, v]] W fun e W' => e = .returned (.bool (p k)) ∧ J W') (w : World) (h0 : J w) :
    Calls Try.prog 6 #[kv, .func (.func 7) #[] #[]] w fun e W' => e = .returned (.bool (ks.any p)) ∧ J W' := by
  have HC := Lib.hid (idx7_any B kv ks vs  p J hJ hn hc w h0)
  obtain ⟨b, hb⟩ : ∃ b, ks.any p = b := ⟨_, rfl⟩
  have HB : Hid (decide (0 ≤ firstP p ks) = b) := Lib.hid (by rw [firstP_dec, hb])
  rw [hb]
  obtain ⟨f, hf⟩ : ∃ f, firstP p ks = f := ⟨_, rfl⟩
  rw [hf] at HC HB
  clear hJ hc hb hf h0
  go_enter Try.func6, Try.ntmps6
  go_wp2_with fail
  refine HC.out.mono ?_
  rintro e W' ⟨rfl, hj⟩
  have HJ := Lib.hid hj
  clear hj
  go_wp2_with fail
  go_ret
  exact ⟨ret_bool HB.out, HJ.out⟩

set_option maxRecDepth 100000 in
set_option maxHeartbeats 1000000 in
theorem idx10_any (B : Nat) (kv : Value) (ks : List Cv.Kn) (vs : List Value)  (p : Cv.Kn → Bool) (J : World → Prop) (hJ : ∀ W, J W → KsOwn W B kv ks vs) (hn : ks.length ≤ 9223372036854775807)
    (hc : ∀ (W : World) (i : Nat) (k : Cv.Kn) (v : Value), J W → ks[i]? = some k → vs[i]? = some v → Calls Try.prog 10 #[.agg #[.int .i64 k.up, .int .i64 k.tran, v]] W fun e W' => e = .returned (.bool (p k)) ∧ J W') (w : World) (h0 : J w) :
    Calls Try.prog 23 #[kv, .func (.func 10) #[] #[]] w fun e W' => e = .returned (.int .i64 (firstP p ks)) ∧ J W' := by
  have HJ := Lib.hid hJ
  have HC := Lib.hid hc
  have HOW := Lib.hid (hJ w h0)
  clear hJ hc
  obtain ⟨A, cap, rfl⟩ : ∃ A cap, kv = .slice A ks.length cap := slice_of3 HOW.out.row
  go_enter Try.func23, Try.ntmps23
  go_wp2_with fail
  go_loopw [8] (fun i W => ∃ k : Nat, k ≤ ks.length ∧ i = .int .i64 k ∧ (ks.take k).any p = false ∧ J W) (fun i _ => ks.length - (intOf i).toNat)
  case atStart => exact ⟨0, Nat.zero_le _, rfl, rfl, h0⟩
  case round =>
    obtain ⟨k, hk, rfl, hno, hj⟩ := hrel
    have HN := Lib.hid hno
    have HJW := Lib.hid hj
    clear hno
    by_cases hlt : k < ks.length
    · obtain ⟨x, hx⟩ : ∃ x, ks[k]? = some x := ⟨_, List.getElem?_eq_getElem hlt⟩
      have HO := Lib.hid (HJ.out wr hj)
      have hvl : vs.length = ks.length := HO.out.len
      obtain ⟨v, hv⟩ : ∃ v, vs[k]? = some v := ⟨_, List.getElem?_eq_getElem (by omega)⟩
      obtain ⟨g, cap', e, _, hg2⟩ := HO.out.row.form (by omega)
      simp only [Value.slice.injEq, true_and] at e
      obtain ⟨rfl, rfl⟩ := e
      have HCA := Lib.hid (HC.out wr k x v hj hx hv)
      obtain ⟨e0, e1, e2, A3, c3, rfl, _, _, _⟩ := HO.out.knot hx hv
      have HX := Lib.hid hx
      clear hx hv hj
      obtain ⟨b, hb⟩ : ∃ b, p x = b := ⟨_, rfl⟩
      rw [hb] at HCA
      have HB := Lib.hid hb
      clear hb
      go_wp2_with fail
      refine HCA.out.mono ?_
      rintro e W' ⟨rfl, hj'⟩
      have HJ' := Lib.hid hj'
      clear hj' e0 e1 e2
      cases b with
      | true =>
        have HF := Lib.hid (firstP_at HX.out HN.out HB.out)
        go_wp2_with fail
        go_ret
        exact ⟨by rw [HF.out]; rfl, HJ'.out⟩
      | false =>
        have HF := Lib.hid (take_anyP (p := p) HX.out)
        go_wp2_with fail
        go_roundw
        case rel => exact ⟨k + 1, by omega, by go_num, by rw [HF.out, HN.out, HB.out]; rfl, HJ'.out⟩
        case measure => simp [intOf]; omega
    · have HF : Hid (firstP p ks = -1) := Lib.hid (firstP_none (by have h := HN.out; rwa [List.take_of_length_le (by omega)] at h))
      clear hj
      go_wp2_with fail
      go_ret
      exact ⟨by rw [HF.out]; rfl, HJW.out⟩

theorem con10_any (B : Nat) (kv : Value) (ks : List Cv.Kn) (vs : List Value)  (p : Cv.Kn → Bool) (J : World → Prop) (hJ : ∀ W, J W → KsOwn W B kv ks vs) (hn : ks.length ≤ 9223372036854775807)
    (hc : ∀ (W : World) (i : Nat) (k : Cv.Kn) (v : Value), J W → ks[i]? = some k → vs[i]? = some v → Calls Try.prog 10 #[.agg #[.int .i64 k.up, .int .i64 k.tran, v]] W fun e W' => e = .returned (.bool (p k)) ∧ J W') (w : World) (h0 : J w) :
    Calls Try.prog 6 #[kv, .func (.func 10) #[] #[]] w fun e W' => e = .returned (.bool (ks.any p)) ∧ J W' := by
  have HC := Lib.hid (idx10_any B kv ks vs  p J hJ hn hc w h0)
  obtain ⟨b, hb⟩ : ∃ b, ks.any p = b := ⟨_, rfl⟩
  have HB : Hid (decide (0 ≤ firstP p ks) = b) := Lib.hid (by rw [firstP_dec, hb])
  rw [hb]
  obtain ⟨f, hf⟩ : ∃ f, firstP p ks = f := ⟨_, rfl⟩
  rw [hf] at HC HB
  clear hJ hc hb hf h0
  go_enter Try.func6, Try.ntmps6
  go_wp2_with fail
  refine HC.out.mono ?_
  rintro e W' ⟨rfl, hj⟩
  have HJ := Lib.hid hj
  clear hj
  go_wp2_with fail
  go_ret
  exact ⟨ret_bool HB.out, HJ.out⟩

set_option maxRecDepth 100000 in
set_option maxHeartbeats 1000000 in
theorem idx12_any (B : Nat) (kv : Value) (ks : List Cv.Kn) (vs : List Value) (xb : Nat) (p : Cv.Kn → Bool) (J : World → Prop) (hJ : ∀ W, J W → KsOwn W B kv ks vs) (hn : ks.length ≤ 9223372036854775807)
    (hc : ∀ (W : World) (i : Nat) (k : Cv.Kn) (v : Value), J W → ks[i]? = some k → vs[i]? = some v → Calls Try.prog 12 #[.agg #[.int .i64 k.up, .int .i64 k.tran, v], .pointer (some ⟨xb, 0, none⟩)] W fun e W' => e = .returned (.bool (p k)) ∧ J W') (w : World) (h0 : J w) :
    Calls Try.prog 23 #[kv, .func (.func 12) #[] #[.pointer (some ⟨xb, 0, none⟩)]] w fun e W' => e = .returned (.int .i64 (firstP p ks)) ∧ J W' := by
  have HJ := Lib.hid hJ
  have HC := Lib.hid hc
  have HOW := Lib.hid (hJ w h0)
  clear hJ hc
  obtain ⟨A, cap, rfl⟩ : ∃ A cap, kv = .slice A ks.length cap := slice_of3 HOW.out.row
  go_enter Try.func23, Try.ntmps23
  go_wp2_with fail
  go_loopw [8] (fun i W => ∃ k : Nat, k ≤ ks.length ∧ i = .int .i64 k ∧ (ks.take k).any p = false ∧ J W) (fun i _ => ks.length - (intOf i).toNat)
  case atStart => exact ⟨0, Nat.zero_le _, rfl, rfl, h0⟩
  case round =>
    obtain ⟨k, hk, rfl, hno, hj⟩ := hrel
    have HN := Lib.hid hno
    have HJW := Lib.hid hj
    clear hno
    by_cases hlt : k < ks.length
    · obtain ⟨x, hx⟩ : ∃ x, ks[k]? = some x := ⟨_, List.getElem?_eq_getElem hlt⟩
      have HO := Lib.hid (HJ.out wr hj)
      have hvl : vs.length = ks.length := HO.out.len
      obtain ⟨v, hv⟩ : ∃ v, vs[k]? = some v := ⟨_, List.getElem?_eq_getElem (by omega)⟩
      obtain ⟨g, cap', e, _, hg2⟩ := HO.out.row.form (by omega)
      simp only [Value.slice.injEq, true_and] at e
      obtain ⟨rfl, rfl⟩ := e
      have HCA := Lib.hid (HC.out wr k x v hj hx hv)
      obtain ⟨e0, e1, e2, A3, c3, rfl, _, _, _⟩ := HO.out.knot hx hv
      have HX := Lib.hid hx
      clear hx hv hj
      obtain ⟨b, hb⟩ : ∃ b, p x = b := ⟨_, rfl⟩
      rw [hb] at HCA
      have HB := Lib.hid hb
      clear hb
      go_wp2_with fail
      refine HCA.out.mono ?_
      rintro e W' ⟨rfl, hj'⟩
      have HJ' := Lib.hid hj'
      clear hj' e0 e1 e2
      cases b with
      | true =>
        have HF := Lib.hid (firstP_at HX.out HN.out HB.out)
        go_wp2_with fail
        go_ret
        exact ⟨by rw [HF.out]; rfl, HJ'.out⟩
      | false =>
        have HF := Lib.hid (take_anyP (p := p) HX.out)
        go_wp2_with fail
        go_roundw
        case rel => exact ⟨k + 1, by omega, by go_num, by rw [HF.out, HN.out, HB.out]; rfl, HJ'.out⟩
        case measure => simp [intOf]; omega
    · have HF : Hid (firstP p ks = -1) := Lib.hid (firstP_none (by have h := HN.out; rwa [List.take_of_length_le (by omega)] at h))
      clear hj
      go_wp2_with fail
      go_ret
      exact ⟨by rw [HF.out]; rfl, HJW.out⟩

theorem con12_any (B : Nat) (kv : Value) (ks : List Cv.Kn) (vs : List Value) (xb : Nat) (p : Cv.Kn → Bool) (J : World → Prop) (hJ : ∀ W, J W → KsOwn W B kv ks vs) (hn : ks.length ≤ 9223372036854775807)
    (hc : ∀ (W : World) (i : Nat) (k : Cv.Kn) (v : Value), J W → ks[i]? = some k → vs[i]? = some v → Calls Try.prog 12 #[.agg #[.int .i64 k.up, .int .i64 k.tran, v], .pointer (some ⟨xb, 0, none⟩)] W fun e W' => e = .returned (.bool (p k)) ∧ J W') (w : World) (h0 : J w) :
    Calls Try.prog 6 #[kv, .func (.func 12) #[] #[.pointer (some ⟨xb, 0, none⟩)]] w fun e W' => e = .returned (.bool (ks.any p)) ∧ J W' := by
  have HC := Lib.hid (idx12_any B kv ks vs xb p J hJ hn hc w h0)
  obtain ⟨b, hb⟩ : ∃ b, ks.any p = b := ⟨_, rfl⟩
  have HB : Hid (decide (0 ≤ firstP p ks) = b) := Lib.hid (by rw [firstP_dec, hb])
  rw [hb]
  obtain ⟨f, hf⟩ : ∃ f, firstP p ks = f := ⟨_, rfl⟩
  rw [hf] at HC HB
  clear hJ hc hb hf h0
  go_enter Try.func6, Try.ntmps6
  go_wp2_with fail
  refine HC.out.mono ?_
  rintro e W' ⟨rfl, hj⟩
  have HJ := Lib.hid hj
  clear hj
  go_wp2_with fail
  go_ret
  exact ⟨ret_bool HB.out, HJ.out⟩

set_option maxRecDepth 100000 in
set_option maxHeartbeats 1000000 in
theorem idx15_any (B : Nat) (kv : Value) (ms : List (List Int)) (vs : List Value) (xb : Nat) (p : List Int → Bool) (J : World → Prop) (hJ : ∀ W, J W → W.ownsRow B 25 1 kv ms.length vs) (hn : ms.length ≤ 9223372036854775807)
    (hc : ∀ (W : World) (i : Nat) (k : List Int) (v : Value), J W → ms[i]? = some k → vs[i]? = some v → Calls Try.prog 15 #[v, .pointer (some ⟨xb, 0, none⟩)] W fun e W' => e = .returned (.bool (p k)) ∧ J W') (w : World) (h0 : J w) :
    Calls Try.prog 26 #[kv, .func (.func 15) #[] #[.pointer (some ⟨xb, 0, none⟩)]] w fun e W' => e = .returned (.int .i64 (firstP p ms)) ∧ J W' := by
  have HJ := Lib.hid hJ
  have HC := Lib.hid hc
  have HOW := Lib.hid (hJ w h0)
  clear hJ hc
  obtain ⟨A, cap, rfl⟩ : ∃ A cap, kv = .slice A ms.length cap := slice_of3 HOW.out
  go_enter Try.func26, Try.ntmps26
  go_wp2_with fail
  go_loopw [8] (fun i W => ∃ k : Nat, k ≤ ms.length ∧ i = .int .i64 k ∧ (ms.take k).any p = false ∧ J W) (fun i _ => ms.length - (intOf i).toNat)
  case atStart => exact ⟨0, Nat.zero_le _, rfl, rfl, h0⟩
  case round =>
    obtain ⟨k, hk, rfl, hno, hj⟩ := hrel
    have HN := Lib.hid hno
    have HJW := Lib.hid hj
    clear hno
    by_cases hlt : k < ms.length
    · obtain ⟨x, hx⟩ : ∃ x, ms[k]? = some x := ⟨_, List.getElem?_eq_getElem hlt⟩
      have HO := Lib.hid (HJ.out wr hj)
      have hvl : vs.length = ms.length := by have := HO.out.1; simpa using this
      obtain ⟨v, hv⟩ : ∃ v, vs[k]? = some v := ⟨_, List.getElem?_eq_getElem (by omega)⟩
      obtain ⟨g, cap', e, _, hg2⟩ := HO.out.form (by omega)
      simp only [Value.slice.injEq, true_and] at e
      obtain ⟨rfl, rfl⟩ := e
      have HCA := Lib.hid (HC.out wr k x v hj hx hv)
      have e0 : wr.cell? ⟨g, k, none⟩ = some v := by rw [HO.out.cellAt k (by omega)]; exact hv
      have HX := Lib.hid hx
      clear hx hv hj
      obtain ⟨b, hb⟩ : ∃ b, p x = b := ⟨_, rfl⟩
      rw [hb] at HCA
      have HB := Lib.hid hb
      clear hb
      go_wp2_with fail
      refine HCA.out.mono ?_
      rintro e W' ⟨rfl, hj'⟩
      have HJ' := Lib.hid hj'
      clear hj' e0
      cases b with
      | true =>
        have HF := Lib.hid (firstP_at HX.out HN.out HB.out)
        go_wp2_with fail
        go_ret
        exact ⟨by rw [HF.out]; rfl, HJ'.out⟩
      | false =>
        have HF := Lib.hid (take_anyP (p := p) HX.out)
        go_wp2_with fail
        go_roundw
        case rel => exact ⟨k + 1, by omega, by go_num, by rw [HF.out, HN.out, HB.out]; rfl, HJ'.out⟩
        case measure => simp [intOf]; omega
    · have HF : Hid (firstP p ms = -1) := Lib.hid (firstP_none (by have h := HN.out; rwa [List.take_of_length_le (by omega)] at h))
      clear hj
      go_wp2_with fail
      go_ret
      exact ⟨by rw [HF.out]; rfl, HJW.out⟩

theorem con15_any (B : Nat) (kv : Value) (ms : List (List Int)) (vs : List Value) (xb : Nat) (p : List Int → Bool) (J : World → Prop) (hJ : ∀ W, J W → W.ownsRow B 25 1 kv ms.length vs) (hn : ms.length ≤ 9223372036854775807)
    (hc : ∀ (W : World) (i : Nat) (k : List Int) (v : Value), J W → ms[i]? = some k → vs[i]? = some v → Calls Try.prog 15 #[v, .pointer (some ⟨xb, 0, none⟩)] W fun e W' => e = .returned (.bool (p k)) ∧ J W') (w : World) (h0 : J w) :
    Calls Try.prog 14 #[kv, .func (.func 15) #[] #[.pointer (some ⟨xb, 0, none⟩)]] w fun e W' => e = .returned (.bool (ms.any p)) ∧ J W' := by
  have HC := Lib.hid (idx15_any B kv ms vs xb p J hJ hn hc w h0)
  obtain ⟨b, hb⟩ : ∃ b, ms.any p = b := ⟨_, rfl⟩
  have HB : Hid (decide (0 ≤ firstP p ms) = b) := Lib.hid (by rw [firstP_dec, hb])
  rw [hb]
  obtain ⟨f, hf⟩ : ∃ f, firstP p ms = f := ⟨_, rfl⟩
  rw [hf] at HC HB
  clear hJ hc hb hf h0
  go_enter Try.func14, Try.ntmps14
  go_wp2_with fail
  refine HC.out.mono ?_
  rintro e W' ⟨rfl, hj⟩
  have HJ := Lib.hid hj
  clear hj
  go_wp2_with fail
  go_ret
  exact ⟨ret_bool HB.out, HJ.out⟩

end Go.Proofs.Ytblbgbgnifdohaa
