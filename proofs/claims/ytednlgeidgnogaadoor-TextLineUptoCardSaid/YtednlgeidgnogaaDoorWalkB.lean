/-
  The walk of text.side: the places with weights, as a text.
-/
import Derived.Test.YtednlgeidgnogaaDoorWalkA
import Derived.Test.YtednlgeidgnogaaDoorShelf
namespace Go.Proofs.YtednlgeidgnogaaDoor
open Go.RowKit

theorem sideFrom_snoc : ∀ (l : List Int) (p : Nat) (x : Int), Tx.sideFrom p (l ++ [x]) = Tx.sideFrom p l ++ Tx.num (p + l.length) x
  | [], p, x => by simp [Tx.sideFrom]
  | y :: l, p, x => by
    have ih := sideFrom_snoc l (p + 1) x
    simp only [List.cons_append, Tx.sideFrom, ih, List.append_assoc, List.length_cons]
    rw [show p + 1 + l.length = p + (l.length + 1) by omega]
theorem side_step {xs : List Int} {k : Nat} (h : k < xs.length) : Tx.sideFrom 0 (xs.take (k + 1)) = Tx.sideFrom 0 (xs.take k) ++ Tx.num k (xs[k]?.getD 0) := by
  rw [List.take_succ_eq_append_getElem h, sideFrom_snoc, List.getElem?_eq_getElem h, List.length_take, Nat.zero_add, Nat.min_eq_left (by omega)]
  rfl
theorem dec_len (m : Nat) (hm : m < 100) : (Lib.decDigits m).length ≤ 2 := by
  by_cases h1 : m < 10
  · rw [Lib.decDigits_one h1]; simp
  · rw [Lib.decDigits_two h1 hm]; simp
theorem num_len (p : Nat) (n : Nat) (hp : p < 100) (hn : n < 100) : (Tx.num p n).length ≤ 8 := by
  have h : ∀ m : Nat, m < 100 → (Lib.itoa (m : Int)).length ≤ 2 := fun m hm => by
    unfold Lib.itoa
    rw [if_neg (by omega), Int.toNat_natCast]
    by_cases h1 : m < 10
    · rw [Lib.decDigits_one h1]; simp
    · rw [Lib.decDigits_two h1 hm]; simp
  have h1 := h p hp
  have h2 := h n hn
  unfold Tx.num
  split
  · simp
  · split <;> simp <;> omega
theorem num_size1 (k m : Nat) : (({ data := #[32] } : ByteArray) ++ { data := (Lib.decDigits m).toArray } ++ { data := #[42] } ++ { data := (Lib.decDigits k).toArray }).size = 2 + (Lib.decDigits m).length + (Lib.decDigits k).length := by
  simp only [ByteArray.size_append]
  simp [ByteArray.size]
  omega
theorem num_size0 (k : Nat) : (({ data := #[32] } : ByteArray) ++ { data := (Lib.decDigits k).toArray }).size = 1 + (Lib.decDigits k).length := by
  simp only [ByteArray.size_append]
  simp [ByteArray.size]
theorem itoa_nat (m : Nat) : Lib.itoa (m : Int) = Lib.decDigits m := by
  unfold Lib.itoa; rw [if_neg (by omega), Int.toNat_natCast]
theorem num_data1 (k m : Nat) (h : 1 < m) : (({ data := #[32] } : ByteArray) ++ { data := (Lib.decDigits m).toArray } ++ { data := #[42] } ++ { data := (Lib.decDigits k).toArray }).data.toList = Tx.num k m := by
  unfold Tx.num
  rw [if_neg (by omega), if_pos (by omega), itoa_nat, itoa_nat]
  simp
theorem num_data0 (k : Nat) : (({ data := #[32] } : ByteArray) ++ { data := (Lib.decDigits k).toArray }).data.toList = Tx.num k ((1 : Nat) : Int) := by
  unfold Tx.num
  rw [if_neg (by omega), if_neg (by omega), itoa_nat]
  simp
theorem builder_more {T e B b : Nat} {l m : List UInt8} {s : ByteArray} {w : World} (hs : s.data.toList = m) (h : Lib.BuilderAt T e B b (.pointer (some ⟨b, 0, none⟩)) (Lib.byteCells l ++ Lib.strCells s) w) : Lib.IsBuilder T e B b (Lib.byteCells (l ++ m)) w := by
  refine .inr ?_
  have : Lib.byteCells l ++ Lib.strCells s = Lib.byteCells (l ++ m) := by simp [Lib.byteCells, Lib.strCells, hs]
  rw [← this]; exact h

theorem side_any (A : Option Addr) (n c : Nat) (xs : List Int) (w : World) (hn : n ≤ 16) (hl : xs.length = n) (h9 : ∀ x ∈ xs, 0 ≤ x ∧ x ≤ 9) (hr : Reads w w.heap.size 1 A n (xs.map (Value.int .i64))) :
    Calls Tryd.prog 43 #[.slice A n c] w fun e w' => e = .returned (.string ⟨(Tx.side xs).toArray⟩) ∧ Below w.heap.size w w' := by
  have HR := Lib.hid hr
  have HL := Lib.hid hl
  have H9 := Lib.hid h9
  have HB0 := Lib.hid (Lib.fresh_isBuilder 58 5 w)
  clear hr hl h9
  go_enter Tryd.func43, Tryd.ntmps43
  go_wp2
  go_loopw [8] (fun i wr => ∃ k : Nat, k ≤ n ∧ i = .int .i64 k ∧ (Tx.sideFrom 0 (xs.take k)).length ≤ 8 * k ∧ Lib.IsBuilder 58 5 w.heap.size w.heap.size (Lib.byteCells (Tx.sideFrom 0 (xs.take k))) wr ∧ Below w.heap.size w wr) (fun i _ => n - (intOf i).toNat)
  case atStart => exact ⟨0, Nat.zero_le _, rfl, by simp [Tx.sideFrom], HB0.out, (Below.refl _ w).alloc (Nat.le_refl _) _⟩
  case round =>
    obtain ⟨k, hk, rfl, hlen, hbld, hbel⟩ := hrel
    have HBL := Lib.hid hbld
    have HBE := Lib.hid hbel
    clear hbld hbel
    by_cases hlt : k < n
    · obtain ⟨ad, rfl, hbk, hcell⟩ := HR.out.int_at hlt
      have hx := H9.out (xs[k]?.getD 0) (by
        have : k < xs.length := by rw [HL.out]; exact hlt
        rw [List.getElem?_eq_getElem this]; simp)
      have hst := side_step (xs := xs) (k := k) (by rw [HL.out]; exact hlt)
      have hcell2 := (HBE.out.cell (p := ad.add k) (by rw [block_of_add]; exact hbk)).trans hcell
      clear hcell
      obtain ⟨m, hm⟩ : ∃ m : Nat, xs[k]?.getD 0 = (m : Int) := ⟨(xs[k]?.getD 0).toNat, by omega⟩
      rw [hm] at hcell2 hst hx
      have HM := Lib.hid hm
      have HST := Lib.hid hst
      have hnl := num_len k m (by omega) (by omega)
      clear hm hst
      have hd1 := dec_len k (by omega)
      have hd2 := dec_len m (by omega)
      by_cases h0 : m = 0
      · subst h0
        go_wp2_with fail
        go_roundw
        case rel => exact ⟨k + 1, by omega, by go_num, by rw [HST.out]; simp [Tx.num]; omega, by rw [HST.out]; simpa [Tx.num] using HBL.out, HBE.out⟩
        case measure => simp [intOf]; omega
      · by_cases h1 : 1 < m
        · go_wp2_with (go_at_call 18; refine (Tryd.strconv_Itoa_small _ (by omega) _).mono ?_; rintro e w' ⟨rfl, rfl⟩)
          refine (Tryd.Builder_WriteString_p _ _ _ _ _ HBL.out (by rw [Lib.byteCells_length, num_size1]; omega) HBE.out.size).mono ?_
          rintro e w2 ⟨rfl, hb2, hbel2⟩
          have HB2 := Lib.hid (builder_more (num_data1 k m h1) hb2)
          have HBE2 := Lib.hid (HBE.out.trans hbel2)
          clear hb2 hbel2
          go_wp2_with fail
          go_roundw
          case rel => exact ⟨k + 1, by omega, by go_num, by rw [HST.out, List.length_append]; omega, by rw [HST.out]; exact HB2.out, HBE2.out⟩
          case measure => simp [intOf]; omega
        · have hm1 : m = 1 := by omega
          subst hm1
          go_wp2_with (go_at_call 18; refine (Tryd.strconv_Itoa_small _ (by omega) _).mono ?_; rintro e w' ⟨rfl, rfl⟩)
          refine (Tryd.Builder_WriteString_p _ _ _ _ _ HBL.out (by rw [Lib.byteCells_length, num_size0]; omega) HBE.out.size).mono ?_
          rintro e w2 ⟨rfl, hb2, hbel2⟩
          have HB2 := Lib.hid (builder_more (num_data0 k) hb2)
          have HBE2 := Lib.hid (HBE.out.trans hbel2)
          clear hb2 hbel2
          go_wp2_with fail
          go_roundw
          case rel => exact ⟨k + 1, by omega, by go_num, by rw [HST.out, List.length_append]; omega, by rw [HST.out]; exact HB2.out, HBE2.out⟩
          case measure => simp [intOf]; omega
    · go_wp2_with fail
      refine (Tryd.Builder_String_p _ _ _ _ HBL.out HBE.out.size).mono ?_
      rintro e w2 ⟨rfl, hbel2⟩
      have HBE2 := Lib.hid (HBE.out.trans hbel2)
      clear hbel2
      go_wp2_with fail
      go_ret
      exact ⟨by rw [List.take_of_length_le (by rw [HL.out]; omega)]; rfl, HBE2.out⟩
end Go.Proofs.YtednlgeidgnogaaDoor
