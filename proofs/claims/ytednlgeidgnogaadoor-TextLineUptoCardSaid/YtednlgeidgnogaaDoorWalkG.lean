/-
  The walk of text.weights.
-/
import Derived.Test.YtednlgeidgnogaaDoorWalkF
import Derived.Deep.OwnRows
namespace Go.Proofs.YtednlgeidgnogaaDoor
open Go.RowKit

theorem info3 : (Tryd.prog.info? 3).map (fun i => (i.zero, i.size, i.bytes)) = some (some (.int .i64 0), 1, 8) := by kernel_rfl

/-- block g is a row of these ints, and no more. -/
def RowInts (w : World) (g : Nat) (xs : List Int) : Prop := w.heap[g]? = some (.cells (xs.map (Value.int .i64)).toArray 3 (0, 0))
theorem RowInts.lt {w : World} {g : Nat} {xs : List Int} (h : RowInts w g xs) : g < w.heap.size := (Array.getElem?_eq_some_iff.1 h).1
theorem RowInts.below {w w' : World} {g : Nat} {xs : List Int} (h : RowInts w g xs) (hb : Below w.heap.size w w') : RowInts w' g xs := (hb.block g h.lt).trans h
theorem RowInts.cell {w : World} {g : Nat} {xs : List Int} (h : RowInts w g xs) {i : Nat} (hi : i < xs.length) : w.cell? ⟨g, i, none⟩ = some (.int .i64 (xs[i]?.getD 0)) := by
  unfold RowInts at h
  simp [World.cell?, h, List.getElem?_eq_getElem hi]
theorem RowInts.frozen {w : World} {g : Nat} {xs : List Int} (h : RowInts w g xs) (i : Nat) : w.frozen? ⟨g, i, none⟩ = false := by
  unfold RowInts at h
  simp [World.frozen?, h]
theorem RowInts.set {w : World} {g : Nat} {xs : List Int} (h : RowInts w g xs) (i : Nat) (n : Int) : RowInts (w.setCell ⟨g, i, none⟩ (.int .i64 n)) g (xs.set i n) := by
  unfold RowInts at h ⊢
  simp [World.setCell, Array.getElem?_modify, h, List.map_set]
theorem RowInts.made (w : World) (n : Nat) : RowInts (w.alloc (.cells (madeCells #[.int .i64 0] n) 3)) w.heap.size (List.replicate n 0) := by
  unfold RowInts
  rw [heap_alloc_new]
  congr 2
  apply Array.ext
  · simp [madeCells]
  · intro i h1 h2
    simp [madeCells, Nat.mod_one]

def weightsR (w : World) (o : Option (List Int)) (e : Ending) (w' : World) : Prop :=
  Below w.heap.size w w' ∧ match o with
    | none => e = .returned (.tuple #[.slice none 0 0, .bool false])
    | some xs => ∃ g, e = .returned (.tuple #[.slice (some ⟨g, 0, none⟩) xs.length xs.length, .bool true]) ∧ w.heap.size ≤ g ∧ RowInts w' g xs

/-- a numeral's value. -/
def numOf (l : List UInt8) : Option Int := match Lib.atoiAll l with | .ok v => some v | _ => none
theorem numOf_some {l : List UInt8} {v : Int} (h : numOf l = some v) : Lib.atoiAll l = .ok v := by
  unfold numOf at h
  split at h
  · rename_i x hx; injection h with h; rw [hx, h]
  · cases h
theorem numOf_none {l : List UInt8} (h : numOf l = none) : ∀ v, Lib.atoiAll l ≠ .ok v := by
  intro v hv
  unfold numOf at h
  rw [hv] at h
  cases h
/-- a word's place and weight, its two numerals known. -/
def wordW (places : Nat) (M T : List UInt8) : Option (Nat × Int) := match numOf M, numOf T with
  | some n, some p => if 0 ≤ p ∧ p < places ∧ 1 ≤ n ∧ n ≤ 9 then some (p.toNat, n) else none
  | _, _ => none
theorem fieldW_word (places : Nat) (f : List UInt8) : Tx.fieldW places f = wordW places (if (Lib.cut f [42]).2.2 then (Lib.cut f [42]).1 else [49]) (if (Lib.cut f [42]).2.2 then (Lib.cut f [42]).2.1 else f) := by
  unfold Tx.fieldW wordW numOf
  dsimp only
  generalize Lib.atoiAll (if (Lib.cut f [42]).2.2 then (Lib.cut f [42]).1 else [49]) = x
  generalize Lib.atoiAll (if (Lib.cut f [42]).2.2 then (Lib.cut f [42]).2.1 else f) = y
  cases x <;> cases y <;> rfl
theorem fieldW_two {places : Nat} {f a b : List UInt8} (h : Lib.cut f [42] = (a, b, true)) : Tx.fieldW places f = wordW places a b := by rw [fieldW_word, h]; rfl
theorem fieldW_one {places : Nat} {f a b : List UInt8} (h : Lib.cut f [42] = (a, b, false)) : Tx.fieldW places f = wordW places [49] f := by rw [fieldW_word, h]; rfl
section
variable {places : Nat} {M T : List UInt8} {n p : Int}
theorem wordW_m (h : numOf M = none) : wordW places M T = none := by unfold wordW; rw [h]
theorem wordW_t (h : numOf T = none) : wordW places M T = none := by unfold wordW; rw [h]; cases numOf M <;> rfl
theorem wordW_p0 (h : numOf M = some n) (k : numOf T = some p) (g : p < 0) : wordW places M T = none := by unfold wordW; rw [h, k]; simp only; rw [if_neg (by omega)]
theorem wordW_p1 (h : numOf M = some n) (k : numOf T = some p) (g : (places : Int) ≤ p) : wordW places M T = none := by unfold wordW; rw [h, k]; simp only; rw [if_neg (by omega)]
theorem wordW_n0 (h : numOf M = some n) (k : numOf T = some p) (g : n < 1) : wordW places M T = none := by unfold wordW; rw [h, k]; simp only; rw [if_neg (by omega)]
theorem wordW_n1 (h : numOf M = some n) (k : numOf T = some p) (g : 9 < n) : wordW places M T = none := by unfold wordW; rw [h, k]; simp only; rw [if_neg (by omega)]
theorem wordW_ok {q : Nat} (h : numOf M = some n) (k : numOf T = some (q : Int)) (g : (q : Int) < places) (g1 : 1 ≤ n) (g2 : n ≤ 9) : wordW places M T = some (q, n) := by
  unfold wordW; rw [h, k]; simp only; rw [if_pos ⟨by omega, g, g1, g2⟩]; simp
end
theorem fieldsGoD_len : ∀ (f : Nat) (cur l : List UInt8), ∀ x ∈ Lib.fieldsGoD f cur l, x.length ≤ cur.length + l.length
  | 0, cur, l, x, hx => by
    simp only [Lib.fieldsGoD] at hx
    split at hx
    · simp at hx
    · simp at hx; subst hx; omega
  | f + 1, cur, l, x, hx => by
    simp only [Lib.fieldsGoD] at hx
    split at hx
    · split at hx
      · simp at hx
      · simp at hx; subst hx; omega
    · split at hx
      · rcases List.mem_append.1 hx with h | h
        · split at h
          · simp at h
          · simp at h; subst h; omega
        · have := fieldsGoD_len f [] _ x h
          simp at this; omega
      · have := fieldsGoD_len f _ _ x hx
        simp only [List.length_append, List.length_take, List.length_drop] at this
        omega
theorem fieldsD_len (l : List UInt8) : ∀ x ∈ Lib.fieldsD l, x.length ≤ l.length := fun x hx => by
  have := fieldsGoD_len _ [] l x hx
  simpa using this
theorem cut_len {s sep a b : List UInt8} {two : Bool} (h : Lib.cut s sep = (a, b, two)) : a.length ≤ s.length ∧ b.length ≤ s.length := by
  unfold Lib.cut at h
  split at h
  · simp only [Prod.mk.injEq] at h
    obtain ⟨rfl, rfl, _⟩ := h
    simp; omega
  · simp only [Prod.mk.injEq] at h
    obtain ⟨rfl, rfl, _⟩ := h
    simp

theorem weights_no {w w' : World} {o : Option (List Int)} (h : o = none) (hb : Below w.heap.size w w') : weightsR w o (.returned (.tuple #[.slice none 0 0, .bool false])) w' := by
  subst h; exact ⟨hb, rfl⟩
/-- what holds at the head of the round k. -/
def WRel (w : World) (places A : Nat) (fs : List (List UInt8)) (o : Option (List Int)) (k : Nat) (wr : World) : Prop :=
  ∃ out : List Int, out.length = places ∧ Tx.weightsGo places (fs.drop k) out = o ∧ RowInts wr w.heap.size out ∧ Strs wr A fs ∧ Glob wr ∧ Below w.heap.size w wr
theorem weights_next {w w4 : World} {places A k q : Nat} {fs : List (List UInt8)} {o : Option (List Int)} {out : List Int} {f : List UInt8} {n : Int}
    (hw : Tx.fieldW places f = some (q, n)) (hs : Tx.weightsGo places (f :: fs.drop (k + 1)) out = o) (hlt : k < fs.length) (hl : out.length = places) (hr : RowInts w4 w.heap.size out) (hst : Strs w4 A fs) (hg : Glob w) (hb : Below w.heap.size w w4) (hA : w.heap.size < A) :
    ∃ k' : Nat, k' ≤ fs.length ∧ Value.int .i64 ((k : Int) + 1) = .int .i64 k' ∧ WRel w places A fs o k' (w4.setCell ⟨w.heap.size, q, none⟩ (.int .i64 n)) := by
  refine ⟨k + 1, hlt, by simp, out.set q n, by simpa using hl, ?_, hr.set q n, ⟨?_, fun j x hx => ?_⟩, ?_, hb.setCell (p := ⟨w.heap.size, q, none⟩) (Nat.le_refl _) _⟩
  · rw [Tx.weightsGo, hw] at hs; exact hs
  · simpa [World.setCell] using hst.1
  · rw [World.cell?_setCell_other _ _ _ _ (by intro e; injection e with e _; omega)]
    exact hst.2 j x hx
  · exact hg.below (hb.setCell (p := ⟨w.heap.size, q, none⟩) (Nat.le_refl _) _)
theorem fieldsGoD_count : ∀ (f : Nat) (cur l : List UInt8), (Lib.fieldsGoD f cur l).length ≤ f + 1
  | 0, cur, l => by simp only [Lib.fieldsGoD]; split <;> simp
  | f + 1, cur, l => by
    have h1 := fieldsGoD_count f [] (l.drop (Lib.decodeL l).2)
    have h2 := fieldsGoD_count f (cur ++ l.take (Lib.decodeL l).2) (l.drop (Lib.decodeL l).2)
    simp only [Lib.fieldsGoD]
    split
    · split <;> simp
    · split
      · rw [List.length_append]; split <;> simp <;> omega
      · omega
theorem fieldsD_count (l : List UInt8) : (Lib.fieldsD l).length ≤ l.length + 2 := fieldsGoD_count _ _ _
set_option maxHeartbeats 4000000 in
theorem weights_any (s : List UInt8) (places : Nat) (w : World) (h16 : places ≤ 16) (hs : s.length < 4294967281) (hg : Glob w) :
    Calls Tryd.prog 39 #[.string ⟨s.toArray⟩, .int .i64 places] w (weightsR w (Tx.weightsS places s)) := by
  have hmk := run_make_row' (P := Tryd.prog) 39 3 (.int .i64 0) 8 Tryd.underlying39 info3 rfl .i64 .i64 places (by omega) (by omega)
  have HG := Lib.hid hg
  have HM := Lib.hid (RowInts.made w places)
  have HLEN := Lib.hid (fieldsD_len s)
  have hcnt := fieldsD_count s
  clear hg
  go_enter Tryd.func39, Tryd.ntmps39
  go_wp2_with fail
  refine (fields_any _ hs (HG.out.below ((Below.refl _ w).alloc (Nat.le_refl _) _))).mono ?_
  rintro e w1 ⟨A, rfl, hA, hstr, hb⟩
  have HB := Lib.hid (((Below.refl w.heap.size w).alloc (Nat.le_refl _) _).trans (hb.mono (by simp)))
  have HROW := Lib.hid (HM.out.below hb)
  have HSTR := Lib.hid hstr
  have HG1 := Lib.hid ((HG.out.below ((Below.refl _ w).alloc (Nat.le_refl _) _)).below hb)
  have hAg : w.heap.size < A := by simp at hA; omega
  clear hb hstr hA hmk
  have HW := Lib.hid (show Tx.weightsS places s = Tx.weightsGo places (Lib.fieldsD s) (List.replicate places 0) from rfl)
  obtain ⟨fs, hfs⟩ : ∃ fs, Lib.fieldsD s = fs := ⟨_, rfl⟩
  rw [hfs] at HLEN HSTR HW hcnt ⊢
  clear hfs
  go_wp2_with fail
  go_loopw [21] (fun i wr => ∃ k : Nat, k ≤ fs.length ∧ i = .int .i64 k ∧ WRel w places A fs (Tx.weightsS places s) k wr) (fun i _ => fs.length - (intOf i).toNat)
  case atStart => exact ⟨0, Nat.zero_le _, rfl, List.replicate places 0, by simp, HW.out.symm, HROW.out, HSTR.out, HG1.out, HB.out⟩
  case round =>
    obtain ⟨k, hk, rfl, out, hol, hgo, hro, hst, hgl, hbe⟩ := hrel
    have HOL := Lib.hid hol
    have HRO := Lib.hid hro
    have HSTRL := Lib.hid hst
    have HGL := Lib.hid hgl
    have HBE := Lib.hid hbe
    have hgr : w.heap.size ≤ wr.heap.size := hbe.size
    clear hol hro hst hgl hbe
    by_cases hlt : k < fs.length
    · obtain ⟨f, hf⟩ : ∃ f, fs[k]? = some f := ⟨_, List.getElem?_eq_getElem hlt⟩
      have hcf := HSTRL.out.2 k f hf
      have hfl : f.length < 4294967281 := by have := HLEN.out f (List.mem_of_getElem? hf); omega
      have hdrop : fs.drop k = f :: fs.drop (k + 1) := Lib.drop_at hf
      rw [hdrop] at hgo
      have HSTEP2 := Lib.hid hgo
      have HSTEP := Lib.hid (show Tx.fieldW places f = none → Tx.weightsS places s = none from fun h => by rw [← HSTEP2.out, Tx.weightsGo, h])
      clear hgo hdrop hf
      obtain ⟨a, b, two, hc⟩ : ∃ a b two, Lib.cut f [42] = (a, b, two) := ⟨_, _, _, rfl⟩
      have hcl := cut_len hc
      have hcl1 : a.length ≤ f.length := hcl.1
      have hcl2 : b.length ≤ f.length := hcl.2
      clear hcl
      cases two with
      | true =>
        have HC := Lib.hid hc
        have hMl : (a : List UInt8).length < 4294967281 := by omega
        have hTl : (b : List UInt8).length < 4294967281 := by omega
        have HFW := Lib.hid (fieldW_two (places := places) hc)
        clear hc
        go_wp2_with fail
        refine (cut_any (s := f) (sep := [42]) _ hfl HGL.out HC.out).mono ?_
        rintro e w2 ⟨rfl, hb2⟩
        have HB2 := Lib.hid hb2
        have HG2 := Lib.hid (HGL.out.below hb2)
        clear hb2
        go_wp2_with fail
        cases hM : numOf a with
        | some n =>
          have HM1 := Lib.hid (numOf_some hM)
          have HM2 := Lib.hid hM
          clear hM
          refine (atoi_ok (s := a) _ hMl HM1.out).mono ?_
          rintro e w3 ⟨rfl, hb3⟩
          have HB3 := Lib.hid (HB2.out.trans (hb3.mono HB2.out.size))
          have HG3 := Lib.hid (HG2.out.below hb3)
          clear hb3
          go_wp2_with fail
          cases hT : numOf b with
          | some p =>
            have HT := Lib.hid (numOf_some hT)
            have HT2 := Lib.hid hT
            clear hT
            refine (atoi_ok (s := b) _ hTl HT.out).mono ?_
            rintro e w4 ⟨rfl, hb4⟩
            have HB4 := Lib.hid (HB3.out.trans (hb4.mono HB3.out.size))
            clear hb4
            by_cases r1 : p < 0
            · go_wp2_with fail
              go_ret2
              exact weights_no (HSTEP.out (HFW.out.trans (wordW_p0 HM2.out HT2.out r1))) (HBE.out.trans (HB4.out.mono hgr))
            by_cases r2 : (places : Int) ≤ p
            · go_wp2_with fail
              go_ret2
              exact weights_no (HSTEP.out (HFW.out.trans (wordW_p1 HM2.out HT2.out r2))) (HBE.out.trans (HB4.out.mono hgr))
            by_cases r3 : n < 1
            · go_wp2_with fail
              go_ret2
              exact weights_no (HSTEP.out (HFW.out.trans (wordW_n0 HM2.out HT2.out r3))) (HBE.out.trans (HB4.out.mono hgr))
            by_cases r4 : 9 < n
            · go_wp2_with fail
              go_ret2
              exact weights_no (HSTEP.out (HFW.out.trans (wordW_n1 HM2.out HT2.out r4))) (HBE.out.trans (HB4.out.mono hgr))
            obtain ⟨q, hq⟩ := Int.eq_ofNat_of_zero_le (by omega : 0 ≤ p)
            subst hq
            have HST2 := Lib.hid (HFW.out.trans (wordW_ok HM2.out HT2.out (by omega) (by omega) (by omega)))
            have hqp : q < places := by omega
            have HR4 := Lib.hid (HRO.out.below HB4.out)
            have hcq := HR4.out.cell (i := q) (by rw [HOL.out]; exact hqp)
            have hfq := HR4.out.frozen q
            have HS4 := Lib.hid (HSTRL.out.below HB4.out)
            have hsz4 := HB4.out.size
            go_wp2_with fail
            go_roundw
            case rel => exact weights_next HST2.out HSTEP2.out hlt HOL.out HR4.out HS4.out HG.out (HBE.out.trans (HB4.out.mono hgr)) hAg
            case measure => simp [intOf]; omega
          | none =>
            have HT := Lib.hid (numOf_none hT)
            have HT2 := Lib.hid hT
            clear hT
            refine (atoi_no (s := b) _ hTl HG3.out HT.out).mono ?_
            rintro e w4 ⟨⟨y, N2, rfl⟩, hb4⟩
            have HB4 := Lib.hid (HB3.out.trans (hb4.mono HB3.out.size))
            clear hb4
            go_wp2_with fail
            go_ret2
            exact weights_no (HSTEP.out (HFW.out.trans (wordW_t HT2.out))) (HBE.out.trans (HB4.out.mono hgr))
        | none =>
          have HM1 := Lib.hid (numOf_none hM)
          have HM2 := Lib.hid hM
          clear hM
          refine (atoi_no (s := a) _ hMl HG2.out HM1.out).mono ?_
          rintro e w3 ⟨⟨x, N, rfl⟩, hb3⟩
          have HB3 := Lib.hid (HB2.out.trans (hb3.mono HB2.out.size))
          have HG3 := Lib.hid (HG2.out.below hb3)
          clear hb3
          go_wp2_with fail
          cases hT : numOf b with
          | some p =>
            have HT := Lib.hid (numOf_some hT)
            have HT2 := Lib.hid hT
            clear hT
            refine (atoi_ok (s := b) _ hTl HT.out).mono ?_
            rintro e w4 ⟨rfl, hb4⟩
            have HB4 := Lib.hid (HB3.out.trans (hb4.mono HB3.out.size))
            clear hb4
            go_wp2_with fail
            go_ret2
            exact weights_no (HSTEP.out (HFW.out.trans (wordW_m HM2.out))) (HBE.out.trans (HB4.out.mono hgr))
          | none =>
            have HT := Lib.hid (numOf_none hT)
            have HT2 := Lib.hid hT
            clear hT
            refine (atoi_no (s := b) _ hTl HG3.out HT.out).mono ?_
            rintro e w4 ⟨⟨y, N2, rfl⟩, hb4⟩
            have HB4 := Lib.hid (HB3.out.trans (hb4.mono HB3.out.size))
            clear hb4
            go_wp2_with fail
            go_ret2
            exact weights_no (HSTEP.out (HFW.out.trans (wordW_m HM2.out))) (HBE.out.trans (HB4.out.mono hgr))
      | false =>
        have HC := Lib.hid hc
        have hMl : ([49] : List UInt8).length < 4294967281 := by decide
        have hTl : (f : List UInt8).length < 4294967281 := by omega
        have HFW := Lib.hid (fieldW_one (places := places) hc)
        clear hc
        go_wp2_with fail
        refine (cut_any (s := f) (sep := [42]) _ hfl HGL.out HC.out).mono ?_
        rintro e w2 ⟨rfl, hb2⟩
        have HB2 := Lib.hid hb2
        have HG2 := Lib.hid (HGL.out.below hb2)
        clear hb2
        go_wp2_with fail
        cases hM : numOf [49] with
        | some n =>
          have HM1 := Lib.hid (numOf_some hM)
          have HM2 := Lib.hid hM
          clear hM
          refine (atoi_ok (s := [49]) _ hMl HM1.out).mono ?_
          rintro e w3 ⟨rfl, hb3⟩
          have HB3 := Lib.hid (HB2.out.trans (hb3.mono HB2.out.size))
          have HG3 := Lib.hid (HG2.out.below hb3)
          clear hb3
          go_wp2_with fail
          cases hT : numOf f with
          | some p =>
            have HT := Lib.hid (numOf_some hT)
            have HT2 := Lib.hid hT
            clear hT
            refine (atoi_ok (s := f) _ hTl HT.out).mono ?_
            rintro e w4 ⟨rfl, hb4⟩
            have HB4 := Lib.hid (HB3.out.trans (hb4.mono HB3.out.size))
            clear hb4
            by_cases r1 : p < 0
            · go_wp2_with fail
              go_ret2
              exact weights_no (HSTEP.out (HFW.out.trans (wordW_p0 HM2.out HT2.out r1))) (HBE.out.trans (HB4.out.mono hgr))
            by_cases r2 : (places : Int) ≤ p
            · go_wp2_with fail
              go_ret2
              exact weights_no (HSTEP.out (HFW.out.trans (wordW_p1 HM2.out HT2.out r2))) (HBE.out.trans (HB4.out.mono hgr))
            by_cases r3 : n < 1
            · go_wp2_with fail
              go_ret2
              exact weights_no (HSTEP.out (HFW.out.trans (wordW_n0 HM2.out HT2.out r3))) (HBE.out.trans (HB4.out.mono hgr))
            by_cases r4 : 9 < n
            · go_wp2_with fail
              go_ret2
              exact weights_no (HSTEP.out (HFW.out.trans (wordW_n1 HM2.out HT2.out r4))) (HBE.out.trans (HB4.out.mono hgr))
            obtain ⟨q, hq⟩ := Int.eq_ofNat_of_zero_le (by omega : 0 ≤ p)
            subst hq
            have HST2 := Lib.hid (HFW.out.trans (wordW_ok HM2.out HT2.out (by omega) (by omega) (by omega)))
            have hqp : q < places := by omega
            have HR4 := Lib.hid (HRO.out.below HB4.out)
            have hcq := HR4.out.cell (i := q) (by rw [HOL.out]; exact hqp)
            have hfq := HR4.out.frozen q
            have HS4 := Lib.hid (HSTRL.out.below HB4.out)
            have hsz4 := HB4.out.size
            go_wp2_with fail
            go_roundw
            case rel => exact weights_next HST2.out HSTEP2.out hlt HOL.out HR4.out HS4.out HG.out (HBE.out.trans (HB4.out.mono hgr)) hAg
            case measure => simp [intOf]; omega
          | none =>
            have HT := Lib.hid (numOf_none hT)
            have HT2 := Lib.hid hT
            clear hT
            refine (atoi_no (s := f) _ hTl HG3.out HT.out).mono ?_
            rintro e w4 ⟨⟨y, N2, rfl⟩, hb4⟩
            have HB4 := Lib.hid (HB3.out.trans (hb4.mono HB3.out.size))
            clear hb4
            go_wp2_with fail
            go_ret2
            exact weights_no (HSTEP.out (HFW.out.trans (wordW_t HT2.out))) (HBE.out.trans (HB4.out.mono hgr))
        | none =>
          have HM1 := Lib.hid (numOf_none hM)
          have HM2 := Lib.hid hM
          clear hM
          refine (atoi_no (s := [49]) _ hMl HG2.out HM1.out).mono ?_
          rintro e w3 ⟨⟨x, N, rfl⟩, hb3⟩
          have HB3 := Lib.hid (HB2.out.trans (hb3.mono HB2.out.size))
          have HG3 := Lib.hid (HG2.out.below hb3)
          clear hb3
          go_wp2_with fail
          cases hT : numOf f with
          | some p =>
            have HT := Lib.hid (numOf_some hT)
            have HT2 := Lib.hid hT
            clear hT
            refine (atoi_ok (s := f) _ hTl HT.out).mono ?_
            rintro e w4 ⟨rfl, hb4⟩
            have HB4 := Lib.hid (HB3.out.trans (hb4.mono HB3.out.size))
            clear hb4
            go_wp2_with fail
            go_ret2
            exact weights_no (HSTEP.out (HFW.out.trans (wordW_m HM2.out))) (HBE.out.trans (HB4.out.mono hgr))
          | none =>
            have HT := Lib.hid (numOf_none hT)
            have HT2 := Lib.hid hT
            clear hT
            refine (atoi_no (s := f) _ hTl HG3.out HT.out).mono ?_
            rintro e w4 ⟨⟨y, N2, rfl⟩, hb4⟩
            have HB4 := Lib.hid (HB3.out.trans (hb4.mono HB3.out.size))
            clear hb4
            go_wp2_with fail
            go_ret2
            exact weights_no (HSTEP.out (HFW.out.trans (wordW_m HM2.out))) (HBE.out.trans (HB4.out.mono hgr))
    · have hke : k = fs.length := by omega
      have HE := Lib.hid (show Tx.weightsS places s = some out by rw [← hgo, hke, List.drop_length]; rfl)
      clear hgo
      go_wp2_with fail
      go_ret2
      unfold weightsR
      rw [HE.out]
      exact ⟨HBE.out, w.heap.size, by rw [HOL.out]; rfl, Nat.le_refl _, HRO.out⟩
end Go.Proofs.YtednlgeidgnogaaDoor
