/-
  The walk of text.Print.
-/
import Derived.Test.YtednlgeidgnogaaDoorWalkD
import Derived.Test.YtednlgeidgnogaaDoorBack
namespace Go.Proofs.YtednlgeidgnogaaDoor
open Go.RowKit

/-- the cells of transitions behind an address. -/
def TrsAt (w : World) (B : Nat) (A : Option Addr) (n : Nat) (ts : List Tx.Tr) : Prop :=
  0 < n → ∃ ad, A = some ad ∧ ad.block < B ∧ ∀ k t, ts[k]? = some t → TranCells w B (ad.add (k * 3)) t
theorem TrsAt.below {w w' : World} {B n : Nat} {A : Option Addr} {ts : List Tx.Tr} (h : TrsAt w B A n ts) (hb : Below B w w') : TrsAt w' B A n ts := fun hn => by
  obtain ⟨ad, e, hk, hx⟩ := h hn
  exact ⟨ad, e, hk, fun k t ht => (hx k t ht).keep (by rw [block_of_add]; exact hk) (fun _ hp => hb.cell hp)⟩
theorem TranCells.more {w : World} {B B' : Nat} {p : Addr} {t : Tx.Tr} (h : TranCells w B p t) (hB : B ≤ B') : TranCells w B' p t := by
  obtain ⟨v1, v2, h0, h1, h2, h3, h4⟩ := h
  exact ⟨v1, v2, h0, h1, h2, h3.more hB, h4.more hB⟩
theorem TrsAt.more {w : World} {B B' n : Nat} {A : Option Addr} {ts : List Tx.Tr} (h : TrsAt w B A n ts) (hB : B ≤ B') : TrsAt w B' A n ts := fun hn => by
  obtain ⟨ad, e, hk, hx⟩ := h hn
  exact ⟨ad, e, by omega, fun k t ht => (hx k t ht).more hB⟩

theorem print_bad (p : Int) (A : Option Addr) (n c : Nat) (ts : List Tx.Tr) (w : World) (hn : n ≤ 9223372036854775807) (hl : ts.length = n) (hr : TrsAt w w.heap.size A n ts) (hw : Tx.ntWrong ⟨p, ts⟩ = true) :
    Calls Tryd.prog 9 #[.agg #[.int .i64 p, .slice A n c]] w fun e w' => e = .returned (.tuple #[.string ByteArray.empty, .int .i64 2]) ∧ Below w.heap.size w w' := by
  have HR := Lib.hid hr
  have HL := Lib.hid hl
  have E0 := Lib.hid (show wrongE (Tx.ntWrong ⟨p, ts⟩) = 2 by rw [hw]; rfl)
  clear hr hl hw
  have hal : Below w.heap.size w (w.alloc (.cells #[.int .i64 p, .slice A n c] 25)) := (Below.refl _ w).alloc (Nat.le_refl _) _
  have HAL := Lib.hid hal
  clear hal
  go_enter Tryd.func9, Tryd.ntmps9
  go_wp2_with fail
  refine (wrong_any p A n c ts _ hn HL.out ((HR.out.below HAL.out).more (by simp))).mono ?_
  rintro e w1 ⟨rfl, hb1⟩
  have HB1 := Lib.hid (HAL.out.trans (hb1.mono (by simp)))
  clear hb1
  rw [E0.out]
  go_wp2_with fail
  go_ret2
  exact ⟨rfl, HB1.out⟩

theorem owns_below {w w' : World} {base : Nat} {e : TypeId} {size n : Nat} {v : Value} {xs : List Value} (h : w.ownsRow base e size v n xs) (hb : Below w.heap.size w w') : w'.ownsRow base e size v n xs :=
  h.kept (row := none) ⟨hb.os, hb.tape, hb.output, hb.size, fun k hk _ => hb.block k hk⟩ (by
    cases hv : v.ownBlock with
    | none => exact .inl rfl
    | some x => exact .inr (by simp))
theorem builder_at_below {T e B b : Nat} {p : Value} {bs : List Value} {w w' : World} (h : Lib.BuilderAt T e B b p bs w) (hb : Below w.heap.size w w') : Lib.BuilderAt T e B b p bs w' := by
  have hlt := h.lt
  obtain ⟨hB, v, hh, hown, hne⟩ := h
  exact ⟨hB, v, (hb.block b hlt).trans hh, owns_below hown hb, hne⟩
theorem builder_below {T e B b : Nat} {bs : List Value} {w w' : World} (h : Lib.IsBuilder T e B b bs w) (hb : Below w.heap.size w w') : Lib.IsBuilder T e B b bs w' :=
  h.elim (fun x => .inl (builder_at_below x hb)) (fun x => .inr (builder_at_below x hb))
theorem head_data (q : Nat) : (({ data := #[110, 101, 116, 32] } : ByteArray) ++ { data := (Lib.decDigits q).toArray } ++ { data := #[10] }).data.toList = Tx.netB ++ (Lib.itoa (q : Int) ++ [10]) := by
  simp [Tx.netB, itoa_nat]
theorem head_size (q : Nat) : (({ data := #[110, 101, 116, 32] } : ByteArray) ++ { data := (Lib.decDigits q).toArray } ++ { data := #[10] }).size = 5 + (Lib.decDigits q).length := by
  simp only [ByteArray.size_append]
  simp [ByteArray.size]
  omega
theorem line_size (l : List UInt8) : (({ data := l.toArray } : ByteArray) ++ { data := #[10] }).size = l.length + 1 := by
  simp only [ByteArray.size_append]
  simp [ByteArray.size]
theorem line_nl (l : List UInt8) : (({ data := l.toArray } : ByteArray) ++ { data := #[10] }).data.toList = l ++ [10] := by simp
theorem lineS_len {q : Nat} (hq : q ≤ 16) {t : Tx.Tr} (h : Tx.TrOk q t) : (Tx.lineS t).length ≤ 300 := by
  have h1 := label_len t.label
  have h2 := side_len t.pre 0 (by rw [h.pre]; omega) h.pre9
  have h3 := side_len t.post 0 (by rw [h.post]; omega) h.post9
  rw [h.pre] at h2
  rw [h.post] at h3
  simp only [Tx.lineS, Tx.side, List.length_append, List.length_cons, List.length_nil]
  omega
theorem linesOf_step {ts : List Tx.Tr} {k : Nat} {t : Tx.Tr} (h : ts[k]? = some t) : Tx.linesOf (ts.take (k + 1)) = Tx.linesOf (ts.take k) ++ (Tx.lineS t ++ [10]) := by
  obtain ⟨hk, rfl⟩ := List.getElem?_eq_some_iff.1 h
  unfold Tx.linesOf
  rw [List.take_succ_eq_append_getElem hk, List.map_append, List.flatten_append]
  simp
/-- what has been written when k lines are written. -/
def written (q : Nat) (ts : List Tx.Tr) (k : Nat) : List UInt8 := Tx.netB ++ (Lib.itoa (q : Int) ++ [10]) ++ Tx.linesOf (ts.take k)
theorem written_zero (q : Nat) (ts : List Tx.Tr) : written q ts 0 = Tx.netB ++ (Lib.itoa (q : Int) ++ [10]) := by simp [written, Tx.linesOf]
theorem written_step {q : Nat} {ts : List Tx.Tr} {k : Nat} {t : Tx.Tr} (h : ts[k]? = some t) : written q ts (k + 1) = written q ts k ++ (Tx.lineS t ++ [10]) := by
  simp only [written, linesOf_step h, List.append_assoc]
theorem written_all (q : Nat) (ts : List Tx.Tr) : written q ts ts.length = Tx.printS ⟨q, ts⟩ := by
  simp [written, Tx.printS, Tx.linesOf]

set_option maxHeartbeats 1000000 in
theorem print_good (p : Int) (A : Option Addr) (n c : Nat) (ts : List Tx.Tr) (w : World) (hl : ts.length = n) (hr : TrsAt w w.heap.size A n ts) (hw : Tx.ntWrong ⟨p, ts⟩ = false) :
    Calls Tryd.prog 9 #[.agg #[.int .i64 p, .slice A n c]] w fun e w' => e = .returned (.tuple #[.string ⟨(Tx.printS ⟨p, ts⟩).toArray⟩, .int .i64 0]) ∧ Below w.heap.size w w' := by
  have hwc := hw
  simp only [Tx.ntWrong, Bool.or_eq_false_iff, decide_eq_false_iff_not] at hwc
  obtain ⟨⟨⟨hp0, hp1⟩, hn24⟩, hany⟩ := hwc
  obtain ⟨q, rfl⟩ := Int.eq_ofNat_of_zero_le (by omega : 0 ≤ p)
  have HOK := Lib.hid (show ∀ k t, ts[k]? = some t → Tx.TrOk q t from fun k t ht => Tx.trOk_of (by simpa using List.any_eq_false.1 hany t (List.mem_of_getElem? ht)))
  have hn : n ≤ 24 := by omega
  have hq : q ≤ 16 := by omega
  have HR := Lib.hid hr
  have HL := Lib.hid hl
  have E0 := Lib.hid (show wrongE (Tx.ntWrong ⟨q, ts⟩) = 0 by rw [hw]; rfl)
  clear hr hl hw hany hp0 hp1 hn24
  have hal : Below w.heap.size w (w.alloc (.cells #[.int .i64 q, .slice A n c] 25)) := (Below.refl _ w).alloc (Nat.le_refl _) _
  have HAL := Lib.hid hal
  clear hal
  go_enter Tryd.func9, Tryd.ntmps9
  go_wp2_with fail
  refine (wrong_any q A n c ts _ (by omega) HL.out ((HR.out.below HAL.out).more (by simp))).mono ?_
  rintro e w1 ⟨rfl, hb1⟩
  have hc0 : w1.cell? ⟨w.heap.size, 0, none⟩ = some (.int .i64 q) := (hb1.cell (p := ⟨w.heap.size, 0, none⟩) (by simp)).trans (by simp [go_sem])
  have hc1 : w1.cell? ⟨w.heap.size, 1, none⟩ = some (.slice A n c) := (hb1.cell (p := ⟨w.heap.size, 1, none⟩) (by simp)).trans (by simp [go_sem])
  have hsz := hb1.size
  simp only [World.size_alloc] at hsz
  have hlt1 : w.heap.size < w1.heap.size := by omega
  have HB1 := Lib.hid (HAL.out.trans (hb1.mono (by simp)))
  clear hb1
  have hd := dec_len q (by omega)
  have HF := Lib.hid (Lib.fresh_isBuilder 58 5 w1)
  rw [E0.out]
  go_wp2_with (go_at_call 18; refine (Tryd.strconv_Itoa_small _ (by omega) _).mono ?_; rintro e w' ⟨rfl, hw'⟩; subst hw')
  refine (Tryd.Builder_WriteString_p w1.heap.size w1.heap.size [] _ _ HF.out (by rw [head_size]; simp; omega) (by simp)).mono ?_
  rintro e w2 ⟨rfl, hb2, hbel2⟩
  have HBL := Lib.hid (builder_more (l := []) (head_data q) hb2)
  have hb1' : Below w1.heap.size w1 w2 := ((Below.refl _ w1).alloc (Nat.le_refl _) _).trans hbel2
  have hd1 : w2.cell? ⟨w.heap.size, 1, none⟩ = some (.slice A n c) := (hb1'.cell (p := ⟨w.heap.size, 1, none⟩) hlt1).trans hc1
  have HB2 := Lib.hid hb1'
  have hsz2 := hb1'.size
  have hlen0 : (Tx.netB ++ (Lib.itoa (q : Int) ++ [10])).length ≤ 400 := by simp [Tx.netB, itoa_nat]; omega
  rw [← written_zero q ts] at hlen0
  have HBL0 := Lib.hid (show Lib.IsBuilder 58 5 w1.heap.size w1.heap.size (Lib.byteCells (written q ts 0)) w2 by rw [written_zero]; exact HBL.out)
  clear hb2 hbel2 hc0 hc1 hb1' HBL HF
  go_wp2_with fail
  go_loopw [22] (fun i wr => ∃ k : Nat, k ≤ n ∧ i = .int .i64 k ∧ (written q ts k).length ≤ 400 * (k + 1) ∧ Lib.IsBuilder 58 5 w1.heap.size w1.heap.size (Lib.byteCells (written q ts k)) wr ∧ Below w1.heap.size w1 wr) (fun i _ => n - (intOf i).toNat)
  case atStart => exact ⟨0, Nat.zero_le _, rfl, by omega, HBL0.out, HB2.out⟩
  case round =>
    obtain ⟨k, hk, rfl, hlen, hbld, hbel⟩ := hrel
    have HBLk := Lib.hid hbld
    have HBE := Lib.hid hbel
    have hszr' : w1.heap.size ≤ wr.heap.size := hbel.size
    have hszr : w.heap.size ≤ wr.heap.size := by omega
    clear hbld hbel hd1
    by_cases hlt : k < n
    · obtain ⟨ad, rfl, hbk, hcells⟩ := HR.out (by omega)
      obtain ⟨t, ht⟩ : ∃ t, ts[k]? = some t := ⟨_, List.getElem?_eq_getElem (by rw [HL.out]; exact hlt)⟩
      have hb1 : (ad.add (k * 3)).block < w.heap.size := by rw [block_of_add]; exact hbk
      have hok := HOK.out k t ht
      have hbw := HB1.out.trans (HBE.out.mono (Nat.le_of_lt hlt1))
      obtain ⟨v1, v2, e0, e1, e2, ⟨A1, c1, rfl, hc1', hm1, hr1⟩, ⟨A2, c2, rfl, hc2', hm2, hr2⟩⟩ := hcells k _ ht
      have f0 := (hbw.cell (p := ad.add (k * 3)) hb1).trans e0
      have f1 := (hbw.cell (p := ⟨(ad.add (k * 3)).block, (ad.add (k * 3)).off + 1, none⟩) hb1).trans e1
      have f2 := (hbw.cell (p := ⟨(ad.add (k * 3)).block, (ad.add (k * 3)).off + 2, none⟩) hb1).trans e2
      have HT := Lib.hid ht
      have HR1 := Lib.hid ((hr1.below hbw).more (B' := wr.heap.size) (by omega))
      have HR2 := Lib.hid ((hr2.below hbw).more (B' := wr.heap.size) (by omega))
      have HOKt := Lib.hid hok
      have hll : (Tx.lineS t).length ≤ 300 := lineS_len hq hok
      have hll2 : (Tx.lineS ⟨t.label, t.pre, t.post⟩).length ≤ 300 := hll
      have hst := written_step (q := q) ht
      have HST := Lib.hid hst
      clear e0 e1 e2 hcells hb1 hbw hr1 hr2 ht hok hst
      go_wp2_with fail
      refine (line_any t.label A1 A2 _ c1 _ c2 t.pre t.post _ HOKt.out.l0 HOKt.out.l1 (by rw [HOKt.out.pre]; exact hq) (by rw [HOKt.out.post]; exact hq) rfl rfl HOKt.out.pre9 HOKt.out.post9
        ((HR1.out.below ((Below.refl _ wr).alloc (Nat.le_refl _) _)).more (by simp)) ((HR2.out.below ((Below.refl _ wr).alloc (Nat.le_refl _) _)).more (by simp))).mono ?_
      rintro e w3 ⟨rfl, hb3⟩
      have hw3 : Below wr.heap.size wr w3 := ((Below.refl _ wr).alloc (Nat.le_refl _) _).trans (hb3.mono (by simp))
      have HBL3 := Lib.hid (builder_below HBLk.out hw3)
      have HBE3 := Lib.hid (HBE.out.trans (hw3.mono hszr'))
      clear hb3 hw3
      go_wp2_with fail
      refine (Tryd.Builder_WriteString_p _ _ _ _ _ HBL3.out (by rw [Lib.byteCells_length, line_size]; omega) HBE3.out.size).mono ?_
      rintro e w4 ⟨rfl, hb4, hbel4⟩
      have HBL4 := Lib.hid (builder_more (line_nl _) hb4)
      have HBE4 := Lib.hid (HBE3.out.trans hbel4)
      clear hb4 hbel4
      go_wp2_with fail
      go_roundw
      case rel => exact ⟨k + 1, by omega, by go_num, by rw [HST.out, List.length_append, List.length_append, List.length_singleton]; omega, by rw [HST.out]; exact HBL4.out, HBE4.out⟩
      case measure => simp [intOf]; omega
    · go_wp2_with fail
      refine (Tryd.Builder_String_p _ _ _ _ HBLk.out HBE.out.size).mono ?_
      rintro e w2 ⟨rfl, hbel2⟩
      have HBE2 := Lib.hid (HB1.out.trans ((HBE.out.trans hbel2).mono (Nat.le_of_lt hlt1)))
      clear hbel2
      go_wp2_with fail
      go_ret2
      have hkn : k = ts.length := by rw [HL.out]; omega
      exact ⟨by rw [hkn, written_all]; rfl, HBE2.out⟩
end Go.Proofs.YtednlgeidgnogaaDoor
