/-
  The walk of net.Enabled.
-/
import Derived.Test.YtblbgbgnifdohaaWalkD
import Derived.Deep.OwnRows
namespace Go.Proofs.Ytblbgbgnifdohaa
open Go.RowKit

theorem infoI : (Try.prog.info? 3).map (fun i => (i.zero, i.size, i.bytes)) = some (some (.int .i64 0), 1, 8) := by kernel_rfl

def en (ts : List Tx.Tr) (xs : List Int) (k : Nat) : List Nat := (List.range k).filter fun j => match ts[j]? with
  | some t => Cv.coversV xs t.pre
  | none => false
theorem en_all (ts : List Tx.Tr) (xs : List Int) : en ts xs ts.length = Cv.enabledI ts xs := rfl
theorem en_succ {ts : List Tx.Tr} {xs : List Int} {k : Nat} {t : Tx.Tr} (h : ts[k]? = some t) : en ts xs (k + 1) = en ts xs k ++ (if Cv.coversV xs t.pre then [k] else []) := by
  unfold en
  rw [List.range_succ, List.filter_append]
  congr 1
  simp only [List.filter_cons, List.filter_nil, h]
theorem en_len (ts : List Tx.Tr) (xs : List Int) (k : Nat) : (en ts xs k).length ≤ k := by
  have := List.length_filter_le (fun j => match ts[j]? with
    | some t => Cv.coversV xs t.pre
    | none => false) (List.range k)
  simpa [en] using this
def natI (l : List Nat) : List Value := l.map fun (k : Nat) => Value.int .i64 (k : Int)

theorem enabled_no (p : Int) (A : Option Addr) (n c : Nat) (ts : List Tx.Tr) (Am : Option Addr) (cm : Nat) (xs : List Int) (w : World) (hn : n ≤ 9223372036854775807) (hl : ts.length = n) (hr : TrsAt w w.heap.size A n ts)
    (hnm : xs.length ≤ 9223372036854775807) (hm : Reads w w.heap.size 1 Am xs.length (xs.map (Value.int .i64))) (hf : Cv.fitV ⟨p, ts⟩ xs = false) :
    Calls Try.prog 17 #[.agg #[.int .i64 p, .slice A n c], .slice Am xs.length cm] w fun e w' => e = .returned (.tuple #[.slice none 0 0, .int .i64 2]) ∧ Below w.heap.size w w' := by
  have HW := Lib.hid ((Below.refl w.heap.size w).alloc (Nat.le_refl _) (.cells #[.int .i64 p, .slice A n c] 24))
  have HC := Lib.hid (fits_any p A n c ts Am cm xs (w.alloc (.cells #[.int .i64 p, .slice A n c] 24)) hn hl ((hr.below HW.out).more (by simp)) hnm ((hm.below HW.out).more (by simp)))
  rw [hf] at HC
  clear hr hl hm hf
  go_enter Try.func17, Try.ntmps17
  go_wp2_with fail
  refine HC.out.mono ?_
  rintro e w2 ⟨rfl, hb2⟩
  have HB := Lib.hid (HW.out.trans (hb2.mono (by simp)))
  clear hb2
  simp only [fitE]
  go_wp2_with fail
  go_ret2
  exact ⟨rfl, HB.out⟩

set_option maxHeartbeats 2000000 in
theorem enabled_any (p : Int) (A : Option Addr) (n c : Nat) (ts : List Tx.Tr) (Am : Option Addr) (cm : Nat) (xs : List Int) (w : World) (hl : ts.length = n) (hr : TrsAt w w.heap.size A n ts)
    (hm : Reads w w.heap.size 1 Am xs.length (xs.map (Value.int .i64))) (hf : Cv.fitV ⟨p, ts⟩ xs = true) :
    Calls Try.prog 17 #[.agg #[.int .i64 p, .slice A n c], .slice Am xs.length cm] w fun e w' => ∃ v', e = .returned (.tuple #[v', .int .i64 0]) ∧ w'.ownsRow w.heap.size 3 1 v' (Cv.enabledI ts xs).length (natI (Cv.enabledI ts xs)) ∧ Below w.heap.size w w' := by
  obtain ⟨hlp, hrt, htl, hml, hts⟩ := Cv.fit_parts hf
  dsimp only at hlp htl hts
  have hn24 : n ≤ 24 := by omega
  obtain ⟨i0, hi, hz0, hz1, hz2⟩ := info_parts infoI
  have HW := Lib.hid ((Below.refl w.heap.size w).alloc (Nat.le_refl _) (.cells #[.int .i64 p, .slice A n c] 24))
  have HC := Lib.hid (fits_any p A n c ts Am cm xs (w.alloc (.cells #[.int .i64 p, .slice A n c] 24)) (by omega) hl ((hr.below HW.out).more (by simp)) (by omega) ((hm.below HW.out).more (by simp)))
  rw [hf] at HC
  have HR := Lib.hid hr
  have HL := Lib.hid hl
  have HM := Lib.hid hm
  have HTS := Lib.hid hts
  clear hr hl hm hf hts hlp hrt
  go_enter Try.func17, Try.ntmps17
  go_wp2_with fail
  refine HC.out.mono ?_
  rintro e w2 ⟨rfl, hb2⟩
  have HB := Lib.hid (HW.out.trans (hb2.mono (by simp)))
  have hc1 : w2.cell? ⟨w.heap.size, 1, none⟩ = some (.slice A n c) := (hb2.cell (p := ⟨w.heap.size, 1, none⟩) (by simp)).trans (by simp [go_sem])
  have hz : w.heap.size < w2.heap.size := by have := hb2.size; simp at this; omega
  clear hb2
  simp only [fitE]
  go_wp2_with fail
  go_loopw [7, 19] (fun v i wr => ∃ k : Nat, k ≤ n ∧ i = .int .i64 k ∧ wr.ownsRow w.heap.size 3 1 v (en ts xs k).length (natI (en ts xs k)) ∧ Below w.heap.size w wr) (fun _ i _ => n - (intOf i).toNat)
  case atStart => exact ⟨0, Nat.zero_le _, rfl, World.ownsRow_nil _ _ _ _, HB.out⟩
  case round =>
    obtain ⟨k, hk, rfl, hrow, hbel⟩ := hrel
    have HROW := Lib.hid hrow
    have HBE := Lib.hid hbel
    have hgr := hbel.size
    clear hrow hbel
    by_cases hlt : k < n
    · obtain ⟨ad, rfl, hbk, hcells⟩ := HR.out (by omega)
      obtain ⟨t, ht⟩ : ∃ t, ts[k]? = some t := ⟨_, List.getElem?_eq_getElem (by rw [HL.out]; exact hlt)⟩
      have hb1 : (ad.add (k * 3)).block < w.heap.size := by rw [block_of_add]; exact hbk
      obtain ⟨v1, v2, e0, e1, e2, ⟨A1, c1, rfl, _, _, hr1⟩, ⟨A2, c2, rfl, _, _, hr2⟩⟩ := hcells k _ ht
      have f0 := (HBE.out.cell (p := ad.add (k * 3)) hb1).trans e0
      have f1 := (HBE.out.cell (p := ⟨(ad.add (k * 3)).block, (ad.add (k * 3)).off + 1, none⟩) hb1).trans e1
      have f2 := (HBE.out.cell (p := ⟨(ad.add (k * 3)).block, (ad.add (k * 3)).off + 2, none⟩) hb1).trans e2
      have HR1 := Lib.hid hr1
      have HT := Lib.hid ht
      have htl := (HTS.out t (List.mem_of_getElem? ht)).1
      clear e0 e1 e2 hr1 hr2 ht hcells
      go_wp2_with fail
      have HWT := Lib.hid ((Below.refl wr.heap.size wr).alloc (Nat.le_refl _) (.cells #[.int .i64 t.label, .slice A1 t.pre.length c1, .slice A2 t.post.length c2] 48))
      have HWB := Lib.hid (HBE.out.trans (HWT.out.mono hgr))
      rw [htl] at HWT HWB
      refine (covers_any Am A1 xs.length cm c1 xs t.pre w.heap.size w.heap.size _ (by omega) rfl htl (HM.out.below HWB.out) (by rw [htl] at HR1; exact HR1.out.below HWB.out)).mono ?_
      rintro e w4 ⟨rfl, rfl⟩
      have HRW : Hid ((wr.alloc (.cells #[.int .i64 t.label, .slice A1 xs.length c1, .slice A2 t.post.length c2] 48)).ownsRow w.heap.size 3 1 u7 (en ts xs k).length (natI (en ts xs k))) := Lib.hid (HROW.out.alloc _)
      have hsz : wr.heap.size + 1 = (wr.alloc (.cells #[.int .i64 t.label, .slice A1 xs.length c1, .slice A2 t.post.length c2] 48)).heap.size := by simp
      clear f0 f1 f2
      generalize wr.alloc (.cells #[.int .i64 t.label, .slice A1 xs.length c1, .slice A2 t.post.length c2] 48) = Wt at *
      have HES := Lib.hid (en_succ (xs := xs) HT.out)
      cases hcv : Cv.coversV xs t.pre with
      | false =>
        rw [hcv] at HES
        clear hcv
        go_wp2_with fail
        go_roundw
        case rel => exact ⟨k + 1, by omega, by go_num, by have := HES.out; simp only [Bool.false_eq_true, if_false, List.append_nil] at this; rw [this]; exact HRW.out, HWB.out⟩
        case measure => simp [intOf]; omega
      | true =>
        rw [hcv] at HES
        clear hcv
        have hel := en_len ts xs k
        have HNW : Hid ((Wt.alloc (.cells #[.int .i64 k] 3)).cell? ⟨Wt.heap.size, 0, none⟩ = some (.int .i64 k)) := Lib.hid (by simp [go_sem])
        have HRW2 := Lib.hid (HRW.out.alloc (.cells #[.int .i64 k] 3))
        go_wp2_with (at_builtin; refine wpList_append_own _ rfl (.tmp 28) (.tmp 30) 25 rfl w.heap.size 3 i0 _ 1 8 Try.underlying25 hi hz0 hz1 hz2 rfl (by decide) u7 (en ts xs k).length (natI (en ts xs k)) rfl HRW2.out ⟨Wt.heap.size, 0, none⟩ 1 1 [.int .i64 k] rfl rfl ?c1 ?c2 ?c3 ?c4 ?c5 ?_)
        case c1 =>
          intro j u hu
          obtain ⟨hj, rfl⟩ := List.getElem?_eq_some_iff.1 hu
          obtain rfl : j = 0 := by simpa using hj
          exact HNW.out
        case c2 => intro u hu; simp only [List.mem_singleton] at hu; subst hu; rfl
        case c3 => simp only [maxLen]; omega
        case c4 => omega
        case c5 => simp; omega
        intro v5 w5 hown5 hgrow5 _
        have HW5 := Lib.hid hown5
        have HBG : Hid (Below w.heap.size w w5) := Lib.hid ((HWB.out.alloc (by omega) _).grown hgrow5 (by simp; omega) (fun k hk => (HRW2.out.lt k hk).1))
        clear hown5 hgrow5
        go_wp2_with fail
        go_roundw
        case rel => exact ⟨k + 1, by omega, by go_num, by have := HES.out; simp only [if_true] at this; rw [this, List.length_append]; have h5 := HW5.out; simpa [natI] using h5, HBG.out⟩
        case measure => simp [intOf]; omega
    · obtain rfl : k = n := by omega
      go_wp2_with fail
      go_ret2
      refine ⟨_, rfl, ?_, HBE.out⟩
      have := HROW.out
      rw [← HL.out, en_all] at this
      exact this
end Go.Proofs.Ytblbgbgnifdohaa
