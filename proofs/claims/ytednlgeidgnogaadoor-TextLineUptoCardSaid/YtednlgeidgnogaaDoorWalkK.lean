/-
  Two nets that read the same are the same: slices.Equal, SameNet's test of two transitions, slices.EqualFunc, SameNet.
-/
import Derived.Test.YtednlgeidgnogaaDoorWalkI
namespace Go.Proofs.YtednlgeidgnogaaDoor
open Go.RowKit

theorem equal_same (A A' : Option Addr) (n c c' : Nat) (xs : List Int) (B B' : Nat) (w : World) (hn : n ≤ 9223372036854775807) (hl : xs.length = n) (hr : Reads w B 1 A n (xs.map (Value.int .i64))) (hr' : Reads w B' 1 A' n (xs.map (Value.int .i64))) :
    Calls Tryd.prog 30 #[.slice A n c, .slice A' n c'] w fun e w' => e = .returned (.bool true) ∧ Below w.heap.size w w' := by
  have HR := Lib.hid hr
  have HR' := Lib.hid hr'
  have HL := Lib.hid hl
  clear hr hr' hl
  go_enter Tryd.func30, Tryd.ntmps30
  go_wp2_with fail
  go_loopw [13] (fun i wr => ∃ k q : Nat, k ≤ n ∧ i = .int .i64 k ∧ wr = w.drewN q) (fun i _ => n - (intOf i).toNat)
  case atStart => exact ⟨0, 0, Nat.zero_le _, rfl, rfl⟩
  case round =>
    obtain ⟨k, q, hk, rfl, rfl⟩ := hrel
    by_cases hlt : k < n
    · obtain ⟨ad, rfl, _, hcell⟩ := HR.out.int_at hlt
      obtain ⟨ad', rfl, _, hcell'⟩ := HR'.out.int_at hlt
      go_wp2_with fail
      go_quiet (fail)
      go_wp2_with fail
      go_roundw
      case rel => exact ⟨k + 1, _, by omega, by go_num, by first | rfl | exact (World.drewN_drewN _ _ _).symm | exact World.drewN_drewN _ _ _⟩
      case measure => simp [intOf]; omega
    · go_wp2_with fail
      go_ret
      exact ⟨rfl, below_drewN w q⟩

/-- what stands in memory while two transitions are held against each other. -/
theorem same_tran (l : Int) (A1 A2 A3 A4 : Option Addr) (n1 n2 c1 c2 c3 c4 : Nat) (xs ys : List Int) (B : Nat) (w : World) (hn1 : n1 ≤ 9223372036854775807) (hn2 : n2 ≤ 9223372036854775807) (hl1 : xs.length = n1) (hl2 : ys.length = n2)
    (hB : B ≤ w.heap.size) (h1 : Reads w B 1 A1 n1 (xs.map (Value.int .i64))) (h2 : Reads w B 1 A2 n2 (ys.map (Value.int .i64))) (h3 : Reads w B 1 A3 n1 (xs.map (Value.int .i64))) (h4 : Reads w B 1 A4 n2 (ys.map (Value.int .i64))) :
    Calls Tryd.prog 29 #[.agg #[.int .i64 l, .slice A1 n1 c1, .slice A2 n2 c2], .agg #[.int .i64 l, .slice A3 n1 c3, .slice A4 n2 c4]] w fun e w' => e = .returned (.bool true) ∧ Below w.heap.size w w' := by
  have H1 := Lib.hid h1
  have H2 := Lib.hid h2
  have H3 := Lib.hid h3
  have H4 := Lib.hid h4
  have HL1 := Lib.hid hl1
  have HL2 := Lib.hid hl2
  have hW : Below w.heap.size w ((w.alloc (.cells #[.int .i64 l, .slice A1 n1 c1, .slice A2 n2 c2] 41)).alloc (.cells #[.int .i64 l, .slice A3 n1 c3, .slice A4 n2 c4] 41)) := ((Below.refl _ w).alloc (Nat.le_refl _) _).alloc (by simp) _
  have HW := Lib.hid hW
  have HA := Lib.hid ((Blk3.new w (.int .i64 l) (.slice A1 n1 c1) (.slice A2 n2 c2)).below ((Below.refl _ _).alloc (Nat.le_refl _) (.cells #[.int .i64 l, .slice A3 n1 c3, .slice A4 n2 c4] 41)))
  have HB := Lib.hid (Blk3.new (w.alloc (.cells #[.int .i64 l, .slice A1 n1 c1, .slice A2 n2 c2] 41)) (.int .i64 l) (.slice A3 n1 c3) (.slice A4 n2 c4))
  have hBl : (l == l) = true := by simp
  clear h1 h2 h3 h4 hl1 hl2 hW
  go_enter Tryd.func29, Tryd.ntmps29
  go_wp2_with fail
  refine (equal_same A1 A3 n1 c1 c3 xs B B _ hn1 HL1.out (H1.out.below (HW.out.mono hB)) (H3.out.below (HW.out.mono hB))).mono ?_
  rintro e w2 ⟨rfl, hb2⟩
  have HA2 := Lib.hid (HA.out.below hb2)
  have HB2 := Lib.hid (HB.out.below hb2)
  have HW2 := Lib.hid (HW.out.trans (hb2.mono (by simp; omega)))
  clear hb2
  obtain ⟨a0, a1, a2, _⟩ := HA2.out.cells
  obtain ⟨b0, b1, b2, _⟩ := HB2.out.cells
  simp only [World.size_alloc] at b0 b1 b2
  go_wp2_with fail
  refine (equal_same A2 A4 n2 c2 c4 ys B B _ hn2 HL2.out (H2.out.below (HW2.out.mono hB)) (H4.out.below (HW2.out.mono hB))).mono ?_
  rintro e w3 ⟨rfl, hb3⟩
  have HW3 := Lib.hid (HW2.out.trans (hb3.mono HW2.out.size))
  clear hb3
  go_wp2_with fail
  go_ret
  exact ⟨rfl, HW3.out⟩

theorem Reads.alloc2 {w : World} {B size n : Nat} {A : Option Addr} {xs : List Value} (h : Reads w B size A n xs) (hB : B ≤ w.heap.size) (o o' : Obj) : Reads ((w.alloc o).alloc o') B size A n xs :=
  h.below (((Below.refl B w).alloc hB o).alloc (by simp; omega) o')
theorem below_alloc2 {w wr : World} (h : Below w.heap.size w wr) (hz : w.heap.size ≤ wr.heap.size) (o o' : Obj) : Below w.heap.size w ((wr.alloc o).alloc o') := (h.alloc hz o).alloc (by simp; omega) o'

set_option maxHeartbeats 1000000 in
theorem equal_trans (A A' : Option Addr) (n c c' : Nat) (ts : List Tx.Tr) (w : World) (hn : n ≤ 4294967296) (hl : ts.length = n) (h16 : ∀ t ∈ ts, t.pre.length ≤ 16 ∧ t.post.length ≤ 16) (hr : TrsAt w w.heap.size A n ts) (hr' : TrsAt w w.heap.size A' n ts) :
    Calls Tryd.prog 28 #[.slice A n c, .slice A' n c', .func (.func 29) #[] #[]] w fun e w' => e = .returned (.bool true) ∧ Below w.heap.size w w' := by
  have HR := Lib.hid hr
  have HR' := Lib.hid hr'
  have HL := Lib.hid hl
  have H16 := Lib.hid h16
  clear hr hr' hl h16
  go_enter Tryd.func28, Tryd.ntmps28
  go_wp2_with fail
  go_loopw [17] (fun i wr => ∃ k : Nat, k ≤ n ∧ i = .int .i64 k ∧ Below w.heap.size w wr) (fun i _ => n - (intOf i).toNat)
  case atStart => exact ⟨0, Nat.zero_le _, rfl, Below.refl _ _⟩
  case round =>
    obtain ⟨k, hk, rfl, hbel⟩ := hrel
    have HBE := Lib.hid hbel
    have hz := hbel.size
    clear hbel
    by_cases hlt : k < n
    · obtain ⟨ad, rfl, hbk, hx⟩ := HR.out (by omega)
      obtain ⟨ad', rfl, hbk', hx'⟩ := HR'.out (by omega)
      obtain ⟨t, ht⟩ : ∃ t, ts[k]? = some t := ⟨_, List.getElem?_eq_getElem (by rw [HL.out]; exact hlt)⟩
      have htl := H16.out t (List.mem_of_getElem? ht)
      have hb1 : (ad.add (k * 3)).block < w.heap.size := by rw [block_of_add]; exact hbk
      have hb1' : (ad'.add (k * 3)).block < w.heap.size := by rw [block_of_add]; exact hbk'
      obtain ⟨v1, v2, e0, e1, e2, ⟨A1, c1, rfl, _, hm1, hr1⟩, ⟨A2, c2, rfl, _, hm2, hr2⟩⟩ := hx k t ht
      obtain ⟨v3, v4, e3, e4, e5, ⟨A3, c3, rfl, _, hm3, hr3⟩, ⟨A4, c4, rfl, _, hm4, hr4⟩⟩ := hx' k t ht
      have f0 := (HBE.out.cell (p := ad.add (k * 3)) hb1).trans e0
      have f1 := (HBE.out.cell (p := ⟨(ad.add (k * 3)).block, (ad.add (k * 3)).off + 1, none⟩) hb1).trans e1
      have f2 := (HBE.out.cell (p := ⟨(ad.add (k * 3)).block, (ad.add (k * 3)).off + 2, none⟩) hb1).trans e2
      have f3 := (HBE.out.cell (p := ad'.add (k * 3)) hb1').trans e3
      have f4 := (HBE.out.cell (p := ⟨(ad'.add (k * 3)).block, (ad'.add (k * 3)).off + 1, none⟩) hb1').trans e4
      have f5 := (HBE.out.cell (p := ⟨(ad'.add (k * 3)).block, (ad'.add (k * 3)).off + 2, none⟩) hb1').trans e5
      have HR1 := Lib.hid (hr1.below HBE.out)
      have HR2 := Lib.hid (hr2.below HBE.out)
      have HR3 := Lib.hid (hr3.below HBE.out)
      have HR4 := Lib.hid (hr4.below HBE.out)
      have hblt : (ad.add (k * 3)).block < wr.heap.size := by omega
      have hblt' : (ad'.add (k * 3)).block < wr.heap.size := by omega
      clear e0 e1 e2 e3 e4 e5 hr1 hr2 hr3 hr4 hx hx' ht hm1 hm2 hm3 hm4
      go_wp2_with fail
      refine (same_tran t.label A1 A2 A3 A4 _ _ c1 c2 c3 c4 t.pre t.post w.heap.size _ (by omega) (by omega) rfl rfl (by simp; omega) (HR1.out.alloc2 hz _ _) (HR2.out.alloc2 hz _ _) (HR3.out.alloc2 hz _ _) (HR4.out.alloc2 hz _ _)).mono ?_
      rintro e w3 ⟨rfl, hb3⟩
      have HB3 := Lib.hid ((below_alloc2 HBE.out hz _ _).trans (hb3.mono (by simp; omega)))
      clear hb3 f0 f1 f2 f3 f4 f5
      go_wp2_with fail
      go_roundw
      case rel => exact ⟨k + 1, by omega, by go_num, HB3.out⟩
      case measure => simp [intOf]; omega
    · go_wp2_with fail
      go_ret
      exact ⟨rfl, HBE.out⟩

theorem same_net (p : Int) (A A' : Option Addr) (n c c' : Nat) (ts : List Tx.Tr) (w : World) (hn : n ≤ 4294967296) (hl : ts.length = n) (h16 : ∀ t ∈ ts, t.pre.length ≤ 16 ∧ t.post.length ≤ 16) (hr : TrsAt w w.heap.size A n ts) (hr' : TrsAt w w.heap.size A' n ts) :
    Calls Tryd.prog 11 #[.agg #[.int .i64 p, .slice A n c], .agg #[.int .i64 p, .slice A' n c']] w fun e w' => e = .returned (.bool true) ∧ Below w.heap.size w w' := by
  have HR := Lib.hid hr
  have HR' := Lib.hid hr'
  have HL := Lib.hid hl
  have H16 := Lib.hid h16
  have hBl : (p == p) = true := by simp
  have HW := Lib.hid (below_alloc2 (Below.refl w.heap.size w) (Nat.le_refl _) (.cells #[.int .i64 p, .slice A n c] 25) (.cells #[.int .i64 p, .slice A' n c'] 25))
  clear hr hr' hl h16
  go_enter Tryd.func11, Tryd.ntmps11
  go_wp2_with fail
  refine (equal_trans A A' n c c' ts _ hn HL.out H16.out ((HR.out.below HW.out).more (by simp; omega)) ((HR'.out.below HW.out).more (by simp; omega))).mono ?_
  rintro e w3 ⟨rfl, hb3⟩
  have HB3 := Lib.hid (HW.out.trans (hb3.mono (by simp; omega)))
  clear hb3
  go_wp2_with fail
  go_ret
  exact ⟨rfl, HB3.out⟩
end Go.Proofs.YtednlgeidgnogaaDoor
