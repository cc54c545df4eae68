/-
  The walk of the closed fact, alive15.
-/
import Derived.Test.YtednlgeidgnogaaDoorWalkJ
import Derived.Test.YtednlgeidgnogaaDoorWalkK
import Derived.Test.YtednlgeidgnogaaDoorAlive
namespace Go.Proofs.YtednlgeidgnogaaDoor
open Go.RowKit

theorem parseR_yes {w w' : World} {r : Tx.Res} {e : Ending} {n : Tx.Nt} {j : Nat} (h : parseR w r e w') (hr : r = ⟨n, j, true⟩) :
    Below w.heap.size w w' ∧ ∃ A c, e = .returned (.tuple #[.agg #[.int .i64 n.places, .slice A n.trans.length c], .int .i64 0, .int .i64 0]) ∧ TrsAt w' w'.heap.size A n.trans.length n.trans := by
  subst hr
  obtain ⟨hb, hh⟩ := h
  rw [if_pos rfl] at hh
  exact ⟨hb, hh⟩
theorem parseR_no {w w' : World} {r : Tx.Res} {e : Ending} {n : Tx.Nt} {j : Nat} (h : parseR w r e w') (hr : r = ⟨n, j, false⟩) :
    Below w.heap.size w w' ∧ e = .returned (.tuple #[.agg #[.int .i64 0, .slice none 0 0], .int .i64 j, .int .i64 1]) := by
  subst hr
  obtain ⟨hb, hh⟩ := h
  rw [if_neg (by simp)] at hh
  exact ⟨hb, hh⟩

set_option maxRecDepth 100000 in
set_option maxHeartbeats 1000000 in
theorem alive_any (w : World) (hg : Glob w) : Calls Tryd.prog 6 #[] w fun e w' => e = .returned (.bool true) ∧ Below w.heap.size w w' := by
  have HG := Lib.hid hg
  clear hg
  go_enter Tryd.func6, Tryd.ntmps6
  go_wp2_with fail
  refine (parse_any Tx.text1 _ (by decide) HG.out).mono ?_
  rintro e w1 hr1
  obtain ⟨hb1, A, c, rfl, hat⟩ : Below w.heap.size w w1 ∧ ∃ A c, e = .returned (.tuple #[.agg #[.int .i64 3, .slice A 2 c], .int .i64 0, .int .i64 0]) ∧ TrsAt w1 w1.heap.size A 2 Tx.net1.trans := parseR_yes hr1 Tx.parse1
  have HB1 := Lib.hid hb1
  have HAT := Lib.hid hat
  have HG1 := Lib.hid (HG.out.below hb1)
  clear hr1 hb1 hat
  have HX := Lib.hid (Blk2.new w1 (.int .i64 3) (.slice A 2 c))
  have HAL := Lib.hid ((Below.refl w1.heap.size w1).alloc (Nat.le_refl _) (.cells #[.int .i64 3, .slice A 2 c] 25))
  go_wp2_with fail
  refine (print_good 3 A 2 c Tx.net1.trans _ rfl ((HAT.out.below HAL.out).more (by simp)) Tx.right1).mono ?_
  rintro e w2 ⟨rfl, hb2⟩
  have HB2 := Lib.hid (HAL.out.trans (hb2.mono (by simp)))
  have HX2 := Lib.hid (HX.out.below hb2)
  have HG2 := Lib.hid (HG1.out.below HB2.out)
  have hpr : (⟨(Tx.printS ⟨3, Tx.net1.trans⟩).toArray⟩ : ByteArray) = ⟨#[110, 101, 116, 32, 51, 10, 98, 32, 58, 32, 48, 32, 50, 42, 50, 32, 62, 32, 49, 10, 45, 32, 58, 32, 62, 32, 48, 10]⟩ := congrArg (fun l : List UInt8 => (⟨l.toArray⟩ : ByteArray)) Tx.print1
  rw [hpr]
  clear hb2 hpr
  go_wp2_with fail
  refine (parse_any Tx.text2 _ (by decide) HG2.out).mono ?_
  rintro e w3 hr3
  obtain ⟨hb3, rfl⟩ := parseR_no hr3 Tx.parse2
  have HX3 := Lib.hid (HX2.out.below hb3)
  have HB3 := Lib.hid (HB2.out.trans (hb3.mono HB2.out.size))
  clear hr3 hb3
  obtain ⟨ad, rfl, hbk, hx⟩ := HAT.out (by decide)
  obtain ⟨v1, v2, e0, _⟩ := hx 0 _ rfl
  obtain ⟨c0, c1, _⟩ := HX3.out.cells
  have hbw : (ad.add (0 * 3)).block < w1.heap.size := by rw [block_of_add]; exact hbk
  have e3 := (HB3.out.cell (p := ad.add (0 * 3)) hbw).trans e0
  have e4 : w3.cell? ad = some (.int .i64 2) := e3
  have hz3 : w1.heap.size < w3.heap.size := HX3.out.lt
  have hadb : ad.block < w3.heap.size := by omega
  have HFIN := Lib.hid (HB1.out.trans (HB3.out.mono HB1.out.size))
  clear e0 hx
  go_wp2_with fail
  go_ret
  exact ⟨rfl, HFIN.out.alloc (by have := HB1.out.size; omega) _⟩
end Go.Proofs.YtednlgeidgnogaaDoor
