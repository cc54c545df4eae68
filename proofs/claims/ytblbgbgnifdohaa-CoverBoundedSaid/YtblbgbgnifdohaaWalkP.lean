/-
  The walk of cover.Limit.
-/
import Derived.Test.YtblbgbgnifdohaaWalkO
namespace Go.Proofs.Ytblbgbgnifdohaa
open Go.RowKit Go.Maps

def atP (pl : Nat) (k : Cv.Kn) : Int := k.mark[pl]?.getD 0
def maxP (pl : Nat) (ks : List Cv.Kn) : Int := ks.foldl (fun a k => max a (k.mark[pl]?.getD 0)) 0
theorem maxP_snoc {pl j : Nat} {ks : List Cv.Kn} {k : Cv.Kn} (h : ks[j]? = some k) : maxP pl (ks.take (j + 1)) = max (maxP pl (ks.take j)) (atP pl k) := by
  obtain ⟨hj, rfl⟩ := List.getElem?_eq_some_iff.1 h
  unfold maxP
  rw [List.take_succ_eq_append_getElem hj, List.foldl_append]
  rfl
theorem limitV_many {pl j : Nat} {ks : List Cv.Kn} {k : Cv.Kn} (h : ks[j]? = some k) (hk : atP pl k = -1) : Cv.limitV ks pl = -1 := by
  unfold Cv.limitV
  rw [if_pos]
  exact List.any_eq_true.2 ⟨k, List.mem_of_getElem? h, by simpa [atP] using hk⟩
theorem limitV_max {pl : Nat} {ks : List Cv.Kn} (h : ∀ (j : Nat) (k : Cv.Kn), ks[j]? = some k → atP pl k ≠ -1) : Cv.limitV ks pl = maxP pl ks := by
  unfold Cv.limitV
  rw [if_neg]
  · rfl
  · intro e
    obtain ⟨k, hk, he⟩ := List.any_eq_true.1 e
    obtain ⟨j, hj⟩ := List.mem_iff_getElem?.1 hk
    exact h j k hj (by simpa [atP] using he)

set_option maxRecDepth 100000 in
set_option maxHeartbeats 2000000 in
theorem limit_any (p : Int) (A : Option Addr) (n c : Nat) (ts : List Tx.Tr) (Am : Option Addr) (cm : Nat) (m : List Int) (pl most : Nat) (w : World) (hl : ts.length = n) (hr : TrsAt w w.heap.size A n ts)
    (hm : Reads w w.heap.size 1 Am m.length (m.map (Value.int .i64))) (hf : Cv.fitV ⟨p, ts⟩ m = true) (h1 : 1 ≤ most) (h3 : most ≤ 300) (hpl : (pl : Int) < p) (ks : List Cv.Kn) (ht : Cv.treeV ⟨p, ts⟩ m most = some ks) (hks : ks.length ≤ 300) (hlen : ∀ k ∈ ks, pl < k.mark.length) :
    Calls Try.prog 16 #[.agg #[.int .i64 p, .slice A n c], .slice Am m.length cm, .int .i64 pl, .int .i64 most] w fun e w' => e = .returned (.tuple #[.int .i64 (Cv.limitV ks pl), .int .i64 0]) ∧ Below w.heap.size w w' := by
  have HW := Lib.hid ((Below.refl w.heap.size w).alloc (Nat.le_refl _) (.cells #[.int .i64 p, .slice A n c] 24))
  have HT := Lib.hid (tree_any p A n c ts Am cm m most (w.alloc (.cells #[.int .i64 p, .slice A n c] 24)) hl ((hr.below HW.out).more (by simp)) ((hm.below HW.out).more (by simp)) hf h1 h3)
  rw [ht] at HT
  have hp16 : pl ≤ 16 := by obtain ⟨a, _, _, b, _⟩ := Cv.fit_parts hf; dsimp only at a; omega
  have HLEN := Lib.hid hlen
  clear hl hr hm hf ht hlen
  go_enter Try.func16, Try.ntmps16
  go_wp2_with fail
  refine HT.out.mono ?_
  rintro e W1 ⟨hb1, kv, vs, rfl, hown, hpos⟩
  have HOWN := Lib.hid hown
  have HB1 : Hid (Below w.heap.size w W1) := Lib.hid (HW.out.trans (hb1.mono (by simp)))
  have c0 : W1.cell? ⟨w.heap.size, 0, none⟩ = some (.int .i64 p) := (hb1.cell (p := ⟨w.heap.size, 0, none⟩) (by simp)).trans (by simp [go_sem])
  obtain ⟨g, cap, rfl, _, hg1⟩ := hown.form hpos
  clear hown hb1
  go_wp2_with fail
  go_loopw [12, 35] (fun o i W => ∃ j : Nat, j ≤ ks.length ∧ i = .int .i64 j ∧ o = .int .i64 (maxP pl (ks.take j)) ∧ (∀ (q : Nat) (k : Cv.Kn), q < j → ks[q]? = some k → atP pl k ≠ -1) ∧ Below W1.heap.size W1 W) (fun _ i _ => ks.length - (intOf i).toNat)
  case atStart => exact ⟨0, Nat.zero_le _, rfl, rfl, fun q k hq => absurd hq (by omega), Below.refl _ _⟩
  case round =>
    obtain ⟨j, hj, rfl, rfl, hno, hbe⟩ := hrel
    have HNO := Lib.hid hno
    have HBE := Lib.hid hbe
    clear hno hbe
    by_cases hlt : j < ks.length
    · obtain ⟨k, hk⟩ : ∃ k, ks[j]? = some k := ⟨_, List.getElem?_eq_getElem hlt⟩
      obtain ⟨v, hv⟩ : ∃ v, vs[j]? = some v := ⟨_, List.getElem?_eq_getElem (by rw [HOWN.out.len]; exact hlt)⟩
      have hown := HOWN.out.below HBE.out
      obtain ⟨e0, e1, e2, Ak, ck, rfl, _, _, hrk⟩ := hown.knot hk hv
      have hpk := HLEN.out k (List.mem_of_getElem? hk)
      obtain ⟨ad, rfl, hadb, hcell⟩ := hrk.int_at hpk
      have HK := Lib.hid hk
      have HMS := Lib.hid (maxP_snoc (pl := pl) hk)
      obtain ⟨x, hx⟩ : ∃ x, k.mark[pl]?.getD 0 = x := ⟨_, rfl⟩
      have HX : Hid (atP pl k = x) := Lib.hid hx
      rw [hx] at hcell
      have hg2 : g < wr.heap.size := Nat.lt_of_lt_of_le hg1 HBE.out.size
      have had2 : (ad.add pl).block < wr.heap.size := by rw [block_of_add]; exact hadb
      clear hown hk hv hrk hx
      have HBE2 := Lib.hid (HBE.out.alloc HBE.out.size (.cells #[.int .i64 k.up, .int .i64 k.tran, .slice (some ad) k.mark.length ck] 33))
      by_cases hxm : x = -1
      · subst hxm
        have HLV := Lib.hid (limitV_many HK.out HX.out)
        go_wp2_with fail
        go_ret2
        exact ⟨by rw [HLV.out]; rfl, HB1.out.trans (HBE2.out.mono HB1.out.size)⟩
      · have hxb : (x == -1) = false := by simpa using hxm
        go_wp2_with fail
        go_roundw
        case rel => exact ⟨j + 1, by omega, by go_num, by rw [HMS.out, HX.out], fun q k' hq hk' => by
          by_cases h : q < j
          · exact HNO.out q k' h hk'
          · obtain rfl : q = j := by omega
            have := HK.out
            rw [hk'] at this
            obtain rfl := Option.some.inj this
            rw [HX.out]; exact hxm, HBE2.out⟩
        case measure => simp [intOf]; omega
    · obtain rfl : j = ks.length := by omega
      have HLV := Lib.hid (limitV_max (pl := pl) (ks := ks) (fun q k hq => HNO.out q k (List.getElem?_eq_some_iff.1 hq).1 hq))
      go_wp2_with fail
      go_ret2
      exact ⟨by rw [HLV.out]; exact congrArg (fun x => Ending.returned (.tuple #[.int .i64 (maxP pl x), .int .i64 0])) (List.take_length (l := ks)), HB1.out.trans (HBE.out.mono HB1.out.size)⟩
end Go.Proofs.Ytblbgbgnifdohaa
