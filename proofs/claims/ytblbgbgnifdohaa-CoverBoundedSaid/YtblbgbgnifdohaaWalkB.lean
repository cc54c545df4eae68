/-
  The walk of net.Wrong.
-/
import Derived.Test.YtblbgbgnifdohaaWalkA
namespace Go.Proofs.Ytblbgbgnifdohaa
open Go.RowKit

def wrongE (b : Bool) : Int := if b then 2 else 0

theorem Reads.alloc_ {w : World} {B size n : Nat} {A : Option Addr} {xs : List Value} (h : Reads w B size A n xs) (hB : B < w.heap.size) (o : Obj) : Reads (w.alloc o) B size A n xs := h.keep fun p hp => World.cell?_alloc_lt w o p (by omega)
theorem ret_wrong {b : Bool} (h : b = true) : Ending.returned (.int .i64 2) = .returned (.int .i64 (wrongE b)) := by rw [h]; rfl
theorem ntWrong_at {p : Int} {ts : List Tx.Tr} {k : Nat} {t : Tx.Tr} (h : ts[k]? = some t) (hb : Tx.trWrong p t = true) : Tx.ntWrong ⟨p, ts⟩ = true := by
  have : ts.any (Tx.trWrong p) = true := List.any_eq_true.2 ⟨t, List.mem_of_getElem? h, hb⟩
  simp [Tx.ntWrong, this]
theorem ntWrong_none {p : Int} {ts : List Tx.Tr} (h0 : 0 ≤ p) (h1 : p ≤ 16) (h2 : ts.length ≤ 24) (h : ts.any (Tx.trWrong p) = false) : Tx.ntWrong ⟨p, ts⟩ = false := by
  simp only [Tx.ntWrong, h, Bool.or_false, Bool.or_eq_false_iff, decide_eq_false_iff_not]
  omega
theorem take_any {p : Int} {ts : List Tx.Tr} {k : Nat} {t : Tx.Tr} (h : ts[k]? = some t) : (ts.take (k + 1)).any (Tx.trWrong p) = ((ts.take k).any (Tx.trWrong p) || Tx.trWrong p t) := by
  obtain ⟨hk, rfl⟩ := List.getElem?_eq_some_iff.1 h
  rw [List.take_succ_eq_append_getElem hk, List.any_append]
  simp
theorem good_tr {p : Int} {t : Tx.Tr} (h0 : 0 ≤ t.label) (h1 : t.label ≤ 26) (h3 : (t.pre.length : Int) = p) (h4 : (t.post.length : Int) = p) (h5 : t.pre.any Tx.badW = false) (h6 : t.post.any Tx.badW = false) : Tx.trWrong p t = false := by
  simp only [Tx.trWrong, h5, h6, h3, h4, Bool.or_false, bne_self_eq_false, Bool.or_eq_false_iff, decide_eq_false_iff_not]
  omega
set_option maxHeartbeats 2000000 in
theorem wrong_any (p : Int) (A : Option Addr) (n c : Nat) (ts : List Tx.Tr) (w : World) (hn : n ≤ 9223372036854775807) (hl : ts.length = n)
    (hr : 0 < n → ∃ ad, A = some ad ∧ ad.block < w.heap.size ∧ ∀ k t, ts[k]? = some t → TranCells w w.heap.size (ad.add (k * 3)) t) :
    Calls Try.prog 32 #[.agg #[.int .i64 p, .slice A n c]] w fun e w' => e = .returned (.int .i64 (wrongE (Tx.ntWrong ⟨p, ts⟩))) ∧ Below w.heap.size w w' := by
  have HR := Lib.hid hr
  have HL := Lib.hid hl
  clear hr hl
  by_cases h1 : p < 0
  · go_enter Try.func32, Try.ntmps32
    go_wp2_with fail
    go_ret
    exact ⟨ret_wrong (by simp [Tx.ntWrong, h1]), (Below.refl _ w).alloc (Nat.le_refl _) _⟩
  by_cases h2 : 16 < p
  · go_enter Try.func32, Try.ntmps32
    go_wp2_with fail
    go_ret
    exact ⟨ret_wrong (by simp [Tx.ntWrong, h2]), (Below.refl _ w).alloc (Nat.le_refl _) _⟩
  by_cases h3 : 24 < n
  · go_enter Try.func32, Try.ntmps32
    go_wp2_with fail
    go_ret
    exact ⟨ret_wrong (by simp [Tx.ntWrong, HL.out, h3]), (Below.refl _ w).alloc (Nat.le_refl _) _⟩
  go_enter Try.func32, Try.ntmps32
  go_wp2_with fail
  go_loopw [23] (fun i wr => ∃ k : Nat, k ≤ n ∧ i = .int .i64 k ∧ (ts.take k).any (Tx.trWrong p) = false ∧ wr.cell? ⟨w.heap.size, 0, none⟩ = some (.int .i64 p) ∧ wr.cell? ⟨w.heap.size, 1, none⟩ = some (.slice A n c) ∧ w.heap.size < wr.heap.size ∧ Below w.heap.size w wr) (fun i _ => n - (intOf i).toNat)
  case atStart => exact ⟨0, Nat.zero_le _, rfl, by simp, by simp [go_sem], by simp [go_sem], by simp, (Below.refl _ w).alloc (Nat.le_refl _) _⟩
  case round =>
    obtain ⟨k, hk, rfl, hno, hc0, hc1, hsz, hbel⟩ := hrel
    have HN := Lib.hid hno
    have HBE := Lib.hid hbel
    clear hno hbel
    by_cases hlt : k < n
    · obtain ⟨ad, rfl, hbk, hcells⟩ := HR.out (by omega)
      have hkl : k < ts.length := by rw [HL.out]; exact hlt
      obtain ⟨t, ht⟩ : ∃ t, ts[k]? = some t := ⟨_, List.getElem?_eq_getElem hkl⟩
      have hbel := HBE.out
      have hb1 : (ad.add (k * 3)).block < w.heap.size := by rw [block_of_add]; exact hbk
      obtain ⟨v1, v2, e0, e1, e2, ⟨A1, c1, rfl, hc1', hm1, hr1⟩, ⟨A2, c2, rfl, hc2', hm2, hr2⟩⟩ := hcells k _ ht
      have f0 := (hbel.cell (p := ad.add (k * 3)) hb1).trans e0
      have f1 := (hbel.cell (p := ⟨(ad.add (k * 3)).block, (ad.add (k * 3)).off + 1, none⟩) hb1).trans e1
      have f2 := (hbel.cell (p := ⟨(ad.add (k * 3)).block, (ad.add (k * 3)).off + 2, none⟩) hb1).trans e2
      have HT := Lib.hid ht
      have HR1 := Lib.hid (hr1.below hbel)
      have HR2 := Lib.hid (hr2.below hbel)
      clear e0 e1 e2 hcells hb1 hbel hr1 hr2 ht
      have HBAD := Lib.hid (fun h => ntWrong_at (p := p) HT.out h)
      obtain ⟨b1, hb1⟩ : ∃ b, t.pre.any Tx.badW = b := ⟨_, rfl⟩
      obtain ⟨b2, hb2⟩ : ∃ b, t.post.any Tx.badW = b := ⟨_, rfl⟩
      have HB1 := Lib.hid hb1
      have HB2 := Lib.hid hb2
      clear hb1 hb2
      by_cases g1 : t.label < 0
      · go_wp2_with (first
          | (go_at_call_of 39 A1; refine (contains_bad A1 _ c1 t.pre w.heap.size _ (by omega) rfl (Reads.alloc_ HR1.out hsz _)).mono ?_; rintro e w' ⟨rfl, rfl⟩; rw [HB1.out])
          | (go_at_call_of 39 A2; refine (contains_bad A2 _ c2 t.post w.heap.size _ (by omega) rfl (Reads.alloc_ HR2.out hsz _)).mono ?_; rintro e w' ⟨rfl, rfl⟩; rw [HB2.out]))
        go_ret
        exact ⟨ret_wrong (HBAD.out (by simp [Tx.trWrong, g1])), HBE.out.alloc (Nat.le_of_lt hsz) _⟩
      by_cases g2 : 26 < t.label
      · go_wp2_with (first
          | (go_at_call_of 39 A1; refine (contains_bad A1 _ c1 t.pre w.heap.size _ (by omega) rfl (Reads.alloc_ HR1.out hsz _)).mono ?_; rintro e w' ⟨rfl, rfl⟩; rw [HB1.out])
          | (go_at_call_of 39 A2; refine (contains_bad A2 _ c2 t.post w.heap.size _ (by omega) rfl (Reads.alloc_ HR2.out hsz _)).mono ?_; rintro e w' ⟨rfl, rfl⟩; rw [HB2.out]))
        go_ret
        exact ⟨ret_wrong (HBAD.out (by simp [Tx.trWrong, g2])), HBE.out.alloc (Nat.le_of_lt hsz) _⟩
      by_cases g3n : ¬ (t.pre.length : Int) = p
      · go_wp2_with (first
          | (go_at_call_of 39 A1; refine (contains_bad A1 _ c1 t.pre w.heap.size _ (by omega) rfl (Reads.alloc_ HR1.out hsz _)).mono ?_; rintro e w' ⟨rfl, rfl⟩; rw [HB1.out])
          | (go_at_call_of 39 A2; refine (contains_bad A2 _ c2 t.post w.heap.size _ (by omega) rfl (Reads.alloc_ HR2.out hsz _)).mono ?_; rintro e w' ⟨rfl, rfl⟩; rw [HB2.out]))
        go_ret
        exact ⟨ret_wrong (HBAD.out (by simp [Tx.trWrong]; omega)), HBE.out.alloc (Nat.le_of_lt hsz) _⟩
      have g3 := Decidable.not_not.1 g3n
      clear g3n
      by_cases g4n : ¬ (t.post.length : Int) = p
      · go_wp2_with (first
          | (go_at_call_of 39 A1; refine (contains_bad A1 _ c1 t.pre w.heap.size _ (by omega) rfl (Reads.alloc_ HR1.out hsz _)).mono ?_; rintro e w' ⟨rfl, rfl⟩; rw [HB1.out])
          | (go_at_call_of 39 A2; refine (contains_bad A2 _ c2 t.post w.heap.size _ (by omega) rfl (Reads.alloc_ HR2.out hsz _)).mono ?_; rintro e w' ⟨rfl, rfl⟩; rw [HB2.out]))
        go_ret
        exact ⟨ret_wrong (HBAD.out (by simp [Tx.trWrong]; omega)), HBE.out.alloc (Nat.le_of_lt hsz) _⟩
      have g4 := Decidable.not_not.1 g4n
      clear g4n
      cases b1 with
      | true =>
        go_wp2_with (first
          | (go_at_call_of 39 A1; refine (contains_bad A1 _ c1 t.pre w.heap.size _ (by omega) rfl (Reads.alloc_ HR1.out hsz _)).mono ?_; rintro e w' ⟨rfl, rfl⟩; rw [HB1.out])
          | (go_at_call_of 39 A2; refine (contains_bad A2 _ c2 t.post w.heap.size _ (by omega) rfl (Reads.alloc_ HR2.out hsz _)).mono ?_; rintro e w' ⟨rfl, rfl⟩; rw [HB2.out]))
        go_ret
        exact ⟨ret_wrong (HBAD.out (by simp only [Tx.trWrong, HB1.out]; simp)), HBE.out.alloc (Nat.le_of_lt hsz) _⟩
      | false =>
        cases b2 with
        | true =>
          go_wp2_with (first
            | (go_at_call_of 39 A1; refine (contains_bad A1 _ c1 t.pre w.heap.size _ (by omega) rfl (Reads.alloc_ HR1.out hsz _)).mono ?_; rintro e w' ⟨rfl, rfl⟩; rw [HB1.out])
            | (go_at_call_of 39 A2; refine (contains_bad A2 _ c2 t.post w.heap.size _ (by omega) rfl (Reads.alloc_ HR2.out hsz _)).mono ?_; rintro e w' ⟨rfl, rfl⟩; rw [HB2.out]))
          go_ret
          exact ⟨ret_wrong (HBAD.out (by simp only [Tx.trWrong, HB2.out]; simp)), HBE.out.alloc (Nat.le_of_lt hsz) _⟩
        | false =>
          go_wp2_with (first
            | (go_at_call_of 39 A1; refine (contains_bad A1 _ c1 t.pre w.heap.size _ (by omega) rfl (Reads.alloc_ HR1.out hsz _)).mono ?_; rintro e w' ⟨rfl, rfl⟩; rw [HB1.out])
            | (go_at_call_of 39 A2; refine (contains_bad A2 _ c2 t.post w.heap.size _ (by omega) rfl (Reads.alloc_ HR2.out hsz _)).mono ?_; rintro e w' ⟨rfl, rfl⟩; rw [HB2.out]))
          go_roundw
          case rel => exact ⟨k + 1, by omega, by go_num, by rw [take_any HT.out, HN.out, good_tr (by omega) (by omega) g3 g4 HB1.out HB2.out]; rfl, (World.cell?_alloc_lt wr _ ⟨w.heap.size, 0, none⟩ hsz).trans hc0, (World.cell?_alloc_lt wr _ ⟨w.heap.size, 1, none⟩ hsz).trans hc1, by simp; omega, HBE.out.alloc (Nat.le_of_lt hsz) _⟩
          case measure => simp [intOf]; omega
    · go_wp2_with fail
      go_ret
      exact ⟨by rw [ntWrong_none (by omega) (by omega) (by rw [HL.out]; omega) (by have h := HN.out; rwa [List.take_of_length_le (by rw [HL.out]; omega)] at h)]; rfl, HBE.out⟩
end Go.Proofs.Ytblbgbgnifdohaa
