/-
  The walks of the three laws of the text chapter.
-/
import Derived.Test.YtednlgeidgnogaaDoorWalkL
namespace Go.Proofs.YtednlgeidgnogaaDoor
open Go.RowKit

theorem count_any (s : List UInt8) (w : World) (hs : s.length < 4294967281) (hg : Glob w) :
    Calls Tryd.prog 8 #[.string ⟨s.toArray⟩, .string ⟨#[10]⟩] w fun e w' => e = .returned (.int .i64 (s.count 10 : Nat)) ∧ w = w' := by
  obtain ⟨m, hm⟩ := hg.maxLen
  refine (Tryd.strings_Count_any ⟨s.toArray⟩ ⟨#[10]⟩ m w (by simpa [ByteArray.size] using hs) hm (by decide)).mono ?_
  rintro e w' ⟨rfl, rfl⟩
  rw [count_ba, Lib.count_one]
  exact ⟨rfl, rfl⟩

theorem below_alloc1 {w wr : World} (h : Below w.heap.size w wr) (o : Obj) : Below w.heap.size w (wr.alloc o) := h.alloc h.size o

theorem only_walk (s : List UInt8) (w : World) (hs : s.length ≤ 1048576) (hg : Glob w) :
    Calls Tryd.prog 3 #[.string ⟨s.toArray⟩] w fun e w' => e = .returned (.bool true) ∧ Below w.heap.size w w' := by
  have HG := Lib.hid hg
  clear hg
  obtain ⟨⟨p, ts⟩, j, ok, hps⟩ : ∃ n j ok, Tx.parseS s = ⟨n, j, ok⟩ := ⟨_, _, _, rfl⟩
  go_enter Tryd.func3, Tryd.ntmps3
  go_wp2_with fail
  refine (alive_any _ HG.out).mono ?_
  rintro e w1 ⟨rfl, hb1⟩
  have HB1 := Lib.hid hb1
  have HG1 := Lib.hid (HG.out.below hb1)
  clear hb1
  go_wp2_with fail
  refine (parse_any s _ (by omega) HG1.out).mono ?_
  rintro e w2 hr
  cases ok with
  | true =>
    obtain ⟨hwr, hpr⟩ := Tx.only_ok hps
    obtain ⟨hb2, A, c, rfl, hat⟩ : Below w1.heap.size w1 w2 ∧ ∃ A c, e = .returned (.tuple #[.agg #[.int .i64 p, .slice A ts.length c], .int .i64 0, .int .i64 0]) ∧ TrsAt w2 w2.heap.size A ts.length ts := parseR_yes hr hps
    have HB2 := Lib.hid (HB1.out.trans (hb2.mono HB1.out.size))
    have HAT := Lib.hid hat
    have HWR := Lib.hid hwr
    have HPR := Lib.hid hpr
    have HPS := Lib.hid hps
    clear hr hb2 hat hwr hpr hps
    go_wp2_with fail
    refine (print_good p A ts.length c ts _ rfl ((HAT.out.below ((Below.refl _ w2).alloc (Nat.le_refl _) _)).more (by simp)) HWR.out).mono ?_
    rintro e w3 ⟨rfl, hb3⟩
    have HB3 := Lib.hid ((below_alloc1 HB2.out _).trans (hb3.mono (below_alloc1 HB2.out _).size))
    rw [HPR.out]
    clear hb3
    go_wp2_with fail
    go_ret
    exact ⟨rfl, HB3.out⟩
  | false =>
    obtain ⟨_, hj⟩ := Tx.only_err hps
    obtain ⟨hb2, rfl⟩ := parseR_no hr hps
    have HB2 := Lib.hid (HB1.out.trans (hb2.mono HB1.out.size))
    have HG2 := Lib.hid (HG1.out.below hb2)
    have HPS := Lib.hid hps
    have hj0 : (j : Int) ≤ (s.count 10 : Nat) := by omega
    clear hr hb2 hps
    go_wp2_with fail
    refine (count_any s _ (by omega) (HG2.out.below ((Below.refl _ w2).alloc (Nat.le_refl _) _))).mono ?_
    rintro e w3 ⟨rfl, rfl⟩
    go_wp2_with fail
    go_ret
    exact ⟨rfl, below_alloc1 HB2.out _⟩

theorem parse_empty : Tx.parseS [] = ⟨⟨0, []⟩, 0, false⟩ := by
  unfold Tx.parseS
  rw [Tx.linesS_miss [] (by simp), Tx.parseGo, if_neg (by simp), if_pos (.inl (by decide))]
  rfl
theorem print_len {p : Int} {ts : List Tx.Tr} (h : Tx.ntWrong ⟨p, ts⟩ = false) : (Tx.printS ⟨p, ts⟩).length ≤ 100000 := by
  simp only [Tx.ntWrong, Bool.or_eq_false_iff, decide_eq_false_iff_not] at h
  obtain ⟨⟨⟨hp0, hp1⟩, hn24⟩, hany⟩ := h
  obtain ⟨q, rfl⟩ := Int.eq_ofNat_of_zero_le (by omega : 0 ≤ p)
  have hok : ∀ t ∈ ts, Tx.TrOk q t := fun t ht => Tx.trOk_of (by simpa using List.any_eq_false.1 hany t ht)
  have hd := dec_len q (by omega)
  have hflat : ∀ l : List Tx.Tr, (∀ t ∈ l, Tx.TrOk q t) → ((l.map fun t => Tx.lineS t ++ [10]).flatten).length ≤ 301 * l.length := by
    intro l
    induction l with
    | nil => intro _; simp
    | cons t l ih =>
      intro h
      have h1 := ih (fun t ht => h t (by simp [ht]))
      have h2 := lineS_len (q := q) (by omega) (h t (by simp))
      simp only [List.map_cons, List.flatten_cons, List.length_append, List.length_cons, List.length_nil]
      omega
  have := hflat ts hok
  simp only [Tx.printS, Tx.netB, itoa_nat, List.length_append, List.length_cons, List.length_nil]
  omega

set_option maxHeartbeats 1000000 in
theorem back_walk (p : Int) (A : Option Addr) (n c : Nat) (ts : List Tx.Tr) (w : World) (hn : n ≤ 9223372036854775807) (hl : ts.length = n) (hr : TrsAt w w.heap.size A n ts) (hg : Glob w) :
    Calls Tryd.prog 4 #[.agg #[.int .i64 p, .slice A n c]] w fun e w' => e = .returned (.bool true) ∧ Below w.heap.size w w' := by
  subst hl
  have HG := Lib.hid hg
  have HR := Lib.hid hr
  have HX := Lib.hid (Blk2.new w (.int .i64 p) (.slice A ts.length c))
  have HAL := Lib.hid ((Below.refl w.heap.size w).alloc (Nat.le_refl _) (.cells #[.int .i64 p, .slice A ts.length c] 25))
  clear hg hr
  go_enter Tryd.func4, Tryd.ntmps4
  go_wp2_with fail
  refine (alive_any _ (HG.out.below HAL.out)).mono ?_
  rintro e w1 ⟨rfl, hb1⟩
  have HX1 := Lib.hid (HX.out.below hb1)
  have HB1 := Lib.hid (HAL.out.trans (hb1.mono (by simp)))
  have HG1 := Lib.hid (HG.out.below HB1.out)
  clear hb1
  obtain ⟨c0, c1, _, _⟩ := HX1.out.cells
  go_wp2_with fail
  cases hw : Tx.ntWrong ⟨p, ts⟩ with
  | true =>
    have HW := Lib.hid hw
    clear hw
    refine (print_bad p A _ c ts _ hn rfl ((HR.out.below HB1.out).more HB1.out.size) HW.out).mono ?_
    rintro e w2 ⟨rfl, hb2⟩
    have HX2 := Lib.hid (HX1.out.below hb2)
    have HB2 := Lib.hid (HB1.out.trans (hb2.mono HB1.out.size))
    have HG2 := Lib.hid (HG1.out.below hb2)
    clear hb2 c0 c1
    go_wp2_with fail
    refine (parse_any [] _ (by decide) HG2.out).mono ?_
    rintro e w3 hr3
    obtain ⟨hb3, rfl⟩ := parseR_no hr3 parse_empty
    have HX3 := Lib.hid (HX2.out.below hb3)
    have HB3 := Lib.hid (HB2.out.trans (hb3.mono HB2.out.size))
    clear hr3 hb3
    obtain ⟨c0, c1, _, _⟩ := HX3.out.cells
    have hz3 : w.heap.size < w3.heap.size := HX3.out.lt
    have HE := Lib.hid (show wrongE (Tx.ntWrong ⟨p, ts⟩) = 2 by rw [HW.out]; rfl)
    go_wp2_with fail
    refine (wrong_any p A _ c ts _ hn rfl ((HR.out.below (below_alloc1 HB3.out _)).more (below_alloc1 HB3.out _).size)).mono ?_
    rintro e w4 ⟨rfl, hb4⟩
    have HB4 := Lib.hid ((below_alloc1 HB3.out _).trans (hb4.mono (below_alloc1 HB3.out _).size))
    rw [HE.out]
    clear hb4
    go_wp2_with fail
    go_ret
    exact ⟨rfl, HB4.out⟩
  | false =>
    have HW := Lib.hid hw
    have HP := Lib.hid (Tx.back_ok hw)
    have HLN := Lib.hid (print_len hw)
    have h24 : ts.length ≤ 24 := by
      have h := hw
      simp only [Tx.ntWrong, Bool.or_eq_false_iff, decide_eq_false_iff_not] at h
      have := h.1.2
      omega
    have H16 := Lib.hid (show ∀ t ∈ ts, t.pre.length ≤ 16 ∧ t.post.length ≤ 16 from fun t ht => by
      have h := hw
      simp only [Tx.ntWrong, Bool.or_eq_false_iff, decide_eq_false_iff_not] at h
      obtain ⟨⟨⟨hp0, hp1⟩, _⟩, hany⟩ := h
      obtain ⟨q, rfl⟩ := Int.eq_ofNat_of_zero_le (by omega : 0 ≤ p)
      have hok : Tx.TrOk q t := Tx.trOk_of (by simpa using List.any_eq_false.1 hany t ht)
      rw [hok.pre, hok.post]
      omega)
    clear hw
    refine (print_good p A _ c ts _ rfl ((HR.out.below HB1.out).more HB1.out.size) HW.out).mono ?_
    rintro e w2 ⟨rfl, hb2⟩
    have HX2 := Lib.hid (HX1.out.below hb2)
    have HB2 := Lib.hid (HB1.out.trans (hb2.mono HB1.out.size))
    have HG2 := Lib.hid (HG1.out.below hb2)
    clear hb2 c0 c1
    go_wp2_with fail
    refine (parse_any (Tx.printS ⟨p, ts⟩) _ (by have := HLN.out; omega) HG2.out).mono ?_
    rintro e w3 hr3
    obtain ⟨hb3, A3, c3, rfl, hat⟩ : Below w2.heap.size w2 w3 ∧ ∃ A c, e = .returned (.tuple #[.agg #[.int .i64 p, .slice A ts.length c], .int .i64 0, .int .i64 0]) ∧ TrsAt w3 w3.heap.size A ts.length ts := parseR_yes hr3 HP.out
    have HX3 := Lib.hid (HX2.out.below hb3)
    have HB3 := Lib.hid (HB2.out.trans (hb3.mono HB2.out.size))
    have HAT := Lib.hid hat
    clear hr3 hb3 hat
    obtain ⟨c0, c1, _, _⟩ := HX3.out.cells
    have hz3 : w.heap.size < w3.heap.size := HX3.out.lt
    have HAL3 := Lib.hid ((Below.refl w3.heap.size w3).alloc (Nat.le_refl _) (.cells #[.int .i64 p, .slice A3 ts.length c3] 25))
    have HR3 := Lib.hid ((HR.out.below (HB3.out.trans (HAL3.out.mono HB3.out.size))).more (B' := w3.heap.size + 1) (by omega))
    have HL3 := Lib.hid (HAT.out.below HAL3.out)
    go_wp2_with fail
    refine (same_net p A3 A ts.length c3 c ts _ (by omega) rfl H16.out (HL3.out.more (by simp)) (HR3.out.more (by simp))).mono ?_
    rintro e w4 ⟨rfl, hb4⟩
    have HB4 := Lib.hid ((below_alloc1 HB3.out _).trans (hb4.mono (below_alloc1 HB3.out _).size))
    clear hb4
    go_wp2_with fail
    go_ret
    exact ⟨rfl, HB4.out⟩

theorem join_flat : ∀ xs : List (List UInt8), Lib.join xs [] = xs.flatten
  | [] => rfl
  | [x] => by simp [Lib.join, List.intercalate]
  | x :: y :: r => by
    have ih := join_flat (y :: r)
    simp only [Lib.join, List.intercalate, List.intersperse_cons_cons, List.flatten_cons, List.nil_append] at ih ⊢
    rw [ih]
theorem join_any {A k c : Nat} {xs : List (List UInt8)} (w : World) (hl : xs.length = k) (hc : k ≤ c) (hst : Strs w A xs) (hlen : xs.flatten.length ≤ 140737488355328) (hk : k ≤ 140737488355328) :
    Calls Tryd.prog 13 #[.slice (some ⟨A, 0, none⟩) k c, .string ⟨#[]⟩] w fun e w' => e = .returned (.string ⟨xs.flatten.toArray⟩) ∧ Below w.heap.size w w' := by
  subst hl
  have hm : (xs.map fun x => (⟨x.toArray⟩ : ByteArray)).map (·.data.toList) = xs := by
    rw [List.map_map]
    conv => rhs; rw [← List.map_id xs]
    apply List.map_congr_left
    intro x _
    simp
  have h := Tryd.strings_Join A 0 c (xs.map fun x => (⟨x.toArray⟩ : ByteArray)) ⟨#[]⟩ w (fun j x hx => by
    rw [List.getElem?_map] at hx
    cases hj : xs[j]? with
    | none => rw [hj] at hx; cases hx
    | some y =>
      rw [hj] at hx
      simp only [Option.map_some, Option.some.injEq] at hx
      rw [← hx, Nat.zero_add]
      exact hst.2 j y hj) hst.1 (by simpa using hk) (by simpa using hc) (by rw [hm]; show (Lib.join xs []).length ≤ _; rw [join_flat]; exact hlen)
  rw [hm, List.length_map] at h
  refine h.mono ?_
  rintro e w' ⟨rfl, hb⟩
  refine ⟨?_, hb⟩
  show Ending.returned (.string ⟨(Lib.join xs []).toArray⟩) = _
  rw [join_flat]

set_option maxHeartbeats 1000000 in
theorem line_walk (s : List UInt8) (w : World) (hs : s.length ≤ 1048576) (hg : Glob w) :
    Calls Tryd.prog 5 #[.string ⟨s.toArray⟩] w fun e w' => e = .returned (.bool true) ∧ Below w.heap.size w w' := by
  have HG := Lib.hid hg
  clear hg
  obtain ⟨⟨p, ts⟩, j, ok, hps⟩ : ∃ n j ok, Tx.parseS s = ⟨n, j, ok⟩ := ⟨_, _, _, rfl⟩
  go_enter Tryd.func5, Tryd.ntmps5
  go_wp2_with fail
  refine (alive_any _ HG.out).mono ?_
  rintro e w1 ⟨rfl, hb1⟩
  have HB1 := Lib.hid hb1
  have HG1 := Lib.hid (HG.out.below hb1)
  clear hb1
  go_wp2_with fail
  refine (parse_any s _ (by omega) HG1.out).mono ?_
  rintro e w2 hr
  cases ok with
  | true =>
    obtain ⟨hb2, A, c, rfl, hat⟩ : Below w1.heap.size w1 w2 ∧ ∃ A c, e = .returned (.tuple #[.agg #[.int .i64 p, .slice A ts.length c], .int .i64 0, .int .i64 0]) ∧ TrsAt w2 w2.heap.size A ts.length ts := parseR_yes hr hps
    have HB2 := Lib.hid (HB1.out.trans (hb2.mono HB1.out.size))
    have HPS := Lib.hid hps
    clear hr hb2 hat hps
    go_wp2_with fail
    go_ret
    exact ⟨rfl, below_alloc1 HB2.out _⟩
  | false =>
    obtain ⟨hb2, rfl⟩ := parseR_no hr hps
    have HB2 := Lib.hid (HB1.out.trans (hb2.mono HB1.out.size))
    have HG2 := Lib.hid (HG1.out.below hb2)
    clear hr hb2
    by_cases hj0 : j = 0
    · subst hj0
      have HPS := Lib.hid hps
      clear hps
      go_wp2_with fail
      go_ret
      exact ⟨rfl, below_alloc1 HB2.out _⟩
    · obtain ⟨hjl, ⟨q, us⟩, hp2, hus⟩ := Tx.line_ok hps hj0
      have hus' : us.length = j - 1 := hus
      have hlen := Tx.linesS_len s
      have hcc : s.count 10 ≤ s.length := List.count_le_length
      have hfl := Tx.linesS_flat s
      have hj1 : 1 ≤ j := by omega
      have hjb : (1 : Int) ≤ (j : Int) := by omega
      have hjle : j ≤ 1048576 := by omega
      have hflat : ((Tx.linesS s).take j).flatten.length ≤ s.length := by
        have h1 : s.length = (((Tx.linesS s).take j) ++ ((Tx.linesS s).drop j)).flatten.length := by rw [List.take_append_drop, hfl]
        rw [List.flatten_append, List.length_append] at h1
        omega
      have HP2 := Lib.hid hp2
      have HUS := Lib.hid hus'
      have hjk : j < (Tx.linesS s).length := hjl
      have hjL : ((Tx.linesS s).take j).length = j := by rw [List.length_take]; omega
      have HJL := Lib.hid hjL
      clear hps hp2 hus hus' hlen hcc hfl hj0 hjL hjl
      have hz0 : ((j : Int) == 0) = false := by rw [beq_eq_false_iff_ne]; omega
      go_wp2_with fail
      refine (lines_any s _ (by omega) (HG2.out.below ((Below.refl _ w2).alloc (Nat.le_refl _) _))).mono ?_
      rintro e w3 ⟨rfl, hst, hb3⟩
      rw [World.size_alloc] at hst
      have HB3 := Lib.hid ((below_alloc1 HB2.out _).trans (hb3.mono (below_alloc1 HB2.out _).size))
      have HST := Lib.hid hst
      have HG3 := Lib.hid ((HG2.out.below ((Below.refl _ w2).alloc (Nat.le_refl _) _)).below hb3)
      have HSTJ := Lib.hid (show Strs w3 (w2.heap.size + 1) ((Tx.linesS s).take j) from ⟨hst.1, fun i x hx => hst.2 i x (by
        rw [List.getElem?_take] at hx
        split at hx
        · exact hx
        · cases hx)⟩)
      clear hst hb3
      obtain ⟨L, hL⟩ : ∃ L, (Tx.linesS s).length = L := ⟨_, rfl⟩
      rw [hL] at hjk ⊢
      clear hL
      go_wp2_with fail
      refine (join_any (xs := (Tx.linesS s).take j) _ HJL.out (by omega) HSTJ.out (by omega) (by omega)).mono ?_
      rintro e w4 ⟨rfl, hb4⟩
      have HB4 := Lib.hid (HB3.out.trans (hb4.mono HB3.out.size))
      have HG4 := Lib.hid (HG3.out.below hb4)
      clear hb4
      go_wp2_with fail
      refine (parse_any ((Tx.linesS s).take j).flatten _ (by omega) HG4.out).mono ?_
      rintro e w5 hr5
      obtain ⟨hb5, A5, c5, rfl, hat⟩ : Below w4.heap.size w4 w5 ∧ ∃ A c, e = .returned (.tuple #[.agg #[.int .i64 q, .slice A us.length c], .int .i64 0, .int .i64 0]) ∧ TrsAt w5 w5.heap.size A us.length us := parseR_yes hr5 HP2.out
      have HB5 := Lib.hid (HB4.out.trans (hb5.mono HB4.out.size))
      clear hr5 hb5 hat
      have hul : (us.length : Int) = (j : Int) - 1 := by have := HUS.out; omega
      have HUL := Lib.hid hul
      have hub : ((us.length : Int) == (j : Int) - 1) = true := by rw [beq_iff_eq]; exact hul
      clear hul
      go_wp2_with fail
      go_ret
      exact ⟨rfl, below_alloc1 HB5.out _⟩
end Go.Proofs.YtednlgeidgnogaaDoor
