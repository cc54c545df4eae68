/-
  The walk of text.tran.
-/
import Derived.Test.YtednlgeidgnogaaDoorWalkG
namespace Go.Proofs.YtednlgeidgnogaaDoor
open Go.RowKit

/-- block b is three cells of a transition, and no more. -/
def Blk3 (w : World) (b : Nat) (x y z : Value) : Prop := w.heap[b]? = some (.cells #[x, y, z] 41 (0, 0))
section
variable {w w' : World} {b : Nat} {x y z : Value}
theorem Blk3.lt (h : Blk3 w b x y z) : b < w.heap.size := (Array.getElem?_eq_some_iff.1 h).1
theorem Blk3.below (h : Blk3 w b x y z) (hb : Below w.heap.size w w') : Blk3 w' b x y z := (hb.block b h.lt).trans h
theorem Blk3.cells (h : Blk3 w b x y z) : w.cell? ⟨b, 0, none⟩ = some x ∧ w.cell? ⟨b, 1, none⟩ = some y ∧ w.cell? ⟨b, 2, none⟩ = some z ∧ w.frozen? ⟨b, 0, none⟩ = false ∧ w.frozen? ⟨b, 1, none⟩ = false ∧ w.frozen? ⟨b, 2, none⟩ = false := by
  unfold Blk3 at h
  simp [World.cell?, World.frozen?, h]
theorem Blk3.set0 (h : Blk3 w b x y z) (u : Value) : Blk3 (w.setCell ⟨b, 0, none⟩ u) b u y z := by
  unfold Blk3 at h ⊢; simp [World.setCell, Array.getElem?_modify, h]
theorem Blk3.set1 (h : Blk3 w b x y z) (u : Value) : Blk3 (w.setCell ⟨b, 1, none⟩ u) b x u z := by
  unfold Blk3 at h ⊢; simp [World.setCell, Array.getElem?_modify, h]
theorem Blk3.set2 (h : Blk3 w b x y z) (u : Value) : Blk3 (w.setCell ⟨b, 2, none⟩ u) b x y u := by
  unfold Blk3 at h ⊢; simp [World.setCell, Array.getElem?_modify, h]
theorem Blk3.far (h : Blk3 w b x y z) {p : Addr} (hp : b ≠ p.block) (u : Value) : Blk3 (w.setCell p u) b x y z := (Below.heap_setCell w p u b hp).trans h
theorem Blk3.new (w : World) (x y z : Value) : Blk3 (w.alloc (.cells #[x, y, z] 41)) w.heap.size x y z := heap_alloc_new w _
end
theorem RowInts.far {w : World} {g : Nat} {xs : List Int} (h : RowInts w g xs) {p : Addr} (hp : g ≠ p.block) (u : Value) : RowInts (w.setCell p u) g xs := (Below.heap_setCell w p u g hp).trans h
theorem RowInts.reads {w : World} {g : Nat} {xs : List Int} (h : RowInts w g xs) : Reads w w.heap.size 1 (some ⟨g, 0, none⟩) xs.length (xs.map (Value.int .i64)) := by
  refine ⟨by simp, fun hn => ⟨_, rfl, h.lt, fun j u hu => ?_⟩⟩
  obtain ⟨hj, he⟩ := List.getElem?_eq_some_iff.1 hu
  have hj' : j < xs.length := by simpa using hj
  have e : (⟨g, 0, none⟩ : Addr).add j = ⟨g, j, none⟩ := by
    unfold Addr.add
    split
    · rename_i h0; rw [h0]
    · simp
  rw [e, h.cell hj']
  have he' : Value.int .i64 xs[j] = u := by simpa using he
  rw [← he', List.getElem?_eq_getElem hj']; rfl

/-- a transition, its text cut into parts. -/
def tranW (places : Nat) (s name pre post : List UInt8) (ok two : Bool) : Option Tx.Tr :=
  if ok = true ∧ two = true ∧ name.length = 1 then
    match Tx.weightsS places pre, Tx.weightsS places post with
    | some a, some b => if 0 ≤ Tx.labelOf name ∧ Tx.labelOf name ≤ 26 ∧ Tx.lineS ⟨Tx.labelOf name, a, b⟩ = s then some ⟨Tx.labelOf name, a, b⟩ else none
    | _, _ => none
  else none
theorem tranS_W {places : Nat} {s name rest pre post : List UInt8} {ok two : Bool} (h : Lib.cut s [32, 58] = (name, rest, ok)) (k : Lib.cut rest [32, 62] = (pre, post, two)) : Tx.tranS places s = tranW places s name pre post ok two := by
  unfold Tx.tranS tranW
  dsimp only
  rw [h]
  dsimp only
  rw [k]
  rfl
section
variable {places : Nat} {s name pre post : List UInt8} {ok two : Bool}
theorem tranW_ok (h : ok = false) : tranW places s name pre post ok two = none := by subst h; unfold tranW; rw [if_neg (by simp)]
theorem tranW_two (h : two = false) : tranW places s name pre post ok two = none := by subst h; unfold tranW; rw [if_neg (by simp)]
theorem tranW_len (h : name.length ≠ 1) : tranW places s name pre post ok two = none := by unfold tranW; rw [if_neg (fun x => h x.2.2)]
theorem tranW_pre (h : Tx.weightsS places pre = none) : tranW places s name pre post ok two = none := by
  unfold tranW; rw [h]; split <;> rfl
theorem tranW_post (h : Tx.weightsS places post = none) : tranW places s name pre post ok two = none := by
  unfold tranW; rw [h]; split
  · cases Tx.weightsS places pre <;> rfl
  · rfl
theorem tranW_bad {a b : List Int} (h : Tx.weightsS places pre = some a) (k : Tx.weightsS places post = some b) (g : ¬ (0 ≤ Tx.labelOf name ∧ Tx.labelOf name ≤ 26 ∧ Tx.lineS ⟨Tx.labelOf name, a, b⟩ = s)) : tranW places s name pre post ok two = none := by
  unfold tranW; rw [h, k]; split
  · simp only; rw [if_neg g]
  · rfl
theorem tranW_good {a b : List Int} {l : Int} (hn : name.length = 1) (hl : Tx.labelOf name = l) (h : Tx.weightsS places pre = some a) (k : Tx.weightsS places post = some b) (g : 0 ≤ l) (g1 : l ≤ 26) (g2 : Tx.lineS ⟨l, a, b⟩ = s) : tranW places s name pre post true true = some ⟨l, a, b⟩ := by
  subst hl
  unfold tranW; rw [h, k, if_pos ⟨rfl, rfl, hn⟩]; simp only; rw [if_pos ⟨g, g1, g2⟩]
end

def tranR (w : World) (o : Option Tx.Tr) (e : Ending) (w' : World) : Prop :=
  Below w.heap.size w w' ∧ match o with
    | none => e = .returned (.tuple #[.agg #[.int .i64 0, .slice none 0 0, .slice none 0 0], .bool false])
    | some t => ∃ g1 g2, e = .returned (.tuple #[.agg #[.int .i64 t.label, .slice (some ⟨g1, 0, none⟩) t.pre.length t.pre.length, .slice (some ⟨g2, 0, none⟩) t.post.length t.post.length], .bool true]) ∧
        w.heap.size ≤ g1 ∧ w.heap.size ≤ g2 ∧ RowInts w' g1 t.pre ∧ RowInts w' g2 t.post
theorem tran_no {w w' : World} {o : Option Tx.Tr} (h : o = none) (hb : Below w.heap.size w w') : tranR w o (.returned (.tuple #[.agg #[.int .i64 0, .slice none 0 0, .slice none 0 0], .bool false])) w' := by
  subst h; exact ⟨hb, rfl⟩

theorem labelOf_letter {x : UInt8} (h : ¬ x = 45) : Tx.labelOf [x] = (x.toNat : Int) - 97 + 1 := by
  unfold Tx.labelOf
  rw [if_neg (by simpa using h)]
  simp; omega

set_option maxHeartbeats 8000000 in
theorem tran_any (s : List UInt8) (places : Nat) (w : World) (h16 : places ≤ 16) (hs : s.length < 4294967281) (hg : Glob w) :
    Calls Tryd.prog 19 #[.string ⟨s.toArray⟩, .int .i64 places] w (tranR w (Tx.tranS places s)) := by
  obtain ⟨name, rest, ok, hc⟩ : ∃ a b c, Lib.cut s [32, 58] = (a, b, c) := ⟨_, _, _, rfl⟩
  obtain ⟨pre, post, two, hd⟩ : ∃ a b c, Lib.cut rest [32, 62] = (a, b, c) := ⟨_, _, _, rfl⟩
  have hT := tranS_W (places := places) hc hd
  rw [hT]
  clear hT
  have hl1 := (cut_len hc).1
  have hl2 := (cut_len hc).2
  have hl3 := (cut_len hd).1
  have hl4 := (cut_len hd).2
  have HC := Lib.hid hc
  have HD := Lib.hid hd
  have HG := Lib.hid hg
  have HB0 := Lib.hid (Blk3.new w (.int .i64 0) (.slice none 0 0) (.slice none 0 0))
  clear hc hd hg
  go_enter Tryd.func19, Tryd.ntmps19
  go_wp2_with fail
  refine (cut_any (s := s) (sep := [32, 58]) _ hs (HG.out.below ((Below.refl _ w).alloc (Nat.le_refl _) _)) HC.out).mono ?_
  rintro e w1 ⟨rfl, hb1⟩
  have HB1 := Lib.hid (((Below.refl w.heap.size w).alloc (Nat.le_refl _) _).trans (hb1.mono (by simp)))
  have HG1 := Lib.hid ((HG.out.below ((Below.refl _ w).alloc (Nat.le_refl _) _)).below hb1)
  have HR1 := Lib.hid (HB0.out.below hb1)
  clear hb1
  go_wp2_with fail
  refine (cut_any (s := rest) (sep := [32, 62]) _ (by omega) HG1.out HD.out).mono ?_
  rintro e w2 ⟨rfl, hb2⟩
  have hz1 := HB1.out.size
  have HB2 := Lib.hid (HB1.out.trans (hb2.mono hz1))
  have HG2 := Lib.hid (HG1.out.below hb2)
  have HR2 := Lib.hid (HR1.out.below hb2)
  clear hb2
  obtain ⟨c0, c1, c2, f0, f1, f2⟩ := HR2.out.cells
  have hz2 := HB2.out.size
  by_cases h1 : ok = false
  · subst h1
    go_wp2_with fail
    exact bodyPost_ret (v := .tuple #[.agg #[.int .i64 0, .slice none 0 0, .slice none 0 0], .bool false]) (by simp [results, Tryd.results19, go_sem, *]) rfl (tran_no (tranW_ok rfl) (by repeat (first | exact HB2.out | refine Below.setCell ?_ (by first | exact Nat.le_refl _ | omega) _)))
  have hok : ok = true := by simpa using h1
  clear h1
  subst hok
  by_cases h1 : two = false
  · subst h1
    go_wp2_with fail
    exact bodyPost_ret (v := .tuple #[.agg #[.int .i64 0, .slice none 0 0, .slice none 0 0], .bool false]) (by simp [results, Tryd.results19, go_sem, *]) rfl (tran_no (tranW_two rfl) (by repeat (first | exact HB2.out | refine Below.setCell ?_ (by first | exact Nat.le_refl _ | omega) _)))
  have htwo : two = true := by simpa using h1
  clear h1
  subst htwo
  by_cases h1 : name.length = 1
  rotate_left
  · have HN1 := Lib.hid h1
    have hnn : ((name.length : Int) == 1) = false := by rw [beq_eq_false_iff_ne]; omega
    clear h1
    go_wp2_with fail
    exact bodyPost_ret (v := .tuple #[.agg #[.int .i64 0, .slice none 0 0, .slice none 0 0], .bool false]) (by simp [results, Tryd.results19, go_sem, *]) rfl (tran_no (tranW_len HN1.out) (by repeat (first | exact HB2.out | refine Below.setCell ?_ (by first | exact Nat.le_refl _ | omega) _)))
  obtain ⟨x, rfl⟩ : ∃ x, name = [x] := List.length_eq_one_iff.1 h1
  clear h1
  have hx256 : x.toNat < 256 := x.toNat_lt
  by_cases hx : x = 45
  · subst hx
    have HN := Lib.hid (Blk3.new w2 (.int .i64 0) (.slice none 0 0) (.slice none 0 0))
    have HB3 := Lib.hid (HB2.out.alloc (o := .cells #[.int .i64 0, .slice none 0 0, .slice none 0 0] 41) hz2)
    have HG3 := Lib.hid (HG2.out.below ((Below.refl _ w2).alloc (o := .cells #[.int .i64 0, .slice none 0 0, .slice none 0 0] 41) (Nat.le_refl _)))
    have HR3 := Lib.hid (HR2.out.below ((Below.refl _ w2).alloc (o := .cells #[.int .i64 0, .slice none 0 0, .slice none 0 0] 41) (Nat.le_refl _)))
    have hlt2 := HR2.out.lt
    have hLO := Lib.hid (show Tx.labelOf [45] = 0 from (by decide))
    go_wp2_with fail
    refine (weights_any pre places _ h16 (by omega) HG3.out).mono ?_
    rintro e w4 ⟨hb4, hm4⟩
    have HN4 := Lib.hid (HN.out.below hb4)
    have HR4 := Lib.hid (HR3.out.below hb4)
    have HG4 := Lib.hid (HG3.out.below hb4)
    have hz4 := hb4.size
    simp only [World.size_alloc] at hz4
    have HB4 := Lib.hid (HB3.out.trans (hb4.mono (by simp; omega)))
    clear hb4
    have hlt4 : w2.heap.size < w4.heap.size := by omega
    have hw4 : w.heap.size ≤ w4.heap.size := by omega
    cases hpr : Tx.weightsS places pre with
    | none =>
      rw [hpr] at hm4
      have HPR := Lib.hid hpr
      clear hpr
      subst hm4
      obtain ⟨q0, q1, q2, g0, g1, g2⟩ := HN4.out.cells
      have HN5 := Lib.hid (HN4.out.set1 (.slice none 0 0))
      have HG5 := Lib.hid (HG.out.below (HB4.out.setCell (p := ⟨w2.heap.size, 1, none⟩) hz2 (.slice none 0 0)))
      have HB5 := Lib.hid (HB4.out.setCell (p := ⟨w2.heap.size, 1, none⟩) hz2 (.slice none 0 0))
      have HR5 := Lib.hid (HR4.out.far (p := ⟨w2.heap.size, 1, none⟩) (by simp; omega) (.slice none 0 0))
      go_wp2_with fail
      refine (weights_any post places _ h16 (by omega) HG5.out).mono ?_
      rintro e w6 ⟨hb6, hm6⟩
      have HN6 := Lib.hid (HN5.out.below hb6)
      have HR6 := Lib.hid (HR5.out.below hb6)
      have hz6 : w4.heap.size ≤ w6.heap.size := by have := hb6.size; simpa [World.setCell] using this
      have HB6 := Lib.hid (HB5.out.trans (hb6.mono (by simpa [World.setCell] using hw4)))
      clear hb6
      obtain ⟨p0, p1, p2, k0, k1, k2⟩ := HN6.out.cells
      obtain ⟨r0, r1, r2, s0, s1, s2⟩ := HR6.out.cells
      have hne : ¬ w.heap.size = w2.heap.size := by omega
      have hne' : ¬ w2.heap.size = w.heap.size := by omega
      clear q0 q1 q2 g0 g1 g2 c0 c1 c2 f0 f1 f2
      cases hpo : Tx.weightsS places post with
      | none =>
        rw [hpo] at hm6
        have HPO := Lib.hid hpo
        clear hpo
        subst hm6
        go_wp2_with fail
        exact bodyPost_ret (v := .tuple #[.agg #[.int .i64 0, .slice none 0 0, .slice none 0 0], .bool false]) (by simp [results, Tryd.results19, go_sem, *]) rfl (tran_no (tranW_post HPO.out) (by repeat (first | exact HB6.out | refine Below.setCell ?_ (by first | exact Nat.le_refl _ | omega) _)))
      | some xb =>
        rw [hpo] at hm6
        have HPO := Lib.hid hpo
        clear hpo
        obtain ⟨gb, rfl, hgb, hxb⟩ := hm6
        clear hgb hxb
        go_wp2_with fail
        exact bodyPost_ret (v := .tuple #[.agg #[.int .i64 0, .slice none 0 0, .slice none 0 0], .bool false]) (by simp [results, Tryd.results19, go_sem, *]) rfl (tran_no (tranW_pre HPR.out) (by repeat (first | exact HB6.out | refine Below.setCell ?_ (by first | exact Nat.le_refl _ | omega) _)))
    | some xa =>
      rw [hpr] at hm4
      have HPR := Lib.hid hpr
      clear hpr
      obtain ⟨ga, rfl, hga, hxa⟩ := hm4
      have HXA := Lib.hid hxa
      have hga1 : w2.heap.size < ga := by simp at hga; omega
      have hga2 := hxa.lt
      clear hxa hga
      obtain ⟨q0, q1, q2, g0, g1, g2⟩ := HN4.out.cells
      have HN5 := Lib.hid (HN4.out.set1 (.slice (some ⟨ga, 0, none⟩) xa.length xa.length))
      have HG5 := Lib.hid (HG.out.below (HB4.out.setCell (p := ⟨w2.heap.size, 1, none⟩) hz2 (.slice (some ⟨ga, 0, none⟩) xa.length xa.length)))
      have HB5 := Lib.hid (HB4.out.setCell (p := ⟨w2.heap.size, 1, none⟩) hz2 (.slice (some ⟨ga, 0, none⟩) xa.length xa.length))
      have HR5 := Lib.hid (HR4.out.far (p := ⟨w2.heap.size, 1, none⟩) (by simp; omega) (.slice (some ⟨ga, 0, none⟩) xa.length xa.length))
      have HXA5 := Lib.hid (HXA.out.far (p := ⟨w2.heap.size, 1, none⟩) (by simp; omega) (.slice (some ⟨ga, 0, none⟩) xa.length xa.length))
      go_wp2_with fail
      refine (weights_any post places _ h16 (by omega) HG5.out).mono ?_
      rintro e w6 ⟨hb6, hm6⟩
      have HN6 := Lib.hid (HN5.out.below hb6)
      have HR6 := Lib.hid (HR5.out.below hb6)
      have hz6 : w4.heap.size ≤ w6.heap.size := by have := hb6.size; simpa [World.setCell] using this
      have HB6 := Lib.hid (HB5.out.trans (hb6.mono (by simpa [World.setCell] using hw4)))
      have HXA6 := Lib.hid (HXA5.out.below hb6)
      clear hb6
      obtain ⟨p0, p1, p2, k0, k1, k2⟩ := HN6.out.cells
      obtain ⟨r0, r1, r2, s0, s1, s2⟩ := HR6.out.cells
      have hne : ¬ w.heap.size = w2.heap.size := by omega
      have hne' : ¬ w2.heap.size = w.heap.size := by omega
      clear q0 q1 q2 g0 g1 g2 c0 c1 c2 f0 f1 f2
      cases hpo : Tx.weightsS places post with
      | none =>
        rw [hpo] at hm6
        have HPO := Lib.hid hpo
        clear hpo
        subst hm6
        go_wp2_with fail
        exact bodyPost_ret (v := .tuple #[.agg #[.int .i64 0, .slice none 0 0, .slice none 0 0], .bool false]) (by simp [results, Tryd.results19, go_sem, *]) rfl (tran_no (tranW_post HPO.out) (by repeat (first | exact HB6.out | refine Below.setCell ?_ (by first | exact Nat.le_refl _ | omega) _)))
      | some xb =>
        rw [hpo] at hm6
        have HPO := Lib.hid hpo
        clear hpo
        obtain ⟨gb, rfl, hgb, hxb⟩ := hm6
        have HXB := Lib.hid hxb
        have hgb1 : w4.heap.size ≤ gb := by simpa [World.setCell] using hgb
        clear hxb hgb
        have hla := (Tx.weightsS_ok HPR.out).1
        have hlb := (Tx.weightsS_ok HPO.out).1
        have hla16 : xa.length ≤ 16 := by omega
        have hlb16 : xb.length ≤ 16 := by omega
        clear hla hlb
        have HN7 := Lib.hid (HN6.out.set2 (.slice (some ⟨gb, 0, none⟩) xb.length xb.length))
        have HR7 := Lib.hid (HR6.out.far (p := ⟨w2.heap.size, 2, none⟩) (by simp; omega) (.slice (some ⟨gb, 0, none⟩) xb.length xb.length))
        have HB7 := Lib.hid (HB6.out.setCell (p := ⟨w2.heap.size, 2, none⟩) hz2 (.slice (some ⟨gb, 0, none⟩) xb.length xb.length))
        have HXA7 := Lib.hid (HXA6.out.far (p := ⟨w2.heap.size, 2, none⟩) (by simp; omega) (.slice (some ⟨gb, 0, none⟩) xb.length xb.length))
        have HXB7 := Lib.hid (HXB.out.far (p := ⟨w2.heap.size, 2, none⟩) (by simp; omega) (.slice (some ⟨gb, 0, none⟩) xb.length xb.length))
        obtain ⟨ls, hls⟩ : ∃ ls, Tx.lineS ⟨0, xa, xb⟩ = ls := ⟨_, rfl⟩
        have HLS := Lib.hid hls
        have hline := line_any 0 (some ⟨ga, 0, none⟩) (some ⟨gb, 0, none⟩) xa.length xa.length xb.length xb.length xa xb (w6.setCell ⟨w2.heap.size, 2, none⟩ (.slice (some ⟨gb, 0, none⟩) xb.length xb.length)) (by omega) (by omega) hla16 hlb16 rfl rfl (Tx.weightsS_ok HPR.out).2 (Tx.weightsS_ok HPO.out).2 HXA7.out.reads HXB7.out.reads
        rw [hls] at hline
        have HLINE := Lib.hid hline
        clear hls hline
        go_wp2_with fail
        refine HLINE.out.mono ?_
        rintro e w8 ⟨rfl, hb8⟩
        have hz7 : w.heap.size ≤ w6.heap.size := by omega
        have HN8 := Lib.hid (HN7.out.below hb8)
        have HR8 := Lib.hid (HR7.out.below hb8)
        have HB8 := Lib.hid (HB7.out.trans (hb8.mono (by simpa [World.setCell] using hz7)))
        have HXA8 := Lib.hid (HXA7.out.below hb8)
        have HXB8 := Lib.hid (HXB7.out.below hb8)
        clear hb8 p0 p1 p2 k0 k1 k2 r0 r1 r2 s0 s1 s2
        obtain ⟨p0, p1, p2, k0, k1, k2⟩ := HN8.out.cells
        obtain ⟨r0, r1, r2, s0, s1, s2⟩ := HR8.out.cells
        by_cases hfin : ls = s
        · subst hfin
          go_wp2_with fail
          refine bodyPost_ret (v := .tuple #[.agg #[.int .i64 0, .slice (some ⟨ga, 0, none⟩) xa.length xa.length, .slice (some ⟨gb, 0, none⟩) xb.length xb.length], .bool true]) (by simp [results, Tryd.results19, go_sem, *]) rfl ?_
          rw [tranW_good (l := 0) rfl hLO.out HPR.out HPO.out (by omega) (by omega) HLS.out]
          refine ⟨(by repeat (first | exact HB8.out | refine Below.setCell ?_ (by first | exact Nat.le_refl _ | omega) _)), ga, gb, rfl, by omega, by omega, ?_, ?_⟩
          · exact ((HXA8.out.far (by simp; omega) _).far (by simp; omega) _).far (by simp; omega) _
          · exact ((HXB8.out.far (by simp; omega) _).far (by simp; omega) _).far (by simp; omega) _
        · have hfn : (ls == s) = false := by simp [hfin]
          have HFIN := Lib.hid hfin
          clear hfin
          go_wp2_with fail
          exact bodyPost_ret (v := .tuple #[.agg #[.int .i64 0, .slice none 0 0, .slice none 0 0], .bool false]) (by simp [results, Tryd.results19, go_sem, *]) rfl (tran_no (tranW_bad HPR.out HPO.out (by rw [hLO.out, HLS.out]; exact fun g => HFIN.out g.2.2)) (by repeat (first | exact HB8.out | refine Below.setCell ?_ (by first | exact Nat.le_refl _ | omega) _)))
  · have hxn : (x == 45) = false := by simp [hx]
    have hidx : ({ data := #[x] } : ByteArray)[0]'(by simp [ByteArray.size]) = x := rfl
    have HN := Lib.hid (Blk3.new w2 (.int .i64 ((x.toNat : Int) - 97 + 1)) (.slice none 0 0) (.slice none 0 0))
    have HB3 := Lib.hid (HB2.out.alloc (o := .cells #[.int .i64 ((x.toNat : Int) - 97 + 1), .slice none 0 0, .slice none 0 0] 41) hz2)
    have HG3 := Lib.hid (HG2.out.below ((Below.refl _ w2).alloc (o := .cells #[.int .i64 ((x.toNat : Int) - 97 + 1), .slice none 0 0, .slice none 0 0] 41) (Nat.le_refl _)))
    have HR3 := Lib.hid (HR2.out.below ((Below.refl _ w2).alloc (o := .cells #[.int .i64 ((x.toNat : Int) - 97 + 1), .slice none 0 0, .slice none 0 0] 41) (Nat.le_refl _)))
    have hlt2 := HR2.out.lt
    have hLO := Lib.hid (show Tx.labelOf [x] = ((x.toNat : Int) - 97 + 1) from (labelOf_letter hx))
    go_wp2_with fail
    refine (weights_any pre places _ h16 (by omega) HG3.out).mono ?_
    rintro e w4 ⟨hb4, hm4⟩
    have HN4 := Lib.hid (HN.out.below hb4)
    have HR4 := Lib.hid (HR3.out.below hb4)
    have HG4 := Lib.hid (HG3.out.below hb4)
    have hz4 := hb4.size
    simp only [World.size_alloc] at hz4
    have HB4 := Lib.hid (HB3.out.trans (hb4.mono (by simp; omega)))
    clear hb4
    have hlt4 : w2.heap.size < w4.heap.size := by omega
    have hw4 : w.heap.size ≤ w4.heap.size := by omega
    cases hpr : Tx.weightsS places pre with
    | none =>
      rw [hpr] at hm4
      have HPR := Lib.hid hpr
      clear hpr
      subst hm4
      obtain ⟨q0, q1, q2, g0, g1, g2⟩ := HN4.out.cells
      have HN5 := Lib.hid (HN4.out.set1 (.slice none 0 0))
      have HG5 := Lib.hid (HG.out.below (HB4.out.setCell (p := ⟨w2.heap.size, 1, none⟩) hz2 (.slice none 0 0)))
      have HB5 := Lib.hid (HB4.out.setCell (p := ⟨w2.heap.size, 1, none⟩) hz2 (.slice none 0 0))
      have HR5 := Lib.hid (HR4.out.far (p := ⟨w2.heap.size, 1, none⟩) (by simp; omega) (.slice none 0 0))
      go_wp2_with fail
      refine (weights_any post places _ h16 (by omega) HG5.out).mono ?_
      rintro e w6 ⟨hb6, hm6⟩
      have HN6 := Lib.hid (HN5.out.below hb6)
      have HR6 := Lib.hid (HR5.out.below hb6)
      have hz6 : w4.heap.size ≤ w6.heap.size := by have := hb6.size; simpa [World.setCell] using this
      have HB6 := Lib.hid (HB5.out.trans (hb6.mono (by simpa [World.setCell] using hw4)))
      clear hb6
      obtain ⟨p0, p1, p2, k0, k1, k2⟩ := HN6.out.cells
      obtain ⟨r0, r1, r2, s0, s1, s2⟩ := HR6.out.cells
      have hne : ¬ w.heap.size = w2.heap.size := by omega
      have hne' : ¬ w2.heap.size = w.heap.size := by omega
      clear q0 q1 q2 g0 g1 g2 c0 c1 c2 f0 f1 f2
      cases hpo : Tx.weightsS places post with
      | none =>
        rw [hpo] at hm6
        have HPO := Lib.hid hpo
        clear hpo
        subst hm6
        go_wp2_with fail
        exact bodyPost_ret (v := .tuple #[.agg #[.int .i64 0, .slice none 0 0, .slice none 0 0], .bool false]) (by simp [results, Tryd.results19, go_sem, *]) rfl (tran_no (tranW_post HPO.out) (by repeat (first | exact HB6.out | refine Below.setCell ?_ (by first | exact Nat.le_refl _ | omega) _)))
      | some xb =>
        rw [hpo] at hm6
        have HPO := Lib.hid hpo
        clear hpo
        obtain ⟨gb, rfl, hgb, hxb⟩ := hm6
        clear hgb hxb
        go_wp2_with fail
        exact bodyPost_ret (v := .tuple #[.agg #[.int .i64 0, .slice none 0 0, .slice none 0 0], .bool false]) (by simp [results, Tryd.results19, go_sem, *]) rfl (tran_no (tranW_pre HPR.out) (by repeat (first | exact HB6.out | refine Below.setCell ?_ (by first | exact Nat.le_refl _ | omega) _)))
    | some xa =>
      rw [hpr] at hm4
      have HPR := Lib.hid hpr
      clear hpr
      obtain ⟨ga, rfl, hga, hxa⟩ := hm4
      have HXA := Lib.hid hxa
      have hga1 : w2.heap.size < ga := by simp at hga; omega
      have hga2 := hxa.lt
      clear hxa hga
      obtain ⟨q0, q1, q2, g0, g1, g2⟩ := HN4.out.cells
      have HN5 := Lib.hid (HN4.out.set1 (.slice (some ⟨ga, 0, none⟩) xa.length xa.length))
      have HG5 := Lib.hid (HG.out.below (HB4.out.setCell (p := ⟨w2.heap.size, 1, none⟩) hz2 (.slice (some ⟨ga, 0, none⟩) xa.length xa.length)))
      have HB5 := Lib.hid (HB4.out.setCell (p := ⟨w2.heap.size, 1, none⟩) hz2 (.slice (some ⟨ga, 0, none⟩) xa.length xa.length))
      have HR5 := Lib.hid (HR4.out.far (p := ⟨w2.heap.size, 1, none⟩) (by simp; omega) (.slice (some ⟨ga, 0, none⟩) xa.length xa.length))
      have HXA5 := Lib.hid (HXA.out.far (p := ⟨w2.heap.size, 1, none⟩) (by simp; omega) (.slice (some ⟨ga, 0, none⟩) xa.length xa.length))
      go_wp2_with fail
      refine (weights_any post places _ h16 (by omega) HG5.out).mono ?_
      rintro e w6 ⟨hb6, hm6⟩
      have HN6 := Lib.hid (HN5.out.below hb6)
      have HR6 := Lib.hid (HR5.out.below hb6)
      have hz6 : w4.heap.size ≤ w6.heap.size := by have := hb6.size; simpa [World.setCell] using this
      have HB6 := Lib.hid (HB5.out.trans (hb6.mono (by simpa [World.setCell] using hw4)))
      have HXA6 := Lib.hid (HXA5.out.below hb6)
      clear hb6
      obtain ⟨p0, p1, p2, k0, k1, k2⟩ := HN6.out.cells
      obtain ⟨r0, r1, r2, s0, s1, s2⟩ := HR6.out.cells
      have hne : ¬ w.heap.size = w2.heap.size := by omega
      have hne' : ¬ w2.heap.size = w.heap.size := by omega
      clear q0 q1 q2 g0 g1 g2 c0 c1 c2 f0 f1 f2
      cases hpo : Tx.weightsS places post with
      | none =>
        rw [hpo] at hm6
        have HPO := Lib.hid hpo
        clear hpo
        subst hm6
        go_wp2_with fail
        exact bodyPost_ret (v := .tuple #[.agg #[.int .i64 0, .slice none 0 0, .slice none 0 0], .bool false]) (by simp [results, Tryd.results19, go_sem, *]) rfl (tran_no (tranW_post HPO.out) (by repeat (first | exact HB6.out | refine Below.setCell ?_ (by first | exact Nat.le_refl _ | omega) _)))
      | some xb =>
        rw [hpo] at hm6
        have HPO := Lib.hid hpo
        clear hpo
        obtain ⟨gb, rfl, hgb, hxb⟩ := hm6
        have HXB := Lib.hid hxb
        have hgb1 : w4.heap.size ≤ gb := by simpa [World.setCell] using hgb
        clear hxb hgb
        have hla := (Tx.weightsS_ok HPR.out).1
        have hlb := (Tx.weightsS_ok HPO.out).1
        have hla16 : xa.length ≤ 16 := by omega
        have hlb16 : xb.length ≤ 16 := by omega
        clear hla hlb
        have HN7 := Lib.hid (HN6.out.set2 (.slice (some ⟨gb, 0, none⟩) xb.length xb.length))
        have HR7 := Lib.hid (HR6.out.far (p := ⟨w2.heap.size, 2, none⟩) (by simp; omega) (.slice (some ⟨gb, 0, none⟩) xb.length xb.length))
        have HB7 := Lib.hid (HB6.out.setCell (p := ⟨w2.heap.size, 2, none⟩) hz2 (.slice (some ⟨gb, 0, none⟩) xb.length xb.length))
        have HXA7 := Lib.hid (HXA6.out.far (p := ⟨w2.heap.size, 2, none⟩) (by simp; omega) (.slice (some ⟨gb, 0, none⟩) xb.length xb.length))
        have HXB7 := Lib.hid (HXB.out.far (p := ⟨w2.heap.size, 2, none⟩) (by simp; omega) (.slice (some ⟨gb, 0, none⟩) xb.length xb.length))
        by_cases e1 : ((x.toNat : Int) - 97 + 1) < 0
        · go_wp2_with fail
          exact bodyPost_ret (v := .tuple #[.agg #[.int .i64 0, .slice none 0 0, .slice none 0 0], .bool false]) (by simp [results, Tryd.results19, go_sem, *]) rfl (tran_no (tranW_bad HPR.out HPO.out (by rw [hLO.out]; omega)) (by repeat (first | exact HB6.out | refine Below.setCell ?_ (by first | exact Nat.le_refl _ | omega) _)))
        by_cases e2 : 26 < ((x.toNat : Int) - 97 + 1)
        · go_wp2_with fail
          exact bodyPost_ret (v := .tuple #[.agg #[.int .i64 0, .slice none 0 0, .slice none 0 0], .bool false]) (by simp [results, Tryd.results19, go_sem, *]) rfl (tran_no (tranW_bad HPR.out HPO.out (by rw [hLO.out]; omega)) (by repeat (first | exact HB6.out | refine Below.setCell ?_ (by first | exact Nat.le_refl _ | omega) _)))
        obtain ⟨ls, hls⟩ : ∃ ls, Tx.lineS ⟨((x.toNat : Int) - 97 + 1), xa, xb⟩ = ls := ⟨_, rfl⟩
        have HLS := Lib.hid hls
        have hline := line_any ((x.toNat : Int) - 97 + 1) (some ⟨ga, 0, none⟩) (some ⟨gb, 0, none⟩) xa.length xa.length xb.length xb.length xa xb (w6.setCell ⟨w2.heap.size, 2, none⟩ (.slice (some ⟨gb, 0, none⟩) xb.length xb.length)) (by omega) (by omega) hla16 hlb16 rfl rfl (Tx.weightsS_ok HPR.out).2 (Tx.weightsS_ok HPO.out).2 HXA7.out.reads HXB7.out.reads
        rw [hls] at hline
        have HLINE := Lib.hid hline
        clear hls hline
        go_wp2_with fail
        refine HLINE.out.mono ?_
        rintro e w8 ⟨rfl, hb8⟩
        have hz7 : w.heap.size ≤ w6.heap.size := by omega
        have HN8 := Lib.hid (HN7.out.below hb8)
        have HR8 := Lib.hid (HR7.out.below hb8)
        have HB8 := Lib.hid (HB7.out.trans (hb8.mono (by simpa [World.setCell] using hz7)))
        have HXA8 := Lib.hid (HXA7.out.below hb8)
        have HXB8 := Lib.hid (HXB7.out.below hb8)
        clear hb8 p0 p1 p2 k0 k1 k2 r0 r1 r2 s0 s1 s2
        obtain ⟨p0, p1, p2, k0, k1, k2⟩ := HN8.out.cells
        obtain ⟨r0, r1, r2, s0, s1, s2⟩ := HR8.out.cells
        by_cases hfin : ls = s
        · subst hfin
          go_wp2_with fail
          refine bodyPost_ret (v := .tuple #[.agg #[.int .i64 ((x.toNat : Int) - 97 + 1), .slice (some ⟨ga, 0, none⟩) xa.length xa.length, .slice (some ⟨gb, 0, none⟩) xb.length xb.length], .bool true]) (by simp [results, Tryd.results19, go_sem, *]) rfl ?_
          rw [tranW_good (l := ((x.toNat : Int) - 97 + 1)) rfl hLO.out HPR.out HPO.out (by omega) (by omega) HLS.out]
          refine ⟨(by repeat (first | exact HB8.out | refine Below.setCell ?_ (by first | exact Nat.le_refl _ | omega) _)), ga, gb, rfl, by omega, by omega, ?_, ?_⟩
          · exact ((HXA8.out.far (by simp; omega) _).far (by simp; omega) _).far (by simp; omega) _
          · exact ((HXB8.out.far (by simp; omega) _).far (by simp; omega) _).far (by simp; omega) _
        · have hfn : (ls == s) = false := by simp [hfin]
          have HFIN := Lib.hid hfin
          clear hfin
          go_wp2_with fail
          exact bodyPost_ret (v := .tuple #[.agg #[.int .i64 0, .slice none 0 0, .slice none 0 0], .bool false]) (by simp [results, Tryd.results19, go_sem, *]) rfl (tran_no (tranW_bad HPR.out HPO.out (by rw [hLO.out, HLS.out]; exact fun g => HFIN.out g.2.2)) (by repeat (first | exact HB8.out | refine Below.setCell ?_ (by first | exact Nat.le_refl _ | omega) _)))
end Go.Proofs.YtednlgeidgnogaaDoor
