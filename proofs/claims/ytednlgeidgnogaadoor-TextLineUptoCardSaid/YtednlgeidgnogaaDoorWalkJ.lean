/-
  The walk of text.Parse.
-/
import Derived.Test.YtednlgeidgnogaaDoorWalkI
import Derived.RangeFuncBox
namespace Go.Proofs.YtednlgeidgnogaaDoor
open Go.RowKit

theorem suffix_any {f l : List UInt8} {b : Bool} (w : World) (hs : f.length < 4294967281) (h1 : Lib.trimSuffix f [10] = l) (h2 : Lib.hasSuffix f [10] = b) :
    Calls Tryd.prog 15 #[.string ⟨f.toArray⟩, .string ⟨#[10]⟩] w fun e w' => e = .returned (.tuple #[.string ⟨l.toArray⟩, .bool b]) ∧ w = w' := by
  refine (Tryd.strings_CutSuffix ⟨f.toArray⟩ ⟨#[10]⟩ w (by simp [ByteArray.size]; omega)).mono ?_
  rintro e w' ⟨rfl, rfl⟩
  refine ⟨?_, rfl⟩
  rw [← h1, ← h2]
theorem prefix_any {l x : List UInt8} (w : World) (h1 : Lib.trimPrefix l Tx.netB = x) :
    Calls Tryd.prog 17 #[.string ⟨l.toArray⟩, .string ⟨#[110, 101, 116, 32]⟩] w fun e w' => e = .returned (.string ⟨x.toArray⟩) ∧ w = w' := by
  refine (Tryd.strings_TrimPrefix ⟨l.toArray⟩ ⟨#[110, 101, 116, 32]⟩ w).mono ?_
  rintro e w' ⟨rfl, rfl⟩
  refine ⟨?_, rfl⟩
  rw [← h1]; rfl
theorem trimSuffix_len (f : List UInt8) : (Lib.trimSuffix f [10]).length ≤ f.length := by
  unfold Lib.trimSuffix
  split
  · simp
  · exact Nat.le_refl _
theorem trimPrefix_len (f : List UInt8) : (Lib.trimPrefix f Tx.netB).length ≤ f.length := by
  unfold Lib.trimPrefix
  split
  · simp
  · exact Nat.le_refl _
theorem headS_num (l : List UInt8) : Tx.headS l = match numOf (Lib.trimPrefix l Tx.netB) with | some p => if 0 ≤ p ∧ p ≤ 16 ∧ l = Tx.netB ++ Lib.itoa p then some p else none | none => none := by
  unfold Tx.headS numOf
  cases Lib.atoiAll (Lib.trimPrefix l Tx.netB) <;> rfl

theorem mem_flat_len {f : List UInt8} : ∀ {ls : List (List UInt8)}, f ∈ ls → f.length ≤ ls.flatten.length
  | x :: ls, h => by
    rw [List.flatten_cons, List.length_append]
    rcases List.mem_cons.1 h with e | e
    · subst e; omega
    · have := mem_flat_len e; omega
/-- what Parse hands back. -/
def parseR (w : World) (r : Tx.Res) (e : Ending) (w' : World) : Prop :=
  Below w.heap.size w w' ∧ if r.ok = true then ∃ A c, e = .returned (.tuple #[.agg #[.int .i64 r.net.places, .slice A r.net.trans.length c], .int .i64 0, .int .i64 0]) ∧ TrsAt w' w'.heap.size A r.net.trans.length r.net.trans
    else e = .returned (.tuple #[.agg #[.int .i64 0, .slice none 0 0], .int .i64 r.line, .int .i64 1])
theorem parse_no {w w' : World} {r : Tx.Res} {k : Nat} (h : r = Tx.noNet k) (hb : Below w.heap.size w w') : parseR w r (.returned (.tuple #[.agg #[.int .i64 0, .slice none 0 0], .int .i64 k, .int .i64 1])) w' := by
  subst h; exact ⟨hb, rfl⟩
theorem parse_yes {w w' : World} {r : Tx.Res} {n : Tx.Nt} {A : Option Addr} {c : Nat} (h : r = ⟨n, 0, true⟩) (hb : Below w.heap.size w w') {B : Nat} (hown : Owns w' B (.slice A n.trans.length c) n.trans) :
    parseR w r (.returned (.tuple #[.agg #[.int .i64 n.places, .slice A n.trans.length c], .int .i64 0, .int .i64 0])) w' := by
  subst h; exact ⟨hb, A, c, rfl, hown.at⟩

/-- what holds at the head of round k. -/
def PRel (w : World) (R N A : Nat) (ls : List (List UInt8)) (res : Tx.Res) (k : Nat) (wr : World) : Prop :=
  ∃ (q : Nat) (ts : List Tx.Tr) (v : Value), Tx.parseGo k ⟨q, ts⟩ (ls.drop k) = res ∧ Blk2 wr R (.int .i64 0) (.slice none 0 0) ∧ Blk2 wr N (.int .i64 q) v ∧ Owns wr (w.heap.size + 2) v ts ∧ Strs wr A ls ∧ Below w.heap.size w wr ∧ q ≤ 16 ∧ ts.length ≤ k

theorem Strs.grown {w w' : World} {A : Nat} {fs : List (List UInt8)} (h : Strs w A fs) {row : Option Nat} (hg : w.grownBy w' row) (hr : row ≠ some A) : Strs w' A fs :=
  ⟨Nat.lt_of_lt_of_le h.1 hg.size, fun j x hx => (World.cell?_of_block (hg.block A h.1 (fun e => hr e.symm))).trans (h.2 j x hx)⟩
theorem own_ge {w : World} {B : Nat} {v : Value} {n : Nat} {xs : List Value} (hown : w.ownsRow B 41 3 v n xs) : ∀ b, v.ownBlock = some b → B ≤ b := by
  intro b hb
  rcases hown.2 with ⟨rfl, _⟩ | ⟨g, cap, cur, rfl, hB, _⟩
  · simp [Value.ownBlock] at hb
  · simp only [Value.ownBlock, Option.some.injEq] at hb
    omega
theorem parse_head {w w5 : World} {R N A q z : Nat} {ls : List (List UInt8)} {res : Tx.Res} {v : Value} (hgo : res = Tx.parseGo 1 ⟨(z : Int), []⟩ (ls.drop (0 + 1)))
    (hr : Blk2 w5 R (.int .i64 0) (.slice none 0 0)) (hn : Blk2 w5 N (.int .i64 q) v) (ho : Owns w5 (w.heap.size + 2) v []) (hs : Strs w5 A ls) (hb : Below w.heap.size w w5) (hz : z ≤ 16) (h1 : R < N) (h2 : A < N) (h3 : w.heap.size ≤ N) :
    PRel w R N A ls res 1 (w5.setCell ⟨N, 0, none⟩ (.int .i64 z)) :=
  ⟨z, [], v, hgo.symm, hr.far (by simp; omega) _, hn.set0 _, ho.set hn 0 _, ⟨by simpa [World.setCell] using hs.1, fun j x hx => by
    rw [World.cell?_setCell_other _ _ _ _ (by intro e; injection e with e _; omega)]
    exact hs.2 j x hx⟩, hb.setCell (p := ⟨N, 0, none⟩) h3 _, hz, by simp⟩
theorem blk_push {W W2 w5 : World} {B N : Nat} {x y : Value} {v : Value} {n : Nat} {xs : List Value} (hn : Blk2 W N x y) (hW : Below W.heap.size W W2) (hrow : W.ownsRow B 41 3 v n xs) (hg : W2.grownBy w5 v.ownBlock) : Blk2 w5 N x y :=
  (hn.below hW).grown hg (own_ne (owns_below hrow hW) (hn.below hW) (by decide))
theorem append_tr {w W W2 w5 : World} {R N A q k g1 g2 : Nat} {ls : List (List UInt8)} {res : Tx.Res} {v v' : Value} {ts : List Tx.Tr} {gs : List (Nat × Nat)} {t : Tx.Tr}
    (hr : Blk2 W R (.int .i64 0) (.slice none 0 0)) (hn : Blk2 W N (.int .i64 q) v) (hs : Strs W A ls) (hb : Below w.heap.size w W) (hz : w.heap.size ≤ W.heap.size) (hgl : gs.length = ts.length) (hrow : W.ownsRow (w.heap.size + 2) 41 3 v ts.length (tsCells ts gs))
    (hall : ∀ (i : Nat) (t : Tx.Tr) (g : Nat × Nat), ts[i]? = some t → gs[i]? = some g → RowInts W g.1 t.pre ∧ RowInts W g.2 t.post ∧ t.pre.length ≤ 16 ∧ t.post.length ≤ 16) (hx1 : RowInts W g1 t.pre) (hx2 : RowInts W g2 t.post) (h16 : t.pre.length ≤ 16 ∧ t.post.length ≤ 16)
    (hW : Below W.heap.size W W2) (hg : W2.grownBy w5 v.ownBlock) (hown : w5.ownsRow (w.heap.size + 2) 41 3 v' (ts.length + 1) (tsCells ts gs ++ trCells t (g1, g2)))
    (h1 : R < N) (h2 : A < N) (h3 : w.heap.size ≤ N) (h4 : A < w.heap.size + 2) (hgo : res = Tx.parseGo (k + 1) ⟨(q : Int), ts ++ [t]⟩ (ls.drop (k + 1))) (hq : q ≤ 16) (hk : ts.length ≤ k) :
    PRel w R N A ls res (k + 1) (w5.setCell ⟨N, 1, none⟩ v') := by
  have hrow2 := owns_below hrow hW
  have hb2 : Below w.heap.size w W2 := hb.trans (hW.mono hz)
  have hb5 : Below w.heap.size w w5 := hb2.grown hg (Nat.le_trans hz hW.size) (fun b e => by have := own_ge hrow2 b e; omega)
  have hn5 : Blk2 w5 N (.int .i64 q) v := blk_push hn hW hrow hg
  have hr5 : Blk2 w5 R (.int .i64 0) (.slice none 0 0) := blk_push hr hW hrow hg
  have hs5 : Strs w5 A ls := (hs.below hW).grown hg (fun e => by have := own_ge hrow2 A e; omega)
  have ho5 : Owns w5 (w.heap.size + 2) v' (ts ++ [t]) := Owns.push hgl hrow2 (fun i t g a b => ⟨(hall i t g a b).1.below hW, (hall i t g a b).2.1.below hW, (hall i t g a b).2.2⟩) (hx1.below hW) (hx2.below hW) h16 hown hg
  exact ⟨q, ts ++ [t], v', hgo.symm, hr5.far (by simp; omega) _, hn5.set1 _, ho5.set hn5 1 _, ⟨by simpa [World.setCell] using hs5.1, fun j x hx => by
    rw [World.cell?_setCell_other _ _ _ _ (by intro e; injection e with e _; omega)]
    exact hs5.2 j x hx⟩, hb5.setCell (p := ⟨N, 1, none⟩) h3 _, hq, by simp; omega⟩
theorem head_eq (l : List UInt8) (z : Nat) : (l == (({ data := #[110, 101, 116, 32] } : ByteArray) ++ { data := (Lib.decDigits z).toArray }).toList) = decide (l = Tx.netB ++ Lib.itoa (z : Int)) := by
  have e : ((({ data := #[110, 101, 116, 32] } : ByteArray) ++ { data := (Lib.decDigits z).toArray }).toList) = Tx.netB ++ Lib.itoa (z : Int) := by rw [Lib.toList_data, itoa_nat]; simp [Tx.netB]
  rw [e]
  by_cases h : l = Tx.netB ++ Lib.itoa (z : Int) <;> simp [h]
theorem news3 (W : World) (x y z : Value) : ∀ (j : Nat) (u : Value), [x, y, z][j]? = some u → (W.alloc (.cells #[x, y, z] 41)).cell? ((⟨W.heap.size, 0, none⟩ : Addr).add j) = some u := by
  intro j u h
  have hb := Blk3.new W x y z
  have hj : j < 3 := (List.getElem?_eq_some_iff.1 h).1
  have e : (⟨W.heap.size, 0, none⟩ : Addr).add j = ⟨W.heap.size, j, none⟩ := by
    unfold Addr.add
    split
    · rename_i h0; rw [h0]
    · simp
  rw [e, ← h]
  obtain ⟨c0, c1, c2, _⟩ := hb.cells
  match j, hj with
  | 0, _ => exact c0
  | 1, _ => exact c1
  | 2, _ => exact c2
theorem trim_no {f : List UInt8} (h : Lib.hasSuffix f [10] = false) : Lib.trimSuffix f [10] = f := by unfold Lib.trimSuffix; rw [if_neg (by simp [h])]
theorem whole_ne {f : List UInt8} (h : Lib.hasSuffix f [10] = true) : f ≠ [] := by rintro rfl; exact absurd h (by decide)
section
variable {k : Nat} {n : Tx.Nt} {f l : List UInt8} {r : List (List UInt8)}
theorem go_end (hk : 0 < k) : Tx.parseGo k n ([] :: r) = ⟨n, 0, true⟩ := by rw [Tx.parseGo, if_pos ⟨hk, rfl⟩]
theorem go_notwhole (h : ¬ (0 < k ∧ f = [])) (hw : Lib.hasSuffix f [10] = false) : Tx.parseGo k n (f :: r) = Tx.noNet k := by rw [Tx.parseGo, if_neg h, if_pos (.inl hw)]
theorem go_many (h : f ≠ []) (hk : 24 < k) : Tx.parseGo k n (f :: r) = Tx.noNet k := by rw [Tx.parseGo, if_neg (fun x => h x.2), if_pos (.inr hk)]
theorem go_head_no (h : f ≠ []) (hw : Lib.hasSuffix f [10] = true) (hl : Lib.trimSuffix f [10] = l) (hh : Tx.headS l = none) : Tx.parseGo 0 n (f :: r) = Tx.noNet 0 := by
  rw [Tx.parseGo, if_neg (fun x => h x.2), if_neg (by simp [hw]), if_pos rfl, hl, hh]
theorem go_head_yes {p : Int} (h : f ≠ []) (hw : Lib.hasSuffix f [10] = true) (hl : Lib.trimSuffix f [10] = l) (hh : Tx.headS l = some p) : Tx.parseGo 0 n (f :: r) = Tx.parseGo 1 ⟨p, n.trans⟩ r := by
  rw [Tx.parseGo, if_neg (fun x => h x.2), if_neg (by simp [hw]), if_pos rfl, hl, hh]
theorem go_tran_no (hk : 0 < k) (h24 : ¬ 24 < k) (h : f ≠ []) (hw : Lib.hasSuffix f [10] = true) (hl : Lib.trimSuffix f [10] = l) (hh : Tx.tranS n.places.toNat l = none) : Tx.parseGo k n (f :: r) = Tx.noNet k := by
  rw [Tx.parseGo, if_neg (fun x => h x.2), if_neg (by simp [hw]; omega), if_neg (by omega), hl, hh]
theorem go_tran_yes {t : Tx.Tr} (hk : 0 < k) (h24 : ¬ 24 < k) (h : f ≠ []) (hw : Lib.hasSuffix f [10] = true) (hl : Lib.trimSuffix f [10] = l) (hh : Tx.tranS n.places.toNat l = some t) : Tx.parseGo k n (f :: r) = Tx.parseGo (k + 1) ⟨n.places, n.trans ++ [t]⟩ r := by
  rw [Tx.parseGo, if_neg (fun x => h x.2), if_neg (by simp [hw]; omega), if_neg (by omega), hl, hh]
end

theorem info41 : (Tryd.prog.info? 41).map (fun i => (i.zero, i.size, i.bytes)) = some (some (.agg #[.int .i64 0, .slice none 0 0, .slice none 0 0]), 3, 56) := by kernel_rfl

set_option maxRecDepth 100000 in
set_option maxHeartbeats 8000000 in
theorem parse_any (s : List UInt8) (w : World) (hs : s.length < 4294967281) (hg : Glob w) :
    Calls Tryd.prog 7 #[.string ⟨s.toArray⟩] w (parseR w (Tx.parseS s)) := by
  obtain ⟨i0, hi, hz0, hz1, hz2⟩ := info_parts info41
  have HG := Lib.hid hg
  have HR0 := Lib.hid (Blk2.new w (.int .i64 0) (.slice none 0 0))
  have HLF := Lib.hid (Tx.linesS_flat s)
  have hcnt := Tx.linesS_len s
  have hcc : s.count 10 ≤ s.length := List.count_le_length
  have HP := Lib.hid (show Tx.parseS s = Tx.parseGo 0 ⟨(0 : Nat), []⟩ (Tx.linesS s) from rfl)
  clear hg
  go_enter Tryd.func7, Tryd.ntmps7
  go_wp2_with fail
  refine (lines_any s _ hs (HG.out.below ((Below.refl _ w).alloc (Nat.le_refl _) _))).mono ?_
  rintro e w1 ⟨rfl, hst, hb1⟩
  rw [World.size_alloc] at hst
  have hAN := hst.1
  have HB1 := Lib.hid (((Below.refl w.heap.size w).alloc (Nat.le_refl _) _).trans (hb1.mono (by simp)))
  have HR1 := Lib.hid (HR0.out.below hb1)
  have HST1 := Lib.hid hst
  have hzz := hb1.size
  simp only [World.size_alloc] at hzz
  clear hb1 hst
  obtain ⟨ls, hls⟩ : ∃ ls, Tx.linesS s = ls := ⟨_, rfl⟩
  rw [hls] at HLF HP HST1 hcnt ⊢
  have hln : ls.length ≤ 4294967281 := by omega
  have HFL := Lib.hid (show ∀ f ∈ ls, f.length ≤ s.length from fun f hf => by
    have := mem_flat_len hf
    rwa [HLF.out] at this)
  clear hcnt hcc hls
  go_wp2_with fail
  have HN0 := Lib.hid (Blk2.new w1 (.int .i64 0) (.slice none 0 0))

  go_loopw [20] (fun i wr => ∃ k : Nat, k ≤ ls.length ∧ i = .int .i64 k ∧ PRel w w.heap.size w1.heap.size (w.heap.size + 1) ls (Tx.parseS s) k wr) (fun i _ => ls.length - (intOf i).toNat)
  case atStart => exact ⟨0, Nat.zero_le _, rfl, 0, [], _, HP.out.symm, HR1.out.below ((Below.refl _ w1).alloc (Nat.le_refl _) _), HN0.out, Owns.nil _ _, HST1.out.below ((Below.refl _ w1).alloc (Nat.le_refl _) _), HB1.out.alloc (by omega) _, by omega, by simp⟩
  case round =>
    obtain ⟨k, hk, rfl, q, ts, v, hgo, hr, hn, hown, hst, hbel, hq, htl⟩ := hrel
    have HRR := Lib.hid hr
    have HNN := Lib.hid hn
    have HOW := Lib.hid hown
    have HSS := Lib.hid hst
    have HBE := Lib.hid hbel
    have hzr : w1.heap.size < wr.heap.size := hn.lt
    obtain ⟨Av, cv, rfl⟩ := hown.form
    clear hr hown hst hbel hn
    by_cases hlt : k < ls.length
    · obtain ⟨f, hf⟩ : ∃ f, ls[k]? = some f := ⟨_, List.getElem?_eq_getElem hlt⟩
      have hcf := HSS.out.2 k f hf
      have hfl : f.length < 4294967281 := by have := HFL.out f (List.mem_of_getElem? hf); omega
      have hdrop : ls.drop k = f :: ls.drop (k + 1) := Lib.drop_at hf
      rw [hdrop] at hgo
      have HGO := Lib.hid hgo
      clear hgo hdrop hf
      obtain ⟨l, hl⟩ : ∃ l, Lib.trimSuffix f [10] = l := ⟨_, rfl⟩
      obtain ⟨whole, hwh⟩ : ∃ b, Lib.hasSuffix f [10] = b := ⟨_, rfl⟩
      have hll : l.length ≤ f.length := by rw [← hl]; exact trimSuffix_len f
      have HL := Lib.hid hl
      have HW := Lib.hid hwh
      clear hl hwh
      obtain ⟨c0, c1, f0, f1⟩ := HNN.out.cells
      obtain ⟨d0, d1, e0, e1⟩ := HRR.out.cells
      go_wp2_with fail
      refine (suffix_any (f := f) _ hfl HL.out HW.out).mono ?_
      rintro e w2 ⟨rfl, rfl⟩
      cases whole with
      | false =>
        have HLF2 := Lib.hid (trim_no HW.out)
        have hlf : l = f := HL.out.symm.trans HLF2.out
        subst hlf
        by_cases hk0 : k = 0
        · subst hk0
          go_wp2_with fail
          refine (no_any 0 _).mono ?_
          rintro e w9 ⟨rfl, hb9⟩
          have HR9 := Lib.hid (HRR.out.below hb9)
          have HB9 := Lib.hid (HBE.out.trans (hb9.mono HBE.out.size))
          clear hb9 d0 d1 e0 e1
          obtain ⟨d0, d1, e0, e1⟩ := HR9.out.cells
          go_wp2_with fail
          exact bodyPost_ret (v := .tuple #[.agg #[.int .i64 0, .slice none 0 0], .int .i64 (0 : Nat), .int .i64 1]) (by simp [results, Tryd.results7, go_sem, *]) rfl (parse_no (k := 0) (HGO.out.symm.trans (go_notwhole (by simp) HW.out)) (by repeat (first | exact HB9.out | refine Below.setCell ?_ (by first | exact Nat.le_refl _ | omega) _)))
        have hkp : 0 < k := by omega
        clear hk0
        cases l with
        | nil =>
          have HOW2 := Lib.hid ((HOW.out.set HRR.out 0 (.int .i64 q)).set (HRR.out.set0 (.int .i64 q)) 1 (.slice Av ts.length cv))
          have hne : ¬ w.heap.size = w1.heap.size := by omega
          have hne' : ¬ w1.heap.size = w.heap.size := by omega
          go_wp2_with fail
          exact bodyPost_ret (v := .tuple #[.agg #[.int .i64 q, .slice Av ts.length cv], .int .i64 0, .int .i64 0]) (by simp [results, Tryd.results7, go_sem, *]) rfl (parse_yes (n := ⟨q, ts⟩) (HGO.out.symm.trans (go_end hkp)) (by repeat (first | exact HBE.out | refine Below.setCell ?_ (by first | exact Nat.le_refl _ | omega) _)) HOW2.out)
        | cons x r =>
          go_wp2_with fail
          refine (no_any k _).mono ?_
          rintro e w9 ⟨rfl, hb9⟩
          have HR9 := Lib.hid (HRR.out.below hb9)
          have HB9 := Lib.hid (HBE.out.trans (hb9.mono HBE.out.size))
          clear hb9 d0 d1 e0 e1
          obtain ⟨d0, d1, e0, e1⟩ := HR9.out.cells
          go_wp2_with fail
          exact bodyPost_ret (v := .tuple #[.agg #[.int .i64 0, .slice none 0 0], .int .i64 k, .int .i64 1]) (by simp [results, Tryd.results7, go_sem, *]) rfl (parse_no (k := k) (HGO.out.symm.trans (go_notwhole (by simp) HW.out)) (by repeat (first | exact HB9.out | refine Below.setCell ?_ (by first | exact Nat.le_refl _ | omega) _)))
      | true =>
        have hfne : f ≠ [] := whole_ne HW.out
        have HFNE := Lib.hid hfne
        clear hfne
        by_cases hk0 : k = 0
        · subst hk0
          have hts : ts = [] := List.eq_nil_of_length_eq_zero (by omega)
          subst hts
          obtain ⟨x, hx⟩ : ∃ x, Lib.trimPrefix l Tx.netB = x := ⟨_, rfl⟩
          have hxl : x.length ≤ l.length := by rw [← hx]; exact trimPrefix_len l
          have HX := Lib.hid hx
          have HHD := Lib.hid (headS_num l)
          clear hx
          go_wp2_with fail
          refine (prefix_any (l := l) _ HX.out).mono ?_
          rintro e w3 ⟨rfl, rfl⟩
          go_wp2_with fail
          cases hnum : numOf x with
          | none =>
            have HNU := Lib.hid (numOf_none hnum)
            have HHN := Lib.hid (show Tx.headS l = none by rw [HHD.out, HX.out, hnum])
            clear hnum
            refine (atoi_no (s := x) _ (by omega) (HG.out.below HBE.out) HNU.out).mono ?_
            rintro e w4 ⟨⟨y, N, rfl⟩, hb4⟩
            have HR4 := Lib.hid (HRR.out.below hb4)
            have HB4 := Lib.hid (HBE.out.trans (hb4.mono HBE.out.size))
            clear hb4
            go_wp2_with fail
            refine (no_any 0 _).mono ?_
            rintro e w9 ⟨rfl, hb9⟩
            have HR9 := Lib.hid (HR4.out.below hb9)
            have HB9 := Lib.hid (HB4.out.trans (hb9.mono HB4.out.size))
            clear hb9 d0 d1 e0 e1
            obtain ⟨d0, d1, e0, e1⟩ := HR9.out.cells
            go_wp2_with fail
            exact bodyPost_ret (v := .tuple #[.agg #[.int .i64 0, .slice none 0 0], .int .i64 (0 : Nat), .int .i64 1]) (by simp [results, Tryd.results7, go_sem, *]) rfl (parse_no (k := 0) (HGO.out.symm.trans (go_head_no HFNE.out HW.out HL.out HHN.out)) (by repeat (first | exact HB9.out | refine Below.setCell ?_ (by first | exact Nat.le_refl _ | omega) _)))
          | some p =>
            have HNU := Lib.hid (numOf_some hnum)
            have HHN := Lib.hid (show Tx.headS l = if 0 ≤ p ∧ p ≤ 16 ∧ l = Tx.netB ++ Lib.itoa p then some p else none by rw [HHD.out, HX.out, hnum])
            clear hnum
            refine (atoi_ok (s := x) _ (by omega) HNU.out).mono ?_
            rintro e w4 ⟨rfl, hb4⟩
            have HR4 := Lib.hid (HRR.out.below hb4)
            have HN4 := Lib.hid (HNN.out.below hb4)
            have HS4 := Lib.hid (HSS.out.below hb4)
            have HO4 := Lib.hid (HOW.out.below hb4)
            have HB4 := Lib.hid (HBE.out.trans (hb4.mono HBE.out.size))
            clear hb4
            by_cases r1 : p < 0
            · have HHX := Lib.hid (show Tx.headS l = none by rw [HHN.out, if_neg (by omega)])
              go_wp2_with fail
              refine (no_any 0 _).mono ?_
              rintro e w9 ⟨rfl, hb9⟩
              have HR9 := Lib.hid (HR4.out.below hb9)
              have HB9 := Lib.hid (HB4.out.trans (hb9.mono HB4.out.size))
              clear hb9 d0 d1 e0 e1
              obtain ⟨d0, d1, e0, e1⟩ := HR9.out.cells
              go_wp2_with fail
              exact bodyPost_ret (v := .tuple #[.agg #[.int .i64 0, .slice none 0 0], .int .i64 (0 : Nat), .int .i64 1]) (by simp [results, Tryd.results7, go_sem, *]) rfl (parse_no (k := 0) (HGO.out.symm.trans (go_head_no HFNE.out HW.out HL.out HHX.out)) (by repeat (first | exact HB9.out | refine Below.setCell ?_ (by first | exact Nat.le_refl _ | omega) _)))
            by_cases r2 : 16 < p
            · have HHX := Lib.hid (show Tx.headS l = none by rw [HHN.out, if_neg (by omega)])
              go_wp2_with fail
              refine (no_any 0 _).mono ?_
              rintro e w9 ⟨rfl, hb9⟩
              have HR9 := Lib.hid (HR4.out.below hb9)
              have HB9 := Lib.hid (HB4.out.trans (hb9.mono HB4.out.size))
              clear hb9 d0 d1 e0 e1
              obtain ⟨d0, d1, e0, e1⟩ := HR9.out.cells
              go_wp2_with fail
              exact bodyPost_ret (v := .tuple #[.agg #[.int .i64 0, .slice none 0 0], .int .i64 (0 : Nat), .int .i64 1]) (by simp [results, Tryd.results7, go_sem, *]) rfl (parse_no (k := 0) (HGO.out.symm.trans (go_head_no HFNE.out HW.out HL.out HHX.out)) (by repeat (first | exact HB9.out | refine Below.setCell ?_ (by first | exact Nat.le_refl _ | omega) _)))
            obtain ⟨z, hz⟩ := Int.eq_ofNat_of_zero_le (by omega : 0 ≤ p)
            subst hz
            have hz16 : z ≤ 16 := by omega
            have hdl := dec_len z (by omega)
            clear r1 r2 c0 c1 f0 f1 d0 d1 e0 e1
            obtain ⟨c0, c1, f0, f1⟩ := HN4.out.cells
            obtain ⟨d0, d1, e0, e1⟩ := HR4.out.cells
            have HEQ := Lib.hid (head_eq l z)
            by_cases hlz : l = Tx.netB ++ Lib.itoa (z : Int)
            · have hbz : (l == (({ data := #[110, 101, 116, 32] } : ByteArray) ++ { data := (Lib.decDigits z).toArray }).toList) = true := by rw [HEQ.out]; simpa using hlz
              have HHX := Lib.hid (show Tx.headS l = some (z : Int) by rw [HHN.out, if_pos ⟨by omega, by omega, hlz⟩])
              clear hlz
              go_wp2_with (go_at_call 18; refine (Tryd.strconv_Itoa_small _ (by omega) _).mono ?_; rintro e w5 ⟨rfl, hw5⟩; subst hw5)
              go_roundw
              case rel => exact ⟨1, by omega, by simp, parse_head (HGO.out.symm.trans (go_head_yes HFNE.out HW.out HL.out HHX.out)) HR4.out HN4.out HO4.out HS4.out HB4.out hz16 (by omega) (by omega) (by omega)⟩
              case measure => simp [intOf]; omega
            · have hbz : (l == (({ data := #[110, 101, 116, 32] } : ByteArray) ++ { data := (Lib.decDigits z).toArray }).toList) = false := by rw [HEQ.out]; simpa using hlz
              have HHX := Lib.hid (show Tx.headS l = none by rw [HHN.out, if_neg (fun x => hlz x.2.2)])
              clear hlz
              go_wp2_with (go_at_call 18; refine (Tryd.strconv_Itoa_small _ (by omega) _).mono ?_; rintro e w5 ⟨rfl, hw5⟩; subst hw5)
              go_wp2_with fail
              refine (no_any 0 _).mono ?_
              rintro e w9 ⟨rfl, hb9⟩
              have HR9 := Lib.hid (HR4.out.below hb9)
              have HB9 := Lib.hid (HB4.out.trans (hb9.mono HB4.out.size))
              clear hb9 d0 d1 e0 e1
              obtain ⟨d0, d1, e0, e1⟩ := HR9.out.cells
              go_wp2_with fail
              exact bodyPost_ret (v := .tuple #[.agg #[.int .i64 0, .slice none 0 0], .int .i64 (0 : Nat), .int .i64 1]) (by simp [results, Tryd.results7, go_sem, *]) rfl (parse_no (k := 0) (HGO.out.symm.trans (go_head_no HFNE.out HW.out HL.out HHX.out)) (by repeat (first | exact HB9.out | refine Below.setCell ?_ (by first | exact Nat.le_refl _ | omega) _)))
        have hkp : 0 < k := by omega
        clear hk0
        by_cases h24 : 24 < k
        · cases l with
          | nil =>
            go_wp2_with fail
            refine (no_any k _).mono ?_
            rintro e w9 ⟨rfl, hb9⟩
            have HR9 := Lib.hid (HRR.out.below hb9)
            have HB9 := Lib.hid (HBE.out.trans (hb9.mono HBE.out.size))
            clear hb9 d0 d1 e0 e1
            obtain ⟨d0, d1, e0, e1⟩ := HR9.out.cells
            go_wp2_with fail
            exact bodyPost_ret (v := .tuple #[.agg #[.int .i64 0, .slice none 0 0], .int .i64 k, .int .i64 1]) (by simp [results, Tryd.results7, go_sem, *]) rfl (parse_no (k := k) (HGO.out.symm.trans (go_many HFNE.out h24)) (by repeat (first | exact HB9.out | refine Below.setCell ?_ (by first | exact Nat.le_refl _ | omega) _)))
          | cons x r =>
            go_wp2_with fail
            refine (no_any k _).mono ?_
            rintro e w9 ⟨rfl, hb9⟩
            have HR9 := Lib.hid (HRR.out.below hb9)
            have HB9 := Lib.hid (HBE.out.trans (hb9.mono HBE.out.size))
            clear hb9 d0 d1 e0 e1
            obtain ⟨d0, d1, e0, e1⟩ := HR9.out.cells
            go_wp2_with fail
            exact bodyPost_ret (v := .tuple #[.agg #[.int .i64 0, .slice none 0 0], .int .i64 k, .int .i64 1]) (by simp [results, Tryd.results7, go_sem, *]) rfl (parse_no (k := k) (HGO.out.symm.trans (go_many HFNE.out h24)) (by repeat (first | exact HB9.out | refine Below.setCell ?_ (by first | exact Nat.le_refl _ | omega) _)))
        cases l with
        | nil =>
          go_wp2_with fail
          refine (tran_any [] q _ hq (by omega) (HG.out.below HBE.out)).mono ?_
          rintro e w3 ⟨hb3, hm3⟩
          have HR3 := Lib.hid (HRR.out.below hb3)
          have HN3 := Lib.hid (HNN.out.below hb3)
          have HS3 := Lib.hid (HSS.out.below hb3)
          have HO3 := Lib.hid (HOW.out.below hb3)
          have HB3 := Lib.hid (HBE.out.trans (hb3.mono HBE.out.size))
          have hz3 := hb3.size
          clear hb3
          cases htr : Tx.tranS q [] with
          | none =>
            rw [htr] at hm3
            have HTR := Lib.hid htr
            clear htr
            subst hm3
            have HR4 := Lib.hid (HR3.out.below ((Below.refl _ w3).alloc (Nat.le_refl _) (.cells #[.int .i64 0, .slice none 0 0, .slice none 0 0] 41)))
            have HB4 := Lib.hid (HB3.out.alloc (by omega) (.cells #[.int .i64 0, .slice none 0 0, .slice none 0 0] 41))
            go_wp2_with fail
            refine (no_any k _).mono ?_
            rintro e w9 ⟨rfl, hb9⟩
            have HR9 := Lib.hid (HR4.out.below hb9)
            have HB9 := Lib.hid (HB4.out.trans (hb9.mono HB4.out.size))
            clear hb9 d0 d1 e0 e1
            obtain ⟨d0, d1, e0, e1⟩ := HR9.out.cells
            go_wp2_with fail
            exact bodyPost_ret (v := .tuple #[.agg #[.int .i64 0, .slice none 0 0], .int .i64 k, .int .i64 1]) (by simp [results, Tryd.results7, go_sem, *]) rfl (parse_no (k := k) (HGO.out.symm.trans (go_tran_no hkp h24 HFNE.out HW.out HL.out HTR.out)) (by repeat (first | exact HB9.out | refine Below.setCell ?_ (by first | exact Nat.le_refl _ | omega) _)))
          | some t =>
            rw [htr] at hm3
            have HTR := Lib.hid htr
            clear htr
            obtain ⟨g1, g2, rfl, hg1, hg2, hx1, hx2⟩ := hm3
            have HOK := Lib.hid (Tx.trOk_of (Tx.tranS_ok HTR.out).2)
            obtain ⟨gs, hgl, hrow, hall⟩ := HO3.out
            have HAP := Lib.hid (fun (W2 w5 : World) (v' : Value) => append_tr (res := Tx.parseS s) (W := w3) (W2 := W2) (w5 := w5) (v' := v') (k := k) (g1 := g1) (g2 := g2) (t := t) HR3.out HN3.out HS3.out HB3.out (by omega) hgl hrow hall hx1 hx2 ⟨by rw [HOK.out.pre]; exact hq, by rw [HOK.out.post]; exact hq⟩)
            have HRW := Lib.hid hrow
            have HROW := Lib.hid ((owns_below hrow ((Below.refl _ w3).alloc (Nat.le_refl _) (.cells #[.int .i64 t.label, .slice (some ⟨g1, 0, none⟩) t.pre.length t.pre.length, .slice (some ⟨g2, 0, none⟩) t.post.length t.post.length] 41))))
            have HROW2 := Lib.hid (owns_below HROW.out ((Below.refl _ _).alloc (Nat.le_refl _) (.cells #[.int .i64 t.label, .slice (some ⟨g1, 0, none⟩) t.pre.length t.pre.length, .slice (some ⟨g2, 0, none⟩) t.post.length t.post.length] 41)))
            have HNEW := Lib.hid (news3 (w3.alloc (.cells #[.int .i64 t.label, .slice (some ⟨g1, 0, none⟩) t.pre.length t.pre.length, .slice (some ⟨g2, 0, none⟩) t.post.length t.post.length] 41)) (.int .i64 t.label) (.slice (some ⟨g1, 0, none⟩) t.pre.length t.pre.length) (.slice (some ⟨g2, 0, none⟩) t.post.length t.post.length))
            clear c0 c1 f0 f1 d0 d1 e0 e1 hgl hrow hall hx1 hx2 hg1 hg2
            obtain ⟨c0, c1, f0, f1⟩ := HN3.out.cells
            have hN3 := HN3.out.lt
            go_wp2_with (at_builtin; refine wpList_append_own _ rfl (.tmp 46) (.tmp 48) 23 rfl (w.heap.size + 2) 41 i0 _ 3 56 Tryd.underlying23 hi hz0 hz1 hz2 rfl (by decide) (.slice Av ts.length cv) ts.length (tsCells ts gs) rfl HROW2.out ⟨w3.heap.size + 1, 0, none⟩ 1 1 (trCells t (g1, g2)) rfl rfl ?c1 ?c2 ?c3 ?c4 ?c5 ?_)
            case c1 => have hnw := HNEW.out; simp only [World.size_alloc] at hnw; exact hnw
            case c2 => intro u hu; simp only [trCells, List.mem_cons, List.not_mem_nil, or_false] at hu; rcases hu with rfl | rfl | rfl <;> rfl
            case c3 => simp only [maxLen]; omega
            case c4 => omega
            case c5 => simp; omega
            intro v5 w5 hown5 hgrow5 _
            obtain ⟨g5, cap5, rfl⟩ := ownsRow_succ hown5
            have HWW := Lib.hid (((Below.refl w3.heap.size w3).alloc (Nat.le_refl _) (.cells #[.int .i64 t.label, .slice (some ⟨g1, 0, none⟩) t.pre.length t.pre.length, .slice (some ⟨g2, 0, none⟩) t.post.length t.post.length] 41)).alloc (by simp) (.cells #[.int .i64 t.label, .slice (some ⟨g1, 0, none⟩) t.pre.length t.pre.length, .slice (some ⟨g2, 0, none⟩) t.post.length t.post.length] 41))
            have HGR := Lib.hid hgrow5
            have HWN := Lib.hid hown5
            have HN5 := Lib.hid (blk_push HN3.out HWW.out HRW.out hgrow5)
            clear hown5 hgrow5 c0 c1 f0 f1
            obtain ⟨c0, c1, f0, f1⟩ := HN5.out.cells
            have HGO2 := Lib.hid (HGO.out.symm.trans (go_tran_yes hkp h24 HFNE.out HW.out HL.out HTR.out))
            go_wp2_with fail
            go_roundw
            case rel => exact ⟨k + 1, by omega, by go_num, HAP.out _ _ _ HWW.out HGR.out HWN.out (by omega) (by omega) (by omega) (by omega) HGO2.out hq (by omega)⟩
            case measure => simp [intOf]; omega
        | cons x r =>
          go_wp2_with fail
          refine (tran_any (x :: r) q _ hq (by omega) (HG.out.below HBE.out)).mono ?_
          rintro e w3 ⟨hb3, hm3⟩
          have HR3 := Lib.hid (HRR.out.below hb3)
          have HN3 := Lib.hid (HNN.out.below hb3)
          have HS3 := Lib.hid (HSS.out.below hb3)
          have HO3 := Lib.hid (HOW.out.below hb3)
          have HB3 := Lib.hid (HBE.out.trans (hb3.mono HBE.out.size))
          have hz3 := hb3.size
          clear hb3
          cases htr : Tx.tranS q (x :: r) with
          | none =>
            rw [htr] at hm3
            have HTR := Lib.hid htr
            clear htr
            subst hm3
            have HR4 := Lib.hid (HR3.out.below ((Below.refl _ w3).alloc (Nat.le_refl _) (.cells #[.int .i64 0, .slice none 0 0, .slice none 0 0] 41)))
            have HB4 := Lib.hid (HB3.out.alloc (by omega) (.cells #[.int .i64 0, .slice none 0 0, .slice none 0 0] 41))
            go_wp2_with fail
            refine (no_any k _).mono ?_
            rintro e w9 ⟨rfl, hb9⟩
            have HR9 := Lib.hid (HR4.out.below hb9)
            have HB9 := Lib.hid (HB4.out.trans (hb9.mono HB4.out.size))
            clear hb9 d0 d1 e0 e1
            obtain ⟨d0, d1, e0, e1⟩ := HR9.out.cells
            go_wp2_with fail
            exact bodyPost_ret (v := .tuple #[.agg #[.int .i64 0, .slice none 0 0], .int .i64 k, .int .i64 1]) (by simp [results, Tryd.results7, go_sem, *]) rfl (parse_no (k := k) (HGO.out.symm.trans (go_tran_no hkp h24 HFNE.out HW.out HL.out HTR.out)) (by repeat (first | exact HB9.out | refine Below.setCell ?_ (by first | exact Nat.le_refl _ | omega) _)))
          | some t =>
            rw [htr] at hm3
            have HTR := Lib.hid htr
            clear htr
            obtain ⟨g1, g2, rfl, hg1, hg2, hx1, hx2⟩ := hm3
            have HOK := Lib.hid (Tx.trOk_of (Tx.tranS_ok HTR.out).2)
            obtain ⟨gs, hgl, hrow, hall⟩ := HO3.out
            have HAP := Lib.hid (fun (W2 w5 : World) (v' : Value) => append_tr (res := Tx.parseS s) (W := w3) (W2 := W2) (w5 := w5) (v' := v') (k := k) (g1 := g1) (g2 := g2) (t := t) HR3.out HN3.out HS3.out HB3.out (by omega) hgl hrow hall hx1 hx2 ⟨by rw [HOK.out.pre]; exact hq, by rw [HOK.out.post]; exact hq⟩)
            have HRW := Lib.hid hrow
            have HROW := Lib.hid ((owns_below hrow ((Below.refl _ w3).alloc (Nat.le_refl _) (.cells #[.int .i64 t.label, .slice (some ⟨g1, 0, none⟩) t.pre.length t.pre.length, .slice (some ⟨g2, 0, none⟩) t.post.length t.post.length] 41))))
            have HROW2 := Lib.hid (owns_below HROW.out ((Below.refl _ _).alloc (Nat.le_refl _) (.cells #[.int .i64 t.label, .slice (some ⟨g1, 0, none⟩) t.pre.length t.pre.length, .slice (some ⟨g2, 0, none⟩) t.post.length t.post.length] 41)))
            have HNEW := Lib.hid (news3 (w3.alloc (.cells #[.int .i64 t.label, .slice (some ⟨g1, 0, none⟩) t.pre.length t.pre.length, .slice (some ⟨g2, 0, none⟩) t.post.length t.post.length] 41)) (.int .i64 t.label) (.slice (some ⟨g1, 0, none⟩) t.pre.length t.pre.length) (.slice (some ⟨g2, 0, none⟩) t.post.length t.post.length))
            clear c0 c1 f0 f1 d0 d1 e0 e1 hgl hrow hall hx1 hx2 hg1 hg2
            obtain ⟨c0, c1, f0, f1⟩ := HN3.out.cells
            have hN3 := HN3.out.lt
            go_wp2_with (at_builtin; refine wpList_append_own _ rfl (.tmp 46) (.tmp 48) 23 rfl (w.heap.size + 2) 41 i0 _ 3 56 Tryd.underlying23 hi hz0 hz1 hz2 rfl (by decide) (.slice Av ts.length cv) ts.length (tsCells ts gs) rfl HROW2.out ⟨w3.heap.size + 1, 0, none⟩ 1 1 (trCells t (g1, g2)) rfl rfl ?c1 ?c2 ?c3 ?c4 ?c5 ?_)
            case c1 => have hnw := HNEW.out; simp only [World.size_alloc] at hnw; exact hnw
            case c2 => intro u hu; simp only [trCells, List.mem_cons, List.not_mem_nil, or_false] at hu; rcases hu with rfl | rfl | rfl <;> rfl
            case c3 => simp only [maxLen]; omega
            case c4 => omega
            case c5 => simp; omega
            intro v5 w5 hown5 hgrow5 _
            obtain ⟨g5, cap5, rfl⟩ := ownsRow_succ hown5
            have HWW := Lib.hid (((Below.refl w3.heap.size w3).alloc (Nat.le_refl _) (.cells #[.int .i64 t.label, .slice (some ⟨g1, 0, none⟩) t.pre.length t.pre.length, .slice (some ⟨g2, 0, none⟩) t.post.length t.post.length] 41)).alloc (by simp) (.cells #[.int .i64 t.label, .slice (some ⟨g1, 0, none⟩) t.pre.length t.pre.length, .slice (some ⟨g2, 0, none⟩) t.post.length t.post.length] 41))
            have HGR := Lib.hid hgrow5
            have HWN := Lib.hid hown5
            have HN5 := Lib.hid (blk_push HN3.out HWW.out HRW.out hgrow5)
            clear hown5 hgrow5 c0 c1 f0 f1
            obtain ⟨c0, c1, f0, f1⟩ := HN5.out.cells
            have HGO2 := Lib.hid (HGO.out.symm.trans (go_tran_yes hkp h24 HFNE.out HW.out HL.out HTR.out))
            go_wp2_with fail
            go_roundw
            case rel => exact ⟨k + 1, by omega, by go_num, HAP.out _ _ _ HWW.out HGR.out HWN.out (by omega) (by omega) (by omega) (by omega) HGO2.out hq (by omega)⟩
            case measure => simp [intOf]; omega
    · have hke : k = ls.length := by omega
      have HE := Lib.hid (show Tx.parseS s = ⟨⟨q, ts⟩, 0, true⟩ by rw [← hgo, hke, List.drop_length]; rfl)
      clear hgo
      obtain ⟨c0, c1, f0, f1⟩ := HNN.out.cells
      obtain ⟨d0, d1, e0, e1⟩ := HRR.out.cells
      have HOW2 := Lib.hid ((HOW.out.set HRR.out 0 (.int .i64 q)).set (HRR.out.set0 (.int .i64 q)) 1 (.slice Av ts.length cv))
      have hne : ¬ w.heap.size = w1.heap.size := by omega
      have hne' : ¬ w1.heap.size = w.heap.size := by omega
      go_wp2_with fail
      exact bodyPost_ret (v := .tuple #[.agg #[.int .i64 q, .slice Av ts.length cv], .int .i64 0, .int .i64 0]) (by simp [results, Tryd.results7, go_sem, *]) rfl (parse_yes (n := ⟨q, ts⟩) (HE.out) (by repeat (first | exact HBE.out | refine Below.setCell ?_ (by first | exact Nat.le_refl _ | omega) _)) HOW2.out)
end Go.Proofs.YtednlgeidgnogaaDoor
