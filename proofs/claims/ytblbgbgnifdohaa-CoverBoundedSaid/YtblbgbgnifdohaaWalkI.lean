/-
  The walk of cover.Tree.
-/
import Derived.Test.YtblbgbgnifdohaaKs
import Derived.Test.YtblbgbgnifdohaaTreeOk
import Derived.Test.YtblbgbgnifdohaaRegionOrd
import Derived.Deep.RegionHeld3
namespace Go.Proofs.Ytblbgbgnifdohaa
open Go.RowKit

/-- what stands in memory while the first knot is made. -/
structure RootAt (w : World) (p : Int) (A : Option Addr) (n c : Nat) (W : World) : Prop where
  c0 : W.cell? ⟨w.heap.size, 0, none⟩ = some (.int .i64 p)
  c1 : W.cell? ⟨w.heap.size, 1, none⟩ = some (.slice A n c)
  bel : Below w.heap.size w W
  lt : w.heap.size < W.heap.size
theorem RootAt.next {w W W' : World} {p : Int} {A : Option Addr} {n c : Nat} (h : RootAt w p A n c W) (hb : Below W.heap.size W W') : RootAt w p A n c W' :=
  ⟨(hb.cell (p := ⟨w.heap.size, 0, none⟩) h.lt).trans h.c0, (hb.cell (p := ⟨w.heap.size, 1, none⟩) h.lt).trans h.c1, h.bel.trans (hb.mono (Nat.le_of_lt h.lt)), Nat.lt_of_lt_of_le h.lt hb.size⟩
theorem RootAt.drew {w W : World} {p : Int} {A : Option Addr} {n c : Nat} (h : RootAt w p A n c W) : RootAt w p A n c W.drew := ⟨h.c0, h.c1, h.bel.drew, h.lt⟩
theorem RootAt.alloc {w W : World} {p : Int} {A : Option Addr} {n c : Nat} (h : RootAt w p A n c W) (o : Obj) : RootAt w p A n c (W.alloc o) := h.next ((Below.refl _ _).alloc (Nat.le_refl _) o)
theorem RootAt.cells {w W : World} {p : Int} {A : Option Addr} {n c : Nat} (h : RootAt w p A n c W) : W.cell? ⟨w.heap.size, 0, none⟩ = some (.int .i64 p) ∧ W.cell? ⟨w.heap.size, 1, none⟩ = some (.slice A n c) ∧ RootAt w p A n c W := ⟨h.c0, h.c1, h⟩

/-- three cells of a tree, and no more. -/
def BlkT (w : World) (b : Nat) (x y z : Value) : Prop := w.heap[b]? = some (.cells #[x, y, z] 56 (0, 0))
section
variable {w w' : World} {b : Nat} {x y z : Value}
theorem BlkT.lt (h : BlkT w b x y z) : b < w.heap.size := (Array.getElem?_eq_some_iff.1 h).1
theorem BlkT.below (h : BlkT w b x y z) (hb : Below w.heap.size w w') : BlkT w' b x y z := (hb.block b h.lt).trans h
theorem BlkT.cells (h : BlkT w b x y z) : w.cell? ⟨b, 0, none⟩ = some x ∧ w.cell? ⟨b, 1, none⟩ = some y ∧ w.cell? ⟨b, 2, none⟩ = some z ∧ w.frozen? ⟨b, 2, none⟩ = false := by
  unfold BlkT at h
  simp [World.cell?, World.frozen?, h]
theorem BlkT.set2 (h : BlkT w b x y z) (u : Value) : BlkT (w.setCell ⟨b, 2, none⟩ u) b x y u := by
  unfold BlkT at h ⊢; simp [World.setCell, Array.getElem?_modify, h]
end
/-- memory while the tree grows. -/
structure TW (w : World) (p : Int) (A : Option Addr) (n c bt P most : Nat) (W : World) (kv : Value) (ks : List Cv.Kn) (vs : List Value) : Prop where
  tree : BlkT W bt (.int .i64 p) (.slice A n c) kv
  own : KsOwn W w.heap.size kv ks vs
  bel : Below w.heap.size w W
  net : W.cell? ⟨w.heap.size, 1, none⟩ = some (.slice A n c)
  bt : w.heap.size < bt
  ok : TOk P most ks
theorem TW.below {w W W' : World} {p : Int} {A : Option Addr} {n c bt P most : Nat} {kv : Value} {ks : List Cv.Kn} {vs : List Value} (h : TW w p A n c bt P most W kv ks vs) (hb : Below W.heap.size W W') : TW w p A n c bt P most W' kv ks vs :=
  ⟨h.tree.below hb, h.own.below hb, h.bel.trans (hb.mono h.bel.size), (hb.cell (p := ⟨w.heap.size, 1, none⟩) (cell_lt h.net)).trans h.net, h.bt, h.ok⟩
theorem RootAt.afterK {w W W' : World} {p : Int} {A : Option Addr} {n c : Nat} {G : Prop} (hb : Below W.heap.size W W') (h : W.cell? ⟨w.heap.size, 0, none⟩ = some (.int .i64 p) ∧ W.cell? ⟨w.heap.size, 1, none⟩ = some (.slice A n c) ∧ RootAt w p A n c W)
    (k : (W'.cell? ⟨w.heap.size, 0, none⟩ = some (.int .i64 p) ∧ W'.cell? ⟨w.heap.size, 1, none⟩ = some (.slice A n c) ∧ RootAt w p A n c W') → G) : G := k (h.2.2.next hb).cells
theorem root_tw {w w5 : World} {p : Int} {A A5 : Option Addr} {n c c5 B5 most : Nat} {m : List Int} (hB : w.heap.size ≤ B5) (hrow : w5.ownsRow B5 3 1 (.slice A5 m.length c5) m.length (m.map (Value.int .i64))) (h : RootAt w p A n c w5) (hok : TOk m.length most [⟨-1, -1, m⟩]) :
    TW w p A n c (w5.heap.size + 1) m.length most ((w5.alloc (.cells #[.int .i64 (-1), .int .i64 (-1), .slice A5 m.length c5] 33)).alloc (.cells #[.int .i64 p, .slice A n c, .slice (some ⟨w5.heap.size, 0, none⟩) 1 1] 56)) (.slice (some ⟨w5.heap.size, 0, none⟩) 1 1) [⟨-1, -1, m⟩] [.slice A5 m.length c5] := by
  have hz := h.bel.size
  have R := (h.alloc (.cells #[.int .i64 (-1), .int .i64 (-1), .slice A5 m.length c5] 33)).alloc (.cells #[.int .i64 p, .slice A n c, .slice (some ⟨w5.heap.size, 0, none⟩) 1 1] 56)
  refine ⟨?_, ⟨rfl, ?_, ?_⟩, R.bel, R.c1, by have := h.lt; omega, hok⟩
  · have := heap_alloc_new (w5.alloc (.cells #[.int .i64 (-1), .int .i64 (-1), .slice A5 m.length c5] 33)) (.cells #[.int .i64 p, .slice A n c, .slice (some ⟨w5.heap.size, 0, none⟩) 1 1] 56)
    rw [World.size_alloc] at this
    exact this
  · exact (World.ownsRow_lit w5 #[.int .i64 (-1), .int .i64 (-1), .slice A5 m.length c5] 1 hz (by decide) rfl).alloc _
  · intro i k v hk hv
    have : i = 0 := by have := (List.getElem?_eq_some_iff.1 hk).1; simpa using this
    subst this
    simp at hk hv
    subst hk hv
    exact ((World.ownsRow.mono hrow hB).alloc _).alloc _

/-- one knot more: what stands behind the append, and behind the store. -/
theorem TW.more {w W W' : World} {p : Int} {A : Option Addr} {n c bt P most g cap : Nat} {ks : List Cv.Kn} {vs : List Value} {kv' v : Value} {k : Cv.Kn} (h : TW w p A n c bt P most W (.slice (some ⟨g, 0, none⟩) ks.length cap) ks vs)
    (hm : W.ownsRow w.heap.size 3 1 v k.mark.length (k.mark.map (Value.int .i64))) (hown : W'.ownsRow w.heap.size 33 3 kv' (ks.length + 1) (ksCells ks vs ++ knCells k v)) (hg : W.grownBy W' (some g)) (hok : TOk P most (ks ++ [k])) :
    BlkT W' bt (.int .i64 p) (.slice A n c) (.slice (some ⟨g, 0, none⟩) ks.length cap) ∧ TW w p A n c bt P most (W'.setCell ⟨bt, 2, none⟩ kv') kv' (ks ++ [k]) (vs ++ [v]) := by
  have hne : bt ≠ g := fun e => own_ne h.own.row h.tree (by decide) (by rw [e]; rfl)
  have hT : BlkT W' bt (.int .i64 p) (.slice A n c) (.slice (some ⟨g, 0, none⟩) ks.length cap) := (hg.block bt h.tree.lt (by simpa using hne)).trans h.tree
  have hpos := h.ok.pos
  obtain ⟨g1, cap1, e, hg1, hg2⟩ := h.own.form hpos
  simp only [Value.slice.injEq, Option.some.injEq, Addr.mk.injEq, true_and, and_true] at e
  obtain ⟨rfl, rfl⟩ := e
  have hnet : g ≠ w.heap.size := by
    intro e
    have h0 : ks[0]? = some ks[0] := List.getElem?_eq_getElem hpos
    have hv : vs[0]? = some (vs[0]'(by rw [h.own.len]; exact hpos)) := List.getElem?_eq_getElem _
    have := (h.own.knot h0 hv).2.1
    rw [e, Nat.zero_mul, Nat.zero_add, h.net] at this
    cases this
  refine ⟨hT, hT.set2 kv', (h.own.push hm hown hg).set (p := ⟨bt, 2, none⟩) hT (by decide) (by decide) kv', ?_, ?_, h.bt, hok⟩
  · exact (h.bel.grown hg h.bel.size (fun j hj => by cases hj; exact hg1)).setCell (by have := h.bt; simp; omega) _
  · have h1 := hg.cell h.net (by simpa using Ne.symm hnet)
    rw [World.cell?_setCell_far _ _ _ _ (by have := h.bt; simp; omega)]
    exact h1

/-- what Tree answers. -/
def treeR (B : Nat) (W : World) (e : Ending) : Option (List Cv.Kn) → Prop
  | none => e = .returned (.tuple #[.slice none 0 0, .int .i64 4])
  | some ks => ∃ kv vs, e = .returned (.tuple #[kv, .int .i64 0]) ∧ KsOwn W B kv ks vs ∧ 0 < ks.length
/-- what is still to come of the tree. -/
def Todo (ts : List Tx.Tr) (m : List Int) (p : Int) (most k : Nat) (ks : List Cv.Kn) : Prop := k ≤ ks.length ∧ Cv.treeF most ts (most + 1 - k) k ks = Cv.treeV ⟨p, ts⟩ m most

theorem Todo.fin {ts : List Tx.Tr} {m : List Int} {p : Int} {most k : Nat} {ks : List Cv.Kn} (h : Todo ts m p most k ks) (hm : ks.length ≤ most) (hk : ¬ k < ks.length) : Cv.treeV ⟨p, ts⟩ m most = some ks := by
  obtain ⟨h1, h2⟩ := h
  rw [← h2, show most + 1 - k = (most - k) + 1 by omega, Cv.treeF, List.getElem?_eq_none (by omega)]
/-- a knot that stands again on its way is passed over. -/
theorem Todo.skip {ts : List Tx.Tr} {m : List Int} {p : Int} {most k : Nat} {ks : List Cv.Kn} (h : Todo ts m p most k ks) (hm : ks.length ≤ most) (hk : k < ks.length) (ha : Cv.againV ks k = true) : Todo ts m p most (k + 1) ks := by
  obtain ⟨h1, h2⟩ := h
  refine ⟨by omega, ?_⟩
  rw [← h2, show most + 1 - k = (most - k) + 1 by omega, Cv.treeF, List.getElem?_eq_getElem hk]
  simp only [ha, if_true]
  congr 1
  omega
/-- one knot's children, one behind the other. -/
def Kids (ts : List Tx.Tr) (m : List Int) (p : Int) (most k : Nat) (mk : List Int) (i : Nat) (ks : List Cv.Kn) : Prop :=
  k < ks.length ∧ (match Cv.roundT most ts k mk ((List.range ts.length).drop i) ks with
    | none => none
    | some ks' => Cv.treeF most ts (most - k) (k + 1) ks') = Cv.treeV ⟨p, ts⟩ m most
theorem Todo.kids {ts : List Tx.Tr} {m : List Int} {p : Int} {most k : Nat} {ks : List Cv.Kn} {kn : Cv.Kn} (h : Todo ts m p most k ks) (hm : ks.length ≤ most) (hk : ks[k]? = some kn) (ha : Cv.againV ks k = false) : Kids ts m p most k kn.mark 0 ks := by
  obtain ⟨h1, h2⟩ := h
  have hkl := (List.getElem?_eq_some_iff.1 hk).1
  refine ⟨hkl, ?_⟩
  rw [← h2, show most + 1 - k = (most - k) + 1 by omega, Cv.treeF, hk]
  simp only [ha, Bool.false_eq_true, if_false, List.drop_zero]
  generalize Cv.roundT most ts k kn.mark (List.range ts.length) ks = o
  cases o <;> rfl
theorem Kids.fin {ts : List Tx.Tr} {m mk : List Int} {p : Int} {most k i : Nat} {ks : List Cv.Kn} (h : Kids ts m p most k mk i ks) (hi : ts.length ≤ i) : Todo ts m p most (k + 1) ks := by
  obtain ⟨h1, h2⟩ := h
  rw [List.drop_of_length_le (by simpa using hi)] at h2
  exact ⟨by omega, by rw [show most + 1 - (k + 1) = most - k by omega]; exact h2⟩
theorem Kids.next {ts : List Tx.Tr} {m mk : List Int} {p : Int} {most k i : Nat} {ks : List Cv.Kn} {t : Tx.Tr} (h : Kids ts m p most k mk i ks) (ht : ts[i]? = some t) :
    (Cv.belowV t.pre mk = false → Kids ts m p most k mk (i + 1) ks) ∧ (Cv.belowV t.pre mk = true → ks.length = most → Cv.treeV ⟨p, ts⟩ m most = none) ∧
    (Cv.belowV t.pre mk = true → ks.length ≠ most → Kids ts m p most k mk (i + 1) (ks ++ [⟨k, i, Cv.growV (Cv.pathV ks k) (Cv.fireV t mk)⟩])) := by
  obtain ⟨h1, h2⟩ := h
  have hil := (List.getElem?_eq_some_iff.1 ht).1
  have hd : (List.range ts.length).drop i = i :: (List.range ts.length).drop (i + 1) := by
    rw [List.drop_eq_getElem_cons (by simpa using hil)]
    simp
  rw [hd, Cv.roundT, Cv.stepT, ht] at h2
  refine ⟨fun hb => ⟨h1, by simpa [hb] using h2⟩, fun hb hm => by simpa [hb, hm] using h2.symm, fun hb hm => ⟨by simp; omega, by simpa [hb, hm] using h2⟩⟩

theorem infoK : (Try.prog.info? 33).map (fun i => (i.zero, i.size, i.bytes)) = some (some (.agg #[.int .i64 0, .int .i64 0, .slice none 0 0]), 3, 40) := by kernel_rfl
set_option maxRecDepth 100000 in
set_option maxHeartbeats 4000000 in
theorem tree_any (p : Int) (A : Option Addr) (n c : Nat) (ts : List Tx.Tr) (Am : Option Addr) (cm : Nat) (m : List Int) (most : Nat) (w : World) (hl : ts.length = n) (hr : TrsAt w w.heap.size A n ts)
    (hm : Reads w w.heap.size 1 Am m.length (m.map (Value.int .i64))) (hf : Cv.fitV ⟨p, ts⟩ m = true) (h1 : 1 ≤ most) (h3 : most ≤ 300) :
    Calls Try.prog 5 #[.agg #[.int .i64 p, .slice A n c], .slice Am m.length cm, .int .i64 most] w fun e w' => Below w.heap.size w w' ∧ treeR w.heap.size w' e (Cv.treeV ⟨p, ts⟩ m most) := by
  obtain ⟨hlp, hrt, htl, hml, hts⟩ := Cv.fit_parts hf
  obtain ⟨iK, hiK, hzK, hzK1, hzK2⟩ := info_parts infoK
  dsimp only at hlp htl hts
  have hn24 : n ≤ 24 := by omega
  have HR := Lib.hid hr
  have HL := Lib.hid hl
  have HM := Lib.hid hm
  have HTS := Lib.hid hts
  have HF := Lib.hid hf
  have HRT := Lib.hid hrt
  have R0 : RootAt w p A n c (w.alloc (.cells #[.int .i64 p, .slice A n c] 24)) := ⟨by simp [go_sem], by simp [go_sem], (Below.refl _ w).alloc (Nat.le_refl _) _, by simp⟩
  have HE := Lib.hid (enabled_any p A n c ts Am cm m (w.alloc (.cells #[.int .i64 p, .slice A n c] 24)) hl ((hr.below R0.bel).more (by simp)) ((hm.below R0.bel).more (by simp)) hf)
  have HR0 := Lib.hid R0
  clear hr hl hm hf hts hrt R0
  go_enter Try.func5, Try.ntmps5
  go_wp2_with fail
  refine HE.out.mono ?_
  rintro e w2 ⟨v2, rfl, _, hb2⟩
  have R2 := HR0.out.next hb2
  clear hb2 HR0
  have hc0 := R2.c0
  have hc1 := R2.c1
  go_wp2_with fail
  have HM2 : ∀ W, (W.cell? ⟨w.heap.size, 0, none⟩ = some (.int .i64 p) ∧ W.cell? ⟨w.heap.size, 1, none⟩ = some (.slice A n c) ∧ RootAt w p A n c W) → Hid (Reads W W.heap.size 1 Am m.length (m.map (Value.int .i64))) := fun W h => Lib.hid ((HM.out.below h.2.2.bel).more (Nat.le_of_lt h.2.2.lt))
  go_region_held3 (fun w' => w'.cell? ⟨w.heap.size, 0, none⟩ = some (.int .i64 p) ∧ w'.cell? ⟨w.heap.size, 1, none⟩ = some (.slice A n c) ∧ RootAt w p A n c w')
    (first | exact R2.drew.cells | assumption | exact RootAt.cells (RootAt.alloc (And.right (And.right (by assumption))) _))
    (first
      | (go_at_call 18; refine (clone_any Am m.length cm m _ _ (by omega) rfl (HM2 _ ?_).out).mono ?_; assumption; rintro e w5 ⟨v5, rfl, hrow5, hb5⟩; obtain ⟨A5, c5, rfl⟩ := row_slice hrow5; (refine RootAt.afterK (w := w) (p := p) (A := A) (n := n) (c := c) hb5 ?_ ?_); assumption; intro q))
  have HTW := Lib.hid (root_tw (most := most) (R2.drew.bel.size) hrow5 q.2.2 (TOk.root rfl HRT.out h1))
  obtain ⟨bt, hbt⟩ : ∃ bt, w5.heap.size + 1 = bt := ⟨_, rfl⟩
  rw [hbt] at HTW ⊢
  obtain ⟨W0, hW0⟩ : ∃ W0, (w5.alloc (.cells #[.int .i64 (-1), .int .i64 (-1), .slice A5 m.length c5] 33)).alloc (.cells #[.int .i64 p, .slice A n c, .slice (some ⟨w5.heap.size, 0, none⟩) 1 1] 56) = W0 := ⟨_, rfl⟩
  rw [hW0] at HTW ⊢
  clear hW0 hbt hrow5 q hb5 HM2 R2 hc0 hc1
  go_wp2_with fail
  go_loopw [11] (fun i W => ∃ (k : Nat) (ks : List Cv.Kn) (vs : List Value) (kv : Value), i = .int .i64 k ∧ TW w p A n c bt m.length most W kv ks vs ∧ Todo ts m p most k ks) (fun i _ => most + 1 - (intOf i).toNat)
  case atStart => exact ⟨0, _, _, _, rfl, HTW.out, Nat.zero_le _, rfl⟩
  case round =>
    obtain ⟨k, ks, vs, kv, rfl, htw, htodo⟩ := hrel
    have HT := Lib.hid htw
    have HD := Lib.hid htodo
    obtain ⟨g, cap, rfl, hg1, hg2⟩ := htw.own.form htw.ok.pos
    obtain ⟨_, t1, t2, t3⟩ := htw.tree.cells
    have hks := htw.ok.most
    clear htw htodo
    by_cases hlt : k < ks.length
    · obtain ⟨kn, hkn⟩ : ∃ kn, ks[k]? = some kn := ⟨_, List.getElem?_eq_getElem hlt⟩
      have HAG := Lib.hid (again_any bt g cap k ks vs kn wr hkn (HT.out.own.rd hg2 t2) HT.out.ok.up (by omega) (fun kn hk => by rw [HT.out.ok.len kn hk]; exact hml))
      have HK := Lib.hid hkn
      clear hkn
      go_wp2_with fail
      refine HAG.out.mono ?_
      rintro e W3 ⟨rfl, hb3⟩
      have HT3 := Lib.hid (HT.out.below hb3)
      clear hb3 t1 t2 t3
      obtain ⟨_, t1, t2, t3⟩ := HT3.out.tree.cells
      have hnet := HT3.out.net
      cases hag : Cv.againV ks k with
      | true =>
        have HSK := Lib.hid (HD.out.skip hks hlt hag)
        clear hag
        go_wp2_with fail
        go_roundw
        case rel => exact ⟨k + 1, ks, vs, _, by go_num, HT3.out, HSK.out⟩
        case measure => simp [intOf]; omega
      | false =>
        have HKD := Lib.hid (HD.out.kids hks HK.out hag)
        clear hag
        go_wp2_with fail
        clear t1 t2 t3 hnet
        go_loopw [51] (fun j W => ∃ (i : Nat) (ks' : List Cv.Kn) (vs' : List Value) (kv' : Value), i ≤ n ∧ j = .int .i64 i ∧ TW w p A n c bt m.length most W kv' ks' vs' ∧ ks'[k]? = some kn ∧ Kids ts m p most k kn.mark i ks') (fun j _ => n - (intOf j).toNat)
        case atStart => exact ⟨0, ks, vs, _, Nat.zero_le _, rfl, HT3.out, HK.out, HKD.out⟩
        case round =>
          clear HT HD HAG HK HT3 HKD hg1 hg2 hks hlt
          obtain ⟨i, ks, vs, kv, hi, rfl, htw, hkn, hkd⟩ := hrel
          have HT := Lib.hid htw
          have HKN := Lib.hid hkn
          have HKD := Lib.hid hkd
          obtain ⟨g, cap, rfl, hg1, hg2⟩ := htw.own.form htw.ok.pos
          obtain ⟨_, t1, t2, t3⟩ := htw.tree.cells
          have hks := htw.ok.most
          have hbtl := htw.tree.lt
          have hwl : w.heap.size < wr.heap.size := by have := htw.bt; omega
          have hkl := (List.getElem?_eq_some_iff.1 hkn).1
          clear htw hkn hkd
          by_cases hlt : i < n
          · obtain ⟨ad, rfl, hbk, hcells⟩ := HR.out (by omega)
            obtain ⟨t, ht⟩ : ∃ t, ts[i]? = some t := ⟨_, List.getElem?_eq_getElem (by rw [HL.out]; exact hlt)⟩
            have hb1 : (ad.add (i * 3)).block < w.heap.size := by rw [block_of_add]; exact hbk
            obtain ⟨v1, v2', e0, e1, e2, ⟨A1, c1, rfl, _, _, hr1⟩, ⟨A2, c2, rfl, _, _, hr2⟩⟩ := hcells i _ ht
            have f0 := (HT.out.bel.cell (p := ad.add (i * 3)) hb1).trans e0
            have f1 := (HT.out.bel.cell (p := ⟨(ad.add (i * 3)).block, (ad.add (i * 3)).off + 1, none⟩) hb1).trans e1
            have f2 := (HT.out.bel.cell (p := ⟨(ad.add (i * 3)).block, (ad.add (i * 3)).off + 2, none⟩) hb1).trans e2
            obtain ⟨hp1, hp2, hp9, hr9⟩ := HTS.out t (List.mem_of_getElem? ht)
            rw [hp1] at hr1 f1
            rw [hp2] at hr2 f2
            have HR1 := Lib.hid hr1
            have HR2 := Lib.hid hr2
            have HTT := Lib.hid ht
            have HP9 := Lib.hid hp9
            have HR9 := Lib.hid hr9
            have HP1 := Lib.hid hp1
            have HP2 := Lib.hid hp2
            obtain ⟨vk, hvk⟩ : ∃ vk, vs[k]? = some vk := ⟨_, List.getElem?_eq_getElem (by rw [HT.out.own.len]; exact hkl)⟩
            have HVK := Lib.hid hvk
            obtain ⟨_, _, k2, Ak, ck, rfl, _, _, hrk⟩ := HT.out.own.knot HKN.out hvk
            have hml2 := HT.out.ok.len kn (List.mem_of_getElem? HKN.out)
            rw [hml2] at hrk k2 HVK
            have HRK := Lib.hid hrk
            have HML2 := Lib.hid hml2
            clear e0 e1 e2 hr1 hr2 ht hcells hp9 hr9 hp1 hp2 hvk hrk hml2
            go_wp2_with fail
            have HWT := Lib.hid ((Below.refl wr.heap.size wr).alloc (Nat.le_refl _) (.cells #[.int .i64 t.label, .slice A1 m.length c1, .slice A2 m.length c2] 48))
            have n1 : (wr.alloc (.cells #[.int .i64 t.label, .slice A1 m.length c1, .slice A2 m.length c2] 48)).cell? ⟨wr.heap.size, 1, none⟩ = some (.slice A1 m.length c1) := by simp [go_sem]
            have HN : Hid ((wr.alloc (.cells #[.int .i64 t.label, .slice A1 m.length c1, .slice A2 m.length c2] 48)).heap[wr.heap.size]? = some (.cells #[.int .i64 t.label, .slice A1 m.length c1, .slice A2 m.length c2] 48 (0, 0))) := Lib.hid (heap_alloc_new wr _)
            clear f0 f1 f2 t1 t2 t3 k2
            obtain ⟨nb, hnb⟩ : ∃ nb, wr.heap.size = nb := ⟨_, rfl⟩
            have hsz : (wr.alloc (.cells #[.int .i64 t.label, .slice A1 m.length c1, .slice A2 m.length c2] 48)).heap.size = nb + 1 := by simp [hnb]
            rw [hnb] at n1 HN ⊢
            have HTb := Lib.hid (HT.out.below HWT.out)
            generalize wr.alloc (.cells #[.int .i64 t.label, .slice A1 m.length c1, .slice A2 m.length c2] 48) = Wt at *
            obtain ⟨_, t1, t2, t3⟩ := HTb.out.tree.cells
            obtain ⟨_, _, k2, _, _, hke, _, _, hrk⟩ := HTb.out.own.knot HKN.out HVK.out
            rw [HML2.out] at hke hrk
            simp only [Value.slice.injEq, true_and] at hke
            obtain ⟨rfl, rfl⟩ := hke
            have HRK2 := Lib.hid hrk
            have HR1b := Lib.hid (HR1.out.below HTb.out.bel)
            have HR2b := Lib.hid (HR2.out.below HTb.out.bel)
            clear hrk HRK HT HWT
            obtain ⟨b, hb⟩ : ∃ b, Cv.belowV t.pre kn.mark = b := ⟨_, rfl⟩
            have HBL : ∀ q, Hid (Calls Try.prog 20 #[.slice A1 m.length c1, .slice Ak m.length ck] (Wt.drewN q) fun e w' => e = .returned (.bool b) ∧ w' = Wt.drewN q) := fun q => Lib.hid ((below_any A1 Ak m.length c1 ck t.pre kn.mark w.heap.size Wt.heap.size (Wt.drewN q) (by omega) HP1.out HML2.out (HR1b.out.keep (fun _ _ => rfl)) (HRK2.out.keep (fun _ _ => rfl))).mono (fun e w' h => ⟨by rw [h.1, hb], h.2.symm⟩))
            have HBB := Lib.hid hb
            clear hb
            go_quiet (first | (go_at_call 20; exact Calls.quiet_of_same (HBL _).out))
            have HTq := Lib.hid (HTb.out.below (below_drewN Wt nq))
            have HNq : Hid ((Wt.drewN nq).heap[nb]? = some (.cells #[.int .i64 t.label, .slice A1 m.length c1, .slice A2 m.length c2] 48 (0, 0))) := HN
            have hszq : (Wt.drewN nq).heap.size = nb + 1 := hsz
            have HR1q := Lib.hid (HR1b.out.keep (w' := Wt.drewN nq) (fun _ _ => rfl))
            have HR2q := Lib.hid (HR2b.out.keep (w' := Wt.drewN nq) (fun _ _ => rfl))
            clear HTb HN hsz HR1b HR2b HRK2 n1 t1 t2 t3 k2 HBL
            generalize Wt.drewN nq = Wq at *
            have HNX := Lib.hid (HKD.out.next HTT.out)
            cases b with
            | false =>
              have HG := Lib.hid (HNX.out.1 HBB.out)
              clear HNX
              go_wp2_with fail
              go_roundw
              case rel => exact ⟨i + 1, ks, vs, _, by omega, by go_num, HTq.out, HKN.out, HG.out⟩
              case measure => simp [intOf]; omega
            | true =>
              obtain ⟨_, t1, t2, t3⟩ := HTq.out.tree.cells
              by_cases hfull : ks.length = most
              · have HG := Lib.hid (HNX.out.2.1 HBB.out hfull)
                clear HNX
                go_wp2_with fail
                go_ret2
                exact ⟨HTq.out.bel, by rw [HG.out]; rfl⟩
              · have HG := Lib.hid (HNX.out.2.2 HBB.out hfull)
                clear HNX
                go_wp2_with fail
                refine region_ord 22 [(0, 1), (1, 1), (2, 1), (3, 1), (4, 2), (5, 1), (6, 1), (7, 1), (8, 2), (9, 1), (10, 1), (11, 1), (12, 2), (13, 1), (14, 1), (15, 1), (16, 2), (18, 1), (17, 0), (19, 0), (20, 0), (21, 0), (22, 0), (23, 0), (24, 0), (25, 0)] (fun W => W.cell? ⟨bt, 2, none⟩ = some (.slice (some ⟨g, 0, none⟩) ks.length cap) ∧ W.cell? ⟨nb, 0, none⟩ = some (.int .i64 t.label) ∧ W.cell? ⟨nb, 1, none⟩ = some (.slice A1 m.length c1) ∧ W.cell? ⟨nb, 2, none⟩ = some (.slice A2 m.length c2) ∧ W.cell? ⟨g, k * 3 + 2, none⟩ = some (.slice Ak m.length ck)) (by kernel_rfl) (by kernel_rfl) ?_
                change wpOrd _ _ _ _ _ _ _ (World.drew Wq)
                have hS : (World.drew Wq).cell? ⟨bt, 2, none⟩ = some (.slice (some ⟨g, 0, none⟩) ks.length cap) ∧ (World.drew Wq).cell? ⟨nb, 0, none⟩ = some (.int .i64 t.label) ∧ (World.drew Wq).cell? ⟨nb, 1, none⟩ = some (.slice A1 m.length c1) ∧ (World.drew Wq).cell? ⟨nb, 2, none⟩ = some (.slice A2 m.length c2) ∧ (World.drew Wq).cell? ⟨g, k * 3 + 2, none⟩ = some (.slice Ak m.length ck) := by
                  refine ⟨t2, ?_, ?_, ?_, ?_⟩
                  · show Wq.cell? _ = _; simp [World.cell?, HNq.out]
                  · show Wq.cell? _ = _; simp [World.cell?, HNq.out]
                  · show Wq.cell? _ = _; simp [World.cell?, HNq.out]
                  · exact (HTq.out.own.knot HKN.out HVK.out).2.2.1
                have HSS := Lib.hid hS
                clear hS t1 t2 t3
                repeat (first
                  | refine ord1 rfl rfl (fun W => by go_simp; rfl) (fun _ _ _ h => h) ?_
                  | refine ord2 rfl rfl (fun W hW => by obtain ⟨s1, s2, s3, s4, s5⟩ := hW; go_simp; rfl) HSS.out (fun _ _ _ h => h) ?_)
                clear HSS
                have HTD := Lib.hid (HTq.out.below (below_drewN Wq 1))
                have HKS : Hid (∀ W W', Below (nb + 1) W W' → (W.cell? ⟨bt, 2, none⟩ = some (.slice (some ⟨g, 0, none⟩) ks.length cap) ∧ W.cell? ⟨nb, 0, none⟩ = some (.int .i64 t.label) ∧ W.cell? ⟨nb, 1, none⟩ = some (.slice A1 m.length c1) ∧ W.cell? ⟨nb, 2, none⟩ = some (.slice A2 m.length c2) ∧ W.cell? ⟨g, k * 3 + 2, none⟩ = some (.slice Ak m.length ck)) →
                    (W'.cell? ⟨bt, 2, none⟩ = some (.slice (some ⟨g, 0, none⟩) ks.length cap) ∧ W'.cell? ⟨nb, 0, none⟩ = some (.int .i64 t.label) ∧ W'.cell? ⟨nb, 1, none⟩ = some (.slice A1 m.length c1) ∧ W'.cell? ⟨nb, 2, none⟩ = some (.slice A2 m.length c2) ∧ W'.cell? ⟨g, k * 3 + 2, none⟩ = some (.slice Ak m.length ck))) := Lib.hid (by
                  rintro W W' hb ⟨s1, s2, s3, s4, s5⟩
                  exact ⟨(hb.cell (p := ⟨bt, 2, none⟩) (by dsimp only; omega)).trans s1, (hb.cell (p := ⟨nb, 0, none⟩) (by dsimp only; omega)).trans s2, (hb.cell (p := ⟨nb, 1, none⟩) (by dsimp only; omega)).trans s3, (hb.cell (p := ⟨nb, 2, none⟩) (by dsimp only; omega)).trans s4, (hb.cell (p := ⟨g, k * 3 + 2, none⟩) (by dsimp only; omega)).trans s5⟩)
                have HFI := Lib.hid (fire_any t.label A1 A2 Ak m.length c1 c2 ck t.pre t.post kn.mark (World.drew Wq) hml HP1.out HP2.out HML2.out HP9.out HR9.out
                  (fun x hx => by have := HTq.out.ok.small kn (List.mem_of_getElem? HKN.out) x hx; omega)
                  ((HR1q.out.keep (fun _ _ => rfl)).more HTq.out.bel.size) ((HR2q.out.keep (fun _ _ => rfl)).more HTq.out.bel.size)
                  (by obtain ⟨_, _, _, A9, c9, hk9, _, _, hr9⟩ := HTD.out.own.knot HKN.out HVK.out; rw [HML2.out] at hk9 hr9; simp only [Value.slice.injEq, true_and] at hk9; obtain ⟨rfl, rfl⟩ := hk9; exact hr9))
                refine ord_call rfl rfl ?he1 HFI.out ?_
                case he1 => go_simp
                rintro e W1 ⟨v1, rfl, hrow1, hb1'⟩
                have hb1 : Below (nb + 1) (World.drew Wq) W1 := hszq ▸ hb1'
                obtain ⟨A', cp, rfl⟩ := row_slice hrow1
                have HT1 := Lib.hid (HTD.out.below hb1')
                have HGR := Lib.hid (grow_any bt g cap (nb + 1) k m.length cp A' ks vs (Cv.fireV t kn.mark) W1 hkl
                  ((HTD.out.own.rd (by show g < Wq.heap.size; omega) HTD.out.tree.cells.2.2.1).below hb1' |> fun h => hszq ▸ h) (by have := hb1.size; have : (World.drew Wq).heap.size = nb + 1 := hszq; omega) HT1.out.ok.up (by omega) (fun kn hk => HT1.out.ok.len kn hk) hml
                  (by rw [Cv.fireV_len _ _ (by rw [HP1.out, HML2.out]) (by rw [HP2.out, HML2.out]), HML2.out]) (hszq ▸ hrow1))
                refine ⟨_, rfl, fun _ => HKS.out _ _ hb1, ?_⟩
                refine ord_call rfl rfl ?he2 HGR.out ?_
                case he2 => go_simp
                rintro e W2 ⟨rfl, hrow2, hb2⟩
                have HB2 := Lib.hid hb2
                refine ⟨_, rfl, fun _ => HKS.out _ _ hb2, ?_⟩
                refine ord_val (v := .agg #[.int .i64 k, .int .i64 i, .slice A' m.length cp]) (w' := W2) rfl rfl ?he3 (fun _ h => h) ?_
                case he3 => first | (go_simp; done) | (go_simp; rfl)
                refine ord_val (v := .slice (some ⟨W2.heap.size, 0, none⟩) 1 1) (w' := W2.alloc (.cells #[.int .i64 k, .int .i64 i, .slice A' m.length cp] 33)) rfl rfl ?he4 (fun _ => HKS.out _ _ ?hal) ?_
                case he4 => first | (go_simp; done) | (go_simp; rfl)
                case hal => exact (Below.refl _ _).alloc (by have := hb1.size; have := hb2.size; have : (World.drew Wq).heap.size = nb + 1 := hszq; omega) _
                have hs1 := hb1.size
                have hs0 : (World.drew Wq).heap.size = nb + 1 := hszq
                have hs2 := hb2.size
                obtain ⟨W3, hW3⟩ : ∃ W3, W2.alloc (.cells #[.int .i64 k, .int .i64 i, .slice A' m.length cp] 33) = W3 := ⟨_, rfl⟩
                have HB3 : Hid (Below W2.heap.size W2 W3) := Lib.hid (hW3 ▸ (Below.refl _ W2).alloc (Nat.le_refl _) _)
                have HNW : Hid (∀ j u, (knCells ⟨k, i, Cv.growV (Cv.pathV ks k) (Cv.fireV t kn.mark)⟩ (.slice A' m.length cp))[j]? = some u → W3.cell? ((⟨W2.heap.size, 0, none⟩ : Addr).add j) = some u) := Lib.hid (by
                  intro j u hu
                  rw [add_lit', Nat.zero_add, ← hW3]
                  have := heap_alloc_new W2 (.cells #[.int .i64 k, .int .i64 i, .slice A' m.length cp] 33)
                  simp only [World.cell?, this]
                  simpa [knCells] using hu)
                have hs3 : W3.heap.size = W2.heap.size + 1 := by rw [← hW3]; simp
                rw [hW3]
                have HT3 := Lib.hid ((HTD.out.below (w := w) (W' := W2) (by have h12 := hb1.trans hb2; rw [← hs0] at h12; exact h12)).below HB3.out)
                have HROW3 := Lib.hid (own_below (hrow2.mono (show w.heap.size ≤ nb + 1 by omega)) HB3.out)
                clear hb2 hW3 hrow2 hb1 hb1'
                refine ord0 rfl rfl ?_
                refine wp_append_lies _ (.tmp 79) (.tmp 96) 27 rfl w.heap.size 33 iK _ 3 40 Try.underlying27 hiK hzK hzK1 hzK2 rfl (by decide) (.slice (some ⟨g, 0, none⟩) ks.length cap) ks.length (ksCells ks vs) ?ev1 HT3.out.own.row ⟨W2.heap.size, 0, none⟩ 1 1
                  (knCells ⟨k, i, Cv.growV (Cv.pathV ks k) (Cv.fireV t kn.mark)⟩ (.slice A' m.length cp)) ?ev2 rfl HNW.out ?one (by decide) ?c3 ?c4 ?c5 W3.heap.size rfl ?_
                case ev1 => first | (go_simp; done) | (go_simp; rfl)
                case ev2 => first | (go_simp; done) | (go_simp; rfl)
                case one => intro u hu; simp [knCells] at hu; rcases hu with rfl | rfl | rfl <;> rfl
                case c3 => unfold maxLen; omega
                case c4 => omega
                case c5 => omega
                intro g4 cap4 W4 hown4 hgrow4 _ _
                obtain ⟨hok4, hl4, _⟩ := HT3.out.ok.push (i := i) HKN.out HR9.out HP9.out HP1.out HP2.out HBB.out hfull
                obtain ⟨hT4, htw4⟩ := HT3.out.more (k := ⟨k, i, Cv.growV (Cv.pathV ks k) (Cv.fireV t kn.mark)⟩) (v := .slice A' m.length cp) (by show W3.ownsRow _ _ _ _ (Cv.growV (Cv.pathV ks k) (Cv.fireV t kn.mark)).length _; rw [hl4]; exact HROW3.out) hown4 hgrow4 hok4
                have HTW4 := Lib.hid htw4
                obtain ⟨_, _, t2, t3⟩ := hT4.cells
                have HK4 : Hid ((ks ++ [⟨k, i, Cv.growV (Cv.pathV ks k) (Cv.fireV t kn.mark)⟩])[k]? = some kn) := Lib.hid (by rw [List.getElem?_append_left hkl]; exact HKN.out)
                clear hown4 hgrow4 hok4 hl4 htw4 hT4 hs1 hs0 hs2 hs3
                refine ⟨fun h => absurd h (by decide), ?_⟩
                refine ord_val (v := .pointer (some ⟨bt, 0, none⟩)) (w' := W4) rfl rfl ?n1 (fun h => absurd h (by decide)) ?_
                case n1 => first | (go_simp; done) | (go_simp; rfl)
                refine ord_val (v := .pointer (some ⟨bt, 2, none⟩)) (w' := W4) rfl rfl ?n2 (fun h => absurd h (by decide)) ?_
                case n2 => first | (go_simp; done) | (go_simp; rfl)
                refine ord_skip (w' := W4.setCell ⟨bt, 2, none⟩ (.slice (some ⟨g4, 0, none⟩) (ks.length + 1) cap4)) rfl rfl ?n3 (fun h => absurd h (by decide)) ?_
                case n3 => first | (go_simp; done) | (go_simp; rfl)
                change Exit.inBlock 3 (Exit.then _ _) .normal _ _
                clear t2 t3
                go_wp2_with fail
                go_roundw
                case rel => exact ⟨i + 1, _, _, _, by omega, by go_num, HTW4.out, HK4.out, HG.out⟩
                case measure => simp [intOf]; omega
          · go_wp2_with fail
            exact ⟨⟨k + 1, ks, vs, _, by go_num, HT.out, HKD.out.fin (by rw [HL.out]; omega)⟩, by simp [intOf]; omega⟩
    · have HFIN := Lib.hid (HD.out.fin hks hlt)
      go_wp2_with fail
      go_ret2
      exact ⟨HT.out.bel, by rw [HFIN.out]; exact ⟨_, vs, rfl, HT.out.own, HT.out.ok.pos⟩⟩
end Go.Proofs.Ytblbgbgnifdohaa
