/-
  The walk of finder.find.
-/
import Derived.Test.YtblbgbgnifdohaaFound
import Derived.Deep.Cut
namespace Go.Proofs.Ytblbgbgnifdohaa
open Go.RowKit Go.Maps

theorem zero3 (w : World) : (zeroValue 3).run Try.prog w = .ok (.int .i64 0) w := by kernel_rfl
theorem key_of {m : List Int} (h : m.length ≤ 16) : keyOf Try.prog 9 (.string (strOfNums (nameI m))) = some (keyL m) :=
  WideMaps.keyOf_string_mk Try.underlying9 (by rw [strOfNums_size, nameI_len]; unfold maxLen; omega)
theorem wf_small {a : Nat} (h : a ≤ 1000000) : (Lit.int .i64 (a : Int)).wf = true := by
  have h1 : IntKind.i64.min = -9223372036854775808 := by decide
  have h2 : IntKind.i64.max = 9223372036854775807 := by decide
  simp only [Lit.wf, h1, h2, Bool.and_eq_true, decide_eq_true_eq]
  omega
theorem slice_of {w : World} {B N : Nat} {e : TypeId} {v : Value} {xs : List Value} (h : w.ownsRow B e 1 v N xs) : ∃ A c, v = .slice A N c := by
  rcases h.2 with ⟨rfl, rfl⟩ | ⟨g, cap, cur, rfl, _⟩
  · exact ⟨none, 0, rfl⟩
  · exact ⟨_, _, rfl⟩
theorem info25 : (Try.prog.info? 25).map (fun i => (i.zero, i.size, i.bytes)) = some (some (.slice none 0 0), 1, 24) := by kernel_rfl

set_option maxHeartbeats 2000000 in
theorem find_old (B P fb : Nat) (p : Int) (A A1 : Option Addr) (n c c1 most mb na : Nat) (ms : List (List Int)) (mv av fv : Value) (vs : List Value) (G : List (Value × List Int)) (m : List Int) (arc : Int) (w : World)
    (h : FI w B P fb p A n c most mb na ms mv av fv vs G) (hx : (.slice A1 m.length c1, m) ∈ G) (hl : m.length = P) (hm : ∀ y ∈ m, 0 ≤ y ∧ y ≤ 1000000) (h16 : P ≤ 16) (hB : B ≤ w.heap.size) (hmost : most ≤ 300) (hc : ms.contains m = true)  :
    Calls Try.prog 30 #[.pointer (some ⟨fb, 0, none⟩), .slice A1 m.length c1, .int .i64 arc] w fun e w' => ∃ k : Int, e = .returned (.tuple #[.int .i64 k, .bool true]) ∧ FI w' B P fb p A n c most mb na ms mv av fv vs G ∧ Below B w w' := by
  obtain ⟨iI, hiI, hzI, hzI1, hzI2⟩ := info_parts infoI
  obtain ⟨iS, hiS, hzS, hzS1, hzS2⟩ := info_parts info25
  have H := Lib.hid h
  have HX := Lib.hid hx
  have HL := Lib.hid hl
  have HM := Lib.hid hm
  have HC := Lib.hid hc
  have t3 := h.fp.cells.2.2.2.1
  have hms := h.hms
  have h16' : m.length ≤ 16 := by omega
  have HNM := Lib.hid (name_any A1 m.length c1 m (World.drew w) h16' rfl hm (row_reads (h.fp.safe _ hx).1 |> fun r => r.keep (w' := World.drew w) (fun _ _ => rfl)))
  clear h hx hl hm hc
  go_enter Try.func30, Try.ntmps30
  go_wp2_with fail
  refine region_ord 6 [(0, 1), (1, 1), (2, 1), (3, 2), (4, 1), (5, 0), (6, 0), (7, 1), (8, 1), (9, 1), (10, 1), (11, 1)] (fun W => W.cell? ⟨fb, 3, none⟩ = some (.map (some mb))) (by kernel_rfl) (by kernel_rfl) ?_
  change wpOrd _ _ _ _ _ _ _ (World.drew w)
  have HTD : Hid ((World.drew w).cell? ⟨fb, 3, none⟩ = some (.map (some mb))) := Lib.hid t3
  clear t3
  repeat (first
    | refine ord1 rfl rfl (fun W => by go_simp; rfl) (fun _ _ _ h => h) ?_
    | refine ord2 rfl rfl (fun W hW => by go_simp; rfl) HTD.out (fun _ _ _ h => h) ?_)
  refine ord_call rfl rfl ?he1 HNM.out ?_
  case he1 => go_simp
  rintro e W1 ⟨rfl, hb1⟩
  have H1 := Lib.hid ((H.out.below (below_drewN w 1)).below hb1)
  obtain ⟨D, hD, hS⟩ := H1.out.fp.map
  obtain ⟨v, ps, hrun, hv⟩ := hD.look_ok (string_keyed Try.underlying9) Try.underlying65 (zero3 W1) (zd := .lit (.int .i64 0)) (zp := []) (plainElem_int Try.underlying3 (by decide)) (key_of h16')
  obtain ⟨k, rfl, _, _⟩ := plainElem_int_inv Try.underlying3 hv
  rw [hS.has m HL.out HM.out, HC.out] at hrun
  have HBE : Hid (Below B w W1) := Lib.hid ((Below.drew (Below.refl B w)).trans (hb1.mono hB))
  have HT1 : Hid (W1.cell? ⟨fb, 3, none⟩ = some (.map (some mb))) := Lib.hid H1.out.fp.cells.2.2.2.1
  clear hD hS hv hb1
  refine ⟨_, rfl, fun _ _ => HT1.out, ?_⟩
  refine ord_val (v := .tuple #[.int .i64 k, .bool true]) (w' := W1) rfl rfl ?he2 (fun h => absurd h (by decide)) ?_
  case he2 => go_simp
  clear hrun
  repeat (refine ord1 rfl rfl (fun W => by go_simp; rfl) (fun _ _ _ h => h) ?_)
  change Exit.then _ _ .normal _ _
  go_wp2_with fail
  go_ret2
  exact ⟨k, rfl, H1.out, HBE.out⟩

set_option maxHeartbeats 2000000 in
theorem find_full (B P fb : Nat) (p : Int) (A A1 : Option Addr) (n c c1 most mb na : Nat) (ms : List (List Int)) (mv av fv : Value) (vs : List Value) (G : List (Value × List Int)) (m : List Int) (arc : Int) (w : World)
    (h : FI w B P fb p A n c most mb na ms mv av fv vs G) (hx : (.slice A1 m.length c1, m) ∈ G) (hl : m.length = P) (hm : ∀ y ∈ m, 0 ≤ y ∧ y ≤ 1000000) (h16 : P ≤ 16) (hB : B ≤ w.heap.size) (hmost : most ≤ 300) (hc : ms.contains m = false) (hf : ms.length = most) :
    Calls Try.prog 30 #[.pointer (some ⟨fb, 0, none⟩), .slice A1 m.length c1, .int .i64 arc] w fun e w' => e = .returned (.tuple #[.int .i64 0, .bool false]) ∧ Below B w w' := by
  obtain ⟨iI, hiI, hzI, hzI1, hzI2⟩ := info_parts infoI
  obtain ⟨iS, hiS, hzS, hzS1, hzS2⟩ := info_parts info25
  have H := Lib.hid h
  have HX := Lib.hid hx
  have HL := Lib.hid hl
  have HM := Lib.hid hm
  have HC := Lib.hid hc
  have t3 := h.fp.cells.2.2.2.1
  have hms := h.hms
  have h16' : m.length ≤ 16 := by omega
  have HNM := Lib.hid (name_any A1 m.length c1 m (World.drew w) h16' rfl hm (row_reads (h.fp.safe _ hx).1 |> fun r => r.keep (w' := World.drew w) (fun _ _ => rfl)))
  clear h hx hl hm hc
  go_enter Try.func30, Try.ntmps30
  go_wp2_with fail
  refine region_ord 6 [(0, 1), (1, 1), (2, 1), (3, 2), (4, 1), (5, 0), (6, 0), (7, 1), (8, 1), (9, 1), (10, 1), (11, 1)] (fun W => W.cell? ⟨fb, 3, none⟩ = some (.map (some mb))) (by kernel_rfl) (by kernel_rfl) ?_
  change wpOrd _ _ _ _ _ _ _ (World.drew w)
  have HTD : Hid ((World.drew w).cell? ⟨fb, 3, none⟩ = some (.map (some mb))) := Lib.hid t3
  clear t3
  repeat (first
    | refine ord1 rfl rfl (fun W => by go_simp; rfl) (fun _ _ _ h => h) ?_
    | refine ord2 rfl rfl (fun W hW => by go_simp; rfl) HTD.out (fun _ _ _ h => h) ?_)
  refine ord_call rfl rfl ?he1 HNM.out ?_
  case he1 => go_simp
  rintro e W1 ⟨rfl, hb1⟩
  have H1 := Lib.hid ((H.out.below (below_drewN w 1)).below hb1)
  obtain ⟨D, hD, hS⟩ := H1.out.fp.map
  obtain ⟨v, ps, hrun, hv⟩ := hD.look_ok (string_keyed Try.underlying9) Try.underlying65 (zero3 W1) (zd := .lit (.int .i64 0)) (zp := []) (plainElem_int Try.underlying3 (by decide)) (key_of h16')
  obtain ⟨k, rfl, _, _⟩ := plainElem_int_inv Try.underlying3 hv
  rw [hS.has m HL.out HM.out, HC.out] at hrun
  have HBE : Hid (Below B w W1) := Lib.hid ((Below.drew (Below.refl B w)).trans (hb1.mono hB))
  have HT1 : Hid (W1.cell? ⟨fb, 3, none⟩ = some (.map (some mb))) := Lib.hid H1.out.fp.cells.2.2.2.1
  clear hD hS hv hb1
  refine ⟨_, rfl, fun _ _ => HT1.out, ?_⟩
  refine ord_val (v := .tuple #[.int .i64 k, .bool false]) (w' := W1) rfl rfl ?he2 (fun h => absurd h (by decide)) ?_
  case he2 => go_simp
  clear hrun
  repeat (refine ord1 rfl rfl (fun W => by go_simp; rfl) (fun _ _ _ h => h) ?_)
  change Exit.then _ _ .normal _ _
  subst hf
  have hmz := hms
  obtain ⟨_, _, t2, _, t4, _⟩ := H1.out.fp.cells
  obtain ⟨A4, c4, rfl⟩ : ∃ A4 c4, mv = .slice A4 ms.length c4 := slice_of H1.out.fp.marks
  go_wp2_with fail
  go_ret2
  exact ⟨rfl, HBE.out⟩

set_option maxHeartbeats 2000000 in
theorem find_new (B P fb : Nat) (p : Int) (A A1 : Option Addr) (n c c1 most mb na : Nat) (ms : List (List Int)) (mv av fv : Value) (vs : List Value) (G : List (Value × List Int)) (m : List Int) (arc : Int) (w : World)
    (h : FI w B P fb p A n c most mb na ms mv av fv vs G) (hx : (.slice A1 m.length c1, m) ∈ G) (hl : m.length = P) (hm : ∀ y ∈ m, 0 ≤ y ∧ y ≤ 1000000) (h16 : P ≤ 16) (hB : B ≤ w.heap.size) (hmost : most ≤ 300) (hc : ms.contains m = false) (hf : ms.length ≠ most) :
    Calls Try.prog 30 #[.pointer (some ⟨fb, 0, none⟩), .slice A1 m.length c1, .int .i64 arc] w fun e w' => ∃ k : Int, e = .returned (.tuple #[.int .i64 k, .bool true]) ∧ (∃ mv' fv', FI w' B P fb p A n c most mb na (ms ++ [m]) mv' av fv' (vs ++ [.slice A1 m.length c1]) G) ∧ Below B w w' := by
  obtain ⟨iI, hiI, hzI, hzI1, hzI2⟩ := info_parts infoI
  obtain ⟨iS, hiS, hzS, hzS1, hzS2⟩ := info_parts info25
  have H := Lib.hid h
  have HX := Lib.hid hx
  have HL := Lib.hid hl
  have HM := Lib.hid hm
  have HC := Lib.hid hc
  have t3 := h.fp.cells.2.2.2.1
  have hms := h.hms
  have h16' : m.length ≤ 16 := by omega
  have HNM := Lib.hid (name_any A1 m.length c1 m (World.drew w) h16' rfl hm (row_reads (h.fp.safe _ hx).1 |> fun r => r.keep (w' := World.drew w) (fun _ _ => rfl)))
  clear h hx hl hm hc
  go_enter Try.func30, Try.ntmps30
  go_wp2_with fail
  refine region_ord 6 [(0, 1), (1, 1), (2, 1), (3, 2), (4, 1), (5, 0), (6, 0), (7, 1), (8, 1), (9, 1), (10, 1), (11, 1)] (fun W => W.cell? ⟨fb, 3, none⟩ = some (.map (some mb))) (by kernel_rfl) (by kernel_rfl) ?_
  change wpOrd _ _ _ _ _ _ _ (World.drew w)
  have HTD : Hid ((World.drew w).cell? ⟨fb, 3, none⟩ = some (.map (some mb))) := Lib.hid t3
  clear t3
  repeat (first
    | refine ord1 rfl rfl (fun W => by go_simp; rfl) (fun _ _ _ h => h) ?_
    | refine ord2 rfl rfl (fun W hW => by go_simp; rfl) HTD.out (fun _ _ _ h => h) ?_)
  refine ord_call rfl rfl ?he1 HNM.out ?_
  case he1 => go_simp
  rintro e W1 ⟨rfl, hb1⟩
  have H1 := Lib.hid ((H.out.below (below_drewN w 1)).below hb1)
  obtain ⟨D, hD, hS⟩ := H1.out.fp.map
  obtain ⟨v, ps, hrun, hv⟩ := hD.look_ok (string_keyed Try.underlying9) Try.underlying65 (zero3 W1) (zd := .lit (.int .i64 0)) (zp := []) (plainElem_int Try.underlying3 (by decide)) (key_of h16')
  obtain ⟨k, rfl, _, _⟩ := plainElem_int_inv Try.underlying3 hv
  rw [hS.has m HL.out HM.out, HC.out] at hrun
  have HBE : Hid (Below B w W1) := Lib.hid ((Below.drew (Below.refl B w)).trans (hb1.mono hB))
  have HT1 : Hid (W1.cell? ⟨fb, 3, none⟩ = some (.map (some mb))) := Lib.hid H1.out.fp.cells.2.2.2.1
  clear hD hS hv hb1
  refine ⟨_, rfl, fun _ _ => HT1.out, ?_⟩
  refine ord_val (v := .tuple #[.int .i64 k, .bool false]) (w' := W1) rfl rfl ?he2 (fun h => absurd h (by decide)) ?_
  case he2 => go_simp
  clear hrun
  repeat (refine ord1 rfl rfl (fun W => by go_simp; rfl) (fun _ _ _ h => h) ?_)
  change Exit.then _ _ .normal _ _
  obtain ⟨_, _, t2, _, t4, _⟩ := H1.out.fp.cells
  obtain ⟨A4, c4, rfl⟩ : ∃ A4 c4, mv = .slice A4 ms.length c4 := slice_of H1.out.fp.marks
  have hfz : ((ms.length : Int) == (most : Int)) = false := by simp; omega
  have HNM2 := Lib.hid (name_any A1 m.length c1 m (World.drew W1) h16' rfl HM.out (row_reads (H1.out.fp.safe _ HX.out).1 |> fun r => r.keep (w' := World.drew W1) (fun _ _ => rfl)))
  go_wp2_with fail
  clear t2 t4 hfz
  refine region_ord 7 [(0, 1), (1, 1), (2, 1), (3, 2), (4, 1), (6, 1), (5, 0), (7, 0)] (fun W => W.cell? ⟨fb, 3, none⟩ = some (.map (some mb))) (by kernel_rfl) (by kernel_rfl) ?_
  change wpOrd _ _ _ _ _ _ _ (World.drew W1)
  have HTD1 : Hid ((World.drew W1).cell? ⟨fb, 3, none⟩ = some (.map (some mb))) := Lib.hid HT1.out
  repeat (first
    | refine ord1 rfl rfl (fun W => by go_simp; rfl) (fun _ _ _ h => h) ?_
    | refine ord2 rfl rfl (fun W hW => by go_simp; rfl) HTD1.out (fun _ _ _ h => h) ?_)
  refine ord_call rfl rfl ?he3 HNM2.out ?_
  case he3 => go_simp
  rintro e W2 ⟨rfl, hb2⟩
  have hz1 := HBE.out.size
  have HBE2 : Hid (Below B w W2) := Lib.hid (HBE.out.trans ((Below.drew (Below.refl B W1)).trans (hb2.mono (by show B ≤ W1.heap.size; omega))))
  have H2 := Lib.hid ((H1.out.below (below_drewN W1 1)).below hb2)
  have HT2 : Hid (W2.cell? ⟨fb, 3, none⟩ = some (.map (some mb))) := Lib.hid H2.out.fp.cells.2.2.2.1
  obtain ⟨D2, hD2, hS2⟩ := H2.out.fp.map
  obtain ⟨W3, hrun3, hD3, hg3⟩ := hD2.update (string_keyed Try.underlying9) Try.underlying65 (by unfold maxLen; omega) (key_of h16') (val := .int .i64 ms.length) (d := .lit (.int .i64 ms.length)) (ps := []) (plainElem_int Try.underlying3 (wf_small (by omega)))
  have HF3 := Lib.hid (H2.out.fp.mapped HL.out HM.out _ hD2 hS2 hD3 hg3)
  have HBE3 : Hid (Below B w W3) := Lib.hid (HBE2.out.grown hg3 (by have := HBE2.out.size; omega) (fun j hj => by cases hj; exact H2.out.fp.hmb))
  clear hD2 hS2 hD3 hg3 hb2
  refine ⟨_, rfl, fun _ _ => HT2.out, ?_⟩
  refine ord_skip (w' := W3) rfl rfl ?he4 (fun h => absurd h (by decide)) ?_
  case he4 => go_simp
  clear hrun3
  change Exit.then _ _ .normal _ _
  obtain ⟨_, _, _, _, t4, _⟩ := HF3.out.cells
  have hz3 := HBE3.out.size
  have HWA := Lib.hid ((Below.refl W3.heap.size W3).alloc (Nat.le_refl _) (.cells #[.slice A1 m.length c1] 25))
  have HFA := Lib.hid (HF3.out.below HWA.out)
  have HNA : Hid ((W3.alloc (.cells #[.slice A1 m.length c1] 25)).cell? ⟨W3.heap.size, 0, none⟩ = some (.slice A1 m.length c1)) := Lib.hid (by simp [go_sem])
  have HBA := Lib.hid (HBE3.out.alloc (by omega) (.cells #[.slice A1 m.length c1] 25))
  go_wp2_with (at_builtin; refine wpList_append_lies _ rfl (.tmp 47) (.tmp 49) 36 rfl B 25 iS _ 1 24 Try.underlying36 hiS hzS hzS1 hzS2 rfl (by decide) (.slice A4 ms.length c4) ms.length vs rfl HFA.out.marks ⟨W3.heap.size, 0, none⟩ 1 1 [.slice A1 m.length c1] rfl rfl ?c1 ?c2 (by decide) ?c3 ?c4 ?c5 _ rfl ?_)
  case c1 =>
    intro j u hu
    obtain ⟨hj, rfl⟩ := List.getElem?_eq_some_iff.1 hu
    obtain rfl : j = 0 := by simpa using hj
    exact HNA.out
  case c2 => intro u hu; simp only [List.mem_singleton] at hu; subst hu; rfl
  case c3 => unfold maxLen; omega
  case c4 => omega
  case c5 => simp; omega
  intro g4 cap4 W4 hown4 hgrow4 _ _
  obtain ⟨hb4, hfp5⟩ := HFA.out.marked hown4 hgrow4
  have HF5 := Lib.hid hfp5
  have HBE4 : Hid (Below B w W4) := Lib.hid (HBA.out.grown hgrow4 (by simp; omega) (fun j hj => (HFA.out.marks.lt j hj).1))
  have t4' : W4.cell? ⟨fb, 4, none⟩ = some (.slice A4 ms.length c4) := by simp [World.cell?, hb4]
  have t4f : W4.frozen? ⟨fb, 4, none⟩ = false := by simp [World.frozen?, hb4]
  clear hown4 hgrow4 hfp5 t4 hb4
  go_upto_region 9 with (fail)
  have HBE5 := Lib.hid (HBE4.out.setCell (p := ⟨fb, 4, none⟩) H2.out.fp.hfb (.slice (some ⟨g4, 0, none⟩) (ms.length + 1) cap4))
  clear t4' t4f
  generalize W4.setCell ⟨fb, 4, none⟩ (.slice (some ⟨g4, 0, none⟩) (ms.length + 1) cap4) = W5 at *
  obtain ⟨_, _, _, _, _, _, t6, _⟩ := HF5.out.cells
  have hz5 := HBE5.out.size
  obtain ⟨xs, hxs, hf6⟩ := HF5.out.first
  obtain ⟨A6, c6, rfl⟩ : ∃ A6 c6, fv = .slice A6 ms.length c6 := slice_of hf6
  have HXS := Lib.hid hxs
  have HWB := Lib.hid ((Below.refl W5.heap.size W5).alloc (Nat.le_refl _) (.cells #[.int .i64 arc] 3))
  have HFB := Lib.hid (HF5.out.below HWB.out)
  have HR6 := Lib.hid (own_below hf6 HWB.out)
  have HNB : Hid ((W5.alloc (.cells #[.int .i64 arc] 3)).cell? ⟨W5.heap.size, 0, none⟩ = some (.int .i64 arc)) := Lib.hid (by simp [go_sem])
  have HBB := Lib.hid (HBE5.out.alloc (by omega) (.cells #[.int .i64 arc] 3))
  clear hf6 hxs
  go_wp2_with (at_builtin; refine wpList_append_lies _ rfl (.tmp 58) (.tmp 60) 25 rfl B 3 iI _ 1 8 Try.underlying25 hiI hzI hzI1 hzI2 rfl (by decide) (.slice A6 ms.length c6) ms.length (xs.map (Value.int .i64)) rfl HR6.out ⟨W5.heap.size, 0, none⟩ 1 1 [.int .i64 arc] rfl rfl ?d1 ?d2 (by decide) ?d3 ?d4 ?d5 _ rfl ?_)
  case d1 =>
    intro j u hu
    obtain ⟨hj, rfl⟩ := List.getElem?_eq_some_iff.1 hu
    obtain rfl : j = 0 := by simpa using hj
    exact HNB.out
  case d2 => intro u hu; simp only [List.mem_singleton] at hu; subst hu; rfl
  case d3 => unfold maxLen; omega
  case d4 => omega
  case d5 => simp; omega
  intro g6 cap6 W6 hown6 hgrow6 hat6 _
  obtain ⟨hb6, hfp7⟩ := HFB.out.firsted HXS.out hown6 HR6.out hgrow6 (by simpa using hat6)
  have HF7 := Lib.hid hfp7
  have HBE6 : Hid (Below B w W6) := Lib.hid (HBB.out.grown hgrow6 (by simp; omega) (fun j hj => (HR6.out.lt j hj).1))
  have t6' : W6.cell? ⟨fb, 6, none⟩ = some (.slice A6 ms.length c6) := by simp [World.cell?, hb6]
  have t6f : W6.frozen? ⟨fb, 6, none⟩ = false := by simp [World.frozen?, hb6]
  have HM6 : Hid ((ms ++ [m]).length = ms.length + 1) := Lib.hid (by simp)
  have HG : Hid (∀ (i : Nat) (m' : List Int) (v : Value), (ms ++ [m])[i]? = some m' → (vs ++ [.slice A1 m.length c1])[i]? = some v → (v, m') ∈ G) := Lib.hid (fun i m' v hi hv => by
    have hvl : vs.length = ms.length := by have := H2.out.fp.marks.1; simpa using this
    rcases Cv.get_snoc hi with hi | ⟨rfl, rfl⟩
    · rcases Cv.get_snoc hv with hv | ⟨e1, rfl⟩
      · exact H2.out.inn i m' v hi hv
      · have := (List.getElem?_eq_some_iff.1 hi).1; omega
    · rw [← hvl] at hv
      simp at hv
      subst hv
      exact HX.out)
  have HGD : Hid (∀ m' ∈ ms ++ [m], m'.length = P ∧ ∀ y ∈ m', 0 ≤ y ∧ y ≤ 1000000) := Lib.hid (fun m' hm' => by
    rcases List.mem_append.1 hm' with h | h
    · exact H2.out.good m' h
    · simp at h; subst h; exact ⟨HL.out, HM.out⟩)
  clear hown6 hgrow6 hat6 hfp7 t6 hb6
  go_wp2_with fail
  go_ret2
  exact ⟨_, rfl, ⟨_, _, by rw [HM6.out]; exact HF7.out, HG.out, HGD.out, by rw [HM6.out]; omega⟩, HBE6.out.setCell (p := ⟨fb, 6, none⟩) H2.out.fp.hfb _⟩

end Go.Proofs.Ytblbgbgnifdohaa
