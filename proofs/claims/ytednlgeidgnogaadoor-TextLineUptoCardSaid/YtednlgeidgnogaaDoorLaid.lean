/-
  What a row's list of variables gives of memory; a world for the witness; what is alike in the three rows' proofs.
-/
import Derived.Test.YtednlgeidgnogaaDoorWalkM
import Derived.Test.YtednlgeidgnogaaDoorCards
import Derived.Test.YtednlgeidgnogaaDoorTie
import Derived.ProofKit
import Derived.OpenShut
import Derived.Deep.DeepHandedRow
import Derived.Deep.DeepWitnessRowRef
import Derived.Lib.LaidTab
import Derived.Deep.DeepLaidRun
namespace Go.Proofs.YtednlgeidgnogaaDoor
open Go.ChangeShapes Go.WideShapes Go.ChangeAt Go.RowKit

theorem own : ownKnob Tryd.prog.godebug = none := by kernel_rfl
theorem gMax : Tryd.prog.globalNamed "internal/bytealg.MaxLen" = some 0 := by kernel_rfl
theorem gSyn : Tryd.prog.globalNamed "strconv.ErrSyntax" = some 1 := by kernel_rfl
theorem gSynT : (Tryd.prog.globals[1]?).map (·.type) = some 46 := by kernel_rfl
theorem gRng : Tryd.prog.globalNamed "strconv.ErrRange" = some 2 := by kernel_rfl
theorem gRngT : (Tryd.prog.globals[2]?).map (·.type) = some 46 := by kernel_rfl
theorem gSpaceT : (Tryd.prog.globals[3]?).map (·.type) = some 105 := by kernel_rfl
theorem cells105 : Tryd.prog.cellsOf 105 = 256 := by kernel_rfl
theorem cells5 : Tryd.prog.cellsOf 5 = 1 := by kernel_rfl

theorem iface_cell {w : World} {n : String} {g : Nat} {name : String} {d : DataW Unit} (hg : Tryd.prog.globalNamed n = some g) (hty : (Tryd.prog.globals[g]?).map (·.type) = some 46) (h : Lib.VarReads Tryd.prog w n (.iface name d)) :
    ∃ te pe, w.cell? ⟨g, 0, none⟩ = some (.iface te pe) := by
  obtain ⟨g', t, cs, fuel, p, h1, h2, h3, h4⟩ := h
  obtain rfl := Option.some.inj (hg.symm.trans h1)
  obtain rfl := Option.some.inj (hty.symm.trans h2)
  obtain ⟨f', u, v, hc, _, _⟩ := iface_of_trod Tryd.underlying46 h4
  refine ⟨u, v, ?_⟩
  have := World.var?_cell hg h3 0
  rw [this, ← Array.getElem?_toList, hc]
  rfl
theorem space_of {w : World} (h : Lib.VarReads Tryd.prog w "strings.asciiSpace" (Lib.tabData .u8 Lib.asciiSpaceTab)) : Lib.TabIs Tryd.prog w "strings.asciiSpace" .u8 Lib.asciiSpaceTab := by
  obtain ⟨g', t, cs, fuel, p, h1, h2, h3, h4⟩ := h
  obtain rfl := Option.some.inj (gSpace.symm.trans h1)
  obtain rfl := Option.some.inj (gSpaceT.symm.trans h2)
  unfold Lib.TabIs
  rw [h3, ← Lib.cells_of_tab Tryd.underlying105 Tryd.underlying5 cells5 cells105 h4]

theorem space_data : (Rows.laid_strings_asciiSpace : DataW Unit) = Lib.tabData .u8 Lib.asciiSpaceTab := by kernel_rfl
theorem white_data : (Rows.laid_unicode_White_Space : DataW Unit) = Lib.whiteData := by kernel_rfl

/-- WHAT THE ROWS' LIST GIVES. -/
theorem glob_of {W : World} (hL : laidMetH Tryd.prog Rows.textOnlyRow.laid W) (hS : W.ShapedOpen Tryd.prog) : Glob W := by
  have h : laidMet Tryd.prog Rows.textOnlyRow.laid W := hL
  refine ⟨cell_of_shapedOpen_int (zero := #[.int .i64 0]) (t := 3) hS (of_decide_eq_true (by kernel_rfl)) (by kernel_rfl) rfl (by kernel_rfl) (by kernel_rfl) Tryd.underlying3, ?_, ?_, ?_, ?_⟩
  · exact iface_cell gSyn gSynT (Lib.laidMet.reads h (List.mem_of_getElem? (i := 5) rfl))
  · exact iface_cell gRng gRngT (Lib.laidMet.reads h (List.mem_of_getElem? (i := 4) rfl))
  · have hr : Lib.VarReads Tryd.prog W "strings.asciiSpace" Rows.laid_strings_asciiSpace := Lib.laidMet.reads h (List.mem_of_getElem? (i := 7) rfl)
    rw [space_data] at hr
    exact space_of hr
  · have hr : Lib.VarReads Tryd.prog W "unicode.White_Space" Rows.laid_unicode_White_Space := Lib.laidMet.reads h (List.mem_of_getElem? (i := 6) rfl)
    rw [white_data] at hr
    exact whiteTab_of_reads (ρ := Tryd.lays157_ren) { Tryd.lays157 with } ⟨by kernel_rfl, by kernel_rfl, by kernel_rfl, by kernel_rfl, by kernel_rfl, by kernel_rfl, by kernel_rfl, by kernel_rfl⟩ hr

/-- the cells of a table of numbers, or of pairs of them. -/
def litCells : DataW Unit → List Value
  | .lit (.int k z) => [.int k z]
  | .agg [.lit (.int k a), .lit (.int l b)] => [.int k a, .int l b]
  | _ => []
def tabCells : DataW Unit → Array Value
  | .agg l => (l.flatMap litCells).toArray
  | _ => #[]
def putBlock (h : Array Obj) (g : Nat) (cs : Array Value) : Array Obj := h.modify g fun
  | .cells _ t frozen => .cells cs t frozen
  | o => o
/-- A WORLD FOR THE WITNESS: the settled one with four blocks more, the variables holding what their initialisers lay. -/
noncomputable def laidWorld (os : Os) : World :=
  let N := (World.settled Tryd.prog os).heap.size
  let w0 := World.holding Tryd.prog os ⟨#[.cells (Lib.whiteT.map fun (z : Nat) => Value.int .u16 (z : Int)).toArray 134, .cells #[.slice (some ⟨N, 0, none⟩) 7 7, .slice none 0 0, .int .i64 2] 131,
    .cells #[.string ⟨#[105, 110, 118, 97, 108, 105, 100, 32, 115, 121, 110, 116, 97, 120]⟩] 114, .cells #[.string ⟨#[118, 97, 108, 117, 101, 32, 111, 117, 116, 32, 111, 102, 32, 114, 97, 110, 103, 101]⟩] 114], #[], []⟩
  let h1 := putBlock w0.heap 1 #[.iface 112 (.pointer (some ⟨N + 2, 0, none⟩))]
  let h2 := putBlock h1 2 #[.iface 112 (.pointer (some ⟨N + 3, 0, none⟩))]
  let h3 := putBlock h2 3 (tabCells Rows.laid_strings_asciiSpace)
  let h4 := putBlock h3 4 (tabCells Rows.laid_internal_strconv_uint64pow10)
  let h5 := putBlock h4 5 #[.pointer (some ⟨N + 1, 0, none⟩)]
  let h6 := putBlock h5 6 (tabCells Rows.laid_unicode_utf8_first)
  let h7 := putBlock h6 7 (tabCells Rows.laid_unicode_utf8_acceptRanges)
  let h8 := putBlock h7 8 (tabCells Rows.laid_math_bits_deBruijn32tab)
  let h9 := putBlock h8 9 (tabCells Rows.laid_math_bits_deBruijn64tab)
  { w0 with heap := h9 }
set_option maxRecDepth 100000 in
theorem laid_met (os : Os) (args : Array Value) : laidMet Tryd.prog Rows.textOnlyRow.laid ((laidWorld os).forCall (fun _ _ => 0) ⟨#[], args, []⟩).memory :=
  laidMet_of_run3 12 (by kernel_rfl) (by kernel_rfl) (by kernel_rfl)

theorem laidOut : laidOutB Tryd.prog = true := by kernel_rfl
/-- A CALL THAT ANSWERS true AND CHANGES NOTHING THAT WAS THERE, its one argument read again. -/
theorem true_post {H : Type} {enc : TypeId × Value → H} {s : ChangeSpec} {f : Func} {W W' : World} {args : Array Value} {ds gs : List (DataW H)} {before : List MemPlace} {ty : TypeId} (hv : s.vars = []) (hP : f.params = #[ty]) (hR : f.resultTypes = #[4])
    (hr : Tryd.prog.readableRec ty = true) (hty : ty < Tryd.prog.types.size)
    (hfn : ∀ d, s.fn H [d] = { results := [.lit (.bool true)], args := [d] }) (hW : DataW.Whole enc Tryd.prog f.params.toList s.vars false W args.toList ds gs before) (hb : Below W.heap.size W W') :
    s.post enc Tryd.prog f false true false false W args (.bool true) W' := by
  have hlt : ∀ p ∈ before, p.block < W.heap.size := fun p hp => hW.lt p hp
  have hW' := hW
  obtain ⟨p, q, hA0, hV, rfl, _, _⟩ := hW
  rw [hv] at hV
  obtain ⟨rfl, rfl⟩ := trodVars_none hV
  have hA : DataW.TrodAll enc Tryd.prog W 0 (fun _ => true) true f.params.toList args.toList ds p := hA0
  rw [hP] at hA
  obtain ⟨v0, d0, he, rfl, h0⟩ := trodAll_one hA
  have h1 := Below.trod laidOut hr hty h0 hb (fun x hx => hlt x (by simpa using hx))
  refine ⟨_, _, _, [], p, [], hW', ?_, ?_, ?_, World.keptBut_mono (fun x hx => ⟨hx, .inr (.inl (by simpa using hx))⟩) (hb.frame (· ∈ p ++ [])), fun h => by cases h⟩
  · rw [hR, List.append_nil, hfn]
    exact trodAll_cons_mk (shut_bool Tryd.underlying4 true) trodAll_mk0
  · rw [hP, List.append_nil, hfn, he]
    exact trodAll_mk1 h1
  · rw [hv, List.append_nil, hfn]
    exact rfl
end Go.Proofs.YtednlgeidgnogaaDoor
