/-
  The text chapter as plain functions on bytes: what Print and Parse compute. No program in sight.
-/
import Derived.Lib.ItoaNum
import Derived.Lib.AtoiAll
import Derived.Lib.SpaceU
import Derived.Lib.SplitLaws
import Derived.Lib.FieldsLaws
namespace Go.Proofs.YtednlgeidgnogaaDoor
namespace Tx
open Go.Lib

structure Tr where
  label : Int
  pre : List Int
  post : List Int

structure Nt where
  places : Int
  trans : List Tr

def badW (w : Int) : Bool := decide (w < 0) || decide (9 < w)
def trWrong (p : Int) (t : Tr) : Bool :=
  decide (t.label < 0) || decide (26 < t.label) || ((t.pre.length : Int) != p) || ((t.post.length : Int) != p) || t.pre.any badW || t.post.any badW
def ntWrong (n : Nt) : Bool := decide (n.places < 0) || decide (16 < n.places) || decide (24 < n.trans.length) || n.trans.any (trWrong n.places)

def num (p : Nat) (n : Int) : List UInt8 :=
  if n = 0 then [] else if 1 < n then 32 :: (itoa n ++ 42 :: itoa p) else 32 :: itoa p
def sideFrom : Nat → List Int → List UInt8
  | _, [] => []
  | p, n :: r => num p n ++ sideFrom (p + 1) r
def side (w : List Int) : List UInt8 := sideFrom 0 w
def labelS (n : Int) : List UInt8 := if n = 0 then [45] else [UInt8.ofNat (96 + n.toNat)]
def lineS (t : Tr) : List UInt8 := labelS t.label ++ ([32, 58] ++ (side t.pre ++ ([32, 62] ++ side t.post)))
def netB : List UInt8 := [110, 101, 116, 32]
def printS (n : Nt) : List UInt8 := netB ++ (itoa n.places ++ [10]) ++ (n.trans.map fun t => lineS t ++ [10]).flatten

/-- what a field tells: the place and the weight. -/
def fieldW (places : Nat) (f : List UInt8) : Option (Nat × Int) :=
  let c := cut f [42]
  let many := if c.2.2 then c.1 else [49]
  let at_ := if c.2.2 then c.2.1 else f
  match atoiAll many, atoiAll at_ with
  | .ok n, .ok p => if 0 ≤ p ∧ p < places ∧ 1 ≤ n ∧ n ≤ 9 then some (p.toNat, n) else none
  | _, _ => none
def weightsGo (places : Nat) : List (List UInt8) → List Int → Option (List Int)
  | [], out => some out
  | f :: r, out => match fieldW places f with
    | none => none
    | some (p, n) => weightsGo places r (out.set p n)
def weightsS (places : Nat) (s : List UInt8) : Option (List Int) := weightsGo places (fieldsD s) (List.replicate places 0)

def labelOf (name : List UInt8) : Int := if name = [45] then 0 else ((name.headD 0).toNat : Int) - 96
def tranS (places : Nat) (s : List UInt8) : Option Tr :=
  let c := cut s [32, 58]
  let d := cut c.2.1 [32, 62]
  if c.2.2 = true ∧ d.2.2 = true ∧ c.1.length = 1 then
    match weightsS places d.1, weightsS places d.2.1 with
    | some a, some b => if 0 ≤ labelOf c.1 ∧ labelOf c.1 ≤ 26 ∧ lineS ⟨labelOf c.1, a, b⟩ = s then some ⟨labelOf c.1, a, b⟩ else none
    | _, _ => none
  else none

def headS (l : List UInt8) : Option Int :=
  match atoiAll (trimPrefix l netB) with
  | .ok p => if 0 ≤ p ∧ p ≤ 16 ∧ l = netB ++ itoa p then some p else none
  | _ => none

/-- the net, the line, whether all is well. -/
structure Res where
  net : Nt
  line : Nat
  ok : Bool

def noNet (k : Nat) : Res := ⟨⟨0, []⟩, k, false⟩

def parseGo : Nat → Nt → List (List UInt8) → Res
  | _, n, [] => ⟨n, 0, true⟩
  | k, n, l :: r =>
    if 0 < k ∧ l = [] then ⟨n, 0, true⟩
    else if hasSuffix l [10] = false ∨ 24 < k then noNet k
    else if k = 0 then
      match headS (trimSuffix l [10]) with
      | none => noNet k
      | some p => parseGo 1 ⟨p, n.trans⟩ r
    else
      match tranS n.places.toNat (trimSuffix l [10]) with
      | none => noNet k
      | some t => parseGo (k + 1) ⟨n.places, n.trans ++ [t]⟩ r

def linesS (s : List UInt8) : List (List UInt8) := splitK [10] 1 (count s [10]) s
def parseS (s : List UInt8) : Res := parseGo 0 ⟨0, []⟩ (linesS s)

end Tx
end Go.Proofs.YtednlgeidgnogaaDoor
