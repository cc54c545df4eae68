/-
  Covering trees and reached marks as plain functions: what cover.Tree, cover.Limit and reach.Graph compute. No program in sight.
-/
namespace Go.Proofs.Ytblbgbgnifdohaa
namespace Tx
structure Tr where
  label : Int
  pre : List Int
  post : List Int

structure Nt where
  places : Int
  trans : List Tr

def badW (w : Int) : Bool := decide (w < 0) || decide (9 < w)
def trWrong (p : Int) (t : Tr) : Bool :=
  decide (t.label < 0) || decide (26 < t.label) || ((t.pre.length : Int) != p) || ((t.post.length : Int) != p) || t.pre.any badW || t.post.any badW
def ntWrong (n : Nt) : Bool := decide (n.places < 0) || decide (16 < n.places) || decide (24 < n.trans.length) || n.trans.any (trWrong n.places)
end Tx

namespace Cv
open Tx
/-- a knot: what it comes of, by which transition, its mark. -/
structure Kn where
  up : Int
  tran : Int
  mark : List Int

def badN (x : Int) : Bool := decide (x < 0) || decide (1000000 < x)
def rightV (m : List Int) : Bool := !m.any badN
/-- the net and the mark are as they must be. -/
def fitV (n : Nt) (m : List Int) : Bool := !ntWrong n && (m.length : Int) == n.places && rightV m

def coversV (a b : List Int) : Bool := (a.zip b).all fun p => decide (p.2 ≤ p.1)
def fireR (t : Tr) (m : List Int) : List Int := ((m.zip t.pre).map fun p => p.1 - p.2).zip t.post |>.map fun p => p.1 + p.2

def enabledI (ts : List Tr) (m : List Int) : List Nat := (List.range ts.length).filter fun k => match ts[k]? with
  | some t => coversV m t.pre
  | none => false

def stepM (most : Nat) (ts : List Tr) (m : List Int) (ms : List (List Int)) (k : Nat) : Option (List (List Int)) :=
  match ts[k]? with
  | none => none
  | some t =>
    if (fireR t m).any (fun x => decide (1000000 < x)) then none
    else if ms.contains (fireR t m) then some ms
    else if ms.length = most then none
    else some (ms ++ [fireR t m])
def roundM (most : Nat) (ts : List Tr) (m : List Int) : List Nat → List (List Int) → Option (List (List Int))
  | [], ms => some ms
  | k :: r, ms => match stepM most ts m ms k with
    | none => none
    | some ms' => roundM most ts m r ms'
def exploreF (most : Nat) (ts : List Tr) : Nat → Nat → List (List Int) → Option (List (List Int))
  | 0, _, _ => none
  | f + 1, k, ms => match ms[k]? with
    | none => some ms
    | some m => match roundM most ts m (enabledI ts m) ms with
      | none => none
      | some ms' => exploreF most ts f (k + 1) ms'
def graphF (n : Nt) (m : List Int) : Option (List (List Int)) := exploreF 300 n.trans 301 0 [m]

def belowV (a b : List Int) : Bool := (a.zip b).all fun p => !(p.2 != -1 && (p.1 == -1 || decide (p.2 < p.1)))
def fireV (t : Tr) (m : List Int) : List Int := (m.zip (t.pre.zip t.post)).map fun p => if p.1 = -1 then -1 else p.1 + (p.2.2 - p.2.1)

/-- the marks of a knot, and of all those it comes of. -/
def pathF (ks : List Kn) : Nat → Int → List (List Int)
  | 0, _ => []
  | f + 1, k => if k < 0 then [] else match ks[k.toNat]? with
    | none => []
    | some kn => kn.mark :: pathF ks f kn.up
def pathV (ks : List Kn) (k : Int) : List (List Int) := pathF ks (k.toNat + 1) k

def raiseV (x m : List Int) : List Int := (x.zip m).map fun p => if p.2 ≠ -1 ∧ p.1 < p.2 ∧ p.1 ≠ -1 then -1 else p.2
def growStep (s : List Int × Bool) (x : List Int) : List Int × Bool :=
  if belowV x s.1 then (raiseV x s.1, s.2 || (raiseV x s.1 != s.1)) else s
def growF (xs : List (List Int)) : Nat → List Int → List Int
  | 0, m => m
  | f + 1, m => if (xs.foldl growStep (m, false)).2 then growF xs f (xs.foldl growStep (m, false)).1 else (xs.foldl growStep (m, false)).1
def growV (xs : List (List Int)) (m : List Int) : List Int := growF xs (m.countP (· != -1) + 1) m

def againV (ks : List Kn) (k : Nat) : Bool := match ks[k]? with
  | none => false
  | some kn => (pathV ks kn.up).any (· == kn.mark)

def stepT (most : Nat) (ts : List Tr) (k : Nat) (m : List Int) (ks : List Kn) (i : Nat) : Option (List Kn) :=
  match ts[i]? with
  | none => none
  | some t =>
    if belowV t.pre m = false then some ks
    else if ks.length = most then none
    else some (ks ++ [⟨k, i, growV (pathV ks k) (fireV t m)⟩])
def roundT (most : Nat) (ts : List Tr) (k : Nat) (m : List Int) : List Nat → List Kn → Option (List Kn)
  | [], ks => some ks
  | i :: r, ks => match stepT most ts k m ks i with
    | none => none
    | some ks' => roundT most ts k m r ks'
def treeF (most : Nat) (ts : List Tr) : Nat → Nat → List Kn → Option (List Kn)
  | 0, _, _ => none
  | f + 1, k, ks => match ks[k]? with
    | none => some ks
    | some kn =>
      if againV ks k then treeF most ts f (k + 1) ks
      else match roundT most ts k kn.mark (List.range ts.length) ks with
        | none => none
        | some ks' => treeF most ts f (k + 1) ks'
def treeV (n : Nt) (m : List Int) (most : Nat) : Option (List Kn) := treeF most n.trans (most + 1) 0 [⟨-1, -1, m⟩]

def limitV (ks : List Kn) (p : Nat) : Int :=
  if ks.any (fun k => k.mark[p]?.getD 0 == -1) then -1 else ks.foldl (fun a k => max a (k.mark[p]?.getD 0)) 0

def hasMany (ks : List Kn) : Bool := ks.any fun k => k.mark.contains (-1)
/-- what the law tests of a tree that has nowhere many. -/
def boundedV (ks : List Kn) (g : Option (List (List Int))) : Bool := match g with
  | none => ks.any fun k => k.mark.any fun x => decide (1000000 < x)
  | some ms => ms.all (fun x => ks.any fun k => k.mark == x) && ks.all (fun k => ms.any fun x => k.mark == x)
end Cv
end Go.Proofs.Ytblbgbgnifdohaa
