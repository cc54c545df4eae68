/-
  The closed fact of the text chapter, as plain functions have it.
-/
import Derived.Test.YtednlgeidgnogaaDoorBack
namespace Go.Proofs.YtednlgeidgnogaaDoor
namespace Tx
open Go.Lib

def text1 : List UInt8 := [110, 101, 116, 32, 51, 10, 98, 32, 58, 32, 48, 32, 50, 42, 50, 32, 62, 32, 49, 10, 45, 32, 58, 32, 62, 32, 48, 10]
def text2 : List UInt8 := [110, 101, 116, 32, 51, 10, 98, 32, 58, 32, 48, 32, 50, 42, 50, 32, 62, 32, 51, 10]
def net1 : Nt := ⟨3, [⟨2, [1, 0, 2], [0, 1, 0]⟩, ⟨0, [0, 0, 0], [1, 0, 0]⟩]⟩

theorem itoa0 : itoa 0 = [48] := itoa_smallN (p := 0) (by decide)
theorem itoa1 : itoa 1 = [49] := itoa_smallN (p := 1) (by decide)
theorem itoa2 : itoa 2 = [50] := itoa_smallN (p := 2) (by decide)
theorem itoa3 : itoa 3 = [51] := itoa_smallN (p := 3) (by decide)
theorem print1 : printS net1 = text1 := by
  simp [printS, net1, netB, lineS, labelS, side, sideFrom, num, itoa0, itoa1, itoa2, itoa3, text1]
theorem right1 : ntWrong net1 = false := by decide
theorem parse1 : parseS text1 = ⟨net1, 0, true⟩ := by rw [← print1]; exact back_ok right1

theorem tran2 : tranS 3 [98, 32, 58, 32, 48, 32, 50, 42, 50, 32, 62, 32, 51] = none := by
  have h : (tranS 3 [98, 32, 58, 32, 48, 32, 50, 42, 50, 32, 62, 32, 51]).isNone = true := by decide +kernel
  simpa using h
theorem parse2 : parseS text2 = noNet 1 := by
  have hg : Good [[110, 101, 116, 32, 51] ++ [10], [98, 32, 58, 32, 48, 32, 50, 42, 50, 32, 62, 32, 51] ++ [10], []] := Good.cons (by decide) (Good.cons (by decide) (by simp [Good]))
  have hl := hg.lines
  have e : ([[110, 101, 116, 32, 51] ++ [10], [98, 32, 58, 32, 48, 32, 50, 42, 50, 32, 62, 32, 51] ++ [10], []] : List (List UInt8)).flatten = text2 := by decide
  rw [e] at hl
  have hh : headS [110, 101, 116, 32, 51] = some 3 := by
    have := headS_small (p := 3) (by decide) (by decide)
    rwa [itoa3] at this
  unfold parseS
  rw [hl, parseGo, if_neg (by simp), if_neg (by rw [suffix_nl]; simp), if_pos rfl, trim_nl, hh]
  simp only
  rw [parseGo, if_neg (by simp), if_neg (by rw [suffix_nl]; simp), if_neg (by simp), trim_nl]
  have : tranS (3 : Int).toNat [98, 32, 58, 32, 48, 32, 50, 42, 50, 32, 62, 32, 51] = none := tran2
  rw [this]
end Tx
end Go.Proofs.YtednlgeidgnogaaDoor
