/- Small functions on bytes, numbers, words. Conditions: none. -/
import Derived.Test.YtkclodaplbalfaaDoorEyes
set_option linter.unusedVariables false
set_option linter.unusedSimpArgs false
set_option maxRecDepth 100000
namespace Go.Proofs.YtkclodaplbalfaaDoor
open Go Sl

def isDigitZ (n : Int) : Bool := decide (48 ≤ n ∧ n ≤ 57)
theorem isDigit_pure (n : Int) : PureC Tryd.prog 40 #[u8 n] (.bool (isDigitZ n)) := by
  intro I
  refine go40 ?_
  unfold M40
  by_cases h1 : 48 ≤ n <;> (repeat with_reducible first | refine StG.h ?_ | refine StY.h ‹_› ?_ | refine StN.h ‹_› ?_) <;> exact ret_bool (by simp [isDigitZ, *])
def isLetterZ (n : Int) : Bool := decide (n = 95 ∨ (97 ≤ n ∧ n ≤ 122) ∨ (65 ≤ n ∧ n ≤ 90))
theorem isLetter_pure (n : Int) : PureC Tryd.prog 39 #[u8 n] (.bool (isLetterZ n)) := by
  intro I
  refine go39 ?_
  unfold M39
  by_cases h1 : n = 95 <;> by_cases h2 : 97 ≤ n <;> by_cases h3 : n ≤ 122 <;> by_cases h4 : 65 ≤ n <;> (repeat with_reducible first | refine StG.h ?_ | refine StY.h ‹_› ?_ | refine StN.h ‹_› ?_) <;> exact ret_bool (by rw [Bool.eq_iff_iff]; simp [isLetterZ] <;> omega)
theorem one_pure (b : Bool) : PureC Tryd.prog 45 #[.bool b] (i64 (if b then 1 else 0)) := by
  intro I
  refine go45 ?_
  unfold M45
  cases b <;> rfl
def withinZ (n lo hi : Int) : Bool := decide (lo ≤ n ∧ n ≤ hi)
theorem within_pure (n lo hi : Int) : PureC Tryd.prog 37 #[i64 n, i64 lo, i64 hi] (.bool (withinZ n lo hi)) := by
  intro I
  refine go37 ?_
  unfold M37
  by_cases h1 : lo ≤ n <;> (repeat with_reducible first | refine StG.h ?_ | refine StY.h ‹_› ?_ | refine StN.h ‹_› ?_) <;> exact ret_bool (by simp [withinZ, *])
end Go.Proofs.YtkclodaplbalfaaDoor
