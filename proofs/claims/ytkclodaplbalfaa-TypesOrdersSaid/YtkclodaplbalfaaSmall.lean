/- Small functions on bytes, numbers, words. Conditions: none. -/
import Derived.Test.YtkclodaplbalfaaEyes
set_option linter.unusedVariables false
set_option linter.unusedSimpArgs false
set_option maxRecDepth 100000
namespace Go.Proofs.Ytkclodaplbalfaa
open Go Sl

def isDigitZ (n : Int) : Bool := decide (48 ≤ n ∧ n ≤ 57)
theorem isDigit_pure (n : Int) : PureC Try.prog 44 #[u8 n] (.bool (isDigitZ n)) := by
  intro I
  refine go44 ?_
  unfold M44
  by_cases h1 : 48 ≤ n <;> (repeat first | (with_reducible refine gdtt_ ?_) | (with_reducible refine gdtf_ ?_) | (with_reducible refine gdff_ ?_) | (with_reducible refine gdft_ ?_) | (with_reducible refine pckt_ ?_) | (with_reducible refine pckf_ ?_) | (with_reducible refine cndt_ ?_) | (with_reducible refine cndf_ ?_) | (with_reducible refine cnd_yes (by assumption) ?_) | (with_reducible refine cnd_no (by assumption) ?_) | (with_reducible refine gd_yes (by assumption) ?_) | (with_reducible refine gd_no (by assumption) ?_) | (with_reducible refine gdn_yes (by assumption) ?_) | (with_reducible refine gdn_no (by assumption) ?_) | (with_reducible refine gdu_ ?_) | (with_reducible refine pck_yes (by assumption) ?_) | (with_reducible refine pck_no (by assumption) ?_) | (with_reducible refine leq_ ?_) | (with_reducible refine lss_ ?_) | (with_reducible refine geq_ ?_) | (with_reducible refine gtr_ ?_) | (with_reducible refine eqi_ ?_) | (with_reducible refine nei_ ?_) | (with_reducible refine seq_ ?_) | (with_reducible refine sne_ ?_) | (with_reducible refine not_ ?_) | (with_reducible refine nott_ ?_) | (with_reducible refine notf_ ?_) | (with_reducible refine notb_ ?_)) <;> exact ret_bool (by simp [isDigitZ, *])
def isLetterZ (n : Int) : Bool := decide (n = 95 ∨ (97 ≤ n ∧ n ≤ 122) ∨ (65 ≤ n ∧ n ≤ 90))
theorem isLetter_pure (n : Int) : PureC Try.prog 43 #[u8 n] (.bool (isLetterZ n)) := by
  intro I
  refine go43 ?_
  unfold M43
  by_cases h1 : n = 95 <;> by_cases h2 : 97 ≤ n <;> by_cases h3 : n ≤ 122 <;> by_cases h4 : 65 ≤ n <;> (repeat first | (with_reducible refine gdtt_ ?_) | (with_reducible refine gdtf_ ?_) | (with_reducible refine gdff_ ?_) | (with_reducible refine gdft_ ?_) | (with_reducible refine pckt_ ?_) | (with_reducible refine pckf_ ?_) | (with_reducible refine cndt_ ?_) | (with_reducible refine cndf_ ?_) | (with_reducible refine cnd_yes (by assumption) ?_) | (with_reducible refine cnd_no (by assumption) ?_) | (with_reducible refine gd_yes (by assumption) ?_) | (with_reducible refine gd_no (by assumption) ?_) | (with_reducible refine gdn_yes (by assumption) ?_) | (with_reducible refine gdn_no (by assumption) ?_) | (with_reducible refine gdu_ ?_) | (with_reducible refine pck_yes (by assumption) ?_) | (with_reducible refine pck_no (by assumption) ?_) | (with_reducible refine leq_ ?_) | (with_reducible refine lss_ ?_) | (with_reducible refine geq_ ?_) | (with_reducible refine gtr_ ?_) | (with_reducible refine eqi_ ?_) | (with_reducible refine nei_ ?_) | (with_reducible refine seq_ ?_) | (with_reducible refine sne_ ?_) | (with_reducible refine not_ ?_) | (with_reducible refine nott_ ?_) | (with_reducible refine notf_ ?_) | (with_reducible refine notb_ ?_)) <;> exact ret_bool (by rw [Bool.eq_iff_iff]; simp [isLetterZ] <;> omega)
theorem one_pure (b : Bool) : PureC Try.prog 49 #[.bool b] (i64 (if b then 1 else 0)) := by
  intro I
  refine go49 ?_
  unfold M49
  cases b <;> rfl
def withinZ (n lo hi : Int) : Bool := decide (lo ≤ n ∧ n ≤ hi)
theorem within_pure (n lo hi : Int) : PureC Try.prog 39 #[i64 n, i64 lo, i64 hi] (.bool (withinZ n lo hi)) := by
  intro I
  refine go39 ?_
  unfold M39
  by_cases h1 : lo ≤ n <;> (repeat first | (with_reducible refine gdtt_ ?_) | (with_reducible refine gdtf_ ?_) | (with_reducible refine gdff_ ?_) | (with_reducible refine gdft_ ?_) | (with_reducible refine pckt_ ?_) | (with_reducible refine pckf_ ?_) | (with_reducible refine cndt_ ?_) | (with_reducible refine cndf_ ?_) | (with_reducible refine cnd_yes (by assumption) ?_) | (with_reducible refine cnd_no (by assumption) ?_) | (with_reducible refine gd_yes (by assumption) ?_) | (with_reducible refine gd_no (by assumption) ?_) | (with_reducible refine gdn_yes (by assumption) ?_) | (with_reducible refine gdn_no (by assumption) ?_) | (with_reducible refine gdu_ ?_) | (with_reducible refine pck_yes (by assumption) ?_) | (with_reducible refine pck_no (by assumption) ?_) | (with_reducible refine leq_ ?_) | (with_reducible refine lss_ ?_) | (with_reducible refine geq_ ?_) | (with_reducible refine gtr_ ?_) | (with_reducible refine eqi_ ?_) | (with_reducible refine nei_ ?_) | (with_reducible refine seq_ ?_) | (with_reducible refine sne_ ?_) | (with_reducible refine not_ ?_) | (with_reducible refine nott_ ?_) | (with_reducible refine notf_ ?_) | (with_reducible refine notb_ ?_)) <;> exact ret_bool (by simp [withinZ, *])
end Go.Proofs.Ytkclodaplbalfaa
