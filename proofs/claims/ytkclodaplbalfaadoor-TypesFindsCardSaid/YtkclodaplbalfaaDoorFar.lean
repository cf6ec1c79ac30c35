/- How long a text may be. Conditions: none. -/
import Derived.Test.YtkclodaplbalfaaDoorTck
set_option linter.unusedVariables false
set_option linter.unusedSimpArgs false
set_option maxRecDepth 100000
namespace Go.Proofs.YtkclodaplbalfaaDoor
open Go Sl
def farB (n : Nat) : Bool := (decide (900 < n) && decide (n ≤ 3000)) || decide (3009 < n)
theorem far_pure (s : List UInt8) : PureC Tryd.prog 4 #[S s] (.bool (farB s.length)) := by
  intro I
  refine go4 ?_
  unfold M4
  by_cases h1 : (900 : Int) < s.length <;> by_cases h2 : (s.length : Int) ≤ 3000 <;> (repeat with_reducible first | refine StG.h ?_ | refine StY.h ‹_› ?_ | refine StN.h ‹_› ?_ | refine StW.h ?_ | refine ld_ ?_ | refine lda_ ?_) <;> exact ret_bool (by rw [Bool.eq_iff_iff]; simp [farB]; omega)
theorem farB_no {n : Nat} (h : farB n = false) : n ≤ 3009 := by
  unfold farB at h
  simp at h
  omega
end Go.Proofs.YtkclodaplbalfaaDoor
