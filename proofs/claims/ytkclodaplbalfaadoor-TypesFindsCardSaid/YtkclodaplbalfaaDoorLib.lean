/- The library's functions, and what is built right on them. Conditions: none. -/
import Derived.Test.YtkclodaplbalfaaDoorSmall
import Derived.Test.YtkclodaplbalfaaDoorOps3
import Derived.Test.YtkclodaplbalfaaDoorShelf
set_option linter.unusedVariables false
set_option linter.unusedSimpArgs false
set_option maxRecDepth 100000
namespace Go.Proofs.YtkclodaplbalfaaDoor
open Go Sl

/-- The library's own variable is there. -/
def MaxL (I : Imm) : Prop := ∃ m : Int, RdAt I 1 0 [i64 m]
theorem MaxL.up {I J : Imm} (h : MaxL I) (hle : I.Le J) : MaxL J := ⟨h.choose, h.choose_spec.up hle⟩
theorem contains_ro {I : Imm} (hM : MaxL I) (a b : List UInt8) (ha : a.length < 4294967281) : RoC Tryd.prog 28 #[S a, S b] I [] (.bool (Lib.contains a b)) := fun F W hs => by
  obtain ⟨m, hm⟩ := hM
  have hc : W.cell? ⟨1, 0, none⟩ = some (i64 m) := (hm.cel (L := []) (p := 0) (j := 0) rfl rfl).h F W hs
  refine (Tryd.strings_Contains ⟨a.toArray⟩ ⟨b.toArray⟩ m W (by rw [size_S]; exact ha) hc).mono fun e W' ⟨he, hw⟩ => ?_
  subst hw
  exact ⟨I, [], .refl I, hs, he, rfl⟩
theorem prefix_pure (a b : List UInt8) : PureC Tryd.prog 53 #[S a, S b] (.bool (decide (a.take b.length = b))) := by
  intro I
  refine go53 ?_
  unfold M53
  refine slen_ (slen_ (geq_ ?_))
  by_cases h : (b.length : Int) ≤ a.length
  · (repeat with_reducible first | refine StG.h ?_ | refine StY.h ‹_› ?_ | refine StN.h ‹_› ?_ | refine StW.h ?_ | refine ld_ ?_ | refine lda_ ?_)
    refine sslch_ ?_
    (repeat with_reducible first | refine StG.h ?_ | refine StY.h ‹_› ?_ | refine StN.h ‹_› ?_ | refine StW.h ?_ | refine ld_ ?_ | refine lda_ ?_)
    exact ret_bool (by simp)
  · (repeat with_reducible first | refine StG.h ?_ | refine StY.h ‹_› ?_ | refine StN.h ‹_› ?_ | refine StW.h ?_ | refine ld_ ?_ | refine lda_ ?_)
    exact ret_bool (by
      symm
      simp only [decide_eq_false_iff_not]
      intro e
      have := congrArg List.length e
      simp at this
      omega)
theorem hasPrefix_pure (a b : List UInt8) : PureC Tryd.prog 41 #[S a, S b] (.bool (decide (a.take b.length = b))) := by
  intro I
  refine go41 ?_
  unfold M41
  exact cal_pure (prefix_pure a b) rfl
theorem suffix_pure (a b : List UInt8) (ha : a.length ≤ 9223372036854775807) : PureC Tryd.prog 57 #[S a, S b] (.bool (decide (b.length ≤ a.length ∧ a.drop (a.length - b.length) = b))) := by
  intro I
  refine go57 ?_
  unfold M57
  refine slen_ (slen_ (geq_ ?_))
  by_cases h : (b.length : Int) ≤ a.length
  · (repeat with_reducible first | refine StG.h ?_ | refine StY.h ‹_› ?_ | refine StN.h ‹_› ?_ | refine StW.h ?_ | refine ld_ ?_ | refine lda_ ?_)
    refine sub64 ?_
    (repeat with_reducible first | refine StG.h ?_ | refine StY.h ‹_› ?_ | refine StN.h ‹_› ?_ | refine StW.h ?_ | refine ld_ ?_ | refine lda_ ?_)
    refine sslcl_ ?_
    (repeat with_reducible first | refine StG.h ?_ | refine StY.h ‹_› ?_ | refine StN.h ‹_› ?_ | refine StW.h ?_ | refine ld_ ?_ | refine lda_ ?_)
    have e : ((a.length : Int) - b.length).toNat = a.length - b.length := by omega
    rw [e]
    exact ret_bool (by
      have h' : b.length ≤ a.length := by omega
      simp [h'])
  · (repeat with_reducible first | refine StG.h ?_ | refine StY.h ‹_› ?_ | refine StN.h ‹_› ?_ | refine StW.h ?_ | refine ld_ ?_ | refine lda_ ?_)
    exact ret_bool (by
      symm
      simp only [decide_eq_false_iff_not]
      intro e
      omega)
theorem hasSuffix_pure (a b : List UInt8) (ha : a.length ≤ 9223372036854775807) : PureC Tryd.prog 46 #[S a, S b] (.bool (decide (b.length ≤ a.length ∧ a.drop (a.length - b.length) = b))) := by
  intro I
  refine go46 ?_
  unfold M46
  exact cal_pure (suffix_pure a b ha) rfl

def IsNameB (s : List UInt8) : Bool := match s with | [] => false | c :: _ => isLetterZ c.toNat
theorem isName_pure (s : List UInt8) : PureC Tryd.prog 26 #[S s] (.bool (IsNameB s)) := by
  intro I
  refine go26 ?_
  unfold M26
  refine sne_ ?_
  cases s with
  | nil =>
    have h : ¬ (([] : List UInt8) ≠ []) := by simp
    (repeat with_reducible first | refine StG.h ?_ | refine StY.h ‹_› ?_ | refine StN.h ‹_› ?_ | refine StW.h ?_ | refine ld_ ?_ | refine lda_ ?_)
    rfl
  | cons c s =>
    have h : (c :: s) ≠ [] := by simp
    (repeat with_reducible first | refine StG.h ?_ | refine StY.h ‹_› ?_ | refine StN.h ‹_› ?_ | refine StW.h ?_ | refine ld_ ?_ | refine lda_ ?_)
    refine sidx_ ?_ (by omega) (by simp only [List.length_cons]; omega)
    (repeat with_reducible first | refine StG.h ?_ | refine StY.h ‹_› ?_ | refine StN.h ‹_› ?_ | refine StW.h ?_ | refine ld_ ?_ | refine lda_ ?_)
    refine cal_pure (isLetter_pure _) ?_
    (repeat with_reducible first | refine StG.h ?_ | refine StY.h ‹_› ?_ | refine StN.h ‹_› ?_ | refine StW.h ?_ | refine ld_ ?_ | refine lda_ ?_)
    rfl
def numsL : List UInt8 := [32, 117, 56, 32, 105, 56, 32, 117, 49, 54, 108, 101, 32, 117, 49, 54, 98, 101, 32, 105, 49, 54, 108, 101, 32, 105, 49, 54, 98, 101, 32, 117, 51, 50, 108, 101, 32, 117, 51, 50, 98, 101, 32, 105, 51, 50, 108, 101, 32, 105, 51, 50, 98, 101, 32, 105, 54, 52, 108, 101, 32, 105, 54, 52, 98, 101, 32]
def IsNumB (s : List UInt8) : Bool := !decide (s = []) && Lib.contains numsL ([32] ++ s ++ [32])
theorem isNum_ro {I : Imm} (hM : MaxL I) (s : List UInt8) (hs : s.length ≤ 1000000) : RoC Tryd.prog 27 #[S s] I [] (.bool (IsNumB s)) := by
  refine .of (go27 ?_)
  unfold M27
  refine sne_ ?_
  by_cases h : s ≠ []
  · (repeat with_reducible first | refine StG.h ?_ | refine StY.h ‹_› ?_ | refine StN.h ‹_› ?_ | refine StW.h ?_ | refine ld_ ?_ | refine lda_ ?_)
    refine sadd_ ?_ (by simp; omega)
    (repeat with_reducible first | refine StG.h ?_ | refine StY.h ‹_› ?_ | refine StN.h ‹_› ?_ | refine StW.h ?_ | refine ld_ ?_ | refine lda_ ?_)
    refine sadd_ ?_ (by simp; omega)
    (repeat with_reducible first | refine StG.h ?_ | refine StY.h ‹_› ?_ | refine StN.h ‹_› ?_ | refine StW.h ?_ | refine ld_ ?_ | refine lda_ ?_)
    refine cal_ro (L1 := []) (contains_ro hM numsL _ (by decide)) ?_
    (repeat with_reducible first | refine StG.h ?_ | refine StY.h ‹_› ?_ | refine StN.h ‹_› ?_ | refine StW.h ?_ | refine ld_ ?_ | refine lda_ ?_)
    have e : IsNumB s = Lib.contains numsL ([32] ++ s ++ [32]) := by simp [IsNumB, h]
    rw [e]
    exact fin_ro
  · (repeat with_reducible first | refine StG.h ?_ | refine StY.h ‹_› ?_ | refine StN.h ‹_› ?_ | refine StW.h ?_ | refine ld_ ?_ | refine lda_ ?_)
    have e : IsNumB s = false := by simp [IsNumB, h]
    rw [e]
    exact fin_ro
def holdZ (s : List UInt8) : Int :=
  if s = [61, 61] ∨ s = [33, 61] ∨ s = [60] ∨ s = [62] then 1 else if s = [43] ∨ s = [45] ∨ s = [124] then 2 else if s = [42] ∨ s = [38] then 3 else 0
theorem holdZ_le (s : List UInt8) : 0 ≤ holdZ s ∧ holdZ s ≤ 3 := by
  unfold holdZ
  split <;> (try split) <;> (try split) <;> omega
theorem hold_pure (s : List UInt8) : PureC Tryd.prog 56 #[S s] (i64 (holdZ s)) := by
  intro I
  refine go56 ?_
  unfold M56
  by_cases h1 : s = [61, 61] <;> by_cases h2 : s = [33, 61] <;> by_cases h3 : s = [60] <;> by_cases h4 : s = [62] <;> by_cases h5 : s = [43] <;> by_cases h6 : s = [45] <;> by_cases h7 : s = [124] <;> by_cases h8 : s = [42] <;> by_cases h9 : s = [38] <;>
    (try (exfalso; subst_vars; simp_all; done)) <;>
    (repeat (first | with_reducible first | refine StG.h ?_ | refine StY.h ‹_› ?_ | refine StN.h ‹_› ?_ | refine StW.h ?_ | refine ld_ ?_ | refine lda_ ?_ | (refine join56_0 ?_; unfold T56_0) | (refine join56_1 ?_; unfold T56_1) | (refine join56_2 ?_; unfold T56_2))) <;>
    exact ret_i64 (by simp [holdZ, *])
end Go.Proofs.YtkclodaplbalfaaDoor
