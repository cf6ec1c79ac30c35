/- Over which items a check's sum is taken: the program's. Conditions: none. -/
import Derived.Test.YtkclodaplbalfaaDoorOrd
set_option linter.unusedVariables false
set_option linter.unusedSimpArgs false
set_option maxRecDepth 100000
set_option maxHeartbeats 2000000
namespace Go.Proofs.YtkclodaplbalfaaDoor
open Go Sl
def rule3 (l : List It) (k : Nat) : Bool := match l[k]? with | some x => decide (x.rule = 3) | none => false
theorem rule3_at {l : List It} {k : Nat} (hk : k < l.length) : rule3 l k = decide (l[k].rule = 3) := by
  unfold rule3
  rw [List.getElem?_eq_getElem hk]
def overB (l : List It) (i k : Nat) : Bool := match l[i]? with | some x => decide (x.rule = 3) && decide (whichZ l x.first ≤ k) && decide ((k : Int) ≤ whichZ l x.last) | none => false
theorem overB_at {l : List It} {i : Nat} (hi : i < l.length) (k : Nat) : overB l i k = (decide (l[i].rule = 3) && decide (whichZ l l[i].first ≤ k) && decide ((k : Int) ≤ whichZ l l[i].last)) := by
  unfold overB
  rw [List.getElem?_eq_getElem hi]
theorem over_ret {I : Imm} {A : Option Addr} {c : Nat} {l : List It} (h : BlkR I A c l) (hl : l.length ≤ 1000000) (i k : Nat) (hi : i < l.length) :
    RetC Tryd.prog 65 #[.slice A l.length c, i64 i, i64 k] I [] (fun v K L' => v = .bool (overB l i k) ∧ L' = []) := by
  refine .of (go65 ?_)
  unfold M65
  obtain ⟨b, o, cp, A2, c2, rfl, hr, hcp, hb2⟩ := h.at hi
  rw [overB_at hi]
  refine iad_ ?_ (by omega) (by omega)
  simp only [Int.toNat_natCast]
  by_cases h3 : l[i].rule = 3
  · (repeat with_reducible first | refine StA.h ‹_› ?_ | refine StB.h ‹_› ?_ | refine StG.h ?_ | refine StY.h ‹_› ?_ | refine StN.h ‹_› ?_ | refine StW.h ?_ | refine ld_ ?_ | refine lda_ ?_ | refine ldi_ ‹_› (by with_unfolding_all rfl) (by with_unfolding_all rfl) ?_ | refine ldi0_ ‹_› (by with_unfolding_all rfl) ?_ | refine ld_ ?_ (by with_unfolding_all rfl))
    refine iad_ ?_ (by omega) (by omega)
    simp only [Int.toNat_natCast]
    (repeat with_reducible first | refine StA.h ‹_› ?_ | refine StB.h ‹_› ?_ | refine StG.h ?_ | refine StY.h ‹_› ?_ | refine StN.h ‹_› ?_ | refine StW.h ?_ | refine ld_ ?_ | refine lda_ ?_ | refine ldi_ ‹_› (by with_unfolding_all rfl) (by with_unfolding_all rfl) ?_ | refine ldi0_ ‹_› (by with_unfolding_all rfl) ?_ | refine ld_ ?_ (by with_unfolding_all rfl))
    refine cal_keep (L1 := []) (find_ret h hl _) fun v J hJ hv => ?_
    subst hv
    have hr2 := hr.up hJ
    by_cases h1 : whichZ l l[i].first ≤ k
    · (repeat with_reducible first | refine StA.h ‹_› ?_ | refine StB.h ‹_› ?_ | refine StG.h ?_ | refine StY.h ‹_› ?_ | refine StN.h ‹_› ?_ | refine StW.h ?_ | refine ld_ ?_ | refine lda_ ?_ | refine ldi_ ‹_› (by with_unfolding_all rfl) (by with_unfolding_all rfl) ?_ | refine ldi0_ ‹_› (by with_unfolding_all rfl) ?_ | refine ld_ ?_ (by with_unfolding_all rfl))
      refine iad_ ?_ (by omega) (by omega)
      simp only [Int.toNat_natCast]
      (repeat with_reducible first | refine StA.h ‹_› ?_ | refine StB.h ‹_› ?_ | refine StG.h ?_ | refine StY.h ‹_› ?_ | refine StN.h ‹_› ?_ | refine StW.h ?_ | refine ld_ ?_ | refine lda_ ?_ | refine ldi_ ‹_› (by with_unfolding_all rfl) (by with_unfolding_all rfl) ?_ | refine ldi0_ ‹_› (by with_unfolding_all rfl) ?_ | refine ld_ ?_ (by with_unfolding_all rfl))
      refine cal_keep (L1 := []) (find_ret (h.up hJ) hl _) fun v J2 hJ2 hv => ?_
      subst hv
      (repeat with_reducible first | refine StA.h ‹_› ?_ | refine StB.h ‹_› ?_ | refine StG.h ?_ | refine StY.h ‹_› ?_ | refine StN.h ‹_› ?_ | refine StW.h ?_ | refine ld_ ?_ | refine lda_ ?_ | refine ldi_ ‹_› (by with_unfolding_all rfl) (by with_unfolding_all rfl) ?_ | refine ldi0_ ‹_› (by with_unfolding_all rfl) ?_ | refine ld_ ?_ (by with_unfolding_all rfl))
      exact fin_ret (L1 := []) fun _ _ => ⟨by simp [h3, h1], rfl⟩
    · (repeat with_reducible first | refine StA.h ‹_› ?_ | refine StB.h ‹_› ?_ | refine StG.h ?_ | refine StY.h ‹_› ?_ | refine StN.h ‹_› ?_ | refine StW.h ?_ | refine ld_ ?_ | refine lda_ ?_ | refine ldi_ ‹_› (by with_unfolding_all rfl) (by with_unfolding_all rfl) ?_ | refine ldi0_ ‹_› (by with_unfolding_all rfl) ?_ | refine ld_ ?_ (by with_unfolding_all rfl))
      exact fin_ret (L1 := []) fun _ _ => ⟨by simp [h3, h1], rfl⟩
  · (repeat with_reducible first | refine StA.h ‹_› ?_ | refine StB.h ‹_› ?_ | refine StG.h ?_ | refine StY.h ‹_› ?_ | refine StN.h ‹_› ?_ | refine StW.h ?_ | refine ld_ ?_ | refine lda_ ?_ | refine ldi_ ‹_› (by with_unfolding_all rfl) (by with_unfolding_all rfl) ?_ | refine ldi0_ ‹_› (by with_unfolding_all rfl) ?_ | refine ld_ ?_ (by with_unfolding_all rfl))
    exact fin_ret (L1 := []) fun _ _ => ⟨by simp [h3], rfl⟩
end Go.Proofs.YtkclodaplbalfaaDoor
