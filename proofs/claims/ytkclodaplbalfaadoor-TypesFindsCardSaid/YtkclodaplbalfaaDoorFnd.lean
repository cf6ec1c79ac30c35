/- TypesFinds, walked. Conditions: the variable errors.errorType is laid. -/
import Derived.Test.YtkclodaplbalfaaDoorFar
import Derived.Test.YtkclodaplbalfaaDoorAs
import Derived.Test.YtkclodaplbalfaaDoorCck
set_option linter.unusedVariables false
set_option linter.unusedSimpArgs false
set_option maxRecDepth 100000
set_option maxHeartbeats 2000000
namespace Go.Proofs.YtkclodaplbalfaaDoor
open Go Sl
theorem finds_ret {I : Imm} (hM : MaxL I) (hE : ErrL I) (s : List UInt8) : RetC Tryd.prog 3 #[S s] I [] (fun v J L => v = .bool true ∧ L = []) := by
  refine .of (go3 ?_)
  unfold M3
  refine cal_pure (far_pure s) (cndb_ (fun hf => ?_) (fun hf => ?_))
  · exact fin_ret (L1 := []) fun _ _ => ⟨rfl, rfl⟩
  have hs := farB_no hf
  refine cal_ret (L1 := []) (tmplParse_ret hM s (by omega)) ?_
  rintro v1 J1 L1 hJ1 ⟨l, A, c, e, a, vs, rfl, hr, hA, hc, hw, hi, hn, hg, rfl⟩
  refine ext_ (ext_ ?_)
  refine alsf_ (vs := [i64 e, i64 a]) fun b5 J2 hJ2 hr5 => ?_
  refine ldai_ (j := 0) hr5 rfl (us := [i64 e, i64 a]) rfl rfl ?_
  refine cal_pure (Is_pure _ _) ?_
  by_cases he : e = 0
  · have he2 : ¬ ¬ (e = 0) := fun h => h he
    (repeat with_reducible first | refine StA.h ‹_› ?_ | refine StB.h ‹_› ?_ | refine StG.h ?_ | refine StY.h ‹_› ?_ | refine StN.h ‹_› ?_ | refine StW.h ?_ | refine ld_ ?_ | refine lda_ ?_ | refine ldi_ ‹_› (by with_unfolding_all rfl) (by with_unfolding_all rfl) ?_ | refine ldi0_ ‹_› (by with_unfolding_all rfl) ?_ | refine ld_ ?_ (by with_unfolding_all rfl))
    have hT : TmsR J2 A c l := ⟨vs, hr.up hJ2, hA.up hJ2, hc⟩
    refine cal_ret (L1 := []) (check_ret hT hw hi hn) fun v3 J3 L3 hJ3 ⟨e3, hv3⟩ => ?_
    subst e3
    (repeat with_reducible first | refine StA.h ‹_› ?_ | refine StB.h ‹_› ?_ | refine StG.h ?_ | refine StY.h ‹_› ?_ | refine StN.h ‹_› ?_ | refine StW.h ?_ | refine ld_ ?_ | refine lda_ ?_ | refine ldi_ ‹_› (by with_unfolding_all rfl) (by with_unfolding_all rfl) ?_ | refine ldi0_ ‹_› (by with_unfolding_all rfl) ?_ | refine ld_ ?_ (by with_unfolding_all rfl))
    refine cal_keep (L1 := []) (typesCheck_ret (hT.up hJ3) hw hi hn) fun v4 J4 hJ4 hv4 => ?_
    subst hv4
    (repeat with_reducible first | refine StA.h ‹_› ?_ | refine StB.h ‹_› ?_ | refine StG.h ?_ | refine StY.h ‹_› ?_ | refine StN.h ‹_› ?_ | refine StW.h ?_ | refine ld_ ?_ | refine lda_ ?_ | refine ldi_ ‹_› (by with_unfolding_all rfl) (by with_unfolding_all rfl) ?_ | refine ldi0_ ‹_› (by with_unfolding_all rfl) ?_ | refine ld_ ?_ (by with_unfolding_all rfl))
    have hE4 : ErrL J4 := hE.up (hJ1.trans (hJ2.trans (hJ3.trans hJ4)))
    have hp : RetC Tryd.prog 7 #[v3, fltV (typesW l [])] J4 [] (fun v J L => v = .bool true ∧ L = []) := by
      rcases hv3 with ⟨h1, rfl⟩ | ⟨b, rfl, hb⟩
      · rw [h1]
        exact placed_nil
      · exact placed_at hE4 (hb.up hJ4)
    refine cal_keep (L1 := []) hp fun v5 J5 hJ5 hv5 => ?_
    subst hv5
    (repeat with_reducible first | refine StA.h ‹_› ?_ | refine StB.h ‹_› ?_ | refine StG.h ?_ | refine StY.h ‹_› ?_ | refine StN.h ‹_› ?_ | refine StW.h ?_ | refine ld_ ?_ | refine lda_ ?_ | refine ldi_ ‹_› (by with_unfolding_all rfl) (by with_unfolding_all rfl) ?_ | refine ldi0_ ‹_› (by with_unfolding_all rfl) ?_ | refine ld_ ?_ (by with_unfolding_all rfl))
    exact fin_ret (L1 := []) fun K hK => ⟨rfl, rfl⟩
  · (repeat with_reducible first | refine StA.h ‹_› ?_ | refine StB.h ‹_› ?_ | refine StG.h ?_ | refine StY.h ‹_› ?_ | refine StN.h ‹_› ?_ | refine StW.h ?_ | refine ld_ ?_ | refine lda_ ?_ | refine ldi_ ‹_› (by with_unfolding_all rfl) (by with_unfolding_all rfl) ?_ | refine ldi0_ ‹_› (by with_unfolding_all rfl) ?_ | refine ld_ ?_ (by with_unfolding_all rfl))
    exact fin_ret (L1 := []) fun K hK => ⟨rfl, rfl⟩
end Go.Proofs.YtkclodaplbalfaaDoor
