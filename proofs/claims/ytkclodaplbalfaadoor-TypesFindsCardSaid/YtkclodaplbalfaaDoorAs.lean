/- What an error tells: its Errno, its place. Conditions: the variable errors.errorType is laid. -/
import Derived.Test.YtkclodaplbalfaaDoorErr
import Derived.Test.YtkclodaplbalfaaDoorChk
set_option linter.unusedVariables false
set_option linter.unusedSimpArgs false
set_option maxRecDepth 100000
set_option maxHeartbeats 2000000
namespace Go.Proofs.YtkclodaplbalfaaDoor
open Go Sl Go.Extern
theorem ErrL.up {I J : Imm} (h : ErrL I) (hle : I.Le J) : ErrL J := RdAt.up h hle
theorem unwrap_ret {I : Imm} {b : Nat} {n a : Int} (hb : RdAt I b 0 [i64 n, i64 a]) : RetC Tryd.prog 100 #[ptr b 0] I [] (fun v J L => v = .iface 24 (i64 n) ∧ L = []) := by
  refine .of (go100 ?_)
  unfold M100
  (repeat with_reducible first | refine StG.h ?_ | refine StY.h ‹_› ?_ | refine StN.h ‹_› ?_ | refine StW.h ?_ | refine ld_ ?_ | refine lda_ ?_)
  refine ldi_ (j := 0) hb (by simp) rfl ?_
  refine mki_ (w := .iface 24 (i64 n)) (fun W => by kernel_rfl) ?_
  exact fin_ret (L1 := []) fun J hJ => ⟨rfl, rfl⟩
theorem as2_ret {I : Imm} {b t g : Nat} {n a o : Int} (hb : RdAt I b 0 [i64 n, i64 a]) :
    RetC Tryd.prog 61 #[atV b, .iface 97 (ptr t 0), rvl 97 g 150, rtp 24] I [(g, .cells #[ptr t 0] 97), (t, .cells #[i64 o] 24)] (fun v J L => v = .bool true ∧ L = [(g, .cells #[ptr t 0] 97), (t, .cells #[i64 n] 24)]) := by
  refine .of (go61 ?_)
  unfold M61
  refine bx_ fun b6 => ?_
  refine loop61_0 (n := 1) (fun m x0 J L => I.Le J ∧ ((m = 1 ∧ x0 = atV b) ∨ (m = 0 ∧ x0 = .iface 24 (i64 n))) ∧ L = [(b6, .cells #[hnd 97, ptr g 0, .int .u64 150] 108), (g, .cells #[ptr t 0] 97), (t, .cells #[i64 o] 24)]) ⟨.refl _, .inl ⟨rfl, rfl⟩, rfl⟩ ?_
  rintro m x0 I2 L2 hle ⟨hI2, hx, rfl⟩ N hN u
  unfold B61_0
  rcases hx with ⟨rfl, rfl⟩ | ⟨rfl, rfl⟩
  · refine typeOf_a _ ?_
    refine assg_ assg_runF ?_
    (repeat with_reducible first | refine StG.h ?_ | refine StY.h ‹_› ?_ | refine StN.h ‹_› ?_)
    refine noAs _ ?_
    refine ext_ (v := .nilIface) ?_
    refine ext_ (v := .bool false) ?_
    (repeat with_reducible first | refine StG.h ?_ | refine StY.h ‹_› ?_ | refine StN.h ‹_› ?_)
    refine hasUn _ ?_
    refine ext_ (v := .bool true) ?_
    refine ext_ (v := atV b) ?_
    (repeat with_reducible first | refine StG.h ?_ | refine StY.h ‹_› ?_ | refine StN.h ‹_› ?_)
    refine inv_of (m_unwr _) (by rfl) ?_
    refine cal_ret (L1 := []) (unwrap_ret (hb.up hI2)) fun v3 J3 L3 hJ3 ⟨hv3, e3⟩ => ?_
    subst hv3 e3
    refine if_nil ?_
    (repeat with_reducible first | refine StG.h ?_ | refine StY.h ‹_› ?_ | refine StN.h ‹_› ?_)
    exact hN 0 (by omega) ⟨hI2.trans hJ3, .inr ⟨rfl, rfl⟩, rfl⟩
  · refine typeOf_e _ ?_
    refine assg_ assg_runT ?_
    (repeat with_reducible first | refine StG.h ?_ | refine StY.h ‹_› ?_ | refine StN.h ‹_› ?_ | refine StW.h ?_ | refine ld_ ?_ | refine lda_ ?_)
    refine lda_ ?_
    refine elemV_p (by exact cel_own (by rfl)) ?_
    refine valueOf_e n fun g2 => ?_
    refine set_e (by exact cel_own (by rfl)) (by exact Nat.le_refl 1) ?_
    refine out61_0r ?_
    exact fin_ret (L1 := [(g, .cells #[ptr t 0] 97), (t, .cells (splice #[i64 o].toList 0 [i64 n]).toArray 24)]) fun J hJ => ⟨rfl, rfl⟩
theorem as_ret {I : Imm} (hE : ErrL I) {b t : Nat} {n a o : Int} (hb : RdAt I b 0 [i64 n, i64 a]) :
    RetC Tryd.prog 47 #[atV b, .iface 97 (ptr t 0)] I [(t, .cells #[i64 o] 24)] (fun v J L => v = .bool true ∧ L = [(t, .cells #[i64 n] 24)]) := by
  refine .of (go47 ?_)
  unfold M47
  refine if_nil ?_
  (repeat with_reducible first | refine StG.h ?_ | refine StY.h ‹_› ?_ | refine StN.h ‹_› ?_)
  refine if_nil ?_
  (repeat with_reducible first | refine StG.h ?_ | refine StY.h ‹_› ?_ | refine StN.h ‹_› ?_)
  refine join47_0 ?_
  unfold T47_0
  have h22 : ¬ (((22 : Nat) : Int) ≠ 22) := by decide
  have h20 : ((2 : Nat) : Int) ≠ 20 := by decide
  refine valueOf_p t fun g => ?_
  refine al_ fun b5 => ?_
  refine stoa_ ?_
  refine lda_ ?_
  refine type_p g ?_
  refine kind_ kind_p ?_
  (repeat with_reducible first | refine StG.h ?_ | refine StY.h ‹_› ?_ | refine StN.h ‹_› ?_ | refine StW.h ?_ | refine ld_ ?_ | refine lda_ ?_)
  refine lda_ ?_
  (repeat with_reducible first | refine StG.h ?_ | refine StY.h ‹_› ?_ | refine StN.h ‹_› ?_ | refine StW.h ?_ | refine ld_ ?_ | refine lda_ ?_)
  refine isNil_p (by exact cel_own (by rfl)) ?_
  (repeat with_reducible first | refine StG.h ?_ | refine StY.h ‹_› ?_ | refine StN.h ‹_› ?_ | refine StW.h ?_ | refine ld_ ?_ | refine lda_ ?_)
  refine join47_1 ?_
  unfold T47_1
  refine elemT_ ?_
  refine kind_ kind_e ?_
  (repeat with_reducible first | refine StG.h ?_ | refine StY.h ‹_› ?_ | refine StN.h ‹_› ?_ | refine StW.h ?_ | refine ld_ ?_ | refine lda_ ?_)
  refine ldi_ (j := 0) hE (by simp) rfl ?_
  refine impl_ ?_
  (repeat with_reducible first | refine StG.h ?_ | refine StY.h ‹_› ?_ | refine StN.h ‹_› ?_ | refine StW.h ?_ | refine ld_ ?_ | refine lda_ ?_)
  try refine lda_ ?_
  refine cal_ret (L1 := [(g, .cells #[ptr t 0] 97), (t, .cells #[i64 o] 24)]) (as2_ret hb) fun v3 J3 L3 hJ3 ⟨hv3, e3⟩ => ?_
  subst hv3 e3
  exact fin_ret (L1 := [(t, .cells #[i64 n] 24)]) fun J hJ => ⟨rfl, rfl⟩
theorem tell_nil {I : Imm} : RetC Tryd.prog 31 #[.nilIface] I [] (fun v J L => v = i64 0 ∧ L = []) := by
  refine .of (go31 ?_)
  unfold M31
  refine nil_nil ?_
  (repeat with_reducible first | refine StG.h ?_ | refine StY.h ‹_› ?_ | refine StN.h ‹_› ?_)
  exact fin_ret (L1 := []) fun J hJ => ⟨rfl, rfl⟩
theorem tell_at {I : Imm} (hE : ErrL I) {b : Nat} {n a : Int} (hb : RdAt I b 0 [i64 n, i64 a]) : RetC Tryd.prog 31 #[atV b] I [] (fun v J L => v = i64 n ∧ L = []) := by
  refine .of (go31 ?_)
  unfold M31
  refine if_nil ?_
  (repeat with_reducible first | refine StG.h ?_ | refine StY.h ‹_› ?_ | refine StN.h ‹_› ?_)
  refine al_ fun t => ?_
  refine mki_ (w := .iface 97 (ptr t 0)) (fun W => by kernel_rfl) ?_
  refine cal_ret (L1 := [(t, .cells (i64 0).cells 24)]) (as_ret (o := 0) hE hb) fun v3 J3 L3 hJ3 ⟨hv3, e3⟩ => ?_
  subst hv3 e3
  (repeat with_reducible first | refine StA.h ‹_› ?_ | refine StB.h ‹_› ?_ | refine StG.h ?_ | refine StY.h ‹_› ?_ | refine StN.h ‹_› ?_ | refine StW.h ?_ | refine ld_ ?_ | refine lda_ ?_ | refine ldi_ ‹_› (by with_unfolding_all rfl) (by with_unfolding_all rfl) ?_ | refine ldi0_ ‹_› (by with_unfolding_all rfl) ?_ | refine ld_ ?_ (by with_unfolding_all rfl))
  exact fin_ret (L1 := []) fun J hJ => ⟨rfl, rfl⟩
theorem place_nil {I : Imm} : RetC Tryd.prog 19 #[.nilIface] I [] (fun v J L => v = .tuple #[i64 0, i64 (-1)] ∧ L = []) := by
  refine .of (go19 ?_)
  unfold M19
  refine cal_ret (L1 := []) tell_nil fun v3 J3 L3 hJ3 ⟨hv3, e3⟩ => ?_
  subst hv3 e3
  refine loop19_0 (n := 0) (fun m x0 J L => x0 = .nilIface ∧ L = []) ⟨rfl, rfl⟩ ?_
  rintro m x0 I2 L2 hle ⟨rfl, rfl⟩ N hN u
  unfold B19_0
  refine nil_nnil ?_
  (repeat with_reducible first | refine StG.h ?_ | refine StY.h ‹_› ?_ | refine StN.h ‹_› ?_)
  refine out19_0x0 (join19_2 ?_)
  unfold T19_2
  exact fin_ret (L1 := []) fun J hJ => ⟨rfl, rfl⟩
theorem place_at {I : Imm} (hE : ErrL I) {b : Nat} {n a : Int} (hb : RdAt I b 0 [i64 n, i64 a]) : RetC Tryd.prog 19 #[atV b] I [] (fun v J L => v = .tuple #[i64 n, i64 a] ∧ L = []) := by
  refine .of (go19 ?_)
  unfold M19
  refine cal_ret (L1 := []) (tell_at hE hb) fun v3 J3 L3 hJ3 ⟨hv3, e3⟩ => ?_
  subst hv3 e3
  refine loop19_0 (n := 0) (fun m x0 J L => x0 = atV b ∧ I.Le J ∧ L = []) ⟨rfl, hJ3, rfl⟩ ?_
  rintro m x0 I2 L2 hle ⟨rfl, hI2, rfl⟩ N hN u
  have hb2 := hb.up hI2
  unfold B19_0
  refine if_nnil ?_
  (repeat with_reducible first | refine StG.h ?_ | refine StY.h ‹_› ?_ | refine StN.h ‹_› ?_)
  refine isAt _ ?_
  refine ext_ (v := ptr b 0) ?_
  refine ext_ (v := .bool true) ?_
  (repeat with_reducible first | refine StG.h ?_ | refine StY.h ‹_› ?_ | refine StN.h ‹_› ?_)
  refine pninf_ ?_
  (repeat with_reducible first | refine StG.h ?_ | refine StY.h ‹_› ?_ | refine StN.h ‹_› ?_)
  refine draw19_1 (C := fun K _ => RdAt K b 0 [i64 n, i64 a]) hb2 ?_
  unfold G19_1
  refine qS_of (v := ptr b 0) (fun I L _ => .of_run fun W => rfl) ?_
  refine qS_of (fun I L _ => rd_fad) ?_
  refine qS_of (fun I L h => rd_ld (h.cel (j := 1) rfl rfl)) ?_
  refine join19_3 ?_
  unfold T19_3
  refine out19_0r ?_
  exact fin_ret (L1 := []) fun J hJ => ⟨rfl, rfl⟩
def fltW (f : Flt) : Value := .agg #[i64 f.1, i64 f.2]
theorem placed_gen {I : Imm} {e : Value} {f : Flt} (h : ∀ J, I.Le J → RetC Tryd.prog 19 #[e] J [] (fun v J L => v = .tuple #[i64 f.1, i64 f.2] ∧ L = [])) : RetC Tryd.prog 7 #[e, fltW f] I [] (fun v J L => v = .bool true ∧ L = []) := by
  refine .of (go7 ?_)
  unfold M7
  refine bxf_ fun b3 J hJ hb3 => ?_
  have hr3 : RdAt J b3 0 [i64 f.1, i64 f.2] := RdAt.of hb3 rfl
  refine cal_ret (L1 := []) (h J hJ) fun v3 J3 L3 hJ3 ⟨hv3, e3⟩ => ?_
  subst hv3 e3
  have hr4 := hr3.up hJ3
  have e1 : f.1 = f.1 := rfl
  have e2 : f.2 = f.2 := rfl
  refine ext_ (v := i64 f.1) ?_
  refine ext_ (v := i64 f.2) ?_
  (repeat with_reducible first | refine StA.h ‹_› ?_ | refine StB.h ‹_› ?_ | refine StG.h ?_ | refine StY.h ‹_› ?_ | refine StN.h ‹_› ?_ | refine StW.h ?_ | refine ld_ ?_ | refine lda_ ?_ | refine ldi_ ‹_› (by with_unfolding_all rfl) (by with_unfolding_all rfl) ?_ | refine ldi0_ ‹_› (by with_unfolding_all rfl) ?_ | refine ld_ ?_ (by with_unfolding_all rfl))
  exact fin_ret (L1 := []) fun K hK => ⟨by simp, rfl⟩
theorem placed_nil {I : Imm} : RetC Tryd.prog 7 #[.nilIface, fltW okF] I [] (fun v J L => v = .bool true ∧ L = []) := placed_gen (f := okF) fun J hJ => place_nil
theorem placed_at {I : Imm} (hE : ErrL I) {b : Nat} {f : Flt} (hb : RdAt I b 0 [i64 f.1, i64 f.2]) : RetC Tryd.prog 7 #[atV b, fltW f] I [] (fun v J L => v = .bool true ∧ L = []) := placed_gen fun J hJ => place_at (hE.up hJ) (hb.up hJ)
end Go.Proofs.YtkclodaplbalfaaDoor
