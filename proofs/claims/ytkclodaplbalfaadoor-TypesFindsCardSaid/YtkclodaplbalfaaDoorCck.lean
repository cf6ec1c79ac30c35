/- What is wrong first with templates: the program's. Conditions: none. -/
import Derived.Test.YtkclodaplbalfaaDoorItm
set_option linter.unusedVariables false
set_option linter.unusedSimpArgs false
set_option maxRecDepth 100000
set_option maxHeartbeats 4000000
namespace Go.Proofs.YtkclodaplbalfaaDoor
open Go Sl
/-- What Check hands back. -/
def CkR (l : List Ty) (v : Value) (J : Imm) (L : Own) : Prop := L = [] ∧ ((typesW l [] = okF ∧ v = .nilIface) ∨ ∃ b, v = atV b ∧ RdAt J b 0 [i64 (typesW l []).1, i64 (typesW l []).2])
theorem leave_bad {I : Imm} {Lr : Own} {be b : Nat} {tmps : Array Value} {l : List Ty} {f : Flt} (ht : tmps.getD 2 undef = ptr be 0) (he : typesW l [] = f) (hr : RdAt I b 0 [i64 f.1, i64 f.2]) :
    leavesB Tryd.prog Tryd.f8 tmps (Fin fun e I' L' => ∃ v, e = .returned v ∧ CkR l v I' L') [{ target := .fn (.func 20) #[ptr be 0], args := #[] ++ #[] }] (.panicking (chW b)) I (Lr ++ [(be, Obj.cells #[.nilIface] 32 (0, 0))]) := by
  refine ⟨by simp, inferInstance, ?_⟩
  refine god20 (.pan _ _) ?_
  unfold M20
  refine if_nnil ?_
  (repeat with_reducible first | refine StG.h ?_ | refine StY.h ‹_› ?_ | refine StN.h ‹_› ?_)
  refine tas_ (v := .tuple #[.agg #[atV b], .bool true]) (fun W => by kernel_rfl) ?_
  refine ext_ (v := .agg #[atV b]) ?_
  refine ext_ (v := .bool true) ?_
  refine al_ fun b2 => ?_
  refine stoa_ ?_
  (repeat with_reducible first | refine StG.h ?_ | refine StY.h ‹_› ?_ | refine StN.h ‹_› ?_ | refine StW.h ?_ | refine ld_ ?_ | refine lda_ ?_)
  refine ld_ (v := atV b) ?_
  refine sto_ ?_
  show rtT _ _ _ tmps [.cell 2 32] _
  unfold rtT
  rw [ht]
  refine rcl_ (v := atV b) ?_
  unfold rtT
  exact fin_ret (L1 := []) fun J hJ => ⟨rfl, .inr ⟨b, rfl, he ▸ hr.up hJ⟩⟩
theorem leave_ok {I : Imm} {Lr : Own} {be : Nat} {tmps : Array Value} {l : List Ty} (ht : tmps.getD 2 undef = ptr be 0) (he : typesW l [] = okF) :
    leavesB Tryd.prog Tryd.f8 tmps (Fin fun e I' L' => ∃ v, e = .returned v ∧ CkR l v I' L') [{ target := .fn (.func 20) #[ptr be 0], args := #[] ++ #[] }] .returning I (Lr ++ [(be, Obj.cells #[.nilIface] 32 (0, 0))]) := by
  refine ⟨by simp, inferInstance, ?_⟩
  refine god20 .ret ?_
  unfold M20
  refine nil_nnil ?_
  (repeat with_reducible first | refine StG.h ?_ | refine StY.h ‹_› ?_ | refine StN.h ‹_› ?_)
  show rtT _ _ _ tmps [.cell 2 32] _
  unfold rtT
  rw [ht]
  refine rcl_ (v := .nilIface) ?_
  unfold rtT
  exact fin_ret (L1 := []) fun J hJ => ⟨rfl, .inl ⟨he, rfl⟩⟩
theorem check_ret {I : Imm} {A : Option Addr} {c : Nat} {l : List Ty} (h : TmsR I A c l) (hw : ∀ t ∈ l, ∀ x ∈ t.items, Wf 8 x) (hl : ∀ t ∈ l, t.items.length ≤ 16) (hn : l.length ≤ 9) :
    RetC Tryd.prog 8 #[.slice A l.length c] I [] (CkR l) := by
  refine .of (go8 ?_)
  unfold M8
  refine al_ fun be => ?_
  refine mkm_ (K := fun a : Nm => S a) fun bm om hm => ?_
  refine vlen_ ?_
  refine loop8_0 (n := l.length) (fun n x I' L => ∃ (i : Nat) (ty : List Nm) (om : Obj), n + i = l.length ∧ x = i64 i ∧ I.Le I' ∧ MapO (fun a : Nm => S a) (setI ty) om ∧ typesW l [] = typesW (l.drop i) ty ∧ L = [(bm, om), (be, Obj.cells #[.nilIface] 32 (0, 0))])
    ⟨0, [], om, rfl, rfl, .refl _, hm, rfl, rfl⟩ ?_
  rintro n x I2 L2 hle ⟨i, ty, om1, hi, rfl, hI2, hm1, heq, rfl⟩ N hN u
  unfold B8_0
  refine lss_ ?_
  by_cases hlt : i < l.length
  · refine cnd_yes (by omega) ?_
    rw [List.drop_eq_getElem_cons hlt, typesW_cons] at heq
    have hmem := List.getElem_mem hlt
    obtain ⟨b, o, A2, c2, rfl, hr, hb⟩ := (h.up hI2).at hlt
    refine iad_ ?_ (by omega) (by omega)
    refine ld_type (by simpa using hr) ?_
    refine alsf_ fun bx J hJ hx => ?_
    (repeat with_reducible first | refine StA.h ‹_› ?_ | refine StB.h ‹_› ?_ | refine StG.h ?_ | refine StY.h ‹_› ?_ | refine StN.h ‹_› ?_ | refine StW.h ?_ | refine ld_ ?_ | refine lda_ ?_ | refine ldi_ ‹_› (by with_unfolding_all rfl) (by with_unfolding_all rfl) ?_ | refine ldi0_ ‹_› (by with_unfolding_all rfl) ?_ | refine ld_ ?_ (by with_unfolding_all rfl))
    refine lkpi_ hm1 ?_
    refine wpS.of_rd (.of_run run_gtr0) ?_
    refine cnd_ (fun htw => ?_) (fun htw => ?_)
    · (repeat with_reducible first | refine StA.h ‹_› ?_ | refine StB.h ‹_› ?_ | refine StG.h ?_ | refine StY.h ‹_› ?_ | refine StN.h ‹_› ?_ | refine StW.h ?_ | refine ld_ ?_ | refine lda_ ?_ | refine ldi_ ‹_› (by with_unfolding_all rfl) (by with_unfolding_all rfl) ?_ | refine ldi0_ ‹_› (by with_unfolding_all rfl) ?_ | refine ld_ ?_ (by with_unfolding_all rfl))
      rw [if_pos htw] at heq
      exact cal_fail (by decide) fun J b hJ hr => leave_bad (Lr := [(bm, om1)]) (by kernel_rfl) heq hr
    rw [if_neg htw] at heq
    refine join8_1 ?_
    unfold T8_1
    refine mkm_ (K := fun a : Nm => S a) fun bn on hn0 => ?_
    refine bld_ (v := .agg #[.map (some bm), .map (some bn), .slice none 0 0]) (fun W => by kernel_rfl) ?_
    refine bx_ fun bc => ?_
    (repeat with_reducible first | refine StA.h ‹_› ?_ | refine StB.h ‹_› ?_ | refine StG.h ?_ | refine StY.h ‹_› ?_ | refine StN.h ‹_› ?_ | refine StW.h ?_ | refine ld_ ?_ | refine lda_ ?_ | refine ldi_ ‹_› (by with_unfolding_all rfl) (by with_unfolding_all rfl) ?_ | refine ldi0_ ‹_› (by with_unfolding_all rfl) ?_ | refine ld_ ?_ (by with_unfolding_all rfl))
    refine cal_thr (L1 := [(bc, .cells (Value.agg #[.map (some bm), .map (some bn), .slice none 0 0]).cells 59), (bm, om1), (bn, on)]) (items_thr 8 (names := []) (seen := []) (As := none) (cs := 0) (Ls := []) (hb.up hJ) (hw _ hmem) (hl _ hmem) (by simp) .nil hm1 hn0) (fun J5 L' hJ5 h0 hL => ?_) (fun J b hJ h0 hr => ?_)
    case refine_2 =>
      rw [if_pos h0] at heq
      exact leave_bad (Lr := []) (by kernel_rfl) heq hr
    obtain ⟨on5, A5, c5, Ls5, hm5, ho5, rfl⟩ := hL
    rw [if_neg (by simpa using h0)] at heq
    have hx5 := hx.up hJ5
    (repeat with_reducible first | refine StA.h ‹_› ?_ | refine StB.h ‹_› ?_ | refine StG.h ?_ | refine StY.h ‹_› ?_ | refine StN.h ‹_› ?_ | refine StW.h ?_ | refine ld_ ?_ | refine lda_ ?_ | refine ldi_ ‹_› (by with_unfolding_all rfl) (by with_unfolding_all rfl) ?_ | refine ldi0_ ‹_› (by with_unfolding_all rfl) ?_ | refine ld_ ?_ (by with_unfolding_all rfl))
    refine mupi_ hm1 htw fun om2 hm2 => ?_
    refine join8_3 ?_
    unfold T8_3
    refine wpS.keep [(bm, om2), (be, Obj.cells #[.nilIface] 32 (0, 0))] ?_
    refine add64 ?_
    exact hN (n - 1) (by omega) ⟨i + 1, ty ++ [l[i].name], om2, by omega, rfl, hI2.trans (hJ.trans hJ5), hm2, heq, rfl⟩
  · refine cnd_no (by omega) ?_
    refine out8_0x0 (join8_2 ?_)
    unfold T8_2
    rw [List.drop_eq_nil_of_le (by omega), typesW_nil] at heq
    refine sto_ ?_
    exact leave_ok (Lr := [(bm, om1)]) (by kernel_rfl) heq
end Go.Proofs.YtkclodaplbalfaaDoor
