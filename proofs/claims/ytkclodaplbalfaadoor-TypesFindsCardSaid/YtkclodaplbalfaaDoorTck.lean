/- What is wrong first with templates. Conditions: none. -/
import Derived.Test.YtkclodaplbalfaaDoorBw2
set_option linter.unusedVariables false
set_option linter.unusedSimpArgs false
set_option maxRecDepth 100000
set_option maxHeartbeats 2000000
namespace Go.Proofs.YtkclodaplbalfaaDoor
open Go Sl
theorem TyR.length {I : Imm} {x : Ty} {vs : List Value} (h : TyR I x vs) : vs.length = 3 := by
  obtain ⟨A, c, ws, rfl, _⟩ := h
  rfl
theorem TysR.length {I : Imm} : ∀ {l : List Ty} {vs : List Value}, TysR I l vs → vs.length = l.length * 3
  | [], vs, h => by
    simp only [TysR] at h
    subst h
    rfl
  | x :: l, vs, ⟨v1, v2, e, h2, h3⟩ => by
    rw [e, List.length_append, h2.length, h3.length, List.length_cons]
    omega
theorem TysR.at {I : Imm} : ∀ {l : List Ty} {vs : List Value}, TysR I l vs → ∀ {i : Nat} (hi : i < l.length), ∃ w, TyR I l[i] w ∧ (vs.drop (i * 3)).take 3 = w
  | [], vs, h, i, hi => absurd hi (by simp)
  | x :: l, vs, ⟨v1, v2, e, h2, h3⟩, i, hi => by
    subst e
    have hl := h2.length
    cases i with
    | zero => exact ⟨v1, h2, by rw [Nat.zero_mul, List.drop_zero]; exact List.take_left' hl⟩
    | succ i =>
      obtain ⟨w, h4, h5⟩ := h3.at (i := i) (by simpa using hi)
      refine ⟨w, h4, ?_⟩
      rw [← h5]
      have e : (i + 1) * 3 = v1.length + i * 3 := by omega
      rw [e, List.drop_append, List.drop_eq_nil_of_le (Nat.le_add_right _ _), List.nil_append, Nat.add_sub_cancel_left]
/-- Templates, lying for good. -/
def TmsR (I : Imm) (A : Option Addr) (c : Nat) (l : List Ty) : Prop := ∃ vs, TysR I l vs ∧ RSl I A vs ∧ l.length ≤ c
theorem TmsR.up {I J : Imm} {A : Option Addr} {c : Nat} {l : List Ty} (h : TmsR I A c l) (hle : I.Le J) : TmsR J A c l := by
  obtain ⟨vs, h1, h2, h3⟩ := h
  exact ⟨vs, h1.up hle, h2.up hle, h3⟩
def tyL (t : Ty) (A : Option Addr) (c : Nat) : List Value := [S t.name, i64 t.at_, .slice A t.items.length c]
theorem TmsR.at {I : Imm} {A : Option Addr} {c : Nat} {l : List Ty} (h : TmsR I A c l) {i : Nat} (hi : i < l.length) : ∃ b o A2 c2, A = some ⟨b, o, none⟩ ∧ RdAt I b (o + i * 3) (tyL l[i] A2 c2) ∧ BlkR I A2 c2 l[i].items := by
  obtain ⟨vs, h1, h2, h3⟩ := h
  obtain ⟨w, ⟨A2, c2, ws, rfl, h5, h6, h7⟩, h8⟩ := h1.at hi
  have hne : vs ≠ [] := fun e => by
    subst e
    simp at h8
  rcases h2 with h2 | ⟨b, o, rfl, h2⟩
  · exact absurd h2 hne
  · refine ⟨b, o, A2, c2, rfl, ?_, ws, h5, h6, h7⟩
    have := (h2.drop (n := i * 3)).take (n := 3)
    rw [h8] at this
    exact this
theorem ld_type {I : Imm} {L : Own} {k : KV} {b o : Nat} {x : Ty} {A2 : Option Addr} {c2 : Nat} (h : RdAt I b o (tyL x A2 c2)) (k' : k (.agg (tyL x A2 c2).toArray) I L) : ld Tryd.prog 47 (ptr b o) I L k :=
  ldai_ (j := 0) h rfl (us := tyL x A2 c2) rfl rfl k'
theorem typesW_nil (ty : List Nm) : typesW [] ty = okF := by rw [typesW]
theorem typesW_cons (t : Ty) (l : List Ty) (ty : List Nm) : typesW (t :: l) ty = if t.name ∈ ty then (9, t.at_) else if (blkW ty t.items [] []).1.1 ≠ 0 then (blkW ty t.items [] []).1 else typesW l (ty ++ [t.name]) := by rw [typesW]
theorem typesCheck_ret {I : Imm} {A : Option Addr} {c : Nat} {l : List Ty} (h : TmsR I A c l) (hw : ∀ t ∈ l, ∀ x ∈ t.items, Wf 8 x) (hl : ∀ t ∈ l, t.items.length ≤ 16) (hn : l.length ≤ 9) :
    RetC Tryd.prog 9 #[.slice A l.length c] I [] (fun v J L => v = fltV (typesW l []) ∧ L = []) := by
  refine .of (go9 ?_)
  unfold M9
  refine al_ fun b2 => ?_
  refine mkm_ (K := fun a : Nm => S a) fun bm om hm => ?_
  refine vlen_ ?_
  refine loop9_0 (n := l.length) (fun n x I' L => ∃ (i : Nat) (ty : List Nm) (om : Obj), n + i = l.length ∧ x = i64 i ∧ I.Le I' ∧ MapO (fun a : Nm => S a) (setM ty) om ∧ typesW l [] = typesW (l.drop i) ty ∧ L = [(bm, om), (b2, .cells #[i64 0, i64 0] 26)])
    ⟨0, [], om, rfl, rfl, .refl _, hm, rfl, rfl⟩ ?_
  rintro n x I2 L2 hle ⟨i, ty, om1, hi, rfl, hI2, hm1, heq, rfl⟩ N hN u
  unfold B9_0
  refine lss_ ?_
  by_cases hlt : i < l.length
  · refine cnd_yes (by omega) ?_
    rw [List.drop_eq_getElem_cons hlt, typesW_cons] at heq
    have hmem := List.getElem_mem hlt
    obtain ⟨b, o, A2, c2, rfl, hr, hb⟩ := (h.up hI2).at hlt
    refine iad_ ?_ (by omega) (by omega)
    refine ld_type (by simpa using hr) ?_
    refine alsf_ fun bx J hJ hx => ?_
    (repeat with_reducible first | refine StA.h ‹_› ?_ | refine StB.h ‹_› ?_ | refine StG.h ?_ | refine StY.h ‹_› ?_ | refine StN.h ‹_› ?_ | refine StW.h ?_ | refine ld_ ?_ | refine lda_ ?_ | refine ldi_ ‹_› (by with_unfolding_all rfl) (by with_unfolding_all rfl) ?_ | refine ldi0_ ‹_› (by with_unfolding_all rfl) ?_ | refine ld_ ?_ (by with_unfolding_all rfl))
    refine lkps_ hm1 ?_
    refine cnd_ (fun htw => ?_) (fun htw => ?_)
    · (repeat with_reducible first | refine StA.h ‹_› ?_ | refine StB.h ‹_› ?_ | refine StG.h ?_ | refine StY.h ‹_› ?_ | refine StN.h ‹_› ?_ | refine StW.h ?_ | refine ld_ ?_ | refine lda_ ?_ | refine ldi_ ‹_› (by with_unfolding_all rfl) (by with_unfolding_all rfl) ?_ | refine ldi0_ ‹_› (by with_unfolding_all rfl) ?_ | refine ld_ ?_ (by with_unfolding_all rfl))
      refine bld_ (v := .agg #[i64 9, i64 l[i].at_]) (fun W => by kernel_rfl) ?_
      refine stoa_ ?_
      refine out9_0r ?_
      refine rcla_ (vs := [i64 9, i64 l[i].at_]) ?_ rfl rfl
      rw [if_pos htw] at heq
      exact fin_ret (L1 := []) fun K hK => ⟨by rw [heq]; rfl, rfl⟩
    (repeat with_reducible first | refine StA.h ‹_› ?_ | refine StB.h ‹_› ?_ | refine StG.h ?_ | refine StY.h ‹_› ?_ | refine StN.h ‹_› ?_ | refine StW.h ?_ | refine ld_ ?_ | refine lda_ ?_ | refine ldi_ ‹_› (by with_unfolding_all rfl) (by with_unfolding_all rfl) ?_ | refine ldi0_ ‹_› (by with_unfolding_all rfl) ?_ | refine ld_ ?_ (by with_unfolding_all rfl))
    rw [if_neg htw] at heq
    refine mkm_ (K := fun a : Nm => S a) fun bn on hn0 => ?_
    refine cal_ret (L1 := [(bm, om1), (bn, on)]) (bw_ret 8 (names := []) (seen := []) (As := none) (cs := 0) (hb.up hJ) (hw _ hmem) (hl _ hmem) (by simp) (.inl rfl) (Nat.le_refl _) hm1 hn0) fun v5 J5 L5 hJ5 ⟨on5, hv5, hm5, e5⟩ => ?_
    subst hv5 e5
    have hx5 := hx.up hJ5
    generalize hR : blkW ty l[i].items [] [] = R5 at *
    obtain ⟨f5, n5⟩ := R5
    refine wpS.keep [(bm, om1), (b2, .cells #[i64 0, i64 0] 26)] ?_
    unfold fltV
    refine alsf_ (vs := [i64 f5.1, i64 f5.2]) fun b6 J6 hJ6 hr6 => ?_
    have hx6 := hx5.up hJ6
    refine ldai_ (j := 0) hr6 rfl (us := [i64 f5.1, i64 f5.2]) rfl rfl ?_
    refine cal_pure (Is_pure _ _) ?_
    by_cases hf5 : f5.1 = 0
    · (repeat with_reducible first | refine StA.h ‹_› ?_ | refine StB.h ‹_› ?_ | refine StG.h ?_ | refine StY.h ‹_› ?_ | refine StN.h ‹_› ?_ | refine StW.h ?_ | refine ld_ ?_ | refine lda_ ?_ | refine ldi_ ‹_› (by with_unfolding_all rfl) (by with_unfolding_all rfl) ?_ | refine ldi0_ ‹_› (by with_unfolding_all rfl) ?_ | refine ld_ ?_ (by with_unfolding_all rfl))
      refine mups_ hm1 htw fun om2 hm2 => ?_
      refine add64 ?_
      rw [if_neg (by simpa using hf5)] at heq
      exact hN (n - 1) (by omega) ⟨i + 1, ty ++ [l[i].name], om2, by omega, rfl, hI2.trans (hJ.trans (hJ5.trans hJ6)), hm2, heq, rfl⟩
    · (repeat with_reducible first | refine StA.h ‹_› ?_ | refine StB.h ‹_› ?_ | refine StG.h ?_ | refine StY.h ‹_› ?_ | refine StN.h ‹_› ?_ | refine StW.h ?_ | refine ld_ ?_ | refine lda_ ?_ | refine ldi_ ‹_› (by with_unfolding_all rfl) (by with_unfolding_all rfl) ?_ | refine ldi0_ ‹_› (by with_unfolding_all rfl) ?_ | refine ld_ ?_ (by with_unfolding_all rfl))
      refine ldai_ (j := 0) hr6 rfl (us := [i64 f5.1, i64 f5.2]) rfl rfl ?_
      refine stoa_ ?_
      refine out9_0r ?_
      refine rcla_ (vs := [i64 f5.1, i64 f5.2]) ?_ rfl rfl
      rw [if_pos (by simpa using hf5)] at heq
      exact fin_ret (L1 := []) fun K hK => ⟨by rw [heq], rfl⟩
  · refine cnd_no (by omega) ?_
    refine out9_0x0 (join9_1 ?_)
    unfold T9_1
    rw [List.drop_eq_nil_of_le (by omega), typesW_nil] at heq
    refine cal_pure good_pure ?_
    refine stoa_ ?_
    refine rcla_ (vs := [i64 0, i64 (-1)]) ?_ rfl rfl
    exact fin_ret (L1 := []) fun K hK => ⟨by rw [heq]; rfl, rfl⟩
end Go.Proofs.YtkclodaplbalfaaDoor
