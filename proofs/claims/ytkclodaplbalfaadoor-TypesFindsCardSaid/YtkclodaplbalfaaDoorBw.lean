/- What is wrong first in a block. Conditions: none. -/
import Derived.Test.YtkclodaplbalfaaDoorAsk
set_option linter.unusedVariables false
set_option linter.unusedSimpArgs false
set_option maxRecDepth 100000
set_option maxHeartbeats 2000000
namespace Go.Proofs.YtkclodaplbalfaaDoor
open Go Sl
theorem itW_eq (ty : List Nm) (x : It) (names seen : List Nm) : itW ty x names seen =
    if x.kind ≠ 4 then
      if x.name ∈ names then ((9, x.at_), names)
      else if x.kind = 3 ∧ x.type ∉ ty then ((7, x.at_), names ++ [x.name])
      else (asksW seen x.count, names ++ [x.name])
    else if (asksW seen x.count).1 ≠ 0 then (asksW seen x.count, names)
    else if (itsW ty x.items names seen).1.1 ≠ 0 then itsW ty x.items names seen
    else (rulesW x.items, (itsW ty x.items names seen).2) := by
  cases x
  rw [itW]
theorem itsW_nil (ty names seen : List Nm) : itsW ty [] names seen = (okF, names) := by rw [itsW]
theorem itsW_cons (ty : List Nm) (x : It) (l : List It) (names seen : List Nm) : itsW ty (x :: l) names seen = if (itW ty x names seen).1.1 ≠ 0 then itW ty x names seen else itsW ty l (itW ty x names seen).2 (if x.kind = 1 ∧ x.many = false then seen ++ [x.name] else seen) := by rw [itsW]
theorem asksW_e (seen : List Nm) (x : Ex) : asksW seen x = okF ∨ (asksW seen x).1 = 5 := by
  unfold asksW
  split <;> simp
def rulF (l : List It) (i : Nat) : Flt := match l[i]? with | some x => ruleW l i x | none => okF
noncomputable def cycF (l : List It) (i : Nat) : Flt := match l[i]? with | some x => cycW l i x | none => okF
theorem rulesW_eq (l : List It) : rulesW l = if (firstF l.length 0 (rulF l)).1 ≠ 0 then firstF l.length 0 (rulF l) else firstF l.length 0 (cycF l) := rfl
theorem rulF_at {l : List It} {i : Nat} (hi : i < l.length) : rulF l i = ruleW l i l[i] := by
  unfold rulF
  rw [List.getElem?_eq_getElem hi]
theorem cycF_at {l : List It} {i : Nat} (hi : i < l.length) : cycF l i = cycW l i l[i] := by
  unfold cycF
  rw [List.getElem?_eq_getElem hi]
theorem firstF_at {n i : Nat} {f : Nat → Flt} (hi : i < n) : firstF (n - i) i f = if (f i).1 ≠ 0 then f i else firstF (n - (i + 1)) (i + 1) f := by
  have e : n - i = (n - (i + 1)) + 1 := by omega
  rw [e]
  rfl
theorem cycW_yes {l : List It} {i : Nat} {x : It} (h : x.rule = 3 ∧ Reach l i i) : cycW l i x = (11, x.at_) := by
  unfold cycW
  exact if_pos h
theorem cycW_no {l : List It} {i : Nat} {x : It} (h : ¬ (x.rule = 3 ∧ Reach l i i)) : cycW l i x = okF := by
  unfold cycW
  exact if_neg h
/-! the rules of a block, walked -/
def FltR (f : Flt) (v : Value) (L1 L : Own) : Prop := v = fltV f ∧ L = L1
theorem cyc_walk {I : Imm} {A : Option Addr} {c : Nat} {l : List It} (hb : BlkR I A c l) (hl : l.length ≤ 16) {As : Option Addr} {sn cs b7 b8 bt bn : Nat} {ot on : Obj} {Rv : Value → Imm → Own → Prop}
    (hR : ∀ J, I.Le J → Rv (fltV (firstF l.length 0 (cycF l))) J [(bt, ot), (bn, on)]) : ∀ {zz : Env}, T23_8 (Fin fun e I' L' => ∃ v, e = .returned v ∧ Rv v I' L') zz (.slice A l.length c) (ptr b8 0) I [(b8, .cells #[i64 0, i64 0] 26), (b7, .cells #[.slice As sn cs] 57), (bt, ot), (bn, on)] := by
  intros
  unfold T23_8
  refine vlen_ ?_
  refine loop23_10 (n := l.length) (fun n x I' L => I.Le I' ∧ ∃ i : Nat, n + i = l.length ∧ x = i64 i ∧ L = [(b8, .cells #[i64 0, i64 0] 26), (b7, .cells #[.slice As sn cs] 57), (bt, ot), (bn, on)] ∧ firstF l.length 0 (cycF l) = firstF (l.length - i) i (cycF l)) ⟨.refl _, 0, rfl, rfl, rfl, rfl⟩ ?_
  rintro n x I2 L2 hle ⟨hI2, i, hi, rfl, rfl, hf⟩ N hN u
  have hb2 := hb.up hI2
  unfold B23_10
  refine lss_ ?_
  by_cases hlt : i < l.length
  · refine cnd_yes (by omega) ?_
    obtain ⟨b, o, cp, A2, c2, rfl, hr, hc, hb3⟩ := hb2.at hlt
    obtain ⟨ca, rfl⟩ := hc.ptr
    refine iad_ ?_ (by omega) (by omega)
    refine ld_item (by simpa using hr) ?_
    refine alsf_ fun bx J hJ hx => ?_
    (repeat with_reducible first | refine StA.h ‹_› ?_ | refine StB.h ‹_› ?_ | refine StG.h ?_ | refine StY.h ‹_› ?_ | refine StN.h ‹_› ?_ | refine StW.h ?_ | refine ld_ ?_ | refine lda_ ?_ | refine ldi_ ‹_› (by with_unfolding_all rfl) (by with_unfolding_all rfl) ?_ | refine ldi0_ ‹_› (by with_unfolding_all rfl) ?_ | refine ld_ ?_ (by with_unfolding_all rfl))
    rw [firstF_at hlt, cycF_at hlt] at hf
    have next : ¬ (l[i].rule = 3 ∧ Reach l i i) → firstF l.length 0 (cycF l) = firstF (l.length - (i + 1)) (i + 1) (cycF l) := fun h => by
      rw [hf, cycW_no h, if_neg (by simp [okF])]
    by_cases h3 : l[i].rule = 3
    · (repeat with_reducible first | refine StA.h ‹_› ?_ | refine StB.h ‹_› ?_ | refine StG.h ?_ | refine StY.h ‹_› ?_ | refine StN.h ‹_› ?_ | refine StW.h ?_ | refine ld_ ?_ | refine lda_ ?_ | refine ldi_ ‹_› (by with_unfolding_all rfl) (by with_unfolding_all rfl) ?_ | refine ldi0_ ‹_› (by with_unfolding_all rfl) ?_ | refine ld_ ?_ (by with_unfolding_all rfl))
      refine cal_ret (L1 := []) (comes_ret (hb2.up hJ) hl i i hlt) fun v3 I3 L3 hI3 ⟨⟨q, hv, hq⟩, e3⟩ => ?_
      subst hv e3
      have hx3 := hx.up hI3
      (repeat with_reducible first | refine StA.h ‹_› ?_ | refine StB.h ‹_› ?_ | refine StG.h ?_ | refine StY.h ‹_› ?_ | refine StN.h ‹_› ?_ | refine StW.h ?_ | refine ld_ ?_ | refine lda_ ?_ | refine ldi_ ‹_› (by with_unfolding_all rfl) (by with_unfolding_all rfl) ?_ | refine ldi0_ ‹_› (by with_unfolding_all rfl) ?_ | refine ld_ ?_ (by with_unfolding_all rfl))
      refine cndb_ (fun hqt => ?_) (fun hqf => ?_)
      · (repeat with_reducible first | refine StA.h ‹_› ?_ | refine StB.h ‹_› ?_ | refine StG.h ?_ | refine StY.h ‹_› ?_ | refine StN.h ‹_› ?_ | refine StW.h ?_ | refine ld_ ?_ | refine lda_ ?_ | refine ldi_ ‹_› (by with_unfolding_all rfl) (by with_unfolding_all rfl) ?_ | refine ldi0_ ‹_› (by with_unfolding_all rfl) ?_ | refine ld_ ?_ (by with_unfolding_all rfl))
        refine bld_ (v := .agg #[i64 11, i64 l[i].at_]) (fun W => by kernel_rfl) ?_
        refine stoa_ ?_
        refine out23_10r ?_
        refine rcla_ (vs := [i64 11, i64 l[i].at_]) ?_ rfl rfl
        refine fin_ret (L1 := [(bt, ot), (bn, on)]) fun K hK => ?_
        have := hR K (hI2.trans (hJ.trans (hI3.trans hK)))
        rw [hf, cycW_yes ⟨h3, hq.1 hqt⟩, if_pos (by simp)] at this
        exact this
      · refine add64 ?_
        exact hN (n - 1) (by omega) ⟨hI2.trans (hJ.trans hI3), i + 1, by omega, rfl, rfl, next fun h => by rw [hq.2 h.2] at hqf; cases hqf⟩
    · (repeat with_reducible first | refine StA.h ‹_› ?_ | refine StB.h ‹_› ?_ | refine StG.h ?_ | refine StY.h ‹_› ?_ | refine StN.h ‹_› ?_ | refine StW.h ?_ | refine ld_ ?_ | refine lda_ ?_ | refine ldi_ ‹_› (by with_unfolding_all rfl) (by with_unfolding_all rfl) ?_ | refine ldi0_ ‹_› (by with_unfolding_all rfl) ?_ | refine ld_ ?_ (by with_unfolding_all rfl))
      refine add64 ?_
      exact hN (n - 1) (by omega) ⟨hI2.trans hJ, i + 1, by omega, rfl, rfl, next fun h => h3 h.1⟩
  · refine cnd_no (by omega) ?_
    refine out23_10x5 (join23_11 ?_)
    unfold T23_11
    refine cal_pure good_pure ?_
    refine stoa_ ?_
    refine rcla_ (vs := [i64 0, i64 (-1)]) ?_ rfl rfl
    refine fin_ret (L1 := [(bt, ot), (bn, on)]) fun K hK => ?_
    have := hR K (hI2.trans hK)
    have e : l.length - i = 0 := by omega
    rw [hf, e] at this
    exact this
theorem rul_walk {zz : Env} {I : Imm} {A : Option Addr} {c : Nat} {l : List It} (hb : BlkR I A c l) (hl : l.length ≤ 16) {As : Option Addr} {sn cs b7 b8 bt bn : Nat} {ot on : Obj} {Rv : Value → Imm → Own → Prop}
    (hR : ∀ J, I.Le J → Rv (fltV (rulesW l)) J [(bt, ot), (bn, on)]) : T23_2 (Fin fun e I' L' => ∃ v, e = .returned v ∧ Rv v I' L') zz (.slice A l.length c) (ptr b8 0) I [(b8, .cells #[i64 0, i64 0] 26), (b7, .cells #[.slice As sn cs] 57), (bt, ot), (bn, on)] := by
  unfold T23_2
  refine vlen_ ?_
  refine loop23_4 (n := l.length) (fun n x I' L => I.Le I' ∧ ∃ i : Nat, n + i = l.length ∧ x = i64 i ∧ L = [(b8, .cells #[i64 0, i64 0] 26), (b7, .cells #[.slice As sn cs] 57), (bt, ot), (bn, on)] ∧ firstF l.length 0 (rulF l) = firstF (l.length - i) i (rulF l)) ⟨.refl _, 0, rfl, rfl, rfl, rfl⟩ ?_
  rintro n x I2 L2 hle ⟨hI2, i, hi, rfl, rfl, hf⟩ N hN u
  have hb2 := hb.up hI2
  by_cases hlt : i < l.length
  case neg =>
    unfold B23_4
    refine lss_ ?_
    refine cnd_no (by omega) ?_
    refine out23_4x2 (join23_8 ?_)
    refine cyc_walk (hb.up hI2) hl (fun J hJ => ?_)
    have := hR J (hI2.trans hJ)
    have e : l.length - i = 0 := by omega
    rw [rulesW_eq, hf, e, if_neg (by simp [firstF, okF])] at this
    exact this
  rw [firstF_at hlt, rulF_at hlt] at hf
  have bad : ∀ {e a : Int}, e ≠ 0 → ruleW l i l[i] = (e, a) → rulesW l = (e, a) := fun {e a} he h => by
    rw [rulesW_eq, hf, h, if_pos he, if_pos he]
  have next : ruleW l i l[i] = okF → firstF l.length 0 (rulF l) = firstF (l.length - (i + 1)) (i + 1) (rulF l) := fun h => by
    rw [hf, h, if_neg (by simp [okF])]
  have hw1 := whichZ_lt l l[i].first
  have hw2 := whichZ_lt l l[i].last
  have j7 : ∀ {zz : Env} {J : Imm} {cp : Value} {A2 : Option Addr} {c2 bx : Nat} {b : Int}, I.Le J → RdAt J bx 0 (itL l[i] cp A2 c2) → l[i].rule ≠ 0 → b = (if l[i].rule = 3 then whichZ l l[i].last else whichZ l l[i].first) →
      T23_7 (Fin fun e I' L' => ∃ v, e = .returned v ∧ Rv v I' L') N (Q23_4 (Fin fun e I' L' => ∃ v, e = .returned v ∧ Rv v I' L')) zz (.slice A l.length c) (ptr b8 0) (i64 i) (ptr bx 0) (i64 (whichZ l l[i].first)) (i64 b) (.slice A l.length c) (i64 l.length) (i64 i) J [(b8, .cells #[i64 0, i64 0] 26), (b7, .cells #[.slice As sn cs] 57), (bt, ot), (bn, on)] := by
    intros
    rename_i J cp A2 c2 bx b hJ hx hr0 hbb
    have hbl : -1 ≤ b ∧ b < l.length := by rw [hbb]; split <;> assumption
    have hru : ruleW l i l[i] = if whichZ l l[i].first < 0 ∨ b < 0 then (7, l[i].at_) else if (l[i].rule = 2 ∧ (l[(whichZ l l[i].first).toNat]?.map (·.many)).getD false = false) ∨ (l[i].rule = 3 ∧ (l[i].width ≠ 4 ∨ l[i].signed = true)) then (13, l[i].at_) else if b < whichZ l l[i].first then (10, l[i].at_) else if whichZ l l[i].first ≤ i ∧ (i : Int) ≤ b then (6, l[i].at_) else okF := by
      unfold ruleW
      rw [if_neg hr0, hbb]
    unfold T23_7
    refine lss_ ?_
    by_cases ha0 : whichZ l l[i].first < 0
    · (repeat with_reducible first | refine StA.h ‹_› ?_ | refine StB.h ‹_› ?_ | refine StG.h ?_ | refine StY.h ‹_› ?_ | refine StN.h ‹_› ?_ | refine StW.h ?_ | refine ld_ ?_ | refine lda_ ?_ | refine ldi_ ‹_› (by with_unfolding_all rfl) (by with_unfolding_all rfl) ?_ | refine ldi0_ ‹_› (by with_unfolding_all rfl) ?_ | refine ld_ ?_ (by with_unfolding_all rfl))
      (repeat with_reducible first | refine StA.h ‹_› ?_ | refine StB.h ‹_› ?_ | refine StG.h ?_ | refine StY.h ‹_› ?_ | refine StN.h ‹_› ?_ | refine StW.h ?_ | refine ld_ ?_ | refine lda_ ?_ | refine ldi_ ‹_› (by with_unfolding_all rfl) (by with_unfolding_all rfl) ?_ | refine ldi0_ ‹_› (by with_unfolding_all rfl) ?_ | refine ld_ ?_ (by with_unfolding_all rfl))
      refine bld_ (v := .agg #[i64 7, i64 l[i].at_]) (fun W => by kernel_rfl) ?_
      refine stoa_ ?_
      refine out23_4r ?_
      refine rcla_ (vs := [i64 7, i64 l[i].at_]) ?_ rfl rfl
      refine fin_ret (L1 := [(bt, ot), (bn, on)]) fun K hK => ?_
      have := hR K (hJ.trans hK)
      rw [bad (e := 7) (by decide) (by rw [hru, if_pos (.inl ha0)])] at this
      exact this
    by_cases hb0 : b < 0
    · (repeat with_reducible first | refine StA.h ‹_› ?_ | refine StB.h ‹_› ?_ | refine StG.h ?_ | refine StY.h ‹_› ?_ | refine StN.h ‹_› ?_ | refine StW.h ?_ | refine ld_ ?_ | refine lda_ ?_ | refine ldi_ ‹_› (by with_unfolding_all rfl) (by with_unfolding_all rfl) ?_ | refine ldi0_ ‹_› (by with_unfolding_all rfl) ?_ | refine ld_ ?_ (by with_unfolding_all rfl))
      (repeat with_reducible first | refine StA.h ‹_› ?_ | refine StB.h ‹_› ?_ | refine StG.h ?_ | refine StY.h ‹_› ?_ | refine StN.h ‹_› ?_ | refine StW.h ?_ | refine ld_ ?_ | refine lda_ ?_ | refine ldi_ ‹_› (by with_unfolding_all rfl) (by with_unfolding_all rfl) ?_ | refine ldi0_ ‹_› (by with_unfolding_all rfl) ?_ | refine ld_ ?_ (by with_unfolding_all rfl))
      refine bld_ (v := .agg #[i64 7, i64 l[i].at_]) (fun W => by kernel_rfl) ?_
      refine stoa_ ?_
      refine out23_4r ?_
      refine rcla_ (vs := [i64 7, i64 l[i].at_]) ?_ rfl rfl
      refine fin_ret (L1 := [(bt, ot), (bn, on)]) fun K hK => ?_
      have := hR K (hJ.trans hK)
      rw [bad (e := 7) (by decide) (by rw [hru, if_pos (.inr hb0)])] at this
      exact this
    (repeat with_reducible first | refine StA.h ‹_› ?_ | refine StB.h ‹_› ?_ | refine StG.h ?_ | refine StY.h ‹_› ?_ | refine StN.h ‹_› ?_ | refine StW.h ?_ | refine ld_ ?_ | refine lda_ ?_ | refine ldi_ ‹_› (by with_unfolding_all rfl) (by with_unfolding_all rfl) ?_ | refine ldi0_ ‹_› (by with_unfolding_all rfl) ?_ | refine ld_ ?_ (by with_unfolding_all rfl))
    have hn7 : ¬ (whichZ l l[i].first < 0 ∨ b < 0) := by omega
    rw [if_neg hn7] at hru
    have hql : (whichZ l l[i].first).toNat < l.length := by omega
    obtain ⟨q, hq⟩ : ∃ q, l[(whichZ l l[i].first).toNat]? = some q := ⟨_, List.getElem?_eq_getElem hql⟩
    rw [hq] at hru
    simp only [Option.map_some, Option.getD_some] at hru
    obtain ⟨bA, oA, cpA, A3, c3, rfl, hrA, _, _⟩ := (hb.up hJ).at hql
    have hqe : l[(whichZ l l[i].first).toNat] = q := by
      rw [List.getElem?_eq_getElem hql] at hq
      exact Option.some.inj hq
    rw [hqe] at hrA
    by_cases h2 : l[i].rule = 2
    · have h3 : ¬ l[i].rule = 3 := by omega
      (repeat with_reducible first | refine StA.h ‹_› ?_ | refine StB.h ‹_› ?_ | refine StG.h ?_ | refine StY.h ‹_› ?_ | refine StN.h ‹_› ?_ | refine StW.h ?_ | refine ld_ ?_ | refine lda_ ?_ | refine ldi_ ‹_› (by with_unfolding_all rfl) (by with_unfolding_all rfl) ?_ | refine ldi0_ ‹_› (by with_unfolding_all rfl) ?_ | refine ld_ ?_ (by with_unfolding_all rfl))
      refine iad_ ?_ (by omega) (by omega)
      cases hm : q.many
      · (repeat with_reducible first | refine StA.h ‹_› ?_ | refine StB.h ‹_› ?_ | refine StG.h ?_ | refine StY.h ‹_› ?_ | refine StN.h ‹_› ?_ | refine StW.h ?_ | refine ld_ ?_ | refine lda_ ?_ | refine ldi_ ‹_› (by with_unfolding_all rfl) (by with_unfolding_all rfl) ?_ | refine ldi0_ ‹_› (by with_unfolding_all rfl) ?_ | refine ld_ ?_ (by with_unfolding_all rfl))
        (repeat with_reducible first | refine StA.h ‹_› ?_ | refine StB.h ‹_› ?_ | refine StG.h ?_ | refine StY.h ‹_› ?_ | refine StN.h ‹_› ?_ | refine StW.h ?_ | refine ld_ ?_ | refine lda_ ?_ | refine ldi_ ‹_› (by with_unfolding_all rfl) (by with_unfolding_all rfl) ?_ | refine ldi0_ ‹_› (by with_unfolding_all rfl) ?_ | refine ld_ ?_ (by with_unfolding_all rfl))
        refine bld_ (v := .agg #[i64 13, i64 l[i].at_]) (fun W => by kernel_rfl) ?_
        refine stoa_ ?_
        refine out23_4r ?_
        refine rcla_ (vs := [i64 13, i64 l[i].at_]) ?_ rfl rfl
        refine fin_ret (L1 := [(bt, ot), (bn, on)]) fun K hK => ?_
        have := hR K (hJ.trans hK)
        rw [bad (e := 13) (by decide) (by rw [hru, if_pos (.inl ⟨h2, hm⟩)])] at this
        exact this
      · (repeat with_reducible first | refine StA.h ‹_› ?_ | refine StB.h ‹_› ?_ | refine StG.h ?_ | refine StY.h ‹_› ?_ | refine StN.h ‹_› ?_ | refine StW.h ?_ | refine ld_ ?_ | refine lda_ ?_ | refine ldi_ ‹_› (by with_unfolding_all rfl) (by with_unfolding_all rfl) ?_ | refine ldi0_ ‹_› (by with_unfolding_all rfl) ?_ | refine ld_ ?_ (by with_unfolding_all rfl))
        have hn13 : ¬ ((l[i].rule = 2 ∧ q.many = false) ∨ (l[i].rule = 3 ∧ (l[i].width ≠ 4 ∨ l[i].signed = true))) := by simp [h2, hm]
        refine cnd_ (fun hba => ?_) (fun hba => ?_)
        · (repeat with_reducible first | refine StA.h ‹_› ?_ | refine StB.h ‹_› ?_ | refine StG.h ?_ | refine StY.h ‹_› ?_ | refine StN.h ‹_› ?_ | refine StW.h ?_ | refine ld_ ?_ | refine lda_ ?_ | refine ldi_ ‹_› (by with_unfolding_all rfl) (by with_unfolding_all rfl) ?_ | refine ldi0_ ‹_› (by with_unfolding_all rfl) ?_ | refine ld_ ?_ (by with_unfolding_all rfl))
          refine bld_ (v := .agg #[i64 10, i64 l[i].at_]) (fun W => by kernel_rfl) ?_
          refine stoa_ ?_
          refine out23_4r ?_
          refine rcla_ (vs := [i64 10, i64 l[i].at_]) ?_ rfl rfl
          refine fin_ret (L1 := [(bt, ot), (bn, on)]) fun K hK => ?_
          have := hR K (hJ.trans hK)
          rw [bad (e := 10) (by decide) (by rw [hru, if_neg hn13, if_pos hba])] at this
          exact this
        refine cal_pure (within_pure _ _ _) ?_
        rw [if_neg hn13, if_neg hba] at hru
        refine cndb_ (fun hwi => ?_) (fun hwi => ?_)
        · (repeat with_reducible first | refine StA.h ‹_› ?_ | refine StB.h ‹_› ?_ | refine StG.h ?_ | refine StY.h ‹_› ?_ | refine StN.h ‹_› ?_ | refine StW.h ?_ | refine ld_ ?_ | refine lda_ ?_ | refine ldi_ ‹_› (by with_unfolding_all rfl) (by with_unfolding_all rfl) ?_ | refine ldi0_ ‹_› (by with_unfolding_all rfl) ?_ | refine ld_ ?_ (by with_unfolding_all rfl))
          refine bld_ (v := .agg #[i64 6, i64 l[i].at_]) (fun W => by kernel_rfl) ?_
          refine stoa_ ?_
          refine out23_4r ?_
          refine rcla_ (vs := [i64 6, i64 l[i].at_]) ?_ rfl rfl
          refine fin_ret (L1 := [(bt, ot), (bn, on)]) fun K hK => ?_
          have := hR K (hJ.trans hK)
          rw [bad (e := 6) (by decide) (by rw [hru, if_pos (by simpa [withinZ] using hwi)])] at this
          exact this
        refine join23_9 ?_
        unfold T23_9
        refine add64 ?_
        exact hN (n - 1) (by omega) ⟨hJ, i + 1, by omega, rfl, rfl, next (by rw [hru, if_neg (by simpa [withinZ] using hwi)])⟩
    · by_cases h3 : l[i].rule = 3
      · by_cases h4 : l[i].width ≠ 4
        · (repeat with_reducible first | refine StA.h ‹_› ?_ | refine StB.h ‹_› ?_ | refine StG.h ?_ | refine StY.h ‹_› ?_ | refine StN.h ‹_› ?_ | refine StW.h ?_ | refine ld_ ?_ | refine lda_ ?_ | refine ldi_ ‹_› (by with_unfolding_all rfl) (by with_unfolding_all rfl) ?_ | refine ldi0_ ‹_› (by with_unfolding_all rfl) ?_ | refine ld_ ?_ (by with_unfolding_all rfl))
          (repeat with_reducible first | refine StA.h ‹_› ?_ | refine StB.h ‹_› ?_ | refine StG.h ?_ | refine StY.h ‹_› ?_ | refine StN.h ‹_› ?_ | refine StW.h ?_ | refine ld_ ?_ | refine lda_ ?_ | refine ldi_ ‹_› (by with_unfolding_all rfl) (by with_unfolding_all rfl) ?_ | refine ldi0_ ‹_› (by with_unfolding_all rfl) ?_ | refine ld_ ?_ (by with_unfolding_all rfl))
          refine bld_ (v := .agg #[i64 13, i64 l[i].at_]) (fun W => by kernel_rfl) ?_
          refine stoa_ ?_
          refine out23_4r ?_
          refine rcla_ (vs := [i64 13, i64 l[i].at_]) ?_ rfl rfl
          refine fin_ret (L1 := [(bt, ot), (bn, on)]) fun K hK => ?_
          have := hR K (hJ.trans hK)
          rw [bad (e := 13) (by decide) (by rw [hru, if_pos (.inr ⟨h3, .inl h4⟩)])] at this
          exact this
        · cases hsg : l[i].signed
          · (repeat with_reducible first | refine StA.h ‹_› ?_ | refine StB.h ‹_› ?_ | refine StG.h ?_ | refine StY.h ‹_› ?_ | refine StN.h ‹_› ?_ | refine StW.h ?_ | refine ld_ ?_ | refine lda_ ?_ | refine ldi_ ‹_› (by with_unfolding_all rfl) (by with_unfolding_all rfl) ?_ | refine ldi0_ ‹_› (by with_unfolding_all rfl) ?_ | refine ld_ ?_ (by with_unfolding_all rfl))
            have hn13 : ¬ ((l[i].rule = 2 ∧ q.many = false) ∨ (l[i].rule = 3 ∧ (l[i].width ≠ 4 ∨ l[i].signed = true))) := by simp only [h2, h4, hsg]; simp
            refine cnd_ (fun hba => ?_) (fun hba => ?_)
            · (repeat with_reducible first | refine StA.h ‹_› ?_ | refine StB.h ‹_› ?_ | refine StG.h ?_ | refine StY.h ‹_› ?_ | refine StN.h ‹_› ?_ | refine StW.h ?_ | refine ld_ ?_ | refine lda_ ?_ | refine ldi_ ‹_› (by with_unfolding_all rfl) (by with_unfolding_all rfl) ?_ | refine ldi0_ ‹_› (by with_unfolding_all rfl) ?_ | refine ld_ ?_ (by with_unfolding_all rfl))
              refine bld_ (v := .agg #[i64 10, i64 l[i].at_]) (fun W => by kernel_rfl) ?_
              refine stoa_ ?_
              refine out23_4r ?_
              refine rcla_ (vs := [i64 10, i64 l[i].at_]) ?_ rfl rfl
              refine fin_ret (L1 := [(bt, ot), (bn, on)]) fun K hK => ?_
              have := hR K (hJ.trans hK)
              rw [bad (e := 10) (by decide) (by rw [hru, if_neg hn13, if_pos hba])] at this
              exact this
            refine cal_pure (within_pure _ _ _) ?_
            rw [if_neg hn13, if_neg hba] at hru
            refine cndb_ (fun hwi => ?_) (fun hwi => ?_)
            · (repeat with_reducible first | refine StA.h ‹_› ?_ | refine StB.h ‹_› ?_ | refine StG.h ?_ | refine StY.h ‹_› ?_ | refine StN.h ‹_› ?_ | refine StW.h ?_ | refine ld_ ?_ | refine lda_ ?_ | refine ldi_ ‹_› (by with_unfolding_all rfl) (by with_unfolding_all rfl) ?_ | refine ldi0_ ‹_› (by with_unfolding_all rfl) ?_ | refine ld_ ?_ (by with_unfolding_all rfl))
              refine bld_ (v := .agg #[i64 6, i64 l[i].at_]) (fun W => by kernel_rfl) ?_
              refine stoa_ ?_
              refine out23_4r ?_
              refine rcla_ (vs := [i64 6, i64 l[i].at_]) ?_ rfl rfl
              refine fin_ret (L1 := [(bt, ot), (bn, on)]) fun K hK => ?_
              have := hR K (hJ.trans hK)
              rw [bad (e := 6) (by decide) (by rw [hru, if_pos (by simpa [withinZ] using hwi)])] at this
              exact this
            refine join23_9 ?_
            unfold T23_9
            refine add64 ?_
            exact hN (n - 1) (by omega) ⟨hJ, i + 1, by omega, rfl, rfl, next (by rw [hru, if_neg (by simpa [withinZ] using hwi)])⟩
          · (repeat with_reducible first | refine StA.h ‹_› ?_ | refine StB.h ‹_› ?_ | refine StG.h ?_ | refine StY.h ‹_› ?_ | refine StN.h ‹_› ?_ | refine StW.h ?_ | refine ld_ ?_ | refine lda_ ?_ | refine ldi_ ‹_› (by with_unfolding_all rfl) (by with_unfolding_all rfl) ?_ | refine ldi0_ ‹_› (by with_unfolding_all rfl) ?_ | refine ld_ ?_ (by with_unfolding_all rfl))
            (repeat with_reducible first | refine StA.h ‹_› ?_ | refine StB.h ‹_› ?_ | refine StG.h ?_ | refine StY.h ‹_› ?_ | refine StN.h ‹_› ?_ | refine StW.h ?_ | refine ld_ ?_ | refine lda_ ?_ | refine ldi_ ‹_› (by with_unfolding_all rfl) (by with_unfolding_all rfl) ?_ | refine ldi0_ ‹_› (by with_unfolding_all rfl) ?_ | refine ld_ ?_ (by with_unfolding_all rfl))
            refine bld_ (v := .agg #[i64 13, i64 l[i].at_]) (fun W => by kernel_rfl) ?_
            refine stoa_ ?_
            refine out23_4r ?_
            refine rcla_ (vs := [i64 13, i64 l[i].at_]) ?_ rfl rfl
            refine fin_ret (L1 := [(bt, ot), (bn, on)]) fun K hK => ?_
            have := hR K (hJ.trans hK)
            rw [bad (e := 13) (by decide) (by rw [hru, if_pos (.inr ⟨h3, .inr hsg⟩)])] at this
            exact this
      · (repeat with_reducible first | refine StA.h ‹_› ?_ | refine StB.h ‹_› ?_ | refine StG.h ?_ | refine StY.h ‹_› ?_ | refine StN.h ‹_› ?_ | refine StW.h ?_ | refine ld_ ?_ | refine lda_ ?_ | refine ldi_ ‹_› (by with_unfolding_all rfl) (by with_unfolding_all rfl) ?_ | refine ldi0_ ‹_› (by with_unfolding_all rfl) ?_ | refine ld_ ?_ (by with_unfolding_all rfl))
        have hn13 : ¬ ((l[i].rule = 2 ∧ q.many = false) ∨ (l[i].rule = 3 ∧ (l[i].width ≠ 4 ∨ l[i].signed = true))) := by simp only [h2, h3]; simp
        refine cnd_ (fun hba => ?_) (fun hba => ?_)
        · (repeat with_reducible first | refine StA.h ‹_› ?_ | refine StB.h ‹_› ?_ | refine StG.h ?_ | refine StY.h ‹_› ?_ | refine StN.h ‹_› ?_ | refine StW.h ?_ | refine ld_ ?_ | refine lda_ ?_ | refine ldi_ ‹_› (by with_unfolding_all rfl) (by with_unfolding_all rfl) ?_ | refine ldi0_ ‹_› (by with_unfolding_all rfl) ?_ | refine ld_ ?_ (by with_unfolding_all rfl))
          refine bld_ (v := .agg #[i64 10, i64 l[i].at_]) (fun W => by kernel_rfl) ?_
          refine stoa_ ?_
          refine out23_4r ?_
          refine rcla_ (vs := [i64 10, i64 l[i].at_]) ?_ rfl rfl
          refine fin_ret (L1 := [(bt, ot), (bn, on)]) fun K hK => ?_
          have := hR K (hJ.trans hK)
          rw [bad (e := 10) (by decide) (by rw [hru, if_neg hn13, if_pos hba])] at this
          exact this
        refine cal_pure (within_pure _ _ _) ?_
        rw [if_neg hn13, if_neg hba] at hru
        refine cndb_ (fun hwi => ?_) (fun hwi => ?_)
        · (repeat with_reducible first | refine StA.h ‹_› ?_ | refine StB.h ‹_› ?_ | refine StG.h ?_ | refine StY.h ‹_› ?_ | refine StN.h ‹_› ?_ | refine StW.h ?_ | refine ld_ ?_ | refine lda_ ?_ | refine ldi_ ‹_› (by with_unfolding_all rfl) (by with_unfolding_all rfl) ?_ | refine ldi0_ ‹_› (by with_unfolding_all rfl) ?_ | refine ld_ ?_ (by with_unfolding_all rfl))
          refine bld_ (v := .agg #[i64 6, i64 l[i].at_]) (fun W => by kernel_rfl) ?_
          refine stoa_ ?_
          refine out23_4r ?_
          refine rcla_ (vs := [i64 6, i64 l[i].at_]) ?_ rfl rfl
          refine fin_ret (L1 := [(bt, ot), (bn, on)]) fun K hK => ?_
          have := hR K (hJ.trans hK)
          rw [bad (e := 6) (by decide) (by rw [hru, if_pos (by simpa [withinZ] using hwi)])] at this
          exact this
        refine join23_9 ?_
        unfold T23_9
        refine add64 ?_
        exact hN (n - 1) (by omega) ⟨hJ, i + 1, by omega, rfl, rfl, next (by rw [hru, if_neg (by simpa [withinZ] using hwi)])⟩
  unfold B23_4
  refine lss_ ?_
  refine cnd_yes (by omega) ?_
  obtain ⟨b, o, cp, A2, c2, rfl, hr, hc, hb3⟩ := hb2.at hlt
  obtain ⟨ca, rfl⟩ := hc.ptr
  refine iad_ ?_ (by omega) (by omega)
  refine ld_item (by simpa using hr) ?_
  refine alsf_ fun bx J hJ hx => ?_
  (repeat with_reducible first | refine StA.h ‹_› ?_ | refine StB.h ‹_› ?_ | refine StG.h ?_ | refine StY.h ‹_› ?_ | refine StN.h ‹_› ?_ | refine StW.h ?_ | refine ld_ ?_ | refine lda_ ?_ | refine ldi_ ‹_› (by with_unfolding_all rfl) (by with_unfolding_all rfl) ?_ | refine ldi0_ ‹_› (by with_unfolding_all rfl) ?_ | refine ld_ ?_ (by with_unfolding_all rfl))
  refine cnd_ (fun h0 => ?_) (fun h0 => ?_)
  · refine add64 ?_
    exact hN (n - 1) (by omega) ⟨hI2.trans hJ, i + 1, by omega, rfl, rfl, next (by unfold ruleW; rw [if_pos h0])⟩
  (repeat with_reducible first | refine StA.h ‹_› ?_ | refine StB.h ‹_› ?_ | refine StG.h ?_ | refine StY.h ‹_› ?_ | refine StN.h ‹_› ?_ | refine StW.h ?_ | refine ld_ ?_ | refine lda_ ?_ | refine ldi_ ‹_› (by with_unfolding_all rfl) (by with_unfolding_all rfl) ?_ | refine ldi0_ ‹_› (by with_unfolding_all rfl) ?_ | refine ld_ ?_ (by with_unfolding_all rfl))
  refine cal_ro (L1 := []) (which_ro (hb2.up hJ) _ (by omega)) ?_
  (repeat with_reducible first | refine StA.h ‹_› ?_ | refine StB.h ‹_› ?_ | refine StG.h ?_ | refine StY.h ‹_› ?_ | refine StN.h ‹_› ?_ | refine StW.h ?_ | refine ld_ ?_ | refine lda_ ?_ | refine ldi_ ‹_› (by with_unfolding_all rfl) (by with_unfolding_all rfl) ?_ | refine ldi0_ ‹_› (by with_unfolding_all rfl) ?_ | refine ld_ ?_ (by with_unfolding_all rfl))
  refine cnd_ (fun h3 => ?_) (fun h3 => ?_)
  · (repeat with_reducible first | refine StA.h ‹_› ?_ | refine StB.h ‹_› ?_ | refine StG.h ?_ | refine StY.h ‹_› ?_ | refine StN.h ‹_› ?_ | refine StW.h ?_ | refine ld_ ?_ | refine lda_ ?_ | refine ldi_ ‹_› (by with_unfolding_all rfl) (by with_unfolding_all rfl) ?_ | refine ldi0_ ‹_› (by with_unfolding_all rfl) ?_ | refine ld_ ?_ (by with_unfolding_all rfl))
    refine cal_ro (L1 := []) (which_ro (hb2.up hJ) _ (by omega)) ?_
    exact join23_7 (j7 (hI2.trans hJ) hx h0 (by rw [if_pos h3]))
  · exact join23_7 (j7 (hI2.trans hJ) hx h0 (by rw [if_neg h3]))
end Go.Proofs.YtkclodaplbalfaaDoor
