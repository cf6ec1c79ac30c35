/- What is wrong first with a block's rules: the program's. Conditions: none. -/
import Derived.Test.YtkclodaplbalfaaDoorRnd
import Derived.Test.YtkclodaplbalfaaDoorThr
set_option linter.unusedVariables false
set_option linter.unusedSimpArgs false
set_option maxRecDepth 100000
set_option maxHeartbeats 2000000
namespace Go.Proofs.YtkclodaplbalfaaDoor
open Go Sl
theorem ruleW_found {l : List It} {i : Nat} {x : It} (h : (ruleW l i x).1 = 0) (h3 : x.rule = 3) : 0 ≤ whichZ l x.first := by
  unfold ruleW at h
  rw [if_neg (by rw [h3]; decide)] at h
  simp only at h
  by_cases ha : whichZ l x.first < 0
  · rw [if_pos (.inl ha)] at h
    simp at h
  · omega
theorem rules_thr {I : Imm} {w : Value} {A : Option Addr} {c : Nat} {l : List It} (h : BlkR I A c l) (hl : l.length ≤ 16) : ThrowC 33 #[w, .slice A l.length c] I [] (rulesW l) (fun _ L => L = []) := by
  refine .of (go33 ?_)
  unfold M33
  refine vlen_ ?_
  refine loop33_0 (n := l.length) (fun n x I' L => I.Le I' ∧ ∃ i : Nat, n + i = l.length ∧ x = i64 i ∧ L = [] ∧ (∀ j, j < i → (rulF l j).1 = 0) ∧ firstF l.length 0 (rulF l) = firstF (l.length - i) i (rulF l)) ⟨.refl _, 0, rfl, rfl, rfl, fun j hj => by omega, rfl⟩ ?_
  rintro n x I2 L2 hle ⟨hI2, i, hi, rfl, rfl, hbef, hf⟩ N hN u
  have hb := h.up hI2
  by_cases hlt : i < l.length
  case neg =>
    unfold B33_0
    refine lss_ ?_
    refine cnd_no (by omega) ?_
    refine out33_0x0 (join33_2 ?_)
    unfold T33_2
    have e0 : l.length - i = 0 := by omega
    rw [e0] at hf
    have hrw : rulesW l = firstF l.length 0 (cycF l) := by
      rw [rulesW_eq, hf]
      rfl
    have hfound : ∀ i (hi : i < l.length), l[i].rule = 3 → 0 ≤ whichZ l l[i].first := fun j hj h3 => by
      have := hbef j (by omega)
      rw [rulF_at hj] at this
      exact ruleW_found this h3
    refine vlen_ ?_
    refine loop33_5 (n := l.length) (fun n x I' L => I.Le I' ∧ ∃ i : Nat, n + i = l.length ∧ x = i64 i ∧ L = [] ∧ firstF l.length 0 (cycF l) = firstF (l.length - i) i (cycF l)) ⟨hI2, 0, rfl, rfl, rfl, rfl⟩ ?_
    rintro n x I3 L3 hle3 ⟨hI3, i, hi, rfl, rfl, hf⟩ N hN u
    have hb3 := h.up hI3
    unfold B33_5
    refine lss_ ?_
    by_cases hlt : i < l.length
    · refine cnd_yes (by omega) ?_
      obtain ⟨b, o, cp, A2, c2, rfl, hr, hcp, hb4⟩ := hb3.at hlt
      refine iad_ ?_ (by omega) (by omega)
      simp only [Int.toNat_natCast]
      rw [firstF_at hlt, cycF_at hlt] at hf
      have next : ¬ (l[i].rule = 3 ∧ Reach l i i) → firstF l.length 0 (cycF l) = firstF (l.length - (i + 1)) (i + 1) (cycF l) := fun h => by
        rw [hf, cycW_no h, if_neg (by simp [okF])]
      by_cases h3 : l[i].rule = 3
      · (repeat with_reducible first | refine StA.h ‹_› ?_ | refine StB.h ‹_› ?_ | refine StG.h ?_ | refine StY.h ‹_› ?_ | refine StN.h ‹_› ?_ | refine StW.h ?_ | refine ld_ ?_ | refine lda_ ?_ | refine ldi_ ‹_› (by with_unfolding_all rfl) (by with_unfolding_all rfl) ?_ | refine ldi0_ ‹_› (by with_unfolding_all rfl) ?_ | refine ld_ ?_ (by with_unfolding_all rfl))
        refine cal_keep (L1 := []) (round_ret (by omega) i l.length (by omega) hb3 i hlt) fun v J hJ hv => ?_
        subst hv
        have hr2 := hr.up hJ
        have hiff := round_iff hlt hfound h3
        cases hrb : roundB l i l.length i
        · (repeat with_reducible first | refine StA.h ‹_› ?_ | refine StB.h ‹_› ?_ | refine StG.h ?_ | refine StY.h ‹_› ?_ | refine StN.h ‹_› ?_ | refine StW.h ?_ | refine ld_ ?_ | refine lda_ ?_ | refine ldi_ ‹_› (by with_unfolding_all rfl) (by with_unfolding_all rfl) ?_ | refine ldi0_ ‹_› (by with_unfolding_all rfl) ?_ | refine ld_ ?_ (by with_unfolding_all rfl))
          refine add64 ?_
          exact hN (n - 1) (by omega) ⟨hI3.trans hJ, i + 1, by omega, rfl, rfl, next fun h => by rw [hiff.2 h.2] at hrb; cases hrb⟩
        · (repeat with_reducible first | refine StA.h ‹_› ?_ | refine StB.h ‹_› ?_ | refine StG.h ?_ | refine StY.h ‹_› ?_ | refine StN.h ‹_› ?_ | refine StW.h ?_ | refine ld_ ?_ | refine lda_ ?_ | refine ldi_ ‹_› (by with_unfolding_all rfl) (by with_unfolding_all rfl) ?_ | refine ldi0_ ‹_› (by with_unfolding_all rfl) ?_ | refine ld_ ?_ (by with_unfolding_all rfl))
          refine iad_ ?_ (by omega) (by omega)
          simp only [Int.toNat_natCast]
          (repeat with_reducible first | refine StA.h ‹_› ?_ | refine StB.h ‹_› ?_ | refine StG.h ?_ | refine StY.h ‹_› ?_ | refine StN.h ‹_› ?_ | refine StW.h ?_ | refine ld_ ?_ | refine lda_ ?_ | refine ldi_ ‹_› (by with_unfolding_all rfl) (by with_unfolding_all rfl) ?_ | refine ldi0_ ‹_› (by with_unfolding_all rfl) ?_ | refine ld_ ?_ (by with_unfolding_all rfl))
          refine cal_fail (by decide) fun J b hJ hr => fin_bad (g := (11, l[i].at_)) ?_ (by simp) hr
          rw [hrw, hf, cycW_yes ⟨h3, hiff.1 hrb⟩, if_pos (by simp)]
      · (repeat with_reducible first | refine StA.h ‹_› ?_ | refine StB.h ‹_› ?_ | refine StG.h ?_ | refine StY.h ‹_› ?_ | refine StN.h ‹_› ?_ | refine StW.h ?_ | refine ld_ ?_ | refine lda_ ?_ | refine ldi_ ‹_› (by with_unfolding_all rfl) (by with_unfolding_all rfl) ?_ | refine ldi0_ ‹_› (by with_unfolding_all rfl) ?_ | refine ld_ ?_ (by with_unfolding_all rfl))
        refine add64 ?_
        exact hN (n - 1) (by omega) ⟨hI3, i + 1, by omega, rfl, rfl, next fun h => h3 h.1⟩
    · refine cnd_no (by omega) ?_
      refine out33_5x3 ?_
      have e : l.length - i = 0 := by omega
      rw [e] at hf
      exact fin_ok (L1 := []) (by rw [hrw, hf]; rfl) fun K hK => rfl
  rw [firstF_at hlt] at hf
  have bad : ∀ {e : Int}, e ≠ 0 → rulF l i = (e, l[i].at_) → rulesW l = (e, l[i].at_) := fun {e} he h => by
    have : firstF l.length 0 (rulF l) = (e, l[i].at_) := by rw [hf, h, if_pos he]
    rw [rulesW_eq, this, if_pos he]
  have next : (rulF l i).1 = 0 → (∀ j, j < i + 1 → (rulF l j).1 = 0) ∧ firstF l.length 0 (rulF l) = firstF (l.length - (i + 1)) (i + 1) (rulF l) := fun h =>
    ⟨fun j hj => by
      by_cases hji : j = i
      · rw [hji]; exact h
      · exact hbef j (by omega), by rw [hf, if_neg (by simpa using h)]⟩
  obtain ⟨b, o, cp, A2, c2, rfl, hr, hcp, hb4⟩ := hb.at hlt
  have hwa := whichZ_lt l l[i].first
  rw [rulF_at hlt] at bad next
  have j3 : ∀ {zz : Env} {J : Imm}, I2.Le J → (ruleW l i l[i]).1 = 0 → T33_3 (Fin (ThrR (rulesW l) fun _ L => L = [])) N (Q33_0 (Fin (ThrR (rulesW l) fun _ L => L = []))) zz (.slice (some ⟨b, o, none⟩) l.length c) (i64 l.length) (i64 i) J [] := by
    intros
    rename_i J hJ h0
    unfold T33_3
    refine add64 ?_
    exact hN (n - 1) (by omega) ⟨hI2.trans hJ, i + 1, by omega, rfl, rfl, (next h0).1, (next h0).2⟩
  have j1 : ∀ {zz : Env} {J : Imm} {b0 : Int}, I2.Le J → l[i].rule ≠ 0 → b0 = (if l[i].rule = 3 then whichZ l l[i].last else whichZ l l[i].first) → T33_1 (Fin (ThrR (rulesW l) fun _ L => L = [])) N (Q33_0 (Fin (ThrR (rulesW l) fun _ L => L = []))) zz (.slice (some ⟨b, o, none⟩) l.length c) (i64 i) (ptr b (o + i * 13)) (i64 (whichZ l l[i].first)) (i64 b0) (i64 l.length) (i64 i) J [] := by
    intros
    rename_i J b0 hJ h0 hb0
    have hrJ := hr.up hJ
    have hbJ := hb.up hJ
    have hru : ruleW l i l[i] = if whichZ l l[i].first < 0 ∨ b0 < 0 then (7, l[i].at_)
        else if (l[i].rule = 2 ∧ (l[(whichZ l l[i].first).toNat]?.map (·.many)).getD false = false) ∨ (l[i].rule = 3 ∧ (l[i].width ≠ 4 ∨ l[i].signed = true)) then (13, l[i].at_)
        else if b0 < whichZ l l[i].first then (10, l[i].at_)
        else if whichZ l l[i].first ≤ i ∧ (i : Int) ≤ b0 then (6, l[i].at_)
        else okF := by
      unfold ruleW
      rw [if_neg h0, hb0]
    unfold T33_1
    by_cases ha : whichZ l l[i].first < 0
    · (repeat with_reducible first | refine StA.h ‹_› ?_ | refine StB.h ‹_› ?_ | refine StG.h ?_ | refine StY.h ‹_› ?_ | refine StN.h ‹_› ?_ | refine StW.h ?_ | refine ld_ ?_ | refine lda_ ?_ | refine ldi_ ‹_› (by with_unfolding_all rfl) (by with_unfolding_all rfl) ?_ | refine ldi0_ ‹_› (by with_unfolding_all rfl) ?_ | refine ld_ ?_ (by with_unfolding_all rfl))
      exact cal_fail (by decide) fun J b hJ hr => fin_bad (g := (7, l[i].at_)) (bad (by decide) (by rw [hru, if_pos (.inl ha)])) (by simp) hr
    by_cases hb00 : b0 < 0
    · (repeat with_reducible first | refine StA.h ‹_› ?_ | refine StB.h ‹_› ?_ | refine StG.h ?_ | refine StY.h ‹_› ?_ | refine StN.h ‹_› ?_ | refine StW.h ?_ | refine ld_ ?_ | refine lda_ ?_ | refine ldi_ ‹_› (by with_unfolding_all rfl) (by with_unfolding_all rfl) ?_ | refine ldi0_ ‹_› (by with_unfolding_all rfl) ?_ | refine ld_ ?_ (by with_unfolding_all rfl))
      exact cal_fail (by decide) fun J b hJ hr => fin_bad (g := (7, l[i].at_)) (bad (by decide) (by rw [hru, if_pos (.inr hb00)])) (by simp) hr
    rw [if_neg (by omega)] at hru
    have j4 : ∀ {zz : Env} {q : Bool}, (q = true ↔ ((l[i].rule = 2 ∧ (l[(whichZ l l[i].first).toNat]?.map (·.many)).getD false = false) ∨ (l[i].rule = 3 ∧ (l[i].width ≠ 4 ∨ l[i].signed = true)))) → T33_4 (Fin (ThrR (rulesW l) fun _ L => L = [])) N (Q33_0 (Fin (ThrR (rulesW l) fun _ L => L = []))) zz (.slice (some ⟨b, o, none⟩) l.length c) (i64 i) (ptr b (o + i * 13)) (i64 (whichZ l l[i].first)) (i64 b0) (i64 l.length) (i64 i) (.bool q) J [] := by
      intros
      rename_i q hq
      unfold T33_4
      cases q
      · have hn : ¬ ((l[i].rule = 2 ∧ (l[(whichZ l l[i].first).toNat]?.map (·.many)).getD false = false) ∨ (l[i].rule = 3 ∧ (l[i].width ≠ 4 ∨ l[i].signed = true))) := fun h => by
          have := hq.2 h
          cases this
        rw [if_neg hn] at hru
        by_cases hba : b0 < whichZ l l[i].first
        · (repeat with_reducible first | refine StA.h ‹_› ?_ | refine StB.h ‹_› ?_ | refine StG.h ?_ | refine StY.h ‹_› ?_ | refine StN.h ‹_› ?_ | refine StW.h ?_ | refine ld_ ?_ | refine lda_ ?_ | refine ldi_ ‹_› (by with_unfolding_all rfl) (by with_unfolding_all rfl) ?_ | refine ldi0_ ‹_› (by with_unfolding_all rfl) ?_ | refine ld_ ?_ (by with_unfolding_all rfl))
          exact cal_fail (by decide) fun J b hJ hr => fin_bad (g := (10, l[i].at_)) (bad (by decide) (by rw [hru, if_pos hba])) (by simp) hr
        rw [if_neg hba] at hru
        by_cases hai : whichZ l l[i].first ≤ i
        · by_cases hib : (i : Int) ≤ b0
          · (repeat with_reducible first | refine StA.h ‹_› ?_ | refine StB.h ‹_› ?_ | refine StG.h ?_ | refine StY.h ‹_› ?_ | refine StN.h ‹_› ?_ | refine StW.h ?_ | refine ld_ ?_ | refine lda_ ?_ | refine ldi_ ‹_› (by with_unfolding_all rfl) (by with_unfolding_all rfl) ?_ | refine ldi0_ ‹_› (by with_unfolding_all rfl) ?_ | refine ld_ ?_ (by with_unfolding_all rfl))
            exact cal_fail (by decide) fun J b hJ hr => fin_bad (g := (6, l[i].at_)) (bad (by decide) (by rw [hru, if_pos ⟨hai, hib⟩])) (by simp) hr
          · (repeat with_reducible first | refine StA.h ‹_› ?_ | refine StB.h ‹_› ?_ | refine StG.h ?_ | refine StY.h ‹_› ?_ | refine StN.h ‹_› ?_ | refine StW.h ?_ | refine ld_ ?_ | refine lda_ ?_ | refine ldi_ ‹_› (by with_unfolding_all rfl) (by with_unfolding_all rfl) ?_ | refine ldi0_ ‹_› (by with_unfolding_all rfl) ?_ | refine ld_ ?_ (by with_unfolding_all rfl))
            exact join33_3 (j3 hJ (by rw [hru, if_neg (fun h => hib h.2)]; rfl))
        · (repeat with_reducible first | refine StA.h ‹_› ?_ | refine StB.h ‹_› ?_ | refine StG.h ?_ | refine StY.h ‹_› ?_ | refine StN.h ‹_› ?_ | refine StW.h ?_ | refine ld_ ?_ | refine lda_ ?_ | refine ldi_ ‹_› (by with_unfolding_all rfl) (by with_unfolding_all rfl) ?_ | refine ldi0_ ‹_› (by with_unfolding_all rfl) ?_ | refine ld_ ?_ (by with_unfolding_all rfl))
          exact join33_3 (j3 hJ (by rw [hru, if_neg (fun h => hai h.1)]; rfl))
      · (repeat with_reducible first | refine StA.h ‹_› ?_ | refine StB.h ‹_› ?_ | refine StG.h ?_ | refine StY.h ‹_› ?_ | refine StN.h ‹_› ?_ | refine StW.h ?_ | refine ld_ ?_ | refine lda_ ?_ | refine ldi_ ‹_› (by with_unfolding_all rfl) (by with_unfolding_all rfl) ?_ | refine ldi0_ ‹_› (by with_unfolding_all rfl) ?_ | refine ld_ ?_ (by with_unfolding_all rfl))
        exact cal_fail (by decide) fun J b hJ hr => fin_bad (g := (13, l[i].at_)) (bad (by decide) (by rw [hru, if_pos (hq.1 rfl)])) (by simp) hr
    have hlta : (whichZ l l[i].first).toNat < l.length := by omega
    by_cases h2 : l[i].rule = 2
    · have h3 : ¬ l[i].rule = 3 := by omega
      (repeat with_reducible first | refine StA.h ‹_› ?_ | refine StB.h ‹_› ?_ | refine StG.h ?_ | refine StY.h ‹_› ?_ | refine StN.h ‹_› ?_ | refine StW.h ?_ | refine ld_ ?_ | refine lda_ ?_ | refine ldi_ ‹_› (by with_unfolding_all rfl) (by with_unfolding_all rfl) ?_ | refine ldi0_ ‹_› (by with_unfolding_all rfl) ?_ | refine ld_ ?_ (by with_unfolding_all rfl))
      obtain ⟨b', o', cp2, A5, c5, he, hra, _, _⟩ := hbJ.at hlta
      simp only [Option.some.injEq, Addr.mk.injEq] at he
      obtain ⟨rfl, rfl, _⟩ := he
      refine iad_ ?_ (by omega) (by omega)
      (repeat with_reducible first | refine StA.h ‹_› ?_ | refine StB.h ‹_› ?_ | refine StG.h ?_ | refine StY.h ‹_› ?_ | refine StN.h ‹_› ?_ | refine StW.h ?_ | refine ld_ ?_ | refine lda_ ?_ | refine ldi_ ‹_› (by with_unfolding_all rfl) (by with_unfolding_all rfl) ?_ | refine ldi0_ ‹_› (by with_unfolding_all rfl) ?_ | refine ld_ ?_ (by with_unfolding_all rfl))
      have hm : (l[(whichZ l l[i].first).toNat]?.map (·.many)).getD false = l[(whichZ l l[i].first).toNat].many := by rw [List.getElem?_eq_getElem hlta]; rfl
      cases hmn : l[(whichZ l l[i].first).toNat].many
      · (repeat with_reducible first | refine StA.h ‹_› ?_ | refine StB.h ‹_› ?_ | refine StG.h ?_ | refine StY.h ‹_› ?_ | refine StN.h ‹_› ?_ | refine StW.h ?_ | refine ld_ ?_ | refine lda_ ?_ | refine ldi_ ‹_› (by with_unfolding_all rfl) (by with_unfolding_all rfl) ?_ | refine ldi0_ ‹_› (by with_unfolding_all rfl) ?_ | refine ld_ ?_ (by with_unfolding_all rfl))
        exact join33_4 (j4 (q := true) (by simp [hm, hmn, h2]))
      · refine cndf_ ?_
        clear hra
        (repeat with_reducible first | refine StA.h ‹_› ?_ | refine StB.h ‹_› ?_ | refine StG.h ?_ | refine StY.h ‹_› ?_ | refine StN.h ‹_› ?_ | refine StW.h ?_ | refine ld_ ?_ | refine lda_ ?_ | refine ldi_ ‹_› (by with_unfolding_all rfl) (by with_unfolding_all rfl) ?_ | refine ldi0_ ‹_› (by with_unfolding_all rfl) ?_ | refine ld_ ?_ (by with_unfolding_all rfl))
        exact join33_4 (j4 (q := false) (by simp [hm, hmn, h2]))
    · by_cases h3 : l[i].rule = 3
      · by_cases hw : l[i].width ≠ 4
        · (repeat with_reducible first | refine StA.h ‹_› ?_ | refine StB.h ‹_› ?_ | refine StG.h ?_ | refine StY.h ‹_› ?_ | refine StN.h ‹_› ?_ | refine StW.h ?_ | refine ld_ ?_ | refine lda_ ?_ | refine ldi_ ‹_› (by with_unfolding_all rfl) (by with_unfolding_all rfl) ?_ | refine ldi0_ ‹_› (by with_unfolding_all rfl) ?_ | refine ld_ ?_ (by with_unfolding_all rfl))
          exact join33_4 (j4 (q := true) (by simp [h3, hw]))
        · (repeat with_reducible first | refine StA.h ‹_› ?_ | refine StB.h ‹_› ?_ | refine StG.h ?_ | refine StY.h ‹_› ?_ | refine StN.h ‹_› ?_ | refine StW.h ?_ | refine ld_ ?_ | refine lda_ ?_ | refine ldi_ ‹_› (by with_unfolding_all rfl) (by with_unfolding_all rfl) ?_ | refine ldi0_ ‹_› (by with_unfolding_all rfl) ?_ | refine ld_ ?_ (by with_unfolding_all rfl))
          exact join33_4 (j4 (q := l[i].signed) (by simp at hw; simp [h3, hw]))
      · (repeat with_reducible first | refine StA.h ‹_› ?_ | refine StB.h ‹_› ?_ | refine StG.h ?_ | refine StY.h ‹_› ?_ | refine StN.h ‹_› ?_ | refine StW.h ?_ | refine ld_ ?_ | refine lda_ ?_ | refine ldi_ ‹_› (by with_unfolding_all rfl) (by with_unfolding_all rfl) ?_ | refine ldi0_ ‹_› (by with_unfolding_all rfl) ?_ | refine ld_ ?_ (by with_unfolding_all rfl))
        exact join33_4 (j4 (q := false) (by simp [h2, h3]))
  unfold B33_0
  refine lss_ ?_
  refine cnd_yes (by omega) ?_
  refine iad_ ?_ (by omega) (by omega)
  simp only [Int.toNat_natCast]
  by_cases h0 : l[i].rule = 0
  · (repeat with_reducible first | refine StA.h ‹_› ?_ | refine StB.h ‹_› ?_ | refine StG.h ?_ | refine StY.h ‹_› ?_ | refine StN.h ‹_› ?_ | refine StW.h ?_ | refine ld_ ?_ | refine lda_ ?_ | refine ldi_ ‹_› (by with_unfolding_all rfl) (by with_unfolding_all rfl) ?_ | refine ldi0_ ‹_› (by with_unfolding_all rfl) ?_ | refine ld_ ?_ (by with_unfolding_all rfl))
    refine add64 ?_
    have h00 : (ruleW l i l[i]).1 = 0 := by unfold ruleW; rw [if_pos h0]; rfl
    exact hN (n - 1) (by omega) ⟨hI2, i + 1, by omega, rfl, rfl, (next h00).1, (next h00).2⟩
  (repeat with_reducible first | refine StA.h ‹_› ?_ | refine StB.h ‹_› ?_ | refine StG.h ?_ | refine StY.h ‹_› ?_ | refine StN.h ‹_› ?_ | refine StW.h ?_ | refine ld_ ?_ | refine lda_ ?_ | refine ldi_ ‹_› (by with_unfolding_all rfl) (by with_unfolding_all rfl) ?_ | refine ldi0_ ‹_› (by with_unfolding_all rfl) ?_ | refine ld_ ?_ (by with_unfolding_all rfl))
  refine cal_keep (L1 := []) (find_ret hb (by omega) _) fun v J hJ hv => ?_
  subst hv
  have hr2 := hr.up hJ
  by_cases h3 : l[i].rule = 3
  · (repeat with_reducible first | refine StA.h ‹_› ?_ | refine StB.h ‹_› ?_ | refine StG.h ?_ | refine StY.h ‹_› ?_ | refine StN.h ‹_› ?_ | refine StW.h ?_ | refine ld_ ?_ | refine lda_ ?_ | refine ldi_ ‹_› (by with_unfolding_all rfl) (by with_unfolding_all rfl) ?_ | refine ldi0_ ‹_› (by with_unfolding_all rfl) ?_ | refine ld_ ?_ (by with_unfolding_all rfl))
    refine cal_keep (L1 := []) (find_ret (hb.up hJ) (by omega) _) fun v J2 hJ2 hv => ?_
    subst hv
    exact join33_1 (j1 (hJ.trans hJ2) h0 (by rw [if_pos h3]))
  · (repeat with_reducible first | refine StA.h ‹_› ?_ | refine StB.h ‹_› ?_ | refine StG.h ?_ | refine StY.h ‹_› ?_ | refine StN.h ‹_› ?_ | refine StW.h ?_ | refine ld_ ?_ | refine lda_ ?_ | refine ldi_ ‹_› (by with_unfolding_all rfl) (by with_unfolding_all rfl) ?_ | refine ldi0_ ‹_› (by with_unfolding_all rfl) ?_ | refine ld_ ?_ (by with_unfolding_all rfl))
    exact join33_1 (j1 hJ h0 (by rw [if_neg h3]))
end Go.Proofs.YtkclodaplbalfaaDoor
