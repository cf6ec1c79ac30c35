/- In which order rules are done: what finds items. Conditions: none. -/
import Derived.Test.YtkclodaplbalfaaDoorTck
set_option linter.unusedVariables false
set_option linter.unusedSimpArgs false
set_option maxRecDepth 100000
set_option maxHeartbeats 2000000
namespace Go.Proofs.YtkclodaplbalfaaDoor
open Go Sl
/-- The first one of n that has p. -/
def firstN (n : Nat) (p : Nat → Bool) : Int := match (List.range n).find? p with | some i => i | none => -1
theorem firstN_at {n i : Nat} {p : Nat → Bool} (hi : i < n) (hp : p i = true) (h : ∀ j, j < i → p j = false) : firstN n p = i := by
  unfold firstN
  have : (List.range n).find? p = some i := by
    rw [List.find?_eq_some_iff_getElem]
    refine ⟨hp, i, by simpa using hi, by simp, fun j hj => ?_⟩
    simpa using h j hj
  rw [this]
theorem firstN_none {n : Nat} {p : Nat → Bool} (h : ∀ j, j < n → p j = false) : firstN n p = -1 := by
  unfold firstN
  have : (List.range n).find? p = none := by
    rw [List.find?_eq_none]
    intro j hj
    simpa using h j (List.mem_range.1 hj)
  rw [this]
theorem firstN_cases (n : Nat) (p : Nat → Bool) : (firstN n p = -1 ∧ ∀ j, j < n → p j = false) ∨ ∃ i, i < n ∧ firstN n p = (i : Nat) ∧ p i = true ∧ ∀ j, j < i → p j = false := by
  by_cases h : ∃ i, i < n ∧ p i = true
  · obtain ⟨i, hi⟩ := h
    have : ∃ i, (i < n ∧ p i = true) ∧ ∀ j, j < i → ¬ (j < n ∧ p j = true) := by
      induction i using Nat.strongRecOn with
      | _ i ih =>
        by_cases hh : ∃ j, j < i ∧ (j < n ∧ p j = true)
        · obtain ⟨j, hj, h2⟩ := hh
          exact ih j hj h2
        · exact ⟨i, hi, fun j hj hc => hh ⟨j, hj, hc⟩⟩
    obtain ⟨i, ⟨h1, h2⟩, h3⟩ := this
    have h4 : ∀ j, j < i → p j = false := fun j hj => by
      have := h3 j hj
      cases hpj : p j with
      | false => rfl
      | true => exact absurd ⟨by omega, hpj⟩ this
    exact .inr ⟨i, h1, firstN_at h1 h2 h4, h2, h4⟩
  · have h4 : ∀ j, j < n → p j = false := fun j hj => by
      cases hpj : p j with
      | false => rfl
      | true => exact absurd ⟨j, hj, hpj⟩ h
    exact .inl ⟨firstN_none h4, h4⟩
def named (l : List It) (nm : Nm) (i : Nat) : Bool := match l[i]? with | some x => decide (x.kind ≠ 4) && decide (x.name = nm) | none => false
theorem named_at {l : List It} {nm : Nm} {i : Nat} (hi : i < l.length) : named l nm i = (decide (l[i].kind ≠ 4) && decide (l[i].name = nm)) := by
  unfold named
  rw [List.getElem?_eq_getElem hi]
theorem whichZ_eq (l : List It) (nm : Nm) : whichZ l nm = firstN l.length (named l nm) := by
  unfold whichZ
  cases h : l.findIdx? (fun x => decide (x.kind ≠ 4) && decide (x.name = nm)) with
  | none =>
    rw [List.findIdx?_eq_none_iff] at h
    exact (firstN_none fun j hj => by rw [named_at hj]; exact h _ (List.getElem_mem hj)).symm
  | some i =>
    rw [List.findIdx?_eq_some_iff_getElem] at h
    obtain ⟨hi, h1, h2⟩ := h
    refine (firstN_at hi (by rw [named_at hi]; exact h1) fun j hj => ?_).symm
    rw [named_at (by omega)]
    simpa using h2 j hj
theorem indexFunc_ret {I : Imm} {A : Option Addr} {c : Nat} {l : List It} (h : BlkR I A c l) (hl : l.length ≤ 1000000) {f : Nat} {cap : Array Value} {L1 : Own} (p : Nat → Bool) [hc : HasCode Tryd.prog f]
    (hp : ∀ (i : Nat) (hi : i < l.length) (J : Imm) (cp : Value) (A2 : Option Addr) (c2 : Nat), I.Le J → BlkR J A c l → ExR J l[i].count cp → RetC Tryd.prog f ((#[] ++ #[.agg (itL l[i] cp A2 c2).toArray]) ++ cap) J L1 (fun v K L' => v = .bool (p i) ∧ L' = L1)) :
    RetC Tryd.prog 63 #[.slice A l.length c, .func (.func f) #[] cap] I L1 (fun v K L' => v = i64 (firstN l.length p) ∧ L' = L1) := by
  refine .of (go63 ?_)
  unfold M63
  refine vlen_ ?_
  refine loop63_0 (n := l.length) (fun n x8 J L => ∃ i : Nat, n + i = l.length ∧ x8 = i64 i ∧ I.Le J ∧ (∀ j, j < i → p j = false) ∧ L = L1) ⟨0, by omega, rfl, .refl _, fun j hj => by omega, rfl⟩ ?_
  rintro n x8 I2 L2 hle ⟨i, hi, rfl, hI2, hno, rfl⟩ N hN u
  unfold B63_0
  refine lss_ ?_
  by_cases hlt : i < l.length
  · refine cnd_yes (by omega) ?_
    have hb := h.up hI2
    obtain ⟨b, o, cp, A2, c2, rfl, hr, hcp, hb2⟩ := hb.at hlt
    refine iad_ ?_ (by omega) (by omega)
    refine ld_item (by simpa using hr) ?_
    show cal Tryd.prog f ((#[] ++ #[_]) ++ cap) _ _ _ _
    refine cal_keep (L1 := L2) (hp i hlt I2 cp A2 c2 hI2 hb hcp) fun v J hJ hv => ?_
    subst hv
    refine cndb_ (fun hpt => ?_) (fun hpf => ?_)
    · refine out63_0r ?_
      refine fin_ret (L1 := L2) fun K hK => ⟨by rw [firstN_at hlt hpt hno], rfl⟩
    · refine add64 ?_
      exact hN (n - 1) (by omega) ⟨i + 1, by omega, rfl, hI2.trans hJ, fun j hj => by
        by_cases hji : j = i
        · rw [hji]; exact hpf
        · exact hno j (by omega), rfl⟩
  · refine cnd_no (by omega) ?_
    refine out63_0x0 (join63_1 ?_)
    unfold T63_1
    refine fin_ret (L1 := L2) fun K hK => ⟨by rw [firstN_none fun j hj => hno j (by omega)], rfl⟩
theorem find_ret {I : Imm} {A : Option Addr} {c : Nat} {l : List It} (h : BlkR I A c l) (hl : l.length ≤ 1000000) (nm : Nm) :
    RetC Tryd.prog 50 #[.slice A l.length c, S nm] I [] (fun v K L' => v = i64 (whichZ l nm) ∧ L' = []) := by
  refine .of (go50 ?_)
  unfold M50
  refine bxf_ fun b3 J hJ hb3 => ?_
  have hr3 : RdAt J b3 0 [S nm] := RdAt.of hb3 rfl
  refine cal_keep (L1 := []) (indexFunc_ret (h.up hJ) hl (named l nm) fun i hi K cp A2 c2 hK hbk hcp => ?_) fun v K hK hv => ?_
  · show RetC Tryd.prog 64 #[_, ptr b3 0] K [] _
    refine .of (go64 ?_)
    unfold M64
    obtain ⟨ca, rfl⟩ := hcp.ptr
    refine bxf_ fun b2 K2 hK2 hb2 => ?_
    have hr2 : RdAt K2 b2 0 (itL l[i] (.pointer ca) A2 c2) := RdAt.of hb2 rfl
    have hr3' := (hr3.up hK).up hK2
    rw [named_at hi]
    by_cases hk : l[i].kind ≠ 4
    · (repeat with_reducible first | refine StA.h ‹_› ?_ | refine StB.h ‹_› ?_ | refine StG.h ?_ | refine StY.h ‹_› ?_ | refine StN.h ‹_› ?_ | refine StW.h ?_ | refine ld_ ?_ | refine lda_ ?_ | refine ldi_ ‹_› (by with_unfolding_all rfl) (by with_unfolding_all rfl) ?_ | refine ldi0_ ‹_› (by with_unfolding_all rfl) ?_ | refine ld_ ?_ (by with_unfolding_all rfl))
      exact fin_ret (L1 := []) fun _ _ => ⟨by simp [hk], rfl⟩
    · (repeat with_reducible first | refine StA.h ‹_› ?_ | refine StB.h ‹_› ?_ | refine StG.h ?_ | refine StY.h ‹_› ?_ | refine StN.h ‹_› ?_ | refine StW.h ?_ | refine ld_ ?_ | refine lda_ ?_ | refine ldi_ ‹_› (by with_unfolding_all rfl) (by with_unfolding_all rfl) ?_ | refine ldi0_ ‹_› (by with_unfolding_all rfl) ?_ | refine ld_ ?_ (by with_unfolding_all rfl))
      exact fin_ret (L1 := []) fun _ _ => ⟨by simp [hk], rfl⟩
  · subst hv
    exact fin_ret (L1 := []) fun _ _ => ⟨by rw [whichZ_eq], rfl⟩
end Go.Proofs.YtkclodaplbalfaaDoor
