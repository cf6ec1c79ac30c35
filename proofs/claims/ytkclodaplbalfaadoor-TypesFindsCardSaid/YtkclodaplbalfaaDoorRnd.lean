/- From a check to another one, in so many steps. Conditions: none. -/
import Derived.Test.YtkclodaplbalfaaDoorOvr
set_option linter.unusedVariables false
set_option linter.unusedSimpArgs false
set_option maxRecDepth 100000
set_option maxHeartbeats 2000000
namespace Go.Proofs.YtkclodaplbalfaaDoor
open Go Sl
def roundB (l : List It) (to : Nat) : Nat → Nat → Bool
  | 0, _ => false
  | s + 1, a => (List.range l.length).any fun k => overB l a k && (decide (k = to) || (rule3 l k && roundB l to s k))
theorem roundB_succ (l : List It) (to s a : Nat) : roundB l to (s + 1) a = true ↔ ∃ k, k < l.length ∧ overB l a k = true ∧ (k = to ∨ (rule3 l k = true ∧ roundB l to s k = true)) := by
  simp [roundB]
theorem roundB_mono1 (l : List It) (to : Nat) : ∀ (s a : Nat), roundB l to s a = true → roundB l to (s + 1) a = true
  | 0, a, h => by simp [roundB] at h
  | s + 1, a, h => by
    obtain ⟨k, h1, h2, h3⟩ := (roundB_succ l to s a).1 h
    exact (roundB_succ l to (s + 1) a).2 ⟨k, h1, h2, h3.imp id fun h => ⟨h.1, roundB_mono1 l to s k h.2⟩⟩
theorem roundB_mono (l : List It) (to a : Nat) {s t : Nat} (hst : s ≤ t) (h : roundB l to s a = true) : roundB l to t a = true := by
  induction hst with
  | refl => exact h
  | step _ ih => exact roundB_mono1 l to _ a ih
def stableB (l : List It) (to s : Nat) : Prop := ∀ k, k < l.length → roundB l to (s + 1) k = roundB l to s k
theorem stable_up {l : List It} {to s : Nat} (h : stableB l to s) : ∀ m, ∀ k, k < l.length → roundB l to (s + m) k = roundB l to s k
  | 0, k, hk => rfl
  | m + 1, k, hk => by
    rw [← h k hk, Bool.eq_iff_iff]
    show roundB l to ((s + m) + 1) k = true ↔ _
    rw [roundB_succ, roundB_succ]
    constructor
    · exact fun ⟨j, h1, h2, h3⟩ => ⟨j, h1, h2, h3.imp id fun h3 => ⟨h3.1, by rw [← stable_up h m j h1]; exact h3.2⟩⟩
    · exact fun ⟨j, h1, h2, h3⟩ => ⟨j, h1, h2, h3.imp id fun h3 => ⟨h3.1, by rw [stable_up h m j h1]; exact h3.2⟩⟩
theorem countP_lt {p q : Nat → Bool} : ∀ {l : List Nat}, (∀ x ∈ l, p x = true → q x = true) → (∃ x ∈ l, q x = true ∧ p x = false) → l.countP p < l.countP q
  | [], _, ⟨x, hx, _⟩ => by cases hx
  | y :: l, h, ⟨x, hx, h1, h2⟩ => by
    have hm : l.countP p ≤ l.countP q := List.countP_mono_left fun x hx => h x (by simp [hx])
    rcases List.mem_cons.1 hx with rfl | hx
    · simp only [List.countP_cons, h1, h2]
      simp
      omega
    · have := countP_lt (l := l) (fun x hx => h x (by simp [hx])) ⟨x, hx, h1, h2⟩
      have hy := h y (by simp)
      simp only [List.countP_cons]
      cases hp : p y
      · simp; omega
      · simp [hy hp]; omega
theorem stable_or (l : List It) (to : Nat) : ∀ s, (∃ t, t ≤ s ∧ stableB l to t) ∨ s ≤ (List.range l.length).countP (roundB l to s)
  | 0 => .inr (Nat.zero_le _)
  | s + 1 => by
    rcases stable_or l to s with ⟨t, h1, h2⟩ | h
    · exact .inl ⟨t, by omega, h2⟩
    by_cases hs : stableB l to s
    · exact .inl ⟨s, by omega, hs⟩
    · right
      have : ∃ k, k < l.length ∧ roundB l to (s + 1) k = true ∧ roundB l to s k = false := by
        apply Classical.byContradiction
        intro hno
        refine hs fun k hk => ?_
        cases h1 : roundB l to s k
        · cases h2 : roundB l to (s + 1) k
          · rfl
          · exact absurd ⟨k, hk, h2, h1⟩ hno
        · exact roundB_mono1 l to s k h1
      obtain ⟨k, h1, h2, h3⟩ := this
      have := countP_lt (p := roundB l to s) (q := roundB l to (s + 1)) (l := List.range l.length) (fun x _ hx => roundB_mono1 l to s x hx) ⟨k, List.mem_range.2 h1, h2, h3⟩
      omega
theorem stable_n (l : List It) (to : Nat) : ∃ t, t ≤ l.length ∧ stableB l to t := by
  rcases stable_or l to (l.length) with h | h
  · exact h
  · refine ⟨l.length, Nat.le_refl _, fun k hk => ?_⟩
    have h1 : (List.range l.length).countP (roundB l to l.length) = (List.range l.length).length := Nat.le_antisymm List.countP_le_length (by simpa using h)
    have h2 := List.countP_eq_length.1 h1 k (List.mem_range.2 hk)
    rw [h2]
    exact roundB_mono1 l to _ k h2
theorem roundB_n {l : List It} {to m a : Nat} (ha : a < l.length) (h : roundB l to m a = true) : roundB l to l.length a = true := by
  obtain ⟨t, h1, h2⟩ := stable_n l to
  rcases Nat.le_total m t with h3 | h3
  · exact roundB_mono l to a h1 (roundB_mono l to a h3 h)
  · have := stable_up h2 (m - t) a ha
    rw [show t + (m - t) = m by omega, h] at this
    exact roundB_mono l to a h1 this.symm
theorem covB_over {l : List It} {a b : Nat} (h3 : rule3 l a = true) (h : covB l a b = true) : overB l a b = true ∧ rule3 l b = true := by
  have hl := covB_lt h
  unfold covB at h
  unfold rule3 at h3 ⊢
  unfold overB
  rw [List.getElem?_eq_getElem hl.1] at h h3 ⊢
  rw [List.getElem?_eq_getElem hl.2] at h ⊢
  simp only [Bool.and_eq_true, decide_eq_true_eq] at h h3 ⊢
  exact ⟨⟨⟨h3, h.1.1.2⟩, h.1.2⟩, h.2⟩
theorem over_cov {l : List It} {a b : Nat} (hf : ∀ i (hi : i < l.length), l[i].rule = 3 → 0 ≤ whichZ l l[i].first) (hb : b < l.length) (h : overB l a b = true) (h3 : rule3 l b = true) : covB l a b = true := by
  unfold overB at h
  unfold rule3 at h3
  unfold covB
  rw [List.getElem?_eq_getElem hb] at h3 ⊢
  rcases Nat.lt_or_ge a l.length with ha | ha
  · rw [List.getElem?_eq_getElem ha] at h ⊢
    simp only [Bool.and_eq_true, decide_eq_true_eq] at h h3 ⊢
    exact ⟨⟨⟨hf a ha h.1.1, h.1.2⟩, h.2⟩, h3⟩
  · rw [List.getElem?_eq_none ha] at h
    cases h
theorem reach_round {l : List It} {a b : Nat} (h : Reach l a b) : rule3 l a = true → ∃ m, roundB l b m a = true := by
  induction h with
  | one h => exact fun h3 => ⟨1, (roundB_succ l _ 0 _).2 ⟨_, (covB_lt h).2, (covB_over h3 h).1, .inl rfl⟩⟩
  | step h _ ih =>
    intro h3
    obtain ⟨h1, h2⟩ := covB_over h3 h
    obtain ⟨m, hm⟩ := ih h2
    exact ⟨m + 1, (roundB_succ l _ m _).2 ⟨_, (covB_lt h).2, h1, .inr ⟨h2, hm⟩⟩⟩
theorem round_reach {l : List It} {to : Nat} (hf : ∀ i (hi : i < l.length), l[i].rule = 3 → 0 ≤ whichZ l l[i].first) (ht : rule3 l to = true) : ∀ {s a : Nat}, roundB l to s a = true → Reach l a to
  | 0, a, h => by simp [roundB] at h
  | s + 1, a, h => by
    obtain ⟨k, h1, h2, h3⟩ := (roundB_succ l to s a).1 h
    rcases h3 with rfl | ⟨h3, h4⟩
    · exact .one (over_cov hf h1 h2 ht)
    · exact .step (over_cov hf h1 h2 h3) (round_reach hf ht h4)
theorem round_iff {l : List It} {i : Nat} (hi : i < l.length) (hf : ∀ i (hi : i < l.length), l[i].rule = 3 → 0 ≤ whichZ l l[i].first) (h3 : l[i].rule = 3) : roundB l i l.length i = true ↔ Reach l i i := by
  have hr : rule3 l i = true := by rw [rule3_at hi]; simpa using h3
  exact ⟨round_reach hf hr, fun h => (reach_round h hr).elim fun m hm => roundB_n hi hm⟩
theorem round_ret {A : Option Addr} {c : Nat} {l : List It} (hl : l.length ≤ 1000000) (to : Nat) : ∀ (s : Nat) (hs : s ≤ 1000000) {I : Imm}, BlkR I A c l → ∀ (a : Nat) (ha : a < l.length),
    RetC Tryd.prog 51 #[.slice A l.length c, i64 a, i64 to, i64 s] I [] (fun v K L' => v = .bool (roundB l to s a) ∧ L' = []) := by
  intro s
  induction s with
  | zero =>
    intro hs I h a ha
    refine .of (go51 ?_)
    unfold M51
    refine vlen_ ?_
    refine loop51_0 (n := l.length) (fun n x K L => ∃ k : Nat, n + k = l.length ∧ x = i64 k ∧ L = []) ⟨0, rfl, rfl, rfl⟩ ?_
    rintro n x I2 L2 hle ⟨k, hk, rfl, rfl⟩ N hN u
    unfold B51_0
    refine lss_ ?_
    by_cases hlt : k < l.length
    · refine cnd_yes (by omega) ?_
      have h0 : ¬ ((0 : Int) < ((0 : Nat) : Int)) := by decide
      (repeat with_reducible first | refine StG.h ?_ | refine StY.h ‹_› ?_ | refine StN.h ‹_› ?_)
      refine add64 ?_
      exact hN (n - 1) (by omega) ⟨k + 1, by omega, rfl, rfl⟩
    · refine cnd_no (by omega) ?_
      refine out51_0x0 (join51_1 ?_)
      unfold T51_1
      exact fin_ret (L1 := []) fun J hJ => ⟨rfl, rfl⟩
  | succ s ih =>
    intro hs I h a ha
    refine .of (go51 ?_)
    unfold M51
    refine vlen_ ?_
    let p : Nat → Bool := fun k => overB l a k && (decide (k = to) || (rule3 l k && roundB l to s k))
    have e : roundB l to (s + 1) a = (List.range l.length).any p := rfl
    rw [e]
    refine loop51_0 (n := l.length) (fun n x K L => ∃ k : Nat, n + k = l.length ∧ x = i64 k ∧ I.Le K ∧ (∀ j, j < k → p j = false) ∧ L = []) ⟨0, rfl, rfl, .refl _, fun j hj => by omega, rfl⟩ ?_
    rintro n x I2 L2 hle ⟨k, hk, rfl, hI2, hbef, rfl⟩ N hN u
    have hb := h.up hI2
    unfold B51_0
    refine lss_ ?_
    by_cases hlt : k < l.length
    · refine cnd_yes (by omega) ?_
      have hs0 : (0 : Int) < ((s + 1 : Nat) : Int) := by omega
      have next : p k = false → ∀ j, j < k + 1 → p j = false := fun hf j hj => by
        by_cases hjk : j = k
        · rw [hjk]; exact hf
        · exact hbef j (by omega)
      have yes : p k = true → (List.range l.length).any p = true := fun hf => by
        rw [List.any_eq_true]
        exact ⟨k, List.mem_range.2 hlt, hf⟩
      have hp : p k = (overB l a k && (decide (k = to) || (rule3 l k && roundB l to s k))) := rfl
      (repeat with_reducible first | refine StA.h ‹_› ?_ | refine StB.h ‹_› ?_ | refine StG.h ?_ | refine StY.h ‹_› ?_ | refine StN.h ‹_› ?_ | refine StW.h ?_ | refine ld_ ?_ | refine lda_ ?_ | refine ldi_ ‹_› (by with_unfolding_all rfl) (by with_unfolding_all rfl) ?_ | refine ldi0_ ‹_› (by with_unfolding_all rfl) ?_ | refine ld_ ?_ (by with_unfolding_all rfl))
      refine cal_keep (L1 := []) (over_ret hb hl a k ha) fun v J hJ hv => ?_
      subst hv
      cases hov : overB l a k
      · (repeat with_reducible first | refine StA.h ‹_› ?_ | refine StB.h ‹_› ?_ | refine StG.h ?_ | refine StY.h ‹_› ?_ | refine StN.h ‹_› ?_ | refine StW.h ?_ | refine ld_ ?_ | refine lda_ ?_ | refine ldi_ ‹_› (by with_unfolding_all rfl) (by with_unfolding_all rfl) ?_ | refine ldi0_ ‹_› (by with_unfolding_all rfl) ?_ | refine ld_ ?_ (by with_unfolding_all rfl))
        refine add64 ?_
        exact hN (n - 1) (by omega) ⟨k + 1, by omega, rfl, hI2.trans hJ, next (by rw [hp, hov]; rfl), rfl⟩
      (repeat with_reducible first | refine StA.h ‹_› ?_ | refine StB.h ‹_› ?_ | refine StG.h ?_ | refine StY.h ‹_› ?_ | refine StN.h ‹_› ?_ | refine StW.h ?_ | refine ld_ ?_ | refine lda_ ?_ | refine ldi_ ‹_› (by with_unfolding_all rfl) (by with_unfolding_all rfl) ?_ | refine ldi0_ ‹_› (by with_unfolding_all rfl) ?_ | refine ld_ ?_ (by with_unfolding_all rfl))
      by_cases hkt : k = to
      · have hkt' : (k : Int) = (to : Int) := by omega
        (repeat with_reducible first | refine StA.h ‹_› ?_ | refine StB.h ‹_› ?_ | refine StG.h ?_ | refine StY.h ‹_› ?_ | refine StN.h ‹_› ?_ | refine StW.h ?_ | refine ld_ ?_ | refine lda_ ?_ | refine ldi_ ‹_› (by with_unfolding_all rfl) (by with_unfolding_all rfl) ?_ | refine ldi0_ ‹_› (by with_unfolding_all rfl) ?_ | refine ld_ ?_ (by with_unfolding_all rfl))
        refine out51_0r ?_
        exact fin_ret (L1 := []) fun K hK => ⟨by rw [yes (by rw [hp, hov, hkt]; simp)], rfl⟩
      have hkt' : ¬ (k : Int) = (to : Int) := by omega
      (repeat with_reducible first | refine StA.h ‹_› ?_ | refine StB.h ‹_› ?_ | refine StG.h ?_ | refine StY.h ‹_› ?_ | refine StN.h ‹_› ?_ | refine StW.h ?_ | refine ld_ ?_ | refine lda_ ?_ | refine ldi_ ‹_› (by with_unfolding_all rfl) (by with_unfolding_all rfl) ?_ | refine ldi0_ ‹_› (by with_unfolding_all rfl) ?_ | refine ld_ ?_ (by with_unfolding_all rfl))
      have hbJ := hb.up hJ
      obtain ⟨b, o, cp2, A4, c4, he, hr, _, _⟩ := hbJ.at hlt
      obtain rfl := he
      refine iad_ ?_ (by omega) (by omega)
      simp only [Int.toNat_natCast]
      by_cases hr3 : l[k].rule = 3
      · (repeat with_reducible first | refine StA.h ‹_› ?_ | refine StB.h ‹_› ?_ | refine StG.h ?_ | refine StY.h ‹_› ?_ | refine StN.h ‹_› ?_ | refine StW.h ?_ | refine ld_ ?_ | refine lda_ ?_ | refine ldi_ ‹_› (by with_unfolding_all rfl) (by with_unfolding_all rfl) ?_ | refine ldi0_ ‹_› (by with_unfolding_all rfl) ?_ | refine ld_ ?_ (by with_unfolding_all rfl))
        refine sub64 ?_
        have es : ((s + 1 : Nat) : Int) - 1 = (s : Int) := by omega
        rw [es]
        (repeat with_reducible first | refine StA.h ‹_› ?_ | refine StB.h ‹_› ?_ | refine StG.h ?_ | refine StY.h ‹_› ?_ | refine StN.h ‹_› ?_ | refine StW.h ?_ | refine ld_ ?_ | refine lda_ ?_ | refine ldi_ ‹_› (by with_unfolding_all rfl) (by with_unfolding_all rfl) ?_ | refine ldi0_ ‹_› (by with_unfolding_all rfl) ?_ | refine ld_ ?_ (by with_unfolding_all rfl))
        refine cal_keep (L1 := []) (ih (by omega) hbJ k hlt) fun v J2 hJ2 hv => ?_
        subst hv
        have hpk : p k = roundB l to s k := by rw [hp, hov, rule3_at hlt]; simp [hkt, hr3]
        cases hrb : roundB l to s k
        · (repeat with_reducible first | refine StA.h ‹_› ?_ | refine StB.h ‹_› ?_ | refine StG.h ?_ | refine StY.h ‹_› ?_ | refine StN.h ‹_› ?_ | refine StW.h ?_ | refine ld_ ?_ | refine lda_ ?_ | refine ldi_ ‹_› (by with_unfolding_all rfl) (by with_unfolding_all rfl) ?_ | refine ldi0_ ‹_› (by with_unfolding_all rfl) ?_ | refine ld_ ?_ (by with_unfolding_all rfl))
          refine add64 ?_
          exact hN (n - 1) (by omega) ⟨k + 1, by omega, rfl, hI2.trans (hJ.trans hJ2), next (by rw [hpk, hrb]), rfl⟩
        · (repeat with_reducible first | refine StA.h ‹_› ?_ | refine StB.h ‹_› ?_ | refine StG.h ?_ | refine StY.h ‹_› ?_ | refine StN.h ‹_› ?_ | refine StW.h ?_ | refine ld_ ?_ | refine lda_ ?_ | refine ldi_ ‹_› (by with_unfolding_all rfl) (by with_unfolding_all rfl) ?_ | refine ldi0_ ‹_› (by with_unfolding_all rfl) ?_ | refine ld_ ?_ (by with_unfolding_all rfl))
          refine out51_0r ?_
          exact fin_ret (L1 := []) fun K hK => ⟨by rw [yes (by rw [hpk, hrb])], rfl⟩
      · (repeat with_reducible first | refine StA.h ‹_› ?_ | refine StB.h ‹_› ?_ | refine StG.h ?_ | refine StY.h ‹_› ?_ | refine StN.h ‹_› ?_ | refine StW.h ?_ | refine ld_ ?_ | refine lda_ ?_ | refine ldi_ ‹_› (by with_unfolding_all rfl) (by with_unfolding_all rfl) ?_ | refine ldi0_ ‹_› (by with_unfolding_all rfl) ?_ | refine ld_ ?_ (by with_unfolding_all rfl))
        refine add64 ?_
        exact hN (n - 1) (by omega) ⟨k + 1, by omega, rfl, hI2.trans hJ, next (by rw [hp, hov, rule3_at hlt]; simp [hkt, hr3]), rfl⟩
    · refine cnd_no (by omega) ?_
      refine out51_0x0 (join51_1 ?_)
      unfold T51_1
      refine fin_ret (L1 := []) fun J hJ => ⟨?_, rfl⟩
      have : (List.range l.length).any p = false := by
        rw [List.any_eq_false]
        intro j hj
        simp [hbef j (by have := List.mem_range.1 hj; omega)]
      rw [this]
end Go.Proofs.YtkclodaplbalfaaDoor
