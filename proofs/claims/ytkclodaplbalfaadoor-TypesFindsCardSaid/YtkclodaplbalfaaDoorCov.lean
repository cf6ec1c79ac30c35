/- Blocks of items: over which checks a check's sum is taken. Conditions: none. -/
import Derived.Test.YtkclodaplbalfaaDoorBlk
set_option linter.unusedVariables false
set_option linter.unusedSimpArgs false
set_option maxRecDepth 100000
namespace Go.Proofs.YtkclodaplbalfaaDoor
open Go Sl
theorem whichZ_lt (l : List It) (nm : List UInt8) : -1 ≤ whichZ l nm ∧ whichZ l nm < l.length := by
  unfold whichZ
  cases h : l.findIdx? (fun x => decide (x.kind ≠ 4) && decide (x.name = nm)) with
  | none => simp only; omega
  | some i =>
    have := (List.findIdx?_eq_some_iff_getElem.1 h).1
    simp only
    omega
/-- Is k one of those over which i's sum is taken? -/
def covB (l : List It) (i k : Nat) : Bool :=
  match l[i]?, l[k]? with
  | some x, some y => decide (0 ≤ whichZ l x.first) && decide (whichZ l x.first ≤ k) && decide ((k : Int) ≤ whichZ l x.last) && decide (y.rule = 3)
  | _, _ => false
def covL (l : List It) (i : Nat) : List Nat := (List.range l.length).filter (covB l i)
def intsC (l : List Nat) : List Value := l.map fun k : Nat => i64 (k : Int)
theorem intsC_append (l m : List Nat) : intsC (l ++ m) = intsC l ++ intsC m := by simp [intsC]
theorem intsC_length (l : List Nat) : (intsC l).length = l.length * 1 := by simp [intsC]
theorem intsC_plain (l : List Nat) : ∀ u ∈ intsC l, plainV u = true := by
  intro u hu
  obtain ⟨k, _, rfl⟩ := List.mem_map.1 hu
  rfl
/-- A row of numbers, lying for good. -/
def IntsR (v : Value) (I : Imm) (l : List Nat) : Prop := ∃ A c, v = .slice A l.length c ∧ RSl I A (intsC l) ∧ l.length ≤ c
theorem covL_take (l : List It) (i : Nat) (k : Nat) (hk : k < l.length) : ((List.range (k + 1)).filter (covB l i)) = (List.range k).filter (covB l i) ++ (if covB l i k then [k] else []) := by
  rw [List.range_succ, List.filter_append]
  congr 1
  cases h : covB l i k <;> simp [h]
theorem filt_ext (p : Nat → Bool) (k : Nat) : ∀ m, k ≤ m → (∀ j, k ≤ j → j < m → p j = false) → (List.range m).filter p = (List.range k).filter p
  | 0, h, _ => by
    have : k = 0 := by omega
    rw [this]
  | m + 1, h, hp => by
    by_cases hk : k = m + 1
    · rw [hk]
    · rw [List.range_succ, List.filter_append, filt_ext p k m (by omega) (fun j h1 h2 => hp j h1 (by omega))]
      simp [hp m (by omega) (by omega)]
theorem covers_ret {I : Imm} {A : Option Addr} {c : Nat} {l : List It} (h : BlkR I A c l) (hl : l.length ≤ 1000000) (i : Nat) (hi : i < l.length) :
    RetC Tryd.prog 52 #[.slice A l.length c, i64 i] I [] (fun v J L => OSl 3 1 v (covL l i).length (intsC (covL l i)) L) := by
  refine .of (go52 ?_)
  unfold M52
  obtain ⟨b, o, cp, A2, c2, rfl, hr, hc, hb2⟩ := h.at hi
  refine iad_ ?_ (by omega) (by omega)
  refine fad_ ?_
  refine ldi_ (j := 10) hr (by simp) rfl ?_
  refine cal_ro (L1 := []) (which_ro h _ hl) ?_
  have hw1 := whichZ_lt l l[i].first
  have hw2 := whichZ_lt l l[i].last
  have hcov : ∀ k (hk : k < l.length), covB l i k = (decide (0 ≤ whichZ l l[i].first) && decide (whichZ l l[i].first ≤ k) && decide ((k : Int) ≤ whichZ l l[i].last) && decide (l[k].rule = 3)) := fun k hk => by
    unfold covB
    rw [List.getElem?_eq_getElem hi, List.getElem?_eq_getElem hk]
  refine loop52_0 (n := l.length + 2) (fun n x5 x6 I L => ∃ (k : Int) (lst : List Nat), (n : Int) + k = l.length + 2 + whichZ l l[i].first ∧ x6 = i64 k ∧ BlkR I (some ⟨b, o, none⟩) c l ∧ OSl 3 1 x5 lst.length (intsC lst) L ∧ lst.length ≤ l.length ∧
      ((whichZ l l[i].first < 0 ∧ k = whichZ l l[i].first ∧ lst = []) ∨ (0 ≤ whichZ l l[i].first ∧ whichZ l l[i].first ≤ k ∧ k ≤ l.length ∧ lst = (List.range k.toNat).filter (covB l i)))) ?_ ?_
  · refine ⟨whichZ l l[i].first, [], by omega, rfl, h, .nil, by simp, ?_⟩
    by_cases h0 : whichZ l l[i].first < 0
    · exact .inl ⟨h0, rfl, rfl⟩
    · refine .inr ⟨by omega, by omega, by omega, ?_⟩
      symm
      rw [List.filter_eq_nil_iff]
      intro k hk
      have hk1 := List.mem_range.1 hk
      rw [hcov k (by omega)]
      have : ¬ whichZ l l[i].first ≤ k := by omega
      simp [this]
  rintro n x5 x6 I2 L2 hle ⟨k, lst, hn, rfl, hb, ho, hll, hst⟩ N hN u
  have out : (Fin fun e I' L' => ∃ v, e = .returned v ∧ OSl 3 1 v lst.length (intsC lst) L') (.returned x5) I2 L2 := fin_ret (L1 := L2) fun J hJ => ho
  unfold B52_0
  refine geq_ ?_
  by_cases hk0 : 0 ≤ k
  · obtain ⟨hf0, hfk, hkl, hlst⟩ : 0 ≤ whichZ l l[i].first ∧ whichZ l l[i].first ≤ k ∧ k ≤ l.length ∧ lst = (List.range k.toNat).filter (covB l i) := by
      rcases hst with ⟨h1, h2, _⟩ | h
      · omega
      · exact h
    (repeat with_reducible first | refine StG.h ?_ | refine StY.h ‹_› ?_ | refine StN.h ‹_› ?_ | refine StW.h ?_ | refine ld_ ?_ | refine lda_ ?_)
    obtain ⟨b2, o2, cp2, A3, c3, he, hr2, hc2, hb3⟩ := hb.at hi
    obtain ⟨rfl, rfl⟩ : b2 = b ∧ o2 = o := by simpa using he.symm
    refine iad_ ?_ (by omega) (by omega)
    (repeat with_reducible first | refine StG.h ?_ | refine StY.h ‹_› ?_ | refine StN.h ‹_› ?_ | refine StW.h ?_ | refine ld_ ?_ | refine lda_ ?_)
    refine ldi_ (j := 11) hr2 (by simp) rfl ?_
    (repeat with_reducible first | refine StG.h ?_ | refine StY.h ‹_› ?_ | refine StN.h ‹_› ?_ | refine StW.h ?_ | refine ld_ ?_ | refine lda_ ?_)
    refine cal_ro (L1 := []) (which_ro hb _ hl) ?_
    (repeat with_reducible first | refine StG.h ?_ | refine StY.h ‹_› ?_ | refine StN.h ‹_› ?_ | refine StW.h ?_ | refine ld_ ?_ | refine lda_ ?_)
    refine cnd_ (fun hkg => ?_) (fun hkg => ?_)
    · have hkn : k.toNat < l.length := by omega
      obtain ⟨b3, o3, cp3, A4, c4, he3, hr3, hc3, hb4⟩ := hb.at hkn
      obtain ⟨rfl, rfl⟩ : b3 = b2 ∧ o3 = o2 := by simpa using he3.symm
      refine iad_ ?_ (by omega) (by omega)
      refine fad_ ?_
      refine ldi_ (j := 9) hr3 (by simp) rfl ?_
      have hck : covB l i k.toNat = decide (l[k.toNat].rule = 3) := by
        rw [hcov _ hkn]
        have h1 : whichZ l l[i].first ≤ (k.toNat : Int) := by omega
        have h2 : (k.toNat : Int) ≤ whichZ l l[i].last := by omega
        simp only [hf0, h1, h2, decide_true, Bool.true_and]
      have hnext : ∀ lst', lst' = lst ++ (if covB l i k.toNat then [k.toNat] else []) → lst' = (List.range (k + 1).toNat).filter (covB l i) := fun lst' e => by
        have e2 : (k + 1).toNat = k.toNat + 1 := by omega
        rw [e, e2, covL_take l i _ hkn, hlst]
      refine eqi_ (cnd_ (fun hr => ?_) (fun hr => ?_))
      · refine bslf_ (cells := #[i64 k]) (by kernel_rfl) fun b5 J hJ hr5 => ?_
        refine app_ ho (m := 1) (.imm hr5) (by rfl) (by simp [plainV]) (fun v' L1' ho' _ => ?_) (by omega) (by omega)
        refine add64 ?_
        have hlen : lst.length + 1 ≤ l.length := by
          have h1 : (lst ++ [k.toNat]).length ≤ (List.range (k + 1).toNat).length := by
            rw [hnext (lst ++ [k.toNat]) (by rw [hck]; simp [hr])]
            exact List.length_filter_le ..
          simp at h1
          omega
        refine hN (n - 1) (by omega) ⟨k + 1, lst ++ [k.toNat], by omega, rfl, hb.up hJ, ?_, by simpa using hlen, .inr ⟨hf0, by omega, by omega, hnext _ (by rw [hck]; simp [hr])⟩⟩
        have e3 : intsC lst ++ (#[i64 k] : Array Value).toList = intsC (lst ++ [k.toNat]) := by
          rw [intsC_append]
          have : ((k.toNat : Nat) : Int) = k := by omega
          simp [intsC, this]
        rw [e3] at ho'
        simpa using ho'
      · refine add64 ?_
        exact hN (n - 1) (by omega) ⟨k + 1, lst, by omega, rfl, hb, ho, hll, .inr ⟨hf0, by omega, by omega, hnext _ (by rw [hck]; simp [hr])⟩⟩
    · refine out52_0x0 (join52_1 ?_)
      unfold T52_1
      have e : covL l i = lst := by
        rw [hlst]
        refine filt_ext _ _ _ (by omega) fun j h1 h2 => ?_
        rw [hcov j h2]
        have : ¬ (j : Int) ≤ whichZ l l[i].last := by omega
        simp [this]
      rw [e]
      exact out
  · (repeat with_reducible first | refine StG.h ?_ | refine StY.h ‹_› ?_ | refine StN.h ‹_› ?_ | refine StW.h ?_ | refine ld_ ?_ | refine lda_ ?_)
    refine out52_0x0 (join52_1 ?_)
    unfold T52_1
    have e : covL l i = lst := by
      obtain ⟨h1, h2, h3⟩ : whichZ l l[i].first < 0 ∧ k = whichZ l l[i].first ∧ lst = [] := by
        rcases hst with h | ⟨h1, h2, _⟩
        · exact h
        · omega
      rw [h3]
      refine List.filter_eq_nil_iff.2 fun j hj => ?_
      rw [hcov j (List.mem_range.1 hj)]
      have : ¬ 0 ≤ whichZ l l[i].first := by omega
      simp [this]
    rw [e]
    exact out
end Go.Proofs.YtkclodaplbalfaaDoor
