/- What an expression asks for. Conditions: none. -/
import Derived.Test.YtkclodaplbalfaaDoorCom
set_option linter.unusedVariables false
set_option linter.unusedSimpArgs false
set_option maxRecDepth 100000
namespace Go.Proofs.YtkclodaplbalfaaDoor
open Go Sl
theorem Sl.RSl.some {I : Imm} {A : Option Addr} {vs : List Value} (h : RSl I A vs) {j : Nat} (hj : j < vs.length) : ∃ b o, A = .some ⟨b, o, none⟩ ∧ RdAt I b o vs := by
  rcases h with rfl | h
  · exact absurd hj (by simp)
  · exact h
def strC (l : List Nm) : List Value := l.map fun s => S s
theorem strC_length (l : List Nm) : (strC l).length = l.length * 1 := by simp [strC]
theorem strC_get {l : List Nm} {i : Nat} (hi : i < l.length) : (strC l)[i]? = some (S l[i]) := by simp [strC, hi]
theorem strC_plain (l : List Nm) : ∀ u ∈ strC l, plainV u = true := by
  intro u hu
  obtain ⟨k, _, rfl⟩ := List.mem_map.1 hu
  rfl
theorem strC_append (l m : List Nm) : strC (l ++ m) = strC l ++ strC m := by simp [strC]
theorem asksW_at {seen : List Nm} {x : Ex} {i : Nat} (hi : i < x.names.length) (h : ∀ j (hj : j < i), (x.names[j]'(by omega)).2 ∈ seen) (hn : x.names[i].2 ∉ seen) : asksW seen x = (5, x.names[i].1) := by
  unfold asksW
  have : x.names.find? (fun n => decide (n.2 ∉ seen)) = some x.names[i] := by
    rw [List.find?_eq_some_iff_getElem]
    exact ⟨by simpa using hn, i, hi, rfl, fun j hj => by simpa using h j hj⟩
  rw [this]
theorem asksW_ok {seen : List Nm} {x : Ex} (h : ∀ j (hj : j < x.names.length), x.names[j].2 ∈ seen) : asksW seen x = okF := by
  unfold asksW
  have : x.names.find? (fun n => decide (n.2 ∉ seen)) = none := by
    rw [List.find?_eq_none]
    intro n hn
    obtain ⟨j, hj, rfl⟩ := List.getElem_of_mem hn
    simpa using h j hj
  rw [this]
theorem mem_take_succ {l : List Nm} {j : Nat} (hj : j < l.length) (a : Nm) : a ∈ l.take (j + 1) ↔ a ∈ l.take j ∨ l[j] = a := by
  rw [List.take_succ_eq_append_getElem hj, List.mem_append, List.mem_singleton]
  exact ⟨fun h => h.imp id Eq.symm, fun h => h.imp id Eq.symm⟩
def fltV (f : Flt) : Value := .agg #[i64 f.1, i64 f.2]
theorem asks_ret {I : Imm} {x : Ex} {v : Value} {seen : List Nm} {As : Option Addr} {cs bs : Nat} (hx : ExR I x v) (hn : x.names.length ≤ 100000000) (hs : RSl I As (strC seen)) (hsl : seen.length ≤ 100000000) :
    RetC Tryd.prog 34 #[v, ptr bs 0] I [(bs, .cells #[.slice As seen.length cs] 57)] (fun w J L => w = fltV (asksW seen x) ∧ L = [(bs, .cells #[.slice As seen.length cs] 57)]) := by
  refine .of (go34 ?_)
  unfold M34
  refine al_ fun b3 => ?_
  refine cal_ret (L1 := []) (names_ret x hx hn) fun v1 I1 L1 hI1 ⟨vs, hv, ho⟩ => ?_
  refine len_freeze L1 fun J hJ hz => ?_
  obtain ⟨A, c, rfl, hA, hc⟩ := osl_rsl ho hz
  refine vlen_ ?_
  refine loop34_0 (n := x.names.length) (fun n x12 I L => ∃ i : Nat, n + i = x.names.length ∧ x12 = i64 i ∧ RSl I A vs ∧ NmsR I x.names vs ∧ RSl I As (strC seen) ∧ (∀ j (hj : j < i) (h : j < x.names.length), x.names[j].2 ∈ seen) ∧ L = [(b3, .cells #[i64 0, i64 0] 26), (bs, .cells #[.slice As seen.length cs] 57)])
    ⟨0, rfl, rfl, hA, hv.up hJ, hs.up (hI1.trans hJ), fun j hj => absurd hj (by omega), rfl⟩ ?_
  rintro n x12 I2 L2 hle ⟨i, hi, rfl, hA2, hv2, hs2, hbef, rfl⟩ N hN u
  unfold B34_0
  refine lss_ ?_
  by_cases hlt : i < x.names.length
  · refine cnd_yes (by omega) ?_
    obtain ⟨w, hw, bn, rfl, hrn⟩ := hv2.at hlt
    have hvl := hv2.length
    obtain ⟨bA, oA, rfl, hrA⟩ := hA2.some (j := i) (by omega)
    refine iad_ ?_ (by omega) (by omega)
    refine ldi_ (j := i) hrA (by simp) hw ?_
    refine ld_ ?_
    refine vlen_ ?_
    refine loop34_1 (n := seen.length) (fun n x6 x18 J L => ∃ j : Nat, n + j = seen.length ∧ x18 = i64 j ∧ x6 = .bool (decide (x.names[i].2 ∈ seen.take j)) ∧ I2.Le J ∧ L = [(b3, .cells #[i64 0, i64 0] 26), (bs, .cells #[.slice As seen.length cs] 57)])
      ⟨0, by omega, rfl, by simp, .refl _, rfl⟩ ?_
    rintro m x6 x18 I3 L3 hle3 ⟨j, hj, rfl, rfl, hI3, rfl⟩ N' hN' u'
    have hs3 := hs2.up hI3
    have hrn3 := hrn.up hI3
    unfold B34_1
    refine lss_ ?_
    by_cases hlj : j < seen.length
    · refine cnd_yes (by omega) ?_
      obtain ⟨bS, oS, rfl, hrS⟩ := hs3.some (j := j) (by simpa [strC] using hlj)
      refine iad_ ?_ (by omega) (by omega)
      refine ldi_ (j := j) hrS (by simp) (strC_get hlj) ?_
      by_cases hf : x.names[i].2 ∈ seen.take j
      · (repeat with_reducible first | refine StG.h ?_ | refine StY.h ‹_› ?_ | refine StN.h ‹_› ?_ | refine StW.h ?_ | refine ld_ ?_ | refine lda_ ?_)
        refine add64 ?_
        exact hN' (m - 1) (by omega) ⟨j + 1, by omega, rfl, by simp [mem_take_succ hlj, hf], hI3, rfl⟩
      · (repeat with_reducible first | refine StG.h ?_ | refine StY.h ‹_› ?_ | refine StN.h ‹_› ?_ | refine StW.h ?_ | refine ld_ ?_ | refine lda_ ?_)
        refine ldi_ (j := 3) hrn3 (by simp) rfl ?_
        (repeat with_reducible first | refine StG.h ?_ | refine StY.h ‹_› ?_ | refine StN.h ‹_› ?_ | refine StW.h ?_ | refine ld_ ?_ | refine lda_ ?_)
        refine add64 ?_
        exact hN' (m - 1) (by omega) ⟨j + 1, by omega, rfl, by simp [mem_take_succ hlj, hf], hI3, rfl⟩
    · refine cnd_no (by omega) ?_
      refine out34_1x2 (join34_3 ?_)
      unfold T34_3
      have e : seen.take j = seen := List.take_of_length_le (by omega)
      rw [e]
      refine not_ (cnd_ (fun hns => ?_) (fun hns => ?_))
      · (repeat with_reducible first | refine StG.h ?_ | refine StY.h ‹_› ?_ | refine StN.h ‹_› ?_ | refine StW.h ?_ | refine ld_ ?_ | refine lda_ ?_)
        refine ldi_ (j := 1) hrn3 (by simp) rfl ?_
        refine bld_ (v := .agg #[i64 5, i64 x.names[i].1]) (fun W => by kernel_rfl) ?_
        refine stoa_ ?_
        refine out34_0r ?_
        refine rcla_ (vs := [i64 5, i64 x.names[i].1]) ?_ rfl rfl
        refine fin_ret (L1 := [(bs, .cells #[.slice As seen.length cs] 57)]) fun K hK => ⟨?_, rfl⟩
        rw [asksW_at hlt (fun j hj => hbef j hj (by omega)) hns]
        rfl
      · refine join34_4 ?_
        unfold T34_4
        refine add64 ?_
        refine hN (n - 1) (by omega) ⟨i + 1, by omega, rfl, hA2.up hI3, hv2.up hI3, hs3, fun j hj h => ?_, rfl⟩
        by_cases hji : j = i
        · subst hji
          simpa using hns
        · exact hbef j (by omega) h
  · refine cnd_no (by omega) ?_
    refine out34_0x0 (join34_2 ?_)
    unfold T34_2
    refine cal_pure good_pure ?_
    refine stoa_ ?_
    refine rcla_ (vs := [i64 0, i64 (-1)]) ?_ rfl rfl
    refine fin_ret (L1 := [(bs, .cells #[.slice As seen.length cs] 57)]) fun K hK => ⟨?_, rfl⟩
    rw [asksW_ok fun j hj => hbef j (by omega) hj]
    rfl
end Go.Proofs.YtkclodaplbalfaaDoor
