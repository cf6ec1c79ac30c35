/- Digits and numbers: what is read. Conditions: none. -/
import Derived.Test.YtkclodaplbalfaaDoorNum
set_option linter.unusedVariables false
set_option linter.unusedSimpArgs false
set_option maxRecDepth 100000
namespace Go.Proofs.YtkclodaplbalfaaDoor
open Go Sl
def tabL : List (List UInt8) := [[48], [49], [50], [51], [52], [53], [54], [55], [56], [57], [97, 65], [98, 66], [99, 67], [100, 68], [101, 69], [102, 70]]
def digitZ (c : UInt8) : Int := match tabL.findIdx? (fun s => s.contains c) with | some i => i | none => -1
theorem digitZ_le (c : UInt8) : -1 ≤ digitZ c ∧ digitZ c < 16 := by
  unfold digitZ
  cases h : tabL.findIdx? (fun s => s.contains c) with
  | none => simp
  | some i =>
    have := (List.findIdx?_eq_some_iff_getElem.1 h).1
    have e : tabL.length = 16 := rfl
    simp only
    omega
theorem digit_pure (c : UInt8) : PureC Tryd.prog 78 #[u8 c.toNat] (i64 (digitZ c)) := by
  intro I
  refine go78 ?_
  unfold M78
  refine bsl_ (cells := (tabL.map S).toArray) (by kernel_rfl) (fun b => ?_)
  refine vlen_ ?_
  refine loop78_0 (n := 16) (fun n x8 I L => ∃ i : Nat, n + i = 16 ∧ x8 = i64 i ∧ L = [(b, .cells (tabL.map S).toArray 9)] ∧ ∀ j < i, (tabL.getD j []).contains c = false) ⟨0, rfl, rfl, rfl, fun j hj => by omega⟩ ?_
  rintro n x8 I' L' hle ⟨i, hi, rfl, rfl, hno⟩ N' hN' u
  unfold B78_0
  refine lss_ ?_
  by_cases hlt : i < 16
  · refine cnd_yes (by omega) ?_
    refine iad_ ?_ (by omega) (by omega)
    have hs : (tabL.map S).toArray.toList[0 + (i : Int).toNat * 1]? = some (S (tabL.getD i [])) := by
      have : i < tabL.length := hlt
      simp [List.getD_eq_getElem?_getD, List.getElem?_eq_getElem this]
    refine ld_ ?_ hs
    generalize hst : tabL.getD i [] = st at *
    have hsl : st.length ≤ 2 := by
      rw [← hst]
      have : ∀ i < 16, (tabL.getD i []).length ≤ 2 := by decide
      exact this i hlt
    refine loop78_1 (n := st.length) (fun n x5 I L => ∃ j : Nat, n + j = st.length ∧ x5 = i64 j ∧ L = [(b, .cells (tabL.map S).toArray 9)] ∧ (st.take j).contains c = false) ⟨0, by simp, rfl, rfl, by simp⟩ ?_
    rintro n2 x5 I2 L2 hle2 ⟨j, hj, rfl, rfl, hnj⟩ N2 hN2 u2
    unfold B78_1
    refine slen_ (lss_ ?_)
    by_cases hjl : j < st.length
    · refine cnd_yes (by omega) ?_
      refine sidx_ ?_ (by omega) (by omega)
      refine eqi_ ?_
      have hx : st.getD (j : Int).toNat 0 = st[j] := by simp [List.getD_eq_getElem?_getD, hjl]
      by_cases he : st[j] = c
      · refine cnd_yes (by rw [hx, he]) ?_
        refine out78_1r ?_
        refine out78_0r ?_
        have hf : tabL.findIdx? (fun s => s.contains c) = some i := by
          rw [List.findIdx?_eq_some_iff_getElem]
          refine ⟨hlt, ?_, fun k hk => ?_⟩
          · have e2 : tabL[i] = st := by
              rw [← hst]
              have : i < tabL.length := hlt
              rw [List.getD_eq_getElem?_getD, List.getElem?_eq_getElem this]
              rfl
            rw [e2]
            simp only [List.contains_iff_mem]
            exact he ▸ List.getElem_mem hjl
          · have := hno k hk
            have hk2 : k < tabL.length := by have : i < tabL.length := hlt; omega
            simpa [List.getD_eq_getElem?_getD, List.getElem?_eq_getElem hk2] using this
        exact ret_i64 (by unfold digitZ; rw [hf])
      · refine cnd_no (fun h => he (by
          rw [hx] at h
          exact UInt8.toNat_inj.1 (by omega))) ?_
        refine add64 ?_
        refine hN2 (n2 - 1) (by omega) ⟨j + 1, by omega, rfl, rfl, ?_⟩
        rw [List.take_succ_eq_append_getElem hjl]
        have hne : ¬ c = st[j] := fun e => he e.symm
        have h1 : ¬ c ∈ st.take j := by simpa using hnj
        have h2 : ¬ c ∈ st.take j ++ [st[j]] := by
          rw [List.mem_append]
          rintro (h | h)
          · exact h1 h
          · exact hne (by simpa using h)
        rw [List.contains_eq_mem]
        exact decide_eq_false h2
    · refine cnd_no (by omega) ?_
      refine out78_1x2 (join78_3 ?_)
      unfold T78_3
      refine add64 ?_
      refine hN' (n - 1) (by omega) ⟨i + 1, by omega, rfl, rfl, fun k hk => ?_⟩
      by_cases hki : k = i
      · subst hki
        rw [hst]
        rw [List.take_of_length_le (by omega)] at hnj
        exact hnj
      · exact hno k (by omega)
  · refine cnd_no (by omega) ?_
    refine out78_0x0 (join78_2 ?_)
    unfold T78_2
    have hf : tabL.findIdx? (fun s => s.contains c) = none := by
      rw [List.findIdx?_eq_none_iff]
      intro s hs
      obtain ⟨k, hk, rfl⟩ := List.getElem_of_mem hs
      have e : tabL.length = 16 := rfl
      have := hno k (by omega)
      simpa [List.getD_eq_getElem?_getD, List.getElem?_eq_getElem hk] using this
    exact ret_i64 (by unfold digitZ; rw [hf])
end Go.Proofs.YtkclodaplbalfaaDoor
