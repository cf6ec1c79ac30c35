/- Numbers, as they are told: it comes to an end, with a number or a fault. Conditions: none. -/
import Derived.Test.YtkclodaplbalfaaDoorNum2
set_option linter.unusedVariables false
set_option linter.unusedSimpArgs false
set_option maxRecDepth 100000
namespace Go.Proofs.YtkclodaplbalfaaDoor
namespace Sl
open Go
/-- A function that hands back a value of this kind, whatever the memory. -/
def PureE (P : Program) (f : FuncId) (args : Array Value) (Rv : Value → Prop) : Prop := ∀ I, wpC P f args I [] fun e _ _ => ∃ v, e = .returned v ∧ Rv v
theorem cal_pureE {P : Program} {I : Imm} {L : Own} {k : KV} {X : List PanicEntry → Imm → Own → Prop} {f : FuncId} {args : Array Value} {Rv : Value → Prop} [hc : HasCode P f] (h : PureE P f args Rv) (k' : ∀ v, Rv v → k v I L) : cal P f args I L X k := fun F W hs => by
  rw [run_callFunc]
  refine (h I (L ++ F) W hs).mono fun e W' ⟨I', L', h1, h2, v, h3, h4⟩ => ⟨I, L, .refl I, (h2.drop).weaken h1, ?_⟩
  subst h3
  exact k' v h4
end Sl
open Go Sl
def U64 (n : Int) : Prop := 0 ≤ n ∧ n < 18446744073709551616
theorem dbl_range : ∀ (j : Nat) (v : Int), U64 v → U64 (dbl j v)
  | 0, v, h => h
  | j + 1, v, h => dbl_range j _ (wrap_u64 _)
theorem digitsParse_pure (s : List UInt8) (base : Int) (h0 : 2 ≤ base) (h1 : base ≤ 16) (hs : s.length ≤ 1000000000) : PureE Tryd.prog 76 #[S s, i64 base] fun v => ∃ n e : Int, v = .tuple #[.int .u64 n, i64 e] ∧ U64 n := by
  intro I
  refine go76 ?_
  unfold M76
  refine cal_pure (within_pure _ _ _) ?_
  have hw : withinZ base 2 16 = true := by simp [withinZ]; omega
  rw [hw]
  refine notb_ (cndf_ ?_)
  refine seq_ (cnd_ (fun h => ⟨_, rfl, 0, 3, rfl, by constructor <;> omega⟩) (fun hne => ?_))
  refine loop76_0 (n := s.length) (fun n x6 x7 x8 I L => ∃ (i : Nat) (a b : Int), n + i = s.length ∧ x8 = i64 i ∧ x6 = .int .u64 a ∧ x7 = .int .u64 b ∧ U64 a ∧ U64 b ∧ L = []) ⟨0, 0, 0, by omega, rfl, rfl, rfl, by constructor <;> omega, by constructor <;> omega, rfl⟩ ?_
  rintro n x6 x7 x8 I' L' hle ⟨i, a, b, hi, rfl, rfl, rfl, ha, hb, rfl⟩ N' hN' u
  unfold B76_0
  refine slen_ (lss_ ?_)
  by_cases hlt : i < s.length
  · refine cnd_yes (by omega) ?_
    refine sidx_ ?_ (by omega) (by omega)
    generalize s.getD (i : Int).toNat 0 = c
    refine cal_pure (digit_pure c) ?_
    refine sub64 ?_
    refine cal_pure (within_pure _ _ _) ?_
    refine notb_ (cndb_ (fun hc => ?_) (fun hc => ?_))
    · refine out76_0r ?_
      exact ⟨_, rfl, 0, 3, rfl, by constructor <;> omega⟩
    · have hd : 0 ≤ digitZ c ∧ digitZ c ≤ base - 1 := by
        simpa [withinZ] using hc
      refine cvti_ ?_
      rw [wrap_u64_id (by omega) (by omega)]
      obtain ⟨p, q, hq, hm⟩ := mul64_pure b base hb ⟨by omega, by omega⟩
      refine cal_pure hm ?_
      refine ext_ (ext_ ?_)
      refine cvti_ ?_
      rw [wrap_u64_id (by omega) (by omega)]
      refine add64c_ (by constructor <;> omega) (by constructor <;> omega) fun x y hx => ?_
      refine ext_ (ext_ ?_)
      refine addq_ (gtr_ ?_)
      by_cases hg : (0 : Int) < IntKind.u64.wrap (p + y)
      · (repeat with_reducible first | refine StG.h ?_ | refine StY.h ‹_› ?_ | refine StN.h ‹_› ?_ | refine StW.h ?_ | refine ld_ ?_ | refine lda_ ?_)
        refine add64 ?_
        exact hN' (n - 1) (by omega) ⟨i + 1, 1, x, by omega, rfl, rfl, rfl, by constructor <;> omega, by constructor <;> omega, rfl⟩
      · (repeat with_reducible first | refine StG.h ?_ | refine StY.h ‹_› ?_ | refine StN.h ‹_› ?_ | refine StW.h ?_ | refine ld_ ?_ | refine lda_ ?_)
        by_cases hg2 : (0 : Int) < a
        · (repeat with_reducible first | refine StG.h ?_ | refine StY.h ‹_› ?_ | refine StN.h ‹_› ?_ | refine StW.h ?_ | refine ld_ ?_ | refine lda_ ?_)
          refine add64 ?_
          exact hN' (n - 1) (by omega) ⟨i + 1, 1, x, by omega, rfl, rfl, rfl, by constructor <;> omega, by constructor <;> omega, rfl⟩
        · (repeat with_reducible first | refine StG.h ?_ | refine StY.h ‹_› ?_ | refine StN.h ‹_› ?_ | refine StW.h ?_ | refine ld_ ?_ | refine lda_ ?_)
          refine add64 ?_
          exact hN' (n - 1) (by omega) ⟨i + 1, a, x, by omega, rfl, rfl, rfl, ha, by constructor <;> omega, rfl⟩
  · refine cnd_no (by omega) ?_
    refine out76_0x0 (join76_1 ?_)
    unfold T76_1
    refine gtr_ (cnd_ (fun _ => ⟨_, rfl, 0, 2, rfl, by constructor <;> omega⟩) fun _ => ⟨_, rfl, b, 0, rfl, hb⟩)
theorem number_pure (s : List UInt8) (hs : s.length ≤ 1000000000) : PureE Tryd.prog 70 #[S s] fun v => ∃ n e : Int, v = .tuple #[i64 n, i64 e] := by
  intro I
  refine go70 ?_
  unfold M70
  have three : ∀ (s : List UInt8) (base : Int) (neg : Bool) (hb : base = 10 ∨ base = 16 ∨ base = 2) (hs : s.length ≤ 1000000000) {zz : Env} (I : Imm),
    T70_3 (fun e _ _ => ∃ v, e = .returned v ∧ ∃ n e : Int, v = .tuple #[i64 n, i64 e]) zz (S s) (.bool neg) (i64 base) I [] := by
    intro s base neg hb hs
    intros
    unfold T70_3
    refine cal_pureE (digitsParse_pure s base (by omega) (by omega) hs) ?_
    rintro v ⟨n, e, rfl, hn⟩
    refine ext_ (ext_ (nei_ (cnd_ (fun _ => ⟨_, rfl, 0, e, rfl⟩) fun _ => ?_)))
    have fin : ∀ (I : Imm), cnd (.bool neg) (un Tryd.prog .neg (.int .u64 n) I [] fun x62 I L => cvt Tryd.prog 140 3 x62 I L fun x63 I L => (fun (e : Ending) (_ : Imm) (_ : Own) => ∃ v, e = .returned v ∧ ∃ n e : Int, v = .tuple #[i64 n, i64 e]) (.returned (.tuple #[x63, i64 0])) I L)
        (cvt Tryd.prog 140 3 (.int .u64 n) I [] fun x65 I L => (fun (e : Ending) (_ : Imm) (_ : Own) => ∃ v, e = .returned v ∧ ∃ n e : Int, v = .tuple #[i64 n, i64 e]) (.returned (.tuple #[x65, i64 0])) I L) := by
      intro I
      refine cndb_ (fun _ => negq_ (cvti_ ⟨_, rfl, _, 0, rfl⟩)) (fun _ => cvti_ ⟨_, rfl, _, 0, rfl⟩)
    have hp := pow2_pure 63 (by omega)
    cases neg
    · (repeat with_reducible first | refine StG.h ?_ | refine StY.h ‹_› ?_ | refine StN.h ‹_› ?_ | refine StW.h ?_ | refine ld_ ?_ | refine lda_ ?_)
      refine cal_pure hp ?_
      (repeat with_reducible first | refine StG.h ?_ | refine StY.h ‹_› ?_ | refine StN.h ‹_› ?_ | refine StW.h ?_ | refine ld_ ?_ | refine lda_ ?_)
      by_cases h : dbl 63 1 ≤ n
      · (repeat with_reducible first | refine StG.h ?_ | refine StY.h ‹_› ?_ | refine StN.h ‹_› ?_ | refine StW.h ?_ | refine ld_ ?_ | refine lda_ ?_)
        exact ⟨_, rfl, 0, 2, rfl⟩
      · (repeat with_reducible first | refine StG.h ?_ | refine StY.h ‹_› ?_ | refine StN.h ‹_› ?_ | refine StW.h ?_ | refine ld_ ?_ | refine lda_ ?_)
        refine cal_pure hp ?_
        (repeat with_reducible first | refine StG.h ?_ | refine StY.h ‹_› ?_ | refine StN.h ‹_› ?_ | refine StW.h ?_ | refine ld_ ?_ | refine lda_ ?_)
        refine cnd_ (fun _ => ⟨_, rfl, 0, 2, rfl⟩) fun _ => fin _
    · (repeat with_reducible first | refine StG.h ?_ | refine StY.h ‹_› ?_ | refine StN.h ‹_› ?_ | refine StW.h ?_ | refine ld_ ?_ | refine lda_ ?_)
      refine cal_pure hp ?_
      (repeat with_reducible first | refine StG.h ?_ | refine StY.h ‹_› ?_ | refine StN.h ‹_› ?_ | refine StW.h ?_ | refine ld_ ?_ | refine lda_ ?_)
      refine cnd_ (fun _ => ⟨_, rfl, 0, 2, rfl⟩) fun _ => fin _
  have z : ∀ (s : List UInt8) (neg : Bool) (hs : s.length ≤ 1000000000) {zz : Env} (I : Imm),
    T70_0 (fun e _ _ => ∃ v, e = .returned v ∧ ∃ n e : Int, v = .tuple #[i64 n, i64 e]) zz (S s) (.bool neg) I [] := by
    intro s neg hs
    intros
    unfold T70_0
    refine slen_ (geq_ ?_)
    by_cases h2 : (2 : Int) ≤ s.length
    · (repeat with_reducible first | refine StG.h ?_ | refine StY.h ‹_› ?_ | refine StN.h ‹_› ?_ | refine StW.h ?_ | refine ld_ ?_ | refine lda_ ?_)
      refine sslch_ ?_
      (repeat with_reducible first | refine StG.h ?_ | refine StY.h ‹_› ?_ | refine StN.h ‹_› ?_ | refine StW.h ?_ | refine ld_ ?_ | refine lda_ ?_)
      refine cnd_ (fun _ => ?_) (fun _ => ?_)
      · refine draw70_1 (C := fun _ _ => True) trivial ?_
        unfold G70_1
        refine qS_of (fun I L _ => rd_sslc_l (by omega) (by omega)) ?_
        refine join70_3 (three _ _ _ (.inr (.inl rfl)) (by simp; omega) _)
      · (repeat with_reducible first | refine StG.h ?_ | refine StY.h ‹_› ?_ | refine StN.h ‹_› ?_ | refine StW.h ?_ | refine ld_ ?_ | refine lda_ ?_)
        refine sslch_ ?_
        (repeat with_reducible first | refine StG.h ?_ | refine StY.h ‹_› ?_ | refine StN.h ‹_› ?_ | refine StW.h ?_ | refine ld_ ?_ | refine lda_ ?_)
        refine cnd_ (fun _ => ?_) (fun _ => ?_)
        · refine draw70_2 (C := fun _ _ => True) trivial ?_
          unfold G70_2
          refine qS_of (fun I L _ => rd_sslc_l (by omega) (by omega)) ?_
          refine join70_3 (three _ _ _ (.inr (.inr rfl)) (by simp; omega) _)
        · exact join70_3 (three _ _ _ (.inl rfl) hs _)
    · (repeat with_reducible first | refine StG.h ?_ | refine StY.h ‹_› ?_ | refine StN.h ‹_› ?_ | refine StW.h ?_ | refine ld_ ?_ | refine lda_ ?_)
      exact join70_3 (three _ _ _ (.inl rfl) hs _)
  refine slen_ (gtr_ ?_)
  by_cases h0 : (0 : Int) < s.length
  · (repeat with_reducible first | refine StG.h ?_ | refine StY.h ‹_› ?_ | refine StN.h ‹_› ?_ | refine StW.h ?_ | refine ld_ ?_ | refine lda_ ?_)
    refine sidx_ ?_ (by omega) (by omega)
    (repeat with_reducible first | refine StG.h ?_ | refine StY.h ‹_› ?_ | refine StN.h ‹_› ?_ | refine StW.h ?_ | refine ld_ ?_ | refine lda_ ?_)
    refine cnd_ (fun hd => ?_) (fun hd => ?_)
    · refine sslcl_ ?_
      refine join70_0 ?_
      rw [decide_eq_true hd]
      exact z _ _ (by simp; omega) _
    · refine join70_0 ?_
      rw [decide_eq_false hd]
      exact z _ _ hs _
  · (repeat with_reducible first | refine StG.h ?_ | refine StY.h ‹_› ?_ | refine StN.h ‹_› ?_ | refine StW.h ?_ | refine ld_ ?_ | refine lda_ ?_)
    exact join70_0 (z _ _ hs _)
end Go.Proofs.YtkclodaplbalfaaDoor
