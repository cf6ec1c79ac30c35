/- The tokens of a text. Conditions: none. -/
import Derived.Test.YtkclodaplbalfaaDoorNum3
set_option linter.unusedVariables false
set_option linter.unusedSimpArgs false
set_option maxRecDepth 100000
namespace Go.Proofs.YtkclodaplbalfaaDoor
open Go Sl

theorem good_pure : PureC Tryd.prog 18 #[] (.agg #[i64 0, i64 (-1)]) := by
  intro I
  refine go18 ?_
  unfold M18
  refine al_ fun b => ?_
  refine bld_ (v := .agg #[i64 0, i64 (-1)]) (fun W => by kernel_rfl) ?_
  refine stoa_ (rcla_ ?_)
  rfl
theorem tokC_append (l m : List Tok) : tokC (l ++ m) = tokC l ++ tokC m := by simp [tokC]
/-- What Lex holds on its way. -/
structure LexSt (s : List UInt8) (v : Value) (l : List Tok) (L1 : Own) (w i d : Int) : Prop where
  o : OSl 66 2 v l.length (tokC l) L1
  t : ∀ t ∈ l, t.s.length ≤ s.length
  n : (l.length : Int) ≤ 2 * i + d
  w0 : -1 ≤ w
  w1 : w ≤ i
  i0 : 0 ≤ i
theorem LexSt.two {s : List UInt8} {v : Value} {l : List Tok} {L1 : Own} {w i d : Int} (h : LexSt s v l L1 w i d) : LexSt s v l L1 w i (d + 1) := ⟨h.o, h.t, by have := h.n; omega, h.w0, h.w1, h.i0⟩
def LexR (s : List UInt8) (v : Value) (J : Imm) (L : Own) : Prop := ∃ A c l e at_, v = .tuple #[.slice A (l : List Tok).length c, .agg #[i64 e, i64 at_]] ∧ RSl J A (tokC l) ∧ l.length ≤ c ∧ (∀ t ∈ l, t.s.length ≤ s.length) ∧ l.length ≤ 2 * s.length + 4 ∧ L = []
theorem osl_rsl {J : Imm} {e sz n : Nat} {v : Value} {xs : List Value} {L1 : Own} (h : OSl e sz v n xs L1) (hz : ∀ p ∈ L1, J.mem p.1 = some p.2) : ∃ A c, v = .slice A n c ∧ RSl J A xs ∧ n ≤ c := by
  obtain ⟨hl, ⟨rfl, rfl, rfl⟩ | ⟨g, o, cap, cur, rfl, rfl, hn, hs, hx⟩⟩ := h
  · exact ⟨none, 0, rfl, .inl (List.eq_nil_of_length_eq_zero (by simpa using hl)), Nat.le_refl _⟩
  · exact ⟨_, cap, rfl, .inr ⟨g, o, rfl, cur, e, (0, 0), hz (g, .cells cur e (0, 0)) (by simp), by rw [hl]; exact hx⟩, hn⟩

theorem lex_ret {I : Imm} (hM : MaxL I) (s : List UInt8) (hs : s.length ≤ 1000000000) : RetC Tryd.prog 24 #[S s] I [] (LexR s) := by
  refine .of (go24 ?_)
  unfold M24
  refine al_ fun b => ?_
  refine slen_ (gtr_ (cnd_ (fun h => ?_) (fun h => ?_)))
  · refine bld_ (v := .agg #[i64 4, i64 (-1)]) (fun W => by kernel_rfl) ?_
    refine stoa_ ?_
    refine rcla_ ?_
    exact fin_ret (L1 := []) fun J _ => ⟨none, 0, [], _, _, rfl, .inl rfl, Nat.le_refl _, by simp, by simp, rfl⟩
  refine loop24_0 (n := s.length + 1) (fun n x4 x5 x6 x7 I L => MaxL I ∧ ∃ (l : List Tok) (L1 : Own) (w i : Int) (rem : Bool), LexSt s x4 l L1 w i 0 ∧ (n : Int) + i = s.length + 1 ∧ x5 = i64 w ∧ x6 = .bool rem ∧ x7 = i64 i ∧ L = L1 ++ [(b, .cells #[i64 0, i64 0] 26)])
    ⟨hM, [], [], -1, 0, false, ⟨.nil, by simp, by simp, by omega, by omega, by omega⟩, by omega, rfl, rfl, rfl, rfl⟩ ?_
  rintro n x4 x5 x6 x7 I' L' hle ⟨hM', l, L1, w, i, rem, hst, hn, rfl, rfl, rfl, rfl⟩ N hN u
  -- the round's end
  have j4 : ∀ {zz : Env} {I : Imm} {x4 : Value} {l : List Tok} {L1 : Own} {w j : Int} {rem : Bool}, MaxL I → LexSt s x4 l L1 w j 2 → i ≤ j → j ≤ s.length →
      T24_4 (Fin fun e I' L' => ∃ v, e = .returned v ∧ LexR s v I' L') N (Q24_0 (Fin fun e I' L' => ∃ v, e = .returned v ∧ LexR s v I' L')) zz (S s) (ptr b 0) x4 (i64 w) (.bool rem) (i64 j) I (L1 ++ [(b, .cells #[i64 0, i64 0] 26)]) := by
    intros
    rename_i I x4 l L1 w j rem hM hst h1 h2
    unfold T24_4
    have := hst.i0
    refine add64 ?_
    exact hN (s.length - j).toNat (by omega) ⟨hM, l, L1, w, j + 1, rem, ⟨hst.o, hst.t, by have := hst.n; omega, hst.w0, by have := hst.w1; omega, by omega⟩, by omega, rfl, rfl, rfl, rfl⟩
  have j8 : ∀ {zz : Env} {I : Imm} {x4 : Value} {l : List Tok} {L1 : Own} {w j k : Int} {rem : Bool}, MaxL I → LexSt s x4 l L1 w j 1 → i ≤ j → j < s.length → 0 ≤ k → k ≤ 2 → j + k ≤ s.length →
      T24_8 (Fin fun e I' L' => ∃ v, e = .returned v ∧ LexR s v I' L') N (Q24_0 (Fin fun e I' L' => ∃ v, e = .returned v ∧ LexR s v I' L')) zz (S s) (ptr b 0) x4 (i64 w) (.bool rem) (i64 j) (i64 k) I (L1 ++ [(b, .cells #[i64 0, i64 0] 26)]) := by
    intros
    rename_i I x4 l L1 w j k rem hM hst h1 h2 h3 h4 h5
    unfold T24_8
    have hi0 := hst.i0
    refine eqi_ (cnd_ (fun h => ?_) (fun h => ?_))
    · refine bld_ (v := .agg #[i64 3, i64 j]) (fun W => by kernel_rfl) ?_
      refine stoa_ ?_
      refine out24_0r ?_
      refine rcla_ ?_
      exact fin_ret (L1 := []) fun J _ => ⟨none, 0, [], 3, j, rfl, .inl rfl, Nat.le_refl _, by simp, by simp, rfl⟩
    · refine add64 ?_
      refine sslc_ ?_
      refine bld_ (v := .agg #[S ((s.drop j.toNat).take ((j + k).toNat - j.toNat)), i64 j]) (fun W => by kernel_rfl) ?_
      refine bslf_ (cells := #[S ((s.drop j.toNat).take ((j + k).toNat - j.toNat)), i64 j]) (by kernel_rfl) fun b2 J hJ hr => ?_
      have hnn := hst.n
      refine app_ hst.o (m := 1) (.imm hr) (by rfl) (by simp [plainV]) (fun v' L1' ho _ => ?_) (by omega) (by omega)
      refine sub64 (add64 ?_)
      have e1 : tokC l ++ (#[S ((s.drop j.toNat).take ((j + k).toNat - j.toNat)), i64 j] : Array Value).toList = tokC (l ++ [⟨(s.drop j.toNat).take ((j + k).toNat - j.toNat), j⟩]) := by
        rw [tokC_append]
        rfl
      rw [e1] at ho
      refine join24_4 (j4 (hM.up hJ) (l := l ++ [⟨(s.drop j.toNat).take ((j + k).toNat - j.toNat), j⟩]) ⟨by simpa using ho, ?_, by simp; omega, hst.w0, by have := hst.w1; omega, by omega⟩ (by omega) (by omega))
      intro t ht
      rcases List.mem_append.1 ht with ht | ht
      · exact hst.t t ht
      · rw [List.mem_singleton] at ht
        subst ht
        simp
        omega
  have j7 : ∀ {zz : Env} {I : Imm} {x4 : Value} {l : List Tok} {L1 : Own} {w j k : Int} {rem : Bool}, MaxL I → LexSt s x4 l L1 w j 1 → i ≤ j → j < s.length → 0 ≤ k → k ≤ 1 →
      T24_7 (Fin fun e I' L' => ∃ v, e = .returned v ∧ LexR s v I' L') N (Q24_0 (Fin fun e I' L' => ∃ v, e = .returned v ∧ LexR s v I' L')) zz (S s) (ptr b 0) x4 (i64 w) (.bool rem) (i64 j) (i64 k) I (L1 ++ [(b, .cells #[i64 0, i64 0] 26)]) := by
    intros
    rename_i I x4 l L1 w j k rem hM hst h1 h2 h3 h4
    unfold T24_7
    have hi0 := hst.i0
    have two : ∀ c d : UInt8, (s.drop j.toNat).take ([c, d] : List UInt8).length = [c, d] → j + 2 ≤ s.length := fun c d h => by
      have := congrArg List.length h
      simp at this
      omega
    refine sslcl_ ?_
    refine cal_pure (hasPrefix_pure _ _) ?_
    by_cases hp : (s.drop j.toNat).take ([61, 61] : List UInt8).length = [61, 61]
    · (repeat with_reducible first | refine StG.h ?_ | refine StY.h ‹_› ?_ | refine StN.h ‹_› ?_ | refine StW.h ?_ | refine ld_ ?_ | refine lda_ ?_)
      exact join24_8 (j8 hM hst h1 h2 (by omega) (by omega) (two _ _ hp))
    · (repeat with_reducible first | refine StG.h ?_ | refine StY.h ‹_› ?_ | refine StN.h ‹_› ?_ | refine StW.h ?_ | refine ld_ ?_ | refine lda_ ?_)
      refine sslcl_ ?_
      (repeat with_reducible first | refine StG.h ?_ | refine StY.h ‹_› ?_ | refine StN.h ‹_› ?_ | refine StW.h ?_ | refine ld_ ?_ | refine lda_ ?_)
      refine cal_pure (hasPrefix_pure _ _) ?_
      (repeat with_reducible first | refine StG.h ?_ | refine StY.h ‹_› ?_ | refine StN.h ‹_› ?_ | refine StW.h ?_ | refine ld_ ?_ | refine lda_ ?_)
      refine cnd_ (fun hq => ?_) (fun hq => ?_)
      · exact join24_8 (j8 hM hst h1 h2 (by omega) (by omega) (two _ _ hq))
      · exact join24_8 (j8 hM hst h1 h2 (by omega) (by omega) (by omega))
  have j6 : ∀ {zz : Env} {I : Imm} {x4 : Value} {l : List Tok} {L1 : Own} {w j : Int} {rem : Bool}, MaxL I → LexSt s x4 l L1 w j 1 → i ≤ j → j < s.length →
      T24_6 (Fin fun e I' L' => ∃ v, e = .returned v ∧ LexR s v I' L') N (Q24_0 (Fin fun e I' L' => ∃ v, e = .returned v ∧ LexR s v I' L')) zz (S s) (ptr b 0) x4 (i64 w) (.bool rem) (i64 j) I (L1 ++ [(b, .cells #[i64 0, i64 0] 26)]) := by
    intros
    rename_i I x4 l L1 w j rem hM hst h1 h2
    unfold T24_6
    have hi0 := hst.i0
    cases rem
    · (repeat with_reducible first | refine StG.h ?_ | refine StY.h ‹_› ?_ | refine StN.h ‹_› ?_ | refine StW.h ?_ | refine ld_ ?_ | refine lda_ ?_)
      refine sidx_ ?_ (by omega) (by omega)
      (repeat with_reducible first | refine StG.h ?_ | refine StY.h ‹_› ?_ | refine StN.h ‹_› ?_ | refine StW.h ?_ | refine ld_ ?_ | refine lda_ ?_)
      by_cases c1 : ((s.getD j.toNat 0).toNat : Int) = 32
      · (repeat with_reducible first | refine StG.h ?_ | refine StY.h ‹_› ?_ | refine StN.h ‹_› ?_ | refine StW.h ?_ | refine ld_ ?_ | refine lda_ ?_)
        exact join24_4 (j4 hM hst.two h1 (by omega))
      · (repeat with_reducible first | refine StG.h ?_ | refine StY.h ‹_› ?_ | refine StN.h ‹_› ?_ | refine StW.h ?_ | refine ld_ ?_ | refine lda_ ?_)
        refine sidx_ ?_ (by omega) (by omega)
        (repeat with_reducible first | refine StG.h ?_ | refine StY.h ‹_› ?_ | refine StN.h ‹_› ?_ | refine StW.h ?_ | refine ld_ ?_ | refine lda_ ?_)
        by_cases c2 : ((s.getD j.toNat 0).toNat : Int) = 10
        · (repeat with_reducible first | refine StG.h ?_ | refine StY.h ‹_› ?_ | refine StN.h ‹_› ?_ | refine StW.h ?_ | refine ld_ ?_ | refine lda_ ?_)
          exact join24_4 (j4 hM hst.two h1 (by omega))
        · (repeat with_reducible first | refine StG.h ?_ | refine StY.h ‹_› ?_ | refine StN.h ‹_› ?_ | refine StW.h ?_ | refine ld_ ?_ | refine lda_ ?_)
          refine sidx_ ?_ (by omega) (by omega)
          (repeat with_reducible first | refine StG.h ?_ | refine StY.h ‹_› ?_ | refine StN.h ‹_› ?_ | refine StW.h ?_ | refine ld_ ?_ | refine lda_ ?_)
          refine cnd_ (fun c3 => join24_4 (j4 hM hst.two h1 (by omega))) (fun c3 => ?_)
          refine add64 (sslc_ ?_)
          refine cal_ro (L1 := []) (contains_ro hM _ _ (by decide)) ?_
          refine cndb_ (fun _ => ?_) (fun _ => ?_)
          · exact join24_7 (j7 hM hst h1 h2 (by omega) (by omega))
          · exact join24_7 (j7 hM hst h1 h2 (by omega) (by omega))
    · (repeat with_reducible first | refine StG.h ?_ | refine StY.h ‹_› ?_ | refine StN.h ‹_› ?_ | refine StW.h ?_ | refine ld_ ?_ | refine lda_ ?_)
      exact join24_4 (j4 hM hst.two h1 (by omega))
  have j5 : ∀ {zz : Env} {I : Imm} {x4 : Value} {l : List Tok} {L1 : Own} {w j : Int} {rem : Bool}, MaxL I → LexSt s x4 l L1 w j 1 → i ≤ j → j < s.length →
      T24_5 (Fin fun e I' L' => ∃ v, e = .returned v ∧ LexR s v I' L') N (Q24_0 (Fin fun e I' L' => ∃ v, e = .returned v ∧ LexR s v I' L')) zz (S s) (ptr b 0) x4 (i64 w) (.bool rem) (i64 j) I (L1 ++ [(b, .cells #[i64 0, i64 0] 26)]) := by
    intros
    rename_i I x4 l L1 w j rem hM hst h1 h2
    unfold T24_5
    have hi0 := hst.i0
    refine sidx_ ?_ (by omega) (by omega)
    refine eqi_ (cnd_ (fun _ => ?_) (fun _ => ?_))
    · exact join24_6 (j6 hM hst h1 h2)
    · exact join24_6 (j6 hM hst h1 h2)
  have j3 : ∀ {zz : Env} {I : Imm} {x4 : Value} {l : List Tok} {L1 : Own} {w j d : Int} {rem : Bool}, LexSt s x4 l L1 w j d → 2 * j + d ≤ 2 * s.length + 4 →
      T24_3 (Fin fun e I' L' => ∃ v, e = .returned v ∧ LexR s v I' L') zz (ptr b 0) x4 I (L1 ++ [(b, .cells #[i64 0, i64 0] 26)]) := by
    intros
    rename_i I x4 l L1 w j d rem hst hjd
    unfold T24_3
    refine cal_pure good_pure ?_
    refine stoa_ ?_
    refine rcla_ ?_
    refine fin_retZ L1 (L1 := []) fun J _ hz => ?_
    obtain ⟨A, c, e, hr, hc⟩ := osl_rsl hst.o hz
    exact ⟨A, c, l, 0, -1, by rw [e]; rfl, hr, hc, hst.t, by have := hst.n; omega, rfl⟩
  have j2 : ∀ {zz : Env} {I : Imm} {x4 : Value} {l : List Tok} {L1 : Own} {w j : Int} {rem : Bool}, MaxL I → LexSt s x4 l L1 w j 1 → i ≤ j → j ≤ s.length →
      T24_2 (Fin fun e I' L' => ∃ v, e = .returned v ∧ LexR s v I' L') N (Q24_0 (Fin fun e I' L' => ∃ v, e = .returned v ∧ LexR s v I' L')) zz (S s) (ptr b 0) x4 (i64 w) (.bool rem) (i64 j) I (L1 ++ [(b, .cells #[i64 0, i64 0] 26)]) := by
    intros
    rename_i I x4 l L1 w j rem hM hst h1 h2
    unfold T24_2
    have hi0 := hst.i0
    refine slen_ (eqi_ (cnd_ (fun _ => ?_) (fun hne => ?_)))
    · exact out24_0x0 (join24_3 (j3 (rem := true) hst (by omega)))
    · refine sidx_ ?_ (by omega) (by omega)
      refine eqi_ (cnd_ (fun _ => ?_) (fun _ => ?_))
      · exact join24_5 (j5 hM hst h1 (by omega))
      · exact join24_5 (j5 hM hst h1 (by omega))
  have j1 : ∀ {zz : Env} {I : Imm} {x4 : Value} {l : List Tok} {L1 : Own} {w j : Int} {rem : Bool}, MaxL I → LexSt s x4 l L1 w j 1 → i ≤ j → j ≤ s.length →
      T24_1 (Fin fun e I' L' => ∃ v, e = .returned v ∧ LexR s v I' L') N (Q24_0 (Fin fun e I' L' => ∃ v, e = .returned v ∧ LexR s v I' L')) zz (S s) (ptr b 0) x4 (i64 w) (.bool rem) (i64 j) I (L1 ++ [(b, .cells #[i64 0, i64 0] 26)]) := by
    intros
    rename_i I x4 l L1 w j rem hM hst h1 h2
    unfold T24_1
    exact join24_4 (j4 hM hst.two h1 h2)
  unfold B24_0
  have hi0 := hst.i0
  have hw0 := hst.w0
  have hw1 := hst.w1
  have hnn := hst.n
  refine slen_ (leq_ (cnd_ (fun hle2 => ?_) (fun h => out24_0x0 (join24_3 (j3 (rem := true) hst (by omega))))))
  refine slen_ (lss_ ?_)
  by_cases hlt : i < s.length
  · cases rem
    · (repeat with_reducible first | refine StG.h ?_ | refine StY.h ‹_› ?_ | refine StN.h ‹_› ?_ | refine StW.h ?_ | refine ld_ ?_ | refine lda_ ?_)
      refine sidx_ ?_ (by omega) (by omega)
      (repeat with_reducible first | refine StG.h ?_ | refine StY.h ‹_› ?_ | refine StN.h ‹_› ?_ | refine StW.h ?_ | refine ld_ ?_ | refine lda_ ?_)
      refine cal_pure (isLetter_pure _) ?_
      cases isLetterZ (s.getD i.toNat 0).toNat
      · (repeat with_reducible first | refine StG.h ?_ | refine StY.h ‹_› ?_ | refine StN.h ‹_› ?_ | refine StW.h ?_ | refine ld_ ?_ | refine lda_ ?_)
        refine sidx_ ?_ (by omega) (by omega)
        (repeat with_reducible first | refine StG.h ?_ | refine StY.h ‹_› ?_ | refine StN.h ‹_› ?_ | refine StW.h ?_ | refine ld_ ?_ | refine lda_ ?_)
        refine cal_pure (isDigit_pure _) ?_
        cases isDigitZ (s.getD i.toNat 0).toNat
        · (repeat with_reducible first | refine StG.h ?_ | refine StY.h ‹_› ?_ | refine StN.h ‹_› ?_ | refine StW.h ?_ | refine ld_ ?_ | refine lda_ ?_)
          refine cnd_ (fun hw => ?_) (fun hw => ?_)
          · refine sslc_ ?_
            refine bld_ (v := .agg #[S ((s.drop w.toNat).take (i.toNat - w.toNat)), i64 w]) (fun W => by kernel_rfl) ?_
            refine bslf_ (cells := #[S ((s.drop w.toNat).take (i.toNat - w.toNat)), i64 w]) (by kernel_rfl) fun b2 J hJ hr => ?_
            refine app_ hst.o (m := 1) (.imm hr) (by rfl) (by simp [plainV]) (fun v' L1' ho _ => ?_) (by omega) (by omega)
            have e1 : tokC l ++ (#[S ((s.drop w.toNat).take (i.toNat - w.toNat)), i64 w] : Array Value).toList = tokC (l ++ [⟨(s.drop w.toNat).take (i.toNat - w.toNat), w⟩]) := by
              rw [tokC_append]
              rfl
            rw [e1] at ho
            refine join24_2 (j2 (hM'.up hJ) (w := -1) (l := l ++ [⟨(s.drop w.toNat).take (i.toNat - w.toNat), w⟩]) ⟨by simpa using ho, ?_, by simp; omega, by omega, by omega, by omega⟩ (by omega) (by omega))
            intro t ht
            rcases List.mem_append.1 ht with ht | ht
            · exact hst.t t ht
            · rw [List.mem_singleton] at ht
              subst ht
              simp
              omega
          · exact join24_2 (j2 hM' ⟨hst.o, hst.t, by omega, hw0, hw1, hi0⟩ (by omega) (by omega))
        · (repeat with_reducible first | refine StG.h ?_ | refine StY.h ‹_› ?_ | refine StN.h ‹_› ?_ | refine StW.h ?_ | refine ld_ ?_ | refine lda_ ?_)
          refine cnd_ (fun _ => ?_) (fun _ => ?_)
          · exact join24_1 (j1 hM' (w := i) ⟨hst.o, hst.t, by omega, by omega, by omega, hi0⟩ (by omega) (by omega))
          · exact join24_1 (j1 hM' ⟨hst.o, hst.t, by omega, hw0, hw1, hi0⟩ (by omega) (by omega))
      · (repeat with_reducible first | refine StG.h ?_ | refine StY.h ‹_› ?_ | refine StN.h ‹_› ?_ | refine StW.h ?_ | refine ld_ ?_ | refine lda_ ?_)
        refine cnd_ (fun _ => ?_) (fun _ => ?_)
        · exact join24_1 (j1 hM' (w := i) ⟨hst.o, hst.t, by omega, by omega, by omega, hi0⟩ (by omega) (by omega))
        · exact join24_1 (j1 hM' ⟨hst.o, hst.t, by omega, hw0, hw1, hi0⟩ (by omega) (by omega))
    · (repeat with_reducible first | refine StG.h ?_ | refine StY.h ‹_› ?_ | refine StN.h ‹_› ?_ | refine StW.h ?_ | refine ld_ ?_ | refine lda_ ?_)
      refine cnd_ (fun hw => ?_) (fun hw => ?_)
      · refine sslc_ ?_
        refine bld_ (v := .agg #[S ((s.drop w.toNat).take (i.toNat - w.toNat)), i64 w]) (fun W => by kernel_rfl) ?_
        refine bslf_ (cells := #[S ((s.drop w.toNat).take (i.toNat - w.toNat)), i64 w]) (by kernel_rfl) fun b2 J hJ hr => ?_
        refine app_ hst.o (m := 1) (.imm hr) (by rfl) (by simp [plainV]) (fun v' L1' ho _ => ?_) (by omega) (by omega)
        have e1 : tokC l ++ (#[S ((s.drop w.toNat).take (i.toNat - w.toNat)), i64 w] : Array Value).toList = tokC (l ++ [⟨(s.drop w.toNat).take (i.toNat - w.toNat), w⟩]) := by
          rw [tokC_append]
          rfl
        rw [e1] at ho
        refine join24_2 (j2 (hM'.up hJ) (w := -1) (l := l ++ [⟨(s.drop w.toNat).take (i.toNat - w.toNat), w⟩]) ⟨by simpa using ho, ?_, by simp; omega, by omega, by omega, by omega⟩ (by omega) (by omega))
        intro t ht
        rcases List.mem_append.1 ht with ht | ht
        · exact hst.t t ht
        · rw [List.mem_singleton] at ht
          subst ht
          simp
          omega
      · exact join24_2 (j2 hM' ⟨hst.o, hst.t, by omega, hw0, hw1, hi0⟩ (by omega) (by omega))
  · (repeat with_reducible first | refine StG.h ?_ | refine StY.h ‹_› ?_ | refine StN.h ‹_› ?_ | refine StW.h ?_ | refine ld_ ?_ | refine lda_ ?_)
    refine cnd_ (fun hw => ?_) (fun hw => ?_)
    · refine sslc_ ?_
      refine bld_ (v := .agg #[S ((s.drop w.toNat).take (i.toNat - w.toNat)), i64 w]) (fun W => by kernel_rfl) ?_
      refine bslf_ (cells := #[S ((s.drop w.toNat).take (i.toNat - w.toNat)), i64 w]) (by kernel_rfl) fun b2 J hJ hr => ?_
      refine app_ hst.o (m := 1) (.imm hr) (by rfl) (by simp [plainV]) (fun v' L1' ho _ => ?_) (by omega) (by omega)
      have e1 : tokC l ++ (#[S ((s.drop w.toNat).take (i.toNat - w.toNat)), i64 w] : Array Value).toList = tokC (l ++ [⟨(s.drop w.toNat).take (i.toNat - w.toNat), w⟩]) := by
        rw [tokC_append]
        rfl
      rw [e1] at ho
      refine join24_2 (j2 (hM'.up hJ) (w := -1) (l := l ++ [⟨(s.drop w.toNat).take (i.toNat - w.toNat), w⟩]) ⟨by simpa using ho, ?_, by simp; omega, by omega, by omega, by omega⟩ (by omega) (by omega))
      intro t ht
      rcases List.mem_append.1 ht with ht | ht
      · exact hst.t t ht
      · rw [List.mem_singleton] at ht
        subst ht
        simp
        omega
    · exact join24_2 (j2 hM' ⟨hst.o, hst.t, by omega, hw0, hw1, hi0⟩ (by omega) (by omega))
end Go.Proofs.YtkclodaplbalfaaDoor
