/- What is wrong first in a block: its items. Conditions: none. -/
import Derived.Test.YtkclodaplbalfaaDoorBw
set_option linter.unusedVariables false
set_option linter.unusedSimpArgs false
set_option maxRecDepth 100000
set_option maxHeartbeats 2000000
namespace Go.Proofs.YtkclodaplbalfaaDoor
open Go Sl
def BwR (ty : List Nm) (l : List It) (names seen : List Nm) (bt bn : Nat) (ot : Obj) (v : Value) (J : Imm) (L : Own) : Prop :=
  ∃ on, v = fltV (blkW ty l names seen).1 ∧ MapO (fun a : Nm => S a) (setM (blkW ty l names seen).2) on ∧ L = [(bt, ot), (bn, on)]
theorem bw_ret (m : Nat) : ∀ {I : Imm} {A : Option Addr} {c : Nat} {l : List It} {ty names seen : List Nm} {As : Option Addr} {cs bt bn : Nat} {ot on : Obj}, BlkR I A c l → (∀ x ∈ l, Wf m x) → l.length ≤ 16 → seen.length + 16 * m ≤ 100000 →
    RSl I As (strC seen) → seen.length ≤ cs → MapO (fun a : Nm => S a) (setM ty) ot → MapO (fun a : Nm => S a) (setM names) on →
    RetC Tryd.prog 23 #[.slice A l.length c, .map (some bt), .map (some bn), .slice As seen.length cs] I [(bt, ot), (bn, on)] (BwR ty l names seen bt bn ot) := by
  induction m with
  | zero =>
    intro I A c l ty names seen As cs bt bn ot on hb hw
    have hl0 : l = [] := by
      cases l with
      | nil => rfl
      | cons x l => exact absurd (hw x (by simp)) (fun h => by cases h)
    subst hl0
    intro hl hsl hs hsc ht hn
    refine .of (go23 ?_)
    unfold M23
    refine bx_ fun b7 => ?_
    refine al_ fun b8 => ?_
    refine vlen_ ?_
    refine loop23_0 (n := 0) (fun n x I' L => x = i64 0 ∧ I.Le I' ∧ L = [(b8, .cells #[i64 0, i64 0] 26), (b7, .cells #[.slice As seen.length cs] 57), (bt, ot), (bn, on)]) ⟨rfl, .refl _, rfl⟩ ?_
    rintro n x I2 L2 hle ⟨rfl, hI2, rfl⟩ N hN u
    unfold B23_0
    refine lss_ ?_
    refine cnd_no (by simp) ?_
    refine out23_0x0 (join23_2 ?_)
    refine rul_walk (hb.up hI2) hl fun J hJ => ⟨on, ?_, ?_, rfl⟩
    · simp [blkW, itsW_nil, okF]
    · simpa [blkW, itsW_nil, okF] using hn
  | succ m ih =>
    intro I A c l ty names seen As cs bt bn ot on hb hw hl hsl hs hsc ht hn
    refine .of (go23 ?_)
    unfold M23
    refine bx_ fun b7 => ?_
    refine al_ fun b8 => ?_
    refine vlen_ ?_
    refine loop23_0 (n := l.length) (fun n x I' L => ∃ (i : Nat) (names1 seen1 : List Nm) (As1 : Option Addr) (cs1 : Nat) (on1 : Obj), n + i = l.length ∧ x = i64 i ∧ I.Le I' ∧ RSl I' As1 (strC seen1) ∧ seen1.length ≤ cs1 ∧ seen1.length ≤ seen.length + i ∧ MapO (fun a : Nm => S a) (setM names1) on1 ∧
        itsW ty l names seen = itsW ty (l.drop i) names1 seen1 ∧ L = [(b8, .cells #[i64 0, i64 0] 26), (b7, .cells #[.slice As1 seen1.length cs1] 57), (bt, ot), (bn, on1)])
      ⟨0, names, seen, As, cs, on, rfl, rfl, .refl _, hs, hsc, by omega, hn, rfl, rfl⟩ ?_
    rintro n x I2 L2 hle ⟨i, names1, seen1, As1, cs1, on1, hi, rfl, hI2, hs1, hsc1, hsl1, hn1, heq, rfl⟩ N hN u
    have hb2 := hb.up hI2
    by_cases hlt : i < l.length
    case neg =>
      unfold B23_0
      refine lss_ ?_
      refine cnd_no (by omega) ?_
      refine out23_0x0 (join23_2 ?_)
      rw [List.drop_eq_nil_of_le (by omega), itsW_nil] at heq
      refine rul_walk hb2 hl fun J hJ => ⟨on1, ?_, ?_, rfl⟩
      · simp [blkW, heq, okF]
      · simpa [blkW, heq, okF] using hn1
    rw [List.drop_eq_getElem_cons hlt, itsW_cons] at heq
    have hwx := hw l[i] (List.getElem_mem hlt)
    obtain ⟨_, _, hw1, hw2, hw3, hw4⟩ := hwx
    have bad : ∀ {f : Flt} {nf : List Nm}, itW ty l[i] names1 seen1 = (f, nf) → f.1 ≠ 0 → blkW ty l names seen = (f, nf) := fun {f nf} h hf => by
      have e : itsW ty l names seen = (f, nf) := by rw [heq, h, if_pos hf]
      unfold blkW
      rw [e, if_pos hf]
    have good : ∀ {f : Flt} {nf : List Nm}, itW ty l[i] names1 seen1 = (f, nf) → f.1 = 0 → itsW ty l names seen = itsW ty (l.drop (i + 1)) nf (if l[i].kind = 1 ∧ l[i].many = false then seen1 ++ [l[i].name] else seen1) := fun {f nf} h hf => by
      rw [heq, h, if_neg (by simpa using hf)]
    have fin : ∀ {J : Imm} {f : Flt} {nf : List Nm} {on2 : Obj} {Z : Obj}, blkW ty l names seen = (f, nf) → MapO (fun a : Nm => S a) (setM nf) on2 → (Fin fun e I' L' => ∃ v, e = .returned v ∧ BwR ty l names seen bt bn ot v I' L') (.returned (fltV f)) J [(b8, .cells #[i64 f.1, i64 f.2] 26), (b7, Z), (bt, ot), (bn, on2)] := fun {J f nf on2 Z} h hm =>
      fin_ret (L1 := [(bt, ot), (bn, on2)]) fun K hK => ⟨on2, by rw [h], by rw [h]; exact hm, rfl⟩
    have j6 : ∀ {zz : Env} {J : Imm} {names2 seen2 : List Nm} {As2 : Option Addr} {cs2 : Nat} {on2 : Obj}, I2.Le J → RSl J As2 (strC seen2) → seen2.length ≤ cs2 → seen2.length ≤ seen.length + (i + 1) → MapO (fun a : Nm => S a) (setM names2) on2 →
        itsW ty l names seen = itsW ty (l.drop (i + 1)) names2 seen2 → T23_6 (Fin fun e I' L' => ∃ v, e = .returned v ∧ BwR ty l names seen bt bn ot v I' L') N (Q23_0 (Fin fun e I' L' => ∃ v, e = .returned v ∧ BwR ty l names seen bt bn ot v I' L')) zz (.slice A l.length c) (.map (some bt)) (.map (some bn)) (ptr b7 0) (ptr b8 0) (.func (.func 34) #[] #[ptr b7 0]) (.slice A l.length c) (i64 l.length) (i64 i) J [(b8, .cells #[i64 0, i64 0] 26), (b7, .cells #[.slice As2 seen2.length cs2] 57), (bt, ot), (bn, on2)] := by
      intros
      rename_i J names2 seen2 As2 cs2 on2 hJ h1 h2 h3 h4 h5
      unfold T23_6
      refine add64 ?_
      exact hN (n - 1) (by omega) ⟨i + 1, names2, seen2, As2, cs2, on2, by omega, rfl, hI2.trans hJ, h1, h2, h3, h4, h5, rfl⟩
    have j3 : ∀ {zz : Env} {J : Imm} {names2 : List Nm} {on2 : Obj} {bx : Nat} {cp : Value} {A2 : Option Addr} {c2 : Nat}, I2.Le J → RdAt J bx 0 (itL l[i] cp A2 c2) → MapO (fun a : Nm => S a) (setM names2) on2 →
        itsW ty l names seen = itsW ty (l.drop (i + 1)) names2 (if l[i].kind = 1 ∧ l[i].many = false then seen1 ++ [l[i].name] else seen1) →
        T23_3 (Fin fun e I' L' => ∃ v, e = .returned v ∧ BwR ty l names seen bt bn ot v I' L') N (Q23_0 (Fin fun e I' L' => ∃ v, e = .returned v ∧ BwR ty l names seen bt bn ot v I' L')) zz (.slice A l.length c) (.map (some bt)) (.map (some bn)) (ptr b7 0) (ptr b8 0) (.func (.func 34) #[] #[ptr b7 0]) (ptr bx 0) (.slice A l.length c) (i64 l.length) (i64 i) J [(b8, .cells #[i64 0, i64 0] 26), (b7, .cells #[.slice As1 seen1.length cs1] 57), (bt, ot), (bn, on2)] := by
      intros
      rename_i J names2 on2 bx cp A2 c2 hJ hx hm2 he
      have hs2 := hs1.up hJ
      unfold T23_3
      by_cases hk : l[i].kind = 1
      · cases hmn : l[i].many
        · (repeat with_reducible first | refine StA.h ‹_› ?_ | refine StB.h ‹_› ?_ | refine StG.h ?_ | refine StY.h ‹_› ?_ | refine StN.h ‹_› ?_ | refine StW.h ?_ | refine ld_ ?_ | refine lda_ ?_ | refine ldi_ ‹_› (by with_unfolding_all rfl) (by with_unfolding_all rfl) ?_ | refine ldi0_ ‹_› (by with_unfolding_all rfl) ?_ | refine ld_ ?_ (by with_unfolding_all rfl))
          rw [if_pos ⟨hk, hmn⟩] at he
          refine draw23_5 (C := fun K L => (b7, Obj.cells #[.slice As1 seen1.length cs1] 57 (0, 0)) ∈ L ∧ RdAt K bx 0 (itL l[i] cp A2 c2)) ⟨by simp, hx⟩ ?_
          unfold G23_5
          refine qS_of (fun I L h => rd_ld (cel_own (h := ⟨h.1⟩) rfl)) ?_
          refine qS_of (fun I L h => rd_ld (cel_own (h := ⟨h.1⟩) rfl)) ?_
          refine qS_of (fun I L _ => rd_vlen) ?_
          refine qS_of (fun I L h => rd_ld (cel_own (h := ⟨h.1⟩) rfl)) ?_
          refine qS_of (fun I L _ => rd_vlen) ?_
          refine qS_of (fun I L _ => rd_vslc3 hsc1) ?_
          refine qS_of (fun I L _ => rd_fad) ?_
          refine qS_of (fun I L h => rd_ld (h.2.cel (j := 2) rfl rfl)) ?_
          refine bslf_ (cells := #[S l[i].name]) (by kernel_rfl) fun b5 K hK hr5 => ?_
          refine ⟨⟨by simp, hx.up hK⟩, ?_⟩
          refine appG_ (n := seen1.length) (m := 1) (xs := strC seen1) (by simpa using (hs2.up hK).cut (m := 0) (c := seen1.length) (strC_length _) (Nat.le_refl _)) (strC_length _) (.imm hr5) (by rfl) (by omega) (fun A5 c5 K2 hK2 hA5 hc5 => ?_) (by omega) (by omega)
          have el : (seen1 ++ [l[i].name]).length = seen1.length + 1 := by simp
          rw [← el]
          refine ⟨⟨by simp, (hx.up hK).up hK2⟩, ?_⟩
          refine sto_ ?_
          refine join23_6 (j6 (seen2 := seen1 ++ [l[i].name]) (hJ.trans (hK.trans hK2)) (by rw [strC_append]; exact hA5) (by simpa using hc5) (by simp; omega) hm2 he)
        · (repeat with_reducible first | refine StA.h ‹_› ?_ | refine StB.h ‹_› ?_ | refine StG.h ?_ | refine StY.h ‹_› ?_ | refine StN.h ‹_› ?_ | refine StW.h ?_ | refine ld_ ?_ | refine lda_ ?_ | refine ldi_ ‹_› (by with_unfolding_all rfl) (by with_unfolding_all rfl) ?_ | refine ldi0_ ‹_› (by with_unfolding_all rfl) ?_ | refine ld_ ?_ (by with_unfolding_all rfl))
          rw [if_neg (by simp [hmn])] at he
          exact join23_6 (j6 hJ hs2 hsc1 (by omega) hm2 he)
      · (repeat with_reducible first | refine StA.h ‹_› ?_ | refine StB.h ‹_› ?_ | refine StG.h ?_ | refine StY.h ‹_› ?_ | refine StN.h ‹_› ?_ | refine StW.h ?_ | refine ld_ ?_ | refine lda_ ?_ | refine ldi_ ‹_› (by with_unfolding_all rfl) (by with_unfolding_all rfl) ?_ | refine ldi0_ ‹_› (by with_unfolding_all rfl) ?_ | refine ld_ ?_ (by with_unfolding_all rfl))
        rw [if_neg (by simp [hk])] at he
        exact join23_6 (j6 hJ hs2 hsc1 (by omega) hm2 he)
    have j1 : ∀ {zz : Env} {J : Imm} {names2 : List Nm} {on2 : Obj} {bx : Nat} {cp : Value} {A2 : Option Addr} {c2 : Nat}, I2.Le J → RdAt J bx 0 (itL l[i] cp A2 c2) → ExR J l[i].count cp → BlkR J A2 c2 l[i].items → MapO (fun a : Nm => S a) (setM names2) on2 →
        ((l[i].kind ≠ 4 ∧ itW ty l[i] names1 seen1 = (asksW seen1 l[i].count, names2)) ∨ (l[i].kind = 4 ∧ names2 = names1)) →
        T23_1 (Fin fun e I' L' => ∃ v, e = .returned v ∧ BwR ty l names seen bt bn ot v I' L') N (Q23_0 (Fin fun e I' L' => ∃ v, e = .returned v ∧ BwR ty l names seen bt bn ot v I' L')) zz (.slice A l.length c) (.map (some bt)) (.map (some bn)) (ptr b7 0) (ptr b8 0) (.func (.func 34) #[] #[ptr b7 0]) (ptr bx 0) (.slice A l.length c) (i64 l.length) (i64 i) J [(b8, .cells #[i64 0, i64 0] 26), (b7, .cells #[.slice As1 seen1.length cs1] 57), (bt, ot), (bn, on2)] := by
      intros
      rename_i J names2 on2 bx cp A2 c2 hJ hx hcp hbk hm2 hcase
      have hs2 := hs1.up hJ
      unfold T23_1
      obtain ⟨ca, rfl⟩ := hcp.ptr
      (repeat with_reducible first | refine StA.h ‹_› ?_ | refine StB.h ‹_› ?_ | refine StG.h ?_ | refine StY.h ‹_› ?_ | refine StN.h ‹_› ?_ | refine StW.h ?_ | refine ld_ ?_ | refine lda_ ?_ | refine ldi_ ‹_› (by with_unfolding_all rfl) (by with_unfolding_all rfl) ?_ | refine ldi0_ ‹_› (by with_unfolding_all rfl) ?_ | refine ld_ ?_ (by with_unfolding_all rfl))
      refine clv1_ ?_
      refine cal_keep (L1 := [(b7, .cells #[.slice As1 seen1.length cs1] 57)]) (asks_ret hcp (by omega) hs2 (by omega)) fun v3 J3 hJ3 hv3 => ?_
      subst hv3
      have hx3 := hx.up hJ3
      unfold fltV
      refine alsf_ (vs := [i64 (asksW seen1 l[i].count).1, i64 (asksW seen1 l[i].count).2]) fun b12 J4 hJ4 hr12 => ?_
      have hx4 := hx3.up hJ4
      refine ldai_ (j := 0) hr12 rfl (us := [i64 (asksW seen1 l[i].count).1, i64 (asksW seen1 l[i].count).2]) rfl rfl ?_
      refine cal_pure (Is_pure _ _) ?_
      by_cases hf : (asksW seen1 l[i].count).1 = 0
      case neg =>
        (repeat with_reducible first | refine StA.h ‹_› ?_ | refine StB.h ‹_› ?_ | refine StG.h ?_ | refine StY.h ‹_› ?_ | refine StN.h ‹_› ?_ | refine StW.h ?_ | refine ld_ ?_ | refine lda_ ?_ | refine ldi_ ‹_› (by with_unfolding_all rfl) (by with_unfolding_all rfl) ?_ | refine ldi0_ ‹_› (by with_unfolding_all rfl) ?_ | refine ld_ ?_ (by with_unfolding_all rfl))
        refine ldai_ (j := 0) hr12 rfl (us := [i64 (asksW seen1 l[i].count).1, i64 (asksW seen1 l[i].count).2]) rfl rfl ?_
        refine stoa_ ?_
        refine out23_0r ?_
        refine rcla_ (vs := [i64 (asksW seen1 l[i].count).1, i64 (asksW seen1 l[i].count).2]) ?_ rfl rfl
        refine fin (f := asksW seen1 l[i].count) (nf := names2) (bad ?_ hf) hm2
        rcases hcase with ⟨h1, h2⟩ | ⟨h1, rfl⟩
        · exact h2
        · rw [itW_eq, if_neg (by simpa using h1), if_pos hf]
      by_cases hk : l[i].kind = 4
      case neg =>
        have h2 : itW ty l[i] names1 seen1 = (asksW seen1 l[i].count, names2) := by
          rcases hcase with ⟨h1, h2⟩ | ⟨h1, h2⟩
          · exact h2
          · exact absurd h1 hk
        (repeat with_reducible first | refine StA.h ‹_› ?_ | refine StB.h ‹_› ?_ | refine StG.h ?_ | refine StY.h ‹_› ?_ | refine StN.h ‹_› ?_ | refine StW.h ?_ | refine ld_ ?_ | refine lda_ ?_ | refine ldi_ ‹_› (by with_unfolding_all rfl) (by with_unfolding_all rfl) ?_ | refine ldi0_ ‹_› (by with_unfolding_all rfl) ?_ | refine ld_ ?_ (by with_unfolding_all rfl))
        exact join23_3 (j3 (hJ.trans (hJ3.trans hJ4)) hx4 hm2 (good h2 hf))
      obtain rfl : names2 = names1 := by
        rcases hcase with ⟨h1, h2⟩ | ⟨h1, h2⟩
        · exact absurd hk h1
        · exact h2
      (repeat with_reducible first | refine StA.h ‹_› ?_ | refine StB.h ‹_› ?_ | refine StG.h ?_ | refine StY.h ‹_› ?_ | refine StN.h ‹_› ?_ | refine StW.h ?_ | refine ld_ ?_ | refine lda_ ?_ | refine ldi_ ‹_› (by with_unfolding_all rfl) (by with_unfolding_all rfl) ?_ | refine ldi0_ ‹_› (by with_unfolding_all rfl) ?_ | refine ld_ ?_ (by with_unfolding_all rfl))
      have hJ34 := hJ3.trans hJ4
      refine cal_ret (L1 := [(bt, ot), (bn, on2)]) (ih (hbk.up hJ34) hw2 hw3 (by omega) (hs2.up hJ34) hsc1 ht hm2) fun v5 J5 L5 hJ5 ⟨on5, hv5, hm5, e5⟩ => ?_
      subst hv5 e5
      have hx5 := hx4.up hJ5
      refine wpS.keep [(b8, .cells #[i64 0, i64 0] 26), (b7, .cells #[.slice As1 seen1.length cs1] 57), (bt, ot), (bn, on5)] ?_
      generalize hR : blkW ty l[i].items names2 seen1 = R5 at *
      obtain ⟨f5, n5⟩ := R5
      have hit : itW ty l[i] names2 seen1 = (f5, n5) := by
        rw [itW_eq, if_neg (by simpa using hk), if_neg (by simpa using hf)]
        unfold blkW at hR
        exact hR
      unfold fltV
      refine alsf_ (vs := [i64 f5.1, i64 f5.2]) fun b13 J6 hJ6 hr13 => ?_
      have hx6 := hx5.up hJ6
      refine ldai_ (j := 0) hr13 rfl (us := [i64 f5.1, i64 f5.2]) rfl rfl ?_
      refine cal_pure (Is_pure _ _) ?_
      by_cases hf5 : f5.1 = 0
      · (repeat with_reducible first | refine StA.h ‹_› ?_ | refine StB.h ‹_› ?_ | refine StG.h ?_ | refine StY.h ‹_› ?_ | refine StN.h ‹_› ?_ | refine StW.h ?_ | refine ld_ ?_ | refine lda_ ?_ | refine ldi_ ‹_› (by with_unfolding_all rfl) (by with_unfolding_all rfl) ?_ | refine ldi0_ ‹_› (by with_unfolding_all rfl) ?_ | refine ld_ ?_ (by with_unfolding_all rfl))
        exact join23_3 (j3 (hJ.trans (hJ34.trans (hJ5.trans hJ6))) hx6 hm5 (good hit hf5))
      · (repeat with_reducible first | refine StA.h ‹_› ?_ | refine StB.h ‹_› ?_ | refine StG.h ?_ | refine StY.h ‹_› ?_ | refine StN.h ‹_› ?_ | refine StW.h ?_ | refine ld_ ?_ | refine lda_ ?_ | refine ldi_ ‹_› (by with_unfolding_all rfl) (by with_unfolding_all rfl) ?_ | refine ldi0_ ‹_› (by with_unfolding_all rfl) ?_ | refine ld_ ?_ (by with_unfolding_all rfl))
        refine ldai_ (j := 0) hr13 rfl (us := [i64 f5.1, i64 f5.2]) rfl rfl ?_
        refine stoa_ ?_
        refine out23_0r ?_
        refine rcla_ (vs := [i64 f5.1, i64 f5.2]) ?_ rfl rfl
        exact fin (bad hit hf5) hm5
    unfold B23_0
    refine lss_ ?_
    refine cnd_yes (by omega) ?_
    obtain ⟨bA, oA, cp, A2, c2, rfl, hr, hc, hb3⟩ := hb2.at hlt
    obtain ⟨ca, rfl⟩ := hc.ptr
    refine iad_ ?_ (by omega) (by omega)
    refine ld_item (by simpa using hr) ?_
    refine alsf_ fun bx J hJ hx => ?_
    (repeat with_reducible first | refine StA.h ‹_› ?_ | refine StB.h ‹_› ?_ | refine StG.h ?_ | refine StY.h ‹_› ?_ | refine StN.h ‹_› ?_ | refine StW.h ?_ | refine ld_ ?_ | refine lda_ ?_ | refine ldi_ ‹_› (by with_unfolding_all rfl) (by with_unfolding_all rfl) ?_ | refine ldi0_ ‹_› (by with_unfolding_all rfl) ?_ | refine ld_ ?_ (by with_unfolding_all rfl))
    refine cnd_ (fun hk => ?_) (fun hk => ?_)
    · (repeat with_reducible first | refine StA.h ‹_› ?_ | refine StB.h ‹_› ?_ | refine StG.h ?_ | refine StY.h ‹_› ?_ | refine StN.h ‹_› ?_ | refine StW.h ?_ | refine ld_ ?_ | refine lda_ ?_ | refine ldi_ ‹_› (by with_unfolding_all rfl) (by with_unfolding_all rfl) ?_ | refine ldi0_ ‹_› (by with_unfolding_all rfl) ?_ | refine ld_ ?_ (by with_unfolding_all rfl))
      refine lkps_ hn1 ?_
      refine cnd_ (fun htw => ?_) (fun htw => ?_)
      · (repeat with_reducible first | refine StA.h ‹_› ?_ | refine StB.h ‹_› ?_ | refine StG.h ?_ | refine StY.h ‹_› ?_ | refine StN.h ‹_› ?_ | refine StW.h ?_ | refine ld_ ?_ | refine lda_ ?_ | refine ldi_ ‹_› (by with_unfolding_all rfl) (by with_unfolding_all rfl) ?_ | refine ldi0_ ‹_› (by with_unfolding_all rfl) ?_ | refine ld_ ?_ (by with_unfolding_all rfl))
        refine bld_ (v := .agg #[i64 9, i64 l[i].at_]) (fun W => by kernel_rfl) ?_
        refine stoa_ ?_
        refine out23_0r ?_
        refine rcla_ (vs := [i64 9, i64 l[i].at_]) ?_ rfl rfl
        exact fin (f := (9, l[i].at_)) (bad (by rw [itW_eq, if_pos hk, if_pos htw]) (by simp)) hn1
      (repeat with_reducible first | refine StA.h ‹_› ?_ | refine StB.h ‹_› ?_ | refine StG.h ?_ | refine StY.h ‹_› ?_ | refine StN.h ‹_› ?_ | refine StW.h ?_ | refine ld_ ?_ | refine lda_ ?_ | refine ldi_ ‹_› (by with_unfolding_all rfl) (by with_unfolding_all rfl) ?_ | refine ldi0_ ‹_› (by with_unfolding_all rfl) ?_ | refine ld_ ?_ (by with_unfolding_all rfl))
      refine mups_ hn1 htw fun on2 hm2 => ?_
      (repeat with_reducible first | refine StA.h ‹_› ?_ | refine StB.h ‹_› ?_ | refine StG.h ?_ | refine StY.h ‹_› ?_ | refine StN.h ‹_› ?_ | refine StW.h ?_ | refine ld_ ?_ | refine lda_ ?_ | refine ldi_ ‹_› (by with_unfolding_all rfl) (by with_unfolding_all rfl) ?_ | refine ldi0_ ‹_› (by with_unfolding_all rfl) ?_ | refine ld_ ?_ (by with_unfolding_all rfl))
      by_cases h3 : l[i].kind = 3
      · (repeat with_reducible first | refine StA.h ‹_› ?_ | refine StB.h ‹_› ?_ | refine StG.h ?_ | refine StY.h ‹_› ?_ | refine StN.h ‹_› ?_ | refine StW.h ?_ | refine ld_ ?_ | refine lda_ ?_ | refine ldi_ ‹_› (by with_unfolding_all rfl) (by with_unfolding_all rfl) ?_ | refine ldi0_ ‹_› (by with_unfolding_all rfl) ?_ | refine ld_ ?_ (by with_unfolding_all rfl))
        refine lkps_ ht ?_
        (repeat with_reducible first | refine StA.h ‹_› ?_ | refine StB.h ‹_› ?_ | refine StG.h ?_ | refine StY.h ‹_› ?_ | refine StN.h ‹_› ?_ | refine StW.h ?_ | refine ld_ ?_ | refine lda_ ?_ | refine ldi_ ‹_› (by with_unfolding_all rfl) (by with_unfolding_all rfl) ?_ | refine ldi0_ ‹_› (by with_unfolding_all rfl) ?_ | refine ld_ ?_ (by with_unfolding_all rfl))
        refine cnd_ (fun hty => ?_) (fun hty => ?_)
        · (repeat with_reducible first | refine StA.h ‹_› ?_ | refine StB.h ‹_› ?_ | refine StG.h ?_ | refine StY.h ‹_› ?_ | refine StN.h ‹_› ?_ | refine StW.h ?_ | refine ld_ ?_ | refine lda_ ?_ | refine ldi_ ‹_› (by with_unfolding_all rfl) (by with_unfolding_all rfl) ?_ | refine ldi0_ ‹_› (by with_unfolding_all rfl) ?_ | refine ld_ ?_ (by with_unfolding_all rfl))
          refine bld_ (v := .agg #[i64 7, i64 l[i].at_]) (fun W => by kernel_rfl) ?_
          refine stoa_ ?_
          refine out23_0r ?_
          refine rcla_ (vs := [i64 7, i64 l[i].at_]) ?_ rfl rfl
          exact fin (f := (7, l[i].at_)) (bad (by rw [itW_eq, if_pos hk, if_neg htw, if_pos ⟨h3, hty⟩]) (by simp)) hm2
        · exact join23_1 (j1 hJ hx (hc.up hJ) (hb3.up hJ) hm2 (.inl ⟨hk, by rw [itW_eq, if_pos hk, if_neg htw, if_neg (fun h => hty h.2)]⟩))
      · (repeat with_reducible first | refine StA.h ‹_› ?_ | refine StB.h ‹_› ?_ | refine StG.h ?_ | refine StY.h ‹_› ?_ | refine StN.h ‹_› ?_ | refine StW.h ?_ | refine ld_ ?_ | refine lda_ ?_ | refine ldi_ ‹_› (by with_unfolding_all rfl) (by with_unfolding_all rfl) ?_ | refine ldi0_ ‹_› (by with_unfolding_all rfl) ?_ | refine ld_ ?_ (by with_unfolding_all rfl))
        exact join23_1 (j1 hJ hx (hc.up hJ) (hb3.up hJ) hm2 (.inl ⟨hk, by rw [itW_eq, if_pos hk, if_neg htw, if_neg (fun h => h3 h.1)]⟩))
    · exact join23_1 (j1 hJ hx (hc.up hJ) (hb3.up hJ) hn1 (.inr ⟨by simpa using hk, rfl⟩))
end Go.Proofs.YtkclodaplbalfaaDoor
