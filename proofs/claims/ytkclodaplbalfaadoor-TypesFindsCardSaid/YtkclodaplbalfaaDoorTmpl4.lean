/- The reader of templates: whole texts. Conditions: none. -/
import Derived.Test.YtkclodaplbalfaaDoorTmpl3
set_option linter.unusedVariables false
set_option linter.unusedSimpArgs false
set_option maxRecDepth 100000
namespace Go.Proofs.YtkclodaplbalfaaDoor
namespace Sl
open Go
theorem wpS.forgetB {P : Program} {α : Type} {s : Sem α} {I : Imm} {L r : Own} {K : α → Imm → Own → Prop} (b : Nat) {o : Obj} [hf : TakB L b o r] (h : wpS P s I r K) : wpS P s I L K :=
  wpS.forget [(b, o)] (hf := ⟨hf.h⟩) h
end Sl
open Go Sl
def NewEyesR (s : List UInt8) (v : Value) (J : Imm) (L : Own) : Prop := ∃ b p e a o, v = .tuple #[ptr b 0, .agg #[i64 e, i64 a]] ∧ L = [(b, o)] ∧ EyeAt J o p ∧ EyeOk p
theorem newEyes_ret {I : Imm} (hM : MaxL I) (s : List UInt8) (hs : s.length ≤ 1000000) : RetC Tryd.prog 10 #[S s] I [] (NewEyesR s) := by
  refine .of (go10 ?_)
  unfold M10
  refine al_ fun b3 => ?_
  refine cal_ret (L1 := []) (lex_ret hM s (by omega)) ?_
  rintro v I2 L2 hI2 ⟨A, c, l, e, a, rfl, hr, hc, ht, hln, rfl⟩
  refine ext_ (ext_ ?_)
  refine al_ fun b5 => ?_
  refine stoa_ ?_
  refine draw10_0 (C := fun _ L => (b5, Obj.cells #[i64 e, i64 a] 26 (0, 0)) ∈ L) (List.mem_cons.2 (.inl rfl)) ?_
  unfold G10_0
  refine qS_of (fun I L _ => rd_slen) ?_
  refine qcal_pure good_pure ?_
  refine qS_of (v := .agg #[.slice A l.length c, i64 s.length, i64 0, i64 (-1)]) (fun I L _ => .of_run fun W => by kernel_rfl) ?_
  refine qS_of (v := .agg #[i64 e, i64 a]) (fun I L h => rd_lda (vs := [i64 e, i64 a]) (fun F W hs => hs.has h) rfl rfl) ?_
  refine bx_ fun b => ?_
  refine ⟨List.mem_cons.2 (.inr (List.mem_cons.2 (.inl rfl))), ?_⟩
  refine stoa_ ?_
  refine join10_1 ?_
  unfold T10_1
  refine rcla_ (vs := [i64 e, i64 a]) ?_ rfl rfl
  refine fin_ret (L1 := [(b, .cells (Value.agg #[.slice A l.length c, i64 s.length, i64 0, i64 (-1)]).cells 40)]) fun J hJ => ⟨b, ⟨l, s.length, 0, -1⟩, e, a, _, rfl, rfl, ⟨A, c, rfl, hr.up hJ, hc⟩, fun t h => ?_, by show l.length ≤ 3000000; omega⟩
  have := ht t h
  omega
/-- A template. -/
structure Ty where
  name : List UInt8
  at_ : Int
  items : List It
def TyR (I : Imm) (t : Ty) (vs : List Value) : Prop := ∃ A c ws, vs = [S t.name, i64 t.at_, .slice A t.items.length c] ∧ ItsR I t.items ws ∧ RSl I A ws ∧ t.items.length ≤ c
def TysR (I : Imm) : List Ty → List Value → Prop
  | [], vs => vs = []
  | x :: l, vs => ∃ v1 v2, vs = v1 ++ v2 ∧ TyR I x v1 ∧ TysR I l v2
theorem TyR.up {I J : Imm} (hle : I.Le J) {t : Ty} {vs : List Value} (h : TyR I t vs) : TyR J t vs := by
  obtain ⟨A, c, ws, h1, h2, h3, h4⟩ := h
  exact ⟨A, c, ws, h1, h2.up hle, h3.up hle, h4⟩
theorem TysR.up {I J : Imm} (hle : I.Le J) : ∀ {l : List Ty} {vs : List Value}, TysR I l vs → TysR J l vs
  | [], vs, h => h
  | x :: l, vs, ⟨v1, v2, h1, h2, h3⟩ => ⟨v1, v2, h1, h2.up hle, h3.up hle⟩
theorem TysR.append {I : Imm} : ∀ {l m : List Ty} {vs ws : List Value}, TysR I l vs → TysR I m ws → TysR I (l ++ m) (vs ++ ws)
  | [], m, vs, ws, h, k => by
    simp only [TysR] at h
    subst h
    exact k
  | x :: l, m, vs, ws, ⟨v1, v2, h1, h2, h3⟩, k => ⟨v1, v2 ++ ws, by rw [h1, List.append_assoc], h2, h3.append k⟩
theorem Eye.must_lt (p : Eye) (s : List UInt8) (h : ¬ p.stop) (hs : s ≠ []) : (p.must s).meas < p.meas := by
  have hp := Eye.meas_pos h
  by_cases ht : p.text = s
  · have h1 : p.takes s = true := decide_eq_true ht
    have e : p.must s = p.pass := by
      unfold Eye.must
      rw [if_pos h1]
      exact if_pos ht
    rw [e]
    exact p.pass_lt (by rw [ht]; exact hs)
  · have h1 : p.takes s = false := decide_eq_false ht
    have e : p.must s = (p.take s).bad 3 (p.take s).place := if_neg (by simp [h1])
    rw [e, Eye.meas_stop (Eye.bad_stop _ _ _ (by decide))]
    exact hp
def TmplR (v : Value) (J : Imm) (L : Own) : Prop := ∃ l : List Ty, ∃ A c e a vs, v = .tuple #[.slice A l.length c, .agg #[i64 e, i64 a]] ∧ TysR J l vs ∧ RSl J A vs ∧ l.length ≤ c ∧ (∀ t ∈ l, ∀ x ∈ t.items, Wf 8 x) ∧ (∀ t ∈ l, t.items.length ≤ 16) ∧ l.length ≤ 9 ∧ (e = 0 → l.length ≤ 8 ∧ ∀ t ∈ l, ∀ x ∈ t.items, WfG x) ∧ L = []
structure TmSt (I : Imm) (v : Value) (l : List Ty) (vs : List Value) (L1 : Own) (q : Eye) (o : Obj) : Prop where
  s : OSl 47 3 v l.length vs L1
  r : TysR I l vs
  w : ∀ t ∈ l, ∀ x ∈ t.items, Wf 8 x
  i : ∀ t ∈ l, t.items.length ≤ 16
  n : l.length ≤ 9
  d : l.length = 9 → q.stop
  o : EyeAt I o q
  k : EyeOk q
  g : ¬ q.stop → ∀ t ∈ l, ∀ x ∈ t.items, WfG x
theorem ld_eyes {I : Imm} {L : Own} {k : KV} {b : Nat} {o : Obj} {p : Eye} [hb : HasB L b o] (h : EyeAt I o p) (k' : ∀ A c, k (.slice A p.l.length c) I L) : ld Tryd.prog 38 (ptr b 0) I L k := by
  obtain ⟨A, c, rfl, _⟩ := h
  exact ld_ (h := ⟨hb.h⟩) (k' A c)
theorem tmplParse_ret {I : Imm} (hM : MaxL I) (s : List UInt8) (hs : s.length ≤ 1000000) : RetC Tryd.prog 5 #[S s] I [] TmplR := by
  refine .of (go5 ?_)
  unfold M5
  refine al_ fun b3 => ?_
  refine cal_ret (L1 := []) (newEyes_ret hM s hs) ?_
  rintro v I2 L2 hI2 ⟨b, p, e, a, o, rfl, rfl, hp, hok⟩
  refine ext_ (ext_ ?_)
  refine al_ fun b5 => ?_
  refine stoa_ ?_
  refine lda_ (vs := [i64 e, i64 a]) ?_ rfl rfl
  refine cal_pure (Is_pure _ _) (not_ (cnd_ (fun he => ?_) (fun he => ?_)))
  · refine draw5_0 (C := fun _ L => (b5, Obj.cells #[i64 e, i64 a] 26 (0, 0)) ∈ L) (List.mem_cons.2 (.inl rfl)) ?_
    unfold G5_0
    refine qS_of (v := .agg #[i64 e, i64 a]) (fun I L h => rd_lda (vs := [i64 e, i64 a]) (fun F W hs => hs.has h) rfl rfl) ?_
    refine stoa_ ?_
    refine join5_2 ?_
    unfold T5_2
    refine rcla_ (vs := [i64 e, i64 a]) ?_ rfl rfl
    exact fin_ret (L1 := []) fun J hJ => ⟨[], none, 0, e, a, [], rfl, rfl, .inl rfl, Nat.le_refl _, by simp, by simp, by simp, by simp, rfl⟩
  refine loop5_1 (n := p.meas) (fun m x6 I L => MaxL I ∧ ∃ l vs L1 r o', TmSt I x6 l vs L1 r o' ∧ m = r.meas ∧ L = L1 ++ [(b5, .cells #[i64 e, i64 a] 26), (b, o'), (b3, .cells #[i64 0, i64 0] 26)])
    ⟨hM.up hI2, [], [], [], p, o, ⟨.nil, rfl, by simp, by simp, by simp, by simp, hp, hok, by simp⟩, rfl, rfl⟩ ?_
  rintro m x6 I3 L3 hI3 ⟨hM3, l, vs, L1, r, o3, hst, rfl, rfl⟩ N hN u
  obtain ⟨A6, c6, rfl⟩ := osl_slice hst.s
  have j4 : ∀ {zz : Env}, T5_4 (Fin fun e I' L' => ∃ v, e = .returned v ∧ TmplR v I' L') zz (ptr b3 0) (ptr b 0) (.slice A6 l.length c6) I3 (L1 ++ [(b5, .cells #[i64 e, i64 a] 26), (b, o3), (b3, .cells #[i64 0, i64 0] 26)]) := by
    intros
    unfold T5_4
    refine cal_ro (L1 := [(b, o3)]) (eyes_stop hst.o) (cnd_ (fun hs => ?_) (fun hs => ?_))
    · obtain ⟨A0, c0, he3, _⟩ := hst.o
      refine draw5_5 (C := fun _ L => (b, eyeO A0 c0 r) ∈ L) (by rw [he3]; simp) ?_
      unfold G5_5
      refine qS_of (v := ptr b 0) (fun I L _ => .of_run fun W => rfl) ?_
      refine qS_of (fun I L _ => rd_fad) ?_
      refine qS_of (v := .agg #[i64 r.e, i64 r.at_]) (fun I L h => rd_lda (vs := [i64 r.e, i64 r.at_]) (fun F W hs => hs.has h) rfl rfl) ?_
      refine stoa_ ?_
      refine join5_6 ?_
      unfold T5_6
      refine rcla_ (vs := [i64 r.e, i64 r.at_]) ?_ rfl rfl
      exact fin_ret (L1 := []) fun J hJ => ⟨[], none, 0, r.e, r.at_, [], rfl, rfl, .inl rfl, Nat.le_refl _, by simp, by simp, by simp, by simp, rfl⟩
    · refine cal_pure good_pure ?_
      refine stoa_ ?_
      refine rcla_ (vs := [i64 0, i64 (-1)]) ?_ rfl rfl
      refine fin_retZ L1 (L1 := []) fun J hJ hz => ?_
      obtain ⟨A, c, e, hr, hc⟩ := osl_rsl hst.s hz
      exact ⟨l, A, c, 0, -1, vs, by rw [e], hst.r.up hJ, hr, hc, hst.w, hst.i, hst.n, fun _ => ⟨by
        have h1 := hst.n
        have h2 := hst.d
        by_cases h : l.length = 9
        · exact absurd (h2 h) hs
        · omega, hst.g hs⟩, rfl⟩
  unfold B5_1
  refine cal_ro (L1 := [(b, o3)]) (eyes_stop hst.o) (not_ ?_)
  by_cases hs : ¬ r.stop
  · have hn8 : l.length ≤ 8 := by
      have h1 := hst.n
      have h2 := hst.d
      by_cases h : l.length = 9
      · exact absurd (h2 h) hs
      · omega
    (repeat with_reducible first | refine StG.h ?_ | refine StY.h ‹_› ?_ | refine StN.h ‹_› ?_)
    refine nck_ ?_
    (repeat with_reducible first | refine StG.h ?_ | refine StY.h ‹_› ?_ | refine StN.h ‹_› ?_)
    refine fad_ ?_
    (repeat with_reducible first | refine StG.h ?_ | refine StY.h ‹_› ?_ | refine StN.h ‹_› ?_)
    refine ld_eyes hst.o fun A c => ?_
    (repeat with_reducible first | refine StG.h ?_ | refine StY.h ‹_› ?_ | refine StN.h ‹_› ?_)
    refine vlen_ ?_
    (repeat with_reducible first | refine StG.h ?_ | refine StY.h ‹_› ?_ | refine StN.h ‹_› ?_)
    refine cnd_ (fun hl => ?_) (fun hl => out5_1x0 (join5_4 j4))
    refine cal_ro (L1 := [(b, o3)]) (eyes_text hst.o) (seq_ ?_)
    by_cases ht : r.text = [115, 116, 114, 117, 99, 116]
    · (repeat with_reducible first | refine StG.h ?_ | refine StY.h ‹_› ?_ | refine StN.h ‹_› ?_)
      refine vlen_ ?_
      (repeat with_reducible first | refine StG.h ?_ | refine StY.h ‹_› ?_ | refine StN.h ‹_› ?_)
      refine cnd_ (fun hg => ?_) (fun hg => ?_)
      · refine cal_ro (L1 := [(b, o3)]) (eyes_place hst.o) ?_
        refine cal_mut (eyes_wrong hst.o 4 _) fun v I4 o4 hI4 ⟨hv, hq⟩ => ?_
        have hle := r.bad_le 4 r.place (by decide)
        have hcase : (r.bad 4 r.place).stop ∨ l.length ≤ 7 ∨ (r.bad 4 r.place).text ≠ [115, 116, 114, 117, 99, 116] := .inl (r.bad_stop _ _ (by decide))
        generalize r.bad 4 r.place = q at *
        refine join5_3 ?_
        unfold T5_3
        refine cal_mut (eyes_must hq _) fun v I5 o5 hI5 ⟨hv, ho5⟩ => ?_
        refine cal_ro (L1 := [(b, o5)]) (eyes_place ho5) ?_
        refine bld_ (v := .agg #[S [], i64 (q.must [115, 116, 114, 117, 99, 116]).place, .slice none 0 0]) (fun W => by kernel_rfl) ?_
        refine al_ fun b7 => ?_
        refine stoa_ ?_
        have hle5 := (q.must_le [115, 116, 114, 117, 99, 116]).trans hle
        have hm5 : (q.must [115, 116, 114, 117, 99, 116]).meas < r.meas := by
          by_cases h : q.stop
          · rw [Eye.meas_stop ((q.must_le _).s h)]
            exact Eye.meas_pos hs
          · have h1 := q.must_lt [115, 116, 114, 117, 99, 116] h (by simp)
            have h2 := hle.meas
            omega
        have hst5 : l.length = 8 → (q.must [115, 116, 114, 117, 99, 116]).stop := fun h8 => by
          rcases hcase with h | h | h
          · exact (q.must_le _).s h
          · omega
          · have h1 : q.takes [115, 116, 114, 117, 99, 116] = false := decide_eq_false h
            have e : q.must [115, 116, 114, 117, 99, 116] = (q.take [115, 116, 114, 117, 99, 116]).bad 3 (q.take [115, 116, 114, 117, 99, 116]).place := if_neg (by simp [h1])
            rw [e]
            exact Eye.bad_stop _ _ _ (by decide)
        generalize q.must [115, 116, 114, 117, 99, 116] = q5 at *
        refine cal_mut (eyes_name ((hM3.up hI4).up hI5) ho5 (hle5.ok hst.k)) fun v I6 o6 hI6 ⟨hv, ho6⟩ => ?_
        subst hv
        refine fad_ ?_
        refine sto_ ?_
        refine cal_mut (block_mut _ I6 b o6 q5.name 1 ((hM3.up hI4).up (hI5.trans hI6)) ho6 ((q5.name_le.trans hle5).ok hst.k) (by decide) (by decide) (Nat.le_refl _)) fun v I7 o7 hI7 ⟨its, A7, c7, q7, vs7, hv, hr7, hA7, hc7, hw7, hg7, hn7, ho7, hle7⟩ => ?_
        subst hv
        refine fad_ ?_
        refine sto_ ?_
        refine lda_ (vs := [S q5.text, i64 q5.place, .slice A7 its.length c7]) ?_ rfl rfl
        refine bslf_ (cells := #[S q5.text, i64 q5.place, .slice A7 its.length c7]) (by kernel_rfl) fun b8 J hJ hr8 => ?_
        refine wpS.forgetB b7 ?_
        refine app_ hst.s (m := 1) (.imm hr8) (by rfl) (by simp [plainV]) (fun v' L1' ho' _ => ?_) (by omega) (by omega)
        have hI37 := hI4.trans (hI5.trans (hI6.trans (hI7.trans hJ)))
        have hm7 := (hle7.trans q5.name_le).meas
        refine hN q7.meas (by omega) ⟨hM3.up hI37, l ++ [⟨q5.text, q5.place, its⟩], vs ++ [S q5.text, i64 q5.place, .slice A7 its.length c7], L1', q7, o7, ⟨by simpa using ho', ?_, ?_, ?_, by simp; omega, fun h9 => (hle7.trans q5.name_le).s (hst5 (by simpa using h9)), ho7.up hJ, (hle7.trans (q5.name_le.trans hle5)).ok hst.k, ?_⟩, rfl, rfl⟩
        · refine TysR.append (hst.r.up hI37) ⟨_, [], by simp, ⟨A7, c7, vs7, rfl, hr7.up hJ, hA7.up hJ, hc7⟩, rfl⟩
        · intro t ht
          rcases List.mem_append.1 ht with ht | ht
          · exact hst.w t ht
          · rw [List.mem_singleton] at ht
            subst ht
            exact hw7
        · intro t ht
          rcases List.mem_append.1 ht with ht | ht
          · exact hst.i t ht
          · rw [List.mem_singleton] at ht
            subst ht
            exact hn7
        · intro hs7 t ht
          rcases List.mem_append.1 ht with ht | ht
          · exact hst.g (fun h => hs7 ((hle7.trans (q5.name_le.trans hle5)).s h)) t ht
          · rw [List.mem_singleton] at ht
            subst ht
            exact hg7 hs7
      · obtain ⟨q, hqe⟩ : ∃ q, q = r := ⟨r, rfl⟩
        have hq : EyeAt I3 o3 q := by rw [hqe]; exact hst.o
        have hle : q.Le r := by rw [hqe]; exact .refl r
        have hI4 := Imm.Le.refl I3
        have hcase : q.stop ∨ l.length ≤ 7 ∨ q.text ≠ [115, 116, 114, 117, 99, 116] := .inr (.inl (by omega))
        refine join5_3 ?_
        unfold T5_3
        refine cal_mut (eyes_must hq _) fun v I5 o5 hI5 ⟨hv, ho5⟩ => ?_
        refine cal_ro (L1 := [(b, o5)]) (eyes_place ho5) ?_
        refine bld_ (v := .agg #[S [], i64 (q.must [115, 116, 114, 117, 99, 116]).place, .slice none 0 0]) (fun W => by kernel_rfl) ?_
        refine al_ fun b7 => ?_
        refine stoa_ ?_
        have hle5 := (q.must_le [115, 116, 114, 117, 99, 116]).trans hle
        have hm5 : (q.must [115, 116, 114, 117, 99, 116]).meas < r.meas := by
          by_cases h : q.stop
          · rw [Eye.meas_stop ((q.must_le _).s h)]
            exact Eye.meas_pos hs
          · have h1 := q.must_lt [115, 116, 114, 117, 99, 116] h (by simp)
            have h2 := hle.meas
            omega
        have hst5 : l.length = 8 → (q.must [115, 116, 114, 117, 99, 116]).stop := fun h8 => by
          rcases hcase with h | h | h
          · exact (q.must_le _).s h
          · omega
          · have h1 : q.takes [115, 116, 114, 117, 99, 116] = false := decide_eq_false h
            have e : q.must [115, 116, 114, 117, 99, 116] = (q.take [115, 116, 114, 117, 99, 116]).bad 3 (q.take [115, 116, 114, 117, 99, 116]).place := if_neg (by simp [h1])
            rw [e]
            exact Eye.bad_stop _ _ _ (by decide)
        generalize q.must [115, 116, 114, 117, 99, 116] = q5 at *
        refine cal_mut (eyes_name ((hM3.up hI4).up hI5) ho5 (hle5.ok hst.k)) fun v I6 o6 hI6 ⟨hv, ho6⟩ => ?_
        subst hv
        refine fad_ ?_
        refine sto_ ?_
        refine cal_mut (block_mut _ I6 b o6 q5.name 1 ((hM3.up hI4).up (hI5.trans hI6)) ho6 ((q5.name_le.trans hle5).ok hst.k) (by decide) (by decide) (Nat.le_refl _)) fun v I7 o7 hI7 ⟨its, A7, c7, q7, vs7, hv, hr7, hA7, hc7, hw7, hg7, hn7, ho7, hle7⟩ => ?_
        subst hv
        refine fad_ ?_
        refine sto_ ?_
        refine lda_ (vs := [S q5.text, i64 q5.place, .slice A7 its.length c7]) ?_ rfl rfl
        refine bslf_ (cells := #[S q5.text, i64 q5.place, .slice A7 its.length c7]) (by kernel_rfl) fun b8 J hJ hr8 => ?_
        refine wpS.forgetB b7 ?_
        refine app_ hst.s (m := 1) (.imm hr8) (by rfl) (by simp [plainV]) (fun v' L1' ho' _ => ?_) (by omega) (by omega)
        have hI37 := hI4.trans (hI5.trans (hI6.trans (hI7.trans hJ)))
        have hm7 := (hle7.trans q5.name_le).meas
        refine hN q7.meas (by omega) ⟨hM3.up hI37, l ++ [⟨q5.text, q5.place, its⟩], vs ++ [S q5.text, i64 q5.place, .slice A7 its.length c7], L1', q7, o7, ⟨by simpa using ho', ?_, ?_, ?_, by simp; omega, fun h9 => (hle7.trans q5.name_le).s (hst5 (by simpa using h9)), ho7.up hJ, (hle7.trans (q5.name_le.trans hle5)).ok hst.k, ?_⟩, rfl, rfl⟩
        · refine TysR.append (hst.r.up hI37) ⟨_, [], by simp, ⟨A7, c7, vs7, rfl, hr7.up hJ, hA7.up hJ, hc7⟩, rfl⟩
        · intro t ht
          rcases List.mem_append.1 ht with ht | ht
          · exact hst.w t ht
          · rw [List.mem_singleton] at ht
            subst ht
            exact hw7
        · intro t ht
          rcases List.mem_append.1 ht with ht | ht
          · exact hst.i t ht
          · rw [List.mem_singleton] at ht
            subst ht
            exact hn7
        · intro hs7 t ht
          rcases List.mem_append.1 ht with ht | ht
          · exact hst.g (fun h => hs7 ((hle7.trans (q5.name_le.trans hle5)).s h)) t ht
          · rw [List.mem_singleton] at ht
            subst ht
            exact hg7 hs7
    · (repeat with_reducible first | refine StG.h ?_ | refine StY.h ‹_› ?_ | refine StN.h ‹_› ?_)
      obtain ⟨q, hqe⟩ : ∃ q, q = r := ⟨r, rfl⟩
      have hq : EyeAt I3 o3 q := by rw [hqe]; exact hst.o
      have hle : q.Le r := by rw [hqe]; exact .refl r
      have hI4 := Imm.Le.refl I3
      have hcase : q.stop ∨ l.length ≤ 7 ∨ q.text ≠ [115, 116, 114, 117, 99, 116] := .inr (.inr (by rw [hqe]; exact ht))
      refine join5_3 ?_
      unfold T5_3
      refine cal_mut (eyes_must hq _) fun v I5 o5 hI5 ⟨hv, ho5⟩ => ?_
      refine cal_ro (L1 := [(b, o5)]) (eyes_place ho5) ?_
      refine bld_ (v := .agg #[S [], i64 (q.must [115, 116, 114, 117, 99, 116]).place, .slice none 0 0]) (fun W => by kernel_rfl) ?_
      refine al_ fun b7 => ?_
      refine stoa_ ?_
      have hle5 := (q.must_le [115, 116, 114, 117, 99, 116]).trans hle
      have hm5 : (q.must [115, 116, 114, 117, 99, 116]).meas < r.meas := by
        by_cases h : q.stop
        · rw [Eye.meas_stop ((q.must_le _).s h)]
          exact Eye.meas_pos hs
        · have h1 := q.must_lt [115, 116, 114, 117, 99, 116] h (by simp)
          have h2 := hle.meas
          omega
      have hst5 : l.length = 8 → (q.must [115, 116, 114, 117, 99, 116]).stop := fun h8 => by
        rcases hcase with h | h | h
        · exact (q.must_le _).s h
        · omega
        · have h1 : q.takes [115, 116, 114, 117, 99, 116] = false := decide_eq_false h
          have e : q.must [115, 116, 114, 117, 99, 116] = (q.take [115, 116, 114, 117, 99, 116]).bad 3 (q.take [115, 116, 114, 117, 99, 116]).place := if_neg (by simp [h1])
          rw [e]
          exact Eye.bad_stop _ _ _ (by decide)
      generalize q.must [115, 116, 114, 117, 99, 116] = q5 at *
      refine cal_mut (eyes_name ((hM3.up hI4).up hI5) ho5 (hle5.ok hst.k)) fun v I6 o6 hI6 ⟨hv, ho6⟩ => ?_
      subst hv
      refine fad_ ?_
      refine sto_ ?_
      refine cal_mut (block_mut _ I6 b o6 q5.name 1 ((hM3.up hI4).up (hI5.trans hI6)) ho6 ((q5.name_le.trans hle5).ok hst.k) (by decide) (by decide) (Nat.le_refl _)) fun v I7 o7 hI7 ⟨its, A7, c7, q7, vs7, hv, hr7, hA7, hc7, hw7, hg7, hn7, ho7, hle7⟩ => ?_
      subst hv
      refine fad_ ?_
      refine sto_ ?_
      refine lda_ (vs := [S q5.text, i64 q5.place, .slice A7 its.length c7]) ?_ rfl rfl
      refine bslf_ (cells := #[S q5.text, i64 q5.place, .slice A7 its.length c7]) (by kernel_rfl) fun b8 J hJ hr8 => ?_
      refine wpS.forgetB b7 ?_
      refine app_ hst.s (m := 1) (.imm hr8) (by rfl) (by simp [plainV]) (fun v' L1' ho' _ => ?_) (by omega) (by omega)
      have hI37 := hI4.trans (hI5.trans (hI6.trans (hI7.trans hJ)))
      have hm7 := (hle7.trans q5.name_le).meas
      refine hN q7.meas (by omega) ⟨hM3.up hI37, l ++ [⟨q5.text, q5.place, its⟩], vs ++ [S q5.text, i64 q5.place, .slice A7 its.length c7], L1', q7, o7, ⟨by simpa using ho', ?_, ?_, ?_, by simp; omega, fun h9 => (hle7.trans q5.name_le).s (hst5 (by simpa using h9)), ho7.up hJ, (hle7.trans (q5.name_le.trans hle5)).ok hst.k, ?_⟩, rfl, rfl⟩
      · refine TysR.append (hst.r.up hI37) ⟨_, [], by simp, ⟨A7, c7, vs7, rfl, hr7.up hJ, hA7.up hJ, hc7⟩, rfl⟩
      · intro t ht
        rcases List.mem_append.1 ht with ht | ht
        · exact hst.w t ht
        · rw [List.mem_singleton] at ht
          subst ht
          exact hw7
      · intro t ht
        rcases List.mem_append.1 ht with ht | ht
        · exact hst.i t ht
        · rw [List.mem_singleton] at ht
          subst ht
          exact hn7
      · intro hs7 t ht
        rcases List.mem_append.1 ht with ht | ht
        · exact hst.g (fun h => hs7 ((hle7.trans (q5.name_le.trans hle5)).s h)) t ht
        · rw [List.mem_singleton] at ht
          subst ht
          exact hg7 hs7
  · (repeat with_reducible first | refine StG.h ?_ | refine StY.h ‹_› ?_ | refine StN.h ‹_› ?_)
    exact out5_1x0 (join5_4 j4)
end Go.Proofs.YtkclodaplbalfaaDoor
