/- The reader of expressions. Conditions: none. -/
import Derived.Test.YtkclodaplbalfaaDoorLex
set_option linter.unusedVariables false
set_option linter.unusedSimpArgs false
set_option maxRecDepth 100000
namespace Go.Proofs.YtkclodaplbalfaaDoor
open Go Sl

/-- An expression. -/
inductive Ex where
  | nil
  | num (at_ n : Int)
  | name (at_ : Int) (s : List UInt8)
  | bin (at_ : Int) (op : List UInt8) (l r : Ex)
def ExR (I : Imm) : Ex → Value → Prop
  | .nil, v => v = .pointer none
  | .num a n, v => ∃ b, v = ptr b 0 ∧ RdAt I b 0 [i64 1, i64 a, i64 n, S [], S [], .pointer none, .pointer none]
  | .name a s, v => ∃ b, v = ptr b 0 ∧ RdAt I b 0 [i64 2, i64 a, i64 0, S s, S [], .pointer none, .pointer none]
  | .bin a op l r, v => ∃ b u w, v = ptr b 0 ∧ RdAt I b 0 [i64 3, i64 a, i64 0, S [], S op, u, w] ∧ ExR I l u ∧ ExR I r w
theorem ExR.up {I J : Imm} (hle : I.Le J) : ∀ {x : Ex} {v : Value}, ExR I x v → ExR J x v
  | .nil, v, h => h
  | .num a n, v, ⟨b, e, h⟩ => ⟨b, e, h.up hle⟩
  | .name a s, v, ⟨b, e, h⟩ => ⟨b, e, h.up hle⟩
  | .bin a op l r, v, ⟨b, u, w, e, h, hl, hr⟩ => ⟨b, u, w, e, h.up hle, hl.up hle, hr.up hle⟩
theorem ExR.plain {I : Imm} {x : Ex} {v : Value} (h : ExR I x v) : plainV v = true := by
  cases x with
  | nil => cases h; rfl
  | num a n => obtain ⟨b, rfl, _⟩ := h; rfl
  | name a s => obtain ⟨b, rfl, _⟩ := h; rfl
  | bin a op l r => obtain ⟨b, u, w, rfl, _⟩ := h; rfl
theorem ExR.ptr {I : Imm} {x : Ex} {v : Value} (h : ExR I x v) : ∃ a, v = .pointer a := by
  cases x with
  | nil => exact ⟨_, h⟩
  | num a n => obtain ⟨b, rfl, _⟩ := h; exact ⟨_, rfl⟩
  | name a s => obtain ⟨b, rfl, _⟩ := h; exact ⟨_, rfl⟩
  | bin a op l r => obtain ⟨b, u, w, rfl, _⟩ := h; exact ⟨_, rfl⟩
/-- The names of an expression, from the left. -/
def Ex.names : Ex → List (Int × List UInt8)
  | .nil => []
  | .num _ _ => []
  | .name a s => [(a, s)]
  | .bin _ _ l r => l.names ++ r.names
/-- There is nothing missing in it. -/
def Ex.ok : Ex → Prop
  | .nil => False
  | .num _ _ => True
  | .name _ _ => True
  | .bin _ op l r => 0 < holdZ op ∧ l.ok ∧ r.ok
/-- q comes of p by reading on. -/
structure Eye.Le (q p : Eye) : Prop where
  l : ∃ n, q.l = p.l.drop n
  s : p.stop → q.stop
  en : q.en = p.en
theorem Eye.Le.refl (p : Eye) : p.Le p := ⟨⟨0, rfl⟩, id, rfl⟩
theorem Eye.Le.trans {r q p : Eye} (h : r.Le q) (k : q.Le p) : r.Le p := by
  obtain ⟨⟨n, h1⟩, h2, h3⟩ := h
  obtain ⟨⟨m, k1⟩, k2, k3⟩ := k
  exact ⟨⟨m + n, by rw [h1, k1, List.drop_drop]⟩, fun h => h2 (k2 h), h3.trans k3⟩
def Eye.meas (p : Eye) : Nat := if p.stop then 0 else p.l.length + 1
theorem Eye.Le.meas {q p : Eye} (h : q.Le p) : q.meas ≤ p.meas := by
  obtain ⟨⟨n, h1⟩, h2, h3⟩ := h
  unfold Eye.meas
  by_cases hq : q.stop
  · simp [hq]
  · have hp : ¬ p.stop := fun hp => hq (h2 hp)
    simp only [hq, hp, if_false, h1, List.length_drop]
    omega
theorem Eye.bad_le (p : Eye) (e a : Int) (he : e ≠ 0) : (p.bad e a).Le p := by
  unfold Eye.bad
  split
  · exact .refl p
  · exact ⟨⟨0, rfl⟩, fun _ => he, rfl⟩
theorem Eye.bad_stop (p : Eye) (e a : Int) (he : e ≠ 0) : (p.bad e a).stop := by
  unfold Eye.bad
  split
  · assumption
  · exact he
theorem Eye.pass_le (p : Eye) : p.pass.Le p := by
  unfold Eye.pass
  split
  · exact Eye.bad_le p 3 _ (by decide)
  · exact ⟨⟨1, by simp⟩, id, rfl⟩
theorem Eye.pass_lt (p : Eye) (h : p.text ≠ []) : p.pass.meas < p.meas := by
  have hs : ¬ p.stop := fun hs => h (by simp [Eye.text, hs])
  have hl : p.l ≠ [] := fun e => h (by simp [Eye.text, e])
  have hpos := List.length_pos_iff.2 hl
  have e : p.pass = { p with l := p.l.tail } := if_neg h
  rw [e]
  have hs2 : ¬ ({ p with l := p.l.tail } : Eye).stop := hs
  unfold Eye.meas
  rw [if_neg hs, if_neg hs2]
  simp only [List.length_tail]
  omega
theorem Eye.take_le (p : Eye) (s : List UInt8) : (p.take s).Le p := by
  unfold Eye.take
  split
  · exact p.pass_le
  · exact .refl p
theorem Eye.must_le (p : Eye) (s : List UInt8) : (p.must s).Le p := by
  unfold Eye.must
  split
  · exact p.take_le s
  · exact (Eye.bad_le _ 3 _ (by decide)).trans (p.take_le s)
def EyeOk (p : Eye) : Prop := (∀ t ∈ p.l, t.s.length ≤ 1000000) ∧ p.l.length ≤ 3000000
theorem Eye.Le.ok {q p : Eye} (h : q.Le p) (k : EyeOk p) : EyeOk q := by
  obtain ⟨⟨n, h1⟩, _⟩ := h
  refine ⟨fun t ht => ?_, ?_⟩
  · rw [h1] at ht
    exact k.1 t (List.mem_of_mem_drop ht)
  · have := k.2
    rw [h1, List.length_drop]
    omega
/-- How many tokens are left, and one if nothing is wrong. -/
def Eye.rem (p : Eye) : Nat := if p.stop then p.l.length else p.l.length + 1
theorem Eye.Le.rem {q p : Eye} (h : q.Le p) : q.rem ≤ p.rem := by
  obtain ⟨⟨n, h1⟩, h2, _⟩ := h
  unfold Eye.rem
  by_cases hp : p.stop
  · rw [if_pos hp, if_pos (h2 hp), h1, List.length_drop]
    omega
  · rw [if_neg hp]
    split <;> (rw [h1, List.length_drop]; omega)
theorem Eye.pass_rem (p : Eye) (h : p.text ≠ []) : p.pass.rem + 1 ≤ p.rem := by
  have hs : ¬ p.stop := fun hs => h (by simp [Eye.text, hs])
  have hl : p.l ≠ [] := fun e => h (by simp [Eye.text, e])
  have hpos := List.length_pos_iff.2 hl
  have e : p.pass = { p with l := p.l.tail } := if_neg h
  rw [e]
  have hs2 : ¬ ({ p with l := p.l.tail } : Eye).stop := hs
  unfold Eye.rem
  rw [if_neg hs, if_neg hs2]
  simp only [List.length_tail]
  omega
theorem Eye.bad_pass_rem (p : Eye) (e a : Int) (he : e ≠ 0) (hs : ¬ p.stop) : (p.bad e a).pass.rem + 1 ≤ p.rem := by
  have h1 := p.bad_stop e a he
  have h2 := (p.bad e a).pass_le.s h1
  have h3 := ((p.bad e a).pass_le.trans (p.bad_le e a he)).l
  obtain ⟨n, h3⟩ := h3
  unfold Eye.rem
  rw [if_neg hs, if_pos h2, h3, List.length_drop]
  omega
theorem EyeOk.rem {p : Eye} (k : EyeOk p) : p.rem ≤ 3000001 := by
  have := k.2
  unfold Eye.rem
  split <;> omega
theorem EyeOk.text {p : Eye} (k : EyeOk p) : p.text.length ≤ 1000000 := by
  unfold Eye.text
  split
  · simp
  · split
    · simp
    · rename_i t r e
      exact k.1 t (by rw [e]; simp)

/-- What reading an expression leaves. -/
def ExprPost (p : Eye) (v : Value) (I : Imm) (o : Obj) : Prop := ∃ x q, ExR I x v ∧ EyeAt I o q ∧ q.Le p ∧ x.names.length + q.rem ≤ p.rem ∧ (¬ q.stop → x.ok)

structure ExrSt (I : Imm) (m : Nat) (x : Ex) (v : Value) (p q : Eye) (o : Obj) : Prop where
  xr : ExR I x v
  o : EyeAt I o q
  le : q.Le p
  m : m = q.meas
  n : x.names.length + q.rem ≤ p.rem
  k : ¬ q.stop → x.ok
/-- What is said of expr, as far as n tokens go. -/
def ExprC (n : Nat) : Prop := ∀ (I : Imm) (b : Nat) (o : Obj) (p : Eye) (least deep : Int), EyeAt I o p → EyeOk p → (p.stop ∨ deep ≤ 8) → 0 ≤ deep → p.meas ≤ n → MutC Tryd.prog 43 #[ptr b 0, i64 least, i64 deep] I b o (ExprPost p)
theorem single_mut (n : Nat) (ih : ∀ m < n, ExprC m) : ∀ (I : Imm) (b : Nat) (o : Obj) (p : Eye) (deep : Int), EyeAt I o p → EyeOk p → (p.stop ∨ deep ≤ 8) → 0 ≤ deep → p.meas ≤ n → MutC Tryd.prog 55 #[ptr b 0, i64 deep] I b o (ExprPost p) := by
  intro I b o p deep hp hok hd hd0 hm
  refine .ofF (go55 ?_)
  unfold M55
  refine cal_ro (eyes_place hp) ?_
  refine cal_ro (eyes_text hp) ?_
  refine cal_ro (eyes_stop hp) (cnd_ (fun hs => ?_) (fun hs => ?_))
  · exact fin_mutF fun J hJ => ⟨.nil, p, rfl, hp.up hJ, .refl p, by simp [Ex.names], fun h => absurd hs h⟩
  have htl := hok.text
  refine seq_ (cnd_ (fun ht => ?_) (fun ht => ?_))
  · -- in brackets
    have fin : ∀ {zz : Env} {I : Imm} {o : Obj} {q : Eye}, EyeAt I o q → q.Le p → q.stop ∨ (deep ≤ 7 ∧ q = p) → T55_0 (Fin fun e I' L' => ∃ v o', e = .returned v ∧ L' = [(b, o')] ∧ ExprPost p v I' o') zz (ptr b 0) (i64 deep) I [(b, o)] := by
      intros
      rename_i I o q hq hle hqs
      unfold T55_0
      refine cal_mut (eyes_take hq _) fun v I2 o2 hI2 ⟨hv, ho2⟩ => ?_
      refine add64 ?_ (by omega) (by have := hd.resolve_left hs; omega)
      have hps : 0 < p.meas := by
        unfold Eye.meas
        rw [if_neg hs]
        omega
      have hm2 : (q.take [40]).meas < n := by
        rcases hqs with h | ⟨_, rfl⟩
        · have := ((q.take_le [40]).s h)
          unfold Eye.meas
          rw [if_pos this]
          omega
        · have : q.take [40] = q.pass := if_pos ht
          rw [this]
          have := Eye.pass_lt q (by rw [ht]; simp)
          omega
      refine cal_mut (ih _ hm2 I2 b o2 _ 1 (deep + 1) ho2 (((q.take_le _).trans hle).ok hok) (by
        rcases hqs with h | ⟨h, _⟩
        · exact .inl ((q.take_le _).s h)
        · exact .inr (by omega)) (by omega) (Nat.le_refl _)) fun v I3 o3 hI3 ⟨x, r, hx, hr, hrle, hxn, hxk⟩ => ?_
      refine cal_mut (eyes_must hr _) fun v I4 o4 hI4 ⟨hv, ho4⟩ => ?_
      exact fin_mutF fun J hJ => ⟨x, _, hx.up (hI4.trans hJ), ho4.up hJ, (r.must_le _).trans (hrle.trans ((q.take_le _).trans hle)), by
        have h1 := (r.must_le [41]).rem
        have h2 := (q.take_le [40]).rem
        have h3 := hle.rem
        omega, fun h => hxk fun hs => h ((r.must_le _).s hs)⟩
    refine geq_ (cnd_ (fun hge => ?_) (fun hge => ?_))
    · refine cal_mut (eyes_wrong hp 4 _) fun v I2 o2 hI2 ⟨hv, ho2⟩ => ?_
      exact join55_0 (fin ho2 (p.bad_le _ _ (by decide)) (.inl (p.bad_stop _ _ (by decide))))
    · exact join55_0 (fin hp (.refl p) (.inr ⟨by omega, rfl⟩))
  · refine cal_pure (isName_pure _) (cndb_ (fun hn => ?_) (fun hn => ?_))
    · have fin : ∀ {zz : Env} {I : Imm} {o : Obj} {q : Eye} {a : Int} {s : List UInt8}, EyeAt I o q → q.Le p → q.pass.rem + 1 ≤ p.rem → T55_1 (Fin fun e I' L' => ∃ v o', e = .returned v ∧ L' = [(b, o')] ∧ ExprPost p v I' o') zz (ptr b 0) (i64 a) (S s) I [(b, o)] := by
        intros
        rename_i I o q a s hq hle hqr
        unfold T55_1
        refine cal_mut (eyes_pass hq) fun v I2 o2 hI2 ⟨hv, ho2⟩ => ?_
        refine bld_ (v := .agg #[i64 2, i64 a, i64 0, S s, S [], .pointer none, .pointer none]) (fun W => by kernel_rfl) ?_
        refine bxf_ fun b2 J hJ hb2 => ?_
        exact fin_mutF fun K hK => ⟨.name a s, _, ⟨b2, rfl, (RdAt.of hb2 rfl).up hK⟩, ho2.up (hJ.trans hK), q.pass_le.trans hle, by simp only [Ex.names, List.length_singleton]; omega, fun _ => trivial⟩
      refine slen_ (gtr_ (cnd_ (fun hge => ?_) (fun hge => ?_)))
      · refine cal_mut (eyes_wrong hp 4 _) fun v I2 o2 hI2 ⟨hv, ho2⟩ => ?_
        exact join55_1 (fin ho2 (p.bad_le _ _ (by decide)) (p.bad_pass_rem _ _ (by decide) hs))
      · exact join55_1 (fin hp (.refl p) (p.pass_rem fun e => by rw [e] at hn; simp [IsNameB] at hn))
    · have last : ∀ {I : Imm} {o : Obj}, EyeAt I o p → cal Tryd.prog 13 #[ptr b 0, i64 3, i64 p.place] I [(b, o)] (xR (Fin fun e I' L' => ∃ v o', e = .returned v ∧ L' = [(b, o')] ∧ ExprPost p v I' o')) fun _ I L => (Fin fun e I' L' => ∃ v o', e = .returned v ∧ L' = [(b, o')] ∧ ExprPost p v I' o') (.returned (.pointer none)) I L := by
        intro I o hp
        refine cal_mut (eyes_wrong hp 3 _) fun v I2 o2 hI2 ⟨hv, ho2⟩ => ?_
        exact fin_mutF fun J hJ => ⟨.nil, _, rfl, ho2.up hJ, p.bad_le _ _ (by decide), by simp only [Ex.names, List.length_nil, Nat.zero_add]; exact (p.bad_le _ _ (by decide)).rem, fun h => absurd (p.bad_stop _ _ (by decide)) h⟩
      refine sne_ ?_
      by_cases hne : p.text ≠ []
      · have hpos := List.length_pos_iff.2 hne
        (repeat with_reducible first | refine StG.h ?_ | refine StY.h ‹_› ?_ | refine StN.h ‹_› ?_ | refine StW.h ?_ | refine ld_ ?_ | refine lda_ ?_)
        refine sidx_ ?_ (by omega) (by omega)
        (repeat with_reducible first | refine StG.h ?_ | refine StY.h ‹_› ?_ | refine StN.h ‹_› ?_ | refine StW.h ?_ | refine ld_ ?_ | refine lda_ ?_)
        refine cal_pure (isDigit_pure _) ?_
        (repeat with_reducible first | refine StG.h ?_ | refine StY.h ‹_› ?_ | refine StN.h ‹_› ?_ | refine StW.h ?_ | refine ld_ ?_ | refine lda_ ?_)
        refine cndb_ (fun hdg => ?_) (fun hdg => ?_)
        · have fin : ∀ {zz : Env} {I : Imm} {o : Obj} {q : Eye} {a m : Int}, EyeAt I o q → q.Le p → T55_2 (Fin fun e I' L' => ∃ v o', e = .returned v ∧ L' = [(b, o')] ∧ ExprPost p v I' o') zz (ptr b 0) (i64 a) (i64 m) I [(b, o)] := by
            intros
            rename_i I o q a m hq hle
            unfold T55_2
            refine cal_mut (eyes_pass hq) fun v I2 o2 hI2 ⟨hv, ho2⟩ => ?_
            refine bld_ (v := .agg #[i64 1, i64 a, i64 m, S [], S [], .pointer none, .pointer none]) (fun W => by kernel_rfl) ?_
            refine bxf_ fun b2 J hJ hb2 => ?_
            exact fin_mutF fun K hK => ⟨.num a m, _, ⟨b2, rfl, (RdAt.of hb2 rfl).up hK⟩, ho2.up (hJ.trans hK), q.pass_le.trans hle, by simp only [Ex.names, List.length_nil, Nat.zero_add]; exact (q.pass_le.trans hle).rem, fun _ => trivial⟩
          refine cal_pureE (number_pure _ (by omega)) ?_
          rintro v ⟨m, e, rfl⟩
          refine ext_ (ext_ (nei_ (cnd_ (fun he => ?_) (fun he => ?_))))
          · refine cal_mut (eyes_wrong hp e _) fun v I2 o2 hI2 ⟨hv, ho2⟩ => ?_
            exact join55_2 (fin ho2 (p.bad_le _ _ he))
          · exact join55_2 (fin hp (.refl p))
        · exact last hp
      · (repeat with_reducible first | refine StG.h ?_ | refine StY.h ‹_› ?_ | refine StN.h ‹_› ?_ | refine StW.h ?_ | refine ld_ ?_ | refine lda_ ?_)
        exact last hp
theorem expr_mut (n : Nat) : ExprC n := by
  induction n using Nat.strongRecOn with
  | _ n ih =>
  intro I b o p least deep hp hok hd hd0 hm
  refine .ofF (go43 ?_)
  unfold M43
  refine cal_mut (single_mut n ih I b o p deep hp hok hd hd0 hm) fun v I1 o1 hI1 ⟨x, q, hx, hq, hqle, hxn, hxk⟩ => ?_
  refine loop43_0 (n := q.meas) (fun m x7 I L => ∃ x q o', ExrSt I m x x7 p q o' ∧ L = [(b, o')]) ⟨x, q, o1, ⟨hx, hq, hqle, rfl, hxn, hxk⟩, rfl⟩ ?_
  rintro m x7 I2 L2 hle ⟨x, q, o2, ⟨hx, hq, hqle, rfl, hxn, hxk⟩, rfl⟩ N hN u
  have fin : ∀ {I : Imm}, I2.Le I → Fin (fun e I' L' => ∃ v o', e = .returned v ∧ L' = [(b, o')] ∧ ExprPost p v I' o') (.returned x7) I [(b, o2)] := fun hI => fin_mutF fun J hJ => ⟨x, q, hx.up (hI.trans hJ), hq.up (hI.trans hJ), hqle, hxn, hxk⟩
  unfold B43_0
  have out := fin (.refl _)
  refine cal_ro (eyes_stop hq) (not_ ?_)
  by_cases hs : ¬ q.stop
  · (repeat with_reducible first | refine StG.h ?_ | refine StY.h ‹_› ?_ | refine StN.h ‹_› ?_ | refine StW.h ?_ | refine ld_ ?_ | refine lda_ ?_)
    refine cal_ro (eyes_text hq) ?_
    (repeat with_reducible first | refine StG.h ?_ | refine StY.h ‹_› ?_ | refine StN.h ‹_› ?_ | refine StW.h ?_ | refine ld_ ?_ | refine lda_ ?_)
    refine cal_pure (hold_pure _) ?_
    (repeat with_reducible first | refine StG.h ?_ | refine StY.h ‹_› ?_ | refine StN.h ‹_› ?_ | refine StW.h ?_ | refine ld_ ?_ | refine lda_ ?_)
    by_cases hl : least ≤ holdZ q.text
    · (repeat with_reducible first | refine StG.h ?_ | refine StY.h ‹_› ?_ | refine StN.h ‹_› ?_ | refine StW.h ?_ | refine ld_ ?_ | refine lda_ ?_)
      refine cal_ro (eyes_text hq) ?_
      (repeat with_reducible first | refine StG.h ?_ | refine StY.h ‹_› ?_ | refine StN.h ‹_› ?_ | refine StW.h ?_ | refine ld_ ?_ | refine lda_ ?_)
      refine cal_pure (hold_pure _) ?_
      (repeat with_reducible first | refine StG.h ?_ | refine StY.h ‹_› ?_ | refine StN.h ‹_› ?_ | refine StW.h ?_ | refine ld_ ?_ | refine lda_ ?_)
      refine cnd_ (fun hh => ?_) (fun _ => out43_0x0 (join43_1 out))
      have ht : q.text ≠ [] := fun e => by rw [e] at hh; simp [holdZ] at hh
      have hlt := q.pass_lt ht
      refine cal_ro (eyes_place hq) ?_
      refine cal_ro (eyes_text hq) ?_
      refine cal_mut (eyes_pass hq) fun v I3 o3 hI3 ⟨hv, ho3⟩ => ?_
      refine cal_pure (hold_pure _) ?_
      have hz := holdZ_le q.text
      refine add64 ?_
      have hqm := hqle.meas
      refine cal_mut (ih _ (by omega) I3 b o3 _ (holdZ q.text + 1) deep ho3 ((q.pass_le.trans hqle).ok hok) (by
        rcases hd with h | h
        · exact .inl ((q.pass_le.trans hqle).s h)
        · exact .inr h) hd0 (Nat.le_refl _)) fun v I4 o4 hI4 ⟨y, r, hy, hr, hrle, hyn, hyk⟩ => ?_
      refine bld_ (v := .agg #[i64 3, i64 q.place, i64 0, S [], S q.text, x7, v]) (fun W => ?_) ?_
      · obtain ⟨a1, e1⟩ := hx.ptr
        obtain ⟨a2, e2⟩ := hy.ptr
        rw [e1, e2]
        kernel_rfl
      refine bxf_ fun b2 J hJ hb2 => ?_
      have hrm := hrle.meas
      exact hN r.meas (by omega) ⟨.bin q.place q.text x y, r, o4, ⟨⟨b2, _, _, rfl, RdAt.of hb2 rfl, hx.up (hI3.trans (hI4.trans hJ)), hy.up hJ⟩, hr.up hJ, hrle.trans (q.pass_le.trans hqle), rfl, by
        have := q.pass_le.rem
        simp only [Ex.names, List.length_append]
        omega, fun h => ⟨by omega, hxk fun hs => h ((hrle.trans q.pass_le).s hs), hyk h⟩⟩, rfl⟩
    · (repeat with_reducible first | refine StG.h ?_ | refine StY.h ‹_› ?_ | refine StN.h ‹_› ?_ | refine StW.h ?_ | refine ld_ ?_ | refine lda_ ?_)
      exact out43_0x0 (join43_1 out)
  · (repeat with_reducible first | refine StG.h ?_ | refine StY.h ‹_› ?_ | refine StN.h ‹_› ?_ | refine StW.h ?_ | refine ld_ ?_ | refine lda_ ?_)
    exact out43_0x0 (join43_1 out)
end Go.Proofs.YtkclodaplbalfaaDoor
