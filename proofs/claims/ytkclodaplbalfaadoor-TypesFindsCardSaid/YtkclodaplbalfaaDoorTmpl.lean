/- The reader of templates. Conditions: none. -/
import Derived.Test.YtkclodaplbalfaaDoorExpr
set_option linter.unusedVariables false
set_option linter.unusedSimpArgs false
set_option maxRecDepth 100000
namespace Go.Proofs.YtkclodaplbalfaaDoor
open Go Sl

/-- An item of a template. -/
structure It where
  kind : Int
  at_ : Int
  name : List UInt8
  type : List UInt8
  width : Int
  order : Int
  signed : Bool
  many : Bool
  count : Ex
  rule : Int
  first : List UInt8
  last : List UInt8
  items : List It
mutual
def ItR (I : Imm) : It → List Value → Prop
  | ⟨k, a, nm, ty, w, o, sg, mn, ct, rl, f, l, its⟩, vs => ∃ cp A c ws, vs = [i64 k, i64 a, S nm, S ty, i64 w, i64 o, .bool sg, .bool mn, cp, i64 rl, S f, S l, .slice A its.length c] ∧ ExR I ct cp ∧ ItsR I its ws ∧ RSl I A ws ∧ its.length ≤ c
def ItsR (I : Imm) : List It → List Value → Prop
  | [], vs => vs = []
  | x :: l, vs => ∃ v1 v2, vs = v1 ++ v2 ∧ ItR I x v1 ∧ ItsR I l v2
end
mutual
theorem ItR.up {I J : Imm} (hle : I.Le J) : ∀ (x : It) (vs : List Value), ItR I x vs → ItR J x vs
  | ⟨k, a, nm, ty, w, o, sg, mn, ct, rl, f, l, its⟩, vs, h => by
    simp only [ItR] at h ⊢
    obtain ⟨cp, A, c, ws, h1, h2, h3, h4, h5⟩ := h
    exact ⟨cp, A, c, ws, h1, h2.up hle, ItsR.up hle its ws h3, h4.up hle, h5⟩
theorem ItsR.up {I J : Imm} (hle : I.Le J) : ∀ (l : List It) (vs : List Value), ItsR I l vs → ItsR J l vs
  | [], vs, h => by
    simp only [ItsR] at h ⊢
    exact h
  | x :: l, vs, h => by
    simp only [ItsR] at h ⊢
    obtain ⟨v1, v2, h1, h2, h3⟩ := h
    exact ⟨v1, v2, h1, ItR.up hle x v1 h2, ItsR.up hle l v2 h3⟩
end
/-- What a reader of templates hands out: whens have no rule. -/
inductive Wf : Nat → It → Prop where
  | mk (n : Nat) (x : It) (h : x.kind = 4 → x.rule = 0) (hs : ∀ y ∈ x.items, Wf n y) (hn : x.items.length ≤ 16) (hc : x.count.names.length ≤ 3000001) : Wf (n + 1) x
/-- .. and if nothing was wrong: each has what it wants. -/
structure ItGood (kd : Int) (mn : Bool) (ct : Ex) (rl : Int) : Prop where
  k : kd = 1 ∨ kd = 2 ∨ kd = 3 ∨ kd = 4
  c : kd = 2 ∨ kd = 4 ∨ mn = true → ct.ok
  m : kd = 2 ∨ kd = 4 → mn = false
  n : kd ≠ 2 → kd ≠ 4 → mn = false → ct = .nil
  r : rl ≠ 0 → kd = 1 ∧ mn = false
inductive WfG : It → Prop where
  | mk (x : It) (h : ItGood x.kind x.many x.count x.rule) (hs : ∀ y ∈ x.items, WfG y) : WfG x
theorem ItsR.append {I : Imm} : ∀ {l m : List It} {vs ws : List Value}, ItsR I l vs → ItsR I m ws → ItsR I (l ++ m) (vs ++ ws)
  | [], m, vs, ws, h, k => by
    simp only [ItsR] at h
    subst h
    exact k
  | x :: l, m, vs, ws, h, k => by
    simp only [ItsR, List.cons_append] at h ⊢
    obtain ⟨v1, v2, rfl, h2, h3⟩ := h
    exact ⟨v1, v2 ++ ws, by rw [List.append_assoc], h2, h3.append k⟩
theorem ItR.length {I : Imm} {x : It} {vs : List Value} (h : ItR I x vs) : vs.length = 13 := by
  obtain ⟨k, a, nm, ty, w, o, sg, mn, ct, rl, f, l, its⟩ := x
  simp only [ItR] at h
  obtain ⟨cp, A, c, ws, rfl, _⟩ := h
  rfl
theorem ItR.plain {I : Imm} {x : It} {vs : List Value} (h : ItR I x vs) : ∀ u ∈ vs, plainV u = true := by
  obtain ⟨k, a, nm, ty, w, o, sg, mn, ct, rl, f, l, its⟩ := x
  simp only [ItR] at h
  obtain ⟨cp, A, c, ws, rfl, h, _⟩ := h
  obtain ⟨a, rfl⟩ := h.ptr
  simp [plainV]

def wordsL : List UInt8 := [32, 115, 116, 114, 117, 99, 116, 32, 98, 121, 116, 101, 115, 32, 119, 104, 101, 110, 32, 115, 105, 122, 101, 32, 99, 111, 117, 110, 116, 32, 99, 104, 101, 99, 107, 32]
def badName (s : List UInt8) : Bool := !IsNameB s || IsNumB s || Lib.contains wordsL ([32] ++ s ++ [32])
def Eye.name1 (p : Eye) : Eye := if badName p.text then p.bad 3 p.place else if (12 : Int) < p.text.length then p.bad 4 p.place else p
def Eye.name (p : Eye) : Eye := if p.name1.stop then p.name1 else p.name1.pass
theorem Eye.name1_le (p : Eye) : p.name1.Le p := by
  unfold Eye.name1
  split
  · exact p.bad_le _ _ (by decide)
  · split
    · exact p.bad_le _ _ (by decide)
    · exact .refl p
theorem Eye.name_le (p : Eye) : p.name.Le p := by
  unfold Eye.name
  split
  · exact p.name1_le
  · exact p.name1.pass_le.trans p.name1_le
theorem Eye.meas_stop {p : Eye} (h : p.stop) : p.meas = 0 := if_pos h
theorem Eye.meas_pos {p : Eye} (h : ¬ p.stop) : 0 < p.meas := by
  unfold Eye.meas
  rw [if_neg h]
  omega
theorem Eye.name_lt (p : Eye) (h : ¬ p.stop) : p.name.meas < p.meas := by
  have hp := Eye.meas_pos h
  unfold Eye.name
  by_cases hs : p.name1.stop
  · rw [if_pos hs, Eye.meas_stop hs]
    exact hp
  · rw [if_neg hs]
    have hb : badName p.text = false := by
      cases hb : badName p.text with
      | false => rfl
      | true => exact absurd (by unfold Eye.name1; rw [if_pos hb]; exact p.bad_stop _ _ (by decide)) hs
    have e : p.name1 = p := by
      unfold Eye.name1 at hs ⊢
      rw [if_neg (by simp [hb])] at hs ⊢
      split at hs
      · exact absurd (p.bad_stop _ _ (by decide)) hs
      · rename_i h2
        rw [if_neg h2]
    rw [e]
    refine p.pass_lt fun ht => ?_
    rw [ht] at hb
    simp [badName, IsNameB] at hb
variable {I : Imm} {b : Nat} {o : Obj} {p : Eye}
theorem eyes_name (hM : MaxL I) (h : EyeAt I o p) (hok : EyeOk p) : MutC Tryd.prog 16 #[ptr b 0] I b o (fun v I' o' => v = S p.text ∧ EyeAt I' o' p.name) := by
  refine .of (go16 ?_)
  unfold M16
  have htl := hok.text
  have fin : ∀ {zz : Env} {I : Imm} {o : Obj}, EyeAt I o p.name1 → T16_0 (Sl.End fun e I' L' => ∃ v o', e = .returned v ∧ L' = [(b, o')] ∧ (v = S p.text ∧ EyeAt I' o' p.name)) zz (ptr b 0) (S p.text) I [(b, o)] := by
    intros
    rename_i I o hq
    unfold T16_0
    refine cal_ro (eyes_stop hq) (not_ (cnd_ (fun hs => ?_) (fun hs => ?_)))
    · refine cal_mut (eyes_pass hq) fun v I2 o2 hI2 ⟨hv, ho2⟩ => ?_
      have e : p.name = p.name1.pass := if_neg hs
      exact fin_mut ⟨rfl, by rw [e]; exact ho2⟩
    · have e : p.name = p.name1 := if_pos (by simpa using hs)
      exact fin_mut ⟨rfl, by rw [e]; exact hq⟩
  refine cal_ro (eyes_text h) ?_
  refine cal_pure (isName_pure _) ?_
  cases h1 : IsNameB p.text
  · (repeat with_reducible first | refine StG.h ?_ | refine StY.h ‹_› ?_ | refine StN.h ‹_› ?_ | refine StW.h ?_ | refine ld_ ?_ | refine lda_ ?_)
    have e : p.name1 = p.bad 3 p.place := if_pos (by unfold badName; simp only [*, Bool.not_true, Bool.not_false, Bool.true_or, Bool.or_true])
    refine cal_ro (eyes_place h) ?_
    refine cal_mut (eyes_wrong h 3 _) fun v I2 o2 hI2 ⟨hv, ho2⟩ => ?_
    exact join16_0 (fin (by rw [e]; exact ho2))
  · (repeat with_reducible first | refine StG.h ?_ | refine StY.h ‹_› ?_ | refine StN.h ‹_› ?_ | refine StW.h ?_ | refine ld_ ?_ | refine lda_ ?_)
    refine cal_ro (L1 := []) (isNum_ro hM _ htl) ?_
    cases h2 : IsNumB p.text
    · (repeat with_reducible first | refine StG.h ?_ | refine StY.h ‹_› ?_ | refine StN.h ‹_› ?_ | refine StW.h ?_ | refine ld_ ?_ | refine lda_ ?_)
      refine sadd_ ?_ (by simp; omega)
      (repeat with_reducible first | refine StG.h ?_ | refine StY.h ‹_› ?_ | refine StN.h ‹_› ?_ | refine StW.h ?_ | refine ld_ ?_ | refine lda_ ?_)
      refine sadd_ ?_ (by simp; omega)
      (repeat with_reducible first | refine StG.h ?_ | refine StY.h ‹_› ?_ | refine StN.h ‹_› ?_ | refine StW.h ?_ | refine ld_ ?_ | refine lda_ ?_)
      refine cal_ro (L1 := []) (contains_ro hM wordsL _ (by decide)) ?_
      cases h3 : Lib.contains wordsL ([32] ++ p.text ++ [32])
      · have hb : badName p.text = false := by unfold badName; simp only [*, Bool.not_true, Bool.or_false]
        (repeat with_reducible first | refine StG.h ?_ | refine StY.h ‹_› ?_ | refine StN.h ‹_› ?_ | refine StW.h ?_ | refine ld_ ?_ | refine lda_ ?_)
        refine cnd_ (fun h4 => ?_) (fun h4 => ?_)
        · have e : p.name1 = p.bad 4 p.place := by
            unfold Eye.name1
            rw [if_neg (by simp [hb]), if_pos h4]
          refine cal_ro (eyes_place h) ?_
          refine cal_mut (eyes_wrong h 4 _) fun v I2 o2 hI2 ⟨hv, ho2⟩ => ?_
          exact join16_0 (fin (by rw [e]; exact ho2))
        · have e : p.name1 = p := by
            unfold Eye.name1
            rw [if_neg (by simp [hb]), if_neg h4]
          exact join16_0 (fin (by rw [e]; exact h))
      · (repeat with_reducible first | refine StG.h ?_ | refine StY.h ‹_› ?_ | refine StN.h ‹_› ?_ | refine StW.h ?_ | refine ld_ ?_ | refine lda_ ?_)
        have e : p.name1 = p.bad 3 p.place := if_pos (by unfold badName; simp only [*, Bool.not_true, Bool.not_false, Bool.true_or, Bool.or_true])
        refine cal_ro (eyes_place h) ?_
        refine cal_mut (eyes_wrong h 3 _) fun v I2 o2 hI2 ⟨hv, ho2⟩ => ?_
        exact join16_0 (fin (by rw [e]; exact ho2))
    · (repeat with_reducible first | refine StG.h ?_ | refine StY.h ‹_› ?_ | refine StN.h ‹_› ?_ | refine StW.h ?_ | refine ld_ ?_ | refine lda_ ?_)
      have e : p.name1 = p.bad 3 p.place := if_pos (by unfold badName; simp only [*, Bool.not_true, Bool.not_false, Bool.true_or, Bool.or_true])
      refine cal_ro (eyes_place h) ?_
      refine cal_mut (eyes_wrong h 3 _) fun v I2 o2 hI2 ⟨hv, ho2⟩ => ?_
      exact join16_0 (fin (by rw [e]; exact ho2))
end Go.Proofs.YtkclodaplbalfaaDoor
