/- The reader of tokens: what its methods do. Conditions: none. -/
import Derived.Test.YtkclodaplbalfaaDoorTy
import Derived.Test.YtkclodaplbalfaaDoorGen
set_option linter.unusedVariables false
set_option linter.unusedSimpArgs false
set_option maxRecDepth 100000
namespace Go.Proofs.YtkclodaplbalfaaDoor
open Go Sl

theorem Is_pure (E A : Int) : PureC Tryd.prog 6 #[.agg #[i64 E, i64 A]] (.bool (decide (E = 0))) := by
  intro I
  refine go6 ?_
  unfold M6
  refine bx_ fun b1 => ?_
  refine fad_ ?_
  refine ld_ ?_
  refine eqi_ ?_
  rfl

/-- A token: its text, and where it begins. -/
structure Tok where
  s : List UInt8
  at_ : Int
def tokC (l : List Tok) : List Value := l.flatMap fun t => [S t.s, i64 t.at_]
theorem tokC_length (l : List Tok) : (tokC l).length = l.length * 2 := by
  induction l with
  | nil => rfl
  | cons t l ih => simp only [tokC, List.flatMap_cons, List.length_append, List.length_cons] at *; simp only [ih, List.length_nil]; omega
structure Eye where
  l : List Tok
  en : Int
  e : Int
  at_ : Int
def eyeO (A : Option Addr) (c : Nat) (p : Eye) : Obj := .cells #[.slice A p.l.length c, i64 p.en, i64 p.e, i64 p.at_] 40
/-- The reader's block. -/
def EyeAt (I : Imm) (o : Obj) (p : Eye) : Prop := ∃ A c, o = eyeO A c p ∧ RSl I A (tokC p.l) ∧ p.l.length ≤ c
theorem EyeAt.up {I J : Imm} {o : Obj} {p : Eye} (h : EyeAt I o p) (hle : I.Le J) : EyeAt J o p := by
  obtain ⟨A, c, h1, h2, h3⟩ := h
  exact ⟨A, c, h1, h2.up hle, h3⟩

variable {I : Imm} {b : Nat} {o : Obj} {p : Eye}
def Eye.stop (p : Eye) : Prop := p.e ≠ 0
instance (p : Eye) : Decidable p.stop := inferInstanceAs (Decidable (p.e ≠ 0))
theorem eyes_stop (h : EyeAt I o p) : RoC Tryd.prog 11 #[ptr b 0] I [(b, o)] (.bool (decide p.stop)) := by
  obtain ⟨A, c, rfl, h2, h3⟩ := h
  refine .of (go11 ?_)
  unfold M11 eyeO
  refine nck_ ?_
  refine fad_ ?_
  refine lda_ ?_
  refine cal_pure (Is_pure _ _) ?_
  refine not_ ?_
  exact fin_ro
def Eye.text (p : Eye) : List UInt8 := if p.stop then [] else match p.l with | [] => [] | t :: _ => t.s
def Eye.place (p : Eye) : Int := match p.l with | [] => p.en | t :: _ => t.at_
theorem tokAt {I : Imm} {A : Option Addr} {t : Tok} {l : List Tok} (h : RSl I A (tokC (t :: l))) : ∃ b o, A = some ⟨b, o, none⟩ ∧ RdAt I b o (S t.s :: i64 t.at_ :: tokC l) := by
  rcases h with h | ⟨b, o, e, h⟩
  · cases h
  · exact ⟨b, o, e, h⟩
theorem eyes_text (h : EyeAt I o p) : RoC Tryd.prog 12 #[ptr b 0] I [(b, o)] (S p.text) := by
  have hh := h
  obtain ⟨A, c, rfl, h2, h3⟩ := h
  refine .of (go12 ?_)
  unfold M12
  refine cal_ro (eyes_stop hh) ?_
  by_cases hs : p.stop
  · refine gdn_no hs ?_
    refine gdn_no hs ?_
    refine gdn_no hs ?_
    refine gdn_no hs ?_
    refine gdn_no hs ?_
    refine gdn_no hs ?_
    refine pck_yes hs ?_
    refine cndb_ (fun _ => ?_) (fun h => by cases h)
    have e : p.text = [] := if_pos hs
    rw [e]
    exact fin_ro
  · unfold eyeO at *
    refine gdn_yes hs ?_
    refine gdn_yes hs (nck_ ?_)
    refine gdn_yes hs (fad_ ?_)
    refine gdn_yes hs (ld_ ?_)
    refine gdn_yes hs (vlen_ ?_)
    refine gdn_yes hs (eqi_ ?_)
    refine pck_no hs ?_
    cases hl : p.l with
    | nil =>
      refine cnd_ (fun _ => ?_) (fun h => absurd rfl h)
      have e : p.text = [] := by simp [Eye.text, hs, hl]
      rw [e]
      exact fin_ro
    | cons t l =>
      refine cnd_ (fun h => by simp at h; omega) (fun _ => ?_)
      rw [hl] at h2 h3
      obtain ⟨b', o', rfl, hr⟩ := tokAt h2
      refine nck_ ?_
      refine fad_ ?_
      refine ld_ ?_
      refine iad_ ?_ (by omega) (by simp only [List.length_cons]; omega)
      refine fad_ ?_
      refine ldi_ (j := 0) hr (by simp) rfl ?_
      have e : p.text = t.s := by simp [Eye.text, hs, hl]
      rw [e]
      exact fin_ro

theorem eyes_place (h : EyeAt I o p) : RoC Tryd.prog 14 #[ptr b 0] I [(b, o)] (i64 p.place) := by
  obtain ⟨A, c, rfl, h2, h3⟩ := h
  refine .of (go14 ?_)
  unfold M14 eyeO
  refine nck_ (fad_ (ld_ (vlen_ (eqi_ ?_))))
  unfold Eye.place
  cases hl : p.l with
  | nil =>
    refine cnd_ (fun _ => ?_) (fun h => absurd rfl h)
    refine nck_ (fad_ (ld_ ?_))
    exact fin_ro
  | cons t l =>
    refine cnd_ (fun h => by simp at h; omega) (fun _ => ?_)
    rw [hl] at h2 h3
    obtain ⟨b', o', rfl, hr⟩ := tokAt h2
    refine nck_ (fad_ (ld_ ?_))
    refine iad_ ?_ (by omega) (by simp only [List.length_cons]; omega)
    refine fad_ ?_
    refine ldi_ (j := 1) hr (by simp) rfl ?_
    exact fin_ro
def Eye.bad (p : Eye) (e at_ : Int) : Eye := if p.stop then p else { p with e := e, at_ := at_ }
theorem eyes_wrong (h : EyeAt I o p) (e at_ : Int) : MutC Tryd.prog 13 #[ptr b 0, i64 e, i64 at_] I b o (fun v I' o' => v = .tuple #[] ∧ EyeAt I' o' (p.bad e at_)) := by
  have hh := h
  obtain ⟨A, c, rfl, h2, h3⟩ := h
  refine .of (go13 ?_)
  unfold M13
  refine cal_ro (eyes_stop hh) (not_ (cnd_ (fun hn => ?_) (fun hn => ?_)))
  · have e1 : p.bad e at_ = { p with e := e, at_ := at_ } := if_neg hn
    refine bld_ (v := .agg #[i64 e, i64 at_]) (fun W => by kernel_rfl) ?_
    unfold eyeO
    refine nck_ (fad_ (stoa_ ?_))
    refine fin_mut ⟨rfl, ?_⟩
    rw [e1]
    exact ⟨A, c, rfl, h2, h3⟩
  · have e1 : p.bad e at_ = p := if_pos (by simpa using hn)
    refine fin_mut ⟨rfl, ?_⟩
    rw [e1]
    exact ⟨A, c, rfl, h2, h3⟩
def Eye.pass (p : Eye) : Eye := if p.text = [] then p.bad 3 p.place else { p with l := p.l.tail }
theorem eyes_pass (h : EyeAt I o p) : MutC Tryd.prog 29 #[ptr b 0] I b o (fun v I' o' => v = S p.text ∧ EyeAt I' o' p.pass) := by
  have hh := h
  obtain ⟨A, c, rfl, h2, h3⟩ := h
  refine .of (go29 ?_)
  unfold M29
  refine cal_ro (eyes_text hh) (seq_ (cnd_ (fun ht => ?_) (fun ht => ?_)))
  · refine cal_ro (eyes_place hh) ?_
    refine cal_mut (eyes_wrong hh 3 p.place) fun v I' o' hle ⟨_, ho⟩ => ?_
    have e1 : p.pass = p.bad 3 p.place := if_pos ht
    refine fin_mut ⟨by rw [ht], ?_⟩
    rw [e1]
    exact ho
  · have e1 : p.pass = { p with l := p.l.tail } := if_neg ht
    have hl : p.l ≠ [] := fun e => ht (by simp [Eye.text, e])
    have hpos : 0 < p.l.length := List.length_pos_iff.2 hl
    unfold eyeO
    refine nck_ (fad_ (ld_ ?_))
    refine vslcl_ h2 (tokC_length _) h3 (fun A' hA => ?_) (by omega) (by omega)
    refine nck_ (fad_ (sto_ ?_))
    refine fin_mut ⟨rfl, ?_⟩
    rw [e1]
    refine ⟨A', c - 1, ?_, ?_, by simp; omega⟩
    · simp [eyeO, splice]
    · have e2 : tokC p.l.tail = (tokC p.l).drop (1 * 2) := by
        cases hp : p.l with
        | nil => rfl
        | cons t l => rfl
      rw [e2]
      exact hA
def Eye.takes (p : Eye) (s : List UInt8) : Bool := decide (p.text = s)
def Eye.take (p : Eye) (s : List UInt8) : Eye := if p.text = s then p.pass else p
theorem eyes_take (h : EyeAt I o p) (s : List UInt8) : MutC Tryd.prog 25 #[ptr b 0, S s] I b o (fun v I' o' => v = .bool (p.takes s) ∧ EyeAt I' o' (p.take s)) := by
  refine .of (go25 ?_)
  unfold M25
  refine cal_ro (eyes_text h) (sne_ (cnd_ (fun ht => ?_) (fun ht => ?_)))
  · refine fin_mut ⟨by simp [Eye.takes, ht], ?_⟩
    rw [Eye.take, if_neg ht]
    exact h
  · have ht : p.text = s := by simpa using ht
    refine cal_mut (eyes_pass h) fun v I' o' hle ⟨_, ho⟩ => ?_
    refine fin_mut ⟨by simp [Eye.takes, ht], ?_⟩
    rw [Eye.take, if_pos ht]
    exact ho
def Eye.must (p : Eye) (s : List UInt8) : Eye := if p.takes s then p.take s else (p.take s).bad 3 (p.take s).place
theorem eyes_must (h : EyeAt I o p) (s : List UInt8) : MutC Tryd.prog 15 #[ptr b 0, S s] I b o (fun v I' o' => v = .tuple #[] ∧ EyeAt I' o' (p.must s)) := by
  refine .of (go15 ?_)
  unfold M15
  refine cal_mut (eyes_take h s) fun v I' o' hle ⟨hv, ho⟩ => ?_
  subst hv
  refine notb_ (cndb_ (fun ht => ?_) (fun ht => ?_))
  · refine cal_ro (eyes_place ho) ?_
    refine cal_mut (eyes_wrong ho 3 _) fun v I2 o2 hle2 ⟨_, ho2⟩ => ?_
    refine fin_mut ⟨rfl, ?_⟩
    have e1 : p.must s = (p.take s).bad 3 (p.take s).place := if_neg (by simpa using ht)
    rw [e1]
    exact ho2
  · refine fin_mut ⟨rfl, ?_⟩
    have e1 : p.must s = p.take s := if_pos (by simpa using ht)
    rw [e1]
    exact ho
end Go.Proofs.YtkclodaplbalfaaDoor
