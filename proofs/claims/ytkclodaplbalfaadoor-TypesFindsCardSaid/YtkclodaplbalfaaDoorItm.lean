/- What is wrong first in a block: the program's. Conditions: none. -/
import Derived.Test.YtkclodaplbalfaaDoorRul
set_option linter.unusedVariables false
set_option linter.unusedSimpArgs false
set_option maxRecDepth 100000
set_option maxHeartbeats 4000000
namespace Go.Proofs.YtkclodaplbalfaaDoor
open Go Sl
namespace Sl
/-- A set, as a map to 1. -/
def setI {α : Type} (l : List α) : List (α × Value) := l.map fun a => (a, i64 1)
theorem mget_setI {α : Type} [DecidableEq α] (l : List α) (a : α) : (mget (setI l) a).getD (i64 0) = i64 (if a ∈ l then 1 else 0) := by
  unfold mget setI
  induction l with
  | nil => rfl
  | cons x l ih =>
    simp only [List.map_cons, List.find?_cons, List.mem_cons]
    by_cases h : a = x
    · simp [h]
    · simp only [h, decide_false, false_or]
      exact ih
theorem mput_setI {α : Type} [DecidableEq α] (l : List α) (a : α) (h : a ∉ l) : mput (setI l) a (i64 1) = setI (l ++ [a]) := by
  unfold setI
  induction l with
  | nil => rfl
  | cons x l ih =>
    simp only [List.mem_cons, not_or] at h
    simp only [List.map_cons, List.cons_append, mput, if_neg h.1]
    rw [ih h.2]
section
variable {P : Program} {I : Imm} {L : Own} {k : KV}
theorem rd_lkpi {α : Type} [DecidableEq α] {K : α → Value} {t kt et b sz y : Nat} {m : List α} {o : Obj} {a : α} [h : TU P t (.map kt et)] [hk : KeyT P kt α K] [hz : TI P et sz y (i64 0)] [hd : Decidable (a ∈ m)] (hm : MapO K (setI m) o) (hb : HasB L b o) :
    Rd P (Instr.lookup t (.map (some b)) (K a) false) I L (i64 (if a ∈ m then 1 else 0)) := fun F W hs => by
  have := run_lkp (P := P) (t := t) (ok := false) (a := a) hm (hs.has hb.h)
  rw [mget_setI] at this
  have e : ∀ (i1 i2 : Decidable (a ∈ m)), (@ite Int (a ∈ m) i1 1 0) = @ite Int (a ∈ m) i2 1 0 := fun i1 i2 => by congr
  rw [e _ hd] at this
  simpa using this
theorem lkpi_ {α : Type} [DecidableEq α] {K : α → Value} {t kt et b sz y : Nat} {m : List α} {o : Obj} {a : α} [h : TU P t (.map kt et)] [hk : KeyT P kt α K] [hz : TI P et sz y (i64 0)] [hb : HasB L b o] [hd : Decidable (a ∈ m)] (hm : MapO K (setI m) o)
    (k' : k (i64 (if a ∈ m then 1 else 0)) I L) : lkp P t (.map (some b)) (K a) false I L k := wpS.of_rd (rd_lkpi hm hb) k'
theorem mupi_ {α : Type} [DecidableEq α] {K : α → Value} {t kt et b : Nat} {m : List α} {o : Obj} {a : α} {mk : Obj → Own} [h : TU P t (.map kt et)] [hk : KeyT P kt α K] [hb : SlotB L b o mk] (hm : MapO K (setI m) o) (ha : a ∉ m)
    (k' : ∀ o', MapO K (setI (m ++ [a])) o' → k undef I (mk o')) : mup P t (.map (some b)) (K a) (i64 1) I L k := mup_ hm fun o' ho' => k' o' (by rw [← mput_setI m a ha]; exact ho')
/-- The first ones of a row of one's own. -/
theorem oslhi_ {t e sz y n c a : Nat} {z : Value} {A : Option Addr} {xs : List Value} {L1 : Own} [h : TU P t (.slice e)] [hz : TI P e sz y z] (ho : OSl e sz (.slice A n c) n xs L1) (ha : a ≤ n)
    (k' : OSl e sz (.slice A a c) a (xs.take (a * sz)) L1 → k (.slice A a c) I L) : slc P t (.slice A n c) none (some (i64 a)) none I L k := by
  have hnc : n ≤ c := by
    obtain ⟨hl, ⟨e1, rfl, rfl⟩ | ⟨g, o, cap, cur, e1, rfl, hn, hs, hx⟩⟩ := ho
    · omega
    · simp only [Value.slice.injEq] at e1
      omega
  have hb : ∀ W, (Instr.sliceBounds true n c none (some (i64 a)) none).run P W = .ok (0, a, c) W := fun W => by
    have g := run_sliceBound (P := P) W .i64 (a : Int) c .sliceAcap (by omega) (by omega)
    simp only [Int.toNat_natCast] at g
    simp [Instr.sliceBounds, g]
  have hA : (if c = 0 then A else A.map (·.add (0 * sz))) = A := by
    obtain ⟨hl, ⟨e1, rfl, rfl⟩ | ⟨g, o, cap, cur, e1, rfl, hn, hs, hx⟩⟩ := ho
    · simp only [Value.slice.injEq] at e1
      simp [e1]
    · simp only [Value.slice.injEq] at e1
      rw [e1.1]
      simp [Addr.add_plain]
  refine wpS.of_rd (.of_run fun W => ?_) (k' ?_)
  · have := run_vslc (P := P) (t := t) (e := e) (A := A) (hb W)
    rw [hA] at this
    simpa using this
  · obtain ⟨hl, ⟨e1, rfl, rfl⟩ | ⟨g, o, cap, cur, e1, rfl, hn, hs, hx⟩⟩ := ho
    · have ha0 : a = 0 := by omega
      subst ha0
      simp only [Value.slice.injEq] at e1
      obtain ⟨rfl, _, rfl⟩ := e1
      exact ⟨by simp, .inl ⟨rfl, rfl, rfl⟩⟩
    · simp only [Value.slice.injEq] at e1
      obtain ⟨rfl, _, rfl⟩ := e1
      have hle : a * sz ≤ n * sz := Nat.mul_le_mul_right _ ha
      refine ⟨by rw [List.length_take, hl]; omega, .inr ⟨g, o, c, cur, rfl, rfl, by omega, hs, ?_⟩⟩
      rw [← hx, List.take_take]
      congr 1
      omega
end
end Sl
/-- What items leave. -/
def ItmR (ty : List Nm) (l : List It) (names seen : List Nm) (bc bt bn : Nat) (ot : Obj) (J : Imm) (L : Own) : Prop :=
  ∃ on A' c' Ls, MapO (fun a : Nm => S a) (setI (blkW ty l names seen).2) on ∧ OSl 9 1 (.slice A' seen.length c') seen.length (strC seen) Ls ∧ L = Ls ++ [(bc, chkO bt bn (.slice A' seen.length c')), (bt, ot), (bn, on)]
theorem items_end {zz : Env} {I : Imm} {A : Option Addr} {c : Nat} {l : List It} {ty names seen names1 seen1 : List Nm} {As1 : Option Addr} {cs1 bc bt bn : Nat} {ot on1 : Obj} {Ls1 : Own}
    (hb : BlkR I A c l) (hl : l.length ≤ 16) (he : itsW ty l names seen = (okF, names1)) (hx : ∃ r, seen1 = seen ++ r) (ho : OSl 9 1 (.slice As1 seen1.length cs1) seen1.length (strC seen1) Ls1) (hn : MapO (fun a : Nm => S a) (setI names1) on1) :
    T22_2 (Fin (ThrR (blkW ty l names seen).1 (ItmR ty l names seen bc bt bn ot))) zz (ptr bc 0) (.slice A l.length c) (i64 seen.length) I (Ls1 ++ [(bc, chkO bt bn (.slice As1 seen1.length cs1)), (bt, ot), (bn, on1)]) := by
  have hblk : blkW ty l names seen = (rulesW l, names1) := by
    unfold blkW
    rw [he]
    simp [okF]
  obtain ⟨r, rfl⟩ := hx
  unfold T22_2
  refine cal_thr (L1 := []) (rules_thr hb hl) (fun J L' hJ h0 hL => ?_) (fun J b hJ h0 hr => fin_bad (g := rulesW l) (by rw [hblk]) h0 hr)
  subst hL
  (repeat with_reducible first | refine StG.h ?_ | refine StY.h ‹_› ?_ | refine StN.h ‹_› ?_ | refine StW.h ?_ | refine ld_ ?_ | refine lda_ ?_)
  refine ld_ (v := .slice As1 (seen ++ r).length cs1) ?_
  refine oslhi_ (a := seen.length) ho (by simp) fun ho2 => ?_
  (repeat with_reducible first | refine StG.h ?_ | refine StY.h ‹_› ?_ | refine StN.h ‹_› ?_ | refine StW.h ?_ | refine ld_ ?_ | refine lda_ ?_)
  refine sto_ ?_
  have e : (strC (seen ++ r)).take (seen.length * 1) = strC seen := by
    rw [strC_append, ← strC_length]
    exact List.take_left
  rw [e] at ho2
  show Fin _ _ _ (Ls1 ++ [(bc, chkO bt bn (.slice As1 seen.length cs1)), (bt, ot), (bn, on1)])
  exact fin_ok (L1 := Ls1 ++ [(bc, chkO bt bn (.slice As1 seen.length cs1)), (bt, ot), (bn, on1)]) (by rw [hblk]; exact h0) fun K hK => ⟨on1, As1, cs1, Ls1, by rw [hblk]; exact hn, ho2, rfl⟩
theorem qgd_y {p : Prop} [Decidable p] {run : (Value → Prop) → Prop} {k : Value → Prop} (h : p) (k' : run k) : qgd (yb (some (.bool (decide p))) true) run k := by simp [qgd, yb, h, k']
theorem qgd_n {p : Prop} [Decidable p] {run : (Value → Prop) → Prop} {k : Value → Prop} (h : ¬ p) (k' : k undef) : qgd (yb (some (.bool (decide p))) true) run k := by simp [qgd, yb, h, k']
theorem qpck_y {p : Prop} [Decidable p] {x y : Value} {k : Value → Prop} (h : p) (k' : k x) : qpck (.bool (decide p)) x y k := by simp [qpck, h, k']
theorem qpck_n {p : Prop} [Decidable p] {x y : Value} {k : Value → Prop} (h : ¬ p) (k' : k y) : qpck (.bool (decide p)) x y k := by simp [qpck, h, k']
theorem run_gtr0 {P : Program} {t : TypeId} {p : Prop} [Decidable p] (W : World) : (binOp .gtr t (i64 (if p then 1 else 0)) (i64 0)).run P W = .ok (.bool (decide p)) W := by
  by_cases h : p <;> simp [binOp, Op.intCmp, h]
theorem run_eql0 {P : Program} {t : TypeId} {p : Prop} [Decidable p] {c d : Bool} (W : World) : (do eqGuard .eql t (opd c) (opd d) (i64 (if p then 1 else 0)) (i64 0); binOp .eql t (i64 (if p then 1 else 0)) (i64 0) : Sem Value).run P W = .ok (.bool (decide (¬ p))) W := by
  by_cases h : p <;> simp [h, eqGuard, binOp, Op.intCmp]
theorem osl_plain {e sz n : Nat} {v : Value} {xs : List Value} {L1 : Own} (h : OSl e sz v n xs L1) : plainV v = true := by
  obtain ⟨_, ⟨rfl, _, _⟩ | ⟨_, _, _, _, rfl, _, _, _, _⟩⟩ := h <;> rfl
theorem items_thr (m : Nat) : ∀ {I : Imm} {A : Option Addr} {c : Nat} {l : List It} {ty names seen : List Nm} {As : Option Addr} {cs bc bt bn : Nat} {ot on : Obj} {Ls : Own}, BlkR I A c l → (∀ x ∈ l, Wf m x) → l.length ≤ 16 → seen.length + 16 * m ≤ 100000 →
    OSl 9 1 (.slice As seen.length cs) seen.length (strC seen) Ls → MapO (fun a : Nm => S a) (setI ty) ot → MapO (fun a : Nm => S a) (setI names) on →
    ThrowC 22 #[ptr bc 0, .slice A l.length c] I (Ls ++ [(bc, chkO bt bn (.slice As seen.length cs)), (bt, ot), (bn, on)]) (blkW ty l names seen).1 (ItmR ty l names seen bc bt bn ot) := by
  induction m with
  | zero =>
    intro I A c l ty names seen As cs bc bt bn ot on Ls hb hw hl hsl ho ht hn
    have hl0 : l = [] := by
      cases l with
      | nil => rfl
      | cons x l => exact absurd (hw x (by simp)) (fun h => by cases h)
    subst hl0
    refine .of (go22 ?_)
    unfold M22
    (repeat with_reducible first | refine StG.h ?_ | refine StY.h ‹_› ?_ | refine StN.h ‹_› ?_ | refine StW.h ?_ | refine ld_ ?_ | refine lda_ ?_)
    refine ld_ (v := .slice As seen.length cs) ?_
    (repeat with_reducible first | refine StG.h ?_ | refine StY.h ‹_› ?_ | refine StN.h ‹_› ?_ | refine StW.h ?_ | refine ld_ ?_ | refine lda_ ?_)
    refine loop22_0 (n := 0) (fun n x I' L => x = i64 0 ∧ I.Le I' ∧ L = Ls ++ [(bc, chkO bt bn (.slice As seen.length cs)), (bt, ot), (bn, on)]) ⟨rfl, .refl _, rfl⟩ ?_
    rintro n x I2 L2 hle ⟨rfl, hI2, rfl⟩ N hN u
    unfold B22_0
    refine lss_ ?_
    refine cnd_no (by simp) ?_
    exact out22_0x0 (join22_2 (items_end (hb.up hI2) hl (itsW_nil _ _ _) ⟨[], by simp⟩ ho hn))
  | succ m ih =>
    intro I A c l ty names seen As cs bc bt bn ot on Ls hb hw hl hsl ho ht hn
    refine .of (go22 ?_)
    unfold M22
    (repeat with_reducible first | refine StG.h ?_ | refine StY.h ‹_› ?_ | refine StN.h ‹_› ?_ | refine StW.h ?_ | refine ld_ ?_ | refine lda_ ?_)
    refine ld_ (v := .slice As seen.length cs) ?_
    (repeat with_reducible first | refine StG.h ?_ | refine StY.h ‹_› ?_ | refine StN.h ‹_› ?_ | refine StW.h ?_ | refine ld_ ?_ | refine lda_ ?_)
    refine loop22_0 (n := l.length) (fun n x I' L => ∃ (i : Nat) (names1 seen1 : List Nm) (As1 : Option Addr) (cs1 : Nat) (on1 : Obj) (Ls1 : Own), n + i = l.length ∧ x = i64 i ∧ I.Le I' ∧ OSl 9 1 (.slice As1 seen1.length cs1) seen1.length (strC seen1) Ls1 ∧ (∃ r, seen1 = seen ++ r) ∧ seen1.length ≤ seen.length + i ∧ MapO (fun a : Nm => S a) (setI names1) on1 ∧
        itsW ty l names seen = itsW ty (l.drop i) names1 seen1 ∧ L = (Ls1 ++ [(bc, chkO bt bn (.slice As1 seen1.length cs1)), (bt, ot), (bn, on1)]))
      ⟨0, names, seen, As, cs, on, Ls, rfl, rfl, .refl _, ho, ⟨[], by simp⟩, by omega, hn, rfl, rfl⟩ ?_
    rintro n x I2 L2 hle ⟨i, names1, seen1, As1, cs1, on1, Ls1, hi, rfl, hI2, ho1, hex, hsl1, hn1, heq, rfl⟩ N hN u
    have hb2 := hb.up hI2
    by_cases hlt : i < l.length
    case neg =>
      unfold B22_0
      refine lss_ ?_
      refine cnd_no (by omega) ?_
      rw [List.drop_eq_nil_of_le (by omega), itsW_nil] at heq
      exact out22_0x0 (join22_2 (items_end hb2 hl heq hex ho1 hn1))
    rw [List.drop_eq_getElem_cons hlt, itsW_cons] at heq
    have hwx := hw l[i] (List.getElem_mem hlt)
    obtain ⟨_, _, hw1, hw2, hw3, hw4⟩ := hwx
    have bad : ∀ {f : Flt} {nf : List Nm}, itW ty l[i] names1 seen1 = (f, nf) → f.1 ≠ 0 → (blkW ty l names seen).1 = f := fun {f nf} h hf => by
      have e : itsW ty l names seen = (f, nf) := by rw [heq, h, if_pos hf]
      unfold blkW
      rw [e, if_pos hf]
    have good : ∀ {f : Flt} {nf : List Nm}, itW ty l[i] names1 seen1 = (f, nf) → f.1 = 0 → itsW ty l names seen = itsW ty (l.drop (i + 1)) nf (if l[i].kind = 1 ∧ l[i].many = false then seen1 ++ [l[i].name] else seen1) := fun {f nf} h hf => by
      rw [heq, h, if_neg (by simpa using hf)]
    obtain ⟨bA, oA, cp, A2, c2, rfl, hr, hc, hb3⟩ := hb2.at hlt
    obtain ⟨ca, rfl⟩ := hc.ptr
    have j11 : ∀ {zz : Env} {J : Imm} {names2 seen2 : List Nm} {As2 : Option Addr} {cs2 : Nat} {on2 : Obj} {Ls2 : Own}, I2.Le J → OSl 9 1 (.slice As2 seen2.length cs2) seen2.length (strC seen2) Ls2 → (∃ r, seen2 = seen ++ r) → seen2.length ≤ seen.length + (i + 1) → MapO (fun a : Nm => S a) (setI names2) on2 →
        itsW ty l names seen = itsW ty (l.drop (i + 1)) names2 seen2 → T22_11 (Fin (ThrR (blkW ty l names seen).1 (ItmR ty l names seen bc bt bn ot))) N (Q22_0 (Fin (ThrR (blkW ty l names seen).1 (ItmR ty l names seen bc bt bn ot)))) zz (ptr bc 0) (.slice (some ⟨bA, oA, none⟩) l.length c) (i64 seen.length) (i64 l.length) (i64 i) J (Ls2 ++ [(bc, chkO bt bn (.slice As2 seen2.length cs2)), (bt, ot), (bn, on2)]) := by
      intros
      rename_i J names2 seen2 As2 cs2 on2 Ls2 hJ h1 h2 h3 h4 h5
      unfold T22_11
      refine add64 ?_
      exact hN (n - 1) (by omega) ⟨i + 1, names2, seen2, As2, cs2, on2, Ls2, by omega, rfl, hI2.trans hJ, h1, h2, h3, h4, h5, rfl⟩
    have eL : ∀ on2 : Obj, (Ls1 ++ [(bc, chkO bt bn (.slice As1 seen1.length cs1))]) ++ [(bt, ot), (bn, on2)] = Ls1 ++ [(bc, chkO bt bn (.slice As1 seen1.length cs1)), (bt, ot), (bn, on2)] := fun on2 => by simp
    unfold B22_0
    refine lss_ ?_
    refine cnd_yes (by omega) ?_
    refine iad_ ?_ (by omega) (by omega)
    simp only [Int.toNat_natCast]
    by_cases hk : l[i].kind = 4
    · (repeat with_reducible first | refine StA.h ‹_› ?_ | refine StB.h ‹_› ?_ | refine StG.h ?_ | refine StY.h ‹_› ?_ | refine StN.h ‹_› ?_ | refine StW.h ?_ | refine ld_ ?_ | refine lda_ ?_ | refine ldi_ ‹_› (by with_unfolding_all rfl) (by with_unfolding_all rfl) ?_ | refine ldi0_ ‹_› (by with_unfolding_all rfl) ?_ | refine ld_ ?_ (by with_unfolding_all rfl))
      refine cal_thr (L1 := Ls1 ++ [(bc, chkO bt bn (.slice As1 seen1.length cs1))]) (pasks_thr hc (by omega) ho1 (by omega)) (fun J L' hJ h0 hL => ?_) (fun J b hJ h0 hr => ?_)
      case refine_2 => exact fin_bad (g := asksW seen1 l[i].count) (bad (nf := names1) (by rw [itW_eq, if_neg (by simpa using hk), if_pos h0]) h0) h0 hr
      subst hL
      rw [eL]
      have hr2 := hr.up hJ
      (repeat with_reducible first | refine StA.h ‹_› ?_ | refine StB.h ‹_› ?_ | refine StG.h ?_ | refine StY.h ‹_› ?_ | refine StN.h ‹_› ?_ | refine StW.h ?_ | refine ld_ ?_ | refine lda_ ?_ | refine ldi_ ‹_› (by with_unfolding_all rfl) (by with_unfolding_all rfl) ?_ | refine ldi0_ ‹_› (by with_unfolding_all rfl) ?_ | refine ld_ ?_ (by with_unfolding_all rfl))
      have hit : itW ty l[i] names1 seen1 = blkW ty l[i].items names1 seen1 := by
        rw [itW_eq, if_neg (by simpa using hk), if_neg (by simpa using h0)]
        rfl
      refine cal_thr (L1 := (Ls1 ++ [(bc, chkO bt bn (.slice As1 seen1.length cs1)), (bt, ot), (bn, on1)])) (ih (hb3.up hJ) hw2 hw3 (by omega) ho1 ht hn1) (fun J2 L' hJ2 h02 hL => ?_) (fun J b hJ h0 hr => ?_)
      case refine_2 => exact fin_bad (g := (blkW ty l[i].items names1 seen1).1) (bad (nf := (blkW ty l[i].items names1 seen1).2) hit h0) h0 hr
      obtain ⟨on2, A5, c5, Ls2, hm2, ho2, rfl⟩ := hL
      rw [List.append_nil]
      have hg := good (nf := (blkW ty l[i].items names1 seen1).2) hit h02
      rw [if_neg (fun h => by rw [hk] at h; exact absurd h.1 (by decide))] at hg
      refine add64 ?_
      exact hN (n - 1) (by omega) ⟨i + 1, _, seen1, A5, c5, on2, Ls2, by omega, rfl, hI2.trans (hJ.trans hJ2), ho2, hex, by omega, hm2, hg, rfl⟩
    (repeat with_reducible first | refine StA.h ‹_› ?_ | refine StB.h ‹_› ?_ | refine StG.h ?_ | refine StY.h ‹_› ?_ | refine StN.h ‹_› ?_ | refine StW.h ?_ | refine ld_ ?_ | refine lda_ ?_ | refine ldi_ ‹_› (by with_unfolding_all rfl) (by with_unfolding_all rfl) ?_ | refine ldi0_ ‹_› (by with_unfolding_all rfl) ?_ | refine ld_ ?_ (by with_unfolding_all rfl))
    have j9 : ∀ {zz : Env} {J : Imm} {names2 : List Nm} {on2 : Obj}, I2.Le J → MapO (fun a : Nm => S a) (setI names2) on2 → itW ty l[i] names1 seen1 = (asksW seen1 l[i].count, names2) →
        T22_9 (Fin (ThrR (blkW ty l names seen).1 (ItmR ty l names seen bc bt bn ot))) N (Q22_0 (Fin (ThrR (blkW ty l names seen).1 (ItmR ty l names seen bc bt bn ot)))) zz (ptr bc 0) (.slice (some ⟨bA, oA, none⟩) l.length c) (i64 seen.length) (ptr bA (oA + i * 13)) (i64 l.length) (i64 i) J (Ls1 ++ [(bc, chkO bt bn (.slice As1 seen1.length cs1)), (bt, ot), (bn, on2)]) := by
      intros
      rename_i J0 names2 on2 hJ0 hn2 hit
      have hr0 := hr.up hJ0
      unfold T22_9
      (repeat with_reducible first | refine StA.h ‹_› ?_ | refine StB.h ‹_› ?_ | refine StG.h ?_ | refine StY.h ‹_› ?_ | refine StN.h ‹_› ?_ | refine StW.h ?_ | refine ld_ ?_ | refine lda_ ?_ | refine ldi_ ‹_› (by with_unfolding_all rfl) (by with_unfolding_all rfl) ?_ | refine ldi0_ ‹_› (by with_unfolding_all rfl) ?_ | refine ld_ ?_ (by with_unfolding_all rfl))
      refine cal_thr (L1 := Ls1 ++ [(bc, chkO bt bn (.slice As1 seen1.length cs1))]) (pasks_thr (hc.up hJ0) (by omega) ho1 (by omega)) (fun J L' hJ h0 hL => ?_) (fun J b hJ h0 hr => ?_)
      case refine_2 => exact fin_bad (g := asksW seen1 l[i].count) (bad (nf := names2) hit h0) h0 hr
      subst hL
      rw [eL]
      have he := good hit h0
      have hr2 := hr0.up hJ
      replace hJ := hJ0.trans hJ
      by_cases hk1 : l[i].kind = 1
      · cases hmn : l[i].many
        · (repeat with_reducible first | refine StA.h ‹_› ?_ | refine StB.h ‹_› ?_ | refine StG.h ?_ | refine StY.h ‹_› ?_ | refine StN.h ‹_› ?_ | refine StW.h ?_ | refine ld_ ?_ | refine lda_ ?_ | refine ldi_ ‹_› (by with_unfolding_all rfl) (by with_unfolding_all rfl) ?_ | refine ldi0_ ‹_› (by with_unfolding_all rfl) ?_ | refine ld_ ?_ (by with_unfolding_all rfl))
          rw [if_pos ⟨hk1, hmn⟩] at he
          refine draw22_10 (C := fun K _ => RdAt K bA (oA + i * 13) (itL l[i] (.pointer ca) A2 c2)) hr2 ?_
          unfold G22_10
          refine qS_of (v := ptr bc 0) (fun I L _ => .of_run fun W => rfl) ?_
          refine qS_of (fun I L _ => rd_fad) ?_
          refine qS_of (v := ptr bA (oA + i * 13)) (fun I L _ => .of_run fun W => rfl) ?_
          refine qS_of (fun I L _ => rd_fad) ?_
          refine qS_of (fun I L h => rd_ld (h.cel (j := 2) rfl rfl)) ?_
          refine ⟨?_, ?_⟩
          · refine ld_ (v := (.slice As1 seen1.length cs1)) ?_
            refine ⟨hr2, ?_⟩
            refine bslf_ (cells := #[S l[i].name]) (by kernel_rfl) fun b5 K hK5 hr5 => ?_
            have hx5 := hr2.up hK5
            refine ⟨hx5, ?_⟩
            refine app_ (n := seen1.length) (m := 1) ho1 (.imm hr5) rfl (by simp [plainV]) (fun v' Ls2 ho2 _ => ?_) (by omega) (by omega)
            refine ⟨hx5, ?_⟩
            refine qS_of (v := ptr bc 0) (fun I L _ => .of_run fun W => rfl) ?_
            refine qS_of (fun I L _ => rd_fad) ?_
            refine sto_ ?_ (osl_plain ho2)
            refine ⟨hx5, ?_⟩
            obtain ⟨A5, c5, rfl⟩ := osl_slice ho2
            have el : (seen1 ++ [l[i].name]).length = seen1.length + 1 := by simp
            have es : strC (seen1 ++ [l[i].name]) = strC seen1 ++ [S l[i].name] := by rw [strC_append]; rfl
            rw [← el, ← es] at ho2
            rw [← el]
            exact join22_11 (j11 (hJ.trans hK5) ho2 (hex.elim fun r hr => ⟨r ++ [l[i].name], by rw [hr, List.append_assoc]⟩) (by simp; omega) hn2 he)
          · refine bslf_ (cells := #[S l[i].name]) (by kernel_rfl) fun b5 K hK5 hr5 => ?_
            have hx5 := hr2.up hK5
            refine ⟨hx5, ?_⟩
            refine ld_ (v := (.slice As1 seen1.length cs1)) ?_
            refine ⟨hx5, ?_⟩
            refine app_ (n := seen1.length) (m := 1) ho1 (.imm hr5) rfl (by simp [plainV]) (fun v' Ls2 ho2 _ => ?_) (by omega) (by omega)
            refine ⟨hx5, ?_⟩
            refine qS_of (v := ptr bc 0) (fun I L _ => .of_run fun W => rfl) ?_
            refine qS_of (fun I L _ => rd_fad) ?_
            refine sto_ ?_ (osl_plain ho2)
            refine ⟨hx5, ?_⟩
            obtain ⟨A5, c5, rfl⟩ := osl_slice ho2
            have el : (seen1 ++ [l[i].name]).length = seen1.length + 1 := by simp
            have es : strC (seen1 ++ [l[i].name]) = strC seen1 ++ [S l[i].name] := by rw [strC_append]; rfl
            rw [← el, ← es] at ho2
            rw [← el]
            exact join22_11 (j11 (hJ.trans hK5) ho2 (hex.elim fun r hr => ⟨r ++ [l[i].name], by rw [hr, List.append_assoc]⟩) (by simp; omega) hn2 he)
        · (repeat with_reducible first | refine StA.h ‹_› ?_ | refine StB.h ‹_› ?_ | refine StG.h ?_ | refine StY.h ‹_› ?_ | refine StN.h ‹_› ?_ | refine StW.h ?_ | refine ld_ ?_ | refine lda_ ?_ | refine ldi_ ‹_› (by with_unfolding_all rfl) (by with_unfolding_all rfl) ?_ | refine ldi0_ ‹_› (by with_unfolding_all rfl) ?_ | refine ld_ ?_ (by with_unfolding_all rfl))
          rw [if_neg (by simp [hmn])] at he
          exact join22_11 (j11 hJ ho1 hex (by omega) hn2 he)
      · (repeat with_reducible first | refine StA.h ‹_› ?_ | refine StB.h ‹_› ?_ | refine StG.h ?_ | refine StY.h ‹_› ?_ | refine StN.h ‹_› ?_ | refine StW.h ?_ | refine ld_ ?_ | refine lda_ ?_ | refine ldi_ ‹_› (by with_unfolding_all rfl) (by with_unfolding_all rfl) ?_ | refine ldi0_ ‹_› (by with_unfolding_all rfl) ?_ | refine ld_ ?_ (by with_unfolding_all rfl))
        rw [if_neg (by simp [hk1])] at he
        exact join22_11 (j11 hJ ho1 hex (by omega) hn2 he)
    refine draw22_1 (C := (fun K L => RdAt K bA (oA + i * 13) (itL l[i] (.pointer ca) A2 c2) ∧ L = (Ls1 ++ [(bc, chkO bt bn (.slice As1 seen1.length cs1)), (bt, ot), (bn, on1)]))) ⟨hr, rfl⟩ ?_
    unfold G22_1
    refine qS_of (v := ptr bc 0) (fun I L _ => .of_run fun W => rfl) ?_
    refine qS_of (fun I L _ => rd_fad) ?_
    refine qS_of (v := .map (some bn)) (fun I L h => h.2 ▸ rd_ld (cel_own (by rfl))) ?_
    refine qS_of (v := ptr bA (oA + i * 13)) (fun I L _ => .of_run fun W => rfl) ?_
    refine qS_of (fun I L _ => rd_fad) ?_
    refine qS_of (fun I L h => rd_ld (h.1.cel (j := 2) rfl rfl)) ?_
    refine qS_of (fun I L h => rd_lkpi hn1 ⟨by rw [h.2]; simp⟩) ?_
    refine qS_of (fun I L _ => .of_run run_gtr0) ?_
    refine join22_3 ?_
    unfold T22_3
    refine cnd_ (fun htw => ?_) (fun htw => ?_)
    · (repeat with_reducible first | refine StA.h ‹_› ?_ | refine StB.h ‹_› ?_ | refine StG.h ?_ | refine StY.h ‹_› ?_ | refine StN.h ‹_› ?_ | refine StW.h ?_ | refine ld_ ?_ | refine lda_ ?_ | refine ldi_ ‹_› (by with_unfolding_all rfl) (by with_unfolding_all rfl) ?_ | refine ldi0_ ‹_› (by with_unfolding_all rfl) ?_ | refine ld_ ?_ (by with_unfolding_all rfl))
      refine cal_fail (by decide) fun J b hJ hr => fin_bad (g := (9, l[i].at_)) (bad (nf := names1) (by rw [itW_eq, if_pos hk, if_pos htw]) (by simp)) (by simp) hr
    refine join22_4 ?_
    unfold T22_4
    refine draw22_5 (C := (fun K L => RdAt K bA (oA + i * 13) (itL l[i] (.pointer ca) A2 c2) ∧ L = (Ls1 ++ [(bc, chkO bt bn (.slice As1 seen1.length cs1)), (bt, ot), (bn, on1)]))) ⟨hr, rfl⟩ ?_
    unfold G22_5
    refine qS_of (v := ptr bc 0) (fun I L _ => .of_run fun W => rfl) ?_
    refine qS_of (fun I L _ => rd_fad) ?_
    refine qS_of (v := .map (some bn)) (fun I L h => h.2 ▸ rd_ld (cel_own (by rfl))) ?_
    refine qS_of (v := ptr bA (oA + i * 13)) (fun I L _ => .of_run fun W => rfl) ?_
    refine qS_of (fun I L _ => rd_fad) ?_
    refine qS_of (fun I L h => rd_ld (h.1.cel (j := 2) rfl rfl)) ?_
    refine mupi_ hn1 htw fun on2 hm2 => ?_
    refine join22_6 ?_
    unfold T22_6
    refine draw22_7 (C := fun K L => RdAt K bA (oA + i * 13) (itL l[i] (.pointer ca) A2 c2) ∧ L = Ls1 ++ [(bc, chkO bt bn (.slice As1 seen1.length cs1)), (bt, ot), (bn, on2)]) ⟨hr, rfl⟩ ?_
    unfold G22_7
    refine qS_of (v := ptr bA (oA + i * 13)) (fun I L _ => .of_run fun W => rfl) ?_
    refine qS_of (fun I L _ => rd_fad) ?_
    refine qS_of (fun I L h => rd_ld (h.1.cel (j := 0) rfl rfl)) ?_
    refine qS_of (fun I L _ => rd_eqi) ?_
    by_cases h3 : l[i].kind = 3
    · refine qgd_y h3 ?_
      refine qgd_y h3 (qS_of (v := ptr bc 0) (fun I L _ => .of_run fun W => rfl) ?_)
      refine qgd_y h3 (qS_of (fun I L _ => rd_fad) ?_)
      refine qgd_y h3 (qS_of (v := .map (some bt)) (fun I L h => h.2 ▸ rd_ld (cel_own (by rfl))) ?_)
      refine qgd_y h3 ?_
      refine qgd_y h3 (qS_of (v := ptr bA (oA + i * 13)) (fun I L _ => .of_run fun W => rfl) ?_)
      refine qgd_y h3 (qS_of (fun I L _ => rd_fad) ?_)
      refine qgd_y h3 (qS_of (fun I L h => rd_ld (h.1.cel (j := 3) rfl rfl)) ?_)
      refine qgd_y h3 (qS_of (fun I L h => rd_lkpi ht ⟨by rw [h.2]; simp⟩) ?_)
      refine qgd_y h3 (qS_of (v := .bool (decide (l[i].type ∉ ty))) (fun I L _ => .of_run fun W => run_eql0 W) ?_)
      refine qpck_y h3 ?_
      refine join22_8 ?_
      unfold T22_8
      refine cnd_ (fun hty => ?_) (fun hty => ?_)
      · (repeat with_reducible first | refine StA.h ‹_› ?_ | refine StB.h ‹_› ?_ | refine StG.h ?_ | refine StY.h ‹_› ?_ | refine StN.h ‹_› ?_ | refine StW.h ?_ | refine ld_ ?_ | refine lda_ ?_ | refine ldi_ ‹_› (by with_unfolding_all rfl) (by with_unfolding_all rfl) ?_ | refine ldi0_ ‹_› (by with_unfolding_all rfl) ?_ | refine ld_ ?_ (by with_unfolding_all rfl))
        refine cal_fail (by decide) fun J b hJ hr => fin_bad (g := (7, l[i].at_)) (bad (nf := names1 ++ [l[i].name]) (by rw [itW_eq, if_pos hk, if_neg htw, if_pos ⟨h3, hty⟩]) (by simp)) (by simp) hr
      · exact join22_9 (j9 (.refl _) hm2 (by rw [itW_eq, if_pos hk, if_neg htw, if_neg (fun h => hty h.2)]))
    · refine qgd_n h3 ?_
      refine qgd_n h3 ?_
      refine qgd_n h3 ?_
      refine qgd_n h3 ?_
      refine qgd_n h3 ?_
      refine qgd_n h3 ?_
      refine qgd_n h3 ?_
      refine qgd_n h3 ?_
      refine qgd_n h3 ?_
      refine qgd_n h3 ?_
      refine qpck_n h3 ?_
      refine join22_8 ?_
      unfold T22_8
      refine cndf_ ?_
      exact join22_9 (j9 (.refl _) hm2 (by rw [itW_eq, if_pos hk, if_neg htw, if_neg (fun h => h3 h.1)]))
end Go.Proofs.YtkclodaplbalfaaDoor
