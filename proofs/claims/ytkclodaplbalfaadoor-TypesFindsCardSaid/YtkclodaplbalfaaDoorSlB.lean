/- The separation logic once more: frames as functions of the place; deferred calls. Conditions: none. -/
import Derived.Test.YtkclodaplbalfaaDoorOps
import Derived.Recover
set_option linter.unusedVariables false
set_option linter.unusedSimpArgs false
namespace Go.Proofs.YtkclodaplbalfaaDoor.Sl
open Go
abbrev XB := List PanicEntry → Act → Imm → Own → Prop
/-- A deferred call is laid by; all else is an operation. -/
def opB (P : Program) (o : Oper) (a : Act) (I : Imm) (L : Own) (X : XB) (next : Act → Imm → Own → Prop) : Prop :=
  match o.op with
  | .defer { callee := .value g, args := as, argTypes := _ } =>
    (match a.eval g with
     | .func fn first cap => next (Act.put { a with defers := { target := .fn fn cap, args := first ++ as.map a.eval } :: a.defers } o.dst undef) I L
     | _ => False)
  | _ => opT P o a I L (fun ch => X ch a) fun v I L => next (a.put o.dst v) I L

def shOpsB (P : Program) (ops : Array Oper) (X : XB) (next : Act → Imm → Own → Prop) : List Nat → Act → Imm → Own → Prop
  | [], a, I, L => next a I L
  | i :: rest, a, I, L =>
    match ops[i]? with
    | none => shOpsB P ops X next rest a I L
    | some o =>
      match o.guard with
      | none => opB P o a I L X (shOpsB P ops X next rest)
      | some (j, want) => gd (yb (((ops[j]?).bind (·.dst)).bind (a.tmps[·]?)) want) (opT P o a I L fun ch => X ch a) (fun v I L => shOpsB P ops X next rest (a.put o.dst v) I L) I L

/-- What holds where code ends. -/
def liftB (I : Imm) (F : Own) (Q : Exit → Act → Imm → Own → Prop) (X : XB) : Exit → Act → World → Prop
  | .panic ch, a, W => ∃ I' L', I.Le I' ∧ St W I' (L' ++ F) ∧ X ch a I' L'
  | .outgrown, _, _ => False
  | e, a, W => ∃ I' L', I.Le I' ∧ St W I' (L' ++ F) ∧ Q e a I' L'

/-- Code, as it is. -/
def cdB (P : Program) (c : Code) (Q : Exit → Act → Imm → Own → Prop) (X : XB) (a : Act) (I : Imm) (L : Own) : Prop :=
  ∀ F W, St W I (L ++ F) → c.wp P (liftB I F Q X) a W

section sound
variable {P : Program}
theorem liftB_mono {I J : Imm} {F : Own} {Q Q' : Exit → Act → Imm → Own → Prop} {X : XB} (h : I.Le J) (hq : ∀ e a I' L', Q e a I' L' → Q' e a I' L') :
    ∀ e a W, liftB J F Q X e a W → liftB I F Q' X e a W := by
  intro e a W
  cases e <;> simp only [liftB]
  case outgrown => exact id
  case panic => exact fun ⟨I', L', h1, h2, h3⟩ => ⟨I', L', h.trans h1, h2, h3⟩
  all_goals exact fun ⟨I', L', h1, h2, h3⟩ => ⟨I', L', h.trans h1, h2, hq _ _ _ _ h3⟩

theorem opB_sound {o : Oper} {a : Act} {I : Imm} {L F : Own} {W : World} {next' : Act → World → Prop} {Q : Exit → Act → World → Prop} {X : XB} {next : Act → Imm → Own → Prop}
    (hk : ∀ a' I' L' W', I.Le I' → St W' I' (L' ++ F) → next a' I' L' → next' a' W') (hx : ∀ ch I' L' W', I.Le I' → St W' I' (L' ++ F) → X ch a I' L' → Q (.panic ch) a W')
    (hs : St W I (L ++ F)) (h : opB P o a I L X next) : o.wp P a W next' Q := by
  unfold opB at h
  split at h
  case h_1 g as ts ho =>
    split at h
    · rename_i fn first cap hv
      unfold Oper.wp
      simp only [execOp, ho, resolve, hv, Deferred.ofValue]
      exact hk _ _ _ _ (.refl I) hs h
    · exact h.elim
  case h_2 => exact opT_sound (fun v I' L' W' h1 h2 h3 => hk _ _ _ _ h1 h2 h3) hx hs h

theorem shOpsB_sound {ops : Array Oper} {I0 : Imm} {F : Own} {X : XB} {Q : Exit → Act → Imm → Own → Prop} : ∀ (l : List Nat) (a : Act) (I : Imm) (L : Own) (W : World), I0.Le I → St W I (L ++ F) →
    shOpsB P ops X (Q .normal) l a I L → wpOps P ops (liftB I0 F Q X) l a W := by
  intro l
  induction l with
  | nil => exact fun a I L W hle hs h => ⟨I, L, hle, hs, h⟩
  | cons i rest ih =>
    intro a I L W hle hs h
    simp only [shOpsB] at h
    simp only [wpOps]
    cases ho : ops[i]? with
    | none =>
      simp only [ho] at h
      exact ih _ _ _ _ hle hs h
    | some o =>
      simp only [ho] at h ⊢
      cases hg : o.guard with
      | none =>
        simp only [hg] at h
        simp only [wanted_none hg, if_true]
        refine .inl (opB_sound (fun a' I' L' W' h1 h2 h3 => ih _ _ _ _ (hle.trans h1) h2 h3) (fun ch I' L' W' h1 h2 h3 => ⟨I', L', hle.trans h1, h2, h3⟩) hs h)
      | some jw =>
        obtain ⟨j, want⟩ := jw
        simp only [hg] at h
        have hw : Region.wanted o (yielded ops a.tmps) = yb (((ops[j]?).bind (·.dst)).bind (a.tmps[·]?)) want := by
          simp only [Region.wanted, hg, yielded, yb]
          rfl
        unfold gd at h
        rw [hw]
        split at h
        · rename_i hy
          simp only [hy, if_true]
          exact .inl (opT_sound (fun v I' L' W' h1 h2 h3 => ih _ _ _ _ (hle.trans h1) h2 h3) (fun ch I' L' W' h1 h2 h3 => ⟨I', L', hle.trans h1, h2, h3⟩) hs h)
        · rename_i hy
          simp only [hy, if_false]
          exact ih _ _ _ _ hle hs h

/-- A loop: what holds at each round's head; a number that each round lowers. -/
theorem loop_ruleB {body : Code} {Q : Exit → Act → Imm → Own → Prop} {X : XB} (Inv : Nat → Act → Imm → Own → Prop) {n : Nat} {a : Act} {I : Imm} {L : Own} (h0 : Inv n a I L)
    (round : ∀ n a I' L', I.Le I' → Inv n a I' L' → cdB P body (seqT (fun a I L => ∃ m, m < n ∧ Inv m a I L) Q) X a I' L') : cdB P (.loop body) Q X a I L := by
  intro F W hs
  let J (n : Nat) (a : Act) (W : World) : Prop := ∃ I' L', I.Le I' ∧ St W I' (L' ++ F) ∧ Inv n a I' L'
  have least : ∀ (p : Nat → Prop), (∃ n, p n) → ∃ n, p n ∧ ∀ m, p m → n ≤ m := by
    intro p ⟨n, hn⟩
    induction n using Nat.strongRecOn with
    | _ n ih =>
      by_cases hh : ∃ m, m < n ∧ p m
      · obtain ⟨m, hm, hp⟩ := hh; exact ih m hm hp
      · refine ⟨n, hn, fun m hm => ?_⟩
        rcases Nat.lt_or_ge m n with h | h
        · exact absurd ⟨m, h, hm⟩ hh
        · exact h
  let μ (a : Act) (W : World) : Nat := open Classical in if h : ∃ n, J n a W then Classical.choose (least _ h) else 0
  have hμ : ∀ {n a W}, J n a W → J (μ a W) a W ∧ μ a W ≤ n := by
    intro n a W h
    have hex : ∃ n, J n a W := ⟨n, h⟩
    have e : μ a W = Classical.choose (least _ hex) := dif_pos hex
    have hc := Classical.choose_spec (least _ hex)
    rw [e]
    exact ⟨hc.1, hc.2 n h⟩
  refine wp_loop (fun a W => ∃ n, J n a W) μ ⟨n, I, L, .refl I, hs, h0⟩ ?_
  rintro a W ⟨n, hn⟩
  obtain ⟨⟨I', L', h1, h2, h3⟩, _⟩ := hμ hn
  refine wp_mono (round _ a I' L' h1 h3 F W h2) fun e a' W' he => ?_
  cases e <;> simp only [liftB, seqT, Exit.then] at he ⊢
  case normal =>
    obtain ⟨I2, L2, g1, g2, m, hm, g3⟩ := he
    have hj : J m a' W' := ⟨I2, L2, h1.trans g1, g2, g3⟩
    exact ⟨⟨m, hj⟩, Nat.lt_of_le_of_lt (hμ hj).2 hm⟩
  all_goals exact (let ⟨I2, L2, g1, g2, g3⟩ := he; ⟨I2, L2, h1.trans g1, g2, g3⟩)

/-! ### A function's end, its deferred calls -/
/-- A deferred call, beside a frame that leaves so. -/
def wpD (P : Program) (f : FuncId) (args : Array Value) (m : FrameMode) (I : Imm) (L : Own) (R : Ending → FrameMode → Imm → Own → Prop) : Prop :=
  ∀ F W, St W I (L ++ F) → CallsD P f args m W fun e m' W' => ∃ I' L', I.Le I' ∧ St W' I' (L' ++ F) ∧ R e m' I' L'
def leavesB (P : Program) (fn : Func) (tmps : Array Value) (R : Ending → Imm → Own → Prop) : List Deferred → FrameMode → Imm → Own → Prop
  | [], .returning, I, L => rtT P I L tmps fn.results.toList fun vs => R (.returned (one vs)) I L
  | [], .panicking ch, I, L => R (.panicked ch) I L
  | [], .run, _, _ => False
  | d :: ds, m, I, L =>
    match d.target with
    | .fn (.func f) cap => m ≠ .run ∧ HasCode P f ∧ wpD P f (d.args ++ cap) m I L fun e m' I L =>
      match e with
      | .returned _ => leavesB P fn tmps R ds (settle m') I L
      | .panicked ch => leavesB P fn tmps R ds (raised m' ch) I L
      | .outgrown => False
    | _ => False
theorem leavesB_sound {fn : Func} {tmps : Array Value} {R : Ending → Imm → Own → Prop} {I0 : Imm} {F : Own} : ∀ (ds : List Deferred) (m : FrameMode) (I : Imm) (L : Own) (W : World), I0.Le I → St W I (L ++ F) → leavesB P fn tmps R ds m I L →
    Leaves P fn tmps (fun e W' => ∃ I' L', I0.Le I' ∧ St W' I' (L' ++ F) ∧ R e I' L') ds m W := by
  intro ds
  induction ds with
  | nil =>
    intro m I L W hle hs h
    cases m with
    | run => exact h.elim
    | returning =>
      obtain ⟨vs, hk, hr⟩ := rtT_run h
      exact ⟨_, results_run (hr F W hs), I, L, hle, hs, hk⟩
    | panicking ch => exact ⟨I, L, hle, hs, h⟩
  | cons d ds ih =>
    intro m I L W hle hs h
    obtain ⟨tg, as⟩ := d
    unfold leavesB at h
    simp only at h
    split at h
    · rename_i f cap
      obtain ⟨hm, hc, hw⟩ := h
      refine leaves_cons hm (run_callFunc (h := hc) (as ++ cap) W) ((hw F W hs).mono fun e m' W' ⟨I', L', h1, h2, h3⟩ => ?_)
      cases e with
      | returned v => exact ih _ _ _ _ (hle.trans h1) h2 h3
      | panicked ch => exact ih _ _ _ _ (hle.trans h1) h2 h3
      | outgrown => exact h3.elim
    · exact h.elim
def endB (P : Program) (fn : Func) (R : Ending → Imm → Own → Prop) : Exit → Act → Imm → Own → Prop
  | .normal, a, I, L | .ret, a, I, L => leavesB P fn a.tmps R a.defers .returning I L
  | _, _, _, _ => False
def endXB (P : Program) (fn : Func) (R : Ending → Imm → Own → Prop) : XB := fun ch a I L => leavesB P fn a.tmps R a.defers (.panicking ch) I L
/-- .. where nothing is deferred -/
def endN (R : Ending → Imm → Own → Prop) : XB := fun ch a I L =>
  match a.defers with
  | [] => R (.panicked ch) I L
  | _ :: _ => False
/-- What a panic leaves, where nothing is deferred. -/
def xR (R : Ending → Imm → Own → Prop) : List PanicEntry → Imm → Own → Prop := fun ch I L => R (.panicked ch) I L
def xD (P : Program) (fn : Func) (R : Ending → Imm → Own → Prop) (a : Act) : List PanicEntry → Imm → Own → Prop := fun ch I L => leavesB P fn a.tmps R a.defers (.panicking ch) I L
def eD (P : Program) (fn : Func) (R : Ending → Imm → Own → Prop) (a : Act) (I : Imm) (L : Own) : Prop := leavesB P fn a.tmps R a.defers .returning I L
theorem endN_le (P : Program) (fn : Func) (R : Ending → Imm → Own → Prop) : ∀ ch a I L, endN R ch a I L → endXB P fn R ch a I L := fun ch a I L h => by
  unfold endN at h
  split at h
  · rename_i hd
    unfold endXB
    rw [hd]
    exact h
  · exact h.elim
theorem wpC_of_cdB {f : FuncId} {fn : Func} {c : Code} {args : Array Value} {I : Imm} {L : Own} {R : Ending → Imm → Own → Prop} {X : XB} (hf : P.funcs[f]? = some fn) (hb : fn.body = some c) (hX : ∀ ch a I L, X ch a I L → endXB P fn R ch a I L)
    (h : cdB P c (endB P fn R) X { tmps := args ++ Array.replicate (fn.ntmps - args.size) undef, defers := [] } I L) : wpC P f args I L R := fun F W hs => by
  refine calls_of_wp_defers hf hb (wp_mono (h F W hs) fun e a W' he => ?_)
  cases e <;> simp only [liftB, bodyPostD] at he ⊢
  case normal => exact (let ⟨I', L', h1, h2, h3⟩ := he; leavesB_sound _ _ _ _ _ h1 h2 h3)
  case ret => exact (let ⟨I', L', h1, h2, h3⟩ := he; leavesB_sound _ _ _ _ _ h1 h2 h3)
  case panic ch => exact (let ⟨I', L', h1, h2, h3⟩ := he; leavesB_sound _ _ _ _ _ h1 h2 (hX _ _ _ _ h3))
  all_goals exact (let ⟨_, _, _, _, h⟩ := he; h)
end sound
def plB (P : Program) (ops : Array Oper) (lo : List Nat) (C : Cls) (X : XB) (next : Act → Imm → Own → Prop) : Plan → Array Bool → Act → Imm → Own → Prop
  | .done, _, a, I, L => next a I L
  | .take i p, listed, a, I, L =>
    match ops[i]? with
    | none => False
    | some o =>
      match o.guard with
      | none => opQ P o a C fun v => plB P ops lo C X next p (listed.setIfInBounds i true) (a.put o.dst v) I L
      | some (j, want) => qgd (yb (((ops[j]?).bind (·.dst)).bind (a.tmps[·]?)) want) (opQ P o a C) fun v => plB P ops lo C X next p (listed.setIfInBounds i true) (a.put o.dst v) I L
  | .all f, listed, a, I, L => allQ (Region.ready .any ops listed) fun i =>
    match ops[i]? with
    | none => False
    | some o =>
      match o.guard with
      | none => opB P o a I L X fun a' I' L' => andS (lo.contains i) (C I' L') (plB P ops lo C X next (f i) (listed.setIfInBounds i true) a' I' L')
      | some (j, want) => gd (yb (((ops[j]?).bind (·.dst)).bind (a.tmps[·]?)) want) (opT P o a I L fun ch => X ch a) (fun v I' L' => andS (lo.contains i) (C I' L') (plB P ops lo C X next (f i) (listed.setIfInBounds i true) (a.put o.dst v) I' L')) I L

section plan
variable {P : Program} {ops : Array Oper} {lo : List Nat} {C : Cls} {F : Own} {I0 : Imm} {Q : Exit → Act → Imm → Own → Prop} {X : XB}
/-- In this state operation number i is carried out. -/
def opBW (P : Program) (ops : Array Oper) (I0 : Imm) (F : Own) (Q : Exit → Act → Imm → Own → Prop) (X : XB) (i : Nat) (K : Act → Imm → Own → Prop) (a : Act) (I : Imm) (L : Own) : Prop :=
  ∀ W, St W I (L ++ F) → wpOp P ops (liftB I0 F Q X) i (fun a' W' => ∃ I' L', I.Le I' ∧ St W' I' (L' ++ F) ∧ K a' I' L') a W
theorem opBW_mono {i : Nat} {K K' : Act → Imm → Own → Prop} {a : Act} {I : Imm} {L : Own} (hk : ∀ a I' L', I.Le I' → K a I' L' → K' a I' L') (h : opBW P ops I0 F Q X i K a I L) : opBW P ops I0 F Q X i K' a I L :=
  fun W hs => wpOp_mono (fun a' W' ⟨I', L', h1, h2, h3⟩ => ⟨I', L', h1, h2, hk _ _ _ h1 h3⟩) (h W hs)
def anyB (P : Program) (ops : Array Oper) (lo : List Nat) (C : Cls) (I0 : Imm) (F : Own) (Q : Exit → Act → Imm → Own → Prop) (X : XB) : Nat → Array Bool → Act → Imm → Own → Prop
  | 0, listed, a, I, L => Region.ready .any ops listed = [] ∧ I0.Le I ∧ Q .normal a I L
  | n + 1, listed, a, I, L => (Region.ready .any ops listed = [] → I0.Le I ∧ Q .normal a I L) ∧
    ∀ i ∈ Region.ready .any ops listed, opBW P ops I0 F Q X i (fun a' I' L' => (lo.contains i = false → C I' L') ∧ anyB P ops lo C I0 F Q X n (listed.setIfInBounds i true) a' I' L') a I L
theorem wpAny_of_anyB : ∀ (n : Nat) (listed : Array Bool) (a : Act) (I : Imm) (L : Own) (W : World), St W I (L ++ F) → anyB P ops lo C I0 F Q X n listed a I L → wpAny P .any ops (liftB I0 F Q X) n listed a W
  | 0, _, _, I, L, _, hs, h => ⟨h.1, I, L, h.2.1, hs, h.2.2⟩
  | n + 1, _, _, I, L, W, hs, h => ⟨fun h0 => ⟨I, L, (h.1 h0).1, hs, (h.1 h0).2⟩, fun i hi => wpOp_mono (fun a' W' ⟨I', L', h1, h2, h3⟩ => wpAny_of_anyB n _ a' I' L' W' h2 h3.2) (h.2 i hi W hs)⟩

theorem YS.opBW {i : Nat} {o : Oper} {v : Value} {a : Act} {I : Imm} {L : Own} {K : Act → Imm → Own → Prop} (hi : ops[i]? = some o) (hy : YS P ops C F o v a) (hC : C I L) (h : K (a.put o.dst v) I L) : opBW P ops I0 F Q X i K a I L := by
  intro W hs
  unfold wpOp
  simp only [hi]
  rcases hy with ⟨hw, hv⟩ | ⟨hw, rfl⟩
  · simp only [hw, if_true]
    refine .inl (Oper.wp_of_quiet (C := fun w => St w I (L ++ F)) (K := fun a' => K a' I L) hs (fun a' w' hw' hk => ⟨I, L, .refl I, hw', hk⟩) ⟨v, fun w hw' => hv I L hC w hw', h⟩)
  · simp only [hw, Bool.false_eq_true, if_false]
    exact ⟨I, L, .refl I, hs, h⟩

/-- A panic does not ask for what these operations yield. -/
def PutX (X : XB) (ops : Array Oper) : Prop := ∀ (i : Nat) (o : Oper), ops[i]? = some o → ∀ v ch a I L, X ch (a.put o.dst v) I L → X ch a I L
theorem endN_put {R : Ending → Imm → Own → Prop} : PutX (endN R) ops := fun i o _ v ch a I L h => by
  have e : (a.put o.dst v).defers = a.defers := by unfold Act.put; split <;> rfl
  unfold endN at h ⊢
  rw [e] at h
  exact h
theorem rtT_put {P : Program} {I : Imm} {L : Own} {a : Act} {d : Tmp} {v : Value} : ∀ (rs : List ResultVar) (K : List Value → Prop), (rs.all fun r => match r with | .tmp t => t != d | .cell t _ => t != d) = true → rtT P I L (a.put (some d) v).tmps rs K → rtT P I L a.tmps rs K
  | [], K, _, h => h
  | .tmp t :: r, K, hd, h => by
    simp only [List.all_cons, Bool.and_eq_true, bne_iff_ne, ne_eq] at hd
    have e : (a.put (some d) v).tmps.getD t undef = a.tmps.getD t undef := by
      simp only [Act.put]
      rw [Array.getD_eq_getD_getElem?, Array.getD_eq_getD_getElem?, Array.getElem?_setIfInBounds, if_neg (Ne.symm hd.1)]
    unfold rtT at h ⊢
    rw [e] at h
    exact rtT_put r _ hd.2 h
  | .cell t ty :: r, K, hd, h => by
    simp only [List.all_cons, Bool.and_eq_true, bne_iff_ne, ne_eq] at hd
    have e : (a.put (some d) v).tmps.getD t undef = a.tmps.getD t undef := by
      simp only [Act.put]
      rw [Array.getD_eq_getD_getElem?, Array.getD_eq_getD_getElem?, Array.getElem?_setIfInBounds, if_neg (Ne.symm hd.1)]
    unfold rtT at h ⊢
    rw [e] at h
    obtain ⟨w, h1, h2⟩ := h
    exact ⟨w, h1, rtT_put r _ hd.2 h2⟩
theorem leavesB_put {fn : Func} {R : Ending → Imm → Own → Prop} {a : Act} {d : Tmp} {v : Value} (hd : (fn.results.toList.all fun r => match r with | .tmp t => t != d | .cell t _ => t != d) = true) : ∀ (ds : List Deferred) (m : FrameMode) (I : Imm) (L : Own),
    leavesB P fn (a.put (some d) v).tmps R ds m I L → leavesB P fn a.tmps R ds m I L := by
  intro ds
  induction ds with
  | nil =>
    intro m I L h
    cases m with
    | run => exact h
    | returning => exact rtT_put _ _ hd h
    | panicking ch => exact h
  | cons e ds ih =>
    intro m I L h
    obtain ⟨tg, as⟩ := e
    unfold leavesB at h ⊢
    simp only at h ⊢
    split at h
    · obtain ⟨hm, hc, hw⟩ := h
      refine ⟨hm, hc, fun F W hs => (hw F W hs).mono fun e m' W' ⟨I', L', h1, h2, h3⟩ => ⟨I', L', h1, h2, ?_⟩⟩
      cases e with
      | returned v => exact ih _ _ _ h3
      | panicked ch => exact ih _ _ _ h3
      | outgrown => exact h3
    · exact h
theorem endXB_put {fn : Func} {R : Ending → Imm → Own → Prop} (h : (ops.all fun o => match o.dst with | none => true | some d => fn.results.toList.all fun r => match r with | .tmp t => t != d | .cell t _ => t != d) = true) : PutX (endXB P fn R) ops := fun i o hi v ch a I L hx => by
  have ho := (Array.all_eq_true'.1 h) o (Array.mem_of_getElem? hi)
  cases hd : o.dst with
  | none => rw [hd] at hx; exact hx
  | some d =>
    rw [hd] at hx ho
    have e : (a.put (some d) v).defers = a.defers := rfl
    unfold endXB at hx ⊢
    rw [e] at hx
    exact leavesB_put ho _ _ _ _ hx
theorem liftB_panic_put {i : Nat} {o : Oper} (hX : PutX X ops) (hi : ops[i]? = some o) {c : List PanicEntry} {a : Act} {v : Value} {W : World} (h : liftB I0 F Q X (.panic c) (a.put o.dst v) W) : liftB I0 F Q X (.panic c) a W := by
  simp only [liftB] at h ⊢
  obtain ⟨I', L', h1, h2, h3⟩ := h
  exact ⟨I', L', h1, h2, hX i o hi _ _ _ _ _ h3⟩
theorem wpOp_putSB (hX : PutX X ops) {i j : Nat} {oi oj : Oper} {v : Value} (hi : ops[i]? = some oi) (hj : ops[j]? = some oj) (hap : oi.apart ops oj = true) (hsi : ∀ cs b, oi.op ≠ .select cs b) (hsj : ∀ cs b, oj.op ≠ .select cs b)
    {K : Act → World → Prop} {a : Act} {w : World} (hy : YS P ops C F oi v a) (h : wpOp P ops (liftB I0 F Q X) j K (a.put oi.dst v) w) :
    wpOp P ops (liftB I0 F Q X) j (fun a' w' => YS P ops C F oi v a' ∧ K (a'.put oi.dst v) w') a w := by
  obtain ⟨h1, h2, h3⟩ := Oper.apart_spec hap
  have keep : ∀ (a : Act), YS P ops C F oi v a → ∀ u, YS P ops C F oi v (a.put oj.dst u) := fun a hy u => hy.of_same (execOp_put oi hsi a oj.dst u h3) (wanted_put oi a oj.dst u h3)
  have keepD : ∀ d, YS P ops C F oi v { a with defers := d :: a.defers } := fun d => hy.of_same rfl rfl
  unfold wpOp at *
  simp only [hj] at *
  rw [wanted_put oj a oi.dst v h1] at h
  split
  · rename_i hw
    simp only [hw, if_true] at h
    rcases h with h | ⟨hasks, hlets⟩
    case inr => exact .inr ⟨by unfold Oper.asks at *; rw [execOp_put oj hsj a oi.dst v h1] at hasks; exact hasks, hlets⟩
    refine .inl ?_
    unfold Oper.wp at *
    rw [execOp_put oj hsj a oi.dst v h1] at h
    generalize (execOp a.eval oj).run P w = r at *
    cases r with
    | ok n w' =>
      cases n <;> simp only [Oper.upon] at h ⊢
      case value u => exact ⟨keep a hy u, by rw [← Act.put_comm a v u h2]; exact h⟩
      case skip => exact ⟨keep a hy _, by rw [← Act.put_comm a v undef h2]; exact h⟩
      case defer d =>
        refine ⟨keep _ (keepD d) _, ?_⟩
        rw [← Act.put_comm _ v undef h2, ← Act.put_defers]
        exact h
      case enter f args =>
        refine Calls.mono h fun e w'' he => ?_
        cases e with
        | returned u => exact ⟨keep a hy u, by rw [← Act.put_comm a v u h2]; exact he⟩
        | panicked c => exact liftB_panic_put hX hi he
        | outgrown => exact he
      case row row args => exact Rows.mono h fun u w'' he => ⟨keep a hy u, by rw [← Act.put_comm a v u h2]; exact he⟩
    | halt x w' =>
      cases x <;> simp only [Oper.upon] at h ⊢
      case panic u => exact liftB_panic_put hX hi h
  · rename_i hw
    simp only [hw] at h
    exact ⟨keep a hy _, by rw [← Act.put_comm a v undef h2]; exact h⟩

theorem anyB_first (hX : PutX X ops) {i : Nat} {oi : Oper} {v : Value} (hi : ops[i]? = some oi) (hsel : ∀ (j : Nat) (o : Oper) cs b, ops[j]? = some o → o.op ≠ .select cs b) :
    ∀ (n : Nat) (listed : Array Bool) (a : Act) (I : Imm) (L : Own),
      (∀ j oj, ops[j]? = some oj → j ≠ i → listed.getD j true = false → (∀ e ∈ oj.after, Region.binds .any e = true → e.on ≠ i) → oi.apart ops oj = true) →
      (∀ j oj, ops[j]? = some oj → j ≠ i → listed.getD j true = false → lo.contains j = true → ∃ e ∈ oj.after, Region.binds .any e = true ∧ e.on = i) →
      i ∈ Region.ready .any ops listed → YS P ops C F oi v a → C I L →
      anyB P ops lo C I0 F Q X n (listed.setIfInBounds i true) (a.put oi.dst v) I L → anyB P ops lo C I0 F Q X (n + 1) listed a I L := by
  intro n
  induction n with
  | zero =>
    intro listed a I L _ _ hr hy hC H
    refine ⟨fun h => (by rw [h] at hr; cases hr), fun j hj => ?_⟩
    by_cases hji : j = i
    · subst hji; exact hy.opBW hi hC ⟨fun _ => hC, H⟩
    · have := ready_mono hj hji
      rw [H.1] at this
      cases this
  | succ n ih =>
    intro listed a I L hfree hlo hr hy hC H
    refine ⟨fun h => (by rw [h] at hr; cases hr), fun j hj => ?_⟩
    by_cases hji : j = i
    · subst hji; exact hy.opBW hi hC ⟨fun _ => hC, H⟩
    · have h1 := H.2 j (ready_mono hj hji)
      obtain ⟨hjun, oj, hoj, hall⟩ := mem_ready.1 hj
      have hnot : ∀ e ∈ oj.after, Region.binds .any e = true → e.on ≠ i := fun e he hb heq => by
        have h1 := hall e he hb
        have h0 := (mem_ready.1 hr).1
        rw [heq] at h1
        rcases Nat.lt_or_ge i listed.size with h' | h'
        · simp [h'] at h0 h1; rw [h0] at h1; cases h1
        · simp [Array.getElem?_eq_none h'] at h1
      have hjlo : lo.contains j = false := by
        cases hc : lo.contains j with
        | false => rfl
        | true => obtain ⟨e, he, hb, ho⟩ := hlo j oj hoj hji hjun hc; exact absurd ho (hnot e he hb)
      have hset : ∀ k, (listed.setIfInBounds j true).getD k true = false → listed.getD k true = false := fun k hun => by
        by_cases hjk : j = k
        · subst hjk; exact hjun
        · rw [getD_set_ne true hjk] at hun; exact hun
      intro W hs
      have h2 := wpOp_putSB (C := C) hX hi hoj (hfree j oj hoj hji hjun hnot) (fun cs b => hsel i oi cs b hi) (fun cs b => hsel j oj cs b hoj) hy (h1 W hs)
      refine wpOp_mono (fun a' W' h3 => ?_) h2
      obtain ⟨hy', I', L', g1, g2, g3, g4⟩ := h3
      refine ⟨I', L', g1, g2, g3, ih (listed.setIfInBounds j true) a' I' L' (fun k ok hk hki hun hno => hfree k ok hk hki (hset k hun) hno) (fun k ok hk hki hun hc => hlo k ok hk hki (hset k hun) hc) (ready_mono hr (Ne.symm hji)) hy' (g3 hjlo) ?_⟩
      rw [Array.setIfInBounds_comm _ _ hji]
      exact g4

theorem plB_sound (hX : PutX X ops) (hs : Region.noSelect ops = true) : ∀ (p : Plan) (listed : Array Bool) (n : Nat) (a : Act) (I : Imm) (L : Own), planB ops lo p listed n = true → I0.Le I → ((∃ i q, p = .take i q) → C I L) →
    plB P ops lo C X (Q .normal) p listed a I L → anyB P ops lo C I0 F Q X n listed a I L := by
  intro p
  induction p with
  | done =>
    intro listed n a I L hB hle _ h
    have h0 : Region.ready .any ops listed = [] := by simpa [planB] using hB
    cases n with
    | zero => exact ⟨h0, hle, h⟩
    | succ n => exact ⟨fun _ => ⟨hle, h⟩, by rw [h0]; simp⟩
  | take i p ih =>
    intro listed n a I L hB hle hC h
    cases n with
    | zero => simp [planB] at hB
    | succ n =>
      simp only [planB, Bool.and_eq_true] at hB
      obtain ⟨⟨⟨hr, hf⟩, hw⟩, hB⟩ := hB
      simp only [plB] at h
      cases ho : ops[i]? with
      | none => simp only [ho] at h
      | some o =>
        simp only [ho] at h
        have hC' := hC ⟨i, p, rfl⟩
        have key : ∃ v, YS P ops C F o v a ∧ plB P ops lo C X (Q .normal) p (listed.setIfInBounds i true) (a.put o.dst v) I L := by
          cases hg : o.guard with
          | none =>
            simp only [hg] at h
            obtain ⟨v, hv, hk⟩ := opQ_sound (F := F) h
            exact ⟨v, .inl ⟨wanted_none hg, hv⟩, hk⟩
          | some jw =>
            obtain ⟨j, want⟩ := jw
            simp only [hg] at h
            have hw : Region.wanted o (yielded ops a.tmps) = yb (((ops[j]?).bind (·.dst)).bind (a.tmps[·]?)) want := by
              simp only [Region.wanted, hg, yielded, yb]
              rfl
            unfold qgd at h
            split at h
            · rename_i hy
              obtain ⟨v, hv, hk⟩ := opQ_sound (F := F) h
              exact ⟨v, .inl ⟨hw.trans hy, hv⟩, hk⟩
            · rename_i hy
              exact ⟨undef, .inr ⟨by rw [hw]; simpa using hy, rfl⟩, h⟩
        obtain ⟨v, hy, hk⟩ := key
        exact anyB_first hX ho (Region.noSelect_spec hs) n listed a I L (Region.free_spec ho hf) (waits_spec hw) (by simpa using hr) hy hC' (ih _ n _ _ _ hB hle (fun _ => hC') hk)
  | all f ih =>
    intro listed n a I L hB hle hC h
    cases n with
    | zero => simp [planB] at hB
    | succ n =>
      simp only [planB, Bool.and_eq_true, List.all_eq_true] at hB
      obtain ⟨hne, hB⟩ := hB
      have hne' : Region.ready .any ops listed ≠ [] := by intro e; simp [e] at hne
      refine ⟨fun h0 => absurd h0 hne', fun i hi => ?_⟩
      have h' := allQ_mem h hi
      obtain ⟨hlo, hB'⟩ := hB i hi
      have fin : ∀ a' I' L' W', I.Le I' → St W' I' (L' ++ F) → andS (lo.contains i) (C I' L') (plB P ops lo C X (Q .normal) (f i) (listed.setIfInBounds i true) a' I' L') →
          ∃ I2 L2, I.Le I2 ∧ St W' I2 (L2 ++ F) ∧ (lo.contains i = false → C I2 L2) ∧ anyB P ops lo C I0 F Q X n (listed.setIfInBounds i true) a' I2 L2 := by
        intro a' I' L' W' h1 h2 h3
        cases hc : lo.contains i with
        | false =>
          rw [hc] at h3
          exact ⟨I', L', h1, h2, fun _ => h3.1, ih i _ n _ _ _ hB' (hle.trans h1) (fun _ => h3.1) h3.2⟩
        | true =>
          rw [hc] at h3 hlo
          refine ⟨I', L', h1, h2, fun h => (by cases h), ih i _ n _ _ _ hB' (hle.trans h1) (fun ⟨k, q, e⟩ => ?_) h3⟩
          rw [e] at hlo
          simp [Plan.reads] at hlo
      intro W hs'
      unfold wpOp
      cases ho : ops[i]? with
      | none => simp only [ho] at h'
      | some o =>
        simp only [ho] at h' ⊢
        cases hg : o.guard with
        | none =>
          simp only [hg] at h'
          simp only [wanted_none hg, if_true]
          exact .inl (opB_sound (fun a' I' L' W' h1 h2 h3 => fin a' I' L' W' h1 h2 h3) (fun ch I' L' W' h1 h2 h3 => ⟨I', L', hle.trans h1, h2, h3⟩) hs' h')
        | some jw =>
          obtain ⟨j, want⟩ := jw
          simp only [hg] at h'
          have hw : Region.wanted o (yielded ops a.tmps) = yb (((ops[j]?).bind (·.dst)).bind (a.tmps[·]?)) want := by
            simp only [Region.wanted, hg, yielded, yb]
            rfl
          unfold gd at h'
          rw [hw]
          split at h'
          · rename_i hy
            simp only [hy, if_true]
            exact .inl (opT_sound (fun v I' L' W' h1 h2 h3 => fin _ I' L' W' h1 h2 h3) (fun ch I' L' W' h1 h2 h3 => ⟨I', L', hle.trans h1, h2, h3⟩) hs' h')
          · rename_i hy
            rw [if_neg hy]
            exact fin _ _ _ _ (.refl I) hs' h'

/-- A region that draws its order, by a plan: the class C holds at the start, and behind each operation but those of 'lo'. -/
theorem draw_planB {id : Nat} (hX : PutX X ops) (p : Plan) (lo : List Nat) {C : Cls} {a : Act} {I : Imm} {L : Own} {c : Code} {T : Prop} (hc : c = .region id ops true) (hm : P.follows .mixedOrders = true) (hB : (Region.noSelect ops && planB ops lo p (Array.replicate ops.size false) ops.size) = true)
    (he : plB P ops lo C X (Q .normal) p (Array.replicate ops.size false) a I L = T) (hC : C I L) (h : T) : cdB P c Q X a I L := by
  subst hc
  simp only [Bool.and_eq_true] at hB
  intro F W hs
  exact wp_region_any hm (wpAny_of_anyB _ _ _ _ _ _ (hs.drew _) (plB_sound hX hB.1 p _ _ a I L hB.2 (.refl I) (fun _ => hC) (he ▸ h)))
end plan
def shHB (P : Program) (cuts : Cuts) : Code → List Nat → (Exit → Act → Imm → Own → Prop) → XB → Act → Imm → Own → Prop
  | .seq x y, p, Q, X, a, I, L =>
    match cuts p with
    | some J => J a I L
    | none => shHB P cuts x (0 :: p) (seqT (shHB P cuts y (1 :: p) Q X) Q) X a I L
  | .cond c x y, p, Q, X, a, I, L =>
    match cuts p with
    | some J => J a I L
    | none => cnd (a.eval c) (shHB P cuts x (0 :: p) Q X a I L) (shHB P cuts y (1 :: p) Q X a I L)
  | .block id c, p, Q, X, a, I, L =>
    match cuts p with
    | some J => J a I L
    | none => shHB P cuts c (0 :: p) (blkT id Q) X a I L
  | .region _ ops false, p, Q, X, a, I, L =>
    match cuts p with
    | some J => J a I L
    | none => shOpsB P ops X (Q .normal) (List.range ops.size) a I L
  | .skip, p, Q, _, a, I, L =>
    match cuts p with
    | some J => J a I L
    | none => Q .normal a I L
  | .exit id, p, Q, _, a, I, L =>
    match cuts p with
    | some J => J a I L
    | none => Q (.exit id) a I L
  | .ret, p, Q, _, a, I, L =>
    match cuts p with
    | some J => J a I L
    | none => Q .ret a I L
  | c, p, Q, X, a, I, L =>
    match cuts p with
    | some J => J a I L
    | none => cdB P c Q X a I L
/-- That what stands at the cuts is what stands there. -/
def okLB (P : Program) (cuts : Cuts) : Code → List Nat → (Exit → Act → Imm → Own → Prop) → XB → List Prop
  | .seq x y, p, Q, X =>
    match cuts p with
    | some J => [J = cdB P (.seq x y) Q X]
    | none => okLB P cuts x (0 :: p) (seqT (cdB P y Q X) Q) X ++ okLB P cuts y (1 :: p) Q X
  | .cond c x y, p, Q, X =>
    match cuts p with
    | some J => [J = cdB P (.cond c x y) Q X]
    | none => okLB P cuts x (0 :: p) Q X ++ okLB P cuts y (1 :: p) Q X
  | .block id c, p, Q, X =>
    match cuts p with
    | some J => [J = cdB P (.block id c) Q X]
    | none => okLB P cuts c (0 :: p) (blkT id Q) X
  | c, p, Q, X =>
    match cuts p with
    | some J => [J = cdB P c Q X]
    | none => []
theorem shHB_sound {P : Program} {cuts : Cuts} : ∀ (c : Code) (p : List Nat) (Q Q' : Exit → Act → Imm → Own → Prop) (X : XB) (a : Act) (I : Imm) (L : Own), (∀ e a I L, Q' e a I L → Q e a I L) → allP (okLB P cuts c p Q X) →
    shHB P cuts c p Q' X a I L → cdB P c Q X a I L := by
  intro c
  induction c with
  | seq x y ihx ihy =>
    intro p Q Q' X a I L hq ok h
    simp only [okLB, shHB] at ok h
    split at h
    · rename_i J hJ; simp only [hJ, allP, and_true] at ok; rw [← ok]; exact h
    · rename_i hJ
      simp only [hJ] at ok
      obtain ⟨ok1, ok2⟩ := allP_append ok
      have hx : cdB P x (seqT (cdB P y Q X) Q) X a I L := ihx _ _ _ X a I L (fun e a I L he => by
        cases e
        case normal => exact ihy _ Q Q' X a I L hq ok2 he
        all_goals exact hq _ _ _ _ he) ok1 h
      intro F W hs
      refine wp_seq (wp_mono (hx F W hs) fun e a' W' he => ?_)
      cases e <;> simp only [liftB, seqT, Exit.then] at he ⊢
      case normal =>
        obtain ⟨I', L', h1, h2, h3⟩ := he
        exact wp_mono (h3 F W' h2) (liftB_mono h1 fun _ _ _ _ h => h)
      all_goals exact he
  | cond c x y ihx ihy =>
    intro p Q Q' X a I L hq ok h
    simp only [okLB, shHB] at ok h
    split at h
    · rename_i J hJ; simp only [hJ, allP, and_true] at ok; rw [← ok]; exact h
    · rename_i hJ
      simp only [hJ] at ok
      obtain ⟨ok1, ok2⟩ := allP_append ok
      simp only [cnd] at h
      intro F W hs
      split at h
      · rename_i hc; exact wp_cond_true hc (ihx _ Q Q' X a I L hq ok1 h F W hs)
      · rename_i hc; exact wp_cond_false hc (ihy _ Q Q' X a I L hq ok2 h F W hs)
      · exact h.elim
  | block id c ih =>
    intro p Q Q' X a I L hq ok h
    simp only [okLB, shHB] at ok h
    split at h
    · rename_i J hJ; simp only [hJ, allP, and_true] at ok; rw [← ok]; exact h
    · rename_i hJ
      simp only [hJ] at ok
      have hx : cdB P c (blkT id Q) X a I L := ih _ _ _ X a I L (fun e a I L he => by
        cases e
        case exit k =>
          simp only [blkT] at he ⊢
          split
          · rename_i hk; rw [if_pos hk] at he; exact hq _ _ _ _ he
          · rename_i hk; rw [if_neg hk] at he; exact hq _ _ _ _ he
        all_goals exact hq _ _ _ _ he) ok h
      intro F W hs
      refine wp_block (wp_mono (hx F W hs) fun e a' W' he => ?_)
      cases e <;> simp only [liftB, blkT, Exit.inBlock] at he ⊢
      case exit k =>
        obtain ⟨I', L', h1, h2, h3⟩ := he
        split
        · rename_i hk; rw [if_pos hk] at h3; exact ⟨I', L', h1, h2, h3⟩
        · rename_i hk; rw [if_neg hk] at h3; exact ⟨I', L', h1, h2, h3⟩
      all_goals exact he
  | region id ops draw =>
    intro p Q Q' X a I L hq ok h
    cases draw <;> simp only [okLB, shHB] at ok h <;> split at h
    · rename_i J hJ; simp only [hJ, allP, and_true] at ok; rw [← ok]; exact h
    · exact fun F W hs => wp_mono (wp_region (shOpsB_sound (Q := Q') _ _ _ _ _ (.refl I) hs h)) (liftB_mono (.refl I) hq)
    · rename_i J hJ; simp only [hJ, allP, and_true] at ok; rw [← ok]; exact h
    · exact fun F W hs => wp_mono (h F W hs) (liftB_mono (.refl I) hq)
  | skip =>
    intro p Q Q' X a I L hq ok h
    simp only [okLB, shHB] at ok h
    split at h
    · rename_i J hJ; simp only [hJ, allP, and_true] at ok; rw [← ok]; exact h
    · exact fun F W hs => wp_skip ⟨I, L, .refl I, hs, hq _ _ _ _ h⟩
  | exit id =>
    intro p Q Q' X a I L hq ok h
    simp only [okLB, shHB] at ok h
    split at h
    · rename_i J hJ; simp only [hJ, allP, and_true] at ok; rw [← ok]; exact h
    · exact fun F W hs => wp_exit ⟨I, L, .refl I, hs, hq _ _ _ _ h⟩
  | ret =>
    intro p Q Q' X a I L hq ok h
    simp only [okLB, shHB] at ok h
    split at h
    · rename_i J hJ; simp only [hJ, allP, and_true] at ok; rw [← ok]; exact h
    · exact fun F W hs => wp_ret ⟨I, L, .refl I, hs, hq _ _ _ _ h⟩
  | _ =>
    intro p Q Q' X a I L hq ok h
    simp only [okLB, shHB] at ok h
    split at h
    · rename_i J hJ; simp only [hJ, allP, and_true] at ok; rw [← ok]; exact h
    · exact fun F W hs => wp_mono (h F W hs) (liftB_mono (.refl I) hq)

/-- A piece of a text, cut, out of its shallow form. -/
theorem sh_cutB {P : Program} {c : Code} {Q : Exit → Act → Imm → Own → Prop} {X : XB} {a : Act} {I : Imm} {L : Own} {T O : Prop} (cuts : Cuts) (ho : allP (okLB P cuts c [] Q X) = O) (hO : O)
    (he : shHB P cuts c [] Q X a I L = T) (h : T) : cdB P c Q X a I L := shHB_sound c [] Q Q X a I L (fun _ _ _ _ h => h) (ho ▸ hO) (he ▸ h)
theorem wpC_goX {P : Program} {f : FuncId} {fn : Func} {args : Array Value} {I : Imm} {L : Own} {R : Ending → Imm → Own → Prop} {T O : Prop} {X : XB} (hX : ∀ ch a I L, X ch a I L → endXB P fn R ch a I L) (cuts : Cuts) (hf : P.funcs[f]? = some fn) (hb : fn.body.isSome = true)
    (ho : allP (okLB P cuts (cdIn fn []) [] (endB P fn R) X) = O) (hO : O)
    (he : shHB P cuts (cdIn fn []) [] (endB P fn R) X { tmps := (args.toList ++ List.replicate (fn.ntmps - args.toList.length) undef).toArray, defers := [] } I L = T) (h : T) : wpC P f args I L R := by
  obtain ⟨c, hc⟩ := Option.isSome_iff_exists.1 hb
  refine wpC_of_cdB hf hc hX ?_
  have e : cdIn fn [] = c := by
    unfold cdIn
    rw [hc]
    cases c <;> rfl
  have e2 : args ++ Array.replicate (fn.ntmps - args.size) undef = (args.toList ++ List.replicate (fn.ntmps - args.toList.length) undef).toArray := by
    apply Array.ext'
    simp
  rw [← e, e2]
  exact sh_cutB cuts ho hO he h
theorem loop_genB {P : Program} {c body : Code} {Q : Exit → Act → Imm → Own → Prop} {X : XB} (hc : c = .loop body) (Inv : Nat → Act → Imm → Own → Prop) {n : Nat} {a : Act} {I : Imm} {L : Own} (h0 : Inv n a I L)
    (round : ∀ n a I' L', I.Le I' → Inv n a I' L' → cdB P body (seqT (fun a I L => ∃ m, m < n ∧ Inv m a I L) Q) X a I' L') : cdB P c Q X a I L := by
  subst hc
  exact loop_ruleB Inv h0 round

/-! ### Frames -/
abbrev Env := Nat → Value
def U (s : Env) (i : Nat) (v : Value) : Env := fun j => cond (Nat.beq j i) v (s j)
def eU : Env := fun _ => undef
def lstF : Nat → Nat → Env → List Value
  | _, 0, _ => []
  | i, n + 1, s => s i :: lstF (i + 1) n s
def fr (n : Nat) (s : Env) (ds : List Deferred) : Act := { tmps := ⟨lstF 0 n s⟩, defers := ds }

/-! ### A deferred function that recovers -/
def opN (f : Func) (p : List Nat) (i : Nat) : Oper := ((opsIn f p)[i]?).getD ⟨none, .move (.tmp 0), 0, "", #[], none⟩
/-- What recover hands back, and how the frame goes on. -/
inductive RecM : FrameMode → Value → FrameMode → Prop where
  | ret : RecM .returning .nilIface .returning
  | pan (v : Value) (older : List PanicEntry) : RecM (.panicking ({ v, recovered := false } :: older)) v (.panicking ({ v, recovered := true } :: older))
theorem wpD_rec {P : Program} {f : FuncId} {fn : Func} {args : Array Value} {I : Imm} {L : Own} {R : Ending → FrameMode → Imm → Own → Prop} {rv : Value} {m m' : FrameMode} {id d0 d1 : Nat} {o0 o1 : Oper} {c : Code} {ts : Array TypeId} {T O : Prop} (hm : RecM m rv m') (cuts : Cuts)
    (hf : P.funcs[f]? = some fn) (hb : fn.body = some (.seq (.region id #[o0, o1] false) c)) (h0 : o0.op = .call { callee := .builtin .recover, args := #[], argTypes := ts }) (h0d : o0.dst = some d0) (h0g : o0.guard = none) (h1 : o1.op = .assign (.tmp d0)) (h1d : o1.dst = some d1) (h1g : o1.guard = none)
    (hlt : (decide (d0 < fn.ntmps)) = true)
    (ho : allP (okLB P cuts c [] (endT P fn fun e => R e m') (endN fun e => R e m')) = O) (hO : O)
    (he : shHB P cuts c [] (endT P fn fun e => R e m') (endN fun e => R e m') { tmps := ((args.toList ++ List.replicate (fn.ntmps - args.toList.length) undef).toArray.setIfInBounds d0 rv).setIfInBounds d1 rv, defers := [] } I L = T) (h : T) : wpD P f args m I L R := by
  intro F W hs
  refine callsD_of_wpS hf hb fun c₀ cs hu => ?_
  have key : ∀ cs' : List Frame, cs' = { c₀ with mode := m' } :: cs → c.wpS P (bodyPostS P fn c₀ cs fun e m'' W' => ∃ I' L', I.Le I' ∧ St W' I' (L' ++ F) ∧ R e m'' I' L') { tmps := ((args.toList ++ List.replicate (fn.ntmps - args.toList.length) undef).toArray.setIfInBounds d0 rv).setIfInBounds d1 rv, defers := [] } cs' W := by
    rintro _ rfl
    refine wpS_of_wp (wp_mono (sh_cutB cuts ho hO he h F W hs) fun e a W' hq => ?_)
    have fin : (∃ I' L', I.Le I' ∧ St W' I' (L' ++ F) ∧ endT P fn (fun e => R e m') .ret a I' L') → a.defers = [] ∧ ∃ u', { c₀ with mode := m' } :: cs = { c₀ with mode := u' } :: cs ∧ ∃ v, (results fn a.tmps).run P W' = .ok v W' ∧ ∃ I' L', I.Le I' ∧ St W' I' (L' ++ F) ∧ R (.returned v) u' I' L' := by
      rintro ⟨I', L', g1, g2, g3⟩
      simp only [endT] at g3
      split at g3
      · rename_i hd
        obtain ⟨vs, hk, hr⟩ := rtT_run g3
        exact ⟨hd, m', rfl, _, results_run (hr F W' g2), I', L', g1, g2, hk⟩
      · exact g3.elim
    cases e <;> simp only [liftB, bodyPostS] at hq ⊢
    case normal => exact fin hq
    case ret => exact fin hq
    case panic ch =>
      obtain ⟨I', L', g1, g2, g3⟩ := hq
      unfold endN at g3
      split at g3
      · rename_i hd
        exact ⟨hd, m', rfl, I', L', g1, g2, g3⟩
      · exact g3.elim
    all_goals exact (let ⟨_, _, _, _, h⟩ := hq; h)
  have e2 : args ++ Array.replicate (fn.ntmps - args.size) undef = (args.toList ++ List.replicate (fn.ntmps - args.toList.length) undef).toArray := by
    apply Array.ext'
    simp
  rw [e2]
  generalize hA : (args.toList ++ List.replicate (fn.ntmps - args.toList.length) undef).toArray = A at *
  refine wpS_seq (wpS_region ?_)
  have hsz : d0 < A.size := by
    rw [← hA]
    have := of_decide_eq_true hlt
    simp
    omega
  have hw0 : ∀ y, Region.wanted o0 y = true := fun y => wanted_none h0g
  have hw1 : ∀ y, Region.wanted o1 y = true := fun y => wanted_none h1g
  have hr0 : ∀ (a : Act) (W : World), (execOp a.eval o0).run P W = .ok .recover W := fun a W => by
    simp only [execOp, h0]
    rfl
  have hr1 : ∀ (a : Act) (W : World), (execOp a.eval o1).run P W = .ok (.value (a.eval (.tmp d0))) W := fun a W => by
    simp only [execOp, h1]
    rfl
  have hget : ∀ (ds : List Deferred), (Act.mk (A.setIfInBounds d0 rv) ds).eval (.tmp d0) = rv := fun ds => by
    simp [Act.eval, Array.getD_eq_getD_getElem?, hsz]
  show wpOpsS P #[o0, o1] _ [0, 1] _ _ _
  have q0 : (#[o0, o1] : Array Oper)[0]? = some o0 := rfl
  have q1 : (#[o0, o1] : Array Oper)[1]? = some o1 := rfl
  simp only [wpOpsS, q0, q1, hw0, hw1, hr0, hr1, if_true]
  cases hm with
  | ret =>
    have hrec : recoverD (c₀ :: cs) = none := by simp [recoverD, hu]
    simp only [hrec, Oper.upon, Act.put, h0d, h1d, hget, Exit.thenS]
    exact key _ (by rw [← hu])
  | pan _ older =>
    have hrec : recoverD (c₀ :: cs) = some (rv, { c₀ with mode := .panicking ({ v := rv, recovered := true } :: older) } :: cs) := by simp [recoverD, hu]
    simp only [hrec, Oper.upon, Act.put, h0d, h1d, hget, Exit.thenS]
    exact key _ rfl
end Go.Proofs.YtkclodaplbalfaaDoor.Sl
