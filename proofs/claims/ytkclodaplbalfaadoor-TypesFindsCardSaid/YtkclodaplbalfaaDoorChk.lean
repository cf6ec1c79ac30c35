/- What is wrong with templates, in plain Lean: names, covers of covers, what is wrong first. Conditions: none. -/
import Derived.Test.YtkclodaplbalfaaDoorCov
import Derived.Test.YtkclodaplbalfaaDoorOps4
set_option linter.unusedVariables false
set_option linter.unusedSimpArgs false
set_option maxRecDepth 100000
namespace Go.Proofs.YtkclodaplbalfaaDoor
open Go Sl
/-- From a check to another one, by covers. -/
inductive Reach (l : List It) : Nat → Nat → Prop where
  | one {a b : Nat} : covB l a b = true → Reach l a b
  | step {a b c : Nat} : covB l a b = true → Reach l b c → Reach l a c
theorem Reach.snoc {l : List It} {a b c : Nat} (h : Reach l a b) (k : covB l b c = true) : Reach l a c := by
  induction h with
  | one h => exact .step h (.one k)
  | step h _ ih => exact .step h (ih k)
theorem covB_lt {l : List It} {a b : Nat} (h : covB l a b = true) : a < l.length ∧ b < l.length := by
  unfold covB at h
  constructor
  · rcases Nat.lt_or_ge a l.length with h1 | h1
    · exact h1
    · simp [List.getElem?_eq_none h1] at h
  · rcases Nat.lt_or_ge b l.length with h1 | h1
    · exact h1
    · rw [List.getElem?_eq_none h1] at h
      split at h <;> simp_all
theorem Reach.lt {l : List It} {a b : Nat} (h : Reach l a b) : b < l.length := by
  induction h with
  | one h => exact (covB_lt h).2
  | step _ _ ih => exact ih
theorem mem_covL {l : List It} {a b : Nat} : b ∈ covL l a ↔ covB l a b = true := by
  unfold covL
  rw [List.mem_filter, List.mem_range]
  exact ⟨fun h => h.2, fun h => ⟨(covB_lt h).2, h⟩⟩
theorem covL_length (l : List It) (i : Nat) : (covL l i).length ≤ l.length := by
  have := List.length_filter_le (covB l i) (List.range l.length)
  simpa [covL] using this
/-- The search's state. -/
structure ComSt (l : List It) (a c : Nat) (todo seen : List Nat) : Prop where
  r : ∀ k ∈ todo, Reach l a k
  s : ∀ k, covB l a k = true → k ∈ todo ∨ k ∈ seen
  t : ∀ k ∈ seen, ∀ j, covB l k j = true → j ∈ todo ∨ j ∈ seen
  n : c ∉ seen
  u : seen.Nodup
  b : ∀ k ∈ seen, k < l.length
theorem ComSt.start (l : List It) (a c : Nat) : ComSt l a c (covL l a) [] :=
  ⟨fun k h => .one (mem_covL.1 h), fun k h => .inl (mem_covL.2 h), fun k h => by simp at h, by simp, by simp, fun k h => by simp at h⟩
theorem ComSt.done {l : List It} {a c : Nat} {seen : List Nat} (h : ComSt l a c [] seen) : ¬ Reach l a c := fun hr => by
  have key : ∀ {x y : Nat}, Reach l x y → (∀ j, covB l x j = true → j ∈ seen) → y ∈ seen := by
    intro x y hxy
    induction hxy with
    | one h1 => exact fun hx => hx _ h1
    | step h1 _ ih => exact fun hx => ih fun j hj => by simpa using h.t _ (hx _ h1) j hj
  exact h.n (key hr fun j hj => by simpa using h.s j hj)
theorem ComSt.skip {l : List It} {a c k : Nat} {todo seen : List Nat} (h : ComSt l a c (k :: todo) seen) (hk : k ∈ seen) : ComSt l a c todo seen := by
  have key : ∀ j, j ∈ k :: todo ∨ j ∈ seen → j ∈ todo ∨ j ∈ seen := fun j hj => by
    rcases hj with hj | hj
    · rcases List.mem_cons.1 hj with rfl | hj
      · exact .inr hk
      · exact .inl hj
    · exact .inr hj
  exact ⟨fun j hj => h.r j (by simp [hj]), fun j hj => key j (h.s j hj), fun i hi j hj => key j (h.t i hi j hj), h.n, h.u, h.b⟩
theorem ComSt.add {l : List It} {a c k : Nat} {todo seen : List Nat} (h : ComSt l a c (k :: todo) seen) (hk : k ∉ seen) (hc : k ≠ c) (hkl : k < l.length) : ComSt l a c (todo ++ covL l k) (seen ++ [k]) := by
  have key : ∀ j, j ∈ k :: todo ∨ j ∈ seen → j ∈ todo ++ covL l k ∨ j ∈ seen ++ [k] := fun j hj => by
    rcases hj with hj | hj
    · rcases List.mem_cons.1 hj with rfl | hj
      · exact .inr (by simp)
      · exact .inl (by simp [hj])
    · exact .inr (by simp [hj])
  refine ⟨fun j hj => ?_, fun j hj => key j (h.s j hj), fun i hi j hj => ?_, by simp [h.n, Ne.symm hc], ?_, fun j hj => ?_⟩
  · rcases List.mem_append.1 hj with hj | hj
    · exact h.r j (by simp [hj])
    · exact (h.r k (by simp)).snoc (mem_covL.1 hj)
  · rcases List.mem_append.1 hi with hi | hi
    · exact key j (h.t i hi j hj)
    · simp at hi
      subst hi
      exact .inl (by simp [mem_covL.2 hj])
  · rw [List.nodup_append]
    exact ⟨h.u, by simp, fun x hx y hy => by simp at hy; subst hy; exact fun e => hk (e ▸ hx)⟩
  · rcases List.mem_append.1 hj with hj | hj
    · exact h.b j hj
    · simp at hj
      omega
theorem nodup_lt_length {s : List Nat} {n : Nat} (h : s.Nodup) (hb : ∀ k ∈ s, k < n) : s.length ≤ n := by
  have h1 := List.Nodup.length_le_of_subset h (l₂ := List.range n) (fun k hk => List.mem_range.2 (hb k hk))
  simpa using h1
/-! ### What is wrong first -/
abbrev Flt := Int × Int
abbrev Nm := List UInt8
def okF : Flt := (0, -1)
def asksW (seen : List Nm) (x : Ex) : Flt := match x.names.find? (fun n => decide (n.2 ∉ seen)) with | some n => (5, n.1) | none => okF
/-- The first one of n that is wrong. -/
def firstF : Nat → Nat → (Nat → Flt) → Flt
  | 0, _, _ => okF
  | n + 1, i, f => if (f i).1 ≠ 0 then f i else firstF n (i + 1) f
def ruleW (l : List It) (i : Nat) (x : It) : Flt :=
  if x.rule = 0 then okF
  else
    let a := whichZ l x.first
    let b := if x.rule = 3 then whichZ l x.last else a
    if a < 0 ∨ b < 0 then (7, x.at_)
    else if (x.rule = 2 ∧ (l[a.toNat]?.map (·.many)).getD false = false) ∨ (x.rule = 3 ∧ (x.width ≠ 4 ∨ x.signed = true)) then (13, x.at_)
    else if b < a then (10, x.at_)
    else if a ≤ i ∧ (i : Int) ≤ b then (6, x.at_)
    else okF
open Classical in
noncomputable def cycW (l : List It) (i : Nat) (x : It) : Flt := if x.rule = 3 ∧ Reach l i i then (11, x.at_) else okF
noncomputable def rulesW (l : List It) : Flt :=
  let f := firstF l.length 0 fun i => match l[i]? with | some x => ruleW l i x | none => okF
  if f.1 ≠ 0 then f else firstF l.length 0 fun i => match l[i]? with | some x => cycW l i x | none => okF
mutual
noncomputable def itW (ty : List Nm) : It → List Nm → List Nm → Flt × List Nm
  | ⟨k, a, nm, t, w, o, sg, mn, ct, rl, f, l, its⟩, names, seen =>
    if k ≠ 4 then
      if nm ∈ names then ((9, a), names)
      else if k = 3 ∧ t ∉ ty then ((7, a), names ++ [nm])
      else (asksW seen ct, names ++ [nm])
    else if (asksW seen ct).1 ≠ 0 then (asksW seen ct, names)
    else if (itsW ty its names seen).1.1 ≠ 0 then itsW ty its names seen
    else (rulesW its, (itsW ty its names seen).2)
noncomputable def itsW (ty : List Nm) : List It → List Nm → List Nm → Flt × List Nm
  | [], names, seen => (okF, names)
  | x :: l, names, seen => if (itW ty x names seen).1.1 ≠ 0 then itW ty x names seen else itsW ty l (itW ty x names seen).2 (if x.kind = 1 ∧ x.many = false then seen ++ [x.name] else seen)
end
noncomputable def blkW (ty : List Nm) (l : List It) (names seen : List Nm) : Flt × List Nm :=
  if (itsW ty l names seen).1.1 ≠ 0 then itsW ty l names seen else (rulesW l, (itsW ty l names seen).2)
noncomputable def typesW : List Ty → List Nm → Flt
  | [], _ => okF
  | t :: l, ty => if t.name ∈ ty then (9, t.at_) else if (blkW ty t.items [] []).1.1 ≠ 0 then (blkW ty t.items [] []).1 else typesW l (ty ++ [t.name])
end Go.Proofs.YtkclodaplbalfaaDoor
