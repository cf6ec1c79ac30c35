/- More steps: rows behind rows, rows whose room is cut, maps. Conditions: none. -/
import Derived.Test.YtkclodaplbalfaaDoorOps2
set_option linter.unusedVariables false
set_option linter.unusedSimpArgs false
namespace Go.Proofs.YtkclodaplbalfaaDoor.Sl
open Go
section
variable {P : Program} {I : Imm} {L : Own} {k : KV} {X : List PanicEntry → Imm → Own → Prop}
/-- append(a, b...), b lying for good. -/
theorem appS_ {t ty e sz y n m c2 : Nat} {z v : Value} {xs news : List Value} {A : Option Addr} {L1 r : Own} [h : TU P t (.slice e)] [hz : TI P e sz y z] (hown : OSl e sz v n xs L1) [hf : Foc L L1 r]
    (hnew : RSl I A news) (hl : news.length = m * sz) (hp : ∀ u ∈ news, plainV u = true)
    (k' : ∀ v' L1', OSl e sz v' (n + m) (xs ++ news) L1' → k v' I (L1' ++ r)) (hb : (n + m) * y ≤ 140737488355328 := by omega) (hm : n + m ≤ 9223372036854775807 := by omega) (hzc : z.cells.size = sz := by rfl) (hsz0 : sz ≠ 0 := by decide) :
    blt P .append #[t, t] ty #[v, .slice A m c2] I L k := by
  rcases hnew with rfl | ⟨b, o, rfl, hnew⟩
  · have hm0 : m = 0 := by
      rcases Nat.mul_eq_zero.1 (show m * sz = 0 by simpa using hl.symm) with h | h
      · exact h
      · exact absurd h hsz0
    subst hm0
    cases A with
    | some A => exact app_ hown (fun F W hs j u hu => by simp at hu) hl hp (fun v' L1' h _ => k' v' L1' h) hb hm hzc
    | none =>
      intro F W hs
      obtain ⟨inf, hi, he⟩ := Option.map_eq_some_iff.1 hz.h
      simp only [Prod.mk.injEq] at he
      have hs1 : St W I ((L1 ++ r) ++ F) := hs.perm (hf.h.append_right F)
      have hown' := hown
      obtain ⟨hxl, hv⟩ := hown
      have k2 := k' v L1 (by simpa using hown')
      rcases hv with ⟨rfl, rfl, rfl⟩ | ⟨g, o, cap, cur, rfl, rfl, hnc, hsize, hx⟩
      · have hr : (Builtin.append_ #[t, t] ty #[.slice none 0 0, .slice none 0 c2]).run P W = .ok (.slice none 0 0) W := by
          simp [Builtin.append_, run_under h.h, sizeOf, typeInfo, hi, Builtin.lenOf, Builtin.firstCells, loadCells, loadCellsFrom, Sem.run_bind, program, Sem.run]
        rw [hr]
        exact ⟨I, _, .refl I, hs1, k2⟩
      · have hr : (Builtin.append_ #[t, t] ty #[.slice (some ⟨g, o, none⟩) n cap, .slice none 0 c2]).run P W = .ok (.slice (some ⟨g, o, none⟩) n cap) W := by
          simp [Builtin.append_, run_under h.h, sizeOf, typeInfo, hi, Builtin.lenOf, Builtin.firstCells, hnc, storeCells, Sem.run_bind, program, Sem.run]
        rw [hr]
        exact ⟨I, _, .refl I, hs1, k2⟩
  · exact app_ hown (.imm hnew) hl hp (fun v' L1' h _ => k' v' L1' h) hb hm hzc
/-- append to a row that has no room, and is for good, as is what comes of it. -/
theorem appG_ {t ty e sz y n m c2 : Nat} {z : Value} {xs news : List Value} {A0 : Option Addr} {A : Addr} [h : TU P t (.slice e)] [hz : TI P e sz y z] (hold : RSl I A0 xs) (hlo : xs.length = n * sz)
    (hnew : Seen I L A news) (hl : news.length = m * sz) (hm0 : 0 < m)
    (k' : ∀ A' c' J, I.Le J → RSl J A' (xs ++ news) → n + m ≤ c' → k (.slice A' (n + m) c') J L) (hb : (n + m) * y ≤ 140737488355328 := by omega) (hm : n + m ≤ 9223372036854775807 := by omega) (hzc : z.cells.size = sz := by rfl) (hsz0 : sz ≠ 0 := by decide) :
    blt P .append #[t, t] ty #[.slice A0 n n, .slice (some A) m c2] I L k := by
  intro F W hs
  obtain ⟨inf, hi, he⟩ := Option.map_eq_some_iff.1 hz.h
  simp only [Prod.mk.injEq] at he
  have hnew' := hnew F W hs
  have hge := grownCap_ge W (n + m) n e
  obtain ⟨u, hr, hu⟩ : ∃ cs : Array Value, (Builtin.append_ #[t, t] ty #[.slice A0 n n, .slice (some A) m c2]).run P W = .ok (.slice (some ⟨W.heap.size, 0, none⟩) (n + m) (grownCap W (n + m) n e)) (W.drew.alloc (.cells cs e)) ∧ cs.toList.take (xs ++ news).length = xs ++ news := by
    refine ⟨xs.toArray ++ news.toArray ++ Builtin.zeroCells z.cells (grownCap W (n + m) n e - (n + m)), ?_, by simp only [Array.toList_append]; exact List.take_left⟩
    rcases hold with rfl | ⟨b, o, rfl, hold⟩
    · have hn0 : n = 0 := by
        rcases Nat.mul_eq_zero.1 (show n * sz = 0 by simpa using hlo.symm) with h | h
        · exact h
        · exact absurd h hsz0
      subst hn0
      cases A0 with
      | none =>
        have := run_append_nil (P := P) W t ty e inf z h.h hi he.2.2 A m c2 news (by rw [he.1]; exact hl) hnew' hm0 (by omega) (by rw [he.2.1]; have := hb; simp only [Nat.zero_add] at this; omega)
        simpa using this
      | some A0 => exact run_append_grow (P := P) W t ty e inf z h.h hi he.2.2 A0 0 0 [] (by simp) (fun j u hu => by simp at hu) A m c2 news (by rw [he.1]; exact hl) hnew' (by omega) (by omega) (growslice_fits (by omega) (by rw [he.2.1]; exact hb))
    · exact run_append_grow (P := P) W t ty e inf z h.h hi he.2.2 ⟨b, o, none⟩ n n xs (by rw [he.1]; exact hlo) (Seen.imm hold F W hs) A m c2 news (by rw [he.1]; exact hl) hnew' (by omega) (by omega) (growslice_fits (by omega) (by rw [he.2.1]; exact hb))
  rw [hr]
  have hw := (hs.drew (W.drawn + 1)).new (.cells u e)
  have hz2 := St.freeze hw
  refine ⟨I.add W.heap.size (.cells u e), L, hz2.1, hz2.2, k' _ _ _ hz2.1 (.inr ⟨W.heap.size, 0, rfl, u, e, (0, 0), by simp [Imm.add], by simpa using hu⟩) hge⟩

/-! ### maps -/
def simpleD (d : TypeDesc) : Bool := match d with | .interface _ => false | .array _ _ => false | .struct _ => false | _ => true
/-- Keys of this type are compared at once. -/
class KeyT (P : Program) (kt : Nat) (α : Type) [DecidableEq α] (K : outParam (α → Value)) : Prop where
  h : ∃ d, P.underlying kt = some d ∧ (∀ a b : α, Instr.sameNow d (K a) (K b) = some (decide (a = b))) ∧ simpleD d = true ∧ (∀ a : α, Instr.sameBits 10000 (K a) (K a) = true)
/-- A map's block. -/
def MapO {α : Type} (K : α → Value) (m : List (α × Value)) (o : Obj) : Prop := ∃ es clock, o = .map es clock ∧ es.toList.map (fun e => (e.key, e.val)) = m.map fun p => (K p.1, p.2)
variable {α : Type} [DecidableEq α] {K : α → Value}
def mget (m : List (α × Value)) (a : α) : Option Value := (m.find? fun p => decide (a = p.1)).map (·.2)
def mput : List (α × Value) → α → Value → List (α × Value)
  | [], a, v => [(a, v)]
  | p :: m, a, v => if a = p.1 then (a, v) :: m else p :: mput m a v
theorem run_checkKey {kt n : Nat} {d : TypeDesc} {b : Bool} {v : Value} (h1 : P.underlying kt = some d) (h2 : simpleD d = true) (W : World) : (Instr.checkKey b (n + 1) kt v).run P W = .ok () W := by
  simp only [Instr.checkKey, Sem.run_bind, run_under h1, Result.andThen]
  cases d <;> first | rfl | cases h2
theorem findNow_spec {d : TypeDesc} (hs : ∀ a b : α, Instr.sameNow d (K a) (K b) = some (decide (a = b))) (a : α) : ∀ (es : List MapEntry) (m : List (α × Value)) (i : Nat), es.map (fun e => (e.key, e.val)) = m.map (fun p => (K p.1, p.2)) →
    ∃ r, Instr.findNow d (K a) es i = some r ∧ r.map (·.2) = mget m a ∧ (∀ p, r = some p → ∃ j, p.1 = i + j ∧ j < es.length ∧ (m[j]?).map (·.1) = some a ∧ ∀ j', j' < j → (m[j']?).map (·.1) ≠ some a) ∧ (r = none → ∀ q ∈ m, a ≠ q.1)
  | [], m, i, h => by
    have : m = [] := by cases m <;> simp at h ⊢
    subst this
    exact ⟨none, rfl, rfl, fun p hp => by simp at hp, fun _ q hq => by cases hq⟩
  | e :: es, [], i, h => by simp at h
  | e :: es, p :: m, i, h => by
    simp only [List.map_cons, List.cons.injEq, Prod.mk.injEq] at h
    obtain ⟨⟨hk, hv⟩, ht⟩ := h
    obtain ⟨r, h1, h2, h3, h4⟩ := findNow_spec hs a es m (i + 1) ht
    by_cases hap : a = p.1
    · refine ⟨some (i, e.val), ?_, ?_, fun q hq => ?_, fun h => by cases h⟩
      · simp [Instr.findNow, hk, hs, hap]
      · simp [mget, hap, hv]
      · cases hq
        exact ⟨0, rfl, by simp, by simp [hap], fun j' hj' => by omega⟩
    · refine ⟨r, ?_, ?_, fun q hq => ?_, fun h q hq => ?_⟩
      · simp [Instr.findNow, hk, hs, hap, h1]
      · rw [h2]
        simp [mget, hap]
      · obtain ⟨j, g1, g2, g3, g4⟩ := h3 q hq
        refine ⟨j + 1, by omega, by simp only [List.length_cons]; omega, by simpa using g3, fun j' hj' => ?_⟩
        cases j' with
        | zero => simpa using fun e => hap e.symm
        | succ j' => simpa using g4 j' (by omega)
      · rcases List.mem_cons.1 hq with rfl | hq
        · exact hap
        · exact h4 h q hq
theorem run_findKey {kt : Nat} {d : TypeDesc} {a : Value} {es : List MapEntry} {r : Option (Nat × Value)} (h1 : P.underlying kt = some d) (g1 : Instr.findNow d a es 0 = some r) (W : World) : (Instr.findKey kt a es).run P W = .ok r W := by
  simp only [Instr.findKey, Sem.run_bind, run_under h1, Result.andThen]
  rw [g1]
  rfl
omit [DecidableEq α] in
theorem mkm_ {t : Nat} (k' : ∀ b o, MapO K ([] : List (α × Value)) o → k (.map (some b)) I ((b, o) :: L)) : mkm P t none I L k := fun F W hs =>
  ⟨I, _, .refl I, hs.new (.map #[] 0), k' _ _ ⟨#[], 0, rfl, rfl⟩⟩
theorem run_lkp {t kt et b sz y : Nat} {z : Value} {m : List (α × Value)} {o : Obj} {a : α} {ok : Bool} [h : TU P t (.map kt et)] [hk : KeyT P kt α K] [hz : TI P et sz y z] (hm : MapO K m o) {W : World} (hb : W.heap[b]? = some o) :
    (Instr.lookup t (.map (some b)) (K a) ok).run P W = .ok (if ok then .tuple #[(mget m a).getD z, .bool (mget m a).isSome] else (mget m a).getD z) W := by
  obtain ⟨d, h1, h2, h3, h4⟩ := hk.h
  obtain ⟨es, clock, rfl, he⟩ := hm
  obtain ⟨inf, hi, hez⟩ := Option.map_eq_some_iff.1 hz.h
  simp only [Prod.mk.injEq] at hez
  obtain ⟨r, g1, g2, g3, g4⟩ := findNow_spec h2 a es.toList m 0 he
  simp only [Instr.lookup, Sem.run_bind, run_under h.h, Result.andThen, getObj, Sem.run, hb, run_checkKey h1 h3, Sem.run_pure, run_findKey h1 g1]
  rw [← g2]
  cases r with
  | none => cases ok <;> simp [zeroValue, run_info hi, hez.2.2]
  | some p => cases ok <;> simp
theorem lkp_ {t kt et b sz y : Nat} {z : Value} {m : List (α × Value)} {o : Obj} {a : α} [h : TU P t (.map kt et)] [hk : KeyT P kt α K] [hz : TI P et sz y z] [hb : HasB L b o] (hm : MapO K m o)
    (k' : k ((mget m a).getD z) I L) : lkp P t (.map (some b)) (K a) false I L k := wpS.of_rd (fun F W hs => by simpa using run_lkp (ok := false) hm (hs.has hb.h)) k'
theorem mapO_push {m : List (α × Value)} {es : Array MapEntry} {clock : Nat} {a : α} {v : Value} (he : es.toList.map (fun e => (e.key, e.val)) = m.map fun p => (K p.1, p.2)) (hn : ∀ q ∈ m, a ≠ q.1) : MapO K (mput m a v) (.map (es.push { key := K a, val := v, born := clock }) (clock + 1)) := by
  have e1 : mput m a v = m ++ [(a, v)] := by
    clear he
    induction m with
    | nil => rfl
    | cons p m ih => simp only [mput, if_neg (hn p (by simp)), List.cons_append, ih (fun q hq => hn q (by simp [hq]))]
  exact ⟨_, _, rfl, by simp [e1, he]⟩
theorem mput_at {v : Value} {a : α} : ∀ {m : List (α × Value)} {j : Nat}, (m[j]?).map (·.1) = some a → (∀ j', j' < j → (m[j']?).map (·.1) ≠ some a) → mput m a v = m.set j (a, v)
  | [], j, h, _ => by simp at h
  | p :: m, 0, h, _ => by
    have : p.1 = a := by simpa using h
    simp [mput, this]
  | p :: m, j + 1, h, hn => by
    have h0 : p.1 ≠ a := by simpa using hn 0 (by omega)
    simp only [mput, if_neg (Ne.symm h0), List.set_cons_succ]
    rw [mput_at (by simpa using h) fun j' hj' => by simpa using hn (j' + 1) (by omega)]
theorem mup_ {t kt et b : Nat} {m : List (α × Value)} {o : Obj} {a : α} {v : Value} {mk : Obj → Own} [h : TU P t (.map kt et)] [hk : KeyT P kt α K] [hb : SlotB L b o mk] (hm : MapO K m o)
    (k' : ∀ o', MapO K (mput m a v) o' → k undef I (mk o')) : mup P t (.map (some b)) (K a) v I L k := by
  obtain ⟨r, hp1, hp2⟩ := hb.h
  refine wpS.perm hp1 fun F W hs => ?_
  obtain ⟨d, h1, h2, h3, h4⟩ := hk.h
  obtain ⟨es, clock, rfl, he⟩ := hm
  obtain ⟨q, g1, g2, g3, g4⟩ := findNow_spec h2 a es.toList m 0 he
  have hbb : W.heap[b]? = some (.map es clock) := hs.own (b, .map es clock) (by simp)
  have hlt : b < W.heap.size := (Array.getElem?_eq_some_iff.1 hbb).1
  suffices hq : ∃ o' H, MapO K (mput m a v) o' ∧ (Instr.mapUpdate t (.map (some b)) (K a) v).run P W = .ok () { W with heap := H } ∧ (∀ j, j ≠ b → H[j]? = W.heap[j]?) ∧ H[b]? = some o' by
    obtain ⟨o', H, ho, hr, e2, e3⟩ := hq
    rw [hr]
    refine ⟨I, mk o', .refl I, ?_, k' o' ho⟩
    have := St.set (L := r ++ F) (o' := o') (by simpa using hs) e2 e3
    exact this.perm ((hp2 o').symm.append_right F)
  cases q with
  | none =>
    refine ⟨.map (es.push { key := K a, val := v, born := clock }) (clock + 1), W.heap.setIfInBounds b (.map (es.push { key := K a, val := v, born := clock }) (clock + 1)), mapO_push he (g4 rfl), ?_, fun j hj => by rw [Array.getElem?_setIfInBounds, if_neg (Ne.symm hj)], by simp [hlt]⟩
    simp only [Instr.mapUpdate, Sem.run_bind, run_under h.h, Result.andThen, getObj, Sem.run, hbb, run_checkKey h1 h3, Sem.run_pure, run_findKey h1 g1]
    simp [setObj, Sem.run, hbb]
  | some p =>
    obtain ⟨j, e1, e2, e3, e4⟩ := g3 p rfl
    rw [Nat.zero_add] at e1
    have hj : j < es.size := by simpa using e2
    have hkj : (es[j]).key = K a := by
      have h5 : (es.toList.map (fun e => (e.key, e.val)))[j]? = some ((es[j]).key, (es[j]).val) := by simp [hj]
      rw [he, List.getElem?_map] at h5
      cases hmj : m[j]? with
      | none => simp [hmj] at e3
      | some u =>
        rw [hmj] at h5 e3
        simp only [Option.map_some, Option.some.injEq, Prod.mk.injEq] at h5 e3
        rw [← h5.1, e3]
    have hstay : ∀ W, (Instr.keyThatStays (K a) (K a)).run P W = .ok (K a) W := fun W => by simp [Instr.keyThatStays, h4]
    refine ⟨.map (es.modify j fun e => { e with key := K a, val := v }) clock, W.heap.setIfInBounds b (.map (es.modify j fun e => { e with key := K a, val := v }) clock), ⟨_, _, rfl, ?_⟩, ?_, fun j hj => by rw [Array.getElem?_setIfInBounds, if_neg (Ne.symm hj)], by simp [hlt]⟩
    · rw [mput_at e3 e4, List.map_set]
      apply List.ext_getElem?
      intro i
      rw [List.getElem?_map, Array.getElem?_toList, Array.getElem?_modify]
      have h6 : (es.toList.map (fun e => (e.key, e.val)))[i]? = (m.map fun p => (K p.1, p.2))[i]? := by rw [he]
      rw [List.getElem?_map, Array.getElem?_toList] at h6
      by_cases hij : j = i
      · subst hij
        have hjm : j < m.length := by
          have := congrArg List.length he
          simp at this
          omega
        simp [hj, hjm]
      · rw [if_neg hij, List.getElem?_set, if_neg hij]
        exact h6
    · simp only [Instr.mapUpdate, Sem.run_bind, run_under h.h, Result.andThen, getObj, Sem.run, hbb, run_checkKey h1 h3, Sem.run_pure, run_findKey h1 g1]
      simp [e1, hj, hkj, hstay, setObj, Sem.run, hbb]
end
end Go.Proofs.YtkclodaplbalfaaDoor.Sl
