/- More steps: pointers that are nil, rows that are cut, rows that are let lie. Conditions: none. -/
import Derived.Test.YtkclodaplbalfaaDoorOps3
set_option linter.unusedVariables false
set_option linter.unusedSimpArgs false
namespace Go.Proofs.YtkclodaplbalfaaDoor.Sl
open Go
section
variable {P : Program} {I : Imm} {L : Own} {k : KV} {X : List PanicEntry → Imm → Own → Prop}
theorem run_equalIn_pnil {t e : TypeId} {p : Option Addr} (d : Nat) (h : P.underlying t = some (.pointer e)) (W : World) : (Op.equalIn (d + 1) t (.pointer p) (.pointer none)).run P W = .ok p.isNone W := by
  cases p <;> simp [Op.equalIn, run_under h]
theorem run_equal_pnil {t e : TypeId} {p : Option Addr} (h : P.underlying t = some (.pointer e)) (W : World) : (Op.equal t (.pointer p) (.pointer none)).run P W = .ok p.isNone W := by
  unfold Op.equal Op.maxDepth
  exact run_equalIn_pnil 9999 h W
theorem rd_pnil {t e : TypeId} {c d : Bool} {p : Option Addr} [h : TU P t (.pointer e)] : Rd P (do eqGuard .eql t (opd c) (opd d) (.pointer p) (.pointer none); binOp .eql t (.pointer p) (.pointer none)) I L (.bool p.isNone) := .of_run fun W => by
  simp only [binOp]
  simp [eqGuard, run_equal_pnil h.h]
theorem rd_pnin {t e : TypeId} {c d : Bool} {p : Option Addr} [h : TU P t (.pointer e)] : Rd P (do eqGuard .neq t (opd c) (opd d) (.pointer p) (.pointer none); binOp .neq t (.pointer p) (.pointer none)) I L (.bool (!p.isNone)) := .of_run fun W => by
  simp only [binOp]
  simp [eqGuard, run_equal_pnil h.h]
theorem pnilt_ {t e : TypeId} {c d : Bool} [h : TU P t (.pointer e)] (k' : k (.bool true) I L) : eqn P .eql t c d (.pointer none) (.pointer none) I L k := wpS.of_rd rd_pnil k'
theorem pnilf_ {t e : TypeId} {c d : Bool} {a : Addr} [h : TU P t (.pointer e)] (k' : k (.bool false) I L) : eqn P .eql t c d (.pointer (some a)) (.pointer none) I L k := wpS.of_rd rd_pnil k'
theorem pnint_ {t e : TypeId} {c d : Bool} [h : TU P t (.pointer e)] (k' : k (.bool false) I L) : eqn P .neq t c d (.pointer none) (.pointer none) I L k := wpS.of_rd rd_pnin k'
theorem pninf_ {t e : TypeId} {c d : Bool} {a : Addr} [h : TU P t (.pointer e)] (k' : k (.bool true) I L) : eqn P .neq t c d (.pointer (some a)) (.pointer none) I L k := wpS.of_rd rd_pnin k'
/-- What one owns lies for good from here on. -/
theorem wpS.freeze {α : Type} {s : Sem α} {K : α → Imm → Own → Prop} (Z : Own) {r : Own} [hf : Foc L Z r] (h : ∀ J, I.Le J → (∀ p ∈ Z, J.mem p.1 = some p.2) → wpS P s J r K) : wpS P s I L K := fun F W hs => by
  have hp : (L ++ F).Perm (Z ++ (r ++ F)) := by
    refine (hf.h.append_right F).trans ?_
    rw [List.append_assoc]
  have h4 := hs.perm hp
  have h5 := h4.freezes
  have h6 := h _ h5.1 (adds_mem h4) F W h5.2
  revert h6
  cases s.run P W with
  | halt x W' => exact id
  | ok v W' => exact fun ⟨I', L', h1, h2, h3⟩ => ⟨I', L', h5.1.trans h1, h2, h3⟩
theorem len_freeze {ts : Array TypeId} {t : TypeId} {as : Array Value} (Z : Own) {r : Own} [hf : Foc L Z r] (h : ∀ J, I.Le J → (∀ p ∈ Z, J.mem p.1 = some p.2) → blt P .len ts t as J r k) : blt P .len ts t as I L k := wpS.freeze Z h
theorem app_freeze {ts : Array TypeId} {t : TypeId} {as : Array Value} (Z : Own) {r : Own} [hf : Foc L Z r] (h : ∀ J, I.Le J → (∀ p ∈ Z, J.mem p.1 = some p.2) → blt P .append ts t as J r k) : blt P .append ts t as I L k := wpS.freeze Z h
theorem cal_freeze {f : FuncId} {args : Array Value} (Z : Own) {r : Own} [hf : Foc L Z r] (h : ∀ J, I.Le J → (∀ p ∈ Z, J.mem p.1 = some p.2) → cal P f args J r X k) : cal P f args I L X k := fun F W hs => by
  have hp : (L ++ F).Perm (Z ++ (r ++ F)) := by
    refine (hf.h.append_right F).trans ?_
    rw [List.append_assoc]
  have h4 := hs.perm hp
  have h5 := h4.freezes
  have h6 := h _ h5.1 (adds_mem h4) F W h5.2
  revert h6
  cases (callFunc f args).run P W with
  | halt x W' => exact id
  | ok v W' =>
    cases v
    case value v => exact fun ⟨I', L', h1, h2, h3⟩ => ⟨I', L', h5.1.trans h1, h2, h3⟩
    case enter g as => exact fun h => h.mono fun e W'' ⟨I', L', h1, h2, h3⟩ => ⟨I', L', h5.1.trans h1, h2, h3⟩
    all_goals exact id
/-- All but these is let go, and they stand in this order. -/
theorem wpS.keep {α : Type} {s : Sem α} {K : α → Imm → Own → Prop} (L1 : Own) {r : Own} [hf : Foc L L1 r] (h : wpS P s I L1 K) : wpS P s I L K :=
  wpS.forget r (hf := ⟨hf.h.trans List.perm_append_comm⟩) h
theorem cdT.keep {c : Code} {Q : Exit → Act → Imm → Own → Prop} {X : XT} {a : Act} (L1 : Own) {r : Own} [hf : Foc L L1 r] (h : cdT P c Q X a I L1) : cdT P c Q X a I L :=
  cdT.forget r (hf := ⟨hf.h.trans List.perm_append_comm⟩) h
theorem splice_all {c vs : List Value} (h : c.length = vs.length) : splice c 0 vs = vs := by
  unfold splice
  rw [List.take_zero, List.nil_append, Nat.zero_add, List.drop_eq_nil_of_le (by omega), List.append_nil]
/-- A copy of a struct that nobody changes. -/
theorem alsf_ {e n y : Nat} {z : Value} {vs : List Value} {k : Value → KV} [h : TI P e n y z] [ha : Agg P e n] (k' : ∀ b J, I.Le J → RdAt J b 0 vs → k (ptr b 0) undef J L) (hz : z.cells.size = n := by rfl) (hl : vs.length = n := by rfl) (hp : vs.all plainV = true := by rfl) :
    al P e I L fun x I L => sto P e x (.agg vs.toArray) I L (k x) := by
  refine al_ fun b => ?_
  refine wpS.mono (K := fun _ J L' => ∃ M, L' = M ∧ k (ptr b 0) undef J M) ?_ (fun v J L' _ ⟨M, e, h⟩ => e ▸ h)
  have h1 : sto P e (ptr b 0) (.agg vs.toArray) I ((b, .cells z.cells e) :: L) fun _ J L' => L' = (b, .cells vs.toArray e) :: L ∧ J = I := by
    refine stoa_ (vs := vs.toArray) ⟨?_, rfl⟩ (by simpa using hl) (by simpa using hp) (by rw [Nat.zero_add, hz]; exact Nat.le_refl _)
    rw [splice_all (by simp [hz, hl])]
  intro F W hs
  have h2 := h1 F W hs
  revert h2
  cases hr : (Instr.storeAt e (ptr b 0) (.agg vs.toArray)).run P W with
  | halt x W' => exact id
  | ok v W' =>
    rintro ⟨I', L', h3, h4, rfl, rfl⟩
    have h5 := St.freeze (b := b) (o := .cells vs.toArray e) (L := L ++ F) h4
    exact ⟨_, L, h5.1, h5.2, L, rfl, k' b _ h5.1 ⟨vs.toArray, e, (0, 0), by simp [Imm.add], by simp⟩⟩
/-- .. and one that is changed. -/
theorem als_ {e n y : Nat} {z : Value} {vs : List Value} {k : Value → KV} [h : TI P e n y z] [ha : Agg P e n] (k' : ∀ b, k (ptr b 0) undef I ((b, .cells vs.toArray e) :: L)) (hz : z.cells.size = n := by rfl) (hl : vs.length = n := by rfl) (hp : vs.all plainV = true := by rfl) :
    al P e I L fun x I L => sto P e x (.agg vs.toArray) I L (k x) := by
  refine al_ fun b => ?_
  refine stoa_ (vs := vs.toArray) ?_ (by simpa using hl) (by simpa using hp) (by rw [Nat.zero_add, hz]; exact Nat.le_refl _)
  rw [splice_all (by simp [hz, hl])]
  exact k' b
theorem clv1_ {f : Nat} {a c : Value} (h : cal P f #[a, c] I L X k) : clv P (.func (.func f) #[] #[c]) #[a] I L X k := by simpa [clv] using h
/-- A call that leaves what is owned as it is. -/
theorem cal_keep {f : FuncId} {args : Array Value} {L1 r : Own} {Rv : Value → Imm → Prop} [hc : HasCode P f] [hf : Foc L L1 r] (h : RetC P f args I L1 fun v J L' => Rv v J ∧ L' = L1) (hk : ∀ v J, I.Le J → Rv v J → k v J L) : cal P f args I L X k := fun F W hs => by
  rw [run_callFunc]
  have hp : (L ++ F).Perm (L1 ++ (r ++ F)) := by rw [← List.append_assoc]; exact hf.h.append_right F
  refine ((show wpC P f args I L1 _ from h) (r ++ F) W (hs.perm hp)).mono fun e W' ⟨I', L', h1, h2, v, h3, h4, h5⟩ => ?_
  subst h3 h5
  exact ⟨I', L, h1, h2.perm hp.symm, hk v I' h1 h4⟩
theorem ldi0_ {t b o : Nat} {vs : List Value} {v : Value} [Scal P t] (h : RdAt I b o vs) (hv : vs[0]? = some v) (k' : k v I L) : ld P t (ptr b o) I L k := ldi_ h rfl hv k'
instance {t e : TypeId} {c d : Bool} [h : TU P t (.pointer e)] : StW (eqn P .eql t c d (.pointer none) (.pointer none) I L k) (k (.bool true) I L) := ⟨pnilt_⟩
instance {t e : TypeId} {c d : Bool} {a : Addr} [h : TU P t (.pointer e)] : StW (eqn P .eql t c d (.pointer (some a)) (.pointer none) I L k) (k (.bool false) I L) := ⟨pnilf_⟩
instance {t e : TypeId} {c d : Bool} [h : TU P t (.pointer e)] : StW (eqn P .neq t c d (.pointer none) (.pointer none) I L k) (k (.bool false) I L) := ⟨pnint_⟩
instance {t e : TypeId} {c d : Bool} {a : Addr} [h : TU P t (.pointer e)] : StW (eqn P .neq t c d (.pointer (some a)) (.pointer none) I L k) (k (.bool true) I L) := ⟨pninf_⟩
/-! ### sets -/
/-- A map that is a set. -/
def setM {α : Type} (l : List α) : List (α × Value) := l.map fun a => (a, .bool true)
theorem mget_setM {α : Type} [DecidableEq α] (l : List α) (a : α) : (mget (setM l) a).getD (.bool false) = .bool (decide (a ∈ l)) := by
  unfold mget setM
  induction l with
  | nil => rfl
  | cons x l ih =>
    simp only [List.map_cons, List.find?_cons, List.mem_cons]
    by_cases h : a = x
    · simp [h]
    · simp only [h, decide_false, false_or]
      exact ih
theorem mput_setM {α : Type} [DecidableEq α] (l : List α) (a : α) (h : a ∉ l) : mput (setM l) a (.bool true) = setM (l ++ [a]) := by
  unfold setM
  induction l with
  | nil => rfl
  | cons x l ih =>
    simp only [List.mem_cons, not_or] at h
    simp only [List.map_cons, List.cons_append, mput, if_neg h.1]
    rw [ih h.2]
theorem lkps_ {α : Type} [DecidableEq α] {K : α → Value} {t kt et b sz y : Nat} {m : List α} {o : Obj} {a : α} [h : TU P t (.map kt et)] [hk : KeyT P kt α K] [hz : TI P et sz y (.bool false)] [hb : HasB L b o] [hd : Decidable (a ∈ m)] (hm : MapO K (setM m) o)
    (k' : k (.bool (decide (a ∈ m))) I L) : lkp P t (.map (some b)) (K a) false I L k := lkp_ hm (by
  rw [mget_setM]
  have e : ∀ (i1 i2 : Decidable (a ∈ m)), @decide _ i1 = @decide _ i2 := fun i1 i2 => by congr
  rw [e _ hd]
  exact k')
theorem mups_ {α : Type} [DecidableEq α] {K : α → Value} {t kt et b : Nat} {m : List α} {o : Obj} {a : α} {mk : Obj → Own} [h : TU P t (.map kt et)] [hk : KeyT P kt α K] [hb : SlotB L b o mk] (hm : MapO K (setM m) o) (ha : a ∉ m)
    (k' : ∀ o', MapO K (setM (m ++ [a])) o' → k undef I (mk o')) : mup P t (.map (some b)) (K a) (.bool true) I L k := mup_ hm fun o' ho' => k' o' (by rw [← mput_setM m a ha]; exact ho')
/-! ### pieces of rows -/
theorem run_vslc {t e c n sz y l h m : Nat} {A : Option Addr} {z : Value} {lo hi mx : Option Value} [ht : TU P t (.slice e)] [hz : TI P e sz y z] {W : World} (hb : (Instr.sliceBounds true n c lo hi mx).run P W = .ok (l, h, m) W) :
    (Instr.sliceAt t (.slice A n c) lo hi mx).run P W = .ok (.slice (if m = l then A else A.map (·.add (l * sz))) (h - l) (m - l)) W := by
  obtain ⟨inf, hi, he⟩ := Option.map_eq_some_iff.1 hz.h
  simp only [Prod.mk.injEq] at he
  have hs : (sizeOf e).run P W = .ok sz W := run_size (by rw [hi]; simp [he.1]) W
  simp [Instr.sliceAt, Instr.slice, run_under ht.h, hb, hs]
theorem rd_vslc3 {t e c n sz y : Nat} {A : Option Addr} {z : Value} [ht : TU P t (.slice e)] [hz : TI P e sz y z] (hn : n ≤ c) :
    Rd P (Instr.sliceAt t (.slice A n c) none (some (i64 n)) (some (i64 n))) I L (.slice (if n = 0 then A else A.map (·.add (0 * sz))) n n) := .of_run fun W => by
  have hb : (Instr.sliceBounds true n c none (some (i64 n)) (some (i64 n))).run P W = .ok (0, n, n) W := by
    have g1 := run_sliceBound (P := P) W .i64 (n : Int) c .slice3Acap (by omega) (by omega)
    have g2 := run_sliceBound (P := P) W .i64 (n : Int) n .slice3B (by omega) (by omega)
    simp only [Int.toNat_natCast] at g1 g2
    simp [Instr.sliceBounds, g1, g2]
  have := run_vslc (P := P) (t := t) (e := e) (A := A) hb
  simpa using this
/-- A row of one's own, without its first ones. -/
theorem oslcut_ {t e sz y n c : Nat} {z : Value} {a : Int} {A : Option Addr} {xs : List Value} {L1 : Own} [h : TU P t (.slice e)] [hz : TI P e sz y z] (ho : OSl e sz (.slice A n c) n xs L1)
    (k' : ∀ A', OSl e sz (.slice A' (n - a.toNat) (c - a.toNat)) (n - a.toNat) (xs.drop (a.toNat * sz)) L1 → k (.slice A' (n - a.toNat) (c - a.toNat)) I L) (h0 : 0 ≤ a := by omega) (h1 : a ≤ n := by omega) : slc P t (.slice A n c) (some (i64 a)) none none I L k := by
  refine wpS.of_rd (.of_run (run_vslcl h0 h1)) (k' _ ?_)
  obtain ⟨hl, ⟨e1, rfl, rfl⟩ | ⟨g, o, cap, cur, e1, rfl, hn, hs, hx⟩⟩ := ho
  · simp only [Value.slice.injEq] at e1
    obtain ⟨rfl, _, rfl⟩ := e1
    have ha : a = 0 := by omega
    subst ha
    exact ⟨by simp [hl], .inl ⟨by simp, by simp, rfl⟩⟩
  · simp only [Value.slice.injEq] at e1
    obtain ⟨rfl, _, rfl⟩ := e1
    have hle : a.toNat ≤ n := by omega
    refine ⟨by rw [List.length_drop, hl, Nat.sub_mul], .inr ?_⟩
    by_cases hc : c = a.toNat
    · rw [if_pos hc]
      refine ⟨g, o, c - a.toNat, cur, rfl, rfl, by omega, ?_, ?_⟩
      · have : (c - a.toNat) * sz ≤ c * sz := Nat.mul_le_mul_right _ (Nat.sub_le _ _)
        omega
      · have e2 : n - a.toNat = 0 := by omega
        rw [e2, Nat.zero_mul, List.take_zero]
        symm
        refine List.drop_eq_nil_of_le ?_
        rw [hl]
        exact Nat.mul_le_mul_right _ (by omega)
    · rw [if_neg hc]
      refine ⟨g, o + a.toNat * sz, c - a.toNat, cur, by simp [Addr.add_plain], rfl, by omega, ?_, ?_⟩
      · rw [Nat.sub_mul]
        have : a.toNat * sz ≤ c * sz := Nat.mul_le_mul_right _ (by omega)
        omega
      · rw [← hx, ← List.drop_drop, List.drop_take, Nat.sub_mul]
/-- A cell of a row of one's own. -/
theorem osl_cell {e sz n c : Nat} {A : Option Addr} {xs : List Value} {L1 : Own} (ho : OSl e sz (.slice A n c) n xs L1) {j : Nat} (hj : j < xs.length) : ∃ g o cur, A = some ⟨g, o, none⟩ ∧ L1 = [(g, .cells cur e (0, 0))] ∧ cur.toList[o + j]? = some xs[j] := by
  obtain ⟨hl, ⟨e1, rfl, rfl⟩ | ⟨g, o, cap, cur, e1, rfl, hn, hs, hx⟩⟩ := ho
  · simp at hl
    rw [hl] at hj
    exact absurd hj (by simp)
  · simp only [Value.slice.injEq] at e1
    exact ⟨g, o, cur, e1.1, rfl, getElem?_drop_take hx (by rw [List.getElem?_eq_getElem hj])⟩
end
end Go.Proofs.YtkclodaplbalfaaDoor.Sl
