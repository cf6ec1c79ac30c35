/- Steps: what an operation of Go does, in the words of Sl. Conditions: none. -/
import Derived.Test.YtkclodaplbalfaaDoorSl
set_option linter.unusedVariables false
set_option linter.unusedSimpArgs false
namespace Go.Proofs.YtkclodaplbalfaaDoor.Sl
open Go

/-! ### Facts on types, found by instances -/
class TU (P : Program) (t : Nat) (d : outParam TypeDesc) : Prop where h : P.underlying t = some d
class Scal (P : Program) (t : Nat) : Prop where
  h : ∃ d, P.underlying t = some d ∧ (match d with | .struct _ => false | .array _ _ => false | _ => true) = true
  s : (P.info? t).map (·.size) = some 1
class Agg (P : Program) (t : Nat) (n : outParam Nat) : Prop where
  h : ∃ d, P.underlying t = some d ∧ (match d with | .struct _ => true | .array _ _ => true | _ => false) = true
  s : (P.info? t).map (·.size) = some n
  p : 0 < n
/-- size in cells, in bytes, the zero value -/
class TI (P : Program) (t : Nat) (n b : outParam Nat) (z : outParam Value) : Prop where h : (P.info? t).map (fun i => (i.size, i.bytes, i.zero)) = some (n, b, some z)
/-- field n of struct s: its type, its place; it has cells -/
class FO (P : Program) (s n : Nat) (ft off sz : outParam Nat) : Prop where
  h : ∃ fs f, P.underlying s = some (.struct fs) ∧ fs[n]? = some f ∧ f.offset = off ∧ f.type = ft
  z : (P.info? ft).map (·.size) = some (sz + 1)
class HasCode (P : Program) (f : Nat) : Prop where h : ∃ fn, P.funcs[f]? = some fn ∧ fn.body.isSome = true ∧ (fn.name == "runtime.NumGoroutine") = false

/-! ### Blocks -/
class HasB (L : Own) (b : Nat) (o : outParam Obj) : Prop where h : (b, o) ∈ L
instance (L : Own) (b : Nat) (o : Obj) : HasB ((b, o) :: L) b o := ⟨by simp⟩
instance (L : Own) (p : Nat × Obj) (b : Nat) (o : Obj) [h : HasB L b o] : HasB (p :: L) b o := ⟨by simp [h.h]⟩
/-- Block b of L is taken out. -/
class TakB (L : Own) (b : Nat) (o : outParam Obj) (r : outParam Own) : Prop where h : L.Perm ((b, o) :: r)
instance (L : Own) (b : Nat) (o : Obj) : TakB ((b, o) :: L) b o L := ⟨.refl _⟩
instance (L r : Own) (p : Nat × Obj) (b : Nat) (o : Obj) [h : TakB L b o r] : TakB (p :: L) b o (p :: r) := ⟨(h.h.cons p).trans (.swap ..)⟩
/-- Block b of L, and L with another one in its place. -/
class SlotB (L : Own) (b : Nat) (o : outParam Obj) (mk : outParam (Obj → Own)) : Prop where h : ∃ r, L.Perm ((b, o) :: r) ∧ ∀ o', (mk o').Perm ((b, o') :: r)
instance (L : Own) (b : Nat) (o : Obj) : SlotB ((b, o) :: L) b o (fun o' => (b, o') :: L) := ⟨L, .refl _, fun _ => .refl _⟩
instance (L : Own) (p : Nat × Obj) (b : Nat) (o : Obj) (mk : Obj → Own) [h : SlotB L b o mk] : SlotB (p :: L) b o (fun o' => p :: mk o') := ⟨by
  obtain ⟨r, h1, h2⟩ := h.h
  exact ⟨p :: r, (h1.cons p).trans (.swap ..), fun o' => ((h2 o').cons p).trans (.swap ..)⟩⟩
instance (L1 L2 : Own) (b : Nat) (o : Obj) (mk : Obj → Own) [h : SlotB L1 b o mk] : SlotB (L1 ++ L2) b o (fun o' => mk o' ++ L2) := ⟨by
  obtain ⟨r, h1, h2⟩ := h.h
  exact ⟨r ++ L2, h1.append_right L2, fun o' => (h2 o').append_right L2⟩⟩
instance (L1 L2 : Own) (b : Nat) (o : Obj) (mk : Obj → Own) [h : SlotB L2 b o mk] : SlotB (L1 ++ L2) b o (fun o' => L1 ++ mk o') := ⟨by
  obtain ⟨r, h1, h2⟩ := h.h
  exact ⟨L1 ++ r, (h1.append_left L1).trans List.perm_middle, fun o' => ((h2 o').append_left L1).trans List.perm_middle⟩⟩
/-- Block b of L is another one. -/
class SetB (L : Own) (b : Nat) (o' : Obj) (L' : outParam Own) : Prop where h : ∃ o r, L.Perm ((b, o) :: r) ∧ L'.Perm ((b, o') :: r)
instance (L : Own) (b : Nat) (o o' : Obj) : SetB ((b, o) :: L) b o' ((b, o') :: L) := ⟨o, L, .refl _, .refl _⟩
instance (L L' : Own) (p : Nat × Obj) (b : Nat) (o' : Obj) [h : SetB L b o' L'] : SetB (p :: L) b o' (p :: L') := ⟨by
  obtain ⟨o, r, h1, h2⟩ := h.h
  exact ⟨o, p :: r, (h1.cons p).trans (.swap ..), (h2.cons p).trans (.swap ..)⟩⟩
instance (L1 L2 : Own) (b : Nat) (o : Obj) [h : HasB L1 b o] : HasB (L1 ++ L2) b o := ⟨by simp [h.h]⟩
instance (L1 L2 : Own) (b : Nat) (o : Obj) [h : HasB L2 b o] : HasB (L1 ++ L2) b o := ⟨by simp [h.h]⟩
instance (L1 L2 r : Own) (b : Nat) (o : Obj) [h : TakB L1 b o r] : TakB (L1 ++ L2) b o (r ++ L2) := ⟨h.h.append_right L2⟩
instance (L1 L2 r : Own) (b : Nat) (o : Obj) [h : TakB L2 b o r] : TakB (L1 ++ L2) b o (L1 ++ r) := ⟨(h.h.append_left L1).trans List.perm_middle⟩
/-- L is L1 and the rest. -/
class Foc (L L1 : Own) (r : outParam Own) : Prop where h : L.Perm (L1 ++ r)
instance (L : Own) : Foc L [] L := ⟨.refl _⟩
instance (L r r' L1 : Own) (b : Nat) (o : Obj) [h : TakB L b o r] [h' : Foc r L1 r'] : Foc L ((b, o) :: L1) r' := ⟨h.h.trans (h'.h.cons _)⟩

abbrev ptr (b o : Nat) : Value := .pointer (some ⟨b, o, none⟩)
abbrev i64 (n : Int) : Value := .int .i64 n
abbrev u8 (n : Int) : Value := .int .u8 n

theorem Addr.add_plain (b o n : Nat) : (⟨b, o, none⟩ : Addr).add n = ⟨b, o + n, none⟩ := by
  unfold Addr.add
  split
  · rename_i h; subst h; rfl
  · rfl

theorem St.has {W : World} {I : Imm} {L F : Own} (h : St W I (L ++ F)) {b : Nat} {o : Obj} (hb : (b, o) ∈ L) : W.heap[b]? = some o := h.own (b, o) (by simp [hb])
theorem cell_of {W : World} {b : Nat} {c : Array Value} {e : TypeId} {fr : Nat × Nat} (h : W.heap[b]? = some (.cells c e fr)) (o : Nat) : W.cell? ⟨b, o, none⟩ = c[o]? := by
  simp [World.cell?, h]

section ops
variable {P : Program} {I : Imm} {L : Own} {k : KV} {X : List PanicEntry → Imm → Own → Prop}

theorem run_info {t : TypeId} {i : TypeInfo} (h : P.info? t = some i) (W : World) : (typeInfo t).run P W = .ok i W := by simp [typeInfo, program, Sem.run, h]
theorem run_under {t : TypeId} {d : TypeDesc} (h : P.underlying t = some d) (W : World) : (underlying t).run P W = .ok d W := run_underlying h W
theorem run_size {t : TypeId} {n : Nat} (h : (P.info? t).map (·.size) = some n) (W : World) : (sizeOf t).run P W = .ok n W := by
  obtain ⟨i, hi, rfl⟩ := Option.map_eq_some_iff.1 h
  simp [sizeOf, run_info hi]

/-! ### numbers -/
theorem w64 {n : Int} (h0 : -9223372036854775808 ≤ n) (h1 : n ≤ 9223372036854775807) : IntKind.i64.wrap n = n := by
  simp [IntKind.wrap, IntKind.bits, IntKind.signed]
  omega
theorem add64 {t : TypeId} {a b : Int} (k' : k (i64 (a + b)) I L) (h0 : -9223372036854775808 ≤ a + b := by omega) (h1 : a + b ≤ 9223372036854775807 := by omega) : bin P .add t (i64 a) (i64 b) I L k :=
  wpS.of_rd (.of_run fun W => by simp [binOp, Op.intArith, w64 h0 h1]) k'
theorem sub64 {t : TypeId} {a b : Int} (k' : k (i64 (a - b)) I L) (h0 : -9223372036854775808 ≤ a - b := by omega) (h1 : a - b ≤ 9223372036854775807 := by omega) : bin P .sub t (i64 a) (i64 b) I L k :=
  wpS.of_rd (.of_run fun W => by simp [binOp, Op.intArith, w64 h0 h1]) k'
theorem mul64 {t : TypeId} {a b : Int} (k' : k (i64 (a * b)) I L) (h0 : -9223372036854775808 ≤ a * b := by omega) (h1 : a * b ≤ 9223372036854775807 := by omega) : bin P .mul t (i64 a) (i64 b) I L k :=
  wpS.of_rd (.of_run fun W => by simp [binOp, Op.intArith, w64 h0 h1]) k'
theorem lss_ {t : TypeId} {q : IntKind} {a b : Int} (k' : k (.bool (decide (a < b))) I L) : bin P .lss t (.int q a) (.int q b) I L k := wpS.of_rd (.of_run fun W => by simp [binOp, Op.intCmp]) k'
theorem leq_ {t : TypeId} {q : IntKind} {a b : Int} (k' : k (.bool (decide (a ≤ b))) I L) : bin P .leq t (.int q a) (.int q b) I L k := wpS.of_rd (.of_run fun W => by simp [binOp, Op.intCmp]) k'
theorem gtr_ {t : TypeId} {q : IntKind} {a b : Int} (k' : k (.bool (decide (b < a))) I L) : bin P .gtr t (.int q a) (.int q b) I L k := wpS.of_rd (.of_run fun W => by simp [binOp, Op.intCmp]) k'
theorem geq_ {t : TypeId} {q : IntKind} {a b : Int} (k' : k (.bool (decide (b ≤ a))) I L) : bin P .geq t (.int q a) (.int q b) I L k := wpS.of_rd (.of_run fun W => by simp [binOp, Op.intCmp]) k'
theorem rd_eqi {t : TypeId} {q : IntKind} {c d : Bool} {a b : Int} : Rd P (do eqGuard .eql t (opd c) (opd d) (.int q a) (.int q b); binOp .eql t (.int q a) (.int q b)) I L (.bool (decide (a = b))) :=
  .of_run fun W => by
    have : (a == b) = decide (a = b) := by by_cases h : a = b <;> simp [h]
    simp [eqGuard, binOp, Op.intCmp, this]
theorem rd_nei {t : TypeId} {q : IntKind} {c d : Bool} {a b : Int} : Rd P (do eqGuard .neq t (opd c) (opd d) (.int q a) (.int q b); binOp .neq t (.int q a) (.int q b)) I L (.bool (decide (a ≠ b))) :=
  .of_run fun W => by
    have : (a != b) = decide (a ≠ b) := by by_cases h : a = b <;> simp [h]
    simp [eqGuard, binOp, Op.intCmp, this]
theorem eqi_ {t : TypeId} {q : IntKind} {c d : Bool} {a b : Int} (k' : k (.bool (decide (a = b))) I L) : eqn P .eql t c d (.int q a) (.int q b) I L k := wpS.of_rd rd_eqi k'
theorem nei_ {t : TypeId} {q : IntKind} {c d : Bool} {a b : Int} (k' : k (.bool (decide (a ≠ b))) I L) : eqn P .neq t c d (.int q a) (.int q b) I L k := wpS.of_rd rd_nei k'
theorem not_ {p : Prop} [Decidable p] (k' : k (.bool (decide (¬ p))) I L) : un P .not (.bool (decide p)) I L k :=
  wpS.of_rd (.of_run fun W => by simp [Op.unary]) k'
theorem notb_ {b : Bool} (k' : k (.bool (!b)) I L) : un P .not (.bool b) I L k := wpS.of_rd (.of_run fun W => by simp [Op.unary]) k'

theorem nott_ (k' : k (.bool false) I L) : un P .not (.bool true) I L k := notb_ (b := true) k'
theorem notf_ (k' : k (.bool true) I L) : un P .not (.bool false) I L k := notb_ (b := false) k'

/-! ### tests -/
theorem cnd_ {p : Prop} [Decidable p] {A B : Prop} (h1 : p → A) (h2 : ¬ p → B) : cnd (.bool (decide p)) A B := by
  by_cases h : p <;> simp only [h, decide_true, decide_false, cnd]
  · exact h1 h
  · exact h2 h
theorem cndb_ {b : Bool} {A B : Prop} (h1 : b = true → A) (h2 : b = false → B) : cnd (.bool b) A B := by
  cases b
  · exact h2 rfl
  · exact h1 rfl
theorem gd_yes {p : Prop} [Decidable p] {run : KV → Prop} (h : p) (k' : run k) : gd (yb (some (.bool (decide p))) true) run k I L := by simp [gd, yb, h, k']
theorem gd_no {p : Prop} [Decidable p] {run : KV → Prop} (h : ¬ p) (k' : k undef I L) : gd (yb (some (.bool (decide p))) true) run k I L := by simp [gd, yb, h, k']
theorem gdn_yes {p : Prop} [Decidable p] {run : KV → Prop} (h : ¬ p) (k' : run k) : gd (yb (some (.bool (decide p))) false) run k I L := by simp [gd, yb, h, k']
theorem gdn_no {p : Prop} [Decidable p] {run : KV → Prop} (h : p) (k' : k undef I L) : gd (yb (some (.bool (decide p))) false) run k I L := by simp [gd, yb, h, k']
theorem pck_yes {p : Prop} [Decidable p] {x y : Value} (h : p) (k' : k x I L) : pck (.bool (decide p)) x y I L k := by simp [pck, h, k']
theorem pck_no {p : Prop} [Decidable p] {x y : Value} (h : ¬ p) (k' : k y I L) : pck (.bool (decide p)) x y I L k := by simp [pck, h, k']

theorem gdu_ {w : Bool} {run : KV → Prop} (k' : k undef I L) : gd (yb (some undef) w) run k I L := k'
theorem gdtt_ {run : KV → Prop} (k' : run k) : gd (yb (some (.bool true)) true) run k I L := k'
theorem gdtf_ {run : KV → Prop} (k' : k undef I L) : gd (yb (some (.bool true)) false) run k I L := k'
theorem gdff_ {run : KV → Prop} (k' : run k) : gd (yb (some (.bool false)) false) run k I L := k'
theorem gdft_ {run : KV → Prop} (k' : k undef I L) : gd (yb (some (.bool false)) true) run k I L := k'
theorem pckt_ {x y : Value} (k' : k x I L) : pck (.bool true) x y I L k := k'
theorem pckf_ {x y : Value} (k' : k y I L) : pck (.bool false) x y I L k := k'
theorem cndt_ {A B : Prop} (h : A) : cnd (.bool true) A B := h
theorem cndf_ {A B : Prop} (h : B) : cnd (.bool false) A B := h
theorem cnd_yes {p : Prop} [Decidable p] {A B : Prop} (h : p) (a : A) : cnd (.bool (decide p)) A B := by simp [cnd, h, a]
theorem cnd_no {p : Prop} [Decidable p] {A B : Prop} (h : ¬ p) (a : B) : cnd (.bool (decide p)) A B := by simp [cnd, h, a]
theorem pckb_ {b : Bool} {x y : Value} (k' : k (if b then x else y) I L) : pck (.bool b) x y I L k := by
  cases b
  · exact k'
  · exact k'
theorem ret_bool {b c : Bool} (h : b = c) : Ending.returned (.bool b) = .returned (.bool c) := by rw [h]
theorem ret_i64 {a b : Int} (h : a = b) : Ending.returned (i64 a) = .returned (i64 b) := by rw [h]

/-! ### memory -/
theorem nck_ {b o : Nat} (k' : k (ptr b o) I L) : nck P (ptr b o) I L k := wpS.of_rd (.of_run fun W => rfl) k'
theorem al_ {e n y : Nat} {z : Value} [h : TI P e n y z] (k' : ∀ b, k (ptr b 0) I ((b, .cells z.cells e) :: L)) : al P e I L k := fun F W hs => by
  obtain ⟨i, hi, he⟩ := Option.map_eq_some_iff.1 h.h
  simp only [Prod.mk.injEq] at he
  simp only [Instr.alloc, zeroValue, newVar, newRow, newObj, Sem.run_bind, run_info hi, Result.andThen, he.2.2]
  exact ⟨I, _, .refl I, hs.new _, k' _⟩
theorem bx_ {e : Nat} {v : Value} (k' : ∀ b, k (ptr b 0) I ((b, .cells v.cells e) :: L)) : bx P e v I L k := fun F W hs => ⟨I, _, .refl I, hs.new _, k' _⟩
theorem rd_fad {s n b o ft off sz : Nat} [h : FO P s n ft off sz] : Rd P (Instr.fieldAt s (ptr b o) n) I L (ptr b (o + off)) := .of_run fun W => by
  obtain ⟨fs, f, h1, h2, h3, h4⟩ := h.h
  have hz : (sizeOf f.type).run P W = .ok (sz + 1) W := run_size (by rw [h4]; exact h.z) W
  simp [Instr.fieldAt, run_under h1, h2, Instr.sureAddr, fieldPlace, hz, h3, Addr.add_plain]
theorem fad_ {s n b o ft off sz : Nat} [h : FO P s n ft off sz] (k' : k (ptr b (o + off)) I L) : fad P s (ptr b o) n I L k := wpS.of_rd rd_fad k'
theorem run_isAgg_no {t : TypeId} [h : Scal P t] (W : World) : (isAgg t).run P W = .ok false W := by
  obtain ⟨d, h1, h2⟩ := h.h
  simp only [isAgg, Sem.run_bind, run_under h1, Result.andThen]
  cases d <;> first | rfl | cases h2
theorem run_isAgg_yes {t : TypeId} {n : Nat} [h : Agg P t n] (W : World) : (isAgg t).run P W = .ok true W := by
  obtain ⟨d, h1, h2⟩ := h.h
  simp only [isAgg, Sem.run_bind, run_under h1, Result.andThen]
  cases d <;> first | rfl | cases h2
/-- A cell that is known. -/
class Cel (I : Imm) (L : Own) (b o : Nat) (v : outParam Value) : Prop where h : ∀ F W, St W I (L ++ F) → W.cell? ⟨b, o, none⟩ = some v
theorem cel_own {b o : Nat} {c : Array Value} {e : TypeId} {fr : Nat × Nat} {v : Value} [h : HasB L b (.cells c e fr)] (hv : c.toList[o]? = some v) : Cel I L b o v := ⟨fun F W hs => by
  rw [cell_of (hs.has h.h) o]
  simpa using hv⟩
theorem rd_ld {t b o : Nat} {v : Value} [Scal P t] (h : Cel I L b o v) : Rd P (Instr.loadAt t (ptr b o)) I L v := fun F W hs => by
  simp [Instr.loadAt, Instr.sureAddr, loadVar, run_isAgg_no, load, Sem.run, h.h F W hs]
theorem ld_ {t b o : Nat} {c : Array Value} {e : TypeId} {fr : Nat × Nat} {v : Value} [Scal P t] [h : HasB L b (.cells c e fr)] (k' : k v I L) (hv : c.toList[o]? = some v := by rfl) : ld P t (ptr b o) I L k :=
  wpS.of_rd (rd_ld (cel_own hv)) k'
theorem run_loadCells {W : World} {b : Nat} {c : Array Value} {e : TypeId} {fr : Nat × Nat} (h : W.heap[b]? = some (.cells c e fr)) : ∀ (n o i : Nat) (acc : Array Value), o + i + n ≤ c.size →
    (loadCellsFrom ⟨b, o, none⟩ i n acc).run P W = .ok (acc ++ c.extract (o + i) (o + i + n)) W
  | 0, o, i, acc, _ => by simp [loadCellsFrom]; omega
  | n + 1, o, i, acc, hn => by
    have hc : W.cell? ((⟨b, o, none⟩ : Addr).add i) = some (c[o + i]'(by omega)) := by rw [Addr.add_plain, cell_of h, Array.getElem?_eq_getElem]
    simp only [loadCellsFrom, load, Sem.run_bind, Sem.run, hc, Result.andThen]
    rw [run_loadCells h n o (i + 1) _ (by omega)]
    congr 1
    apply Array.ext'
    simp only [Array.toList_append, Array.toList_push, Array.toList_extract, List.append_assoc, List.singleton_append]
    congr 1
    rw [List.extract_eq_take_drop, List.extract_eq_take_drop]
    have e1 : o + i + (n + 1) - (o + i) = n + 1 := by omega
    have e2 : o + (i + 1) + n - (o + (i + 1)) = n := by omega
    rw [e1, e2, ← List.getElem_cons_drop (show o + i < c.toList.length by simpa using (by omega : o + i < c.size)), List.take_succ_cons]
    simp [Nat.add_assoc]
theorem rd_lda {t b o n : Nat} {c : Array Value} {e : TypeId} {fr : Nat × Nat} {vs : List Value} [ha : Agg P t n] (h : ∀ F W, St W I (L ++ F) → W.heap[b]? = some (.cells c e fr)) (hv : (c.toList.drop o).take n = vs) (hn : vs.length = n) :
    Rd P (Instr.loadAt t (ptr b o)) I L (.agg vs.toArray) := fun F W hs => by
  have hb := h F W hs
  have hp := ha.p
  have hle : o + n ≤ c.size := by
    subst hv
    simp only [List.length_take, List.length_drop, Array.length_toList] at hn
    omega
  have := run_loadCells (P := P) hb n o 0 #[] (by omega)
  simp only [Nat.add_zero] at this
  have e2 : (#[] ++ c.extract o (o + n)) = vs.toArray := by
    apply Array.ext'
    simp [List.extract_eq_take_drop, hv]
  rw [e2] at this
  simp [Instr.loadAt, Instr.sureAddr, loadVar, run_isAgg_yes, run_size ha.s, loadCells, this]
theorem lda_ {t b o n : Nat} {c : Array Value} {e : TypeId} {fr : Nat × Nat} {vs : List Value} [ha : Agg P t n] [h : HasB L b (.cells c e fr)] (k' : k (.agg vs.toArray) I L) (hv : (c.toList.drop o).take n = vs := by rfl) (hn : vs.length = n := by rfl) : ld P t (ptr b o) I L k :=
  wpS.of_rd (rd_lda (fun F W hs => hs.has h.h) hv hn) k'

/-! ### writing -/
def plainV : Value → Bool
  | .agg _ => false
  | .tuple _ => false
  | _ => true
theorem plain_cells {v : Value} (h : plainV v = true) : v.cells = #[v] := by cases v <;> first | rfl | cases h
/-- What is written at consecutive places of one block. -/
def splice (c : List Value) (o : Nat) (vs : List Value) : List Value := c.take o ++ vs ++ c.drop (o + vs.length)
theorem run_storeCells {b : Nat} {e : TypeId} : ∀ (vs : List Value) (W : World) (c : Array Value) (o i : Nat), W.heap[b]? = some (.cells c e (0, 0)) → (∀ v ∈ vs, plainV v = true) → o + i + vs.length ≤ c.size →
    ∃ H, (storeCells ⟨b, o, none⟩ vs i).run P W = .ok () { W with heap := H } ∧ (∀ k, k ≠ b → H[k]? = W.heap[k]?) ∧ H[b]? = some (.cells (splice c.toList (o + i) vs).toArray e (0, 0))
  | [], W, c, o, i, h, _, _ => ⟨W.heap, rfl, fun _ _ => rfl, by simp [splice, h]⟩
  | v :: vs, W, c, o, i, h, hp, hn => by
    have hoi : o + i < c.size := by simp only [List.length_cons] at hn; omega
    have hc : W.cell? ((⟨b, o, none⟩ : Addr).add i) = some c[o + i] := by rw [Addr.add_plain, cell_of h, Array.getElem?_eq_getElem]
    have hf : W.frozen? ((⟨b, o, none⟩ : Addr).add i) = false := by rw [Addr.add_plain]; simp [World.frozen?, h]
    have hpv := hp v (by simp)
    have hb : b < W.heap.size := (Array.getElem?_eq_some_iff.1 h).1
    have hset : (W.setCell ((⟨b, o, none⟩ : Addr).add i) v).heap[b]? = some (.cells (c.setIfInBounds (o + i) v) e (0, 0)) := by
      rw [Addr.add_plain]
      simp [World.setCell, Array.getElem?_modify, h]
    obtain ⟨H, h1, h2, h3⟩ := run_storeCells vs (W.setCell ((⟨b, o, none⟩ : Addr).add i) v) (c.setIfInBounds (o + i) v) o (i + 1) hset (fun u hu => hp u (by simp [hu])) (by simp only [List.length_cons] at hn; simp; omega)
    refine ⟨H, ?_, fun k hk => ?_, ?_⟩
    · simp only [storeCells, store, Sem.run_bind]
      have hst : (Sem.store Mode.plain ((⟨b, o, none⟩ : Addr).add i) v (.pure ())).run P W = .ok () (W.setCell ((⟨b, o, none⟩ : Addr).add i) v) := by
        cases v <;> first | (simp [Sem.run, hc, hf]; done) | cases hpv
      rw [hst]
      simp only [Result.andThen]
      rw [h1]
      rfl
    · rw [h2 k hk, Addr.add_plain]
      simp [World.setCell, Array.getElem?_modify, Ne.symm hk]
    · rw [h3]
      congr 3
      have e1 : (c.setIfInBounds (o + i) v).toList = c.toList.set (o + i) v := by simp
      rw [e1]
      unfold splice
      have hl : o + i < c.toList.length := by simpa using hoi
      have e2 : (c.toList.set (o + i) v).take (o + (i + 1)) = c.toList.take (o + i) ++ [v] := by
        rw [show o + (i + 1) = (o + i) + 1 by omega, List.take_succ_eq_append_getElem (by simpa using hoi)]
        simp [List.take_set_of_le]
      have e3 : (c.toList.set (o + i) v).drop (o + (i + 1) + vs.length) = c.toList.drop (o + i + (v :: vs).length) := by
        rw [List.drop_set_of_lt (by omega)]
        congr 1
        simp only [List.length_cons]
        omega
      rw [e2, e3]
      simp
theorem stoV {t b o : Nat} {c : Array Value} {e : TypeId} {v : Value} {mk : Obj → Own} [h : SlotB L b (.cells c e (0, 0)) mk] (hs : (P.info? t).map (·.size) = some v.cells.size) (hp : ∀ u ∈ v.cells.toList, plainV u = true) (hn : o + v.cells.size ≤ c.size)
    (k' : k undef I (mk (.cells (splice c.toList o v.cells.toList).toArray e (0, 0)))) : sto P t (ptr b o) v I L k := by
  obtain ⟨r, hp1, hp2⟩ := h.h
  refine wpS.perm hp1 fun F W hw => ?_
  obtain ⟨H, h1, h2, h3⟩ := run_storeCells (P := P) v.cells.toList W c o 0 (hw.has (b := b) (o := .cells c e (0, 0)) (by simp)) hp (by simpa using hn)
  have e0 : (Instr.storeAt t (ptr b o) v).run P W = (storeCells ⟨b, o, none⟩ v.cells.toList 0).run P W := by
    simp [Instr.storeAt, Instr.sureAddr, storeVar, run_size hs]
  rw [e0, h1]
  refine ⟨I, _, .refl I, ?_, k'⟩
  have := St.set (o' := .cells (splice c.toList o v.cells.toList).toArray e (0, 0)) (by simpa using hw) h2 (by simpa using h3)
  exact this.perm ((hp2 _).symm.append_right F)
theorem sto_ {t b o : Nat} {c : Array Value} {e : TypeId} {v : Value} {mk : Obj → Own} [hs : Scal P t] [h : SlotB L b (.cells c e (0, 0)) mk] (k' : k undef I (mk (.cells (splice c.toList o [v]).toArray e (0, 0)))) (hp : plainV v = true := by rfl) (hn : o + 1 ≤ c.size := by exact Nat.le_of_ble_eq_true rfl) :
    sto P t (ptr b o) v I L k :=
  stoV (h := h) (by rw [plain_cells hp]; exact hs.s) (by rw [plain_cells hp]; simpa using hp) (by rw [plain_cells hp]; exact hn) (by rw [plain_cells hp]; exact k')
theorem stoa_ {t b o n : Nat} {c : Array Value} {e : TypeId} {vs : Array Value} {mk : Obj → Own} [hs : Agg P t n] [h : SlotB L b (.cells c e (0, 0)) mk] (k' : k undef I (mk (.cells (splice c.toList o vs.toList).toArray e (0, 0)))) (hl : vs.size = n := by rfl) (hp : (vs.toList.all plainV) = true := by rfl) (hn : o + n ≤ c.size := by exact Nat.le_of_ble_eq_true rfl) :
    sto P t (ptr b o) (.agg vs) I L k :=
  stoV (h := h) (v := .agg vs) (by rw [hs.s, ← hl]; rfl) (fun u hu => by rw [List.all_eq_true] at hp; exact hp u hu) (by show o + vs.size ≤ _; rw [hl]; exact hn) k'

/-! ### strings -/
theorem run_sidx {t : TypeId} {l : List UInt8} {i : Int} [h : TU P t .string] (h0 : 0 ≤ i) (h1 : i < l.length) (W : World) : (Instr.index t (S l) (i64 i)).run P W = .ok (u8 (l.getD i.toNat 0).toNat) W := by
  have hi : i.toNat < l.length := by omega
  rw [run_index_string W t ⟨l.toArray⟩ .i64 i h.h]
  have h2 : i.toNat < (⟨l.toArray⟩ : ByteArray).size := by simpa [ByteArray.size] using hi
  have hc : 0 ≤ i ∧ i < ((⟨l.toArray⟩ : ByteArray).size : Int) := ⟨h0, by omega⟩
  rw [dif_pos hc]
  have e : (⟨l.toArray⟩ : ByteArray)[i.toNat]'h2 = l.getD i.toNat 0 := by
    show l.toArray[i.toNat] = _
    simp [List.getD_eq_getElem?_getD, List.getElem?_eq_getElem hi]
  rw [e]
theorem rd_sidx {t : TypeId} {l : List UInt8} {i : Int} [h : TU P t .string] (h0 : 0 ≤ i) (h1 : i < l.length) : Rd P (Instr.index t (S l) (i64 i)) I L (u8 (l.getD i.toNat 0).toNat) := .of_run (run_sidx h0 h1)
theorem sidx_ {t : TypeId} {l : List UInt8} {i : Int} [h : TU P t .string] (k' : k (u8 (l.getD i.toNat 0).toNat) I L) (h0 : 0 ≤ i := by omega) (h1 : i < l.length := by omega) : idx P t (S l) (i64 i) I L k := wpS.of_rd (rd_sidx h0 h1) k'
theorem rd_slen {t ty : TypeId} {l : List UInt8} [h : TU P t .string] : Rd P (Builtin.len_ #[t] ty #[S l]) I L (i64 l.length) := .of_run fun W => by
  exact run_len_string W t ty ⟨l.toArray⟩ h.h
theorem slen_ {t ty : TypeId} {l : List UInt8} [h : TU P t .string] (k' : k (i64 l.length) I L) : blt P .len #[t] ty #[S l] I L k := wpS.of_rd rd_slen k'
theorem rd_seq {t : TypeId} {c d : Bool} {a b : List UInt8} : Rd P (do eqGuard .eql t (opd c) (opd d) (S a) (S b); binOp .eql t (S a) (S b)) I L (.bool (decide (a = b))) := .of_run fun W => by
  have : (a == b) = decide (a = b) := by by_cases h : a = b <;> simp [h]
  simp [eqGuard, binOp, Op.stringOp, ByteArray.toList_eq, this]
theorem rd_sne {t : TypeId} {c d : Bool} {a b : List UInt8} : Rd P (do eqGuard .neq t (opd c) (opd d) (S a) (S b); binOp .neq t (S a) (S b)) I L (.bool (decide (a ≠ b))) := .of_run fun W => by
  have : (!(a == b)) = decide (a ≠ b) := by by_cases h : a = b <;> simp [h]
  simp [eqGuard, binOp, Op.stringOp, ByteArray.toList_eq, this]
theorem seq_ {t : TypeId} {c d : Bool} {a b : List UInt8} (k' : k (.bool (decide (a = b))) I L) : eqn P .eql t c d (S a) (S b) I L k := wpS.of_rd rd_seq k'
theorem sne_ {t : TypeId} {c d : Bool} {a b : List UInt8} (k' : k (.bool (decide (a ≠ b))) I L) : eqn P .neq t c d (S a) (S b) I L k := wpS.of_rd rd_sne k'
theorem size_S (l : List UInt8) : (⟨l.toArray⟩ : ByteArray).size = l.length := by simp [ByteArray.size]
theorem extract_S (l : List UInt8) (a b : Nat) : (⟨l.toArray⟩ : ByteArray).extract a b = ⟨((l.drop a).take (b - a)).toArray⟩ := by
  apply ByteArray.ext
  rw [ByteArray.data_extract]
  apply Array.ext'
  simp [List.extract_eq_take_drop]
theorem run_sliceAt_S {t : TypeId} {l : List UInt8} [h : TU P t .string] (lo hi mx : Option Value) (W : World) : (Instr.sliceAt t (S l) lo hi mx).run P W = (Instr.slice t (S l) lo hi mx).run P W := by
  simp only [Instr.sliceAt, Sem.run_bind, run_under h.h, Result.andThen]
theorem rd_sslc {t : TypeId} {l : List UInt8} {a b : Int} [h : TU P t .string] (h0 : 0 ≤ a) (h1 : a ≤ b) (h2 : b ≤ l.length) : Rd P (Instr.sliceAt t (S l) (some (i64 a)) (some (i64 b)) none) I L (S ((l.drop a.toNat).take (b.toNat - a.toNat))) := .of_run fun W => by
  obtain ⟨n, rfl⟩ := Int.eq_ofNat_of_zero_le (show 0 ≤ b by omega)
  obtain ⟨m, rfl⟩ := Int.eq_ofNat_of_zero_le h0
  have hb : (n : Int) ≤ ((⟨l.toArray⟩ : ByteArray).size : Int) := by rw [size_S]; exact h2
  have g1 := run_sliceBound (P := P) W .i64 (n : Int) (⟨l.toArray⟩ : ByteArray).size .sliceAlen (by omega) hb
  have g2 := run_sliceBound (P := P) W .i64 (m : Int) n .sliceB (by omega) h1
  rw [run_sliceAt_S]
  simp only [Int.toNat_natCast] at g1 g2 ⊢
  simp [Instr.slice, run_under h.h, Instr.sliceBounds, g1, g2, extract_S]
theorem rd_sslc_l {t : TypeId} {l : List UInt8} {a : Int} [h : TU P t .string] (h0 : 0 ≤ a) (h1 : a ≤ l.length) : Rd P (Instr.sliceAt t (S l) (some (i64 a)) none none) I L (S (l.drop a.toNat)) := .of_run fun W => by
  rw [run_sliceAt_S, run_slice_string_l W t _ h.h .i64 a h0 (by rw [size_S]; exact h1), extract_S, size_S]
  congr 5
  rw [List.take_of_length_le (by simp)]
theorem rd_sslc_h {t : TypeId} {l : List UInt8} {b : Int} [h : TU P t .string] (h0 : 0 ≤ b) (h1 : b ≤ l.length) : Rd P (Instr.sliceAt t (S l) none (some (i64 b)) none) I L (S (l.take b.toNat)) := .of_run fun W => by
  rw [run_sliceAt_S, run_slice_string_h W t _ h.h .i64 b h0 (by rw [size_S]; exact h1), extract_S]
  simp
theorem sslc_ {t : TypeId} {l : List UInt8} {a b : Int} [h : TU P t .string] (k' : k (S ((l.drop a.toNat).take (b.toNat - a.toNat))) I L) (h0 : 0 ≤ a := by omega) (h1 : a ≤ b := by omega) (h2 : b ≤ l.length := by omega) : slc P t (S l) (some (i64 a)) (some (i64 b)) none I L k := wpS.of_rd (rd_sslc h0 h1 h2) k'
theorem sslcl_ {t : TypeId} {l : List UInt8} {a : Int} [h : TU P t .string] (k' : k (S (l.drop a.toNat)) I L) (h0 : 0 ≤ a := by omega) (h1 : a ≤ l.length := by omega) : slc P t (S l) (some (i64 a)) none none I L k := wpS.of_rd (rd_sslc_l h0 h1) k'
theorem sslch_ {t : TypeId} {l : List UInt8} {b : Int} [h : TU P t .string] (k' : k (S (l.take b.toNat)) I L) (h0 : 0 ≤ b := by omega) (h1 : b ≤ l.length := by omega) : slc P t (S l) none (some (i64 b)) none I L k := wpS.of_rd (rd_sslc_h h0 h1) k'
theorem rd_sadd {t : TypeId} {a b : List UInt8} (h : a.length + b.length ≤ 9223372036854775807) : Rd P (binOp .add t (S a) (S b)) I L (S (a ++ b)) := .of_run fun W => by
  have e : ¬ (((⟨a.toArray⟩ : ByteArray).size + (⟨b.toArray⟩ : ByteArray).size : Nat) : Int) > IntKind.i64.max := by
    rw [size_S, size_S]
    simp [IntKind.max, IntKind.signed, IntKind.bits]
    omega
  have e2 : (⟨a.toArray⟩ : ByteArray) ++ (⟨b.toArray⟩ : ByteArray) = ⟨(a ++ b).toArray⟩ := by
    apply ByteArray.ext
    simp
  simp only [binOp_string_add, Op.stringOp, if_neg e, e2]
  rfl
theorem sadd_ {t : TypeId} {a b : List UInt8} (k' : k (S (a ++ b)) I L) (h : a.length + b.length ≤ 9223372036854775807 := by omega) : bin P .add t (S a) (S b) I L k := wpS.of_rd (rd_sadd h) k'

/-! ### tuples, structs by value -/
theorem ext_ {vs : Array Value} {n : Nat} {v : Value} (k' : k v I L) (h : vs.toList[n]? = some v := by rfl) : ext P (.tuple vs) n I L k := wpS.of_rd (.of_run fun W => by
  have : vs[n]? = some v := by simpa using h
  simp [Instr.extract, this]) k'

/-! ### calls -/
theorem St.weaken {W : World} {I J : Imm} {L : Own} (hle : I.Le J) (h : St W J L) : St W I L :=
  ⟨h.os.trans hle.os, h.tape.trans hle.tape, h.output.trans hle.output, fun b o m => h.imm b o (hle.mem b o m), h.own, h.nodup, fun p m => by
    cases hm : I.mem p.1 with
    | none => rfl
    | some o =>
      have := h.apart p m
      rw [hle.mem _ _ hm] at this
      cases this⟩
theorem run_callFunc {f : FuncId} [h : HasCode P f] (args : Array Value) (W : World) : (callFunc f args).run P W = .ok (.enter f args) W := by
  obtain ⟨fn, h1, h2, h3⟩ := h.h
  have h4 : fn.body.isNone = false := by cases hb : fn.body with
    | none => simp [hb] at h2
    | some c => rfl
  simp only [callFunc, program, Sem.run_bind, Sem.run, Result.andThen, h1, h3, h4, if_false, Bool.false_eq_true]
  rfl
theorem cal_of {f : FuncId} {args : Array Value} {L1 L2 : Own} {R : Ending → Imm → Own → Prop} [hc : HasCode P f] (h : wpC P f args I L1 R) (hp : L.Perm (L1 ++ L2))
    (hk : ∀ e I' L', I.Le I' → R e I' L' → match e with | .returned v => k v I' (L' ++ L2) | .panicked ch => X ch I' (L' ++ L2) | .outgrown => False) : cal P f args I L X k := fun F W hs => by
  rw [run_callFunc]
  refine ((h.frame (L2 := L2)) F W (hs.perm (hp.append_right F))).mono fun e W' ⟨I', L', h1, h2, L1', e1, h3⟩ => ⟨I', L', h1, h2, ?_⟩
  subst e1
  have := hk e I' L1' h1 h3
  cases e <;> exact this
/-- A function that hands back this value, whatever the memory. -/
def PureC (P : Program) (f : FuncId) (args : Array Value) (v : Value) : Prop := ∀ I, wpC P f args I [] fun e _ _ => e = .returned v
theorem cal_pure {f : FuncId} {args : Array Value} {v : Value} [hc : HasCode P f] (h : PureC P f args v) (k' : k v I L) : cal P f args I L X k := fun F W hs => by
  rw [run_callFunc]
  refine (h I (L ++ F) W hs).mono fun e W' ⟨I', L', h1, h2, h3⟩ => ⟨I, L, .refl I, (h2.drop).weaken h1, ?_⟩
  subst h3
  exact k'
theorem qcal_pure {C : Cls} {f : FuncId} {args : Array Value} {v : Value} {k : Value → Prop} [hc : HasCode P f] (h : PureC P f args v) (k' : k v) : qcal P f args C k :=
  ⟨v, run_callFunc args, fun I L _ F W hs => (h I (L ++ F) W hs).mono fun e W' ⟨I', L', h1, h2, h3⟩ => ⟨h3, (h2.drop).weaken h1⟩, k'⟩
theorem qS_of {C : Cls} {s : Sem Value} {v : Value} {k : Value → Prop} (h : ∀ I L, C I L → Rd P s I L v) (k' : k v) : qS P s C k := ⟨v, h, k'⟩

/-- What is left over at a function's end is let go. -/
def End (R : Ending → Imm → Own → Prop) : Ending → Imm → Own → Prop := fun e I L => ∃ L2 r, L.Perm (L2 ++ r) ∧ R e I L2
theorem wpC_end {f : FuncId} {args : Array Value} {R : Ending → Imm → Own → Prop} (h : wpC P f args I L (End R)) : wpC P f args I L R := fun F W hs =>
  (h F W hs).mono fun e W' ⟨I', L', h1, h2, L2, r, hp, h3⟩ => by
    refine ⟨I', L2, h1, ?_, h3⟩
    have h4 : St W' I' ((r ++ (L2 ++ F))) := h2.perm (by
      refine (hp.append_right F).trans ?_
      rw [List.append_assoc]
      exact (List.perm_append_comm_assoc L2 r F))
    exact h4.drop
/-- A function that hands back a value, and leaves what is owned as it is. -/
def RoC (P : Program) (f : FuncId) (args : Array Value) (I : Imm) (L : Own) (v : Value) : Prop := wpC P f args I L fun e _ L' => e = .returned v ∧ L' = L
theorem cal_ro {f : FuncId} {args : Array Value} {v : Value} {L1 r : Own} [hc : HasCode P f] [hf : Foc L L1 r] (h : RoC P f args I L1 v) (k' : k v I L) : cal P f args I L X k := fun F W hs => by
  rw [run_callFunc]
  have hp : (L ++ F).Perm (L1 ++ (r ++ F)) := by rw [← List.append_assoc]; exact hf.h.append_right F
  refine (h (r ++ F) W (hs.perm hp)).mono fun e W' ⟨I', L', h1, h2, h3, h4⟩ => ?_
  subst h3 h4
  exact ⟨I, L, .refl I, (h2.weaken h1).perm hp.symm, k'⟩
theorem RoC.of {f : FuncId} {args : Array Value} {v : Value} (h : wpC P f args I L (End fun e _ L' => e = .returned v ∧ L' = L)) : RoC P f args I L v := wpC_end h
theorem fin_ro {v : Value} {L1 r : Own} [hf : Foc L L1 r] : End (fun e _ L' => e = .returned v ∧ L' = L1) (.returned v) I L := ⟨L1, r, hf.h, rfl, rfl⟩
theorem RoC.pure {f : FuncId} {args : Array Value} {v : Value} (h : ∀ I, RoC P f args I [] v) : PureC P f args v := fun I => (h I).mono fun _ _ _ _ h => h.1
theorem PureC.ro {f : FuncId} {args : Array Value} {v : Value} (h : PureC P f args v) : RoC P f args I [] v := wpC_end ((h I).mono fun e I' L' _ he => ⟨[], L', .refl _, he, rfl⟩)
/-- A function that changes one block. -/
def MutC (P : Program) (f : FuncId) (args : Array Value) (I : Imm) (b : Nat) (o : Obj) (Rv : Value → Imm → Obj → Prop) : Prop :=
  wpC P f args I [(b, o)] fun e I' L' => ∃ v o', e = .returned v ∧ L' = [(b, o')] ∧ Rv v I' o'
theorem MutC.of {f : FuncId} {args : Array Value} {b : Nat} {o : Obj} {Rv : Value → Imm → Obj → Prop} (h : wpC P f args I [(b, o)] (End fun e I' L' => ∃ v o', e = .returned v ∧ L' = [(b, o')] ∧ Rv v I' o')) : MutC P f args I b o Rv := wpC_end h
theorem fin_mut {v : Value} {b : Nat} {o : Obj} {r : Own} {Rv : Value → Imm → Obj → Prop} [hf : TakB L b o r] (h : Rv v I o) : End (fun e I' L' => ∃ v o', e = .returned v ∧ L' = [(b, o')] ∧ Rv v I' o') (.returned v) I L := ⟨[(b, o)], r, hf.h, v, o, rfl, rfl, h⟩
theorem cal_mut {f : FuncId} {args : Array Value} {b : Nat} {o : Obj} {mk : Obj → Own} {Rv : Value → Imm → Obj → Prop} [hc : HasCode P f] [hf : SlotB L b o mk] (h : MutC P f args I b o Rv)
    (hk : ∀ v I' o', I.Le I' → Rv v I' o' → k v I' (mk o')) : cal P f args I L X k := fun F W hs => by
  obtain ⟨r, hp1, hp2⟩ := hf.h
  rw [run_callFunc]
  refine ((show wpC P f args I [(b, o)] _ from h) (r ++ F) W (hs.perm (hp1.append_right F))).mono fun e W' ⟨I', L', h1, h2, v, o', h3, h4, h5⟩ => ?_
  subst h3 h4
  exact ⟨I', mk o', h1, h2.perm ((hp2 o').symm.append_right F), hk v I' o' h1 h5⟩
/-- A function that hands back something, and what goes with it. -/
def RetC (P : Program) (f : FuncId) (args : Array Value) (I : Imm) (L : Own) (Rv : Value → Imm → Own → Prop) : Prop := wpC P f args I L fun e I' L' => ∃ v, e = .returned v ∧ Rv v I' L'
theorem cal_ret {f : FuncId} {args : Array Value} {L1 r : Own} {Rv : Value → Imm → Own → Prop} [hc : HasCode P f] [hf : Foc L L1 r] (h : RetC P f args I L1 Rv) (hk : ∀ v I' L', I.Le I' → Rv v I' L' → k v I' (L' ++ r)) : cal P f args I L X k :=
  cal_of h (L2 := r) hf.h fun e I' L' hle ⟨v, he, hv⟩ => by
    subst he
    exact hk v I' L' hle hv

/-! ### memory that doesn't change any more -/
/-- These cells lie there for good. -/
def RdAt (I : Imm) (b o : Nat) (vs : List Value) : Prop := ∃ c e fr, I.mem b = some (.cells c e fr) ∧ (c.toList.drop o).take vs.length = vs
theorem RdAt.up {J : Imm} {b o : Nat} {vs : List Value} (h : RdAt I b o vs) (hle : I.Le J) : RdAt J b o vs := by
  obtain ⟨c, e, fr, h1, h2⟩ := h
  exact ⟨c, e, fr, hle.mem _ _ h1, h2⟩
theorem RdAt.drop {b o n : Nat} {vs : List Value} (h : RdAt I b o vs) : RdAt I b (o + n) (vs.drop n) := by
  obtain ⟨c, e, fr, h1, h2⟩ := h
  refine ⟨c, e, fr, h1, ?_⟩
  conv => rhs; rw [← h2]
  rw [List.drop_take, List.drop_drop, List.length_drop]
theorem RdAt.take {b o n : Nat} {vs : List Value} (h : RdAt I b o vs) : RdAt I b o (vs.take n) := by
  obtain ⟨c, e, fr, h1, h2⟩ := h
  refine ⟨c, e, fr, h1, ?_⟩
  conv => rhs; rw [← h2]
  rw [List.take_take, List.length_take]
theorem RdAt.cel {b o p j : Nat} {vs : List Value} {v : Value} (h : RdAt I b o vs) (hp : p = o + j) (hv : vs[j]? = some v) : Cel I L b p v := ⟨fun F W hs => by
  obtain ⟨c, e, fr, h1, h2⟩ := h
  rw [cell_of (hs.imm _ _ h1), hp]
  rw [← h2] at hv
  rw [List.getElem?_take] at hv
  split at hv
  · rw [List.getElem?_drop] at hv; simpa using hv
  · cases hv⟩
theorem ldi_ {t b o p j : Nat} {vs : List Value} {v : Value} [Scal P t] (h : RdAt I b o vs) (hp : p = o + j) (hv : vs[j]? = some v) (k' : k v I L) : ld P t (ptr b p) I L k := wpS.of_rd (rd_ld (h.cel hp hv)) k'
theorem rd_ldai {t b o p j n : Nat} {vs us : List Value} [ha : Agg P t n] (h : RdAt I b o vs) (hp : p = o + j) (hu : (vs.drop j).take n = us) (hn : us.length = n) : Rd P (Instr.loadAt t (ptr b p)) I L (.agg us.toArray) := by
  obtain ⟨c, e, fr, h1, h2⟩ := h
  refine rd_lda (c := c) (e := e) (fr := fr) (fun F W hs => hs.imm _ _ h1) ?_ hn
  subst hp
  have h3 : (vs.drop j) = ((c.toList.drop (o + j)).take (vs.length - j)) := by
    conv => lhs; rw [← h2]
    rw [List.drop_take, List.drop_drop]
  rw [h3, List.take_take] at hu
  have : n ≤ vs.length - j := by
    rw [← hn, ← hu]
    simp only [List.length_take]
    omega
  rw [Nat.min_eq_left this] at hu
  exact hu
theorem ldai_ {t b o p j n : Nat} {vs us : List Value} [ha : Agg P t n] (h : RdAt I b o vs) (hp : p = o + j) (hu : (vs.drop j).take n = us) (hn : us.length = n) (k' : k (.agg us.toArray) I L) : ld P t (ptr b p) I L k := wpS.of_rd (rd_ldai h hp hu hn) k'
/-- A slice's cells lie there for good. -/
def RSl (I : Imm) (A : Option Addr) (vs : List Value) : Prop := vs = [] ∨ ∃ b o, A = some ⟨b, o, none⟩ ∧ RdAt I b o vs
theorem RSl.up {J : Imm} {A : Option Addr} {vs : List Value} (h : RSl I A vs) (hle : I.Le J) : RSl J A vs := h.imp id fun ⟨b, o, e, h⟩ => ⟨b, o, e, h.up hle⟩
theorem rd_vlen {t e ty n c : Nat} {A : Option Addr} [h : TU P t (.slice e)] : Rd P (Builtin.len_ #[t] ty #[.slice A n c]) I L (i64 n) := .of_run fun W => by
  simp [Builtin.len_, run_under h.h, goInt]
theorem vlen_ {t e ty n c : Nat} {A : Option Addr} [h : TU P t (.slice e)] (k' : k (i64 n) I L) : blt P .len #[t] ty #[.slice A n c] I L k := wpS.of_rd rd_vlen k'
theorem rd_iad {t e b o n c sz y : Nat} {z : Value} {i : Int} [h : TU P t (.slice e)] [hz : TI P e sz y z] (h0 : 0 ≤ i) (h1 : i < n) : Rd P (Instr.indexAt t (.slice (some ⟨b, o, none⟩) n c) (i64 i)) I L (ptr b (o + i.toNat * sz)) := .of_run fun W => by
  obtain ⟨inf, hi, he⟩ := Option.map_eq_some_iff.1 hz.h
  simp only [Prod.mk.injEq] at he
  have hs : (sizeOf e).run P W = .ok sz W := run_size (by rw [hi]; simp [he.1]) W
  simp [Instr.indexAt, asIntOf, run_under h.h, h0, h1, hs, Addr.add_plain]
theorem iad_ {t e b o n c sz y : Nat} {z : Value} {i : Int} [h : TU P t (.slice e)] [hz : TI P e sz y z] (k' : k (ptr b (o + i.toNat * sz)) I L) (h0 : 0 ≤ i := by omega) (h1 : i < n := by omega) : iad P t (.slice (some ⟨b, o, none⟩) n c) (i64 i) I L k := wpS.of_rd (rd_iad h0 h1) k'
theorem run_vslcl {t e c n sz y : Nat} {A : Option Addr} {z : Value} {a : Int} [h : TU P t (.slice e)] [hz : TI P e sz y z] (h0 : 0 ≤ a) (h1 : a ≤ n) (W : World) :
    (Instr.sliceAt t (.slice A n c) (some (i64 a)) none none).run P W = .ok (.slice (if c = a.toNat then A else A.map (·.add (a.toNat * sz))) (n - a.toNat) (c - a.toNat)) W := by
  obtain ⟨inf, hi, he⟩ := Option.map_eq_some_iff.1 hz.h
  simp only [Prod.mk.injEq] at he
  have hs : (sizeOf e).run P W = .ok sz W := run_size (by rw [hi]; simp [he.1]) W
  have g := run_sliceBound (P := P) W .i64 a n .sliceB h0 h1
  simp [Instr.sliceAt, Instr.slice, run_under h.h, Instr.sliceBounds, g, hs]
theorem RSl.cut {A : Option Addr} {vs : List Value} {c m sz n : Nat} (h : RSl I A vs) (hl : vs.length = n * sz) (hn : n ≤ c) : RSl I (if c = m then A else A.map (·.add (m * sz))) (vs.drop (m * sz)) := by
  rcases h with rfl | ⟨b, o, rfl, h⟩
  · exact .inl (by simp)
  · by_cases hc : c = m
    · refine .inl (List.drop_eq_nil_of_le ?_)
      rw [hl, ← hc]
      exact Nat.mul_le_mul_right _ hn
    · rw [if_neg hc]
      exact .inr ⟨b, o + m * sz, by simp [Addr.add_plain], h.drop⟩
theorem vslcl_ {t e c n sz y : Nat} {A : Option Addr} {z : Value} {a : Int} {vs : List Value} [h : TU P t (.slice e)] [hz : TI P e sz y z] (hr : RSl I A vs) (hl : vs.length = n * sz) (hn : n ≤ c)
    (k' : ∀ A', RSl I A' (vs.drop (a.toNat * sz)) → k (.slice A' (n - a.toNat) (c - a.toNat)) I L) (h0 : 0 ≤ a := by omega) (h1 : a ≤ n := by omega) : slc P t (.slice A n c) (some (i64 a)) none none I L k :=
  wpS.of_rd (.of_run (run_vslcl h0 h1)) (k' _ (hr.cut hl hn))
theorem rd_bld {t : Nat} {ps : Array (Nat × Value)} {v : Value} (h : ∀ W, (Instr.build t ps).run P W = .ok v W) : Rd P (Instr.build t ps) I L v := .of_run h
theorem bld_ {t : Nat} {ps : Array (Nat × Value)} {v : Value} (h : ∀ W, (Instr.build t ps).run P W = .ok v W) (k' : k v I L) : bld P t ps I L k := wpS.of_rd (.of_run h) k'
theorem rcl_ {t b o : Nat} {c : Array Value} {e : TypeId} {fr : Nat × Nat} {v : Value} {k : Value → Prop} [Scal P t] [h : HasB L b (.cells c e fr)] (k' : k v) (hv : c.toList[o]? = some v := by rfl) : rcl P t (ptr b o) I L k :=
  ⟨v, fun F W hs => by
    have := rd_ld (P := P) (t := t) (cel_own (h := h) hv) F W hs
    simpa [Instr.loadAt, Instr.sureAddr, asAddr] using this, k'⟩
theorem rcla_ {t b o n : Nat} {c : Array Value} {e : TypeId} {fr : Nat × Nat} {vs : List Value} {k : Value → Prop} [ha : Agg P t n] [h : HasB L b (.cells c e fr)] (k' : k (.agg vs.toArray)) (hv : (c.toList.drop o).take n = vs := by rfl) (hn : vs.length = n := by rfl) : rcl P t (ptr b o) I L k :=
  ⟨_, fun F W hs => by
    have := rd_lda (P := P) (t := t) (b := b) (o := o) (fun F W hs => hs.has (b := b) (o := .cells c e fr) h.h) hv hn F W hs
    simpa [Instr.loadAt, Instr.sureAddr, asAddr] using this, k'⟩
end ops
/-! ### The steps, as instances: 'refine StG.h ?_' takes the one that fits -/
class StG (G : Prop) (H : outParam Prop) : Prop where h : H → G
class StW (G : Prop) (H : outParam Prop) : Prop where h : H → G
/-- .. where p is known -/
class StY (G : Prop) (p H : outParam Prop) : Prop where h : p → H → G
class StN (G : Prop) (p H : outParam Prop) : Prop where h : p → H → G
/-- .. where a bool is known -/
class StA (G : Prop) (p H : outParam Prop) : Prop where h : p → H → G
class StB (G : Prop) (p H : outParam Prop) : Prop where h : p → H → G
section steps
variable {P : Program} {I : Imm} {L : Own} {k : KV} {X : List PanicEntry → Imm → Own → Prop} {t ty : TypeId} {q : IntKind} {a b : Int} {c d w : Bool} {r s : List UInt8} {run : KV → Prop} {x y : Value} {A B p : Prop} [Decidable p]
omit [Decidable p]
instance : StG (bin P .lss t (.int q a) (.int q b) I L k) (k (.bool (decide (a < b))) I L) := ⟨lss_⟩
instance : StG (bin P .leq t (.int q a) (.int q b) I L k) (k (.bool (decide (a ≤ b))) I L) := ⟨leq_⟩
instance : StG (bin P .gtr t (.int q a) (.int q b) I L k) (k (.bool (decide (b < a))) I L) := ⟨gtr_⟩
instance : StG (bin P .geq t (.int q a) (.int q b) I L k) (k (.bool (decide (b ≤ a))) I L) := ⟨geq_⟩
instance : StG (eqn P .eql t c d (.int q a) (.int q b) I L k) (k (.bool (decide (a = b))) I L) := ⟨eqi_⟩
instance : StG (eqn P .neq t c d (.int q a) (.int q b) I L k) (k (.bool (decide (a ≠ b))) I L) := ⟨nei_⟩
instance : StG (eqn P .eql t c d (S r) (S s) I L k) (k (.bool (decide (r = s))) I L) := ⟨seq_⟩
instance : StG (eqn P .neq t c d (S r) (S s) I L k) (k (.bool (decide (r ≠ s))) I L) := ⟨sne_⟩
instance : StG (gd (yb (some undef) w) run k I L) (k undef I L) := ⟨gdu_⟩
instance : StG (gd (yb (some (.bool true)) true) run k I L) (run k) := ⟨gdtt_⟩
instance : StG (gd (yb (some (.bool true)) false) run k I L) (k undef I L) := ⟨gdtf_⟩
instance : StG (gd (yb (some (.bool false)) false) run k I L) (run k) := ⟨gdff_⟩
instance : StG (gd (yb (some (.bool false)) true) run k I L) (k undef I L) := ⟨gdft_⟩
instance : StG (pck (.bool true) x y I L k) (k x I L) := ⟨pckt_⟩
instance : StG (pck (.bool false) x y I L k) (k y I L) := ⟨pckf_⟩
instance : StG (cnd (.bool true) A B) A := ⟨cndt_⟩
instance : StG (cnd (.bool false) A B) B := ⟨cndf_⟩
instance (priority := high) : StG (un P .not (.bool true) I L k) (k (.bool false) I L) := ⟨nott_⟩
instance (priority := high) : StG (un P .not (.bool false) I L k) (k (.bool true) I L) := ⟨notf_⟩
instance (priority := low) : StG (un P .not (.bool w) I L k) (k (.bool (!w)) I L) := ⟨notb_⟩
variable [Decidable p]
instance : StG (un P .not (.bool (decide p)) I L k) (k (.bool (decide (¬ p))) I L) := ⟨not_⟩
instance : StY (cnd (.bool (decide p)) A B) p A := ⟨cnd_yes⟩
instance : StN (cnd (.bool (decide p)) A B) (¬ p) B := ⟨cnd_no⟩
instance : StY (gd (yb (some (.bool (decide p))) true) run k I L) p (run k) := ⟨gd_yes⟩
instance : StN (gd (yb (some (.bool (decide p))) true) run k I L) (¬ p) (k undef I L) := ⟨gd_no⟩
instance : StN (gd (yb (some (.bool (decide p))) false) run k I L) (¬ p) (run k) := ⟨gdn_yes⟩
instance : StY (gd (yb (some (.bool (decide p))) false) run k I L) p (k undef I L) := ⟨gdn_no⟩
instance : StY (pck (.bool (decide p)) x y I L k) p (k x I L) := ⟨pck_yes⟩
instance : StN (pck (.bool (decide p)) x y I L k) (¬ p) (k y I L) := ⟨pck_no⟩
omit [Decidable p]
instance {l : List UInt8} [h : TU P t .string] : StW (blt P .len #[t] ty #[S l] I L k) (k (i64 l.length) I L) := ⟨slen_⟩
instance {e n c : Nat} {A : Option Addr} [h : TU P t (.slice e)] : StW (blt P .len #[t] ty #[.slice A n c] I L k) (k (i64 n) I L) := ⟨vlen_⟩
instance {b o : Nat} : StW (nck P (ptr b o) I L k) (k (ptr b o) I L) := ⟨nck_⟩
instance {s n b o ft off sz : Nat} [h : FO P s n ft off sz] : StW (fad P s (ptr b o) n I L k) (k (ptr b (o + off)) I L) := ⟨fad_⟩
/-! bools that are known -/
theorem cndbt_ {b : Bool} {A B : Prop} (h : b = true) (a : A) : cnd (.bool b) A B := by subst h; exact a
theorem cndbf_ {b : Bool} {A B : Prop} (h : b = false) (a : B) : cnd (.bool b) A B := by subst h; exact a
theorem cndnn_ {p : Prop} [Decidable p] {A B : Prop} (h : p) (b : B) : cnd (.bool (decide (¬ p))) A B := by
  have : ¬ ¬ p := fun k => k h
  simp only [this, decide_false, cnd]
  exact b
theorem gdbtt_ {b : Bool} {run : KV → Prop} (h : b = true) (k' : run k) : gd (yb (some (.bool b)) true) run k I L := by subst h; exact k'
theorem gdbtf_ {b : Bool} {run : KV → Prop} (h : b = true) (k' : k undef I L) : gd (yb (some (.bool b)) false) run k I L := by subst h; exact k'
theorem gdbff_ {b : Bool} {run : KV → Prop} (h : b = false) (k' : run k) : gd (yb (some (.bool b)) false) run k I L := by subst h; exact k'
theorem gdbft_ {b : Bool} {run : KV → Prop} (h : b = false) (k' : k undef I L) : gd (yb (some (.bool b)) true) run k I L := by subst h; exact k'
theorem pckbt_ {b : Bool} {x y : Value} (h : b = true) (k' : k x I L) : pck (.bool b) x y I L k := by subst h; exact k'
theorem pckbf_ {b : Bool} {x y : Value} (h : b = false) (k' : k y I L) : pck (.bool b) x y I L k := by subst h; exact k'
theorem notbt_ {b : Bool} (h : b = true) (k' : k (.bool false) I L) : un P .not (.bool b) I L k := by subst h; exact nott_ k'
theorem notbf_ {b : Bool} (h : b = false) (k' : k (.bool true) I L) : un P .not (.bool b) I L k := by subst h; exact notf_ k'
instance {p : Prop} [Decidable p] {A B : Prop} : StA (cnd (.bool (decide (¬ p))) A B) p B := ⟨cndnn_⟩
instance (priority := low) : StA (cnd (.bool w) A B) (w = true) A := ⟨cndbt_⟩
instance : StB (cnd (.bool w) A B) (w = false) B := ⟨cndbf_⟩
instance : StA (gd (yb (some (.bool w)) true) run k I L) (w = true) (run k) := ⟨gdbtt_⟩
instance : StA (gd (yb (some (.bool w)) false) run k I L) (w = true) (k undef I L) := ⟨gdbtf_⟩
instance : StB (gd (yb (some (.bool w)) false) run k I L) (w = false) (run k) := ⟨gdbff_⟩
instance : StB (gd (yb (some (.bool w)) true) run k I L) (w = false) (k undef I L) := ⟨gdbft_⟩
instance : StA (pck (.bool w) x y I L k) (w = true) (k x I L) := ⟨pckbt_⟩
instance : StB (pck (.bool w) x y I L k) (w = false) (k y I L) := ⟨pckbf_⟩
instance : StA (un P .not (.bool w) I L k) (w = true) (k (.bool false) I L) := ⟨notbt_⟩
instance : StB (un P .not (.bool w) I L k) (w = false) (k (.bool true) I L) := ⟨notbf_⟩
end steps
end Go.Proofs.YtkclodaplbalfaaDoor.Sl
