/- The separation logic of this claim: what a piece of Go code does to the memory that it owns, and to the memory that nothing changes any more. Conditions: none. -/
import Derived.WalkKit
import Derived.Deep.Quiet
import Derived.KernelRfl
set_option linter.unusedVariables false
set_option linter.unusedSimpArgs false
namespace Go.Proofs.YtkclodaplbalfaaDoor.Sl
open Go

/-- What doesn't change any more: some blocks, and what is outside. -/
structure Imm where
  mem : Nat → Option Obj
  os : Os
  tape : Nat → Question → Nat
  output : Array (Nat × ByteArray)

/-- Blocks that are one's own. -/
abbrev Own := List (Nat × Obj)

structure Imm.Le (I J : Imm) : Prop where
  os : J.os = I.os
  tape : J.tape = I.tape
  output : J.output = I.output
  mem : ∀ b o, I.mem b = some o → J.mem b = some o

theorem Imm.Le.refl (I : Imm) : I.Le I := ⟨rfl, rfl, rfl, fun _ _ h => h⟩
theorem Imm.Le.trans {I J K : Imm} (h : I.Le J) (k : J.Le K) : I.Le K :=
  ⟨k.os.trans h.os, k.tape.trans h.tape, k.output.trans h.output, fun b o x => k.mem b o (h.mem b o x)⟩

structure St (W : World) (I : Imm) (L : Own) : Prop where
  os : W.os = I.os
  tape : W.tape = I.tape
  output : W.output = I.output
  imm : ∀ b o, I.mem b = some o → W.heap[b]? = some o
  own : ∀ p ∈ L, W.heap[p.1]? = some p.2
  nodup : (L.map (·.1)).Nodup
  apart : ∀ p ∈ L, I.mem p.1 = none

theorem St.perm {W : World} {I : Imm} {L L' : Own} (h : St W I L) (hp : L.Perm L') : St W I L' :=
  ⟨h.os, h.tape, h.output, h.imm, fun p m => h.own p (hp.mem_iff.2 m), (hp.map _).nodup_iff.1 h.nodup, fun p m => h.apart p (hp.mem_iff.2 m)⟩

/-- What is not needed any more is let go. -/
theorem St.drop {W : World} {I : Imm} {L F : Own} (h : St W I (L ++ F)) : St W I F := by
  refine ⟨h.os, h.tape, h.output, h.imm, fun p m => h.own p (by simp [m]), ?_, fun p m => h.apart p (by simp [m])⟩
  have := h.nodup
  rw [List.map_append, List.nodup_append] at this
  exact this.2.1

theorem St.drew {W : World} {I : Imm} {L : Own} (h : St W I L) (n : Nat) : St { W with drawn := n } I L :=
  ⟨h.os, h.tape, h.output, h.imm, h.own, h.nodup, h.apart⟩

/-- A new block. -/
theorem St.new {W : World} {I : Imm} {L : Own} (h : St W I L) (o : Obj) : St { W with heap := W.heap.push o } I ((W.heap.size, o) :: L) := by
  have hlt : ∀ {b o'}, W.heap[b]? = some o' → b < W.heap.size := fun {b o'} hb => (Array.getElem?_eq_some_iff.1 hb).1
  have hold : ∀ {b o'}, W.heap[b]? = some o' → (W.heap.push o)[b]? = some o' := fun {b o'} hb => by
    rw [Array.getElem?_push]
    have := hlt hb
    rw [if_neg (by omega)]
    exact hb
  refine ⟨h.os, h.tape, h.output, fun b o' m => hold (h.imm b o' m), ?_, ?_, ?_⟩
  · intro p m
    rcases List.mem_cons.1 m with rfl | m
    · simp
    · exact hold (h.own p m)
  · rw [List.map_cons, List.nodup_cons]
    refine ⟨fun m => ?_, h.nodup⟩
    obtain ⟨p, hp, he⟩ := List.mem_map.1 m
    have := hlt (h.own p hp)
    simp only at he
    omega
  · intro p m
    rcases List.mem_cons.1 m with rfl | m
    · cases hm : I.mem W.heap.size with
      | none => rfl
      | some o' => exact absurd (hlt (h.imm _ _ hm)) (by simp)
    · exact h.apart p m

/-- A block of one's own is written. -/
theorem St.set {W : World} {I : Imm} {b : Nat} {o o' : Obj} {L : Own} (h : St W I ((b, o) :: L)) {H : Array Obj} (hs : ∀ k, k ≠ b → H[k]? = W.heap[k]?) (hb : H[b]? = some o') :
    St { W with heap := H } I ((b, o') :: L) := by
  have hnd := h.nodup
  rw [List.map_cons, List.nodup_cons] at hnd
  refine ⟨h.os, h.tape, h.output, fun k ok m => ?_, ?_, ?_, ?_⟩
  · have hne : k ≠ b := fun e => by
      have := h.apart (b, o) (by simp)
      subst e
      simp only at this
      rw [this] at m
      cases m
    simp only
    rw [hs k hne]
    exact h.imm k ok m
  · intro p m
    rcases List.mem_cons.1 m with rfl | m
    · exact hb
    · have hne : p.1 ≠ b := fun e => hnd.1 (List.mem_map.2 ⟨p, m, e⟩)
      simp only
      rw [hs _ hne]
      exact h.own p (List.mem_cons_of_mem _ m)
  · rw [List.map_cons, List.nodup_cons]
    exact hnd
  · intro p m
    rcases List.mem_cons.1 m with rfl | m
    · exact h.apart (b, o) (by simp)
    · exact h.apart p (List.mem_cons_of_mem _ m)

/-- A block of one's own is not changed any more. -/
def Imm.add (I : Imm) (b : Nat) (o : Obj) : Imm := { I with mem := fun k => if k = b then some o else I.mem k }
theorem St.freeze {W : World} {I : Imm} {b : Nat} {o : Obj} {L : Own} (h : St W I ((b, o) :: L)) : I.Le (I.add b o) ∧ St W (I.add b o) L := by
  have hnd := h.nodup
  rw [List.map_cons, List.nodup_cons] at hnd
  have h0 : I.mem b = none := h.apart (b, o) (by simp)
  refine ⟨⟨rfl, rfl, rfl, fun k ok m => ?_⟩, ⟨h.os, h.tape, h.output, fun k ok m => ?_, fun p m => h.own p (List.mem_cons_of_mem _ m), hnd.2, fun p m => ?_⟩⟩
  · simp only [Imm.add]
    split
    · rename_i e; subst e; rw [h0] at m; cases m
    · exact m
  · simp only [Imm.add] at m
    split at m
    · rename_i e; subst e; cases m; exact h.own (k, o) (by simp)
    · exact h.imm k ok m
  · have hne : p.1 ≠ b := fun e => hnd.1 (List.mem_map.2 ⟨p, m, e⟩)
    simp only [Imm.add]
    rw [if_neg hne]
    exact h.apart p (List.mem_cons_of_mem _ m)

/-- A run of the model's own steps. -/
def wpS {α : Type} (P : Program) (s : Sem α) (I : Imm) (L : Own) (K : α → Imm → Own → Prop) : Prop :=
  ∀ F W, St W I (L ++ F) → match s.run P W with
    | .ok v W' => ∃ I' L', I.Le I' ∧ St W' I' (L' ++ F) ∧ K v I' L'
    | .halt _ _ => False

/-- It yields this, and leaves all as it is. -/
def Rd {α : Type} (P : Program) (s : Sem α) (I : Imm) (L : Own) (v : α) : Prop := ∀ F W, St W I (L ++ F) → s.run P W = .ok v W

/-- A call. -/
def wpC (P : Program) (f : FuncId) (args : Array Value) (I : Imm) (L : Own) (R : Ending → Imm → Own → Prop) : Prop :=
  ∀ F W, St W I (L ++ F) → Calls P f args W fun e W' => ∃ I' L', I.Le I' ∧ St W' I' (L' ++ F) ∧ R e I' L'

abbrev KV := Value → Imm → Own → Prop
abbrev XT := List PanicEntry → List Deferred → Imm → Own → Prop

section sem
variable {P : Program} {I : Imm} {L : Own} {α β : Type}
theorem wpS.of_rd {s : Sem α} {v : α} {K : α → Imm → Own → Prop} (h : Rd P s I L v) (k : K v I L) : wpS P s I L K := fun F W hs => by
  rw [h F W hs]
  exact ⟨I, L, .refl I, hs, k⟩
theorem wpS.mono {s : Sem α} {K K' : α → Imm → Own → Prop} (h : wpS P s I L K) (k : ∀ v I' L', I.Le I' → K v I' L' → K' v I' L') : wpS P s I L K' := fun F W hs => by
  have := h F W hs
  revert this
  cases s.run P W with
  | ok v W' => exact fun ⟨I', L', h1, h2, h3⟩ => ⟨I', L', h1, h2, k _ _ _ h1 h3⟩
  | halt x W' => exact id
theorem wpS.bind {s : Sem α} {f : α → Sem β} {K : β → Imm → Own → Prop} (h : wpS P s I L fun v I' L' => wpS P (f v) I' L' K) : wpS P (s >>= f) I L K := fun F W hs => by
  have := h F W hs
  rw [Sem.run_bind]
  revert this
  cases s.run P W with
  | halt x W' => exact id
  | ok v W' =>
    rintro ⟨I', L', h1, h2, h3⟩
    simp only [Result.andThen]
    have h4 := h3 F W' h2
    revert h4
    cases (f v).run P W' with
    | halt x W' => exact id
    | ok u W'' => exact fun ⟨I2, L2, g1, g2, g3⟩ => ⟨I2, L2, h1.trans g1, g2, g3⟩
theorem wpS.pure {v : α} {K : α → Imm → Own → Prop} (k : K v I L) : wpS P (Pure.pure v) I L K := .of_rd (fun _ _ _ => rfl) k
theorem wpS.perm {s : Sem α} {L' : Own} {K : α → Imm → Own → Prop} (hp : L.Perm L') (h : wpS P s I L' K) : wpS P s I L K := fun F W hs => h F W (hs.perm (hp.append_right F))
/-- What isn't touched. -/
theorem wpS.frame {s : Sem α} {L2 : Own} {K : α → Imm → Own → Prop} (h : wpS P s I L K) : wpS P s I (L ++ L2) fun v I' L' => ∃ L1, L' = L1 ++ L2 ∧ K v I' L1 := fun F W hs => by
  have := h (L2 ++ F) W (by rwa [← List.append_assoc])
  revert this
  cases s.run P W with
  | ok v W' => exact fun ⟨I', L', h1, h2, h3⟩ => ⟨I', L' ++ L2, h1, by rwa [List.append_assoc], L', rfl, h3⟩
  | halt x W' => exact id
theorem Rd.bind {s : Sem α} {f : α → Sem β} {v : α} {u : β} (h : Rd P s I L v) (k : Rd P (f v) I L u) : Rd P (s >>= f) I L u := fun F W hs => by
  rw [Sem.run_bind, h F W hs]
  exact k F W hs
theorem Rd.pure {v : α} : Rd P (Pure.pure v) I L v := fun _ _ _ => rfl
theorem Rd.of_run {s : Sem α} {v : α} (h : ∀ W, s.run P W = .ok v W) : Rd P s I L v := fun _ W _ => h W
theorem wpC.mono {f : FuncId} {args : Array Value} {R R' : Ending → Imm → Own → Prop} (h : wpC P f args I L R) (k : ∀ e I' L', I.Le I' → R e I' L' → R' e I' L') : wpC P f args I L R' :=
  fun F W hs => (h F W hs).mono fun e W' ⟨I', L', h1, h2, h3⟩ => ⟨I', L', h1, h2, k _ _ _ h1 h3⟩
theorem wpC.perm {f : FuncId} {args : Array Value} {L' : Own} {R : Ending → Imm → Own → Prop} (hp : L.Perm L') (h : wpC P f args I L' R) : wpC P f args I L R := fun F W hs => h F W (hs.perm (hp.append_right F))
theorem wpC.frame {f : FuncId} {args : Array Value} {L2 : Own} {R : Ending → Imm → Own → Prop} (h : wpC P f args I L R) : wpC P f args I (L ++ L2) fun e I' L' => ∃ L1, L' = L1 ++ L2 ∧ R e I' L1 := fun F W hs =>
  (h (L2 ++ F) W (by rwa [← List.append_assoc])).mono fun e W' ⟨I', L', h1, h2, h3⟩ => ⟨I', L' ++ L2, h1, by rwa [List.append_assoc], L', rfl, h3⟩
/-- What one owns may be kept unchanged from here on. -/
theorem wpC.freeze {f : FuncId} {args : Array Value} {b : Nat} {o : Obj} {R : Ending → Imm → Own → Prop} (h : wpC P f args (I.add b o) L R) : wpC P f args I ((b, o) :: L) R := fun F W hs =>
  (h F W hs.freeze.2).mono fun e W' ⟨I', L', h1, h2, h3⟩ => ⟨I', L', hs.freeze.1.trans h1, h2, h3⟩
end sem

/-! ### The shallow form of code: what is to be shown of an operation -/
def bin (P : Program) (op : BinOp) (t : TypeId) (a b : Value) (I : Imm) (L : Own) (k : KV) : Prop := wpS P (binOp op t a b) I L k
def cst : Operand → Bool | .const _ => true | _ => false
def opd (c : Bool) : Operand := if c then .const (.tuple #[]) else .tmp 0
/-- == and !=. -/
def eqn (P : Program) (op : BinOp) (t : TypeId) (c d : Bool) (a b : Value) (I : Imm) (L : Own) (k : KV) : Prop := wpS P (do eqGuard op t (opd c) (opd d) a b; binOp op t a b) I L k
def un (P : Program) (op : UnOp) (a : Value) (I : Imm) (L : Own) (k : KV) : Prop := wpS P (Op.unary op a) I L k
def al (P : Program) (e : TypeId) (I : Imm) (L : Own) (k : KV) : Prop := wpS P (Instr.alloc e true (.tuple #[])) I L k
def bx (P : Program) (e : TypeId) (v : Value) (I : Imm) (L : Own) (k : KV) : Prop := wpS P (Instr.box e v) I L k
def bld (P : Program) (t : TypeId) (ps : Array (Nat × Value)) (I : Imm) (L : Own) (k : KV) : Prop := wpS P (Instr.build t ps) I L k
def bsl (P : Program) (t : TypeId) (n : Nat) (ps : Array (Nat × Value)) (I : Imm) (L : Own) (k : KV) : Prop := wpS P (Instr.buildSlice t n ps) I L k
def ld (P : Program) (t : TypeId) (a : Value) (I : Imm) (L : Own) (k : KV) : Prop := wpS P (Instr.loadAt t a) I L k
def sto (P : Program) (t : TypeId) (a v : Value) (I : Imm) (L : Own) (k : KV) : Prop := wpS P (Instr.storeAt t a v) I L fun _ => k undef
def cvt (P : Program) (s d : TypeId) (v : Value) (I : Imm) (L : Own) (k : KV) : Prop := wpS P (convert s d v) I L k
def mki (P : Program) (t : TypeId) (v : Value) (I : Imm) (L : Own) (k : KV) : Prop := wpS P (Instr.makeInterface t v) I L k
def mkm (P : Program) (t : TypeId) (r : Option Value) (I : Imm) (L : Own) (k : KV) : Prop := wpS P (Instr.makeMap t r) I L k
def mks (P : Program) (t : TypeId) (n c : Value) (I : Imm) (L : Own) (k : KV) : Prop := wpS P (Instr.makeSlice t n c) I L k
def slc (P : Program) (t : TypeId) (x : Value) (lo hi mx : Option Value) (I : Imm) (L : Own) (k : KV) : Prop := wpS P (Instr.sliceAt t x lo hi mx) I L k
def fad (P : Program) (t : TypeId) (x : Value) (n : Nat) (I : Imm) (L : Own) (k : KV) : Prop := wpS P (Instr.fieldAt t x n) I L k
def fld (P : Program) (t : TypeId) (x : Value) (n : Nat) (I : Imm) (L : Own) (k : KV) : Prop := wpS P (Instr.field t x n) I L k
def iad (P : Program) (t : TypeId) (x i : Value) (I : Imm) (L : Own) (k : KV) : Prop := wpS P (Instr.indexAt t x i) I L k
def idx (P : Program) (t : TypeId) (x i : Value) (I : Imm) (L : Own) (k : KV) : Prop := wpS P (Instr.index t x i) I L k
def lkp (P : Program) (t : TypeId) (m i : Value) (ok : Bool) (I : Imm) (L : Own) (k : KV) : Prop := wpS P (Instr.lookup t m i ok) I L k
def mup (P : Program) (t : TypeId) (m i v : Value) (I : Imm) (L : Own) (k : KV) : Prop := wpS P (Instr.mapUpdate t m i v) I L fun _ => k undef
def mpe (P : Program) (t : TypeId) (m i : Value) (I : Imm) (L : Own) (k : KV) : Prop := wpS P (Instr.mapEntry t m i) I L k
def est (P : Program) (t : TypeId) (m i v : Value) (I : Imm) (L : Own) (k : KV) : Prop := wpS P (Instr.entryStore t m i v) I L fun _ => k undef
def rng (P : Program) (t : TypeId) (x : Value) (I : Imm) (L : Own) (k : KV) : Prop := wpS P (Instr.range t x) I L k
def nxt (P : Program) (it : Value) (s : Bool) (t : TypeId) (I : Imm) (L : Own) (k : KV) : Prop := wpS P (Instr.next it s t) I L k
def ent (P : Program) (it : Value) (I : Imm) (L : Own) (k : KV) : Prop := wpS P (Instr.entry it) I L k
def tas (P : Program) (x : Value) (s d : TypeId) (ok : Bool) (I : Imm) (L : Own) (k : KV) : Prop := wpS P (Instr.typeAssert x s d ok) I L k
def ext (P : Program) (x : Value) (n : Nat) (I : Imm) (L : Own) (k : KV) : Prop := wpS P (Instr.extract x n) I L k
def nilS (x : Value) : Sem Value :=
  match x with
  | .pointer (some a) => pure (.pointer (some a))
  | .iface t v => pure (.iface t v)
  | .func (.func f) a b => pure (.func (.func f) a b)
  | _ => stuck "nil"
def nck (P : Program) (x : Value) (I : Imm) (L : Own) (k : KV) : Prop := wpS P (nilS x) I L k
def pck (c x y : Value) (I : Imm) (L : Own) (k : KV) : Prop :=
  match c with
  | .bool true => k x I L
  | .bool false => k y I L
  | _ => False
def blt (P : Program) (b : Builtin) (ts : Array TypeId) (t : TypeId) (as : Array Value) (I : Imm) (L : Own) (k : KV) : Prop :=
  match b with
  | .len => wpS P (Builtin.len_ ts t as) I L k
  | .append => wpS P (Builtin.append_ ts t as) I L k
  | .cap => wpS P (Builtin.cap_ ts t as) I L k
  | .copy => wpS P (Builtin.copy_ ts t as) I L k
  | .delete => wpS P (Builtin.delete_ ts t as) I L k
  | .max => wpS P (Builtin.max_ ts t as) I L k
  | .min => wpS P (Builtin.min_ ts t as) I L k
  | .clear => wpS P (Builtin.clear_ ts t as) I L k
  | _ => False
/-- What comes of a call: a value, or a function is entered. -/
def nexT (P : Program) (s : Sem Next) (I : Imm) (L : Own) (X : List PanicEntry → Imm → Own → Prop) (k : KV) : Prop :=
  ∀ F W, St W I (L ++ F) → match s.run P W with
    | .ok (.value v) W' => ∃ I' L', I.Le I' ∧ St W' I' (L' ++ F) ∧ k v I' L'
    | .ok (.enter f args) W' => Calls P f args W' fun e W'' => ∃ I' L', I.Le I' ∧ St W'' I' (L' ++ F) ∧
        match e with
        | .returned v => k v I' L'
        | .panicked ch => X ch I' L'
        | .outgrown => False
    | _ => False
def cal (P : Program) (f : FuncId) (args : Array Value) (I : Imm) (L : Own) (X : List PanicEntry → Imm → Own → Prop) (k : KV) : Prop := nexT P (callFunc f args) I L X k
/-- A call of a function value. -/
def clv (P : Program) (g : Value) (args : Array Value) (I : Imm) (L : Own) (X : List PanicEntry → Imm → Own → Prop) (k : KV) : Prop :=
  match g with
  | .func (.func f) first cap => cal P f ((first ++ args) ++ cap) I L X k
  | _ => False
/-- A call of a method of an interface value. -/
def inv (P : Program) (x : Value) (name : String) (args : Array Value) (I : Imm) (L : Own) (X : List PanicEntry → Imm → Own → Prop) (k : KV) : Prop := nexT P (callMethod x name args) I L X k
def pan (x : Value) (I : Imm) (L : Own) (X : List PanicEntry → Imm → Own → Prop) : Prop :=
  match x with
  | .iface t v => X [{ v := .iface t v, recovered := false }] I L
  | _ => False

def opT (P : Program) (o : Oper) (a : Act) (I : Imm) (L : Own) (X : List PanicEntry → Imm → Own → Prop) (k : KV) : Prop :=
  match o.op with
  | .move x => k (a.eval x) I L
  | .assign x => k (a.eval x) I L
  | .pick c x y => pck (a.eval c) (a.eval x) (a.eval y) I L k
  | .alloc e => al P e I L k
  | .box e x => bx P e (a.eval x) I L k
  | .build t ps => bld P t (ps.map fun (i, x) => (i, a.eval x)) I L k
  | .buildSlice t n ps => bsl P t n (ps.map fun (i, x) => (i, a.eval x)) I L k
  | .load t x => ld P t (a.eval x) I L k
  | .store t x y => sto P t (a.eval x) (a.eval y) I L k
  | .nilCheck x => nck P (a.eval x) I L k
  | .binOp .eql t x y _ => eqn P .eql t (cst x) (cst y) (a.eval x) (a.eval y) I L k
  | .binOp .neq t x y _ => eqn P .neq t (cst x) (cst y) (a.eval x) (a.eval y) I L k
  | .binOp op t x y _ => bin P op t (a.eval x) (a.eval y) I L k
  | .unOp op _ x => un P op (a.eval x) I L k
  | .convert s d x => cvt P s d (a.eval x) I L k
  | .makeInterface t x => mki P t (a.eval x) I L k
  | .makeFunc fn f c => k (.func fn (f.map a.eval) (c.map a.eval)) I L
  | .makeMap t r => mkm P t (r.map a.eval) I L k
  | .makeSlice t n c => mks P t (a.eval n) (a.eval c) I L k
  | .slice t x lo hi mx => slc P t (a.eval x) (lo.map a.eval) (hi.map a.eval) (mx.map a.eval) I L k
  | .fieldAddr t x n => fad P t (a.eval x) n I L k
  | .field t x n => fld P t (a.eval x) n I L k
  | .indexAddr t x i => iad P t (a.eval x) (a.eval i) I L k
  | .index t x i => idx P t (a.eval x) (a.eval i) I L k
  | .lookup t m i ok => lkp P t (a.eval m) (a.eval i) ok I L k
  | .mapUpdate t m i v => mup P t (a.eval m) (a.eval i) (a.eval v) I L k
  | .insert t m i v => mup P t (a.eval m) (a.eval i) (a.eval v) I L k
  | .mapEntry t m i => mpe P t (a.eval m) (a.eval i) I L k
  | .entryStore t m i v => est P t (a.eval m) (a.eval i) (a.eval v) I L k
  | .range t x => rng P t (a.eval x) I L k
  | .next it s => nxt P (a.eval it) s o.type I L k
  | .entry it => ent P (a.eval it) I L k
  | .typeAssert x s d ok => tas P (a.eval x) s d ok I L k
  | .extract x n => ext P (a.eval x) n I L k
  | .panic x => pan (a.eval x) I L X
  | .call { callee := .builtin .panic, args := _, argTypes := _ } => False
  | .call { callee := .builtin b, args := as, argTypes := ts } => blt P b ts o.type (as.map a.eval) I L k
  | .call { callee := .value (.func f), args := as, argTypes := _ } => cal P f (as.map a.eval) I L X k
  | .call { callee := .value g, args := as, argTypes := _ } => clv P (a.eval g) (as.map a.eval) I L X k
  | .call { callee := .invoke r n, args := as, argTypes := _ } => inv P (a.eval r) n (as.map a.eval) I L X k
  | _ => False

/-- A deferred call is laid by; all else is an operation. -/
def opA (P : Program) (o : Oper) (a : Act) (I : Imm) (L : Own) (X : XT) (next : Act → Imm → Own → Prop) : Prop :=
  match o.op with
  | .defer { callee := .value g, args := as, argTypes := _ } =>
    (match a.eval g with
     | .func fn first cap => next (Act.put { a with defers := { target := .fn fn cap, args := first ++ as.map a.eval } :: a.defers } o.dst undef) I L
     | _ => False)
  | _ => opT P o a I L (fun ch => X ch a.defers) fun v I L => next (a.put o.dst v) I L

def yb (v : Option Value) (want : Bool) : Bool := (match v with | some (.bool b) => some b | _ => none) == some want
/-- An operation that is done where an earlier one said so. -/
def gd (g : Bool) (run : KV → Prop) (k : KV) (I : Imm) (L : Own) : Prop := if g then run k else k undef I L

def shOps (P : Program) (ops : Array Oper) (X : XT) (next : Act → Imm → Own → Prop) : List Nat → Act → Imm → Own → Prop
  | [], a, I, L => next a I L
  | i :: rest, a, I, L =>
    match ops[i]? with
    | none => shOps P ops X next rest a I L
    | some o =>
      match o.guard with
      | none => opA P o a I L X (shOps P ops X next rest)
      | some (j, want) => gd (yb (((ops[j]?).bind (·.dst)).bind (a.tmps[·]?)) want) (opT P o a I L fun ch => X ch a.defers) (fun v I L => shOps P ops X next rest (a.put o.dst v) I L) I L

/-- What holds where code ends. -/
def lift (I : Imm) (F : Own) (Q : Exit → Act → Imm → Own → Prop) (X : XT) : Exit → Act → World → Prop
  | .panic ch, a, W => ∃ I' L', I.Le I' ∧ St W I' (L' ++ F) ∧ X ch a.defers I' L'
  | .outgrown, _, _ => False
  | e, a, W => ∃ I' L', I.Le I' ∧ St W I' (L' ++ F) ∧ Q e a I' L'

/-- Code, as it is. -/
def cdT (P : Program) (c : Code) (Q : Exit → Act → Imm → Own → Prop) (X : XT) (a : Act) (I : Imm) (L : Own) : Prop :=
  ∀ F W, St W I (L ++ F) → c.wp P (lift I F Q X) a W

def seqT (next : Act → Imm → Own → Prop) (Q : Exit → Act → Imm → Own → Prop) : Exit → Act → Imm → Own → Prop
  | .normal, a, I, L => next a I L
  | e, a, I, L => Q e a I L
def blkT (id : Nat) (Q : Exit → Act → Imm → Own → Prop) : Exit → Act → Imm → Own → Prop
  | .exit k, a, I, L => if k = id then Q .normal a I L else Q (.exit k) a I L
  | e, a, I, L => Q e a I L
def cnd (v : Value) (A B : Prop) : Prop :=
  match v with
  | .bool true => A
  | .bool false => B
  | _ => False

/-! ### The shallow form suffices -/
section sound
variable {P : Program}
theorem lift_mono {I J : Imm} {F : Own} {Q Q' : Exit → Act → Imm → Own → Prop} {X : XT} (h : I.Le J) (hq : ∀ e a I' L', Q e a I' L' → Q' e a I' L') :
    ∀ e a W, lift J F Q X e a W → lift I F Q' X e a W := by
  intro e a W
  cases e <;> simp only [lift]
  case outgrown => exact id
  case panic => exact fun ⟨I', L', h1, h2, h3⟩ => ⟨I', L', h.trans h1, h2, h3⟩
  all_goals exact fun ⟨I', L', h1, h2, h3⟩ => ⟨I', L', h.trans h1, h2, hq _ _ _ _ h3⟩

theorem eqGuard_opd (op : BinOp) (t : TypeId) (x y : Operand) (a b : Value) : eqGuard op t x y a b = eqGuard op t (opd (cst x)) (opd (cst y)) a b := by
  cases x <;> cases y <;> rfl

/-- What is asked once an operation has yielded something. -/
theorem upon_of_wpS {o : Oper} {a : Act} {I : Imm} {L F : Own} {W : World} {s : Sem Value} {next : Act → World → Prop} {Q : Exit → Act → World → Prop} {k : KV}
    (hk : ∀ v I' L' W', I.Le I' → St W' I' (L' ++ F) → k v I' L' → next (a.put o.dst v) W') (hs : St W I (L ++ F)) (h : wpS P s I L k) (he : execOp a.eval o = s >>= fun v => pure (.value v)) : o.wp P a W next Q := by
  unfold Oper.wp
  rw [he, Sem.run_bind]
  have := h F W hs
  revert this
  cases s.run P W with
  | ok v W' => exact fun ⟨I', L', h1, h2, h3⟩ => hk _ _ _ _ h1 h2 h3
  | halt x W' => exact False.elim
theorem upon_of_wpU {o : Oper} {a : Act} {I : Imm} {L F : Own} {W : World} {s : Sem Unit} {next : Act → World → Prop} {Q : Exit → Act → World → Prop} {k : KV}
    (hk : ∀ v I' L' W', I.Le I' → St W' I' (L' ++ F) → k v I' L' → next (a.put o.dst v) W') (hs : St W I (L ++ F)) (h : wpS P s I L fun _ => k undef) (he : execOp a.eval o = s >>= fun _ => pure .skip) : o.wp P a W next Q := by
  unfold Oper.wp
  rw [he, Sem.run_bind]
  have := h F W hs
  revert this
  cases s.run P W with
  | ok v W' => exact fun ⟨I', L', h1, h2, h3⟩ => hk _ _ _ _ h1 h2 h3
  | halt x W' => exact False.elim
theorem upon_of_nexT {o : Oper} {a : Act} {I : Imm} {L F : Own} {W : World} {s : Sem Next} {next : Act → World → Prop} {Q : Exit → Act → World → Prop} {X : List PanicEntry → Imm → Own → Prop} {k : KV}
    (hk : ∀ v I' L' W', I.Le I' → St W' I' (L' ++ F) → k v I' L' → next (a.put o.dst v) W') (hx : ∀ ch I' L' W', I.Le I' → St W' I' (L' ++ F) → X ch I' L' → Q (.panic ch) a W')
    (hs : St W I (L ++ F)) (h : nexT P s I L X k) (he : execOp a.eval o = s) : o.wp P a W next Q := by
  unfold Oper.wp
  rw [he]
  have := h F W hs
  revert this
  cases s.run P W with
  | halt x W' => exact False.elim
  | ok v W' =>
    cases v
    case value v => exact fun ⟨I', L', h1, h2, h3⟩ => hk _ _ _ _ h1 h2 h3
    case enter f args =>
      intro hc
      refine hc.mono fun e W'' ⟨I', L', h1, h2, h3⟩ => ?_
      cases e with
      | returned v => exact hk _ _ _ _ h1 h2 h3
      | panicked ch => exact hx _ _ _ _ h1 h2 h3
      | outgrown => exact h3.elim
    all_goals exact False.elim

theorem opT_sound {o : Oper} {a : Act} {I : Imm} {L F : Own} {W : World} {next : Act → World → Prop} {Q : Exit → Act → World → Prop} {X : List PanicEntry → Imm → Own → Prop} {k : KV}
    (hk : ∀ v I' L' W', I.Le I' → St W' I' (L' ++ F) → k v I' L' → next (a.put o.dst v) W') (hx : ∀ ch I' L' W', I.Le I' → St W' I' (L' ++ F) → X ch I' L' → Q (.panic ch) a W')
    (hs : St W I (L ++ F)) (h : opT P o a I L X k) : o.wp P a W next Q := by
  have hnow : ∀ v, k v I L → next (a.put o.dst v) W := fun v hv => hk v I L W (.refl I) hs hv
  unfold opT at h
  split at h
  case h_1 x ho => unfold Oper.wp; simp only [execOp, ho]; exact hnow _ h
  case h_2 x ho => unfold Oper.wp; simp only [execOp, ho]; exact hnow _ h
  case h_3 c x y ho =>
    unfold Oper.wp
    simp only [execOp, ho, pck] at h ⊢
    split at h
    · rename_i hc; rw [hc]; exact hnow _ h
    · rename_i hc; rw [hc]; exact hnow _ h
    · exact h.elim
  case h_4 ho => exact upon_of_wpS hk hs h (by simp only [execOp, ho])
  case h_5 ho => exact upon_of_wpS hk hs h (by simp only [execOp, ho])
  case h_6 ho => exact upon_of_wpS hk hs h (by simp only [execOp, ho])
  case h_7 ho => exact upon_of_wpS hk hs h (by simp only [execOp, ho])
  case h_8 ho => exact upon_of_wpS hk hs h (by simp only [execOp, ho])
  case h_9 ho => exact upon_of_wpU hk hs h (by simp only [execOp, ho])
  case h_10 x ho =>
    unfold Oper.wp
    simp only [execOp, ho]
    have h' := h F W hs
    unfold nilS at h'
    revert h'
    generalize a.eval x = v
    cases v
    case pointer p =>
      cases p with
      | none => exact False.elim
      | some p => exact fun ⟨I', L', h1, h2, h3⟩ => hk _ _ _ _ h1 h2 h3
    case iface t v => exact fun ⟨I', L', h1, h2, h3⟩ => hk _ _ _ _ h1 h2 h3
    case func fn f c =>
      cases fn
      case func g => exact fun ⟨I', L', h1, h2, h3⟩ => hk _ _ _ _ h1 h2 h3
      all_goals exact False.elim
    all_goals exact False.elim
  case h_11 x y yt ho => exact upon_of_wpS hk hs h (by simp only [execOp, ho]; rw [eqGuard_opd])
  case h_12 x y yt ho => exact upon_of_wpS hk hs h (by simp only [execOp, ho]; rw [eqGuard_opd])
  case h_13 op t x y yt hne hne' ho =>
    have hg : eqGuard op t x y (a.eval x) (a.eval y) = pure () := by
      unfold eqGuard
      cases op <;> first | rfl | exact absurd rfl (by assumption) | (exfalso; simp_all)
    exact upon_of_wpS hk hs h (by simp only [execOp, ho, hg]; rfl)
  case h_14 ho => exact upon_of_wpS hk hs h (by simp only [execOp, ho])
  case h_15 ho => exact upon_of_wpS hk hs h (by simp only [execOp, ho])
  case h_16 ho => exact upon_of_wpS hk hs h (by simp only [execOp, ho])
  case h_17 fn f c ho =>
    unfold Oper.wp
    simp only [execOp, ho]
    exact hnow _ h
  case h_18 ho => exact upon_of_wpS hk hs h (by simp only [execOp, ho])
  case h_19 ho => exact upon_of_wpS hk hs h (by simp only [execOp, ho])
  case h_20 ho => exact upon_of_wpS hk hs h (by simp only [execOp, ho])
  case h_21 ho => exact upon_of_wpS hk hs h (by simp only [execOp, ho])
  case h_22 ho => exact upon_of_wpS hk hs h (by simp only [execOp, ho])
  case h_23 ho => exact upon_of_wpS hk hs h (by simp only [execOp, ho])
  case h_24 ho => exact upon_of_wpS hk hs h (by simp only [execOp, ho])
  case h_25 ho => exact upon_of_wpS hk hs h (by simp only [execOp, ho])
  case h_26 ho => exact upon_of_wpU hk hs h (by simp only [execOp, ho])
  case h_27 ho => exact upon_of_wpU hk hs h (by simp only [execOp, ho])
  case h_28 ho => exact upon_of_wpS hk hs h (by simp only [execOp, ho])
  case h_29 ho => exact upon_of_wpU hk hs h (by simp only [execOp, ho])
  case h_30 ho => exact upon_of_wpS hk hs h (by simp only [execOp, ho])
  case h_31 ho => exact upon_of_wpS hk hs h (by simp only [execOp, ho])
  case h_32 ho => exact upon_of_wpS hk hs h (by simp only [execOp, ho])
  case h_33 ho => exact upon_of_wpS hk hs h (by simp only [execOp, ho])
  case h_34 ho => exact upon_of_wpS hk hs h (by simp only [execOp, ho])
  case h_35 x ho =>
    unfold Oper.wp
    simp only [execOp, ho]
    unfold pan at h
    split at h
    · rename_i t v hv
      rw [hv]
      exact hx _ _ _ _ (.refl I) hs h
    · exact h.elim
  case h_36 => exact h.elim
  case h_37 b as ts hb ho =>
    unfold blt at h
    split at h <;> first
      | exact h.elim
      | exact upon_of_wpS hk hs h (by simp only [execOp, ho, resolve, invoke, builtin]; rfl)
  case h_38 f as ts ho =>
    exact upon_of_nexT hk hx hs h (by simp [execOp, ho, resolve, invoke, Deferred.ofValue, Act.eval])
  case h_39 g as ts hne ho =>
    unfold clv at h
    split at h
    · rename_i f first cap hv
      exact upon_of_nexT hk hx hs h (by simp only [execOp, ho, resolve, hv, Deferred.ofValue]; rfl)
    · exact h.elim
  case h_40 r n as ts ho =>
    refine upon_of_nexT hk hx hs h ?_
    simp only [execOp, ho, resolve]
    change invoke (Target.fn (Fn.method n) #[]) (#[a.eval r] ++ Array.map a.eval as) = _
    have h0 : (#[a.eval r] ++ Array.map a.eval as)[0]? = some (a.eval r) := by simp [Array.getElem?_append]
    have h1 : (#[a.eval r] ++ Array.map a.eval as).extract 1 (#[a.eval r] ++ Array.map a.eval as).size = Array.map a.eval as := by
      apply Array.ext'
      simp
      exact List.take_of_length_le (by simp)
    unfold invoke
    simp only [h0, h1]
  case h_41 => exact h.elim

theorem opA_sound {o : Oper} {a : Act} {I : Imm} {L F : Own} {W : World} {next' : Act → World → Prop} {Q : Exit → Act → World → Prop} {X : XT} {next : Act → Imm → Own → Prop}
    (hk : ∀ a' I' L' W', I.Le I' → St W' I' (L' ++ F) → next a' I' L' → next' a' W') (hx : ∀ ch I' L' W', I.Le I' → St W' I' (L' ++ F) → X ch a.defers I' L' → Q (.panic ch) a W')
    (hs : St W I (L ++ F)) (h : opA P o a I L X next) : o.wp P a W next' Q := by
  unfold opA at h
  split at h
  case h_1 g as ts ho =>
    split at h
    · rename_i fn first cap hv
      unfold Oper.wp
      simp only [execOp, ho, resolve, hv, Deferred.ofValue]
      exact hk _ _ _ _ (.refl I) hs h
    · exact h.elim
  case h_2 => exact opT_sound (fun v I' L' W' h1 h2 h3 => hk _ _ _ _ h1 h2 h3) hx hs h

theorem wanted_none {o : Oper} {y : Nat → Option Bool} (h : o.guard = none) : Region.wanted o y = true := by simp [Region.wanted, h]

theorem shOps_sound {ops : Array Oper} {I0 : Imm} {F : Own} {X : XT} {Q : Exit → Act → Imm → Own → Prop} : ∀ (l : List Nat) (a : Act) (I : Imm) (L : Own) (W : World), I0.Le I → St W I (L ++ F) →
    shOps P ops X (Q .normal) l a I L → wpOps P ops (lift I0 F Q X) l a W := by
  intro l
  induction l with
  | nil => exact fun a I L W hle hs h => ⟨I, L, hle, hs, h⟩
  | cons i rest ih =>
    intro a I L W hle hs h
    simp only [shOps] at h
    simp only [wpOps]
    cases ho : ops[i]? with
    | none =>
      simp only [ho] at h
      exact ih _ _ _ _ hle hs h
    | some o =>
      simp only [ho] at h ⊢
      cases hg : o.guard with
      | none =>
        simp only [hg] at h
        simp only [wanted_none hg, if_true]
        refine .inl (opA_sound (fun a' I' L' W' h1 h2 h3 => ih _ _ _ _ (hle.trans h1) h2 h3) (fun ch I' L' W' h1 h2 h3 => ⟨I', L', hle.trans h1, h2, h3⟩) hs h)
      | some jw =>
        obtain ⟨j, want⟩ := jw
        simp only [hg] at h
        have hw : Region.wanted o (yielded ops a.tmps) = yb (((ops[j]?).bind (·.dst)).bind (a.tmps[·]?)) want := by
          simp only [Region.wanted, hg, yielded, yb]
          rfl
        unfold gd at h
        rw [hw]
        split at h
        · rename_i hy
          simp only [hy, if_true]
          exact .inl (opT_sound (fun v I' L' W' h1 h2 h3 => ih _ _ _ _ (hle.trans h1) h2 h3) (fun ch I' L' W' h1 h2 h3 => ⟨I', L', hle.trans h1, h2, h3⟩) hs h)
        · rename_i hy
          simp only [hy, if_false]
          exact ih _ _ _ _ hle hs h

/-- A loop: what holds at each round's head; a number that each round lowers. -/
theorem loop_rule {body : Code} {Q : Exit → Act → Imm → Own → Prop} {X : XT} (Inv : Nat → Act → Imm → Own → Prop) {n : Nat} {a : Act} {I : Imm} {L : Own} (h0 : Inv n a I L)
    (round : ∀ n a I' L', I.Le I' → Inv n a I' L' → cdT P body (seqT (fun a I L => ∃ m, m < n ∧ Inv m a I L) Q) X a I' L') : cdT P (.loop body) Q X a I L := by
  intro F W hs
  let J (n : Nat) (a : Act) (W : World) : Prop := ∃ I' L', I.Le I' ∧ St W I' (L' ++ F) ∧ Inv n a I' L'
  have least : ∀ (p : Nat → Prop), (∃ n, p n) → ∃ n, p n ∧ ∀ m, p m → n ≤ m := by
    intro p ⟨n, hn⟩
    induction n using Nat.strongRecOn with
    | _ n ih =>
      by_cases hh : ∃ m, m < n ∧ p m
      · obtain ⟨m, hm, hp⟩ := hh; exact ih m hm hp
      · refine ⟨n, hn, fun m hm => ?_⟩
        rcases Nat.lt_or_ge m n with h | h
        · exact absurd ⟨m, h, hm⟩ hh
        · exact h
  let μ (a : Act) (W : World) : Nat := open Classical in if h : ∃ n, J n a W then Classical.choose (least _ h) else 0
  have hμ : ∀ {n a W}, J n a W → J (μ a W) a W ∧ μ a W ≤ n := by
    intro n a W h
    have hex : ∃ n, J n a W := ⟨n, h⟩
    have e : μ a W = Classical.choose (least _ hex) := dif_pos hex
    have hc := Classical.choose_spec (least _ hex)
    rw [e]
    exact ⟨hc.1, hc.2 n h⟩
  refine wp_loop (fun a W => ∃ n, J n a W) μ ⟨n, I, L, .refl I, hs, h0⟩ ?_
  rintro a W ⟨n, hn⟩
  obtain ⟨⟨I', L', h1, h2, h3⟩, _⟩ := hμ hn
  refine wp_mono (round _ a I' L' h1 h3 F W h2) fun e a' W' he => ?_
  cases e <;> simp only [lift, seqT, Exit.then] at he ⊢
  case normal =>
    obtain ⟨I2, L2, g1, g2, m, hm, g3⟩ := he
    have hj : J m a' W' := ⟨I2, L2, h1.trans g1, g2, g3⟩
    exact ⟨⟨m, hj⟩, Nat.lt_of_le_of_lt (hμ hj).2 hm⟩
  all_goals exact (let ⟨I2, L2, g1, g2, g3⟩ := he; ⟨I2, L2, h1.trans g1, g2, g3⟩)

/-! ### A function -/
def one : List Value → Value
  | [v] => v
  | l => .tuple l.toArray
/-- A result that lies in memory. -/
def rcl (P : Program) (t : TypeId) (a : Value) (I : Imm) (L : Own) (k : Value → Prop) : Prop := ∃ v, Rd P (do loadVar t (← asAddr a)) I L v ∧ k v
def rtT (P : Program) (I : Imm) (L : Own) (tmps : Array Value) : List ResultVar → (List Value → Prop) → Prop
  | [], K => K []
  | .tmp t :: r, K => rtT P I L tmps r fun vs => K (tmps.getD t undef :: vs)
  | .cell a t :: r, K => rcl P t (tmps.getD a undef) I L fun v => rtT P I L tmps r fun vs => K (v :: vs)
/-- Where a function's text ends: what it hands back. -/
def endT (P : Program) (fn : Func) (R : Ending → Imm → Own → Prop) : Exit → Act → Imm → Own → Prop
  | .normal, a, I, L | .ret, a, I, L =>
    match a.defers with
    | [] => rtT P I L a.tmps fn.results.toList fun vs => R (.returned (one vs)) I L
    | _ :: _ => False
  | _, _, _, _ => False
def endX (R : Ending → Imm → Own → Prop) : XT := fun ch ds I L =>
  match ds with
  | [] => R (.panicked ch) I L
  | _ :: _ => False

theorem rtT_run {tmps : Array Value} {I : Imm} {L : Own} : ∀ {rs : List ResultVar} {K : List Value → Prop}, rtT P I L tmps rs K → ∃ vs, K vs ∧ ∀ F W, St W I (L ++ F) →
    (rs.mapM (m := Sem) fun | .tmp t => Pure.pure (tmps.getD t undef) | .cell a t => do loadVar t (← asAddr (tmps.getD a undef))).run P W = .ok vs W
  | [], K, h => ⟨[], h, fun _ _ _ => rfl⟩
  | .tmp t :: r, K, h => by
    obtain ⟨vs, hk, hr⟩ := rtT_run (rs := r) h
    refine ⟨_, hk, fun F W hs => ?_⟩
    rw [List.mapM_cons]
    simp only [Sem.run_bind]
    show (((Pure.pure (tmps.getD t undef) : Sem Value)).run P W).andThen _ = _
    simp only [Sem.run, Result.andThen, Pure.pure]
    erw [hr F W hs]
  | .cell a t :: r, K, h => by
    obtain ⟨v, hv, h⟩ := h
    obtain ⟨vs, hk, hr⟩ := rtT_run (rs := r) h
    refine ⟨_, hk, fun F W hs => ?_⟩
    rw [List.mapM_cons]
    simp only [Sem.run_bind]
    have h1 := hv F W hs
    simp only [Sem.run_bind] at h1
    erw [h1]
    simp only [Result.andThen]
    erw [hr F W hs]
    rfl

theorem results_run {fn : Func} {tmps : Array Value} {vs : List Value} {W : World} (h : (fn.results.toList.mapM (m := Sem) fun | .tmp t => Pure.pure (tmps.getD t undef) | .cell a t => do loadVar t (← asAddr (tmps.getD a undef))).run P W = .ok vs W) :
    (results fn tmps).run P W = .ok (one vs) W := by
  unfold results
  rw [Array.mapM_eq_mapM_toList]
  simp only [Sem.run_bind, map_eq_pure_bind]
  erw [h]
  match vs with
  | [] => rfl
  | [v] => rfl
  | _ :: _ :: _ => rfl

theorem wpC_of_cdT {f : FuncId} {fn : Func} {c : Code} {args : Array Value} {I : Imm} {L : Own} {R : Ending → Imm → Own → Prop} (hf : P.funcs[f]? = some fn) (hb : fn.body = some c)
    (h : cdT P c (endT P fn R) (endX R) { tmps := args ++ Array.replicate (fn.ntmps - args.size) undef, defers := [] } I L) : wpC P f args I L R := fun F W hs => by
  refine calls_of_wp hf hb (wp_mono (h F W hs) fun e a W' he => ?_)
  have key : (∃ I' L', I.Le I' ∧ St W' I' (L' ++ F) ∧ endT P fn R .ret a I' L') → a.defers = [] ∧ ∃ v, (results fn a.tmps).run P W' = .ok v W' ∧ ∃ I' L', I.Le I' ∧ St W' I' (L' ++ F) ∧ R (.returned v) I' L' := by
    rintro ⟨I', L', h1, h2, h3⟩
    simp only [endT] at h3
    split at h3
    · rename_i hd
      obtain ⟨vs, hk, hr⟩ := rtT_run h3
      exact ⟨hd, _, results_run (hr F W' h2), I', L', h1, h2, hk⟩
    · exact h3.elim
  cases e <;> simp only [lift, bodyPost] at he ⊢
  case normal => exact key he
  case ret => exact key he
  case panic ch =>
    obtain ⟨I', L', h1, h2, h3⟩ := he
    unfold endX at h3
    split at h3
    · rename_i hd; exact ⟨hd, I', L', h1, h2, h3⟩
    · exact h3.elim
  all_goals exact (let ⟨_, _, _, _, h⟩ := he; h)
end sound

/-! ### A region that draws its order, and whose operations only read -/
/-- It yields ONE value wherever the owned and the unchanged memory is this. -/
abbrev Cls := Imm → Own → Prop
def Eqs (I : Imm) (L : Own) : Cls := fun I' L' => I' = I ∧ L' = L
def qS (P : Program) (s : Sem Value) (C : Cls) (k : Value → Prop) : Prop := ∃ v, (∀ I L, C I L → Rd P s I L v) ∧ k v
def qbin (P : Program) (op : BinOp) (t : TypeId) (a b : Value) (C : Cls) (k : Value → Prop) : Prop := qS P (binOp op t a b) C k
def qeqn (P : Program) (op : BinOp) (t : TypeId) (c d : Bool) (a b : Value) (C : Cls) (k : Value → Prop) : Prop := qS P (do eqGuard op t (opd c) (opd d) a b; binOp op t a b) C k
def qun (P : Program) (op : UnOp) (a : Value) (C : Cls) (k : Value → Prop) : Prop := qS P (Op.unary op a) C k
def qbld (P : Program) (t : TypeId) (ps : Array (Nat × Value)) (C : Cls) (k : Value → Prop) : Prop := qS P (Instr.build t ps) C k
def qld (P : Program) (t : TypeId) (a : Value) (C : Cls) (k : Value → Prop) : Prop := qS P (Instr.loadAt t a) C k
def qcvt (P : Program) (s d : TypeId) (v : Value) (C : Cls) (k : Value → Prop) : Prop := qS P (convert s d v) C k
def qmki (P : Program) (t : TypeId) (v : Value) (C : Cls) (k : Value → Prop) : Prop := qS P (Instr.makeInterface t v) C k
def qslc (P : Program) (t : TypeId) (x : Value) (lo hi mx : Option Value) (C : Cls) (k : Value → Prop) : Prop := qS P (Instr.sliceAt t x lo hi mx) C k
def qfad (P : Program) (t : TypeId) (x : Value) (n : Nat) (C : Cls) (k : Value → Prop) : Prop := qS P (Instr.fieldAt t x n) C k
def qfld (P : Program) (t : TypeId) (x : Value) (n : Nat) (C : Cls) (k : Value → Prop) : Prop := qS P (Instr.field t x n) C k
def qiad (P : Program) (t : TypeId) (x i : Value) (C : Cls) (k : Value → Prop) : Prop := qS P (Instr.indexAt t x i) C k
def qidx (P : Program) (t : TypeId) (x i : Value) (C : Cls) (k : Value → Prop) : Prop := qS P (Instr.index t x i) C k
def qlkp (P : Program) (t : TypeId) (m i : Value) (ok : Bool) (C : Cls) (k : Value → Prop) : Prop := qS P (Instr.lookup t m i ok) C k
def qtas (P : Program) (x : Value) (s d : TypeId) (ok : Bool) (C : Cls) (k : Value → Prop) : Prop := qS P (Instr.typeAssert x s d ok) C k
def qext (P : Program) (x : Value) (n : Nat) (C : Cls) (k : Value → Prop) : Prop := qS P (Instr.extract x n) C k
def qnck (P : Program) (x : Value) (C : Cls) (k : Value → Prop) : Prop := qS P (nilS x) C k
def qpck (c x y : Value) (k : Value → Prop) : Prop :=
  match c with
  | .bool true => k x
  | .bool false => k y
  | _ => False
def qblt (P : Program) (b : Builtin) (ts : Array TypeId) (t : TypeId) (as : Array Value) (C : Cls) (k : Value → Prop) : Prop :=
  match b with
  | .len => qS P (Builtin.len_ ts t as) C k
  | .cap => qS P (Builtin.cap_ ts t as) C k
  | .max => qS P (Builtin.max_ ts t as) C k
  | .min => qS P (Builtin.min_ ts t as) C k
  | _ => False
/-- A call that hands back ONE value, and leaves what is owned and what is unchanged as it is. -/
def qcal (P : Program) (f : FuncId) (args : Array Value) (C : Cls) (k : Value → Prop) : Prop :=
  ∃ v, (∀ W, (callFunc f args).run P W = .ok (.enter f args) W) ∧ (∀ I L, C I L → ∀ F W, St W I (L ++ F) → Calls P f args W fun e W' => e = .returned v ∧ St W' I (L ++ F)) ∧ k v
def qclv (P : Program) (g : Value) (args : Array Value) (C : Cls) (k : Value → Prop) : Prop :=
  match g with
  | .func (.func f) first cap => qcal P f ((first ++ args) ++ cap) C k
  | _ => False

def opQ (P : Program) (o : Oper) (a : Act) (C : Cls) (k : Value → Prop) : Prop :=
  match o.op with
  | .move x => k (a.eval x)
  | .assign x => k (a.eval x)
  | .pick c x y => qpck (a.eval c) (a.eval x) (a.eval y) k
  | .build t ps => qbld P t (ps.map fun (i, x) => (i, a.eval x)) C k
  | .load t x => qld P t (a.eval x) C k
  | .nilCheck x => qnck P (a.eval x) C k
  | .binOp .eql t x y _ => qeqn P .eql t (cst x) (cst y) (a.eval x) (a.eval y) C k
  | .binOp .neq t x y _ => qeqn P .neq t (cst x) (cst y) (a.eval x) (a.eval y) C k
  | .binOp op t x y _ => qbin P op t (a.eval x) (a.eval y) C k
  | .unOp op _ x => qun P op (a.eval x) C k
  | .convert s d x => qcvt P s d (a.eval x) C k
  | .makeInterface t x => qmki P t (a.eval x) C k
  | .slice t x lo hi mx => qslc P t (a.eval x) (lo.map a.eval) (hi.map a.eval) (mx.map a.eval) C k
  | .fieldAddr t x n => qfad P t (a.eval x) n C k
  | .field t x n => qfld P t (a.eval x) n C k
  | .indexAddr t x i => qiad P t (a.eval x) (a.eval i) C k
  | .index t x i => qidx P t (a.eval x) (a.eval i) C k
  | .lookup t m i ok => qlkp P t (a.eval m) (a.eval i) ok C k
  | .typeAssert x s d ok => qtas P (a.eval x) s d ok C k
  | .extract x n => qext P (a.eval x) n C k
  | .call { callee := .builtin b, args := as, argTypes := ts } => qblt P b ts o.type (as.map a.eval) C k
  | .call { callee := .value (.func f), args := as, argTypes := _ } => qcal P f (as.map a.eval) C k
  | .call { callee := .value g, args := as, argTypes := _ } => qclv P (a.eval g) (as.map a.eval) C k
  | _ => False
def qgd (g : Bool) (run : (Value → Prop) → Prop) (k : Value → Prop) : Prop := if g then run k else k undef

section quiet
variable {P : Program} {C : Cls} {F : Own} {a : Act} {o : Oper}
/-- In every state of the class. -/
def quietIn (P : Program) (C : Cls) (F : Own) (o : Oper) (a : Act) (v : Value) : Prop := ∀ I L, C I L → ∀ w, St w I (L ++ F) → o.quietAt P a (fun w => St w I (L ++ F)) w v
theorem quiet_of_qS {s : Sem Value} {k : Value → Prop} (h : qS P s C k) (he : execOp a.eval o = s >>= fun v => Pure.pure (.value v)) : ∃ v, quietIn P C F o a v ∧ k v := by
  obtain ⟨v, hr, hv⟩ := h
  refine ⟨v, fun I L hc w hw => ?_, hv⟩
  unfold Oper.quietAt
  rw [he, Sem.run_bind, hr I L hc F w hw]
  exact ⟨rfl, rfl⟩
theorem quiet_of_now {v : Value} {k : Value → Prop} (hk : k v) (he : execOp a.eval o = Pure.pure (.value v)) : ∃ v, quietIn P C F o a v ∧ k v := by
  refine ⟨v, fun I L hc w hw => ?_, hk⟩
  unfold Oper.quietAt
  rw [he]
  exact ⟨rfl, rfl⟩
theorem quiet_of_qcal {f : FuncId} {args : Array Value} {k : Value → Prop} (h : qcal P f args C k) (he : execOp a.eval o = callFunc f args) : ∃ v, quietIn P C F o a v ∧ k v := by
  obtain ⟨v, hr, hc, hv⟩ := h
  refine ⟨v, fun I L h w hw => ?_, hv⟩
  unfold Oper.quietAt
  rw [he, hr w]
  exact ⟨rfl, hc I L h F w hw⟩
theorem opQ_sound {k : Value → Prop} (h : opQ P o a C k) : ∃ v, quietIn P C F o a v ∧ k v := by
  unfold opQ at h
  split at h
  case h_1 ho => exact quiet_of_now h (by simp only [execOp, ho])
  case h_2 ho => exact quiet_of_now h (by simp only [execOp, ho])
  case h_3 c x y ho =>
    unfold qpck at h
    split at h
    · rename_i hc; exact quiet_of_now h (by simp only [execOp, ho, hc]; rfl)
    · rename_i hc; exact quiet_of_now h (by simp only [execOp, ho, hc]; rfl)
    · exact h.elim
  case h_4 ho => exact quiet_of_qS h (by simp only [execOp, ho])
  case h_5 ho => exact quiet_of_qS h (by simp only [execOp, ho])
  case h_6 x ho =>
    obtain ⟨v, hr, hv⟩ := h
    unfold nilS at hr
    refine ⟨v, fun I L hc w hw => ?_, hv⟩
    have h' := hr I L hc F w hw
    unfold Oper.quietAt
    simp only [execOp, ho]
    revert h'
    generalize a.eval x = u
    cases u
    case pointer p =>
      cases p with
      | none => exact fun h => by cases h
      | some p => exact fun h => by cases h; exact ⟨rfl, rfl⟩
    case iface t v => exact fun h => by cases h; exact ⟨rfl, rfl⟩
    case func fn f c =>
      cases fn
      case func g => exact fun h => by cases h; exact ⟨rfl, rfl⟩
      all_goals exact fun h => by cases h
    all_goals exact fun h => by cases h
  case h_7 x y yt ho => exact quiet_of_qS h (by simp only [execOp, ho]; rw [eqGuard_opd])
  case h_8 x y yt ho => exact quiet_of_qS h (by simp only [execOp, ho]; rw [eqGuard_opd])
  case h_9 op t x y yt hne hne' ho =>
    have hg : eqGuard op t x y (a.eval x) (a.eval y) = pure () := by
      unfold eqGuard
      cases op <;> first | rfl | exact absurd rfl (by assumption) | (exfalso; simp_all)
    exact quiet_of_qS h (by simp only [execOp, ho, hg]; rfl)
  case h_10 ho => exact quiet_of_qS h (by simp only [execOp, ho])
  case h_11 ho => exact quiet_of_qS h (by simp only [execOp, ho])
  case h_12 ho => exact quiet_of_qS h (by simp only [execOp, ho])
  case h_13 ho => exact quiet_of_qS h (by simp only [execOp, ho])
  case h_14 ho => exact quiet_of_qS h (by simp only [execOp, ho])
  case h_15 ho => exact quiet_of_qS h (by simp only [execOp, ho])
  case h_16 ho => exact quiet_of_qS h (by simp only [execOp, ho])
  case h_17 ho => exact quiet_of_qS h (by simp only [execOp, ho])
  case h_18 ho => exact quiet_of_qS h (by simp only [execOp, ho])
  case h_19 ho => exact quiet_of_qS h (by simp only [execOp, ho])
  case h_20 ho => exact quiet_of_qS h (by simp only [execOp, ho])
  case h_21 b as ts ho =>
    unfold qblt at h
    split at h <;> first
      | exact h.elim
      | exact quiet_of_qS h (by simp only [execOp, ho, resolve, invoke, builtin]; rfl)
  case h_22 f as ts ho => exact quiet_of_qcal h (by simp [execOp, ho, resolve, invoke, Deferred.ofValue, Act.eval])
  case h_23 g as ts hne ho =>
    unfold qclv at h
    split at h
    · rename_i f first cap hv
      exact quiet_of_qcal h (by simp only [execOp, ho, resolve, hv, Deferred.ofValue]; rfl)
    · exact h.elim
  case h_24 => exact h.elim
end quiet

/-! ### Whatever order is drawn: by a plan -/
inductive Plan where
  | done
  /-- this one may be taken first: it only reads -/
  | take (i : Nat) (p : Plan)
  /-- whichever comes -/
  | all (f : Nat → Plan)
/-- 'lo': those behind which the class need not hold any more. -/
def waitsB (ops : Array Oper) (listed : Array Bool) (lo : List Nat) (i : Nat) : Bool :=
  lo.all fun j => j != i && (listed.getD j true || match ops[j]? with
    | some oj => oj.after.any fun e => Region.binds .any e && e.on == i
    | none => true)
def Plan.reads : Plan → Bool
  | .take _ _ => true
  | _ => false
def planB (ops : Array Oper) (lo : List Nat) : Plan → Array Bool → Nat → Bool
  | .done, listed, _ => (Region.ready .any ops listed).isEmpty
  | .take i p, listed, n =>
    match n with
    | 0 => false
    | n + 1 => (Region.ready .any ops listed).contains i && Region.free .any ops listed i && waitsB ops listed lo i && planB ops lo p (listed.setIfInBounds i true) n
  | .all f, listed, n =>
    match n with
    | 0 => false
    | n + 1 => !(Region.ready .any ops listed).isEmpty && (Region.ready .any ops listed).all fun i => (!lo.contains i || !(f i).reads) && planB ops lo (f i) (listed.setIfInBounds i true) n
def allQ : List Nat → (Nat → Prop) → Prop
  | [], _ => True
  | [i], p => p i
  | i :: r, p => p i ∧ allQ r p
theorem allQ_mem : ∀ {l : List Nat} {p : Nat → Prop}, allQ l p → ∀ {i : Nat}, i ∈ l → p i
  | [j], _, h, i, hi => by simp at hi; subst hi; exact h
  | j :: k :: r, _, h, i, hi => by
    rcases List.mem_cons.1 hi with rfl | hi
    · exact h.1
    · exact allQ_mem h.2 hi
def andS (s : Bool) (p q : Prop) : Prop :=
  match s with
  | true => q
  | false => p ∧ q
def plT (P : Program) (ops : Array Oper) (lo : List Nat) (C : Cls) (X : XT) (next : Act → Imm → Own → Prop) : Plan → Array Bool → Act → Imm → Own → Prop
  | .done, _, a, I, L => next a I L
  | .take i p, listed, a, I, L =>
    match ops[i]? with
    | none => False
    | some o =>
      match o.guard with
      | none => opQ P o a C fun v => plT P ops lo C X next p (listed.setIfInBounds i true) (a.put o.dst v) I L
      | some (j, want) => qgd (yb (((ops[j]?).bind (·.dst)).bind (a.tmps[·]?)) want) (opQ P o a C) fun v => plT P ops lo C X next p (listed.setIfInBounds i true) (a.put o.dst v) I L
  | .all f, listed, a, I, L => allQ (Region.ready .any ops listed) fun i =>
    match ops[i]? with
    | none => False
    | some o =>
      match o.guard with
      | none => opA P o a I L X fun a' I' L' => andS (lo.contains i) (C I' L') (plT P ops lo C X next (f i) (listed.setIfInBounds i true) a' I' L')
      | some (j, want) => gd (yb (((ops[j]?).bind (·.dst)).bind (a.tmps[·]?)) want) (opT P o a I L fun ch => X ch a.defers) (fun v I' L' => andS (lo.contains i) (C I' L') (plT P ops lo C X next (f i) (listed.setIfInBounds i true) (a.put o.dst v) I' L')) I L

section plan
variable {P : Program} {ops : Array Oper} {lo : List Nat} {C : Cls} {F : Own} {I0 : Imm} {Q : Exit → Act → Imm → Own → Prop} {X : XT}
def YS (P : Program) (ops : Array Oper) (C : Cls) (F : Own) (o : Oper) (v : Value) (a : Act) : Prop :=
  (Region.wanted o (yielded ops a.tmps) = true ∧ quietIn P C F o a v) ∨ (Region.wanted o (yielded ops a.tmps) = false ∧ v = undef)
theorem YS.of_same {o : Oper} {v : Value} {a a' : Act} (hy : YS P ops C F o v a) (he : execOp a'.eval o = execOp a.eval o) (hw : Region.wanted o (yielded ops a'.tmps) = Region.wanted o (yielded ops a.tmps)) : YS P ops C F o v a' := by
  unfold YS quietIn Oper.quietAt at *
  rw [he, hw]
  exact hy
/-- In this state operation number i is carried out. -/
def opW (P : Program) (ops : Array Oper) (I0 : Imm) (F : Own) (Q : Exit → Act → Imm → Own → Prop) (X : XT) (i : Nat) (K : Act → Imm → Own → Prop) (a : Act) (I : Imm) (L : Own) : Prop :=
  ∀ W, St W I (L ++ F) → wpOp P ops (lift I0 F Q X) i (fun a' W' => ∃ I' L', I.Le I' ∧ St W' I' (L' ++ F) ∧ K a' I' L') a W
theorem opW_mono {i : Nat} {K K' : Act → Imm → Own → Prop} {a : Act} {I : Imm} {L : Own} (hk : ∀ a I' L', I.Le I' → K a I' L' → K' a I' L') (h : opW P ops I0 F Q X i K a I L) : opW P ops I0 F Q X i K' a I L :=
  fun W hs => wpOp_mono (fun a' W' ⟨I', L', h1, h2, h3⟩ => ⟨I', L', h1, h2, hk _ _ _ h1 h3⟩) (h W hs)
def anyT (P : Program) (ops : Array Oper) (lo : List Nat) (C : Cls) (I0 : Imm) (F : Own) (Q : Exit → Act → Imm → Own → Prop) (X : XT) : Nat → Array Bool → Act → Imm → Own → Prop
  | 0, listed, a, I, L => Region.ready .any ops listed = [] ∧ I0.Le I ∧ Q .normal a I L
  | n + 1, listed, a, I, L => (Region.ready .any ops listed = [] → I0.Le I ∧ Q .normal a I L) ∧
    ∀ i ∈ Region.ready .any ops listed, opW P ops I0 F Q X i (fun a' I' L' => (lo.contains i = false → C I' L') ∧ anyT P ops lo C I0 F Q X n (listed.setIfInBounds i true) a' I' L') a I L
theorem wpAny_of_anyT : ∀ (n : Nat) (listed : Array Bool) (a : Act) (I : Imm) (L : Own) (W : World), St W I (L ++ F) → anyT P ops lo C I0 F Q X n listed a I L → wpAny P .any ops (lift I0 F Q X) n listed a W
  | 0, _, _, I, L, _, hs, h => ⟨h.1, I, L, h.2.1, hs, h.2.2⟩
  | n + 1, _, _, I, L, W, hs, h => ⟨fun h0 => ⟨I, L, (h.1 h0).1, hs, (h.1 h0).2⟩, fun i hi => wpOp_mono (fun a' W' ⟨I', L', h1, h2, h3⟩ => wpAny_of_anyT n _ a' I' L' W' h2 h3.2) (h.2 i hi W hs)⟩

theorem YS.opW {i : Nat} {o : Oper} {v : Value} {a : Act} {I : Imm} {L : Own} {K : Act → Imm → Own → Prop} (hi : ops[i]? = some o) (hy : YS P ops C F o v a) (hC : C I L) (h : K (a.put o.dst v) I L) : opW P ops I0 F Q X i K a I L := by
  intro W hs
  unfold wpOp
  simp only [hi]
  rcases hy with ⟨hw, hv⟩ | ⟨hw, rfl⟩
  · simp only [hw, if_true]
    refine .inl (Oper.wp_of_quiet (C := fun w => St w I (L ++ F)) (K := fun a' => K a' I L) hs (fun a' w' hw' hk => ⟨I, L, .refl I, hw', hk⟩) ⟨v, fun w hw' => hv I L hC w hw', h⟩)
  · simp only [hw, Bool.false_eq_true, if_false]
    exact ⟨I, L, .refl I, hs, h⟩

theorem lift_panic_put {c : List PanicEntry} {a : Act} {d : Option Tmp} {v : Value} {W : World} (h : lift I0 F Q X (.panic c) (a.put d v) W) : lift I0 F Q X (.panic c) a W := by
  have e : (a.put d v).defers = a.defers := by unfold Act.put; split <;> rfl
  simp only [lift, e] at h ⊢
  exact h
theorem wpOp_putS {j : Nat} {oi oj : Oper} {v : Value} (hj : ops[j]? = some oj) (hap : oi.apart ops oj = true) (hsi : ∀ cs b, oi.op ≠ .select cs b) (hsj : ∀ cs b, oj.op ≠ .select cs b)
    {K : Act → World → Prop} {a : Act} {w : World} (hy : YS P ops C F oi v a) (h : wpOp P ops (lift I0 F Q X) j K (a.put oi.dst v) w) :
    wpOp P ops (lift I0 F Q X) j (fun a' w' => YS P ops C F oi v a' ∧ K (a'.put oi.dst v) w') a w := by
  obtain ⟨h1, h2, h3⟩ := Oper.apart_spec hap
  have keep : ∀ (a : Act), YS P ops C F oi v a → ∀ u, YS P ops C F oi v (a.put oj.dst u) := fun a hy u => hy.of_same (execOp_put oi hsi a oj.dst u h3) (wanted_put oi a oj.dst u h3)
  have keepD : ∀ d, YS P ops C F oi v { a with defers := d :: a.defers } := fun d => hy.of_same rfl rfl
  unfold wpOp at *
  simp only [hj] at *
  rw [wanted_put oj a oi.dst v h1] at h
  split
  · rename_i hw
    simp only [hw, if_true] at h
    rcases h with h | ⟨hasks, hlets⟩
    case inr => exact .inr ⟨by unfold Oper.asks at *; rw [execOp_put oj hsj a oi.dst v h1] at hasks; exact hasks, hlets⟩
    refine .inl ?_
    unfold Oper.wp at *
    rw [execOp_put oj hsj a oi.dst v h1] at h
    generalize (execOp a.eval oj).run P w = r at *
    cases r with
    | ok n w' =>
      cases n <;> simp only [Oper.upon] at h ⊢
      case value u => exact ⟨keep a hy u, by rw [← Act.put_comm a v u h2]; exact h⟩
      case skip => exact ⟨keep a hy _, by rw [← Act.put_comm a v undef h2]; exact h⟩
      case defer d =>
        refine ⟨keep _ (keepD d) _, ?_⟩
        rw [← Act.put_comm _ v undef h2, ← Act.put_defers]
        exact h
      case enter f args =>
        refine Calls.mono h fun e w'' he => ?_
        cases e with
        | returned u => exact ⟨keep a hy u, by rw [← Act.put_comm a v u h2]; exact he⟩
        | panicked c => exact lift_panic_put he
        | outgrown => exact he
      case row row args => exact Rows.mono h fun u w'' he => ⟨keep a hy u, by rw [← Act.put_comm a v u h2]; exact he⟩
    | halt x w' =>
      cases x <;> simp only [Oper.upon] at h ⊢
      case panic u => exact lift_panic_put h
  · rename_i hw
    simp only [hw] at h
    exact ⟨keep a hy _, by rw [← Act.put_comm a v undef h2]; exact h⟩

theorem anyT_first {i : Nat} {oi : Oper} {v : Value} (hi : ops[i]? = some oi) (hsel : ∀ (j : Nat) (o : Oper) cs b, ops[j]? = some o → o.op ≠ .select cs b) :
    ∀ (n : Nat) (listed : Array Bool) (a : Act) (I : Imm) (L : Own),
      (∀ j oj, ops[j]? = some oj → j ≠ i → listed.getD j true = false → (∀ e ∈ oj.after, Region.binds .any e = true → e.on ≠ i) → oi.apart ops oj = true) →
      (∀ j oj, ops[j]? = some oj → j ≠ i → listed.getD j true = false → lo.contains j = true → ∃ e ∈ oj.after, Region.binds .any e = true ∧ e.on = i) →
      i ∈ Region.ready .any ops listed → YS P ops C F oi v a → C I L →
      anyT P ops lo C I0 F Q X n (listed.setIfInBounds i true) (a.put oi.dst v) I L → anyT P ops lo C I0 F Q X (n + 1) listed a I L := by
  intro n
  induction n with
  | zero =>
    intro listed a I L _ _ hr hy hC H
    refine ⟨fun h => (by rw [h] at hr; cases hr), fun j hj => ?_⟩
    by_cases hji : j = i
    · subst hji; exact hy.opW hi hC ⟨fun _ => hC, H⟩
    · have := ready_mono hj hji
      rw [H.1] at this
      cases this
  | succ n ih =>
    intro listed a I L hfree hlo hr hy hC H
    refine ⟨fun h => (by rw [h] at hr; cases hr), fun j hj => ?_⟩
    by_cases hji : j = i
    · subst hji; exact hy.opW hi hC ⟨fun _ => hC, H⟩
    · have h1 := H.2 j (ready_mono hj hji)
      obtain ⟨hjun, oj, hoj, hall⟩ := mem_ready.1 hj
      have hnot : ∀ e ∈ oj.after, Region.binds .any e = true → e.on ≠ i := fun e he hb heq => by
        have h1 := hall e he hb
        have h0 := (mem_ready.1 hr).1
        rw [heq] at h1
        rcases Nat.lt_or_ge i listed.size with h' | h'
        · simp [h'] at h0 h1; rw [h0] at h1; cases h1
        · simp [Array.getElem?_eq_none h'] at h1
      have hjlo : lo.contains j = false := by
        cases hc : lo.contains j with
        | false => rfl
        | true => obtain ⟨e, he, hb, ho⟩ := hlo j oj hoj hji hjun hc; exact absurd ho (hnot e he hb)
      have hset : ∀ k, (listed.setIfInBounds j true).getD k true = false → listed.getD k true = false := fun k hun => by
        by_cases hjk : j = k
        · subst hjk; exact hjun
        · rw [getD_set_ne true hjk] at hun; exact hun
      intro W hs
      have h2 := wpOp_putS (C := C) hoj (hfree j oj hoj hji hjun hnot) (fun cs b => hsel i oi cs b hi) (fun cs b => hsel j oj cs b hoj) hy (h1 W hs)
      refine wpOp_mono (fun a' W' h3 => ?_) h2
      obtain ⟨hy', I', L', g1, g2, g3, g4⟩ := h3
      refine ⟨I', L', g1, g2, g3, ih (listed.setIfInBounds j true) a' I' L' (fun k ok hk hki hun hno => hfree k ok hk hki (hset k hun) hno) (fun k ok hk hki hun hc => hlo k ok hk hki (hset k hun) hc) (ready_mono hr (Ne.symm hji)) hy' (g3 hjlo) ?_⟩
      rw [Array.setIfInBounds_comm _ _ hji]
      exact g4

theorem waits_spec {listed : Array Bool} {i : Nat} (h : waitsB ops listed lo i = true) : ∀ j oj, ops[j]? = some oj → j ≠ i → listed.getD j true = false → lo.contains j = true → ∃ e ∈ oj.after, Region.binds .any e = true ∧ e.on = i := by
  intro j oj hj hne hun hc
  unfold waitsB at h
  rw [List.all_eq_true] at h
  have := h j (by simpa using hc)
  simp only [hj, hun, Bool.false_or, Bool.and_eq_true] at this
  obtain ⟨e, he, hb⟩ := Array.any_eq_true'.1 this.2
  simp only [Bool.and_eq_true, beq_iff_eq] at hb
  exact ⟨e, he, hb.1, hb.2⟩

theorem plT_sound (hs : Region.noSelect ops = true) : ∀ (p : Plan) (listed : Array Bool) (n : Nat) (a : Act) (I : Imm) (L : Own), planB ops lo p listed n = true → I0.Le I → ((∃ i q, p = .take i q) → C I L) →
    plT P ops lo C X (Q .normal) p listed a I L → anyT P ops lo C I0 F Q X n listed a I L := by
  intro p
  induction p with
  | done =>
    intro listed n a I L hB hle _ h
    have h0 : Region.ready .any ops listed = [] := by simpa [planB] using hB
    cases n with
    | zero => exact ⟨h0, hle, h⟩
    | succ n => exact ⟨fun _ => ⟨hle, h⟩, by rw [h0]; simp⟩
  | take i p ih =>
    intro listed n a I L hB hle hC h
    cases n with
    | zero => simp [planB] at hB
    | succ n =>
      simp only [planB, Bool.and_eq_true] at hB
      obtain ⟨⟨⟨hr, hf⟩, hw⟩, hB⟩ := hB
      simp only [plT] at h
      cases ho : ops[i]? with
      | none => simp only [ho] at h
      | some o =>
        simp only [ho] at h
        have hC' := hC ⟨i, p, rfl⟩
        have key : ∃ v, YS P ops C F o v a ∧ plT P ops lo C X (Q .normal) p (listed.setIfInBounds i true) (a.put o.dst v) I L := by
          cases hg : o.guard with
          | none =>
            simp only [hg] at h
            obtain ⟨v, hv, hk⟩ := opQ_sound (F := F) h
            exact ⟨v, .inl ⟨wanted_none hg, hv⟩, hk⟩
          | some jw =>
            obtain ⟨j, want⟩ := jw
            simp only [hg] at h
            have hw : Region.wanted o (yielded ops a.tmps) = yb (((ops[j]?).bind (·.dst)).bind (a.tmps[·]?)) want := by
              simp only [Region.wanted, hg, yielded, yb]
              rfl
            unfold qgd at h
            split at h
            · rename_i hy
              obtain ⟨v, hv, hk⟩ := opQ_sound (F := F) h
              exact ⟨v, .inl ⟨hw.trans hy, hv⟩, hk⟩
            · rename_i hy
              exact ⟨undef, .inr ⟨by rw [hw]; simpa using hy, rfl⟩, h⟩
        obtain ⟨v, hy, hk⟩ := key
        exact anyT_first ho (Region.noSelect_spec hs) n listed a I L (Region.free_spec ho hf) (waits_spec hw) (by simpa using hr) hy hC' (ih _ n _ _ _ hB hle (fun _ => hC') hk)
  | all f ih =>
    intro listed n a I L hB hle hC h
    cases n with
    | zero => simp [planB] at hB
    | succ n =>
      simp only [planB, Bool.and_eq_true, List.all_eq_true] at hB
      obtain ⟨hne, hB⟩ := hB
      have hne' : Region.ready .any ops listed ≠ [] := by intro e; simp [e] at hne
      refine ⟨fun h0 => absurd h0 hne', fun i hi => ?_⟩
      have h' := allQ_mem h hi
      obtain ⟨hlo, hB'⟩ := hB i hi
      have fin : ∀ a' I' L' W', I.Le I' → St W' I' (L' ++ F) → andS (lo.contains i) (C I' L') (plT P ops lo C X (Q .normal) (f i) (listed.setIfInBounds i true) a' I' L') →
          ∃ I2 L2, I.Le I2 ∧ St W' I2 (L2 ++ F) ∧ (lo.contains i = false → C I2 L2) ∧ anyT P ops lo C I0 F Q X n (listed.setIfInBounds i true) a' I2 L2 := by
        intro a' I' L' W' h1 h2 h3
        cases hc : lo.contains i with
        | false =>
          rw [hc] at h3
          exact ⟨I', L', h1, h2, fun _ => h3.1, ih i _ n _ _ _ hB' (hle.trans h1) (fun _ => h3.1) h3.2⟩
        | true =>
          rw [hc] at h3 hlo
          refine ⟨I', L', h1, h2, fun h => (by cases h), ih i _ n _ _ _ hB' (hle.trans h1) (fun ⟨k, q, e⟩ => ?_) h3⟩
          rw [e] at hlo
          simp [Plan.reads] at hlo
      intro W hs'
      unfold wpOp
      cases ho : ops[i]? with
      | none => simp only [ho] at h'
      | some o =>
        simp only [ho] at h' ⊢
        cases hg : o.guard with
        | none =>
          simp only [hg] at h'
          simp only [wanted_none hg, if_true]
          exact .inl (opA_sound (fun a' I' L' W' h1 h2 h3 => fin a' I' L' W' h1 h2 h3) (fun ch I' L' W' h1 h2 h3 => ⟨I', L', hle.trans h1, h2, h3⟩) hs' h')
        | some jw =>
          obtain ⟨j, want⟩ := jw
          simp only [hg] at h'
          have hw : Region.wanted o (yielded ops a.tmps) = yb (((ops[j]?).bind (·.dst)).bind (a.tmps[·]?)) want := by
            simp only [Region.wanted, hg, yielded, yb]
            rfl
          unfold gd at h'
          rw [hw]
          split at h'
          · rename_i hy
            simp only [hy, if_true]
            exact .inl (opT_sound (fun v I' L' W' h1 h2 h3 => fin _ I' L' W' h1 h2 h3) (fun ch I' L' W' h1 h2 h3 => ⟨I', L', hle.trans h1, h2, h3⟩) hs' h')
          · rename_i hy
            rw [if_neg hy]
            exact fin _ _ _ _ (.refl I) hs' h'

/-- A region that draws its order, by a plan: the class C holds at the start, and behind each operation but those of 'lo'. -/
theorem draw_plan {id : Nat} (p : Plan) (lo : List Nat) {C : Cls} {a : Act} {I : Imm} {L : Own} {c : Code} {T : Prop} (hc : c = .region id ops true) (hm : P.follows .mixedOrders = true) (hB : (Region.noSelect ops && planB ops lo p (Array.replicate ops.size false) ops.size) = true)
    (he : plT P ops lo C X (Q .normal) p (Array.replicate ops.size false) a I L = T) (hC : C I L) (h : T) : cdT P c Q X a I L := by
  subst hc
  simp only [Bool.and_eq_true] at hB
  intro F W hs
  exact wp_region_any hm (wpAny_of_anyT _ _ _ _ _ _ (hs.drew _) (plT_sound hB.1 p _ _ a I L hB.2 (.refl I) (fun _ => hC) (he ▸ h)))
end plan
/-- Where a piece of code stands in a text. -/
def cdAt : List Nat → Code → Code
  | 0 :: r, .seq x _ => cdAt r x
  | _ :: r, .seq _ y => cdAt r y
  | 0 :: r, .cond _ x _ => cdAt r x
  | _ :: r, .cond _ _ y => cdAt r y
  | _ :: r, .block _ c => cdAt r c
  | _ :: r, .loop c => cdAt r c
  | _, c => c
def cdIn (f : Func) (p : List Nat) : Code := cdAt p (f.body.getD .skip)
def opsIn (f : Func) (p : List Nat) : Array Oper :=
  match cdIn f p with
  | .region _ ops _ => ops
  | _ => #[]
/-! ### A text that is cut at some places -/
/-- What stands at a place (the way to it, the last step first) that is cut. -/
abbrev Cuts := List Nat → Option (Act → Imm → Own → Prop)
def shH (P : Program) (cuts : Cuts) : Code → List Nat → (Exit → Act → Imm → Own → Prop) → XT → Act → Imm → Own → Prop
  | .seq x y, p, Q, X, a, I, L =>
    match cuts p with
    | some J => J a I L
    | none => shH P cuts x (0 :: p) (seqT (shH P cuts y (1 :: p) Q X) Q) X a I L
  | .cond c x y, p, Q, X, a, I, L =>
    match cuts p with
    | some J => J a I L
    | none => cnd (a.eval c) (shH P cuts x (0 :: p) Q X a I L) (shH P cuts y (1 :: p) Q X a I L)
  | .block id c, p, Q, X, a, I, L =>
    match cuts p with
    | some J => J a I L
    | none => shH P cuts c (0 :: p) (blkT id Q) X a I L
  | .region _ ops false, p, Q, X, a, I, L =>
    match cuts p with
    | some J => J a I L
    | none => shOps P ops X (Q .normal) (List.range ops.size) a I L
  | .skip, p, Q, _, a, I, L =>
    match cuts p with
    | some J => J a I L
    | none => Q .normal a I L
  | .exit id, p, Q, _, a, I, L =>
    match cuts p with
    | some J => J a I L
    | none => Q (.exit id) a I L
  | .ret, p, Q, _, a, I, L =>
    match cuts p with
    | some J => J a I L
    | none => Q .ret a I L
  | c, p, Q, X, a, I, L =>
    match cuts p with
    | some J => J a I L
    | none => cdT P c Q X a I L
/-- That what stands at the cuts is what stands there. -/
def okL (P : Program) (cuts : Cuts) : Code → List Nat → (Exit → Act → Imm → Own → Prop) → XT → List Prop
  | .seq x y, p, Q, X =>
    match cuts p with
    | some J => [J = cdT P (.seq x y) Q X]
    | none => okL P cuts x (0 :: p) (seqT (cdT P y Q X) Q) X ++ okL P cuts y (1 :: p) Q X
  | .cond c x y, p, Q, X =>
    match cuts p with
    | some J => [J = cdT P (.cond c x y) Q X]
    | none => okL P cuts x (0 :: p) Q X ++ okL P cuts y (1 :: p) Q X
  | .block id c, p, Q, X =>
    match cuts p with
    | some J => [J = cdT P (.block id c) Q X]
    | none => okL P cuts c (0 :: p) (blkT id Q) X
  | c, p, Q, X =>
    match cuts p with
    | some J => [J = cdT P c Q X]
    | none => []
def allP : List Prop → Prop
  | [] => True
  | p :: r => p ∧ allP r
theorem allP_append {l r : List Prop} (h : allP (l ++ r)) : allP l ∧ allP r := by
  induction l with
  | nil => exact ⟨trivial, h⟩
  | cons p l ih => exact ⟨⟨h.1, (ih h.2).1⟩, (ih h.2).2⟩
theorem shH_sound {P : Program} {cuts : Cuts} : ∀ (c : Code) (p : List Nat) (Q Q' : Exit → Act → Imm → Own → Prop) (X : XT) (a : Act) (I : Imm) (L : Own), (∀ e a I L, Q' e a I L → Q e a I L) → allP (okL P cuts c p Q X) →
    shH P cuts c p Q' X a I L → cdT P c Q X a I L := by
  intro c
  induction c with
  | seq x y ihx ihy =>
    intro p Q Q' X a I L hq ok h
    simp only [okL, shH] at ok h
    split at h
    · rename_i J hJ; simp only [hJ, allP, and_true] at ok; rw [← ok]; exact h
    · rename_i hJ
      simp only [hJ] at ok
      obtain ⟨ok1, ok2⟩ := allP_append ok
      have hx : cdT P x (seqT (cdT P y Q X) Q) X a I L := ihx _ _ _ X a I L (fun e a I L he => by
        cases e
        case normal => exact ihy _ Q Q' X a I L hq ok2 he
        all_goals exact hq _ _ _ _ he) ok1 h
      intro F W hs
      refine wp_seq (wp_mono (hx F W hs) fun e a' W' he => ?_)
      cases e <;> simp only [lift, seqT, Exit.then] at he ⊢
      case normal =>
        obtain ⟨I', L', h1, h2, h3⟩ := he
        exact wp_mono (h3 F W' h2) (lift_mono h1 fun _ _ _ _ h => h)
      all_goals exact he
  | cond c x y ihx ihy =>
    intro p Q Q' X a I L hq ok h
    simp only [okL, shH] at ok h
    split at h
    · rename_i J hJ; simp only [hJ, allP, and_true] at ok; rw [← ok]; exact h
    · rename_i hJ
      simp only [hJ] at ok
      obtain ⟨ok1, ok2⟩ := allP_append ok
      simp only [cnd] at h
      intro F W hs
      split at h
      · rename_i hc; exact wp_cond_true hc (ihx _ Q Q' X a I L hq ok1 h F W hs)
      · rename_i hc; exact wp_cond_false hc (ihy _ Q Q' X a I L hq ok2 h F W hs)
      · exact h.elim
  | block id c ih =>
    intro p Q Q' X a I L hq ok h
    simp only [okL, shH] at ok h
    split at h
    · rename_i J hJ; simp only [hJ, allP, and_true] at ok; rw [← ok]; exact h
    · rename_i hJ
      simp only [hJ] at ok
      have hx : cdT P c (blkT id Q) X a I L := ih _ _ _ X a I L (fun e a I L he => by
        cases e
        case exit k =>
          simp only [blkT] at he ⊢
          split
          · rename_i hk; rw [if_pos hk] at he; exact hq _ _ _ _ he
          · rename_i hk; rw [if_neg hk] at he; exact hq _ _ _ _ he
        all_goals exact hq _ _ _ _ he) ok h
      intro F W hs
      refine wp_block (wp_mono (hx F W hs) fun e a' W' he => ?_)
      cases e <;> simp only [lift, blkT, Exit.inBlock] at he ⊢
      case exit k =>
        obtain ⟨I', L', h1, h2, h3⟩ := he
        split
        · rename_i hk; rw [if_pos hk] at h3; exact ⟨I', L', h1, h2, h3⟩
        · rename_i hk; rw [if_neg hk] at h3; exact ⟨I', L', h1, h2, h3⟩
      all_goals exact he
  | region id ops draw =>
    intro p Q Q' X a I L hq ok h
    cases draw <;> simp only [okL, shH] at ok h <;> split at h
    · rename_i J hJ; simp only [hJ, allP, and_true] at ok; rw [← ok]; exact h
    · exact fun F W hs => wp_mono (wp_region (shOps_sound (Q := Q') _ _ _ _ _ (.refl I) hs h)) (lift_mono (.refl I) hq)
    · rename_i J hJ; simp only [hJ, allP, and_true] at ok; rw [← ok]; exact h
    · exact fun F W hs => wp_mono (h F W hs) (lift_mono (.refl I) hq)
  | skip =>
    intro p Q Q' X a I L hq ok h
    simp only [okL, shH] at ok h
    split at h
    · rename_i J hJ; simp only [hJ, allP, and_true] at ok; rw [← ok]; exact h
    · exact fun F W hs => wp_skip ⟨I, L, .refl I, hs, hq _ _ _ _ h⟩
  | exit id =>
    intro p Q Q' X a I L hq ok h
    simp only [okL, shH] at ok h
    split at h
    · rename_i J hJ; simp only [hJ, allP, and_true] at ok; rw [← ok]; exact h
    · exact fun F W hs => wp_exit ⟨I, L, .refl I, hs, hq _ _ _ _ h⟩
  | ret =>
    intro p Q Q' X a I L hq ok h
    simp only [okL, shH] at ok h
    split at h
    · rename_i J hJ; simp only [hJ, allP, and_true] at ok; rw [← ok]; exact h
    · exact fun F W hs => wp_ret ⟨I, L, .refl I, hs, hq _ _ _ _ h⟩
  | _ =>
    intro p Q Q' X a I L hq ok h
    simp only [okL, shH] at ok h
    split at h
    · rename_i J hJ; simp only [hJ, allP, and_true] at ok; rw [← ok]; exact h
    · exact fun F W hs => wp_mono (h F W hs) (lift_mono (.refl I) hq)

/-- A piece of a text, cut, out of its shallow form. -/
theorem sh_cut {P : Program} {c : Code} {Q : Exit → Act → Imm → Own → Prop} {X : XT} {a : Act} {I : Imm} {L : Own} {T O : Prop} (cuts : Cuts) (ho : allP (okL P cuts c [] Q X) = O) (hO : O)
    (he : shH P cuts c [] Q X a I L = T) (h : T) : cdT P c Q X a I L := shH_sound c [] Q Q X a I L (fun _ _ _ _ h => h) (ho ▸ hO) (he ▸ h)
theorem wpC_go {P : Program} {f : FuncId} {fn : Func} {args : Array Value} {I : Imm} {L : Own} {R : Ending → Imm → Own → Prop} {T O : Prop} (cuts : Cuts) (hf : P.funcs[f]? = some fn) (hb : fn.body.isSome = true)
    (ho : allP (okL P cuts (cdIn fn []) [] (endT P fn R) (endX R)) = O) (hO : O)
    (he : shH P cuts (cdIn fn []) [] (endT P fn R) (endX R) { tmps := (args.toList ++ List.replicate (fn.ntmps - args.toList.length) undef).toArray, defers := [] } I L = T) (h : T) : wpC P f args I L R := by
  obtain ⟨c, hc⟩ := Option.isSome_iff_exists.1 hb
  refine wpC_of_cdT hf hc ?_
  have e : cdIn fn [] = c := by
    unfold cdIn
    rw [hc]
    cases c <;> rfl
  have e2 : args ++ Array.replicate (fn.ntmps - args.size) undef = (args.toList ++ List.replicate (fn.ntmps - args.toList.length) undef).toArray := by
    apply Array.ext'
    simp
  rw [← e, e2]
  exact sh_cut cuts ho hO he h
theorem loop_gen {P : Program} {c body : Code} {Q : Exit → Act → Imm → Own → Prop} {X : XT} (hc : c = .loop body) (Inv : Nat → Act → Imm → Own → Prop) {n : Nat} {a : Act} {I : Imm} {L : Own} (h0 : Inv n a I L)
    (round : ∀ n a I' L', I.Le I' → Inv n a I' L' → cdT P body (seqT (fun a I L => ∃ m, m < n ∧ Inv m a I L) Q) X a I' L') : cdT P c Q X a I L := by
  subst hc
  exact loop_rule Inv h0 round
/-- A string, by its bytes. -/
abbrev S (l : List UInt8) : Value := .string ⟨l.toArray⟩
end Go.Proofs.YtkclodaplbalfaaDoor.Sl
