/- What an error tells: its Errno, and its place. Conditions: the variable errors.errorType is laid. -/
import Derived.Test.YtkclodaplbalfaaDoorLib
import Derived.Test.YtkclodaplbalfaaDoorOps4
import Derived.Laws.Externs
import Derived.Stop.Asserts
set_option linter.unusedVariables false
set_option linter.unusedSimpArgs false
set_option maxRecDepth 100000
namespace Go.Proofs.YtkclodaplbalfaaDoor
open Go Sl Go.Extern
namespace Sl
section
variable {P : Program} {I : Imm} {L : Own} {k : KV} {X : List PanicEntry → Imm → Own → Prop}
/-- A call of a function without a body. -/
theorem cal_ex {f : FuncId} {fn : Func} {e : Array Value → Sem Value} {args : Array Value} (hf : P.funcs[f]? = some fn) (hname : (fn.name == "runtime.NumGoroutine") = false) (hb : fn.body.isNone = true) (hn : Extern.findNext fn = none) (he : Extern.find fn = some e)
    (h : wpS P (e args) I L k) : cal P f args I L X k := fun F W hs => by
  rw [run_callFunc_extern hf hname hb hn he]
  have := h F W hs
  split at this
  · rename_i v W' hr
    rw [hr]
    exact this
  · exact this.elim
theorem inv_of {t : TypeId} {v r : Value} {name : String} {args : Array Value} {g : FuncId} {as' : Array Value} (hm : ∀ W, (Go.method (P.types.size + Made.depth) t v name).run P W = .ok (g, r) W) (ha : #[r] ++ args = as') (h : cal P g as' I L X k) : inv P (.iface t v) name args I L X k := fun F W hs => by
  subst ha
  have := h F W hs
  simp only [callMethod, Sem.run_bind, program, Sem.run, hm, Result.andThen]
  exact this
theorem wpS.fresh {s : Sem Value} {v : Nat → Value} {o : Obj} (hr : ∀ W : World, s.run P W = .ok (v W.heap.size) (W.alloc o)) (k' : ∀ b, k (v b) I ((b, o) :: L)) : wpS P s I L k := fun F W hs => by
  rw [hr]
  have h := hs.new o
  exact ⟨I, (W.heap.size, o) :: L, .refl I, h, k' _⟩
theorem tas_ {x v : Value} {s d : TypeId} {ok : Bool} (h : ∀ W, (Instr.typeAssert x s d ok).run P W = .ok v W) (k' : k v I L) : tas P x s d ok I L k := wpS.of_rd (.of_run h) k'
theorem eqn_ {op : BinOp} {t : TypeId} {c d : Bool} {x y v : Value} (h : ∀ W, (do eqGuard op t (opd c) (opd d) x y; binOp op t x y : Sem Value).run P W = .ok v W) (k' : k v I L) : eqn P op t c d x y I L k := wpS.of_rd (.of_run h) k'
theorem mki_ {t : TypeId} {v w : Value} (h : ∀ W, (Instr.makeInterface t v).run P W = .ok w W) (k' : k w I L) : mki P t v I L k := wpS.of_rd (.of_run h) k'
end
end Sl
/-- The variable errors.errorType is laid. -/
def ErrL (I : Imm) : Prop := RdAt I 0 0 [.iface 126 (.agg #[ptr 2 32])]
/-- The type's handle. -/
abbrev hnd (t : Nat) : Value := ptr 2 t
abbrev rtp (t : Nat) : Value := .iface 126 (.agg #[hnd t])
abbrev rvl (t b fl : Nat) : Value := .agg #[hnd t, ptr b 0, .int .u64 fl]
/-- What is told by throwing. -/
abbrev atV (b : Nat) : Value := .iface 73 (ptr b 0)
section
variable {I : Imm} {L : Own} {k : KV} {X : List PanicEntry → Imm → Own → Prop}
theorem valueOf_p (b : Nat) (k' : ∀ g, k (rvl 97 g 150) I ((g, .cells #[ptr b 0] 97) :: L)) : cal Tryd.prog 58 #[.iface 97 (ptr b 0)] I L X k :=
  cal_ex Tryd.func58 (e := fun args => ReflectliteValue.unpack (args.getD 0 (.tuple #[]))) (by kernel_rfl) (by kernel_rfl) (by kernel_rfl) (by kernel_rfl)
    (wpS.fresh (v := fun g => rvl 97 g 150) (fun W => by kernel_rfl) k')
theorem valueOf_e (n : Int) (k' : ∀ g, k (rvl 24 g 130) I ((g, .cells #[i64 n] 24) :: L)) : cal Tryd.prog 58 #[.iface 24 (i64 n)] I L X k :=
  cal_ex Tryd.func58 (e := fun args => ReflectliteValue.unpack (args.getD 0 (.tuple #[]))) (by kernel_rfl) (by kernel_rfl) (by kernel_rfl) (by kernel_rfl)
    (wpS.fresh (v := fun g => rvl 24 g 130) (fun W => by kernel_rfl) k')
theorem type_p (g : Nat) (k' : k (rtp 97) I L) : cal Tryd.prog 59 #[rvl 97 g 150] I L X k :=
  cal_ex Tryd.func59 (e := ReflectliteValue.methodAny (ReflectliteValue.valueError "reflectlite.Value.Type" 0) (fun t _ _ _ => ReflectliteType.toType t)) (by kernel_rfl) (by kernel_rfl) (by kernel_rfl) (by kernel_rfl)
    (wpS.of_rd (.of_run fun W => by kernel_rfl) k')
theorem m_kind (h : Value) (w : World) : (Go.method (Tryd.prog.types.size + Made.depth) 126 (.agg #[h]) "Kind").run Tryd.prog w = .ok (95, h) w := by kernel_rfl
theorem m_elem (h : Value) (w : World) : (Go.method (Tryd.prog.types.size + Made.depth) 126 (.agg #[h]) "Elem").run Tryd.prog w = .ok (107, .agg #[h]) w := by kernel_rfl
theorem m_impl (h : Value) (w : World) : (Go.method (Tryd.prog.types.size + Made.depth) 126 (.agg #[h]) "Implements").run Tryd.prog w = .ok (108, .agg #[h]) w := by kernel_rfl
theorem m_assg (h : Value) (w : World) : (Go.method (Tryd.prog.types.size + Made.depth) 126 (.agg #[h]) "AssignableTo").run Tryd.prog w = .ok (105, .agg #[h]) w := by kernel_rfl
theorem m_unwr (h : Value) (w : World) : (Go.method (Tryd.prog.types.size + Made.depth) 73 h "Unwrap").run Tryd.prog w = .ok (100, h) w := by kernel_rfl
theorem kind_p (w : World) : ((ReflectliteType.abiMethod fun t => do pure (.int .u8 (← Rtype.kind t))) #[hnd 97]).run Tryd.prog w = .ok (u8 22) w := by kernel_rfl
theorem kind_e (w : World) : ((ReflectliteType.abiMethod fun t => do pure (.int .u8 (← Rtype.kind t))) #[hnd 24]).run Tryd.prog w = .ok (u8 2) w := by kernel_rfl
theorem kind_cal {t q : Nat} (hq : ∀ W, ((ReflectliteType.abiMethod fun t => do pure (.int .u8 (← Rtype.kind t))) #[hnd t]).run Tryd.prog W = .ok (u8 q) W) (k' : k (u8 q) I L) : cal Tryd.prog 95 #[hnd t] I L X k :=
  cal_ex Tryd.func95 (e := ReflectliteType.abiMethod fun t => do pure (.int .u8 (← Rtype.kind t))) (by kernel_rfl) (by kernel_rfl) (by kernel_rfl) (by kernel_rfl)
    (wpS.of_rd (.of_run hq) k')
theorem kind_ {t q : Nat} (hq : ∀ W, ((ReflectliteType.abiMethod fun t => do pure (.int .u8 (← Rtype.kind t))) #[hnd t]).run Tryd.prog W = .ok (u8 q) W) (k' : k (u8 q) I L) : inv Tryd.prog (rtp t) "Kind" #[] I L X k :=
  inv_of (m_kind _) (by rfl) (kind_cal hq k')
theorem elemT_run (w : World) : (ReflectliteType.method ReflectliteType.elem #[.agg #[hnd 97]]).run Tryd.prog w = .ok (rtp 24) w := by kernel_rfl
theorem elemT_cal (k' : k (rtp 24) I L) : cal Tryd.prog 107 #[.agg #[hnd 97]] I L X k :=
  (cal_ex Tryd.func107 (e := ReflectliteType.method ReflectliteType.elem) (by kernel_rfl) (by kernel_rfl) (by kernel_rfl) (by kernel_rfl) (wpS.of_rd (.of_run elemT_run) k'))
theorem elemT_ (k' : k (rtp 24) I L) : inv Tryd.prog (rtp 97) "Elem" #[] I L X k := inv_of (m_elem _) (by rfl) (elemT_cal k')
theorem impl_run (w : World) : (ReflectliteType.relation "Implements" ReflectliteType.implements_ #[.agg #[hnd 24], rtp 32]).run Tryd.prog w = .ok (.bool true) w := by kernel_rfl
theorem impl_cal (k' : k (.bool true) I L) : cal Tryd.prog 108 #[.agg #[hnd 24], rtp 32] I L X k :=
  (cal_ex Tryd.func108 (e := ReflectliteType.relation "Implements" ReflectliteType.implements_) (by kernel_rfl) (by kernel_rfl) (by kernel_rfl) (by kernel_rfl) (wpS.of_rd (.of_run impl_run) k'))
theorem impl_ (k' : k (.bool true) I L) : inv Tryd.prog (rtp 24) "Implements" #[rtp 32] I L X k := inv_of (m_impl _) (by rfl) (impl_cal k')
theorem assg_runF (w : World) : (ReflectliteType.relation "AssignableTo" ReflectliteType.assignableTo #[.agg #[hnd 73], rtp 24]).run Tryd.prog w = .ok (.bool false) w := by kernel_rfl
theorem assg_runT (w : World) : (ReflectliteType.relation "AssignableTo" ReflectliteType.assignableTo #[.agg #[hnd 24], rtp 24]).run Tryd.prog w = .ok (.bool true) w := by kernel_rfl
theorem assg_cal {t : Nat} {b : Bool} (h : ∀ w, (ReflectliteType.relation "AssignableTo" ReflectliteType.assignableTo #[.agg #[hnd t], rtp 24]).run Tryd.prog w = .ok (.bool b) w) (k' : k (.bool b) I L) : cal Tryd.prog 105 #[.agg #[hnd t], rtp 24] I L X k :=
  (cal_ex Tryd.func105 (e := ReflectliteType.relation "AssignableTo" ReflectliteType.assignableTo) (by kernel_rfl) (by kernel_rfl) (by kernel_rfl) (by kernel_rfl) (wpS.of_rd (.of_run h) k'))
theorem assg_ {t : Nat} {b : Bool} (h : ∀ w, (ReflectliteType.relation "AssignableTo" ReflectliteType.assignableTo #[.agg #[hnd t], rtp 24]).run Tryd.prog w = .ok (.bool b) w) (k' : k (.bool b) I L) : inv Tryd.prog (rtp t) "AssignableTo" #[rtp 24] I L X k :=
  inv_of (m_assg _) (by rfl) (assg_cal h k')
theorem typeOf_a (v : Value) (k' : k (rtp 73) I L) : cal Tryd.prog 71 #[.iface 73 v] I L X k :=
  cal_ex Tryd.func71 (e := ReflectliteType.typeOf) (by kernel_rfl) (by kernel_rfl) (by kernel_rfl) (by kernel_rfl) (wpS.of_rd (.of_run fun W => by kernel_rfl) k')
theorem typeOf_e (v : Value) (k' : k (rtp 24) I L) : cal Tryd.prog 71 #[.iface 24 v] I L X k :=
  cal_ex Tryd.func71 (e := ReflectliteType.typeOf) (by kernel_rfl) (by kernel_rfl) (by kernel_rfl) (by kernel_rfl) (wpS.of_rd (.of_run fun W => by kernel_rfl) k')
theorem noAs (v : Value) (k' : k (.tuple #[.nilIface, .bool false]) I L) : tas Tryd.prog (.iface 73 v) 32 131 true I L k :=
  tas_ (fun W => run_typeAssert_lacksB Tryd.underlying131 (by kernel_rfl) (by kernel_rfl) v _ W) k'
theorem hasUn (v : Value) (k' : k (.tuple #[.iface 73 v, .bool true]) I L) : tas Tryd.prog (.iface 73 v) 32 77 true I L k :=
  tas_ (fun W => by kernel_rfl) k'
theorem isAt (v : Value) (k' : k (.tuple #[v, .bool true]) I L) : tas Tryd.prog (.iface 73 v) 32 73 true I L k :=
  tas_ (fun W => by kernel_rfl) k'
/-- An interface type: is a value of it nil? -/
class IfN (t : Nat) : Prop where
  a : ∀ (u : Nat) (v : Value) (W : World), (do eqGuard .eql t (opd false) (opd true) (.iface u v) .nilIface; binOp .eql t (.iface u v) .nilIface : Sem Value).run Tryd.prog W = .ok (.bool false) W
  b : ∀ (u : Nat) (v : Value) (W : World), (do eqGuard .neq t (opd false) (opd true) (.iface u v) .nilIface; binOp .neq t (.iface u v) .nilIface : Sem Value).run Tryd.prog W = .ok (.bool true) W
  c : ∀ (W : World), (do eqGuard .eql t (opd false) (opd true) .nilIface .nilIface; binOp .eql t .nilIface .nilIface : Sem Value).run Tryd.prog W = .ok (.bool true) W
  d : ∀ (W : World), (do eqGuard .neq t (opd false) (opd true) .nilIface .nilIface; binOp .neq t .nilIface .nilIface : Sem Value).run Tryd.prog W = .ok (.bool false) W
instance : IfN 32 := ⟨fun u v W => by kernel_rfl, fun u v W => by kernel_rfl, fun W => by kernel_rfl, fun W => by kernel_rfl⟩
instance : IfN 20 := ⟨fun u v W => by kernel_rfl, fun u v W => by kernel_rfl, fun W => by kernel_rfl, fun W => by kernel_rfl⟩
theorem if_nil {t t' : Nat} {v : Value} [h : IfN t'] (k' : k (.bool false) I L) : eqn Tryd.prog .eql t' false true (.iface t v) .nilIface I L k := eqn_ (h.a t v) k'
theorem if_nnil {t t' : Nat} {v : Value} [h : IfN t'] (k' : k (.bool true) I L) : eqn Tryd.prog .neq t' false true (.iface t v) .nilIface I L k := eqn_ (h.b t v) k'
theorem nil_nil {t' : Nat} [h : IfN t'] (k' : k (.bool true) I L) : eqn Tryd.prog .eql t' false true .nilIface .nilIface I L k := eqn_ h.c k'
theorem nil_nnil {t' : Nat} [h : IfN t'] (k' : k (.bool false) I L) : eqn Tryd.prog .neq t' false true .nilIface .nilIface I L k := eqn_ h.d k'
theorem rlm (z : Sem Value) (f : TypeId → Addr → Nat → Nat → Sem Value) (v : Value) :
    ReflectliteValue.method z f #[v] = (do match ← ReflectliteValue.parts v with | none => z | some (t, a, fl) => f t a fl (fl % 32)) := rfl
theorem parts_p (g : Nat) (w : World) : (ReflectliteValue.parts (rvl 97 g 150)).run Tryd.prog w = .ok (some (97, ⟨g, 0, none⟩, 150)) w := by kernel_rfl
theorem parts_e (g : Nat) (w : World) : (ReflectliteValue.parts (rvl 24 g 130)).run Tryd.prog w = .ok (some (24, ⟨g, 0, none⟩, 130)) w := by kernel_rfl
theorem parts_a (g : Nat) (w : World) : (ReflectliteValue.parts (rvl 24 g 386)).run Tryd.prog w = .ok (some (24, ⟨g, 0, none⟩, 386)) w := by kernel_rfl
theorem elem_p (w : World) : (Rtype.elem? 97).run Tryd.prog w = .ok (some 24) w := by kernel_rfl
theorem mk_e (p : Addr) (w : World) : (ReflectliteValue.mk 24 p ReflectliteValue.flagAddr).run Tryd.prog w = .ok (.agg #[hnd 24, .pointer (some p), .int .u64 386]) w := by kernel_rfl
theorem direct_e (w : World) : (Rtype.directlyAssignable 24 24).run Tryd.prog w = .ok true w := by kernel_rfl
theorem isNil_p {g b : Nat} (hc : Cel I L g 0 (ptr b 0)) (k' : k (.bool false) I L) : cal Tryd.prog 60 #[rvl 97 g 150] I L X k :=
  cal_ex Tryd.func60 (e := ReflectliteValue.method (ReflectliteValue.valueError "reflectlite.Value.IsNil" 0) ReflectliteValue.isNil) (by kernel_rfl) (by kernel_rfl) (by kernel_rfl) (by kernel_rfl)
    (wpS.of_rd (fun F W hs => by
      rw [rlm]
      simp only [Sem.run_bind, parts_p, Result.andThen]
      simp [ReflectliteValue.isNil, loadVar, isAgg, underlying, Tryd.underlying97, hc.h F W hs, Result.andThen]) k')
theorem elemV_p {g b : Nat} (hc : Cel I L g 0 (ptr b 0)) (k' : k (rvl 24 b 386) I L) : cal Tryd.prog 72 #[rvl 97 g 150] I L X k :=
  cal_ex Tryd.func72 (e := ReflectliteValue.method (ReflectliteValue.valueError "reflectlite.Value.Elem" 0) ReflectliteValue.elem) (by kernel_rfl) (by kernel_rfl) (by kernel_rfl) (by kernel_rfl)
    (wpS.of_rd (fun F W hs => by
      rw [rlm]
      simp only [Sem.run_bind, parts_p, Result.andThen]
      simp [ReflectliteValue.elem, loadVar, isAgg, underlying, Tryd.underlying97, hc.h F W hs, Result.andThen, elem_p, mk_e]) k')
theorem rls (v x : Value) : ReflectliteValue.set #[v, x] = (do
    let (some (dst, a, fl), some (src, b, _)) := (← ReflectliteValue.parts v, ← ReflectliteValue.parts x)
      | unsupported (.noEntry "extern/(internal/reflectlite.Value).Set.zeroValue")
    if fl / ReflectliteValue.flagAddr % 2 == 0 then unsupported (.noEntry "extern/(internal/reflectlite.Value).Set.unaddressable")
    let val ← loadVar src b
    if ← Rtype.directlyAssignable dst src then storeVar dst a val
    else if ← Rtype.implements dst src then
      if (← Rtype.kind src) == 20 then
        match val with
        | .nilIface => unsupported (.noEntry "extern/reflectlite: a nil value of one interface type handed on as a value of another")
        | _ => storeVar dst a val
      else storeVar dst a (.iface src val)
    else panicString ("reflectlite.Set: value of type " ++ (← Rtype.spelt src) ++ " is not assignable to type " ++ (← Rtype.spelt dst))
    pure (.tuple #[])) := rfl
theorem set_e {g b : Nat} {n : Int} {c : Array Value} {e : TypeId} {mk : Obj → Own} (hc : Cel I L g 0 (i64 n)) [h : SlotB L b (.cells c e (0, 0)) mk] (hn : 1 ≤ c.size) (k' : k (.tuple #[]) I (mk (.cells (splice c.toList 0 [i64 n]).toArray e (0, 0)))) :
    cal Tryd.prog 73 #[rvl 24 b 386, rvl 24 g 130] I L X k :=
  cal_ex Tryd.func73 (e := ReflectliteValue.set) (by kernel_rfl) (by kernel_rfl) (by kernel_rfl) (by kernel_rfl) (fun F W hs => by
    have hst := (sto_ (P := Tryd.prog) (t := 24) (b := b) (o := 0) (v := i64 n) (h := h) (k := fun _ I' L' => I' = I ∧ L' = mk (.cells (splice c.toList 0 [i64 n]).toArray e (0, 0))) ⟨rfl, rfl⟩ rfl (by omega)) F W hs
    have e1 : (ReflectliteValue.set #[rvl 24 b 386, rvl 24 g 130]).run Tryd.prog W = ((Instr.storeAt 24 (ptr b 0) (i64 n)).run Tryd.prog W).andThen fun _ W' => .ok (.tuple #[]) W' := by
      rw [rls]
      simp only [Sem.run_bind, parts_a, parts_e, Result.andThen]
      simp [ReflectliteValue.flagAddr, loadVar, isAgg, underlying, Tryd.underlying24, hc.h F W hs, Result.andThen, direct_e, Instr.storeAt, Instr.sureAddr]
    rw [e1]
    split at hst
    · rename_i v W' hr
      rw [hr]
      obtain ⟨I', L', h1, h2, rfl, rfl⟩ := hst
      exact ⟨I', _, h1, h2, k'⟩
    · exact hst.elim)
end
end Go.Proofs.YtkclodaplbalfaaDoor
