/- Numbers that are read: it comes to an end, with a number or a fault. Conditions: none. -/
import Derived.Test.YtkclodaplbalfaaDoorLib
set_option linter.unusedVariables false
set_option linter.unusedSimpArgs false
set_option maxRecDepth 100000
namespace Go.Proofs.YtkclodaplbalfaaDoor
namespace Sl
open Go
section
variable {P : Program} {I : Imm} {L : Own} {k : KV} {X : List PanicEntry → Imm → Own → Prop}
theorem addq_ {t : TypeId} {q : IntKind} {a b : Int} (k' : k (.int q (q.wrap (a + b))) I L) : bin P .add t (.int q a) (.int q b) I L k := wpS.of_rd (.of_run fun W => by simp [binOp, Op.intArith]) k'
theorem subq_ {t : TypeId} {q : IntKind} {a b : Int} (k' : k (.int q (q.wrap (a - b))) I L) : bin P .sub t (.int q a) (.int q b) I L k := wpS.of_rd (.of_run fun W => by simp [binOp, Op.intArith]) k'
theorem mulq_ {t : TypeId} {q : IntKind} {a b : Int} (k' : k (.int q (q.wrap (a * b))) I L) : bin P .mul t (.int q a) (.int q b) I L k := wpS.of_rd (.of_run fun W => by simp [binOp, Op.intArith]) k'
theorem negq_ {q : IntKind} {a : Int} (k' : k (.int q (q.wrap (0 - a))) I L) : un P .neg (.int q a) I L k := wpS.of_rd (.of_run fun W => by simp [Op.unary, Op.intArith]) k'
theorem cvti_ {s d : TypeId} {q r : IntKind} {n : Int} [h1 : TU P s (.int q)] [h2 : TU P d (.int r)] (k' : k (.int r (r.wrap n)) I L) : cvt P s d (.int q n) I L k := wpS.of_rd (.of_run fun W => by simp [convert, run_under h1.h, run_under h2.h, Conv.intToInt]) k'
theorem cal_ext {f : FuncId} {fn : Func} {args : Array Value} {v : Value} (hf : P.funcs[f]? = some fn) (hn : (fn.name == "runtime.NumGoroutine") = false) (hb : fn.body.isNone = true) (h1 : Extern.findNext fn = none) (h2 : (Extern.find fn).isSome = true)
    (hr : ∀ W, (((Extern.find fn).getD fun _ => stuck "") args).run P W = .ok v W) (k' : k v I L) : cal P f args I L X k := fun F W hs => by
  obtain ⟨g, hg⟩ := Option.isSome_iff_exists.1 h2
  have hr' := hr W
  simp only [hg, Option.getD_some] at hr'
  have : (callFunc f args).run P W = .ok (.value v) W := by
    simp only [callFunc, program, Sem.run_bind, Sem.run, Result.andThen, hf, hn, hb, mark, if_true, if_false, h1, hg, Bool.false_eq_true, Sem.mark, Sem.bind]
    rw [hr']
    rfl
  rw [this]
  exact ⟨I, L, .refl I, hs, k'⟩
end
theorem wrap_u64 (n : Int) : 0 ≤ IntKind.u64.wrap n ∧ IntKind.u64.wrap n < 18446744073709551616 := by
  simp [IntKind.wrap, IntKind.bits, IntKind.signed]
  omega
theorem wrap_u64_id {n : Int} (h0 : 0 ≤ n) (h1 : n < 18446744073709551616) : IntKind.u64.wrap n = n := by
  simp [IntKind.wrap, IntKind.bits, IntKind.signed]
  omega
end Sl
open Go Sl
theorem mul64_pure (x y : Int) (hx : 0 ≤ x ∧ x < 18446744073709551616) (hy : 0 ≤ y ∧ y < 18446744073709551616) : ∃ a b : Nat, b < 18446744073709551616 ∧ PureC Tryd.prog 79 #[.int .u64 x, .int .u64 y] (.tuple #[.int .u64 a, .int .u64 b]) := by
  obtain ⟨x, rfl⟩ := Int.eq_ofNat_of_zero_le hx.1
  obtain ⟨y, rfl⟩ := Int.eq_ofNat_of_zero_le hy.1
  refine ⟨x * y / 18446744073709551616, x * y % 18446744073709551616, Nat.mod_lt _ (by decide), fun I F W hs => ?_⟩
  refine (Tryd.bits_Mul64 x y (by omega) (by omega) W).mono fun e W' ⟨he, hw⟩ => ?_
  subst hw
  exact ⟨I, [], .refl I, hs, he⟩
section
variable {I : Imm} {L : Own} {k : KV} {X : List PanicEntry → Imm → Own → Prop}
theorem add64c_ {x y : Int} (hx : 0 ≤ x ∧ x < 18446744073709551616) (hy : 0 ≤ y ∧ y < 18446744073709551616) (k' : ∀ a b : Nat, a < 18446744073709551616 → k (.tuple #[.int .u64 a, .int .u64 b]) I L) : cal Tryd.prog 80 #[.int .u64 x, .int .u64 y, .int .u64 0] I L X k := by
  refine cal_ext (v := .tuple #[.int .u64 ((x.toNat + y.toNat + 0) % 18446744073709551616 : Nat), .int .u64 ((x.toNat + y.toNat + 0) / 18446744073709551616 : Nat)]) Tryd.func80 (by kernel_rfl) (by kernel_rfl) (by kernel_rfl) (by kernel_rfl) (fun W => ?_) (k' _ _ (Nat.mod_lt _ (by decide)))
  rfl
def dbl : Nat → Int → Int
  | 0, v => v
  | j + 1, v => dbl j (IntKind.u64.wrap (v * 2))
theorem pow2_pure (n : Nat) (hn : n ≤ 100) : PureC Tryd.prog 77 #[i64 n] (.int .u64 (dbl n 1)) := by
  intro I
  refine go77 ?_
  unfold M77
  refine loop77_0 (n := n) (fun j x0 x3 I L => x0 = i64 j ∧ j ≤ 100 ∧ ∃ v : Int, x3 = .int .u64 v ∧ dbl n 1 = dbl j v) ⟨rfl, hn, 1, rfl, rfl⟩ ?_
  rintro j x0 x3 I' L' hle ⟨rfl, hj, v, rfl, hv⟩ N' hN' w
  unfold B77_0
  refine gtr_ ?_
  cases j with
  | zero =>
    refine cnd_no (by omega) ?_
    refine out77_0x0 (join77_1 ?_)
    unfold T77_1
    rw [hv]
    rfl
  | succ j =>
    refine cnd_yes (by omega) ?_
    refine mulq_ (sub64 ?_ (by omega) (by omega))
    refine hN' j (by omega) ⟨by congr 1; omega, by omega, _, rfl, ?_⟩
    rw [hv]
    rfl
end
end Go.Proofs.YtkclodaplbalfaaDoor
