/- The shallow forms of the functions, printed by a program of this claim's writer out of the loaded translation, each checked by the kernel. Conditions: none. -/
import Derived.Test.YtkclodaplbalfaaDoorSlB
import Derived.Test.YtkclodaplbalfaaDoorProg
set_option linter.unusedVariables false
set_option maxRecDepth 100000
namespace Go.Proofs.YtkclodaplbalfaaDoor
open Go Sl

def F3_r (s : Env) (v2 : Value) : Act := fr 22 (U s 2 v2) []
/-- 3: escritoire/escritoirelaw.TypesFinds -/
def M3 (R : Ending → Imm → Own → Prop) (x0 : Value) (I : Imm) (L : Own) : Prop :=
 cal Tryd.prog 4 #[x0] I L (xR R) fun x6 I L =>
 cnd x6
 (R (.returned (.bool true)) I L)
 (cal Tryd.prog 5 #[x0] I L (xR R) fun x9 I L =>
 ext Tryd.prog x9 0 I L fun x10 I L =>
 ext Tryd.prog x9 1 I L fun x11 I L =>
 al Tryd.prog 26 I L fun x4 I L =>
 sto Tryd.prog 26 x4 x11 I L fun _ I L =>
 ld Tryd.prog 26 x4 I L fun x12 I L =>
 cal Tryd.prog 6 #[x12] I L (xR R) fun x13 I L =>
 un Tryd.prog .not x13 I L fun x14 I L =>
 gd (yb (some x14) false) (fun k => k x10 I L) (fun x16 I L =>
 gd (yb (some x14) false) (fun k => cal Tryd.prog 8 #[x16] I L (xR R) k) (fun x17 I L =>
 gd (yb (some x14) false) (fun k => k x10 I L) (fun x18 I L =>
 gd (yb (some x14) false) (fun k => cal Tryd.prog 9 #[x18] I L (xR R) k) (fun x19 I L =>
 gd (yb (some x14) false) (fun k => cal Tryd.prog 7 #[x17, x19] I L (xR R) k) (fun x20 I L =>
pck x14 (.bool true) x20 I L fun x21 I L =>
R (.returned x21) I L) I L) I L) I L) I L) I L)
theorem go3 {R : Ending → Imm → Own → Prop} {x0 : Value} {I : Imm} {L : Own} (h : M3 R x0 I L) : wpC Tryd.prog 3 #[x0] I L R :=
  wpC_goX (endN_le _ _ R) (fun _ => none) Tryd.func3 (by kernel_rfl) (O := True) (by kernel_rfl) trivial (by kernel_rfl) h

def F4_r (s : Env) (v2 : Value) : Act := fr 16 (U s 2 v2) []
/-- 4: escritoire/escritoirelaw.far -/
def M4 (R : Ending → Imm → Own → Prop) (x0 : Value) (I : Imm) (L : Own) : Prop :=
 blt Tryd.prog .len #[9] 3 #[x0] I L fun x4 I L =>
 bin Tryd.prog .gtr 3 x4 (.int .i64 900) I L fun x5 I L =>
 gd (yb (some x5) true) (fun k => k x0 I L) (fun x7 I L =>
 gd (yb (some x5) true) (fun k => blt Tryd.prog .len #[9] 3 #[x7] I L k) (fun x8 I L =>
 gd (yb (some x5) true) (fun k => bin Tryd.prog .leq 3 x8 (.int .i64 3000) I L k) (fun x9 I L =>
pck x5 x9 (.bool false) I L fun x10 I L =>
 gd (yb (some x10) false) (fun k => k x0 I L) (fun x12 I L =>
 gd (yb (some x10) false) (fun k => blt Tryd.prog .len #[9] 3 #[x12] I L k) (fun x13 I L =>
 gd (yb (some x10) false) (fun k => bin Tryd.prog .gtr 3 x13 (.int .i64 3009) I L k) (fun x14 I L =>
pck x10 (.bool true) x14 I L fun x15 I L =>
R (.returned x15) I L) I L) I L) I L) I L) I L) I L
theorem go4 {R : Ending → Imm → Own → Prop} {x0 : Value} {I : Imm} {L : Own} (h : M4 R x0 I L) : wpC Tryd.prog 4 #[x0] I L R :=
  wpC_goX (endN_le _ _ R) (fun _ => none) Tryd.func4 (by kernel_rfl) (O := True) (by kernel_rfl) trivial (by kernel_rfl) h

def F7_r (s : Env) (v4 : Value) : Act := fr 22 (U s 4 v4) []
/-- 7: escritoire/escritoirelaw.placed -/
def M7 (R : Ending → Imm → Own → Prop) (x0 x1 : Value) (I : Imm) (L : Own) : Prop :=
 bx Tryd.prog 26 x1 I L fun x3 I L =>
 cal Tryd.prog 19 #[x0] I L (xR R) fun x9 I L =>
 ext Tryd.prog x9 0 I L fun x10 I L =>
 ext Tryd.prog x9 1 I L fun x11 I L =>
 fad Tryd.prog 26 x3 0 I L fun x13 I L =>
 ld Tryd.prog 24 x13 I L fun x14 I L =>
 eqn Tryd.prog .eql 24 false false x10 x14 I L fun x15 I L =>
 gd (yb (some x15) true) (fun k => k x11 I L) (fun x17 I L =>
 gd (yb (some x15) true) (fun k => fad Tryd.prog 26 x3 1 I L k) (fun x18 I L =>
 gd (yb (some x15) true) (fun k => ld Tryd.prog 3 x18 I L k) (fun x19 I L =>
 gd (yb (some x15) true) (fun k => eqn Tryd.prog .eql 3 false false x17 x19 I L k) (fun x20 I L =>
pck x15 x20 (.bool false) I L fun x21 I L =>
R (.returned x21) I L) I L) I L) I L) I L
theorem go7 {R : Ending → Imm → Own → Prop} {x0 x1 : Value} {I : Imm} {L : Own} (h : M7 R x0 x1 I L) : wpC Tryd.prog 7 #[x0, x1] I L R :=
  wpC_goX (endN_le _ _ R) (fun _ => none) Tryd.func7 (by kernel_rfl) (O := True) (by kernel_rfl) trivial (by kernel_rfl) h

def F5_r (s : Env) (v2 v3 : Value) : Act := fr 63 (U (U s 2 v2) 3 v3) []
def F5_0 (s : Env) (v3 v5 : Value) : Act := fr 63 (U (U s 3 v3) 5 v5) []
def F5_1 (s : Env) (v3 v4 v6 : Value) : Act := fr 63 (U (U (U s 3 v3) 4 v4) 6 v6) []
def F5_2 (s : Env) (v2 v3 : Value) : Act := fr 63 (U (U s 2 v2) 3 v3) []
def F5_3 (s : Env) (v3 v4 v6 : Value) : Act := fr 63 (U (U (U s 3 v3) 4 v4) 6 v6) []
def F5_4 (s : Env) (v3 v4 v6 : Value) : Act := fr 63 (U (U (U s 3 v3) 4 v4) 6 v6) []
def F5_5 (s : Env) (v3 v4 : Value) : Act := fr 63 (U (U s 3 v3) 4 v4) []
def F5_6 (s : Env) (v2 v3 : Value) : Act := fr 63 (U (U s 2 v2) 3 v3) []
def Q5_0 (R : Ending → Imm → Own → Prop) : Exit → Act → Imm → Own → Prop := (seqT (cdB Tryd.prog (cdIn Tryd.f5 [1, 1, 0, 1, 0, 1]) (seqT (cdB Tryd.prog (cdIn Tryd.f5 [1, 1, 1]) (endB Tryd.prog Tryd.f5 R) (endN R)) (endB Tryd.prog Tryd.f5 R)) (endN R)) (seqT (cdB Tryd.prog (cdIn Tryd.f5 [1, 1, 1]) (endB Tryd.prog Tryd.f5 R) (endN R)) (endB Tryd.prog Tryd.f5 R)))
def D5_0 (R : Ending → Imm → Own → Prop) (a : Act) (I : Imm) (L : Own) : Prop := cdB Tryd.prog (cdIn Tryd.f5 [1, 1, 0, 1, 0, 0]) (Q5_0 R) (endN R) a I L
def Q5_1 (R : Ending → Imm → Own → Prop) : Exit → Act → Imm → Own → Prop := (blkT 0 (seqT (cdB Tryd.prog (cdIn Tryd.f5 [1, 1, 1, 1, 1]) (endB Tryd.prog Tryd.f5 R) (endN R)) (endB Tryd.prog Tryd.f5 R)))
def L5_1 (R : Ending → Imm → Own → Prop) (a : Act) (I : Imm) (L : Own) : Prop := cdB Tryd.prog (cdIn Tryd.f5 [1, 1, 1, 1, 0, 0]) (Q5_1 R) (endN R) a I L
def Q5_2 (R : Ending → Imm → Own → Prop) : Exit → Act → Imm → Own → Prop := (seqT (cdB Tryd.prog (cdIn Tryd.f5 [1, 1, 1]) (endB Tryd.prog Tryd.f5 R) (endN R)) (endB Tryd.prog Tryd.f5 R))
def J5_2 (R : Ending → Imm → Own → Prop) (a : Act) (I : Imm) (L : Own) : Prop := cdB Tryd.prog (cdIn Tryd.f5 [1, 1, 0, 1, 0, 1]) (Q5_2 R) (endN R) a I L
def Q5_3 (R : Ending → Imm → Own → Prop) (N : Act → Imm → Own → Prop) (Q : Exit → Act → Imm → Own → Prop) : Exit → Act → Imm → Own → Prop := (blkT 1 (seqT N Q))
def J5_3 (R : Ending → Imm → Own → Prop) (N : Act → Imm → Own → Prop) (Q : Exit → Act → Imm → Own → Prop) (a : Act) (I : Imm) (L : Own) : Prop := cdB Tryd.prog (cdIn Tryd.f5 [1, 1, 1, 1, 0, 0, 0, 1, 0, 1]) (Q5_3 R N Q) (endN R) a I L
def Q5_4 (R : Ending → Imm → Own → Prop) : Exit → Act → Imm → Own → Prop := (endB Tryd.prog Tryd.f5 R)
def J5_4 (R : Ending → Imm → Own → Prop) (a : Act) (I : Imm) (L : Own) : Prop := cdB Tryd.prog (cdIn Tryd.f5 [1, 1, 1, 1, 1]) (Q5_4 R) (endN R) a I L
def Q5_5 (R : Ending → Imm → Own → Prop) : Exit → Act → Imm → Own → Prop := (seqT (cdB Tryd.prog (cdIn Tryd.f5 [1, 1, 1, 1, 1, 0, 1, 0, 1]) (seqT (cdB Tryd.prog (cdIn Tryd.f5 [1, 1, 1, 1, 1, 1]) (Q5_4 R) (endN R)) (Q5_4 R)) (endN R)) (seqT (cdB Tryd.prog (cdIn Tryd.f5 [1, 1, 1, 1, 1, 1]) (Q5_4 R) (endN R)) (Q5_4 R)))
def D5_5 (R : Ending → Imm → Own → Prop) (a : Act) (I : Imm) (L : Own) : Prop := cdB Tryd.prog (cdIn Tryd.f5 [1, 1, 1, 1, 1, 0, 1, 0, 0]) (Q5_5 R) (endN R) a I L
def Q5_6 (R : Ending → Imm → Own → Prop) : Exit → Act → Imm → Own → Prop := (seqT (cdB Tryd.prog (cdIn Tryd.f5 [1, 1, 1, 1, 1, 1]) (Q5_4 R) (endN R)) (Q5_4 R))
def J5_6 (R : Ending → Imm → Own → Prop) (a : Act) (I : Imm) (L : Own) : Prop := cdB Tryd.prog (cdIn Tryd.f5 [1, 1, 1, 1, 1, 0, 1, 0, 1]) (Q5_6 R) (endN R) a I L
/-- 5_0: live: 3 5 -/
def G5_0 (R : Ending → Imm → Own → Prop) (C : Cls) (s : Env) (v3 v5 : Value) (I : Imm) (L : Own) : Prop :=
 qld Tryd.prog 26 v5 C fun x16 =>
 sto Tryd.prog 26 v3 x16 I L fun _ I L =>
J5_2 R (F5_2 (U (U s 5 v5) 16 x16) (.slice none 0 0) v3) I L
theorem draw5_0 {R : Ending → Imm → Own → Prop} {C : Cls} {s : Env} {v3 v5 : Value} {I : Imm} {L : Own} (hC : C I L) (h : G5_0 R C s v3 v5 I L) : D5_0 R (F5_0 s v3 v5) I L :=
  draw_planB (ops := opsIn Tryd.f5 [1, 1, 0, 1, 0, 0]) (id := 3) (Q := Q5_0 R) (X := (endN R)) endN_put (.take 0 (.take 1 (.all fun _ => .done))) [2] (by kernel_rfl) rfl (by kernel_rfl) (by kernel_rfl) hC h
/-- loop 5_1: live: 3 4 6; what changes: 6 -/
def B5_1 (R : Ending → Imm → Own → Prop) (N : Act → Imm → Own → Prop) (Q : Exit → Act → Imm → Own → Prop) (s : Env) (v3 v4 v6 : Value) (I : Imm) (L : Own) : Prop :=
 cal Tryd.prog 11 #[v4] I L (xR R) fun x18 I L =>
 un Tryd.prog .not x18 I L fun x19 I L =>
 gd (yb (some x19) true) (fun k => k v4 I L) (fun x21 I L =>
 gd (yb (some x19) true) (fun k => nck Tryd.prog x21 I L k) (fun x22 I L =>
 gd (yb (some x19) true) (fun k => fad Tryd.prog 40 x22 0 I L k) (fun x23 I L =>
 gd (yb (some x19) true) (fun k => ld Tryd.prog 38 x23 I L k) (fun x24 I L =>
 gd (yb (some x19) true) (fun k => blt Tryd.prog .len #[38] 3 #[x24] I L k) (fun x25 I L =>
 gd (yb (some x19) true) (fun k => bin Tryd.prog .gtr 3 x25 (.int .i64 0) I L k) (fun x26 I L =>
pck x19 x26 (.bool false) I L fun x27 I L =>
 cnd x27
 (cal Tryd.prog 12 #[v4] I L (xR R) fun x29 I L =>
 eqn Tryd.prog .eql 9 false true x29 (S [115, 116, 114, 117, 99, 116]) I L fun x30 I L =>
 gd (yb (some x30) true) (fun k => k v6 I L) (fun x32 I L =>
 gd (yb (some x30) true) (fun k => blt Tryd.prog .len #[23] 3 #[x32] I L k) (fun x33 I L =>
 gd (yb (some x30) true) (fun k => bin Tryd.prog .geq 3 x33 (.int .i64 8) I L k) (fun x34 I L =>
pck x30 x34 (.bool false) I L fun x35 I L =>
 cnd x35
 (cal Tryd.prog 14 #[v4] I L (xR R) fun x38 I L =>
 cal Tryd.prog 13 #[v4, (.int .i64 4), x38] I L (xR R) fun x39 I L =>
J5_3 R N Q (F5_3 (U (U (U (U (U (U (U (U (U (U (U (U (U (U (U (U (U (U (U (U (U (U (U s 17 v4) 18 x18) 19 x19) 20 x19) 21 x21) 22 x22) 23 x23) 24 x24) 25 x25) 26 x26) 27 x27) 28 v4) 29 x29) 30 x30) 31 x30) 32 x32) 33 x33) 34 x34) 35 x35) 36 v4) 37 v4) 38 x38) 39 x39) v3 v4 v6) I L)
 (J5_3 R N Q (F5_3 (U (U (U (U (U (U (U (U (U (U (U (U (U (U (U (U (U (U (U s 17 v4) 18 x18) 19 x19) 20 x19) 21 x21) 22 x22) 23 x23) 24 x24) 25 x25) 26 x26) 27 x27) 28 v4) 29 x29) 30 x30) 31 x30) 32 x32) 33 x33) 34 x34) 35 x35) v3 v4 v6) I L)) I L) I L) I L)
 (Q (.exit 0) (F5_4 (U (U (U (U (U (U (U (U (U (U (U s 17 v4) 18 x18) 19 x19) 20 x19) 21 x21) 22 x22) 23 x23) 24 x24) 25 x25) 26 x26) 27 x27) v3 v4 v6) I L)) I L) I L) I L) I L) I L) I L
theorem round5_1 {R : Ending → Imm → Own → Prop} {N : Act → Imm → Own → Prop} {Q : Exit → Act → Imm → Own → Prop} {s : Env} {v3 v4 v6 : Value} {I : Imm} {L : Own} (h : B5_1 R N Q s v3 v4 v6 I L) : cdB Tryd.prog (cdIn Tryd.f5 [1, 1, 1, 1, 0, 0, 0]) (seqT N Q) (endN R) (F5_1 s v3 v4 v6) I L :=
  sh_cutB (fun p => if p = [1, 0, 1] then some (J5_3 R N Q) else none) (O := (J5_3 R N Q = J5_3 R N Q) ∧ True) (by kernel_rfl) ⟨rfl, trivial⟩ (by kernel_rfl) h
theorem loop5_1 {R : Ending → Imm → Own → Prop} {s : Env} {v3 v4 : Value} {u6 : Value} {I : Imm} {L : Own} (Inv : Nat → Value → Imm → Own → Prop) {n : Nat} (h : Inv n u6 I L)
  (round : ∀ (n : Nat) (x6 : Value) (I' : Imm) (L' : Own), I.Le I' → Inv n x6 I' L' → ∀ (N' : Act → Imm → Own → Prop), (∀ (m : Nat) {s : Env} {y6 : Value} {I : Imm} {L : Own}, m < n → Inv m y6 I L → N' (F5_1 s v3 v4 y6) I L) → ∀ (s : Env), B5_1 R N' (Q5_1 R) s v3 v4 x6 I' L') : L5_1 R (F5_1 s v3 v4 u6) I L :=
  loop_genB (by kernel_rfl) (fun n a I L => ∃ (s : Env) (x6 : Value), a = (F5_1 s v3 v4 x6) ∧ Inv n x6 I L) ⟨s, _, rfl, h⟩ fun n a I' L' hle ⟨s, x6, e, hi⟩ => e ▸ round5_1 (round n x6 I' L' hle hi (fun a I L => ∃ m, m < n ∧ (fun n a I L => ∃ (s : Env) (x6 : Value), a = (F5_1 s v3 v4 x6) ∧ Inv n x6 I L) m a I L) (fun m {s y6 I L} hm hi => ⟨m, hm, s, _, rfl, hi⟩) s)
theorem out5_1x0 {R : Ending → Imm → Own → Prop} {s : Env} {v3 v4 v6 : Value} {I : Imm} {L : Own} (h : J5_4 R (F5_4 s v3 v4 v6) I L) : Q5_1 R (.exit 0) (F5_4 s v3 v4 v6) I L :=
  Eq.mpr (by kernel_rfl) h
/-- 5_2: live: 2 3 -/
def T5_2 (R : Ending → Imm → Own → Prop) (s : Env) (v2 v3 : Value) (I : Imm) (L : Own) : Prop :=
 rcl Tryd.prog 26 v3 I L fun r1 =>
R (.returned (.tuple #[v2, r1])) I L
theorem join5_2 {R : Ending → Imm → Own → Prop} {s : Env} {v2 v3 : Value} {I : Imm} {L : Own} (h : T5_2 R s v2 v3 I L) : J5_2 R (F5_2 s v2 v3) I L :=
  sh_cutB (fun _ => none) (O := True) (by kernel_rfl) trivial (by kernel_rfl) h
/-- 5_3: live: 3 4 6 -/
def T5_3 (R : Ending → Imm → Own → Prop) (N : Act → Imm → Own → Prop) (Q : Exit → Act → Imm → Own → Prop) (s : Env) (v3 v4 v6 : Value) (I : Imm) (L : Own) : Prop :=
 cal Tryd.prog 15 #[v4, (S [115, 116, 114, 117, 99, 116])] I L (xR R) fun x41 I L =>
 cal Tryd.prog 14 #[v4] I L (xR R) fun x43 I L =>
 bld Tryd.prog 47 #[(1, x43)] I L fun x44 I L =>
 al Tryd.prog 47 I L fun x7 I L =>
 sto Tryd.prog 47 x7 x44 I L fun _ I L =>
 cal Tryd.prog 16 #[v4] I L (xR R) fun x46 I L =>
 fad Tryd.prog 47 x7 0 I L fun x47 I L =>
 sto Tryd.prog 9 x47 x46 I L fun _ I L =>
 cal Tryd.prog 17 #[v4, (.int .i64 1)] I L (xR R) fun x49 I L =>
 fad Tryd.prog 47 x7 2 I L fun x50 I L =>
 sto Tryd.prog 45 x50 x49 I L fun _ I L =>
 ld Tryd.prog 47 x7 I L fun x52 I L =>
 bsl Tryd.prog 23 1 #[(0, x52)] I L fun x53 I L =>
 blt Tryd.prog .append #[23, 23] 23 #[v6, x53] I L fun x54 I L =>
N (F5_1 (U (U (U (U (U (U (U (U (U (U (U (U (U (U (U (U s 7 x7) 40 v4) 41 x41) 42 v4) 43 x43) 44 x44) 45 v4) 46 x46) 47 x47) 48 v4) 49 x49) 50 x50) 51 v6) 52 x52) 53 x53) 54 x54) v3 v4 x54) I L
theorem join5_3 {R : Ending → Imm → Own → Prop} {N : Act → Imm → Own → Prop} {Q : Exit → Act → Imm → Own → Prop} {s : Env} {v3 v4 v6 : Value} {I : Imm} {L : Own} (h : T5_3 R N Q s v3 v4 v6 I L) : J5_3 R N Q (F5_3 s v3 v4 v6) I L :=
  sh_cutB (fun _ => none) (O := True) (by kernel_rfl) trivial (by kernel_rfl) h
/-- 5_4: live: 3 4 6 -/
def T5_4 (R : Ending → Imm → Own → Prop) (s : Env) (v3 v4 v6 : Value) (I : Imm) (L : Own) : Prop :=
 cal Tryd.prog 11 #[v4] I L (xR R) fun x56 I L =>
 cnd x56
 (D5_5 R (F5_5 (U (U (U s 6 v6) 55 v4) 56 x56) v3 v4) I L)
 (cal Tryd.prog 18 #[] I L (xR R) fun x62 I L =>
 sto Tryd.prog 26 v3 x62 I L fun _ I L =>
 rcl Tryd.prog 26 v3 I L fun r1 =>
R (.returned (.tuple #[v6, r1])) I L)
theorem join5_4 {R : Ending → Imm → Own → Prop} {s : Env} {v3 v4 v6 : Value} {I : Imm} {L : Own} (h : T5_4 R s v3 v4 v6 I L) : J5_4 R (F5_4 s v3 v4 v6) I L :=
  sh_cutB (fun p => if p = [0, 0, 1, 0] then some (D5_5 R) else none) (O := (D5_5 R = D5_5 R) ∧ True) (by kernel_rfl) ⟨rfl, trivial⟩ (by kernel_rfl) h
/-- 5_5: live: 3 4 -/
def G5_5 (R : Ending → Imm → Own → Prop) (C : Cls) (s : Env) (v3 v4 : Value) (I : Imm) (L : Own) : Prop :=
 qnck Tryd.prog v4 C fun x58 =>
 qfad Tryd.prog 40 x58 2 C fun x59 =>
 qld Tryd.prog 26 x59 C fun x60 =>
 sto Tryd.prog 26 v3 x60 I L fun _ I L =>
J5_6 R (F5_6 (U (U (U (U (U s 4 v4) 57 v4) 58 x58) 59 x59) 60 x60) (.slice none 0 0) v3) I L
theorem draw5_5 {R : Ending → Imm → Own → Prop} {C : Cls} {s : Env} {v3 v4 : Value} {I : Imm} {L : Own} (hC : C I L) (h : G5_5 R C s v3 v4 I L) : D5_5 R (F5_5 s v3 v4) I L :=
  draw_planB (ops := opsIn Tryd.f5 [1, 1, 1, 1, 1, 0, 1, 0, 0]) (id := 14) (Q := Q5_5 R) (X := (endN R)) endN_put (.take 0 (.take 1 (.take 2 (.take 3 (.take 4 (.all fun _ => .done)))))) [5] (by kernel_rfl) rfl (by kernel_rfl) (by kernel_rfl) hC h
/-- 5_6: live: 2 3 -/
def T5_6 (R : Ending → Imm → Own → Prop) (s : Env) (v2 v3 : Value) (I : Imm) (L : Own) : Prop :=
 rcl Tryd.prog 26 v3 I L fun r1 =>
R (.returned (.tuple #[v2, r1])) I L
theorem join5_6 {R : Ending → Imm → Own → Prop} {s : Env} {v2 v3 : Value} {I : Imm} {L : Own} (h : T5_6 R s v2 v3 I L) : J5_6 R (F5_6 s v2 v3) I L :=
  sh_cutB (fun _ => none) (O := True) (by kernel_rfl) trivial (by kernel_rfl) h
/-- 5: escritoire/escritoireref.TmplParse -/
def M5 (R : Ending → Imm → Own → Prop) (x0 : Value) (I : Imm) (L : Own) : Prop :=
 al Tryd.prog 26 I L fun x3 I L =>
 cal Tryd.prog 10 #[x0] I L (xR R) fun x10 I L =>
 ext Tryd.prog x10 0 I L fun x11 I L =>
 ext Tryd.prog x10 1 I L fun x12 I L =>
 al Tryd.prog 26 I L fun x5 I L =>
 sto Tryd.prog 26 x5 x12 I L fun _ I L =>
 ld Tryd.prog 26 x5 I L fun x13 I L =>
 cal Tryd.prog 6 #[x13] I L (xR R) fun x14 I L =>
 un Tryd.prog .not x14 I L fun x15 I L =>
 cnd x15
 (D5_0 R (F5_0 (U (U (U (U (U (U (U (U (U (U (U eU 0 x0) 2 (.slice none 0 0)) 4 x11) 8 x10) 9 x0) 10 x10) 11 x11) 12 x12) 13 x13) 14 x14) 15 x15) x3 x5) I L)
 (L5_1 R (F5_1 (U (U (U (U (U (U (U (U (U (U (U eU 0 x0) 2 (.slice none 0 0)) 5 x5) 8 x10) 9 x0) 10 x10) 11 x11) 12 x12) 13 x13) 14 x14) 15 x15) x3 x11 (.slice none 0 0)) I L)
theorem go5 {R : Ending → Imm → Own → Prop} {x0 : Value} {I : Imm} {L : Own} (h : M5 R x0 I L) : wpC Tryd.prog 5 #[x0] I L R :=
  wpC_goX (endN_le _ _ R) (fun p => if p = [0, 0, 1, 0, 1, 1] then some (D5_0 R) else if p = [0, 0, 1, 1, 1, 1] then some (L5_1 R) else none) Tryd.func5 (by kernel_rfl) (O := (D5_0 R = D5_0 R) ∧ (L5_1 R = L5_1 R) ∧ True) (by kernel_rfl) ⟨rfl, rfl, trivial⟩ (by kernel_rfl) h

def F6_r (s : Env) (v2 : Value) : Act := fr 6 (U s 2 v2) []
/-- 6: (escritoire/escritoireref.Fault).Is -/
def M6 (R : Ending → Imm → Own → Prop) (x0 : Value) (I : Imm) (L : Own) : Prop :=
 bx Tryd.prog 26 x0 I L fun x1 I L =>
 fad Tryd.prog 26 x1 0 I L fun x3 I L =>
 ld Tryd.prog 24 x3 I L fun x4 I L =>
 eqn Tryd.prog .eql 24 false true x4 (.int .i64 0) I L fun x5 I L =>
R (.returned x5) I L
theorem go6 {R : Ending → Imm → Own → Prop} {x0 : Value} {I : Imm} {L : Own} (h : M6 R x0 I L) : wpC Tryd.prog 6 #[x0] I L R :=
  wpC_goX (endN_le _ _ R) (fun _ => none) Tryd.func6 (by kernel_rfl) (O := True) (by kernel_rfl) trivial (by kernel_rfl) h

def F9_r (s : Env) (v2 : Value) : Act := fr 35 (U s 2 v2) []
def F9_0 (s : Env) (v2 v3 v8 v9 v10 : Value) : Act := fr 35 (U (U (U (U (U s 2 v2) 3 v3) 8 v8) 9 v9) 10 v10) []
def F9_1 (s : Env) (v2 : Value) : Act := fr 35 (U s 2 v2) []
def Q9_0 (R : Ending → Imm → Own → Prop) : Exit → Act → Imm → Own → Prop := (blkT 0 (seqT (cdB Tryd.prog (cdIn Tryd.f9 [1, 1, 1]) (endB Tryd.prog Tryd.f9 R) (endN R)) (endB Tryd.prog Tryd.f9 R)))
def L9_0 (R : Ending → Imm → Own → Prop) (a : Act) (I : Imm) (L : Own) : Prop := cdB Tryd.prog (cdIn Tryd.f9 [1, 1, 0, 1, 0]) (Q9_0 R) (endN R) a I L
def Q9_1 (R : Ending → Imm → Own → Prop) : Exit → Act → Imm → Own → Prop := (endB Tryd.prog Tryd.f9 R)
def J9_1 (R : Ending → Imm → Own → Prop) (a : Act) (I : Imm) (L : Own) : Prop := cdB Tryd.prog (cdIn Tryd.f9 [1, 1, 1]) (Q9_1 R) (endN R) a I L
/-- loop 9_0: live: 2 3 8 9 10; what changes: 10 -/
def B9_0 (R : Ending → Imm → Own → Prop) (N : Act → Imm → Own → Prop) (Q : Exit → Act → Imm → Own → Prop) (s : Env) (v2 v3 v8 v9 v10 : Value) (I : Imm) (L : Own) : Prop :=
 bin Tryd.prog .lss 3 v10 v9 I L fun x11 I L =>
 cnd x11
 (iad Tryd.prog 23 v8 v10 I L fun x12 I L =>
 ld Tryd.prog 47 x12 I L fun x13 I L =>
 al Tryd.prog 47 I L fun x5 I L =>
 sto Tryd.prog 47 x5 x13 I L fun _ I L =>
 fad Tryd.prog 47 x5 0 I L fun x15 I L =>
 ld Tryd.prog 9 x15 I L fun x16 I L =>
 lkp Tryd.prog 61 v3 x16 false I L fun x17 I L =>
 cnd x17
 (fad Tryd.prog 47 x5 1 I L fun x18 I L =>
 ld Tryd.prog 3 x18 I L fun x19 I L =>
 bld Tryd.prog 26 #[(0, (.int .i64 9)), (1, x19)] I L fun x20 I L =>
 sto Tryd.prog 26 v2 x20 I L fun _ I L =>
Q .ret (F9_r (U (U (U (U (U (U (U (U (U (U (U (U (U (U (U s 3 v3) 5 x5) 8 v8) 9 v9) 10 v10) 11 x11) 12 x12) 13 x13) 14 v3) 15 x15) 16 x16) 17 x17) 18 x18) 19 x19) 20 x20) v2) I L)
 (fad Tryd.prog 47 x5 2 I L fun x21 I L =>
 ld Tryd.prog 45 x21 I L fun x22 I L =>
 mkm Tryd.prog 61 none I L fun x24 I L =>
 cal Tryd.prog 23 #[x22, v3, x24, (.slice none 0 0)] I L (xR R) fun x25 I L =>
 al Tryd.prog 26 I L fun x6 I L =>
 sto Tryd.prog 26 x6 x25 I L fun _ I L =>
 ld Tryd.prog 26 x6 I L fun x26 I L =>
 cal Tryd.prog 6 #[x26] I L (xR R) fun x27 I L =>
 un Tryd.prog .not x27 I L fun x28 I L =>
 cnd x28
 (ld Tryd.prog 26 x6 I L fun x29 I L =>
 sto Tryd.prog 26 v2 x29 I L fun _ I L =>
Q .ret (F9_r (U (U (U (U (U (U (U (U (U (U (U (U (U (U (U (U (U (U (U (U (U (U s 3 v3) 5 x5) 6 x6) 8 v8) 9 v9) 10 v10) 11 x11) 12 x12) 13 x13) 14 v3) 15 x15) 16 x16) 17 x17) 21 x21) 22 x22) 23 v3) 24 x24) 25 x25) 26 x26) 27 x27) 28 x28) 29 x29) v2) I L)
 (fad Tryd.prog 47 x5 0 I L fun x31 I L =>
 ld Tryd.prog 9 x31 I L fun x32 I L =>
 mup Tryd.prog 61 v3 x32 (.bool true) I L fun _ I L =>
 bin Tryd.prog .add 3 v10 (.int .i64 1) I L fun x33 I L =>
N (F9_0 (U (U (U (U (U (U (U (U (U (U (U (U (U (U (U (U (U (U (U (U (U s 5 x5) 6 x6) 11 x11) 12 x12) 13 x13) 14 v3) 15 x15) 16 x16) 17 x17) 21 x21) 22 x22) 23 v3) 24 x24) 25 x25) 26 x26) 27 x27) 28 x28) 30 v3) 31 x31) 32 x32) 33 x33) v2 v3 v8 v9 x33) I L)))
 (Q (.exit 0) (F9_1 (U (U (U (U (U s 3 v3) 8 v8) 9 v9) 10 v10) 11 x11) v2) I L)
theorem round9_0 {R : Ending → Imm → Own → Prop} {N : Act → Imm → Own → Prop} {Q : Exit → Act → Imm → Own → Prop} {s : Env} {v2 v3 v8 v9 v10 : Value} {I : Imm} {L : Own} (h : B9_0 R N Q s v2 v3 v8 v9 v10 I L) : cdB Tryd.prog (cdIn Tryd.f9 [1, 1, 0, 1, 0, 0]) (seqT N Q) (endN R) (F9_0 s v2 v3 v8 v9 v10) I L :=
  sh_cutB (fun _ => none) (O := True) (by kernel_rfl) trivial (by kernel_rfl) h
theorem loop9_0 {R : Ending → Imm → Own → Prop} {s : Env} {v2 v3 v8 v9 : Value} {u10 : Value} {I : Imm} {L : Own} (Inv : Nat → Value → Imm → Own → Prop) {n : Nat} (h : Inv n u10 I L)
  (round : ∀ (n : Nat) (x10 : Value) (I' : Imm) (L' : Own), I.Le I' → Inv n x10 I' L' → ∀ (N' : Act → Imm → Own → Prop), (∀ (m : Nat) {s : Env} {y10 : Value} {I : Imm} {L : Own}, m < n → Inv m y10 I L → N' (F9_0 s v2 v3 v8 v9 y10) I L) → ∀ (s : Env), B9_0 R N' (Q9_0 R) s v2 v3 v8 v9 x10 I' L') : L9_0 R (F9_0 s v2 v3 v8 v9 u10) I L :=
  loop_genB (by kernel_rfl) (fun n a I L => ∃ (s : Env) (x10 : Value), a = (F9_0 s v2 v3 v8 v9 x10) ∧ Inv n x10 I L) ⟨s, _, rfl, h⟩ fun n a I' L' hle ⟨s, x10, e, hi⟩ => e ▸ round9_0 (round n x10 I' L' hle hi (fun a I L => ∃ m, m < n ∧ (fun n a I L => ∃ (s : Env) (x10 : Value), a = (F9_0 s v2 v3 v8 v9 x10) ∧ Inv n x10 I L) m a I L) (fun m {s y10 I L} hm hi => ⟨m, hm, s, _, rfl, hi⟩) s)
theorem out9_0x0 {R : Ending → Imm → Own → Prop} {s : Env} {v2 : Value} {I : Imm} {L : Own} (h : J9_1 R (F9_1 s v2) I L) : Q9_0 R (.exit 0) (F9_1 s v2) I L :=
  Eq.mpr (by kernel_rfl) h
theorem out9_0r {R : Ending → Imm → Own → Prop} {s : Env} {v2 : Value} {I : Imm} {L : Own} (h : rcl Tryd.prog 26 v2 I L fun r0 =>
R (.returned r0) I L) : Q9_0 R .ret (F9_r s v2) I L :=
  Eq.mpr (by kernel_rfl) h
/-- 9_1: live: 2 -/
def T9_1 (R : Ending → Imm → Own → Prop) (s : Env) (v2 : Value) (I : Imm) (L : Own) : Prop :=
 cal Tryd.prog 18 #[] I L (xR R) fun x34 I L =>
 sto Tryd.prog 26 v2 x34 I L fun _ I L =>
 rcl Tryd.prog 26 v2 I L fun r0 =>
R (.returned r0) I L
theorem join9_1 {R : Ending → Imm → Own → Prop} {s : Env} {v2 : Value} {I : Imm} {L : Own} (h : T9_1 R s v2 I L) : J9_1 R (F9_1 s v2) I L :=
  sh_cutB (fun _ => none) (O := True) (by kernel_rfl) trivial (by kernel_rfl) h
/-- 9: escritoire/escritoireref.TypesCheck -/
def M9 (R : Ending → Imm → Own → Prop) (x0 : Value) (I : Imm) (L : Own) : Prop :=
 al Tryd.prog 26 I L fun x2 I L =>
 mkm Tryd.prog 61 none I L fun x7 I L =>
 blt Tryd.prog .len #[23] 3 #[x0] I L fun x9 I L =>
L9_0 R (F9_0 (U (U eU 0 x0) 7 x7) x2 x7 x0 x9 (.int .i64 0)) I L
theorem go9 {R : Ending → Imm → Own → Prop} {x0 : Value} {I : Imm} {L : Own} (h : M9 R x0 I L) : wpC Tryd.prog 9 #[x0] I L R :=
  wpC_goX (endN_le _ _ R) (fun p => if p = [0, 1, 0, 1, 1] then some (L9_0 R) else none) Tryd.func9 (by kernel_rfl) (O := (L9_0 R = L9_0 R) ∧ True) (by kernel_rfl) ⟨rfl, trivial⟩ (by kernel_rfl) h

def F10_r (s : Env) (v2 v3 : Value) : Act := fr 18 (U (U s 2 v2) 3 v3) []
def F10_0 (s : Env) (v0 v3 v4 v5 : Value) : Act := fr 18 (U (U (U (U s 0 v0) 3 v3) 4 v4) 5 v5) []
def F10_1 (s : Env) (v2 v3 : Value) : Act := fr 18 (U (U s 2 v2) 3 v3) []
def Q10_0 (R : Ending → Imm → Own → Prop) : Exit → Act → Imm → Own → Prop := (seqT (cdB Tryd.prog (cdIn Tryd.f10 [1, 1, 1]) (endB Tryd.prog Tryd.f10 R) (endN R)) (endB Tryd.prog Tryd.f10 R))
def D10_0 (R : Ending → Imm → Own → Prop) (a : Act) (I : Imm) (L : Own) : Prop := cdB Tryd.prog (cdIn Tryd.f10 [1, 1, 0]) (Q10_0 R) (endN R) a I L
def Q10_1 (R : Ending → Imm → Own → Prop) : Exit → Act → Imm → Own → Prop := (endB Tryd.prog Tryd.f10 R)
def J10_1 (R : Ending → Imm → Own → Prop) (a : Act) (I : Imm) (L : Own) : Prop := cdB Tryd.prog (cdIn Tryd.f10 [1, 1, 1]) (Q10_1 R) (endN R) a I L
/-- 10_0: live: 0 3 4 5 -/
def G10_0 (R : Ending → Imm → Own → Prop) (C : Cls) (s : Env) (v0 v3 v4 v5 : Value) (I : Imm) (L : Own) : Prop :=
 qblt Tryd.prog .len #[9] 3 #[v0] C fun x13 =>
 qcal Tryd.prog 18 #[] C fun x14 =>
 qbld Tryd.prog 40 #[(0, v4), (1, x13), (2, x14)] C fun x15 =>
 qld Tryd.prog 26 v5 C fun x17 =>
 bx Tryd.prog 40 x15 I L fun x16 I L =>
 (C I L ∧
 sto Tryd.prog 26 v3 x17 I L fun _ I L =>
J10_1 R (F10_1 (U (U (U (U (U (U (U (U (U (U s 0 v0) 4 v4) 5 v5) 11 v4) 12 v0) 13 x13) 14 x14) 15 x15) 16 x16) 17 x17) x16 v3) I L)
theorem draw10_0 {R : Ending → Imm → Own → Prop} {C : Cls} {s : Env} {v0 v3 v4 v5 : Value} {I : Imm} {L : Own} (hC : C I L) (h : G10_0 R C s v0 v3 v4 v5 I L) : D10_0 R (F10_0 s v0 v3 v4 v5) I L :=
  draw_planB (ops := opsIn Tryd.f10 [1, 1, 0]) (id := 2) (Q := Q10_0 R) (X := (endN R)) endN_put (.take 0 (.take 1 (.take 2 (.take 3 (.take 4 (.take 6 (.all fun _ => (.take 7 (.all fun _ => .done))))))))) [8] (by kernel_rfl) rfl (by kernel_rfl) (by kernel_rfl) hC h
/-- 10_1: live: 2 3 -/
def T10_1 (R : Ending → Imm → Own → Prop) (s : Env) (v2 v3 : Value) (I : Imm) (L : Own) : Prop :=
 rcl Tryd.prog 26 v3 I L fun r1 =>
R (.returned (.tuple #[v2, r1])) I L
theorem join10_1 {R : Ending → Imm → Own → Prop} {s : Env} {v2 v3 : Value} {I : Imm} {L : Own} (h : T10_1 R s v2 v3 I L) : J10_1 R (F10_1 s v2 v3) I L :=
  sh_cutB (fun _ => none) (O := True) (by kernel_rfl) trivial (by kernel_rfl) h
/-- 10: escritoire/escritoireref.newEyes -/
def M10 (R : Ending → Imm → Own → Prop) (x0 : Value) (I : Imm) (L : Own) : Prop :=
 al Tryd.prog 26 I L fun x3 I L =>
 cal Tryd.prog 24 #[x0] I L (xR R) fun x8 I L =>
 ext Tryd.prog x8 0 I L fun x9 I L =>
 ext Tryd.prog x8 1 I L fun x10 I L =>
 al Tryd.prog 26 I L fun x5 I L =>
 sto Tryd.prog 26 x5 x10 I L fun _ I L =>
D10_0 R (F10_0 (U (U (U (U (U (U eU 2 (.pointer none)) 6 x8) 7 x0) 8 x8) 9 x9) 10 x10) x0 x3 x9 x5) I L
theorem go10 {R : Ending → Imm → Own → Prop} {x0 : Value} {I : Imm} {L : Own} (h : M10 R x0 I L) : wpC Tryd.prog 10 #[x0] I L R :=
  wpC_goX (endN_le _ _ R) (fun p => if p = [0, 1, 1] then some (D10_0 R) else none) Tryd.func10 (by kernel_rfl) (O := (D10_0 R = D10_0 R) ∧ True) (by kernel_rfl) ⟨rfl, trivial⟩ (by kernel_rfl) h

def F11_r (s : Env) (v2 : Value) : Act := fr 9 (U s 2 v2) []
/-- 11: (*escritoire/escritoireref.eyes).stop -/
def M11 (R : Ending → Imm → Own → Prop) (x0 : Value) (I : Imm) (L : Own) : Prop :=
 nck Tryd.prog x0 I L fun x4 I L =>
 fad Tryd.prog 40 x4 2 I L fun x5 I L =>
 ld Tryd.prog 26 x5 I L fun x6 I L =>
 cal Tryd.prog 6 #[x6] I L (xR R) fun x7 I L =>
 un Tryd.prog .not x7 I L fun x8 I L =>
R (.returned x8) I L
theorem go11 {R : Ending → Imm → Own → Prop} {x0 : Value} {I : Imm} {L : Own} (h : M11 R x0 I L) : wpC Tryd.prog 11 #[x0] I L R :=
  wpC_goX (endN_le _ _ R) (fun _ => none) Tryd.func11 (by kernel_rfl) (O := True) (by kernel_rfl) trivial (by kernel_rfl) h

def F12_r (s : Env) (v2 : Value) : Act := fr 20 (U s 2 v2) []
/-- 12: (*escritoire/escritoireref.eyes).text -/
def M12 (R : Ending → Imm → Own → Prop) (x0 : Value) (I : Imm) (L : Own) : Prop :=
 cal Tryd.prog 11 #[x0] I L (xR R) fun x4 I L =>
 gd (yb (some x4) false) (fun k => k x0 I L) (fun x6 I L =>
 gd (yb (some x4) false) (fun k => nck Tryd.prog x6 I L k) (fun x7 I L =>
 gd (yb (some x4) false) (fun k => fad Tryd.prog 40 x7 0 I L k) (fun x8 I L =>
 gd (yb (some x4) false) (fun k => ld Tryd.prog 38 x8 I L k) (fun x9 I L =>
 gd (yb (some x4) false) (fun k => blt Tryd.prog .len #[38] 3 #[x9] I L k) (fun x10 I L =>
 gd (yb (some x4) false) (fun k => eqn Tryd.prog .eql 3 false true x10 (.int .i64 0) I L k) (fun x11 I L =>
pck x4 (.bool true) x11 I L fun x12 I L =>
 cnd x12
 (R (.returned (S [])) I L)
 (nck Tryd.prog x0 I L fun x14 I L =>
 fad Tryd.prog 40 x14 0 I L fun x15 I L =>
 ld Tryd.prog 38 x15 I L fun x16 I L =>
 iad Tryd.prog 38 x16 (.int .i64 0) I L fun x17 I L =>
 fad Tryd.prog 66 x17 0 I L fun x18 I L =>
 ld Tryd.prog 9 x18 I L fun x19 I L =>
R (.returned x19) I L)) I L) I L) I L) I L) I L) I L
theorem go12 {R : Ending → Imm → Own → Prop} {x0 : Value} {I : Imm} {L : Own} (h : M12 R x0 I L) : wpC Tryd.prog 12 #[x0] I L R :=
  wpC_goX (endN_le _ _ R) (fun _ => none) Tryd.func12 (by kernel_rfl) (O := True) (by kernel_rfl) trivial (by kernel_rfl) h

def F13_r (s : Env) : Act := fr 15 s []
/-- 13: (*escritoire/escritoireref.eyes).wrong -/
def M13 (R : Ending → Imm → Own → Prop) (x0 x1 x2 : Value) (I : Imm) (L : Own) : Prop :=
 cal Tryd.prog 11 #[x0] I L (xR R) fun x7 I L =>
 un Tryd.prog .not x7 I L fun x8 I L =>
 cnd x8
 (bld Tryd.prog 26 #[(0, x1), (1, x2)] I L fun x12 I L =>
 nck Tryd.prog x0 I L fun x13 I L =>
 fad Tryd.prog 40 x13 2 I L fun x14 I L =>
 sto Tryd.prog 26 x14 x12 I L fun _ I L =>
R (.returned (.tuple #[])) I L)
 (R (.returned (.tuple #[])) I L)
theorem go13 {R : Ending → Imm → Own → Prop} {x0 x1 x2 : Value} {I : Imm} {L : Own} (h : M13 R x0 x1 x2 I L) : wpC Tryd.prog 13 #[x0, x1, x2] I L R :=
  wpC_goX (endN_le _ _ R) (fun _ => none) Tryd.func13 (by kernel_rfl) (O := True) (by kernel_rfl) trivial (by kernel_rfl) h

def F14_r (s : Env) (v2 : Value) : Act := fr 20 (U s 2 v2) []
/-- 14: (*escritoire/escritoireref.eyes).place -/
def M14 (R : Ending → Imm → Own → Prop) (x0 : Value) (I : Imm) (L : Own) : Prop :=
 nck Tryd.prog x0 I L fun x4 I L =>
 fad Tryd.prog 40 x4 0 I L fun x5 I L =>
 ld Tryd.prog 38 x5 I L fun x6 I L =>
 blt Tryd.prog .len #[38] 3 #[x6] I L fun x7 I L =>
 eqn Tryd.prog .eql 3 false true x7 (.int .i64 0) I L fun x8 I L =>
 cnd x8
 (nck Tryd.prog x0 I L fun x10 I L =>
 fad Tryd.prog 40 x10 1 I L fun x11 I L =>
 ld Tryd.prog 3 x11 I L fun x12 I L =>
R (.returned x12) I L)
 (nck Tryd.prog x0 I L fun x14 I L =>
 fad Tryd.prog 40 x14 0 I L fun x15 I L =>
 ld Tryd.prog 38 x15 I L fun x16 I L =>
 iad Tryd.prog 38 x16 (.int .i64 0) I L fun x17 I L =>
 fad Tryd.prog 66 x17 1 I L fun x18 I L =>
 ld Tryd.prog 3 x18 I L fun x19 I L =>
R (.returned x19) I L)
theorem go14 {R : Ending → Imm → Own → Prop} {x0 : Value} {I : Imm} {L : Own} (h : M14 R x0 I L) : wpC Tryd.prog 14 #[x0] I L R :=
  wpC_goX (endN_le _ _ R) (fun _ => none) Tryd.func14 (by kernel_rfl) (O := True) (by kernel_rfl) trivial (by kernel_rfl) h

def F15_r (s : Env) : Act := fr 12 s []
/-- 15: (*escritoire/escritoireref.eyes).must -/
def M15 (R : Ending → Imm → Own → Prop) (x0 x1 : Value) (I : Imm) (L : Own) : Prop :=
 cal Tryd.prog 25 #[x0, x1] I L (xR R) fun x6 I L =>
 un Tryd.prog .not x6 I L fun x7 I L =>
 cnd x7
 (cal Tryd.prog 14 #[x0] I L (xR R) fun x10 I L =>
 cal Tryd.prog 13 #[x0, (.int .i64 3), x10] I L (xR R) fun _ I L =>
R (.returned (.tuple #[])) I L)
 (R (.returned (.tuple #[])) I L)
theorem go15 {R : Ending → Imm → Own → Prop} {x0 x1 : Value} {I : Imm} {L : Own} (h : M15 R x0 x1 I L) : wpC Tryd.prog 15 #[x0, x1] I L R :=
  wpC_goX (endN_le _ _ R) (fun _ => none) Tryd.func15 (by kernel_rfl) (O := True) (by kernel_rfl) trivial (by kernel_rfl) h

def F16_r (s : Env) (v2 : Value) : Act := fr 38 (U s 2 v2) []
def F16_0 (s : Env) (v0 v3 : Value) : Act := fr 38 (U (U s 0 v0) 3 v3) []
def Q16_0 (R : Ending → Imm → Own → Prop) : Exit → Act → Imm → Own → Prop := (endB Tryd.prog Tryd.f16 R)
def J16_0 (R : Ending → Imm → Own → Prop) (a : Act) (I : Imm) (L : Own) : Prop := cdB Tryd.prog (cdIn Tryd.f16 [1, 1, 1]) (Q16_0 R) (endN R) a I L
/-- 16_0: live: 0 3 -/
def T16_0 (R : Ending → Imm → Own → Prop) (s : Env) (v0 v3 : Value) (I : Imm) (L : Own) : Prop :=
 cal Tryd.prog 11 #[v0] I L (xR R) fun x33 I L =>
 un Tryd.prog .not x33 I L fun x34 I L =>
 cnd x34
 (cal Tryd.prog 29 #[v0] I L (xR R) fun _ I L =>
R (.returned v3) I L)
 (R (.returned v3) I L)
theorem join16_0 {R : Ending → Imm → Own → Prop} {s : Env} {v0 v3 : Value} {I : Imm} {L : Own} (h : T16_0 R s v0 v3 I L) : J16_0 R (F16_0 s v0 v3) I L :=
  sh_cutB (fun _ => none) (O := True) (by kernel_rfl) trivial (by kernel_rfl) h
/-- 16: (*escritoire/escritoireref.eyes).name -/
def M16 (R : Ending → Imm → Own → Prop) (x0 : Value) (I : Imm) (L : Own) : Prop :=
 cal Tryd.prog 12 #[x0] I L (xR R) fun x5 I L =>
 cal Tryd.prog 26 #[x5] I L (xR R) fun x8 I L =>
 un Tryd.prog .not x8 I L fun x9 I L =>
 gd (yb (some x9) false) (fun k => k x5 I L) (fun x11 I L =>
 gd (yb (some x9) false) (fun k => cal Tryd.prog 27 #[x11] I L (xR R) k) (fun x12 I L =>
pck x9 (.bool true) x12 I L fun x13 I L =>
 gd (yb (some x13) false) (fun k => k x5 I L) (fun x15 I L =>
 gd (yb (some x13) false) (fun k => bin Tryd.prog .add 9 (S [32]) x15 I L k) (fun x16 I L =>
 gd (yb (some x13) false) (fun k => bin Tryd.prog .add 9 x16 (S [32]) I L k) (fun x17 I L =>
 gd (yb (some x13) false) (fun k => cal Tryd.prog 28 #[(S [32, 115, 116, 114, 117, 99, 116, 32, 98, 121, 116, 101, 115, 32, 119, 104, 101, 110, 32, 115, 105, 122, 101, 32, 99, 111, 117, 110, 116, 32, 99, 104, 101, 99, 107, 32]), x17] I L (xR R) k) (fun x18 I L =>
pck x13 (.bool true) x18 I L fun x19 I L =>
 cnd x19
 (cal Tryd.prog 14 #[x0] I L (xR R) fun x22 I L =>
 cal Tryd.prog 13 #[x0, (.int .i64 3), x22] I L (xR R) fun x23 I L =>
J16_0 R (F16_0 (U (U (U (U (U (U (U (U (U (U (U (U (U (U (U (U (U (U (U (U (U eU 2 (S [])) 4 x0) 5 x5) 6 x19) 7 x5) 8 x8) 9 x9) 10 x9) 11 x11) 12 x12) 13 x13) 14 x13) 15 x15) 16 x16) 17 x17) 18 x18) 19 x19) 20 x0) 21 x0) 22 x22) 23 x23) x0 x5) I L)
 (blt Tryd.prog .len #[9] 3 #[x5] I L fun x26 I L =>
 bin Tryd.prog .gtr 3 x26 (.int .i64 12) I L fun x27 I L =>
 cnd x27
 (cal Tryd.prog 14 #[x0] I L (xR R) fun x30 I L =>
 cal Tryd.prog 13 #[x0, (.int .i64 4), x30] I L (xR R) fun x31 I L =>
J16_0 R (F16_0 (U (U (U (U (U (U (U (U (U (U (U (U (U (U (U (U (U (U (U (U (U (U (U (U (U eU 2 (S [])) 4 x0) 5 x5) 6 x19) 7 x5) 8 x8) 9 x9) 10 x9) 11 x11) 12 x12) 13 x13) 14 x13) 15 x15) 16 x16) 17 x17) 18 x18) 19 x19) 24 x27) 25 x5) 26 x26) 27 x27) 28 x0) 29 x0) 30 x30) 31 x31) x0 x5) I L)
 (J16_0 R (F16_0 (U (U (U (U (U (U (U (U (U (U (U (U (U (U (U (U (U (U (U (U (U eU 2 (S [])) 4 x0) 5 x5) 6 x19) 7 x5) 8 x8) 9 x9) 10 x9) 11 x11) 12 x12) 13 x13) 14 x13) 15 x15) 16 x16) 17 x17) 18 x18) 19 x19) 24 x27) 25 x5) 26 x26) 27 x27) x0 x5) I L))) I L) I L) I L) I L) I L) I L
theorem go16 {R : Ending → Imm → Own → Prop} {x0 : Value} {I : Imm} {L : Own} (h : M16 R x0 I L) : wpC Tryd.prog 16 #[x0] I L R :=
  wpC_goX (endN_le _ _ R) (fun p => if p = [1, 1, 1] then some (J16_0 R) else none) Tryd.func16 (by kernel_rfl) (O := (J16_0 R = J16_0 R) ∧ True) (by kernel_rfl) ⟨rfl, trivial⟩ (by kernel_rfl) h

def F17_r (s : Env) (v4 : Value) : Act := fr 41 (U s 4 v4) []
def F17_0 (s : Env) (v0 v1 : Value) : Act := fr 41 (U (U s 0 v0) 1 v1) []
def F17_1 (s : Env) (v0 v1 v5 : Value) : Act := fr 41 (U (U (U s 0 v0) 1 v1) 5 v5) []
def F17_2 (s : Env) (v5 : Value) : Act := fr 41 (U s 5 v5) []
def Q17_0 (R : Ending → Imm → Own → Prop) : Exit → Act → Imm → Own → Prop := (endB Tryd.prog Tryd.f17 R)
def J17_0 (R : Ending → Imm → Own → Prop) (a : Act) (I : Imm) (L : Own) : Prop := cdB Tryd.prog (cdIn Tryd.f17 [1, 1]) (Q17_0 R) (endN R) a I L
def Q17_1 (R : Ending → Imm → Own → Prop) : Exit → Act → Imm → Own → Prop := (blkT 0 (seqT (cdB Tryd.prog (cdIn Tryd.f17 [1, 1, 1, 1, 1]) (Q17_0 R) (endN R)) (Q17_0 R)))
def L17_1 (R : Ending → Imm → Own → Prop) (a : Act) (I : Imm) (L : Own) : Prop := cdB Tryd.prog (cdIn Tryd.f17 [1, 1, 1, 1, 0, 0]) (Q17_1 R) (endN R) a I L
def Q17_2 (R : Ending → Imm → Own → Prop) : Exit → Act → Imm → Own → Prop := (Q17_0 R)
def J17_2 (R : Ending → Imm → Own → Prop) (a : Act) (I : Imm) (L : Own) : Prop := cdB Tryd.prog (cdIn Tryd.f17 [1, 1, 1, 1, 1]) (Q17_2 R) (endN R) a I L
/-- 17_0: live: 0 1 -/
def T17_0 (R : Ending → Imm → Own → Prop) (s : Env) (v0 v1 : Value) (I : Imm) (L : Own) : Prop :=
 cal Tryd.prog 15 #[v0, (S [123])] I L (xR R) fun x18 I L =>
L17_1 R (F17_1 (U (U s 17 v0) 18 x18) v0 v1 (.slice none 0 0)) I L
theorem join17_0 {R : Ending → Imm → Own → Prop} {s : Env} {v0 v1 : Value} {I : Imm} {L : Own} (h : T17_0 R s v0 v1 I L) : J17_0 R (F17_0 s v0 v1) I L :=
  sh_cutB (fun p => if p = [0, 0, 1, 1] then some (L17_1 R) else none) (O := (L17_1 R = L17_1 R) ∧ True) (by kernel_rfl) ⟨rfl, trivial⟩ (by kernel_rfl) h
/-- loop 17_1: live: 0 1 5; what changes: 5 -/
def B17_1 (R : Ending → Imm → Own → Prop) (N : Act → Imm → Own → Prop) (Q : Exit → Act → Imm → Own → Prop) (s : Env) (v0 v1 v5 : Value) (I : Imm) (L : Own) : Prop :=
 cal Tryd.prog 11 #[v0] I L (xR R) fun x20 I L =>
 un Tryd.prog .not x20 I L fun x21 I L =>
 gd (yb (some x21) true) (fun k => k v0 I L) (fun x23 I L =>
 gd (yb (some x21) true) (fun k => cal Tryd.prog 25 #[x23, (S [125])] I L (xR R) k) (fun x24 I L =>
 gd (yb (some x21) true) (fun k => un Tryd.prog .not x24 I L k) (fun x25 I L =>
pck x21 x25 (.bool false) I L fun x26 I L =>
 cnd x26
 (blt Tryd.prog .len #[45] 3 #[v5] I L fun x28 I L =>
 bin Tryd.prog .geq 3 x28 (.int .i64 16) I L fun x29 I L =>
 cnd x29
 (cal Tryd.prog 14 #[v0] I L (xR R) fun x32 I L =>
 cal Tryd.prog 13 #[v0, (.int .i64 4), x32] I L (xR R) fun x33 I L =>
Q (.exit 0) (F17_2 (U (U (U (U (U (U (U (U (U (U (U (U (U (U (U (U (U s 0 v0) 1 v1) 19 v0) 20 x20) 21 x21) 22 x21) 23 x23) 24 x24) 25 x25) 26 x26) 27 v5) 28 x28) 29 x29) 30 v0) 31 v0) 32 x32) 33 x33) v5) I L)
 (cal Tryd.prog 30 #[v0, v1] I L (xR R) fun x37 I L =>
 bsl Tryd.prog 45 1 #[(0, x37)] I L fun x38 I L =>
 blt Tryd.prog .append #[45, 45] 45 #[v5, x38] I L fun x39 I L =>
N (F17_1 (U (U (U (U (U (U (U (U (U (U (U (U (U (U (U (U (U s 19 v0) 20 x20) 21 x21) 22 x21) 23 x23) 24 x24) 25 x25) 26 x26) 27 v5) 28 x28) 29 x29) 34 v5) 35 v0) 36 v1) 37 x37) 38 x38) 39 x39) v0 v1 x39) I L))
 (Q (.exit 0) (F17_2 (U (U (U (U (U (U (U (U (U (U s 0 v0) 1 v1) 19 v0) 20 x20) 21 x21) 22 x21) 23 x23) 24 x24) 25 x25) 26 x26) v5) I L)) I L) I L) I L
theorem round17_1 {R : Ending → Imm → Own → Prop} {N : Act → Imm → Own → Prop} {Q : Exit → Act → Imm → Own → Prop} {s : Env} {v0 v1 v5 : Value} {I : Imm} {L : Own} (h : B17_1 R N Q s v0 v1 v5 I L) : cdB Tryd.prog (cdIn Tryd.f17 [1, 1, 1, 1, 0, 0, 0]) (seqT N Q) (endN R) (F17_1 s v0 v1 v5) I L :=
  sh_cutB (fun _ => none) (O := True) (by kernel_rfl) trivial (by kernel_rfl) h
theorem loop17_1 {R : Ending → Imm → Own → Prop} {s : Env} {v0 v1 : Value} {u5 : Value} {I : Imm} {L : Own} (Inv : Nat → Value → Imm → Own → Prop) {n : Nat} (h : Inv n u5 I L)
  (round : ∀ (n : Nat) (x5 : Value) (I' : Imm) (L' : Own), I.Le I' → Inv n x5 I' L' → ∀ (N' : Act → Imm → Own → Prop), (∀ (m : Nat) {s : Env} {y5 : Value} {I : Imm} {L : Own}, m < n → Inv m y5 I L → N' (F17_1 s v0 v1 y5) I L) → ∀ (s : Env), B17_1 R N' (Q17_1 R) s v0 v1 x5 I' L') : L17_1 R (F17_1 s v0 v1 u5) I L :=
  loop_genB (by kernel_rfl) (fun n a I L => ∃ (s : Env) (x5 : Value), a = (F17_1 s v0 v1 x5) ∧ Inv n x5 I L) ⟨s, _, rfl, h⟩ fun n a I' L' hle ⟨s, x5, e, hi⟩ => e ▸ round17_1 (round n x5 I' L' hle hi (fun a I L => ∃ m, m < n ∧ (fun n a I L => ∃ (s : Env) (x5 : Value), a = (F17_1 s v0 v1 x5) ∧ Inv n x5 I L) m a I L) (fun m {s y5 I L} hm hi => ⟨m, hm, s, _, rfl, hi⟩) s)
theorem out17_1x0 {R : Ending → Imm → Own → Prop} {s : Env} {v5 : Value} {I : Imm} {L : Own} (h : J17_2 R (F17_2 s v5) I L) : Q17_1 R (.exit 0) (F17_2 s v5) I L :=
  Eq.mpr (by kernel_rfl) h
/-- 17_2: live: 5 -/
def T17_2 (R : Ending → Imm → Own → Prop) (s : Env) (v5 : Value) (I : Imm) (L : Own) : Prop :=
R (.returned v5) I L
theorem join17_2 {R : Ending → Imm → Own → Prop} {s : Env} {v5 : Value} {I : Imm} {L : Own} (h : T17_2 R s v5 I L) : J17_2 R (F17_2 s v5) I L :=
  sh_cutB (fun _ => none) (O := True) (by kernel_rfl) trivial (by kernel_rfl) h
/-- 17: (*escritoire/escritoireref.eyes).block -/
def M17 (R : Ending → Imm → Own → Prop) (x0 x1 : Value) (I : Imm) (L : Own) : Prop :=
 cal Tryd.prog 12 #[x0] I L (xR R) fun x7 I L =>
 eqn Tryd.prog .eql 9 false true x7 (S [123]) I L fun x8 I L =>
 gd (yb (some x8) true) (fun k => k x1 I L) (fun x10 I L =>
 gd (yb (some x8) true) (fun k => bin Tryd.prog .gtr 3 x10 (.int .i64 8) I L k) (fun x11 I L =>
pck x8 x11 (.bool false) I L fun x12 I L =>
 cnd x12
 (cal Tryd.prog 14 #[x0] I L (xR R) fun x15 I L =>
 cal Tryd.prog 13 #[x0, (.int .i64 4), x15] I L (xR R) fun x16 I L =>
J17_0 R (F17_0 (U (U (U (U (U (U (U (U (U (U (U (U eU 4 (.slice none 0 0)) 6 x0) 7 x7) 8 x8) 9 x8) 10 x10) 11 x11) 12 x12) 13 x0) 14 x0) 15 x15) 16 x16) x0 x1) I L)
 (J17_0 R (F17_0 (U (U (U (U (U (U (U (U eU 4 (.slice none 0 0)) 6 x0) 7 x7) 8 x8) 9 x8) 10 x10) 11 x11) 12 x12) x0 x1) I L)) I L) I L
theorem go17 {R : Ending → Imm → Own → Prop} {x0 x1 : Value} {I : Imm} {L : Own} (h : M17 R x0 x1 I L) : wpC Tryd.prog 17 #[x0, x1] I L R :=
  wpC_goX (endN_le _ _ R) (fun p => if p = [1, 1] then some (J17_0 R) else none) Tryd.func17 (by kernel_rfl) (O := (J17_0 R = J17_0 R) ∧ True) (by kernel_rfl) ⟨rfl, trivial⟩ (by kernel_rfl) h

def F18_r (s : Env) (v0 : Value) : Act := fr 2 (U s 0 v0) []
/-- 18: escritoire/escritoireref.Good -/
def M18 (R : Ending → Imm → Own → Prop) (I : Imm) (L : Own) : Prop :=
 al Tryd.prog 26 I L fun x0 I L =>
 bld Tryd.prog 26 #[(0, (.int .i64 0)), (1, (.int .i64 (-1)))] I L fun x1 I L =>
 sto Tryd.prog 26 x0 x1 I L fun _ I L =>
 rcl Tryd.prog 26 x0 I L fun r0 =>
R (.returned r0) I L
theorem go18 {R : Ending → Imm → Own → Prop} {I : Imm} {L : Own} (h : M18 R  I L) : wpC Tryd.prog 18 #[] I L R :=
  wpC_goX (endN_le _ _ R) (fun _ => none) Tryd.func18 (by kernel_rfl) (O := True) (by kernel_rfl) trivial (by kernel_rfl) h

def F23_r (s : Env) (v8 : Value) : Act := fr 191 (U s 8 v8) []
def F23_0 (s : Env) (v0 v1 v2 v7 v8 v9 v21 v22 v23 : Value) : Act := fr 191 (U (U (U (U (U (U (U (U (U s 0 v0) 1 v1) 2 v2) 7 v7) 8 v8) 9 v9) 21 v21) 22 v22) 23 v23) []
def F23_1 (s : Env) (v0 v1 v2 v7 v8 v9 v11 v21 v22 v23 : Value) : Act := fr 191 (U (U (U (U (U (U (U (U (U (U s 0 v0) 1 v1) 2 v2) 7 v7) 8 v8) 9 v9) 11 v11) 21 v21) 22 v22) 23 v23) []
def F23_2 (s : Env) (v0 v8 : Value) : Act := fr 191 (U (U s 0 v0) 8 v8) []
def F23_3 (s : Env) (v0 v1 v2 v7 v8 v9 v11 v21 v22 v23 : Value) : Act := fr 191 (U (U (U (U (U (U (U (U (U (U s 0 v0) 1 v1) 2 v2) 7 v7) 8 v8) 9 v9) 11 v11) 21 v21) 22 v22) 23 v23) []
def F23_4 (s : Env) (v0 v8 v93 v94 v95 : Value) : Act := fr 191 (U (U (U (U (U s 0 v0) 8 v8) 93 v93) 94 v94) 95 v95) []
def F23_5 (s : Env) (v0 v1 v2 v7 v8 v9 v11 v21 v22 v23 : Value) : Act := fr 191 (U (U (U (U (U (U (U (U (U (U s 0 v0) 1 v1) 2 v2) 7 v7) 8 v8) 9 v9) 11 v11) 21 v21) 22 v22) 23 v23) []
def F23_6 (s : Env) (v0 v1 v2 v7 v8 v9 v21 v22 v23 : Value) : Act := fr 191 (U (U (U (U (U (U (U (U (U s 0 v0) 1 v1) 2 v2) 7 v7) 8 v8) 9 v9) 21 v21) 22 v22) 23 v23) []
def F23_7 (s : Env) (v0 v8 v14 v15 v16 v17 v93 v94 v95 : Value) : Act := fr 191 (U (U (U (U (U (U (U (U (U s 0 v0) 8 v8) 14 v14) 15 v15) 16 v16) 17 v17) 93 v93) 94 v94) 95 v95) []
def F23_8 (s : Env) (v0 v8 : Value) : Act := fr 191 (U (U s 0 v0) 8 v8) []
def F23_9 (s : Env) (v0 v8 v93 v94 v95 : Value) : Act := fr 191 (U (U (U (U (U s 0 v0) 8 v8) 93 v93) 94 v94) 95 v95) []
def F23_10 (s : Env) (v0 v8 v170 v171 v172 : Value) : Act := fr 191 (U (U (U (U (U s 0 v0) 8 v8) 170 v170) 171 v171) 172 v172) []
def F23_11 (s : Env) (v8 : Value) : Act := fr 191 (U s 8 v8) []
def Q23_0 (R : Ending → Imm → Own → Prop) : Exit → Act → Imm → Own → Prop := (blkT 0 (seqT (cdB Tryd.prog (cdIn Tryd.f23 [1, 1, 1]) (endB Tryd.prog Tryd.f23 R) (endN R)) (endB Tryd.prog Tryd.f23 R)))
def L23_0 (R : Ending → Imm → Own → Prop) (a : Act) (I : Imm) (L : Own) : Prop := cdB Tryd.prog (cdIn Tryd.f23 [1, 1, 0, 1, 0]) (Q23_0 R) (endN R) a I L
def Q23_1 (R : Ending → Imm → Own → Prop) (N : Act → Imm → Own → Prop) (Q : Exit → Act → Imm → Own → Prop) : Exit → Act → Imm → Own → Prop := (blkT 1 (seqT (cdB Tryd.prog (cdIn Tryd.f23 [1, 1, 0, 1, 0, 0, 1, 1, 1]) (seqT N Q) (endN R)) (seqT N Q)))
def J23_1 (R : Ending → Imm → Own → Prop) (N : Act → Imm → Own → Prop) (Q : Exit → Act → Imm → Own → Prop) (a : Act) (I : Imm) (L : Own) : Prop := cdB Tryd.prog (cdIn Tryd.f23 [1, 1, 0, 1, 0, 0, 1, 1, 0, 0, 1, 1]) (Q23_1 R N Q) (endN R) a I L
def Q23_2 (R : Ending → Imm → Own → Prop) : Exit → Act → Imm → Own → Prop := (endB Tryd.prog Tryd.f23 R)
def J23_2 (R : Ending → Imm → Own → Prop) (a : Act) (I : Imm) (L : Own) : Prop := cdB Tryd.prog (cdIn Tryd.f23 [1, 1, 1]) (Q23_2 R) (endN R) a I L
def Q23_3 (R : Ending → Imm → Own → Prop) (N : Act → Imm → Own → Prop) (Q : Exit → Act → Imm → Own → Prop) : Exit → Act → Imm → Own → Prop := (Q23_1 R N Q)
def J23_3 (R : Ending → Imm → Own → Prop) (N : Act → Imm → Own → Prop) (Q : Exit → Act → Imm → Own → Prop) (a : Act) (I : Imm) (L : Own) : Prop := cdB Tryd.prog (cdIn Tryd.f23 [1, 1, 0, 1, 0, 0, 1, 1, 0, 0, 1, 1, 1, 1]) (Q23_3 R N Q) (endN R) a I L
def Q23_4 (R : Ending → Imm → Own → Prop) : Exit → Act → Imm → Own → Prop := (blkT 2 (seqT (cdB Tryd.prog (cdIn Tryd.f23 [1, 1, 1, 1]) (Q23_2 R) (endN R)) (Q23_2 R)))
def L23_4 (R : Ending → Imm → Own → Prop) (a : Act) (I : Imm) (L : Own) : Prop := cdB Tryd.prog (cdIn Tryd.f23 [1, 1, 1, 0, 1, 0]) (Q23_4 R) (endN R) a I L
def Q23_5 (R : Ending → Imm → Own → Prop) (N : Act → Imm → Own → Prop) (Q : Exit → Act → Imm → Own → Prop) : Exit → Act → Imm → Own → Prop := (Q23_3 R N Q)
def D23_5 (R : Ending → Imm → Own → Prop) (N : Act → Imm → Own → Prop) (Q : Exit → Act → Imm → Own → Prop) (a : Act) (I : Imm) (L : Own) : Prop := cdB Tryd.prog (cdIn Tryd.f23 [1, 1, 0, 1, 0, 0, 1, 1, 0, 0, 1, 1, 1, 1, 1, 0]) (Q23_5 R N Q) (endN R) a I L
def Q23_6 (R : Ending → Imm → Own → Prop) (N : Act → Imm → Own → Prop) (Q : Exit → Act → Imm → Own → Prop) : Exit → Act → Imm → Own → Prop := (seqT N Q)
def J23_6 (R : Ending → Imm → Own → Prop) (N : Act → Imm → Own → Prop) (Q : Exit → Act → Imm → Own → Prop) (a : Act) (I : Imm) (L : Own) : Prop := cdB Tryd.prog (cdIn Tryd.f23 [1, 1, 0, 1, 0, 0, 1, 1, 1]) (Q23_6 R N Q) (endN R) a I L
def Q23_7 (R : Ending → Imm → Own → Prop) (N : Act → Imm → Own → Prop) (Q : Exit → Act → Imm → Own → Prop) : Exit → Act → Imm → Own → Prop := (blkT 3 (seqT (cdB Tryd.prog (cdIn Tryd.f23 [1, 1, 1, 0, 1, 0, 0, 1, 1, 1]) (seqT N Q) (endN R)) (seqT N Q)))
def J23_7 (R : Ending → Imm → Own → Prop) (N : Act → Imm → Own → Prop) (Q : Exit → Act → Imm → Own → Prop) (a : Act) (I : Imm) (L : Own) : Prop := cdB Tryd.prog (cdIn Tryd.f23 [1, 1, 1, 0, 1, 0, 0, 1, 1, 0, 0, 1, 1, 1, 1, 1]) (Q23_7 R N Q) (endN R) a I L
def Q23_8 (R : Ending → Imm → Own → Prop) : Exit → Act → Imm → Own → Prop := (Q23_2 R)
def J23_8 (R : Ending → Imm → Own → Prop) (a : Act) (I : Imm) (L : Own) : Prop := cdB Tryd.prog (cdIn Tryd.f23 [1, 1, 1, 1]) (Q23_8 R) (endN R) a I L
def Q23_9 (R : Ending → Imm → Own → Prop) (N : Act → Imm → Own → Prop) (Q : Exit → Act → Imm → Own → Prop) : Exit → Act → Imm → Own → Prop := (seqT N Q)
def J23_9 (R : Ending → Imm → Own → Prop) (N : Act → Imm → Own → Prop) (Q : Exit → Act → Imm → Own → Prop) (a : Act) (I : Imm) (L : Own) : Prop := cdB Tryd.prog (cdIn Tryd.f23 [1, 1, 1, 0, 1, 0, 0, 1, 1, 1]) (Q23_9 R N Q) (endN R) a I L
def Q23_10 (R : Ending → Imm → Own → Prop) : Exit → Act → Imm → Own → Prop := (blkT 5 (seqT (cdB Tryd.prog (cdIn Tryd.f23 [1, 1, 1, 1, 1]) (Q23_8 R) (endN R)) (Q23_8 R)))
def L23_10 (R : Ending → Imm → Own → Prop) (a : Act) (I : Imm) (L : Own) : Prop := cdB Tryd.prog (cdIn Tryd.f23 [1, 1, 1, 1, 0, 1, 0]) (Q23_10 R) (endN R) a I L
def Q23_11 (R : Ending → Imm → Own → Prop) : Exit → Act → Imm → Own → Prop := (Q23_8 R)
def J23_11 (R : Ending → Imm → Own → Prop) (a : Act) (I : Imm) (L : Own) : Prop := cdB Tryd.prog (cdIn Tryd.f23 [1, 1, 1, 1, 1]) (Q23_11 R) (endN R) a I L
/-- loop 23_0: live: 0 1 2 7 8 9 21 22 23; what changes: 23 -/
def B23_0 (R : Ending → Imm → Own → Prop) (N : Act → Imm → Own → Prop) (Q : Exit → Act → Imm → Own → Prop) (s : Env) (v0 v1 v2 v7 v8 v9 v21 v22 v23 : Value) (I : Imm) (L : Own) : Prop :=
 bin Tryd.prog .lss 3 v23 v22 I L fun x24 I L =>
 cnd x24
 (iad Tryd.prog 45 v21 v23 I L fun x25 I L =>
 ld Tryd.prog 70 x25 I L fun x26 I L =>
 al Tryd.prog 70 I L fun x11 I L =>
 sto Tryd.prog 70 x11 x26 I L fun _ I L =>
 fad Tryd.prog 70 x11 0 I L fun x27 I L =>
 ld Tryd.prog 3 x27 I L fun x28 I L =>
 eqn Tryd.prog .neq 3 false true x28 (.int .i64 4) I L fun x29 I L =>
 cnd x29
 (fad Tryd.prog 70 x11 2 I L fun x31 I L =>
 ld Tryd.prog 9 x31 I L fun x32 I L =>
 lkp Tryd.prog 61 v2 x32 false I L fun x33 I L =>
 cnd x33
 (fad Tryd.prog 70 x11 1 I L fun x34 I L =>
 ld Tryd.prog 3 x34 I L fun x35 I L =>
 bld Tryd.prog 26 #[(0, (.int .i64 9)), (1, x35)] I L fun x36 I L =>
 sto Tryd.prog 26 v8 x36 I L fun _ I L =>
Q .ret (F23_r (U (U (U (U (U (U (U (U (U (U (U (U (U (U (U (U (U (U (U (U (U (U s 0 v0) 1 v1) 2 v2) 7 v7) 9 v9) 11 x11) 21 v21) 22 v22) 23 v23) 24 x24) 25 x25) 26 x26) 27 x27) 28 x28) 29 x29) 30 v2) 31 x31) 32 x32) 33 x33) 34 x34) 35 x35) 36 x36) v8) I L)
 (fad Tryd.prog 70 x11 2 I L fun x38 I L =>
 ld Tryd.prog 9 x38 I L fun x39 I L =>
 mup Tryd.prog 61 v2 x39 (.bool true) I L fun _ I L =>
 fad Tryd.prog 70 x11 0 I L fun x40 I L =>
 ld Tryd.prog 3 x40 I L fun x41 I L =>
 eqn Tryd.prog .eql 3 false true x41 (.int .i64 3) I L fun x42 I L =>
 gd (yb (some x42) true) (fun k => k v1 I L) (fun x44 I L =>
 gd (yb (some x42) true) (fun k => fad Tryd.prog 70 x11 3 I L k) (fun x45 I L =>
 gd (yb (some x42) true) (fun k => ld Tryd.prog 9 x45 I L k) (fun x46 I L =>
 gd (yb (some x42) true) (fun k => lkp Tryd.prog 61 x44 x46 false I L k) (fun x47 I L =>
 gd (yb (some x42) true) (fun k => un Tryd.prog .not x47 I L k) (fun x48 I L =>
pck x42 x48 (.bool false) I L fun x49 I L =>
 cnd x49
 (fad Tryd.prog 70 x11 1 I L fun x50 I L =>
 ld Tryd.prog 3 x50 I L fun x51 I L =>
 bld Tryd.prog 26 #[(0, (.int .i64 7)), (1, x51)] I L fun x52 I L =>
 sto Tryd.prog 26 v8 x52 I L fun _ I L =>
Q .ret (F23_r (U (U (U (U (U (U (U (U (U (U (U (U (U (U (U (U (U (U (U (U (U (U (U (U (U (U (U (U (U (U (U (U (U (U (U s 0 v0) 1 v1) 2 v2) 7 v7) 9 v9) 11 x11) 21 v21) 22 v22) 23 v23) 24 x24) 25 x25) 26 x26) 27 x27) 28 x28) 29 x29) 30 v2) 31 x31) 32 x32) 33 x33) 37 v2) 38 x38) 39 x39) 40 x40) 41 x41) 42 x42) 43 x42) 44 x44) 45 x45) 46 x46) 47 x47) 48 x48) 49 x49) 50 x50) 51 x51) 52 x52) v8) I L)
 (J23_1 R N Q (F23_1 (U (U (U (U (U (U (U (U (U (U (U (U (U (U (U (U (U (U (U (U (U (U (U s 24 x24) 25 x25) 26 x26) 27 x27) 28 x28) 29 x29) 30 v2) 31 x31) 32 x32) 33 x33) 37 v2) 38 x38) 39 x39) 40 x40) 41 x41) 42 x42) 43 x42) 44 x44) 45 x45) 46 x46) 47 x47) 48 x48) 49 x49) v0 v1 v2 v7 v8 v9 x11 v21 v22 v23) I L)) I L) I L) I L) I L) I L))
 (J23_1 R N Q (F23_1 (U (U (U (U (U (U s 24 x24) 25 x25) 26 x26) 27 x27) 28 x28) 29 x29) v0 v1 v2 v7 v8 v9 x11 v21 v22 v23) I L))
 (Q (.exit 0) (F23_2 (U (U (U (U (U (U (U (U s 1 v1) 2 v2) 7 v7) 9 v9) 21 v21) 22 v22) 23 v23) 24 x24) v0 v8) I L)
theorem round23_0 {R : Ending → Imm → Own → Prop} {N : Act → Imm → Own → Prop} {Q : Exit → Act → Imm → Own → Prop} {s : Env} {v0 v1 v2 v7 v8 v9 v21 v22 v23 : Value} {I : Imm} {L : Own} (h : B23_0 R N Q s v0 v1 v2 v7 v8 v9 v21 v22 v23 I L) : cdB Tryd.prog (cdIn Tryd.f23 [1, 1, 0, 1, 0, 0]) (seqT N Q) (endN R) (F23_0 s v0 v1 v2 v7 v8 v9 v21 v22 v23) I L :=
  sh_cutB (fun p => if p = [1, 1, 0, 0, 1, 1] then some (J23_1 R N Q) else none) (O := (J23_1 R N Q = J23_1 R N Q) ∧ True) (by kernel_rfl) ⟨rfl, trivial⟩ (by kernel_rfl) h
theorem loop23_0 {R : Ending → Imm → Own → Prop} {s : Env} {v0 v1 v2 v7 v8 v9 v21 v22 : Value} {u23 : Value} {I : Imm} {L : Own} (Inv : Nat → Value → Imm → Own → Prop) {n : Nat} (h : Inv n u23 I L)
  (round : ∀ (n : Nat) (x23 : Value) (I' : Imm) (L' : Own), I.Le I' → Inv n x23 I' L' → ∀ (N' : Act → Imm → Own → Prop), (∀ (m : Nat) {s : Env} {y23 : Value} {I : Imm} {L : Own}, m < n → Inv m y23 I L → N' (F23_0 s v0 v1 v2 v7 v8 v9 v21 v22 y23) I L) → ∀ (s : Env), B23_0 R N' (Q23_0 R) s v0 v1 v2 v7 v8 v9 v21 v22 x23 I' L') : L23_0 R (F23_0 s v0 v1 v2 v7 v8 v9 v21 v22 u23) I L :=
  loop_genB (by kernel_rfl) (fun n a I L => ∃ (s : Env) (x23 : Value), a = (F23_0 s v0 v1 v2 v7 v8 v9 v21 v22 x23) ∧ Inv n x23 I L) ⟨s, _, rfl, h⟩ fun n a I' L' hle ⟨s, x23, e, hi⟩ => e ▸ round23_0 (round n x23 I' L' hle hi (fun a I L => ∃ m, m < n ∧ (fun n a I L => ∃ (s : Env) (x23 : Value), a = (F23_0 s v0 v1 v2 v7 v8 v9 v21 v22 x23) ∧ Inv n x23 I L) m a I L) (fun m {s y23 I L} hm hi => ⟨m, hm, s, _, rfl, hi⟩) s)
theorem out23_0x0 {R : Ending → Imm → Own → Prop} {s : Env} {v0 v8 : Value} {I : Imm} {L : Own} (h : J23_2 R (F23_2 s v0 v8) I L) : Q23_0 R (.exit 0) (F23_2 s v0 v8) I L :=
  Eq.mpr (by kernel_rfl) h
theorem out23_0r {R : Ending → Imm → Own → Prop} {s : Env} {v8 : Value} {I : Imm} {L : Own} (h : rcl Tryd.prog 26 v8 I L fun r0 =>
R (.returned r0) I L) : Q23_0 R .ret (F23_r s v8) I L :=
  Eq.mpr (by kernel_rfl) h
/-- 23_1: live: 0 1 2 7 8 9 11 21 22 23 -/
def T23_1 (R : Ending → Imm → Own → Prop) (N : Act → Imm → Own → Prop) (Q : Exit → Act → Imm → Own → Prop) (s : Env) (v0 v1 v2 v7 v8 v9 v11 v21 v22 v23 : Value) (I : Imm) (L : Own) : Prop :=
 fad Tryd.prog 70 v11 8 I L fun x54 I L =>
 ld Tryd.prog 68 x54 I L fun x55 I L =>
 clv Tryd.prog v9 #[x55] I L (xR R) fun x56 I L =>
 al Tryd.prog 26 I L fun x12 I L =>
 sto Tryd.prog 26 x12 x56 I L fun _ I L =>
 ld Tryd.prog 26 x12 I L fun x57 I L =>
 cal Tryd.prog 6 #[x57] I L (xR R) fun x58 I L =>
 un Tryd.prog .not x58 I L fun x59 I L =>
 cnd x59
 (ld Tryd.prog 26 x12 I L fun x60 I L =>
 sto Tryd.prog 26 v8 x60 I L fun _ I L =>
Q .ret (F23_r (U (U (U (U (U (U (U (U (U (U (U (U (U (U (U (U (U (U s 0 v0) 1 v1) 2 v2) 7 v7) 9 v9) 11 v11) 12 x12) 21 v21) 22 v22) 23 v23) 53 v9) 54 x54) 55 x55) 56 x56) 57 x57) 58 x58) 59 x59) 60 x60) v8) I L)
 (fad Tryd.prog 70 v11 0 I L fun x61 I L =>
 ld Tryd.prog 3 x61 I L fun x62 I L =>
 eqn Tryd.prog .eql 3 false true x62 (.int .i64 4) I L fun x63 I L =>
 cnd x63
 (fad Tryd.prog 70 v11 12 I L fun x64 I L =>
 ld Tryd.prog 45 x64 I L fun x65 I L =>
 ld Tryd.prog 57 v7 I L fun x68 I L =>
 cal Tryd.prog 23 #[x65, v1, v2, x68] I L (xR R) fun x69 I L =>
 al Tryd.prog 26 I L fun x13 I L =>
 sto Tryd.prog 26 x13 x69 I L fun _ I L =>
 ld Tryd.prog 26 x13 I L fun x70 I L =>
 cal Tryd.prog 6 #[x70] I L (xR R) fun x71 I L =>
 un Tryd.prog .not x71 I L fun x72 I L =>
 cnd x72
 (ld Tryd.prog 26 x13 I L fun x73 I L =>
 sto Tryd.prog 26 v8 x73 I L fun _ I L =>
Q .ret (F23_r (U (U (U (U (U (U (U (U (U (U (U (U (U (U (U (U (U (U (U (U (U (U (U (U (U (U (U (U (U (U (U s 0 v0) 1 v1) 2 v2) 7 v7) 9 v9) 11 v11) 12 x12) 13 x13) 21 v21) 22 v22) 23 v23) 53 v9) 54 x54) 55 x55) 56 x56) 57 x57) 58 x58) 59 x59) 61 x61) 62 x62) 63 x63) 64 x64) 65 x65) 66 v1) 67 v2) 68 x68) 69 x69) 70 x70) 71 x71) 72 x72) 73 x73) v8) I L)
 (J23_3 R N Q (F23_3 (U (U (U (U (U (U (U (U (U (U (U (U (U (U (U (U (U (U (U (U (U s 12 x12) 13 x13) 53 v9) 54 x54) 55 x55) 56 x56) 57 x57) 58 x58) 59 x59) 61 x61) 62 x62) 63 x63) 64 x64) 65 x65) 66 v1) 67 v2) 68 x68) 69 x69) 70 x70) 71 x71) 72 x72) v0 v1 v2 v7 v8 v9 v11 v21 v22 v23) I L))
 (J23_3 R N Q (F23_3 (U (U (U (U (U (U (U (U (U (U (U s 12 x12) 53 v9) 54 x54) 55 x55) 56 x56) 57 x57) 58 x58) 59 x59) 61 x61) 62 x62) 63 x63) v0 v1 v2 v7 v8 v9 v11 v21 v22 v23) I L))
theorem join23_1 {R : Ending → Imm → Own → Prop} {N : Act → Imm → Own → Prop} {Q : Exit → Act → Imm → Own → Prop} {s : Env} {v0 v1 v2 v7 v8 v9 v11 v21 v22 v23 : Value} {I : Imm} {L : Own} (h : T23_1 R N Q s v0 v1 v2 v7 v8 v9 v11 v21 v22 v23 I L) : J23_1 R N Q (F23_1 s v0 v1 v2 v7 v8 v9 v11 v21 v22 v23) I L :=
  sh_cutB (fun p => if p = [1, 1] then some (J23_3 R N Q) else none) (O := (J23_3 R N Q = J23_3 R N Q) ∧ True) (by kernel_rfl) ⟨rfl, trivial⟩ (by kernel_rfl) h
/-- 23_2: live: 0 8 -/
def T23_2 (R : Ending → Imm → Own → Prop) (s : Env) (v0 v8 : Value) (I : Imm) (L : Own) : Prop :=
 blt Tryd.prog .len #[45] 3 #[v0] I L fun x94 I L =>
L23_4 R (F23_4 s v0 v8 v0 x94 (.int .i64 0)) I L
theorem join23_2 {R : Ending → Imm → Own → Prop} {s : Env} {v0 v8 : Value} {I : Imm} {L : Own} (h : T23_2 R s v0 v8 I L) : J23_2 R (F23_2 s v0 v8) I L :=
  sh_cutB (fun p => if p = [0, 1, 0] then some (L23_4 R) else none) (O := (L23_4 R = L23_4 R) ∧ True) (by kernel_rfl) ⟨rfl, trivial⟩ (by kernel_rfl) h
/-- 23_3: live: 0 1 2 7 8 9 11 21 22 23 -/
def T23_3 (R : Ending → Imm → Own → Prop) (N : Act → Imm → Own → Prop) (Q : Exit → Act → Imm → Own → Prop) (s : Env) (v0 v1 v2 v7 v8 v9 v11 v21 v22 v23 : Value) (I : Imm) (L : Own) : Prop :=
 fad Tryd.prog 70 v11 0 I L fun x74 I L =>
 ld Tryd.prog 3 x74 I L fun x75 I L =>
 eqn Tryd.prog .eql 3 false true x75 (.int .i64 1) I L fun x76 I L =>
 gd (yb (some x76) true) (fun k => fad Tryd.prog 70 v11 7 I L k) (fun x78 I L =>
 gd (yb (some x76) true) (fun k => ld Tryd.prog 4 x78 I L k) (fun x79 I L =>
 gd (yb (some x76) true) (fun k => un Tryd.prog .not x79 I L k) (fun x80 I L =>
pck x76 x80 (.bool false) I L fun x81 I L =>
 cnd x81
 (D23_5 R N Q (F23_5 (U (U (U (U (U (U (U (U s 74 x74) 75 x75) 76 x76) 77 x76) 78 x78) 79 x79) 80 x80) 81 x81) v0 v1 v2 v7 v8 v9 v11 v21 v22 v23) I L)
 (J23_6 R N Q (F23_6 (U (U (U (U (U (U (U (U (U s 11 v11) 74 x74) 75 x75) 76 x76) 77 x76) 78 x78) 79 x79) 80 x80) 81 x81) v0 v1 v2 v7 v8 v9 v21 v22 v23) I L)) I L) I L) I L
theorem join23_3 {R : Ending → Imm → Own → Prop} {N : Act → Imm → Own → Prop} {Q : Exit → Act → Imm → Own → Prop} {s : Env} {v0 v1 v2 v7 v8 v9 v11 v21 v22 v23 : Value} {I : Imm} {L : Own} (h : T23_3 R N Q s v0 v1 v2 v7 v8 v9 v11 v21 v22 v23 I L) : J23_3 R N Q (F23_3 s v0 v1 v2 v7 v8 v9 v11 v21 v22 v23) I L :=
  sh_cutB (fun p => if p = [0, 1] then some (D23_5 R N Q) else none) (O := (D23_5 R N Q = D23_5 R N Q) ∧ True) (by kernel_rfl) ⟨rfl, trivial⟩ (by kernel_rfl) h
/-- loop 23_4: live: 0 8 93 94 95; what changes: 95 -/
def B23_4 (R : Ending → Imm → Own → Prop) (N : Act → Imm → Own → Prop) (Q : Exit → Act → Imm → Own → Prop) (s : Env) (v0 v8 v93 v94 v95 : Value) (I : Imm) (L : Own) : Prop :=
 bin Tryd.prog .lss 3 v95 v94 I L fun x96 I L =>
 cnd x96
 (iad Tryd.prog 45 v93 v95 I L fun x98 I L =>
 ld Tryd.prog 70 x98 I L fun x99 I L =>
 al Tryd.prog 70 I L fun x15 I L =>
 sto Tryd.prog 70 x15 x99 I L fun _ I L =>
 fad Tryd.prog 70 x15 9 I L fun x100 I L =>
 ld Tryd.prog 3 x100 I L fun x101 I L =>
 eqn Tryd.prog .eql 3 false true x101 (.int .i64 0) I L fun x102 I L =>
 cnd x102
 (bin Tryd.prog .add 3 v95 (.int .i64 1) I L fun x169 I L =>
N (F23_4 (U (U (U (U (U (U (U (U (U (U s 14 v95) 15 x15) 96 x96) 97 v95) 98 x98) 99 x99) 100 x100) 101 x101) 102 x102) 169 x169) v0 v8 v93 v94 x169) I L)
 (fad Tryd.prog 70 x15 10 I L fun x104 I L =>
 ld Tryd.prog 9 x104 I L fun x105 I L =>
 cal Tryd.prog 36 #[v0, x105] I L (xR R) fun x106 I L =>
 fad Tryd.prog 70 x15 9 I L fun x108 I L =>
 ld Tryd.prog 3 x108 I L fun x109 I L =>
 eqn Tryd.prog .eql 3 false true x109 (.int .i64 3) I L fun x110 I L =>
 cnd x110
 (fad Tryd.prog 70 x15 11 I L fun x112 I L =>
 ld Tryd.prog 9 x112 I L fun x113 I L =>
 cal Tryd.prog 36 #[v0, x113] I L (xR R) fun x114 I L =>
J23_7 R N Q (F23_7 (U (U (U (U (U (U (U (U (U (U (U (U (U (U (U (U (U (U (U s 96 x96) 97 v95) 98 x98) 99 x99) 100 x100) 101 x101) 102 x102) 103 v0) 104 x104) 105 x105) 106 x106) 107 x106) 108 x108) 109 x109) 110 x110) 111 v0) 112 x112) 113 x113) 114 x114) v0 v8 v95 x15 x106 x114 v93 v94 v95) I L)
 (J23_7 R N Q (F23_7 (U (U (U (U (U (U (U (U (U (U (U (U (U (U (U s 96 x96) 97 v95) 98 x98) 99 x99) 100 x100) 101 x101) 102 x102) 103 v0) 104 x104) 105 x105) 106 x106) 107 x106) 108 x108) 109 x109) 110 x110) v0 v8 v95 x15 x106 x106 v93 v94 v95) I L)))
 (Q (.exit 2) (F23_8 (U (U (U (U s 93 v93) 94 v94) 95 v95) 96 x96) v0 v8) I L)
theorem round23_4 {R : Ending → Imm → Own → Prop} {N : Act → Imm → Own → Prop} {Q : Exit → Act → Imm → Own → Prop} {s : Env} {v0 v8 v93 v94 v95 : Value} {I : Imm} {L : Own} (h : B23_4 R N Q s v0 v8 v93 v94 v95 I L) : cdB Tryd.prog (cdIn Tryd.f23 [1, 1, 1, 0, 1, 0, 0]) (seqT N Q) (endN R) (F23_4 s v0 v8 v93 v94 v95) I L :=
  sh_cutB (fun p => if p = [1, 1, 1, 1, 1, 0, 0, 1, 1] then some (J23_7 R N Q) else none) (O := (J23_7 R N Q = J23_7 R N Q) ∧ True) (by kernel_rfl) ⟨rfl, trivial⟩ (by kernel_rfl) h
theorem loop23_4 {R : Ending → Imm → Own → Prop} {s : Env} {v0 v8 v93 v94 : Value} {u95 : Value} {I : Imm} {L : Own} (Inv : Nat → Value → Imm → Own → Prop) {n : Nat} (h : Inv n u95 I L)
  (round : ∀ (n : Nat) (x95 : Value) (I' : Imm) (L' : Own), I.Le I' → Inv n x95 I' L' → ∀ (N' : Act → Imm → Own → Prop), (∀ (m : Nat) {s : Env} {y95 : Value} {I : Imm} {L : Own}, m < n → Inv m y95 I L → N' (F23_4 s v0 v8 v93 v94 y95) I L) → ∀ (s : Env), B23_4 R N' (Q23_4 R) s v0 v8 v93 v94 x95 I' L') : L23_4 R (F23_4 s v0 v8 v93 v94 u95) I L :=
  loop_genB (by kernel_rfl) (fun n a I L => ∃ (s : Env) (x95 : Value), a = (F23_4 s v0 v8 v93 v94 x95) ∧ Inv n x95 I L) ⟨s, _, rfl, h⟩ fun n a I' L' hle ⟨s, x95, e, hi⟩ => e ▸ round23_4 (round n x95 I' L' hle hi (fun a I L => ∃ m, m < n ∧ (fun n a I L => ∃ (s : Env) (x95 : Value), a = (F23_4 s v0 v8 v93 v94 x95) ∧ Inv n x95 I L) m a I L) (fun m {s y95 I L} hm hi => ⟨m, hm, s, _, rfl, hi⟩) s)
theorem out23_4x2 {R : Ending → Imm → Own → Prop} {s : Env} {v0 v8 : Value} {I : Imm} {L : Own} (h : J23_8 R (F23_8 s v0 v8) I L) : Q23_4 R (.exit 2) (F23_8 s v0 v8) I L :=
  Eq.mpr (by kernel_rfl) h
theorem out23_4r {R : Ending → Imm → Own → Prop} {s : Env} {v8 : Value} {I : Imm} {L : Own} (h : rcl Tryd.prog 26 v8 I L fun r0 =>
R (.returned r0) I L) : Q23_4 R .ret (F23_r s v8) I L :=
  Eq.mpr (by kernel_rfl) h
/-- 23_5: live: 0 1 2 7 8 9 11 21 22 23 -/
def G23_5 (R : Ending → Imm → Own → Prop) (N : Act → Imm → Own → Prop) (Q : Exit → Act → Imm → Own → Prop) (C : Cls) (s : Env) (v0 v1 v2 v7 v8 v9 v11 v21 v22 v23 : Value) (I : Imm) (L : Own) : Prop :=
 qld Tryd.prog 57 v7 C fun x82 =>
 qld Tryd.prog 57 v7 C fun x83 =>
 qblt Tryd.prog .len #[57] 3 #[x83] C fun x84 =>
 qld Tryd.prog 57 v7 C fun x85 =>
 qblt Tryd.prog .len #[57] 3 #[x85] C fun x86 =>
 qslc Tryd.prog 57 x82 none (some x84) (some x86) C fun x87 =>
 qfad Tryd.prog 70 v11 2 C fun x88 =>
 qld Tryd.prog 9 x88 C fun x89 =>
 bsl Tryd.prog 57 1 #[(0, x89)] I L fun x90 I L =>
 (C I L ∧
 blt Tryd.prog .append #[57, 57] 57 #[x87, x90] I L fun x91 I L =>
 (C I L ∧
 sto Tryd.prog 57 v7 x91 I L fun _ I L =>
J23_6 R N Q (F23_6 (U (U (U (U (U (U (U (U (U (U (U s 11 v11) 82 x82) 83 x83) 84 x84) 85 x85) 86 x86) 87 x87) 88 x88) 89 x89) 90 x90) 91 x91) v0 v1 v2 v7 v8 v9 v21 v22 v23) I L))
theorem draw23_5 {R : Ending → Imm → Own → Prop} {N : Act → Imm → Own → Prop} {Q : Exit → Act → Imm → Own → Prop} {C : Cls} {s : Env} {v0 v1 v2 v7 v8 v9 v11 v21 v22 v23 : Value} {I : Imm} {L : Own} (hC : C I L) (h : G23_5 R N Q C s v0 v1 v2 v7 v8 v9 v11 v21 v22 v23 I L) : D23_5 R N Q (F23_5 s v0 v1 v2 v7 v8 v9 v11 v21 v22 v23) I L :=
  draw_planB (ops := opsIn Tryd.f23 [1, 1, 0, 1, 0, 0, 1, 1, 0, 0, 1, 1, 1, 1, 1, 0]) (id := 19) (Q := Q23_5 R N Q) (X := (endN R)) endN_put (.take 0 (.take 1 (.take 2 (.take 3 (.take 4 (.take 5 (.take 6 (.take 7 (.all fun _ => (.all fun _ => (.all fun _ => .done))))))))))) [10] (by kernel_rfl) rfl (by kernel_rfl) (by kernel_rfl) hC h
/-- 23_6: live: 0 1 2 7 8 9 21 22 23 -/
def T23_6 (R : Ending → Imm → Own → Prop) (N : Act → Imm → Own → Prop) (Q : Exit → Act → Imm → Own → Prop) (s : Env) (v0 v1 v2 v7 v8 v9 v21 v22 v23 : Value) (I : Imm) (L : Own) : Prop :=
 bin Tryd.prog .add 3 v23 (.int .i64 1) I L fun x92 I L =>
N (F23_0 (U s 92 x92) v0 v1 v2 v7 v8 v9 v21 v22 x92) I L
theorem join23_6 {R : Ending → Imm → Own → Prop} {N : Act → Imm → Own → Prop} {Q : Exit → Act → Imm → Own → Prop} {s : Env} {v0 v1 v2 v7 v8 v9 v21 v22 v23 : Value} {I : Imm} {L : Own} (h : T23_6 R N Q s v0 v1 v2 v7 v8 v9 v21 v22 v23 I L) : J23_6 R N Q (F23_6 s v0 v1 v2 v7 v8 v9 v21 v22 v23) I L :=
  sh_cutB (fun _ => none) (O := True) (by kernel_rfl) trivial (by kernel_rfl) h
/-- 23_7: live: 0 8 14 15 16 17 93 94 95 -/
def T23_7 (R : Ending → Imm → Own → Prop) (N : Act → Imm → Own → Prop) (Q : Exit → Act → Imm → Own → Prop) (s : Env) (v0 v8 v14 v15 v16 v17 v93 v94 v95 : Value) (I : Imm) (L : Own) : Prop :=
 bin Tryd.prog .lss 3 v16 (.int .i64 0) I L fun x117 I L =>
 gd (yb (some x117) false) (fun k => k v17 I L) (fun x119 I L =>
 gd (yb (some x117) false) (fun k => bin Tryd.prog .lss 3 x119 (.int .i64 0) I L k) (fun x120 I L =>
pck x117 (.bool true) x120 I L fun x121 I L =>
 cnd x121
 (fad Tryd.prog 70 v15 1 I L fun x122 I L =>
 ld Tryd.prog 3 x122 I L fun x123 I L =>
 bld Tryd.prog 26 #[(0, (.int .i64 7)), (1, x123)] I L fun x124 I L =>
 sto Tryd.prog 26 v8 x124 I L fun _ I L =>
Q .ret (F23_r (U (U (U (U (U (U (U (U (U (U (U (U (U (U (U (U (U (U s 0 v0) 14 v14) 15 v15) 16 v16) 17 v17) 93 v93) 94 v94) 95 v95) 115 x121) 116 v16) 117 x117) 118 x117) 119 x119) 120 x120) 121 x121) 122 x122) 123 x123) 124 x124) v8) I L)
 (fad Tryd.prog 70 v15 9 I L fun x126 I L =>
 ld Tryd.prog 3 x126 I L fun x127 I L =>
 eqn Tryd.prog .eql 3 false true x127 (.int .i64 2) I L fun x128 I L =>
 gd (yb (some x128) true) (fun k => k v0 I L) (fun x130 I L =>
 gd (yb (some x128) true) (fun k => k v16 I L) (fun x131 I L =>
 gd (yb (some x128) true) (fun k => iad Tryd.prog 45 x130 x131 I L k) (fun x132 I L =>
 gd (yb (some x128) true) (fun k => fad Tryd.prog 70 x132 7 I L k) (fun x133 I L =>
 gd (yb (some x128) true) (fun k => ld Tryd.prog 4 x133 I L k) (fun x134 I L =>
 gd (yb (some x128) true) (fun k => un Tryd.prog .not x134 I L k) (fun x135 I L =>
pck x128 x135 (.bool false) I L fun x136 I L =>
 gd (yb (some x136) false) (fun k => fad Tryd.prog 70 v15 9 I L k) (fun x138 I L =>
 gd (yb (some x136) false) (fun k => ld Tryd.prog 3 x138 I L k) (fun x139 I L =>
 gd (yb (some x136) false) (fun k => eqn Tryd.prog .eql 3 false true x139 (.int .i64 3) I L k) (fun x140 I L =>
 gd (yb (some x136) false) (fun k => k x140 I L) (fun x141 I L =>
 gd (yb (some x141) true) (fun k => fad Tryd.prog 70 v15 4 I L k) (fun x142 I L =>
 gd (yb (some x141) true) (fun k => ld Tryd.prog 3 x142 I L k) (fun x143 I L =>
 gd (yb (some x141) true) (fun k => eqn Tryd.prog .neq 3 false true x143 (.int .i64 4) I L k) (fun x144 I L =>
 gd (yb (some x141) true) (fun k => k x144 I L) (fun x145 I L =>
 gd (yb (some x145) false) (fun k => fad Tryd.prog 70 v15 6 I L k) (fun x146 I L =>
 gd (yb (some x145) false) (fun k => ld Tryd.prog 4 x146 I L k) (fun x147 I L =>
 gd (yb (some x141) true) (fun k => pck x145 (.bool true) x147 I L k) (fun x148 I L =>
 gd (yb (some x136) false) (fun k => pck x141 x148 (.bool false) I L k) (fun x149 I L =>
pck x136 (.bool true) x149 I L fun x150 I L =>
 cnd x150
 (fad Tryd.prog 70 v15 1 I L fun x151 I L =>
 ld Tryd.prog 3 x151 I L fun x152 I L =>
 bld Tryd.prog 26 #[(0, (.int .i64 13)), (1, x152)] I L fun x153 I L =>
 sto Tryd.prog 26 v8 x153 I L fun _ I L =>
Q .ret (F23_r (U (U (U (U (U (U (U (U (U (U (U (U (U (U (U (U (U (U (U (U (U (U (U (U (U (U (U (U (U (U (U (U (U (U (U (U (U (U (U (U (U (U (U (U s 0 v0) 14 v14) 15 v15) 16 v16) 17 v17) 93 v93) 94 v94) 95 v95) 115 x121) 116 v16) 117 x117) 118 x117) 119 x119) 120 x120) 121 x121) 125 x150) 126 x126) 127 x127) 128 x128) 129 x128) 130 x130) 131 x131) 132 x132) 133 x133) 134 x134) 135 x135) 136 x136) 137 x136) 138 x138) 139 x139) 140 x140) 141 x141) 142 x142) 143 x143) 144 x144) 145 x145) 146 x146) 147 x147) 148 x148) 149 x149) 150 x150) 151 x151) 152 x152) 153 x153) v8) I L)
 (bin Tryd.prog .lss 3 v17 v16 I L fun x157 I L =>
 cnd x157
 (fad Tryd.prog 70 v15 1 I L fun x158 I L =>
 ld Tryd.prog 3 x158 I L fun x159 I L =>
 bld Tryd.prog 26 #[(0, (.int .i64 10)), (1, x159)] I L fun x160 I L =>
 sto Tryd.prog 26 v8 x160 I L fun _ I L =>
Q .ret (F23_r (U (U (U (U (U (U (U (U (U (U (U (U (U (U (U (U (U (U (U (U (U (U (U (U (U (U (U (U (U (U (U (U (U (U (U (U (U (U (U (U (U (U (U (U (U (U (U (U s 0 v0) 14 v14) 15 v15) 16 v16) 17 v17) 93 v93) 94 v94) 95 v95) 115 x121) 116 v16) 117 x117) 118 x117) 119 x119) 120 x120) 121 x121) 125 x150) 126 x126) 127 x127) 128 x128) 129 x128) 130 x130) 131 x131) 132 x132) 133 x133) 134 x134) 135 x135) 136 x136) 137 x136) 138 x138) 139 x139) 140 x140) 141 x141) 142 x142) 143 x143) 144 x144) 145 x145) 146 x146) 147 x147) 148 x148) 149 x149) 150 x150) 154 x157) 155 v17) 156 v16) 157 x157) 158 x158) 159 x159) 160 x160) v8) I L)
 (cal Tryd.prog 37 #[v14, v16, v17] I L (xR R) fun x165 I L =>
 cnd x165
 (fad Tryd.prog 70 v15 1 I L fun x166 I L =>
 ld Tryd.prog 3 x166 I L fun x167 I L =>
 bld Tryd.prog 26 #[(0, (.int .i64 6)), (1, x167)] I L fun x168 I L =>
 sto Tryd.prog 26 v8 x168 I L fun _ I L =>
Q .ret (F23_r (U (U (U (U (U (U (U (U (U (U (U (U (U (U (U (U (U (U (U (U (U (U (U (U (U (U (U (U (U (U (U (U (U (U (U (U (U (U (U (U (U (U (U (U (U (U (U (U (U (U (U (U (U s 0 v0) 14 v14) 15 v15) 16 v16) 17 v17) 93 v93) 94 v94) 95 v95) 115 x121) 116 v16) 117 x117) 118 x117) 119 x119) 120 x120) 121 x121) 125 x150) 126 x126) 127 x127) 128 x128) 129 x128) 130 x130) 131 x131) 132 x132) 133 x133) 134 x134) 135 x135) 136 x136) 137 x136) 138 x138) 139 x139) 140 x140) 141 x141) 142 x142) 143 x143) 144 x144) 145 x145) 146 x146) 147 x147) 148 x148) 149 x149) 150 x150) 154 x157) 155 v17) 156 v16) 157 x157) 161 x165) 162 v14) 163 v16) 164 v17) 165 x165) 166 x166) 167 x167) 168 x168) v8) I L)
 (J23_9 R N Q (F23_9 (U (U (U (U (U (U (U (U (U (U (U (U (U (U (U (U (U (U (U (U (U (U (U (U (U (U (U (U (U (U (U (U (U (U (U (U (U (U (U (U (U (U (U (U (U (U s 14 v14) 15 v15) 16 v16) 17 v17) 115 x121) 116 v16) 117 x117) 118 x117) 119 x119) 120 x120) 121 x121) 125 x150) 126 x126) 127 x127) 128 x128) 129 x128) 130 x130) 131 x131) 132 x132) 133 x133) 134 x134) 135 x135) 136 x136) 137 x136) 138 x138) 139 x139) 140 x140) 141 x141) 142 x142) 143 x143) 144 x144) 145 x145) 146 x146) 147 x147) 148 x148) 149 x149) 150 x150) 154 x157) 155 v17) 156 v16) 157 x157) 161 x165) 162 v14) 163 v16) 164 v17) 165 x165) v0 v8 v93 v94 v95) I L)))) I L) I L) I L) I L) I L) I L) I L) I L) I L) I L) I L) I L) I L) I L) I L) I L) I L) I L)) I L) I L
theorem join23_7 {R : Ending → Imm → Own → Prop} {N : Act → Imm → Own → Prop} {Q : Exit → Act → Imm → Own → Prop} {s : Env} {v0 v8 v14 v15 v16 v17 v93 v94 v95 : Value} {I : Imm} {L : Own} (h : T23_7 R N Q s v0 v8 v14 v15 v16 v17 v93 v94 v95 I L) : J23_7 R N Q (F23_7 s v0 v8 v14 v15 v16 v17 v93 v94 v95) I L :=
  sh_cutB (fun _ => none) (O := True) (by kernel_rfl) trivial (by kernel_rfl) h
/-- 23_8: live: 0 8 -/
def T23_8 (R : Ending → Imm → Own → Prop) (s : Env) (v0 v8 : Value) (I : Imm) (L : Own) : Prop :=
 blt Tryd.prog .len #[45] 3 #[v0] I L fun x171 I L =>
L23_10 R (F23_10 s v0 v8 v0 x171 (.int .i64 0)) I L
theorem join23_8 {R : Ending → Imm → Own → Prop} {s : Env} {v0 v8 : Value} {I : Imm} {L : Own} (h : T23_8 R s v0 v8 I L) : J23_8 R (F23_8 s v0 v8) I L :=
  sh_cutB (fun p => if p = [0, 1, 0] then some (L23_10 R) else none) (O := (L23_10 R = L23_10 R) ∧ True) (by kernel_rfl) ⟨rfl, trivial⟩ (by kernel_rfl) h
/-- 23_9: live: 0 8 93 94 95 -/
def T23_9 (R : Ending → Imm → Own → Prop) (N : Act → Imm → Own → Prop) (Q : Exit → Act → Imm → Own → Prop) (s : Env) (v0 v8 v93 v94 v95 : Value) (I : Imm) (L : Own) : Prop :=
 bin Tryd.prog .add 3 v95 (.int .i64 1) I L fun x169 I L =>
N (F23_4 (U s 169 x169) v0 v8 v93 v94 x169) I L
theorem join23_9 {R : Ending → Imm → Own → Prop} {N : Act → Imm → Own → Prop} {Q : Exit → Act → Imm → Own → Prop} {s : Env} {v0 v8 v93 v94 v95 : Value} {I : Imm} {L : Own} (h : T23_9 R N Q s v0 v8 v93 v94 v95 I L) : J23_9 R N Q (F23_9 s v0 v8 v93 v94 v95) I L :=
  sh_cutB (fun _ => none) (O := True) (by kernel_rfl) trivial (by kernel_rfl) h
/-- loop 23_10: live: 0 8 170 171 172; what changes: 172 -/
def B23_10 (R : Ending → Imm → Own → Prop) (N : Act → Imm → Own → Prop) (Q : Exit → Act → Imm → Own → Prop) (s : Env) (v0 v8 v170 v171 v172 : Value) (I : Imm) (L : Own) : Prop :=
 bin Tryd.prog .lss 3 v172 v171 I L fun x173 I L =>
 cnd x173
 (iad Tryd.prog 45 v170 v172 I L fun x175 I L =>
 ld Tryd.prog 70 x175 I L fun x176 I L =>
 al Tryd.prog 70 I L fun x19 I L =>
 sto Tryd.prog 70 x19 x176 I L fun _ I L =>
 fad Tryd.prog 70 x19 9 I L fun x177 I L =>
 ld Tryd.prog 3 x177 I L fun x178 I L =>
 eqn Tryd.prog .eql 3 false true x178 (.int .i64 3) I L fun x179 I L =>
 gd (yb (some x179) true) (fun k => k v0 I L) (fun x181 I L =>
 gd (yb (some x179) true) (fun k => k v172 I L) (fun x182 I L =>
 gd (yb (some x179) true) (fun k => k v172 I L) (fun x183 I L =>
 gd (yb (some x179) true) (fun k => cal Tryd.prog 38 #[x181, x182, x183] I L (xR R) k) (fun x184 I L =>
pck x179 x184 (.bool false) I L fun x185 I L =>
 cnd x185
 (fad Tryd.prog 70 x19 1 I L fun x186 I L =>
 ld Tryd.prog 3 x186 I L fun x187 I L =>
 bld Tryd.prog 26 #[(0, (.int .i64 11)), (1, x187)] I L fun x188 I L =>
 sto Tryd.prog 26 v8 x188 I L fun _ I L =>
Q .ret (F23_r (U (U (U (U (U (U (U (U (U (U (U (U (U (U (U (U (U (U (U (U (U (U s 0 v0) 18 v172) 19 x19) 170 v170) 171 v171) 172 v172) 173 x173) 174 v172) 175 x175) 176 x176) 177 x177) 178 x178) 179 x179) 180 x179) 181 x181) 182 x182) 183 x183) 184 x184) 185 x185) 186 x186) 187 x187) 188 x188) v8) I L)
 (bin Tryd.prog .add 3 v172 (.int .i64 1) I L fun x189 I L =>
N (F23_10 (U (U (U (U (U (U (U (U (U (U (U (U (U (U (U (U s 18 v172) 19 x19) 173 x173) 174 v172) 175 x175) 176 x176) 177 x177) 178 x178) 179 x179) 180 x179) 181 x181) 182 x182) 183 x183) 184 x184) 185 x185) 189 x189) v0 v8 v170 v171 x189) I L)) I L) I L) I L) I L)
 (Q (.exit 5) (F23_11 (U (U (U (U (U s 0 v0) 170 v170) 171 v171) 172 v172) 173 x173) v8) I L)
theorem round23_10 {R : Ending → Imm → Own → Prop} {N : Act → Imm → Own → Prop} {Q : Exit → Act → Imm → Own → Prop} {s : Env} {v0 v8 v170 v171 v172 : Value} {I : Imm} {L : Own} (h : B23_10 R N Q s v0 v8 v170 v171 v172 I L) : cdB Tryd.prog (cdIn Tryd.f23 [1, 1, 1, 1, 0, 1, 0, 0]) (seqT N Q) (endN R) (F23_10 s v0 v8 v170 v171 v172) I L :=
  sh_cutB (fun _ => none) (O := True) (by kernel_rfl) trivial (by kernel_rfl) h
theorem loop23_10 {R : Ending → Imm → Own → Prop} {s : Env} {v0 v8 v170 v171 : Value} {u172 : Value} {I : Imm} {L : Own} (Inv : Nat → Value → Imm → Own → Prop) {n : Nat} (h : Inv n u172 I L)
  (round : ∀ (n : Nat) (x172 : Value) (I' : Imm) (L' : Own), I.Le I' → Inv n x172 I' L' → ∀ (N' : Act → Imm → Own → Prop), (∀ (m : Nat) {s : Env} {y172 : Value} {I : Imm} {L : Own}, m < n → Inv m y172 I L → N' (F23_10 s v0 v8 v170 v171 y172) I L) → ∀ (s : Env), B23_10 R N' (Q23_10 R) s v0 v8 v170 v171 x172 I' L') : L23_10 R (F23_10 s v0 v8 v170 v171 u172) I L :=
  loop_genB (by kernel_rfl) (fun n a I L => ∃ (s : Env) (x172 : Value), a = (F23_10 s v0 v8 v170 v171 x172) ∧ Inv n x172 I L) ⟨s, _, rfl, h⟩ fun n a I' L' hle ⟨s, x172, e, hi⟩ => e ▸ round23_10 (round n x172 I' L' hle hi (fun a I L => ∃ m, m < n ∧ (fun n a I L => ∃ (s : Env) (x172 : Value), a = (F23_10 s v0 v8 v170 v171 x172) ∧ Inv n x172 I L) m a I L) (fun m {s y172 I L} hm hi => ⟨m, hm, s, _, rfl, hi⟩) s)
theorem out23_10x5 {R : Ending → Imm → Own → Prop} {s : Env} {v8 : Value} {I : Imm} {L : Own} (h : J23_11 R (F23_11 s v8) I L) : Q23_10 R (.exit 5) (F23_11 s v8) I L :=
  Eq.mpr (by kernel_rfl) h
theorem out23_10r {R : Ending → Imm → Own → Prop} {s : Env} {v8 : Value} {I : Imm} {L : Own} (h : rcl Tryd.prog 26 v8 I L fun r0 =>
R (.returned r0) I L) : Q23_10 R .ret (F23_r s v8) I L :=
  Eq.mpr (by kernel_rfl) h
/-- 23_11: live: 8 -/
def T23_11 (R : Ending → Imm → Own → Prop) (s : Env) (v8 : Value) (I : Imm) (L : Own) : Prop :=
 cal Tryd.prog 18 #[] I L (xR R) fun x190 I L =>
 sto Tryd.prog 26 v8 x190 I L fun _ I L =>
 rcl Tryd.prog 26 v8 I L fun r0 =>
R (.returned r0) I L
theorem join23_11 {R : Ending → Imm → Own → Prop} {s : Env} {v8 : Value} {I : Imm} {L : Own} (h : T23_11 R s v8 I L) : J23_11 R (F23_11 s v8) I L :=
  sh_cutB (fun _ => none) (O := True) (by kernel_rfl) trivial (by kernel_rfl) h
/-- 23: escritoire/escritoireref.blockWrong -/
def M23 (R : Ending → Imm → Own → Prop) (x0 x1 x2 x3 : Value) (I : Imm) (L : Own) : Prop :=
 bx Tryd.prog 57 x3 I L fun x7 I L =>
 al Tryd.prog 26 I L fun x8 I L =>
 blt Tryd.prog .len #[45] 3 #[x0] I L fun x22 I L =>
L23_0 R (F23_0 (U (U eU 3 x3) 20 (.func (.func 34) #[] #[x7])) x0 x1 x2 x7 x8 (.func (.func 34) #[] #[x7]) x0 x22 (.int .i64 0)) I L
theorem go23 {R : Ending → Imm → Own → Prop} {x0 x1 x2 x3 : Value} {I : Imm} {L : Own} (h : M23 R x0 x1 x2 x3 I L) : wpC Tryd.prog 23 #[x0, x1, x2, x3] I L R :=
  wpC_goX (endN_le _ _ R) (fun p => if p = [0, 1, 0, 1, 1] then some (L23_0 R) else none) Tryd.func23 (by kernel_rfl) (O := (L23_0 R = L23_0 R) ∧ True) (by kernel_rfl) ⟨rfl, trivial⟩ (by kernel_rfl) h

def F24_r (s : Env) (v2 v3 : Value) : Act := fr 123 (U (U s 2 v2) 3 v3) []
def F24_0 (s : Env) (v0 v3 v4 v5 v6 v7 : Value) : Act := fr 123 (U (U (U (U (U (U s 0 v0) 3 v3) 4 v4) 5 v5) 6 v6) 7 v7) []
def F24_1 (s : Env) (v0 v3 v4 v5 v6 v7 : Value) : Act := fr 123 (U (U (U (U (U (U s 0 v0) 3 v3) 4 v4) 5 v5) 6 v6) 7 v7) []
def F24_2 (s : Env) (v0 v3 v4 v5 v6 v7 : Value) : Act := fr 123 (U (U (U (U (U (U s 0 v0) 3 v3) 4 v4) 5 v5) 6 v6) 7 v7) []
def F24_3 (s : Env) (v3 v4 : Value) : Act := fr 123 (U (U s 3 v3) 4 v4) []
def F24_4 (s : Env) (v0 v3 v4 v5 v6 v7 : Value) : Act := fr 123 (U (U (U (U (U (U s 0 v0) 3 v3) 4 v4) 5 v5) 6 v6) 7 v7) []
def F24_5 (s : Env) (v0 v3 v4 v5 v6 v7 : Value) : Act := fr 123 (U (U (U (U (U (U s 0 v0) 3 v3) 4 v4) 5 v5) 6 v6) 7 v7) []
def F24_6 (s : Env) (v0 v3 v4 v5 v6 v7 : Value) : Act := fr 123 (U (U (U (U (U (U s 0 v0) 3 v3) 4 v4) 5 v5) 6 v6) 7 v7) []
def F24_7 (s : Env) (v0 v3 v4 v5 v6 v7 v9 : Value) : Act := fr 123 (U (U (U (U (U (U (U s 0 v0) 3 v3) 4 v4) 5 v5) 6 v6) 7 v7) 9 v9) []
def F24_8 (s : Env) (v0 v3 v4 v5 v6 v7 v9 : Value) : Act := fr 123 (U (U (U (U (U (U (U s 0 v0) 3 v3) 4 v4) 5 v5) 6 v6) 7 v7) 9 v9) []
def Q24_0 (R : Ending → Imm → Own → Prop) : Exit → Act → Imm → Own → Prop := (blkT 0 (seqT (cdB Tryd.prog (cdIn Tryd.f24 [1, 1, 1, 1, 1]) (endB Tryd.prog Tryd.f24 R) (endN R)) (endB Tryd.prog Tryd.f24 R)))
def L24_0 (R : Ending → Imm → Own → Prop) (a : Act) (I : Imm) (L : Own) : Prop := cdB Tryd.prog (cdIn Tryd.f24 [1, 1, 1, 1, 0, 1, 0]) (Q24_0 R) (endN R) a I L
def Q24_1 (R : Ending → Imm → Own → Prop) (N : Act → Imm → Own → Prop) (Q : Exit → Act → Imm → Own → Prop) : Exit → Act → Imm → Own → Prop := (seqT (cdB Tryd.prog (cdIn Tryd.f24 [1, 1, 1, 1, 0, 1, 0, 0, 1, 0, 0, 1, 1]) (blkT 1 (seqT (cdB Tryd.prog (cdIn Tryd.f24 [1, 1, 1, 1, 0, 1, 0, 0, 1, 1]) (seqT N Q) (endN R)) (seqT N Q))) (endN R)) (blkT 1 (seqT (cdB Tryd.prog (cdIn Tryd.f24 [1, 1, 1, 1, 0, 1, 0, 0, 1, 1]) (seqT N Q) (endN R)) (seqT N Q))))
def J24_1 (R : Ending → Imm → Own → Prop) (N : Act → Imm → Own → Prop) (Q : Exit → Act → Imm → Own → Prop) (a : Act) (I : Imm) (L : Own) : Prop := cdB Tryd.prog (cdIn Tryd.f24 [1, 1, 1, 1, 0, 1, 0, 0, 1, 0, 0, 1, 0, 1, 0, 1]) (Q24_1 R N Q) (endN R) a I L
def Q24_2 (R : Ending → Imm → Own → Prop) (N : Act → Imm → Own → Prop) (Q : Exit → Act → Imm → Own → Prop) : Exit → Act → Imm → Own → Prop := (blkT 1 (seqT (cdB Tryd.prog (cdIn Tryd.f24 [1, 1, 1, 1, 0, 1, 0, 0, 1, 1]) (seqT N Q) (endN R)) (seqT N Q)))
def J24_2 (R : Ending → Imm → Own → Prop) (N : Act → Imm → Own → Prop) (Q : Exit → Act → Imm → Own → Prop) (a : Act) (I : Imm) (L : Own) : Prop := cdB Tryd.prog (cdIn Tryd.f24 [1, 1, 1, 1, 0, 1, 0, 0, 1, 0, 0, 1, 1, 1]) (Q24_2 R N Q) (endN R) a I L
def Q24_3 (R : Ending → Imm → Own → Prop) : Exit → Act → Imm → Own → Prop := (endB Tryd.prog Tryd.f24 R)
def J24_3 (R : Ending → Imm → Own → Prop) (a : Act) (I : Imm) (L : Own) : Prop := cdB Tryd.prog (cdIn Tryd.f24 [1, 1, 1, 1, 1]) (Q24_3 R) (endN R) a I L
def Q24_4 (R : Ending → Imm → Own → Prop) (N : Act → Imm → Own → Prop) (Q : Exit → Act → Imm → Own → Prop) : Exit → Act → Imm → Own → Prop := (seqT N Q)
def J24_4 (R : Ending → Imm → Own → Prop) (N : Act → Imm → Own → Prop) (Q : Exit → Act → Imm → Own → Prop) (a : Act) (I : Imm) (L : Own) : Prop := cdB Tryd.prog (cdIn Tryd.f24 [1, 1, 1, 1, 0, 1, 0, 0, 1, 1]) (Q24_4 R N Q) (endN R) a I L
def Q24_5 (R : Ending → Imm → Own → Prop) (N : Act → Imm → Own → Prop) (Q : Exit → Act → Imm → Own → Prop) : Exit → Act → Imm → Own → Prop := (Q24_2 R N Q)
def J24_5 (R : Ending → Imm → Own → Prop) (N : Act → Imm → Own → Prop) (Q : Exit → Act → Imm → Own → Prop) (a : Act) (I : Imm) (L : Own) : Prop := cdB Tryd.prog (cdIn Tryd.f24 [1, 1, 1, 1, 0, 1, 0, 0, 1, 0, 0, 1, 1, 1, 1, 1]) (Q24_5 R N Q) (endN R) a I L
def Q24_6 (R : Ending → Imm → Own → Prop) (N : Act → Imm → Own → Prop) (Q : Exit → Act → Imm → Own → Prop) : Exit → Act → Imm → Own → Prop := (Q24_5 R N Q)
def J24_6 (R : Ending → Imm → Own → Prop) (N : Act → Imm → Own → Prop) (Q : Exit → Act → Imm → Own → Prop) (a : Act) (I : Imm) (L : Own) : Prop := cdB Tryd.prog (cdIn Tryd.f24 [1, 1, 1, 1, 0, 1, 0, 0, 1, 0, 0, 1, 1, 1, 1, 1, 1]) (Q24_6 R N Q) (endN R) a I L
def Q24_7 (R : Ending → Imm → Own → Prop) (N : Act → Imm → Own → Prop) (Q : Exit → Act → Imm → Own → Prop) : Exit → Act → Imm → Own → Prop := (Q24_6 R N Q)
def J24_7 (R : Ending → Imm → Own → Prop) (N : Act → Imm → Own → Prop) (Q : Exit → Act → Imm → Own → Prop) (a : Act) (I : Imm) (L : Own) : Prop := cdB Tryd.prog (cdIn Tryd.f24 [1, 1, 1, 1, 0, 1, 0, 0, 1, 0, 0, 1, 1, 1, 1, 1, 1, 1, 1, 1]) (Q24_7 R N Q) (endN R) a I L
def Q24_8 (R : Ending → Imm → Own → Prop) (N : Act → Imm → Own → Prop) (Q : Exit → Act → Imm → Own → Prop) : Exit → Act → Imm → Own → Prop := (Q24_7 R N Q)
def J24_8 (R : Ending → Imm → Own → Prop) (N : Act → Imm → Own → Prop) (Q : Exit → Act → Imm → Own → Prop) (a : Act) (I : Imm) (L : Own) : Prop := cdB Tryd.prog (cdIn Tryd.f24 [1, 1, 1, 1, 0, 1, 0, 0, 1, 0, 0, 1, 1, 1, 1, 1, 1, 1, 1, 1, 1]) (Q24_8 R N Q) (endN R) a I L
/-- loop 24_0: live: 0 3 4 5 6 7; what changes: 4 5 6 7 -/
def B24_0 (R : Ending → Imm → Own → Prop) (N : Act → Imm → Own → Prop) (Q : Exit → Act → Imm → Own → Prop) (s : Env) (v0 v3 v4 v5 v6 v7 : Value) (I : Imm) (L : Own) : Prop :=
 blt Tryd.prog .len #[9] 3 #[v0] I L fun x16 I L =>
 bin Tryd.prog .leq 3 v7 x16 I L fun x17 I L =>
 cnd x17
 (blt Tryd.prog .len #[9] 3 #[v0] I L fun x22 I L =>
 bin Tryd.prog .lss 3 v7 x22 I L fun x23 I L =>
 gd (yb (some x23) true) (fun k => k v6 I L) (fun x25 I L =>
 gd (yb (some x23) true) (fun k => un Tryd.prog .not x25 I L k) (fun x26 I L =>
pck x23 x26 (.bool false) I L fun x27 I L =>
 gd (yb (some x27) true) (fun k => k v0 I L) (fun x29 I L =>
 gd (yb (some x27) true) (fun k => k v7 I L) (fun x30 I L =>
 gd (yb (some x27) true) (fun k => idx Tryd.prog 9 x29 x30 I L k) (fun x31 I L =>
 gd (yb (some x27) true) (fun k => cal Tryd.prog 39 #[x31] I L (xR R) k) (fun x32 I L =>
 gd (yb (some x27) true) (fun k => k x32 I L) (fun x33 I L =>
 gd (yb (some x33) false) (fun k => k v0 I L) (fun x34 I L =>
 gd (yb (some x33) false) (fun k => k v7 I L) (fun x35 I L =>
 gd (yb (some x33) false) (fun k => idx Tryd.prog 9 x34 x35 I L k) (fun x36 I L =>
 gd (yb (some x33) false) (fun k => cal Tryd.prog 40 #[x36] I L (xR R) k) (fun x37 I L =>
 gd (yb (some x27) true) (fun k => pck x33 (.bool true) x37 I L k) (fun x38 I L =>
pck x27 x38 (.bool false) I L fun x39 I L =>
 cnd x39
 (bin Tryd.prog .lss 3 v5 (.int .i64 0) I L fun x42 I L =>
 cnd x42
 (J24_1 R N Q (F24_1 (U (U (U (U (U (U (U (U (U (U (U (U (U (U (U (U (U (U (U (U (U (U (U (U (U (U (U (U (U s 8 x39) 14 v7) 15 v0) 16 x16) 17 x17) 20 v7) 21 v0) 22 x22) 23 x23) 24 x23) 25 x25) 26 x26) 27 x27) 28 x27) 29 x29) 30 x30) 31 x31) 32 x32) 33 x33) 34 x34) 35 x35) 36 x36) 37 x37) 38 x38) 39 x39) 40 x39) 41 v5) 42 x42) 43 v7) v0 v3 v4 v7 v6 v7) I L)
 (J24_1 R N Q (F24_1 (U (U (U (U (U (U (U (U (U (U (U (U (U (U (U (U (U (U (U (U (U (U (U (U (U (U (U (U s 8 x39) 14 v7) 15 v0) 16 x16) 17 x17) 20 v7) 21 v0) 22 x22) 23 x23) 24 x23) 25 x25) 26 x26) 27 x27) 28 x27) 29 x29) 30 x30) 31 x31) 32 x32) 33 x33) 34 x34) 35 x35) 36 x36) 37 x37) 38 x38) 39 x39) 40 x39) 41 v5) 42 x42) v0 v3 v4 v5 v6 v7) I L))
 (bin Tryd.prog .geq 3 v5 (.int .i64 0) I L fun x45 I L =>
 cnd x45
 (slc Tryd.prog 9 v0 (some v5) (some v7) none I L fun x50 I L =>
 bld Tryd.prog 66 #[(0, x50), (1, v5)] I L fun x52 I L =>
 bsl Tryd.prog 38 1 #[(0, x52)] I L fun x53 I L =>
 blt Tryd.prog .append #[38, 38] 38 #[v4, x53] I L fun x54 I L =>
J24_2 R N Q (F24_2 (U (U (U (U (U (U (U (U (U (U (U (U (U (U (U (U (U (U (U (U (U (U (U (U (U (U (U (U (U (U (U (U (U (U (U (U (U s 8 x39) 14 v7) 15 v0) 16 x16) 17 x17) 20 v7) 21 v0) 22 x22) 23 x23) 24 x23) 25 x25) 26 x26) 27 x27) 28 x27) 29 x29) 30 x30) 31 x31) 32 x32) 33 x33) 34 x34) 35 x35) 36 x36) 37 x37) 38 x38) 39 x39) 40 x39) 44 v5) 45 x45) 46 v4) 47 v0) 48 v5) 49 v7) 50 x50) 51 v5) 52 x52) 53 x53) 54 x54) v0 v3 x54 (.int .i64 (-1)) v6 v7) I L)
 (J24_2 R N Q (F24_2 (U (U (U (U (U (U (U (U (U (U (U (U (U (U (U (U (U (U (U (U (U (U (U (U (U (U (U (U s 8 x39) 14 v7) 15 v0) 16 x16) 17 x17) 20 v7) 21 v0) 22 x22) 23 x23) 24 x23) 25 x25) 26 x26) 27 x27) 28 x27) 29 x29) 30 x30) 31 x31) 32 x32) 33 x33) 34 x34) 35 x35) 36 x36) 37 x37) 38 x38) 39 x39) 40 x39) 44 v5) 45 x45) v0 v3 v4 v5 v6 v7) I L))) I L) I L) I L) I L) I L) I L) I L) I L) I L) I L) I L) I L)
 (Q (.exit 0) (F24_3 (U (U (U (U (U (U (U (U s 0 v0) 5 v5) 6 v6) 7 v7) 14 v7) 15 v0) 16 x16) 17 x17) v3 v4) I L)
theorem round24_0 {R : Ending → Imm → Own → Prop} {N : Act → Imm → Own → Prop} {Q : Exit → Act → Imm → Own → Prop} {s : Env} {v0 v3 v4 v5 v6 v7 : Value} {I : Imm} {L : Own} (h : B24_0 R N Q s v0 v3 v4 v5 v6 v7 I L) : cdB Tryd.prog (cdIn Tryd.f24 [1, 1, 1, 1, 0, 1, 0, 0]) (seqT N Q) (endN R) (F24_0 s v0 v3 v4 v5 v6 v7) I L :=
  sh_cutB (fun p => if p = [1, 0, 1, 0, 1, 0, 0, 1] then some (J24_1 R N Q) else if p = [1, 1, 1, 0, 0, 1] then some (J24_2 R N Q) else none) (O := (J24_1 R N Q = J24_1 R N Q) ∧ (J24_2 R N Q = J24_2 R N Q) ∧ True) (by kernel_rfl) ⟨rfl, rfl, trivial⟩ (by kernel_rfl) h
theorem loop24_0 {R : Ending → Imm → Own → Prop} {s : Env} {v0 v3 : Value} {u4 u5 u6 u7 : Value} {I : Imm} {L : Own} (Inv : Nat → Value → Value → Value → Value → Imm → Own → Prop) {n : Nat} (h : Inv n u4 u5 u6 u7 I L)
  (round : ∀ (n : Nat) (x4 x5 x6 x7 : Value) (I' : Imm) (L' : Own), I.Le I' → Inv n x4 x5 x6 x7 I' L' → ∀ (N' : Act → Imm → Own → Prop), (∀ (m : Nat) {s : Env} {y4 y5 y6 y7 : Value} {I : Imm} {L : Own}, m < n → Inv m y4 y5 y6 y7 I L → N' (F24_0 s v0 v3 y4 y5 y6 y7) I L) → ∀ (s : Env), B24_0 R N' (Q24_0 R) s v0 v3 x4 x5 x6 x7 I' L') : L24_0 R (F24_0 s v0 v3 u4 u5 u6 u7) I L :=
  loop_genB (by kernel_rfl) (fun n a I L => ∃ (s : Env) (x4 x5 x6 x7 : Value), a = (F24_0 s v0 v3 x4 x5 x6 x7) ∧ Inv n x4 x5 x6 x7 I L) ⟨s, _, _, _, _, rfl, h⟩ fun n a I' L' hle ⟨s, x4, x5, x6, x7, e, hi⟩ => e ▸ round24_0 (round n x4 x5 x6 x7 I' L' hle hi (fun a I L => ∃ m, m < n ∧ (fun n a I L => ∃ (s : Env) (x4 x5 x6 x7 : Value), a = (F24_0 s v0 v3 x4 x5 x6 x7) ∧ Inv n x4 x5 x6 x7 I L) m a I L) (fun m {s y4 y5 y6 y7 I L} hm hi => ⟨m, hm, s, _, _, _, _, rfl, hi⟩) s)
theorem out24_0x0 {R : Ending → Imm → Own → Prop} {s : Env} {v3 v4 : Value} {I : Imm} {L : Own} (h : J24_3 R (F24_3 s v3 v4) I L) : Q24_0 R (.exit 0) (F24_3 s v3 v4) I L :=
  Eq.mpr (by kernel_rfl) h
theorem out24_0r {R : Ending → Imm → Own → Prop} {s : Env} {v2 v3 : Value} {I : Imm} {L : Own} (h : rcl Tryd.prog 26 v3 I L fun r1 =>
R (.returned (.tuple #[v2, r1])) I L) : Q24_0 R .ret (F24_r s v2 v3) I L :=
  Eq.mpr (by kernel_rfl) h
/-- 24_1: live: 0 3 4 5 6 7 -/
def T24_1 (R : Ending → Imm → Own → Prop) (N : Act → Imm → Own → Prop) (Q : Exit → Act → Imm → Own → Prop) (s : Env) (v0 v3 v4 v5 v6 v7 : Value) (I : Imm) (L : Own) : Prop :=
J24_4 R N Q (F24_4 s v0 v3 v4 v5 v6 v7) I L
theorem join24_1 {R : Ending → Imm → Own → Prop} {N : Act → Imm → Own → Prop} {Q : Exit → Act → Imm → Own → Prop} {s : Env} {v0 v3 v4 v5 v6 v7 : Value} {I : Imm} {L : Own} (h : T24_1 R N Q s v0 v3 v4 v5 v6 v7 I L) : J24_1 R N Q (F24_1 s v0 v3 v4 v5 v6 v7) I L :=
  sh_cutB (fun _ => none) (O := True) (by kernel_rfl) trivial (by kernel_rfl) h
/-- 24_2: live: 0 3 4 5 6 7 -/
def T24_2 (R : Ending → Imm → Own → Prop) (N : Act → Imm → Own → Prop) (Q : Exit → Act → Imm → Own → Prop) (s : Env) (v0 v3 v4 v5 v6 v7 : Value) (I : Imm) (L : Own) : Prop :=
 blt Tryd.prog .len #[9] 3 #[v0] I L fun x57 I L =>
 eqn Tryd.prog .eql 3 false false v7 x57 I L fun x58 I L =>
 cnd x58
 (Q (.exit 0) (F24_3 (U (U (U (U (U (U (U (U s 0 v0) 5 v5) 6 v6) 7 v7) 55 v7) 56 v0) 57 x57) 58 x58) v3 v4) I L)
 (idx Tryd.prog 9 v0 v7 I L fun x61 I L =>
 eqn Tryd.prog .eql 5 false true x61 (.int .u8 10) I L fun x62 I L =>
 cnd x62
 (J24_5 R N Q (F24_5 (U (U (U (U (U (U (U (U s 55 v7) 56 v0) 57 x57) 58 x58) 59 v0) 60 v7) 61 x61) 62 x62) v0 v3 v4 v5 (.bool false) v7) I L)
 (J24_5 R N Q (F24_5 (U (U (U (U (U (U (U (U s 55 v7) 56 v0) 57 x57) 58 x58) 59 v0) 60 v7) 61 x61) 62 x62) v0 v3 v4 v5 v6 v7) I L))
theorem join24_2 {R : Ending → Imm → Own → Prop} {N : Act → Imm → Own → Prop} {Q : Exit → Act → Imm → Own → Prop} {s : Env} {v0 v3 v4 v5 v6 v7 : Value} {I : Imm} {L : Own} (h : T24_2 R N Q s v0 v3 v4 v5 v6 v7 I L) : J24_2 R N Q (F24_2 s v0 v3 v4 v5 v6 v7) I L :=
  sh_cutB (fun p => if p = [1, 1] then some (J24_5 R N Q) else none) (O := (J24_5 R N Q = J24_5 R N Q) ∧ True) (by kernel_rfl) ⟨rfl, trivial⟩ (by kernel_rfl) h
/-- 24_3: live: 3 4 -/
def T24_3 (R : Ending → Imm → Own → Prop) (s : Env) (v3 v4 : Value) (I : Imm) (L : Own) : Prop :=
 cal Tryd.prog 18 #[] I L (xR R) fun x122 I L =>
 sto Tryd.prog 26 v3 x122 I L fun _ I L =>
 rcl Tryd.prog 26 v3 I L fun r1 =>
R (.returned (.tuple #[v4, r1])) I L
theorem join24_3 {R : Ending → Imm → Own → Prop} {s : Env} {v3 v4 : Value} {I : Imm} {L : Own} (h : T24_3 R s v3 v4 I L) : J24_3 R (F24_3 s v3 v4) I L :=
  sh_cutB (fun _ => none) (O := True) (by kernel_rfl) trivial (by kernel_rfl) h
/-- 24_4: live: 0 3 4 5 6 7 -/
def T24_4 (R : Ending → Imm → Own → Prop) (N : Act → Imm → Own → Prop) (Q : Exit → Act → Imm → Own → Prop) (s : Env) (v0 v3 v4 v5 v6 v7 : Value) (I : Imm) (L : Own) : Prop :=
 bin Tryd.prog .add 3 v7 (.int .i64 1) I L fun x19 I L =>
N (F24_0 (U (U s 18 v7) 19 x19) v0 v3 v4 v5 v6 x19) I L
theorem join24_4 {R : Ending → Imm → Own → Prop} {N : Act → Imm → Own → Prop} {Q : Exit → Act → Imm → Own → Prop} {s : Env} {v0 v3 v4 v5 v6 v7 : Value} {I : Imm} {L : Own} (h : T24_4 R N Q s v0 v3 v4 v5 v6 v7 I L) : J24_4 R N Q (F24_4 s v0 v3 v4 v5 v6 v7) I L :=
  sh_cutB (fun _ => none) (O := True) (by kernel_rfl) trivial (by kernel_rfl) h
/-- 24_5: live: 0 3 4 5 6 7 -/
def T24_5 (R : Ending → Imm → Own → Prop) (N : Act → Imm → Own → Prop) (Q : Exit → Act → Imm → Own → Prop) (s : Env) (v0 v3 v4 v5 v6 v7 : Value) (I : Imm) (L : Own) : Prop :=
 idx Tryd.prog 9 v0 v7 I L fun x65 I L =>
 eqn Tryd.prog .eql 5 false true x65 (.int .u8 35) I L fun x66 I L =>
 cnd x66
 (J24_6 R N Q (F24_6 (U (U (U (U s 63 v0) 64 v7) 65 x65) 66 x66) v0 v3 v4 v5 (.bool true) v7) I L)
 (J24_6 R N Q (F24_6 (U (U (U (U s 63 v0) 64 v7) 65 x65) 66 x66) v0 v3 v4 v5 v6 v7) I L)
theorem join24_5 {R : Ending → Imm → Own → Prop} {N : Act → Imm → Own → Prop} {Q : Exit → Act → Imm → Own → Prop} {s : Env} {v0 v3 v4 v5 v6 v7 : Value} {I : Imm} {L : Own} (h : T24_5 R N Q s v0 v3 v4 v5 v6 v7 I L) : J24_5 R N Q (F24_5 s v0 v3 v4 v5 v6 v7) I L :=
  sh_cutB (fun p => if p = [1] then some (J24_6 R N Q) else none) (O := (J24_6 R N Q = J24_6 R N Q) ∧ True) (by kernel_rfl) ⟨rfl, trivial⟩ (by kernel_rfl) h
/-- 24_6: live: 0 3 4 5 6 7 -/
def T24_6 (R : Ending → Imm → Own → Prop) (N : Act → Imm → Own → Prop) (Q : Exit → Act → Imm → Own → Prop) (s : Env) (v0 v3 v4 v5 v6 v7 : Value) (I : Imm) (L : Own) : Prop :=
 gd (yb (some v6) false) (fun k => k v0 I L) (fun x69 I L =>
 gd (yb (some v6) false) (fun k => k v7 I L) (fun x70 I L =>
 gd (yb (some v6) false) (fun k => idx Tryd.prog 9 x69 x70 I L k) (fun x71 I L =>
 gd (yb (some v6) false) (fun k => eqn Tryd.prog .eql 5 false true x71 (.int .u8 32) I L k) (fun x72 I L =>
pck v6 (.bool true) x72 I L fun x73 I L =>
 gd (yb (some x73) false) (fun k => k v0 I L) (fun x75 I L =>
 gd (yb (some x73) false) (fun k => k v7 I L) (fun x76 I L =>
 gd (yb (some x73) false) (fun k => idx Tryd.prog 9 x75 x76 I L k) (fun x77 I L =>
 gd (yb (some x73) false) (fun k => eqn Tryd.prog .eql 5 false true x77 (.int .u8 10) I L k) (fun x78 I L =>
pck x73 (.bool true) x78 I L fun x79 I L =>
 gd (yb (some x79) false) (fun k => k v0 I L) (fun x81 I L =>
 gd (yb (some x79) false) (fun k => k v7 I L) (fun x82 I L =>
 gd (yb (some x79) false) (fun k => idx Tryd.prog 9 x81 x82 I L k) (fun x83 I L =>
 gd (yb (some x79) false) (fun k => eqn Tryd.prog .eql 5 false true x83 (.int .u8 9) I L k) (fun x84 I L =>
pck x79 (.bool true) x84 I L fun x85 I L =>
 cnd x85
 (J24_4 R N Q (F24_4 (U (U (U (U (U (U (U (U (U (U (U (U (U (U (U (U (U (U (U s 67 v6) 68 v6) 69 x69) 70 x70) 71 x71) 72 x72) 73 x73) 74 x73) 75 x75) 76 x76) 77 x77) 78 x78) 79 x79) 80 x79) 81 x81) 82 x82) 83 x83) 84 x84) 85 x85) v0 v3 v4 v5 v6 v7) I L)
 (bin Tryd.prog .add 3 v7 (.int .i64 1) I L fun x89 I L =>
 slc Tryd.prog 9 v0 (some v7) (some x89) none I L fun x90 I L =>
 cal Tryd.prog 28 #[(S [123, 125, 91, 93, 40, 41, 59, 44, 61, 43, 45, 42, 38, 124, 60, 62]), x90] I L (xR R) fun x91 I L =>
 cnd x91
 (J24_7 R N Q (F24_7 (U (U (U (U (U (U (U (U (U (U (U (U (U (U (U (U (U (U (U (U (U (U (U (U (U s 67 v6) 68 v6) 69 x69) 70 x70) 71 x71) 72 x72) 73 x73) 74 x73) 75 x75) 76 x76) 77 x77) 78 x78) 79 x79) 80 x79) 81 x81) 82 x82) 83 x83) 84 x84) 85 x85) 86 v0) 87 v7) 88 v7) 89 x89) 90 x90) 91 x91) v0 v3 v4 v5 v6 v7 (.int .i64 1)) I L)
 (J24_7 R N Q (F24_7 (U (U (U (U (U (U (U (U (U (U (U (U (U (U (U (U (U (U (U (U (U (U (U (U (U s 67 v6) 68 v6) 69 x69) 70 x70) 71 x71) 72 x72) 73 x73) 74 x73) 75 x75) 76 x76) 77 x77) 78 x78) 79 x79) 80 x79) 81 x81) 82 x82) 83 x83) 84 x84) 85 x85) 86 v0) 87 v7) 88 v7) 89 x89) 90 x90) 91 x91) v0 v3 v4 v5 v6 v7 (.int .i64 0)) I L))) I L) I L) I L) I L) I L) I L) I L) I L) I L) I L) I L) I L
theorem join24_6 {R : Ending → Imm → Own → Prop} {N : Act → Imm → Own → Prop} {Q : Exit → Act → Imm → Own → Prop} {s : Env} {v0 v3 v4 v5 v6 v7 : Value} {I : Imm} {L : Own} (h : T24_6 R N Q s v0 v3 v4 v5 v6 v7 I L) : J24_6 R N Q (F24_6 s v0 v3 v4 v5 v6 v7) I L :=
  sh_cutB (fun p => if p = [1, 1, 1] then some (J24_7 R N Q) else none) (O := (J24_7 R N Q = J24_7 R N Q) ∧ True) (by kernel_rfl) ⟨rfl, trivial⟩ (by kernel_rfl) h
/-- 24_7: live: 0 3 4 5 6 7 9 -/
def T24_7 (R : Ending → Imm → Own → Prop) (N : Act → Imm → Own → Prop) (Q : Exit → Act → Imm → Own → Prop) (s : Env) (v0 v3 v4 v5 v6 v7 v9 : Value) (I : Imm) (L : Own) : Prop :=
 slc Tryd.prog 9 v0 (some v7) none none I L fun x94 I L =>
 cal Tryd.prog 41 #[x94, (S [61, 61])] I L (xR R) fun x95 I L =>
 gd (yb (some x95) false) (fun k => k v0 I L) (fun x97 I L =>
 gd (yb (some x95) false) (fun k => k v7 I L) (fun x98 I L =>
 gd (yb (some x95) false) (fun k => slc Tryd.prog 9 x97 (some x98) none none I L k) (fun x99 I L =>
 gd (yb (some x95) false) (fun k => cal Tryd.prog 41 #[x99, (S [33, 61])] I L (xR R) k) (fun x100 I L =>
pck x95 (.bool true) x100 I L fun x101 I L =>
 cnd x101
 (J24_8 R N Q (F24_8 (U (U (U (U (U (U (U (U (U (U s 92 v0) 93 v7) 94 x94) 95 x95) 96 x95) 97 x97) 98 x98) 99 x99) 100 x100) 101 x101) v0 v3 v4 v5 v6 v7 (.int .i64 2)) I L)
 (J24_8 R N Q (F24_8 (U (U (U (U (U (U (U (U (U (U s 92 v0) 93 v7) 94 x94) 95 x95) 96 x95) 97 x97) 98 x98) 99 x99) 100 x100) 101 x101) v0 v3 v4 v5 v6 v7 v9) I L)) I L) I L) I L) I L
theorem join24_7 {R : Ending → Imm → Own → Prop} {N : Act → Imm → Own → Prop} {Q : Exit → Act → Imm → Own → Prop} {s : Env} {v0 v3 v4 v5 v6 v7 v9 : Value} {I : Imm} {L : Own} (h : T24_7 R N Q s v0 v3 v4 v5 v6 v7 v9 I L) : J24_7 R N Q (F24_7 s v0 v3 v4 v5 v6 v7 v9) I L :=
  sh_cutB (fun p => if p = [1] then some (J24_8 R N Q) else none) (O := (J24_8 R N Q = J24_8 R N Q) ∧ True) (by kernel_rfl) ⟨rfl, trivial⟩ (by kernel_rfl) h
/-- 24_8: live: 0 3 4 5 6 7 9 -/
def T24_8 (R : Ending → Imm → Own → Prop) (N : Act → Imm → Own → Prop) (Q : Exit → Act → Imm → Own → Prop) (s : Env) (v0 v3 v4 v5 v6 v7 v9 : Value) (I : Imm) (L : Own) : Prop :=
 eqn Tryd.prog .eql 3 false true v9 (.int .i64 0) I L fun x103 I L =>
 cnd x103
 (bld Tryd.prog 26 #[(0, (.int .i64 3)), (1, v7)] I L fun x105 I L =>
 sto Tryd.prog 26 v3 x105 I L fun _ I L =>
Q .ret (F24_r (U (U (U (U (U (U (U (U (U (U s 0 v0) 4 v4) 5 v5) 6 v6) 7 v7) 9 v9) 102 v9) 103 x103) 104 v7) 105 x105) (.slice none 0 0) v3) I L)
 (bin Tryd.prog .add 3 v7 v9 I L fun x111 I L =>
 slc Tryd.prog 9 v0 (some v7) (some x111) none I L fun x112 I L =>
 bld Tryd.prog 66 #[(0, x112), (1, v7)] I L fun x114 I L =>
 bsl Tryd.prog 38 1 #[(0, x114)] I L fun x115 I L =>
 blt Tryd.prog .append #[38, 38] 38 #[v4, x115] I L fun x116 I L =>
 bin Tryd.prog .sub 3 v9 (.int .i64 1) I L fun x119 I L =>
 bin Tryd.prog .add 3 v7 x119 I L fun x120 I L =>
J24_4 R N Q (F24_4 (U (U (U (U (U (U (U (U (U (U (U (U (U (U (U (U (U (U s 9 v9) 102 v9) 103 x103) 106 v4) 107 v0) 108 v7) 109 v7) 110 v9) 111 x111) 112 x112) 113 v7) 114 x114) 115 x115) 116 x116) 117 v7) 118 v9) 119 x119) 120 x120) v0 v3 x116 v5 v6 x120) I L)
theorem join24_8 {R : Ending → Imm → Own → Prop} {N : Act → Imm → Own → Prop} {Q : Exit → Act → Imm → Own → Prop} {s : Env} {v0 v3 v4 v5 v6 v7 v9 : Value} {I : Imm} {L : Own} (h : T24_8 R N Q s v0 v3 v4 v5 v6 v7 v9 I L) : J24_8 R N Q (F24_8 s v0 v3 v4 v5 v6 v7 v9) I L :=
  sh_cutB (fun _ => none) (O := True) (by kernel_rfl) trivial (by kernel_rfl) h
/-- 24: escritoire/escritoireref.Lex -/
def M24 (R : Ending → Imm → Own → Prop) (x0 : Value) (I : Imm) (L : Own) : Prop :=
 al Tryd.prog 26 I L fun x3 I L =>
 blt Tryd.prog .len #[9] 3 #[x0] I L fun x11 I L =>
 bin Tryd.prog .gtr 3 x11 (.int .i64 3000) I L fun x12 I L =>
 cnd x12
 (bld Tryd.prog 26 #[(0, (.int .i64 4)), (1, (.int .i64 (-1)))] I L fun x13 I L =>
 sto Tryd.prog 26 x3 x13 I L fun _ I L =>
 rcl Tryd.prog 26 x3 I L fun r1 =>
R (.returned (.tuple #[(.slice none 0 0), r1])) I L)
 (L24_0 R (F24_0 (U (U (U (U eU 2 (.slice none 0 0)) 10 x0) 11 x11) 12 x12) x0 x3 (.slice none 0 0) (.int .i64 (-1)) (.bool false) (.int .i64 0)) I L)
theorem go24 {R : Ending → Imm → Own → Prop} {x0 : Value} {I : Imm} {L : Own} (h : M24 R x0 I L) : wpC Tryd.prog 24 #[x0] I L R :=
  wpC_goX (endN_le _ _ R) (fun p => if p = [0, 1, 0, 1, 1, 1, 1] then some (L24_0 R) else none) Tryd.func24 (by kernel_rfl) (O := (L24_0 R = L24_0 R) ∧ True) (by kernel_rfl) ⟨rfl, trivial⟩ (by kernel_rfl) h

def F25_r (s : Env) (v4 : Value) : Act := fr 11 (U s 4 v4) []
/-- 25: (*escritoire/escritoireref.eyes).take -/
def M25 (R : Ending → Imm → Own → Prop) (x0 x1 : Value) (I : Imm) (L : Own) : Prop :=
 cal Tryd.prog 12 #[x0] I L (xR R) fun x6 I L =>
 eqn Tryd.prog .neq 9 false false x6 x1 I L fun x8 I L =>
 cnd x8
 (R (.returned (.bool false)) I L)
 (cal Tryd.prog 29 #[x0] I L (xR R) fun _ I L =>
R (.returned (.bool true)) I L)
theorem go25 {R : Ending → Imm → Own → Prop} {x0 x1 : Value} {I : Imm} {L : Own} (h : M25 R x0 x1 I L) : wpC Tryd.prog 25 #[x0, x1] I L R :=
  wpC_goX (endN_le _ _ R) (fun _ => none) Tryd.func25 (by kernel_rfl) (O := True) (by kernel_rfl) trivial (by kernel_rfl) h

def F26_r (s : Env) (v2 : Value) : Act := fr 10 (U s 2 v2) []
/-- 26: escritoire/escritoireref.IsName -/
def M26 (R : Ending → Imm → Own → Prop) (x0 : Value) (I : Imm) (L : Own) : Prop :=
 eqn Tryd.prog .neq 9 false true x0 (S []) I L fun x4 I L =>
 gd (yb (some x4) true) (fun k => k x0 I L) (fun x6 I L =>
 gd (yb (some x4) true) (fun k => idx Tryd.prog 9 x6 (.int .i64 0) I L k) (fun x7 I L =>
 gd (yb (some x4) true) (fun k => cal Tryd.prog 39 #[x7] I L (xR R) k) (fun x8 I L =>
pck x4 x8 (.bool false) I L fun x9 I L =>
R (.returned x9) I L) I L) I L) I L
theorem go26 {R : Ending → Imm → Own → Prop} {x0 : Value} {I : Imm} {L : Own} (h : M26 R x0 I L) : wpC Tryd.prog 26 #[x0] I L R :=
  wpC_goX (endN_le _ _ R) (fun _ => none) Tryd.func26 (by kernel_rfl) (O := True) (by kernel_rfl) trivial (by kernel_rfl) h

def F27_r (s : Env) (v2 : Value) : Act := fr 11 (U s 2 v2) []
/-- 27: escritoire/escritoireref.isNum -/
def M27 (R : Ending → Imm → Own → Prop) (x0 : Value) (I : Imm) (L : Own) : Prop :=
 eqn Tryd.prog .neq 9 false true x0 (S []) I L fun x4 I L =>
 gd (yb (some x4) true) (fun k => k x0 I L) (fun x6 I L =>
 gd (yb (some x4) true) (fun k => bin Tryd.prog .add 9 (S [32]) x6 I L k) (fun x7 I L =>
 gd (yb (some x4) true) (fun k => bin Tryd.prog .add 9 x7 (S [32]) I L k) (fun x8 I L =>
 gd (yb (some x4) true) (fun k => cal Tryd.prog 28 #[(S [32, 117, 56, 32, 105, 56, 32, 117, 49, 54, 108, 101, 32, 117, 49, 54, 98, 101, 32, 105, 49, 54, 108, 101, 32, 105, 49, 54, 98, 101, 32, 117, 51, 50, 108, 101, 32, 117, 51, 50, 98, 101, 32, 105, 51, 50, 108, 101, 32, 105, 51, 50, 98, 101, 32, 105, 54, 52, 108, 101, 32, 105, 54, 52, 98, 101, 32]), x8] I L (xR R) k) (fun x9 I L =>
pck x4 x9 (.bool false) I L fun x10 I L =>
R (.returned x10) I L) I L) I L) I L) I L
theorem go27 {R : Ending → Imm → Own → Prop} {x0 : Value} {I : Imm} {L : Own} (h : M27 R x0 I L) : wpC Tryd.prog 27 #[x0] I L R :=
  wpC_goX (endN_le _ _ R) (fun _ => none) Tryd.func27 (by kernel_rfl) (O := True) (by kernel_rfl) trivial (by kernel_rfl) h

def F29_r (s : Env) (v2 : Value) : Act := fr 21 (U s 2 v2) []
/-- 29: (*escritoire/escritoireref.eyes).pass -/
def M29 (R : Ending → Imm → Own → Prop) (x0 : Value) (I : Imm) (L : Own) : Prop :=
 cal Tryd.prog 12 #[x0] I L (xR R) fun x5 I L =>
 eqn Tryd.prog .eql 9 false true x5 (S []) I L fun x7 I L =>
 cnd x7
 (cal Tryd.prog 14 #[x0] I L (xR R) fun x10 I L =>
 cal Tryd.prog 13 #[x0, (.int .i64 3), x10] I L (xR R) fun _ I L =>
R (.returned (S [])) I L)
 (nck Tryd.prog x0 I L fun x14 I L =>
 fad Tryd.prog 40 x14 0 I L fun x15 I L =>
 ld Tryd.prog 38 x15 I L fun x16 I L =>
 slc Tryd.prog 38 x16 (some (.int .i64 1)) none none I L fun x17 I L =>
 nck Tryd.prog x0 I L fun x18 I L =>
 fad Tryd.prog 40 x18 0 I L fun x19 I L =>
 sto Tryd.prog 38 x19 x17 I L fun _ I L =>
R (.returned x5) I L)
theorem go29 {R : Ending → Imm → Own → Prop} {x0 : Value} {I : Imm} {L : Own} (h : M29 R x0 I L) : wpC Tryd.prog 29 #[x0] I L R :=
  wpC_goX (endN_le _ _ R) (fun _ => none) Tryd.func29 (by kernel_rfl) (O := True) (by kernel_rfl) trivial (by kernel_rfl) h

def F30_r (s : Env) (v4 : Value) : Act := fr 123 (U s 4 v4) []
def F30_0 (s : Env) (v0 v4 v5 : Value) : Act := fr 123 (U (U (U s 0 v0) 4 v4) 5 v5) []
def F30_1 (s : Env) (v0 v4 v5 v6 : Value) : Act := fr 123 (U (U (U (U s 0 v0) 4 v4) 5 v5) 6 v6) []
def F30_2 (s : Env) (v0 v4 v5 : Value) : Act := fr 123 (U (U (U s 0 v0) 4 v4) 5 v5) []
def F30_3 (s : Env) (v0 v4 v5 v6 : Value) : Act := fr 123 (U (U (U (U s 0 v0) 4 v4) 5 v5) 6 v6) []
def F30_4 (s : Env) (v0 v4 v5 : Value) : Act := fr 123 (U (U (U s 0 v0) 4 v4) 5 v5) []
def Q30_0 (R : Ending → Imm → Own → Prop) : Exit → Act → Imm → Own → Prop := (endB Tryd.prog Tryd.f30 R)
def J30_0 (R : Ending → Imm → Own → Prop) (a : Act) (I : Imm) (L : Own) : Prop := cdB Tryd.prog (cdIn Tryd.f30 [1, 1, 1, 1]) (Q30_0 R) (endN R) a I L
def Q30_1 (R : Ending → Imm → Own → Prop) : Exit → Act → Imm → Own → Prop := (seqT (cdB Tryd.prog (cdIn Tryd.f30 [1, 1, 1, 0, 0, 1, 1, 1, 1, 1, 0, 1, 1]) (blkT 0 (seqT (cdB Tryd.prog (cdIn Tryd.f30 [1, 1, 1, 1]) (endB Tryd.prog Tryd.f30 R) (endN R)) (endB Tryd.prog Tryd.f30 R))) (endN R)) (blkT 0 (seqT (cdB Tryd.prog (cdIn Tryd.f30 [1, 1, 1, 1]) (endB Tryd.prog Tryd.f30 R) (endN R)) (endB Tryd.prog Tryd.f30 R))))
def D30_1 (R : Ending → Imm → Own → Prop) (a : Act) (I : Imm) (L : Own) : Prop := cdB Tryd.prog (cdIn Tryd.f30 [1, 1, 1, 0, 0, 1, 1, 1, 1, 1, 0, 1, 0]) (Q30_1 R) (endN R) a I L
def Q30_2 (R : Ending → Imm → Own → Prop) : Exit → Act → Imm → Own → Prop := (seqT (cdB Tryd.prog (cdIn Tryd.f30 [1, 1, 1, 1, 1]) (Q30_0 R) (endN R)) (Q30_0 R))
def J30_2 (R : Ending → Imm → Own → Prop) (a : Act) (I : Imm) (L : Own) : Prop := cdB Tryd.prog (cdIn Tryd.f30 [1, 1, 1, 1, 0, 1, 1, 1, 0, 1, 1]) (Q30_2 R) (endN R) a I L
def Q30_3 (R : Ending → Imm → Own → Prop) : Exit → Act → Imm → Own → Prop := (blkT 0 (seqT (cdB Tryd.prog (cdIn Tryd.f30 [1, 1, 1, 1]) (endB Tryd.prog Tryd.f30 R) (endN R)) (endB Tryd.prog Tryd.f30 R)))
def J30_3 (R : Ending → Imm → Own → Prop) (a : Act) (I : Imm) (L : Own) : Prop := cdB Tryd.prog (cdIn Tryd.f30 [1, 1, 1, 0, 0, 1, 1, 1, 1, 1, 0, 1, 1]) (Q30_3 R) (endN R) a I L
def Q30_4 (R : Ending → Imm → Own → Prop) : Exit → Act → Imm → Own → Prop := (Q30_0 R)
def J30_4 (R : Ending → Imm → Own → Prop) (a : Act) (I : Imm) (L : Own) : Prop := cdB Tryd.prog (cdIn Tryd.f30 [1, 1, 1, 1, 1]) (Q30_4 R) (endN R) a I L
/-- 30_0: live: 0 4 5 -/
def T30_0 (R : Ending → Imm → Own → Prop) (s : Env) (v0 v4 v5 : Value) (I : Imm) (L : Own) : Prop :=
 fad Tryd.prog 70 v5 0 I L fun x70 I L =>
 ld Tryd.prog 3 x70 I L fun x71 I L =>
 eqn Tryd.prog .neq 3 false true x71 (.int .i64 2) I L fun x72 I L =>
 gd (yb (some x72) true) (fun k => k v0 I L) (fun x74 I L =>
 gd (yb (some x72) true) (fun k => cal Tryd.prog 12 #[x74] I L (xR R) k) (fun x75 I L =>
 gd (yb (some x72) true) (fun k => eqn Tryd.prog .eql 9 false true x75 (S [91]) I L k) (fun x76 I L =>
pck x72 x76 (.bool false) I L fun x77 I L =>
 cnd x77
 (cal Tryd.prog 44 #[v0] I L (xR R) fun x79 I L =>
 fad Tryd.prog 70 v5 7 I L fun x80 I L =>
 sto Tryd.prog 4 x80 (.bool true) I L fun _ I L =>
 fad Tryd.prog 70 v5 8 I L fun x81 I L =>
 sto Tryd.prog 68 x81 x79 I L fun _ I L =>
 cal Tryd.prog 15 #[v0, (S [59])] I L (xR R) fun _ I L =>
 ld Tryd.prog 70 v5 I L fun x122 I L =>
 sto Tryd.prog 70 v4 x122 I L fun _ I L =>
 rcl Tryd.prog 70 v4 I L fun r0 =>
R (.returned r0) I L)
 (fad Tryd.prog 70 v5 0 I L fun x82 I L =>
 ld Tryd.prog 3 x82 I L fun x83 I L =>
 eqn Tryd.prog .eql 3 false true x83 (.int .i64 1) I L fun x84 I L =>
 gd (yb (some x84) true) (fun k => k v0 I L) (fun x86 I L =>
 gd (yb (some x84) true) (fun k => cal Tryd.prog 25 #[x86, (S [61])] I L (xR R) k) (fun x87 I L =>
pck x84 x87 (.bool false) I L fun x88 I L =>
 cnd x88
 (cal Tryd.prog 14 #[v0] I L (xR R) fun x90 I L =>
 cal Tryd.prog 29 #[v0] I L (xR R) fun x92 I L =>
 eqn Tryd.prog .eql 9 false true x92 (S [115, 105, 122, 101]) I L fun x97 I L =>
 cnd x97
 (fad Tryd.prog 70 v5 9 I L fun x98 I L =>
 sto Tryd.prog 3 x98 (.int .i64 1) I L fun _ I L =>
J30_2 R (F30_2 (U (U (U (U (U (U (U (U (U (U (U (U (U (U (U (U (U (U (U (U (U (U (U s 7 x90) 70 x70) 71 x71) 72 x72) 73 x72) 74 x74) 75 x75) 76 x76) 77 x77) 82 x82) 83 x83) 84 x84) 85 x84) 86 x86) 87 x87) 88 x88) 89 v0) 90 x90) 91 v0) 92 x92) 96 x97) 97 x97) 98 x98) v0 v4 v5) I L)
 (eqn Tryd.prog .eql 9 false true x92 (S [99, 111, 117, 110, 116]) I L fun x100 I L =>
 cnd x100
 (fad Tryd.prog 70 v5 9 I L fun x101 I L =>
 sto Tryd.prog 3 x101 (.int .i64 2) I L fun _ I L =>
J30_2 R (F30_2 (U (U (U (U (U (U (U (U (U (U (U (U (U (U (U (U (U (U (U (U (U (U (U (U (U s 7 x90) 70 x70) 71 x71) 72 x72) 73 x72) 74 x74) 75 x75) 76 x76) 77 x77) 82 x82) 83 x83) 84 x84) 85 x84) 86 x86) 87 x87) 88 x88) 89 v0) 90 x90) 91 v0) 92 x92) 96 x97) 97 x97) 99 x100) 100 x100) 101 x101) v0 v4 v5) I L)
 (eqn Tryd.prog .eql 9 false true x92 (S [99, 104, 101, 99, 107]) I L fun x103 I L =>
 cnd x103
 (fad Tryd.prog 70 v5 9 I L fun x104 I L =>
 sto Tryd.prog 3 x104 (.int .i64 3) I L fun _ I L =>
J30_2 R (F30_2 (U (U (U (U (U (U (U (U (U (U (U (U (U (U (U (U (U (U (U (U (U (U (U (U (U (U (U s 7 x90) 70 x70) 71 x71) 72 x72) 73 x72) 74 x74) 75 x75) 76 x76) 77 x77) 82 x82) 83 x83) 84 x84) 85 x84) 86 x86) 87 x87) 88 x88) 89 v0) 90 x90) 91 v0) 92 x92) 96 x97) 97 x97) 99 x100) 100 x100) 102 x103) 103 x103) 104 x104) v0 v4 v5) I L)
 (cal Tryd.prog 13 #[v0, (.int .i64 3), x90] I L (xR R) fun x95 I L =>
J30_2 R (F30_2 (U (U (U (U (U (U (U (U (U (U (U (U (U (U (U (U (U (U (U (U (U (U (U (U (U (U (U (U (U s 7 x90) 70 x70) 71 x71) 72 x72) 73 x72) 74 x74) 75 x75) 76 x76) 77 x77) 82 x82) 83 x83) 84 x84) 85 x84) 86 x86) 87 x87) 88 x88) 89 v0) 90 x90) 91 v0) 92 x92) 93 v0) 94 x90) 95 x95) 96 x97) 97 x97) 99 x100) 100 x100) 102 x103) 103 x103) v0 v4 v5) I L))))
 (cal Tryd.prog 15 #[v0, (S [59])] I L (xR R) fun _ I L =>
 ld Tryd.prog 70 v5 I L fun x122 I L =>
 sto Tryd.prog 70 v4 x122 I L fun _ I L =>
 rcl Tryd.prog 70 v4 I L fun r0 =>
R (.returned r0) I L)) I L) I L)) I L) I L) I L
theorem join30_0 {R : Ending → Imm → Own → Prop} {s : Env} {v0 v4 v5 : Value} {I : Imm} {L : Own} (h : T30_0 R s v0 v4 v5 I L) : J30_0 R (F30_0 s v0 v4 v5) I L :=
  sh_cutB (fun p => if p = [1, 1, 0, 1, 1, 1, 0] then some (J30_2 R) else none) (O := (J30_2 R = J30_2 R) ∧ True) (by kernel_rfl) ⟨rfl, trivial⟩ (by kernel_rfl) h
/-- 30_1: live: 0 4 5 6 -/
def G30_1 (R : Ending → Imm → Own → Prop) (C : Cls) (s : Env) (v0 v4 v5 v6 : Value) (I : Imm) (L : Own) : Prop :=
 qidx Tryd.prog 9 v6 (.int .i64 0) C fun x53 =>
 qeqn Tryd.prog .eql 5 false true x53 (.int .u8 105) C fun x54 =>
 qfad Tryd.prog 70 v5 0 C fun x55 =>
 sto Tryd.prog 3 x55 (.int .i64 1) I L fun _ I L =>
 (C I L ∧
 qfad Tryd.prog 70 v5 6 C fun x56 =>
 sto Tryd.prog 4 x56 x54 I L fun _ I L =>
J30_3 R (F30_3 (U (U (U (U (U s 52 v6) 53 x53) 54 x54) 55 x55) 56 x56) v0 v4 v5 v6) I L)
theorem draw30_1 {R : Ending → Imm → Own → Prop} {C : Cls} {s : Env} {v0 v4 v5 v6 : Value} {I : Imm} {L : Own} (hC : C I L) (h : G30_1 R C s v0 v4 v5 v6 I L) : D30_1 R (F30_1 s v0 v4 v5 v6) I L :=
  draw_planB (ops := opsIn Tryd.f30 [1, 1, 1, 0, 0, 1, 1, 1, 1, 1, 0, 1, 0]) (id := 16) (Q := Q30_1 R) (X := (endN R)) endN_put (.take 0 (.take 1 (.take 2 (.take 3 (.all fun _ => (.take 5 (.all fun _ => .done))))))) [6] (by kernel_rfl) rfl (by kernel_rfl) (by kernel_rfl) hC h
/-- 30_2: live: 0 4 5 -/
def T30_2 (R : Ending → Imm → Own → Prop) (s : Env) (v0 v4 v5 : Value) (I : Imm) (L : Own) : Prop :=
 cal Tryd.prog 16 #[v0] I L (xR R) fun x106 I L =>
 fad Tryd.prog 70 v5 10 I L fun x107 I L =>
 sto Tryd.prog 9 x107 x106 I L fun _ I L =>
 fad Tryd.prog 70 v5 9 I L fun x108 I L =>
 ld Tryd.prog 3 x108 I L fun x109 I L =>
 eqn Tryd.prog .eql 3 false true x109 (.int .i64 3) I L fun x110 I L =>
 cnd x110
 (fad Tryd.prog 70 v5 10 I L fun x111 I L =>
 ld Tryd.prog 9 x111 I L fun x112 I L =>
 fad Tryd.prog 70 v5 11 I L fun x113 I L =>
 sto Tryd.prog 9 x113 x112 I L fun _ I L =>
 cal Tryd.prog 12 #[v0] I L (xR R) fun x115 I L =>
 eqn Tryd.prog .neq 9 false true x115 (S [59]) I L fun x116 I L =>
 cnd x116
 (cal Tryd.prog 16 #[v0] I L (xR R) fun x118 I L =>
 fad Tryd.prog 70 v5 11 I L fun x119 I L =>
 sto Tryd.prog 9 x119 x118 I L fun _ I L =>
J30_4 R (F30_4 (U (U (U (U (U (U (U (U (U (U (U (U (U (U (U s 105 v0) 106 x106) 107 x107) 108 x108) 109 x109) 110 x110) 111 x111) 112 x112) 113 x113) 114 v0) 115 x115) 116 x116) 117 v0) 118 x118) 119 x119) v0 v4 v5) I L)
 (J30_4 R (F30_4 (U (U (U (U (U (U (U (U (U (U (U (U s 105 v0) 106 x106) 107 x107) 108 x108) 109 x109) 110 x110) 111 x111) 112 x112) 113 x113) 114 v0) 115 x115) 116 x116) v0 v4 v5) I L))
 (J30_4 R (F30_4 (U (U (U (U (U (U s 105 v0) 106 x106) 107 x107) 108 x108) 109 x109) 110 x110) v0 v4 v5) I L)
theorem join30_2 {R : Ending → Imm → Own → Prop} {s : Env} {v0 v4 v5 : Value} {I : Imm} {L : Own} (h : T30_2 R s v0 v4 v5 I L) : J30_2 R (F30_2 s v0 v4 v5) I L :=
  sh_cutB (fun _ => none) (O := True) (by kernel_rfl) trivial (by kernel_rfl) h
/-- 30_3: live: 0 4 5 6 -/
def T30_3 (R : Ending → Imm → Own → Prop) (s : Env) (v0 v4 v5 v6 : Value) (I : Imm) (L : Own) : Prop :=
 mkm Tryd.prog 94 none I L fun x57 I L =>
 mup Tryd.prog 94 x57 (.int .u8 56) (.int .i64 1) I L fun _ I L =>
 mup Tryd.prog 94 x57 (.int .u8 49) (.int .i64 2) I L fun _ I L =>
 mup Tryd.prog 94 x57 (.int .u8 51) (.int .i64 4) I L fun _ I L =>
 mup Tryd.prog 94 x57 (.int .u8 54) (.int .i64 8) I L fun _ I L =>
 idx Tryd.prog 9 v6 (.int .i64 1) I L fun x60 I L =>
 lkp Tryd.prog 94 x57 x60 false I L fun x61 I L =>
 fad Tryd.prog 70 v5 4 I L fun x62 I L =>
 sto Tryd.prog 3 x62 x61 I L fun _ I L =>
 cal Tryd.prog 46 #[v6, (S [98, 101])] I L (xR R) fun x64 I L =>
 cal Tryd.prog 45 #[x64] I L (xR R) fun x65 I L =>
 fad Tryd.prog 70 v5 5 I L fun x66 I L =>
 sto Tryd.prog 3 x66 x65 I L fun _ I L =>
 cal Tryd.prog 16 #[v0] I L (xR R) fun x68 I L =>
 fad Tryd.prog 70 v5 2 I L fun x69 I L =>
 sto Tryd.prog 9 x69 x68 I L fun _ I L =>
J30_0 R (F30_0 (U (U (U (U (U (U (U (U (U (U (U (U (U (U s 6 v6) 57 x57) 58 x57) 59 v6) 60 x60) 61 x61) 62 x62) 63 v6) 64 x64) 65 x65) 66 x66) 67 v0) 68 x68) 69 x69) v0 v4 v5) I L
theorem join30_3 {R : Ending → Imm → Own → Prop} {s : Env} {v0 v4 v5 v6 : Value} {I : Imm} {L : Own} (h : T30_3 R s v0 v4 v5 v6 I L) : J30_3 R (F30_3 s v0 v4 v5 v6) I L :=
  sh_cutB (fun _ => none) (O := True) (by kernel_rfl) trivial (by kernel_rfl) h
/-- 30_4: live: 0 4 5 -/
def T30_4 (R : Ending → Imm → Own → Prop) (s : Env) (v0 v4 v5 : Value) (I : Imm) (L : Own) : Prop :=
 cal Tryd.prog 15 #[v0, (S [59])] I L (xR R) fun _ I L =>
 ld Tryd.prog 70 v5 I L fun x122 I L =>
 sto Tryd.prog 70 v4 x122 I L fun _ I L =>
 rcl Tryd.prog 70 v4 I L fun r0 =>
R (.returned r0) I L
theorem join30_4 {R : Ending → Imm → Own → Prop} {s : Env} {v0 v4 v5 : Value} {I : Imm} {L : Own} (h : T30_4 R s v0 v4 v5 I L) : J30_4 R (F30_4 s v0 v4 v5) I L :=
  sh_cutB (fun _ => none) (O := True) (by kernel_rfl) trivial (by kernel_rfl) h
/-- 30: (*escritoire/escritoireref.eyes).item -/
def M30 (R : Ending → Imm → Own → Prop) (x0 x1 : Value) (I : Imm) (L : Own) : Prop :=
 al Tryd.prog 70 I L fun x4 I L =>
 cal Tryd.prog 14 #[x0] I L (xR R) fun x9 I L =>
 bld Tryd.prog 70 #[(1, x9)] I L fun x10 I L =>
 al Tryd.prog 70 I L fun x5 I L =>
 sto Tryd.prog 70 x5 x10 I L fun _ I L =>
 cal Tryd.prog 12 #[x0] I L (xR R) fun x12 I L =>
 eqn Tryd.prog .eql 9 false true x12 (S [119, 104, 101, 110]) I L fun x22 I L =>
 cnd x22
 (cal Tryd.prog 29 #[x0] I L (xR R) fun _ I L =>
 cal Tryd.prog 43 #[x0, (.int .i64 1), (.int .i64 0)] I L (xR R) fun x26 I L =>
 fad Tryd.prog 70 x5 0 I L fun x27 I L =>
 sto Tryd.prog 3 x27 (.int .i64 4) I L fun _ I L =>
 fad Tryd.prog 70 x5 8 I L fun x28 I L =>
 sto Tryd.prog 68 x28 x26 I L fun _ I L =>
 bin Tryd.prog .add 3 x1 (.int .i64 1) I L fun x31 I L =>
 cal Tryd.prog 17 #[x0, x31] I L (xR R) fun x32 I L =>
 fad Tryd.prog 70 x5 12 I L fun x33 I L =>
 sto Tryd.prog 45 x33 x32 I L fun _ I L =>
 ld Tryd.prog 70 x5 I L fun x34 I L =>
 sto Tryd.prog 70 x4 x34 I L fun _ I L =>
 rcl Tryd.prog 70 x4 I L fun r0 =>
R (.returned r0) I L)
 (eqn Tryd.prog .eql 9 false true x12 (S [98, 121, 116, 101, 115]) I L fun x37 I L =>
 cnd x37
 (cal Tryd.prog 29 #[x0] I L (xR R) fun x39 I L =>
 cal Tryd.prog 16 #[x0] I L (xR R) fun x41 I L =>
 fad Tryd.prog 70 x5 0 I L fun x42 I L =>
 sto Tryd.prog 3 x42 (.int .i64 2) I L fun _ I L =>
 fad Tryd.prog 70 x5 2 I L fun x43 I L =>
 sto Tryd.prog 9 x43 x41 I L fun _ I L =>
 cal Tryd.prog 44 #[x0] I L (xR R) fun x45 I L =>
 fad Tryd.prog 70 x5 8 I L fun x46 I L =>
 sto Tryd.prog 68 x46 x45 I L fun _ I L =>
J30_0 R (F30_0 (U (U (U (U (U (U (U (U (U (U (U (U (U (U (U (U (U (U (U (U (U (U eU 1 x1) 6 x12) 8 x0) 9 x9) 10 x10) 11 x0) 12 x12) 20 x22) 21 x12) 22 x22) 35 x37) 36 x12) 37 x37) 38 x0) 39 x39) 40 x0) 41 x41) 42 x42) 43 x43) 44 x0) 45 x45) 46 x46) x0 x4 x5) I L)
 (cal Tryd.prog 27 #[x12] I L (xR R) fun x49 I L =>
 cnd x49
 (cal Tryd.prog 29 #[x0] I L (xR R) fun x51 I L =>
D30_1 R (F30_1 (U (U (U (U (U (U (U (U (U (U (U (U (U (U (U (U (U eU 1 x1) 8 x0) 9 x9) 10 x10) 11 x0) 12 x12) 20 x22) 21 x12) 22 x22) 35 x37) 36 x12) 37 x37) 47 x49) 48 x12) 49 x49) 50 x0) 51 x51) x0 x4 x5 x12) I L)
 (cal Tryd.prog 16 #[x0] I L (xR R) fun x14 I L =>
 fad Tryd.prog 70 x5 0 I L fun x15 I L =>
 sto Tryd.prog 3 x15 (.int .i64 3) I L fun _ I L =>
 fad Tryd.prog 70 x5 3 I L fun x16 I L =>
 sto Tryd.prog 9 x16 x14 I L fun _ I L =>
 cal Tryd.prog 16 #[x0] I L (xR R) fun x18 I L =>
 fad Tryd.prog 70 x5 2 I L fun x19 I L =>
 sto Tryd.prog 9 x19 x18 I L fun _ I L =>
J30_0 R (F30_0 (U (U (U (U (U (U (U (U (U (U (U (U (U (U (U (U (U (U (U (U (U (U (U eU 1 x1) 6 x12) 8 x0) 9 x9) 10 x10) 11 x0) 12 x12) 13 x0) 14 x14) 15 x15) 16 x16) 17 x0) 18 x18) 19 x19) 20 x22) 21 x12) 22 x22) 35 x37) 36 x12) 37 x37) 47 x49) 48 x12) 49 x49) x0 x4 x5) I L)))
theorem go30 {R : Ending → Imm → Own → Prop} {x0 x1 : Value} {I : Imm} {L : Own} (h : M30 R x0 x1 I L) : wpC Tryd.prog 30 #[x0, x1] I L R :=
  wpC_goX (endN_le _ _ R) (fun p => if p = [0, 1, 0, 1, 1, 1, 1, 1, 0, 0, 1, 1, 1] then some (D30_1 R) else if p = [1, 1, 1, 1] then some (J30_0 R) else none) Tryd.func30 (by kernel_rfl) (O := (D30_1 R = D30_1 R) ∧ (J30_0 R = J30_0 R) ∧ True) (by kernel_rfl) ⟨rfl, rfl, trivial⟩ (by kernel_rfl) h

def F34_r (s : Env) (v3 : Value) : Act := fr 41 (U s 3 v3) []
def F34_0 (s : Env) (v1 v3 v10 v11 v12 : Value) : Act := fr 41 (U (U (U (U (U s 1 v1) 3 v3) 10 v10) 11 v11) 12 v12) []
def F34_1 (s : Env) (v1 v3 v5 v6 v10 v11 v12 v16 v17 v18 : Value) : Act := fr 41 (U (U (U (U (U (U (U (U (U (U s 1 v1) 3 v3) 5 v5) 6 v6) 10 v10) 11 v11) 12 v12) 16 v16) 17 v17) 18 v18) []
def F34_2 (s : Env) (v3 : Value) : Act := fr 41 (U s 3 v3) []
def F34_3 (s : Env) (v1 v3 v5 v6 v10 v11 v12 : Value) : Act := fr 41 (U (U (U (U (U (U (U s 1 v1) 3 v3) 5 v5) 6 v6) 10 v10) 11 v11) 12 v12) []
def F34_4 (s : Env) (v1 v3 v10 v11 v12 : Value) : Act := fr 41 (U (U (U (U (U s 1 v1) 3 v3) 10 v10) 11 v11) 12 v12) []
def Q34_0 (R : Ending → Imm → Own → Prop) : Exit → Act → Imm → Own → Prop := (blkT 0 (seqT (cdB Tryd.prog (cdIn Tryd.f34 [1, 1]) (endB Tryd.prog Tryd.f34 R) (endN R)) (endB Tryd.prog Tryd.f34 R)))
def L34_0 (R : Ending → Imm → Own → Prop) (a : Act) (I : Imm) (L : Own) : Prop := cdB Tryd.prog (cdIn Tryd.f34 [1, 0, 1, 0]) (Q34_0 R) (endN R) a I L
def Q34_1 (R : Ending → Imm → Own → Prop) (N : Act → Imm → Own → Prop) (Q : Exit → Act → Imm → Own → Prop) : Exit → Act → Imm → Own → Prop := (blkT 2 (seqT (cdB Tryd.prog (cdIn Tryd.f34 [1, 0, 1, 0, 0, 1, 1, 0, 0, 1, 1, 1]) (blkT 1 (seqT (cdB Tryd.prog (cdIn Tryd.f34 [1, 0, 1, 0, 0, 1, 1, 1]) (seqT N Q) (endN R)) (seqT N Q))) (endN R)) (blkT 1 (seqT (cdB Tryd.prog (cdIn Tryd.f34 [1, 0, 1, 0, 0, 1, 1, 1]) (seqT N Q) (endN R)) (seqT N Q)))))
def L34_1 (R : Ending → Imm → Own → Prop) (N : Act → Imm → Own → Prop) (Q : Exit → Act → Imm → Own → Prop) (a : Act) (I : Imm) (L : Own) : Prop := cdB Tryd.prog (cdIn Tryd.f34 [1, 0, 1, 0, 0, 1, 1, 0, 0, 1, 1, 0, 1, 0]) (Q34_1 R N Q) (endN R) a I L
def Q34_2 (R : Ending → Imm → Own → Prop) : Exit → Act → Imm → Own → Prop := (endB Tryd.prog Tryd.f34 R)
def J34_2 (R : Ending → Imm → Own → Prop) (a : Act) (I : Imm) (L : Own) : Prop := cdB Tryd.prog (cdIn Tryd.f34 [1, 1]) (Q34_2 R) (endN R) a I L
def Q34_3 (R : Ending → Imm → Own → Prop) (N : Act → Imm → Own → Prop) (Q : Exit → Act → Imm → Own → Prop) : Exit → Act → Imm → Own → Prop := (blkT 1 (seqT (cdB Tryd.prog (cdIn Tryd.f34 [1, 0, 1, 0, 0, 1, 1, 1]) (seqT N Q) (endN R)) (seqT N Q)))
def J34_3 (R : Ending → Imm → Own → Prop) (N : Act → Imm → Own → Prop) (Q : Exit → Act → Imm → Own → Prop) (a : Act) (I : Imm) (L : Own) : Prop := cdB Tryd.prog (cdIn Tryd.f34 [1, 0, 1, 0, 0, 1, 1, 0, 0, 1, 1, 1]) (Q34_3 R N Q) (endN R) a I L
def Q34_4 (R : Ending → Imm → Own → Prop) (N : Act → Imm → Own → Prop) (Q : Exit → Act → Imm → Own → Prop) : Exit → Act → Imm → Own → Prop := (seqT N Q)
def J34_4 (R : Ending → Imm → Own → Prop) (N : Act → Imm → Own → Prop) (Q : Exit → Act → Imm → Own → Prop) (a : Act) (I : Imm) (L : Own) : Prop := cdB Tryd.prog (cdIn Tryd.f34 [1, 0, 1, 0, 0, 1, 1, 1]) (Q34_4 R N Q) (endN R) a I L
/-- loop 34_0: live: 1 3 10 11 12; what changes: 12 -/
def B34_0 (R : Ending → Imm → Own → Prop) (N : Act → Imm → Own → Prop) (Q : Exit → Act → Imm → Own → Prop) (s : Env) (v1 v3 v10 v11 v12 : Value) (I : Imm) (L : Own) : Prop :=
 bin Tryd.prog .lss 3 v12 v11 I L fun x13 I L =>
 cnd x13
 (iad Tryd.prog 82 v10 v12 I L fun x14 I L =>
 ld Tryd.prog 68 x14 I L fun x15 I L =>
 ld Tryd.prog 57 v1 I L fun x16 I L =>
 blt Tryd.prog .len #[57] 3 #[x16] I L fun x17 I L =>
L34_1 R N Q (F34_1 (U (U (U s 13 x13) 14 x14) 15 x15) v1 v3 x15 (.bool false) v10 v11 v12 x16 x17 (.int .i64 0)) I L)
 (Q (.exit 0) (F34_2 (U (U (U (U (U s 1 v1) 10 v10) 11 v11) 12 v12) 13 x13) v3) I L)
theorem round34_0 {R : Ending → Imm → Own → Prop} {N : Act → Imm → Own → Prop} {Q : Exit → Act → Imm → Own → Prop} {s : Env} {v1 v3 v10 v11 v12 : Value} {I : Imm} {L : Own} (h : B34_0 R N Q s v1 v3 v10 v11 v12 I L) : cdB Tryd.prog (cdIn Tryd.f34 [1, 0, 1, 0, 0]) (seqT N Q) (endN R) (F34_0 s v1 v3 v10 v11 v12) I L :=
  sh_cutB (fun p => if p = [0, 1, 0, 1, 1, 0, 0, 1, 1] then some (L34_1 R N Q) else none) (O := (L34_1 R N Q = L34_1 R N Q) ∧ True) (by kernel_rfl) ⟨rfl, trivial⟩ (by kernel_rfl) h
theorem loop34_0 {R : Ending → Imm → Own → Prop} {s : Env} {v1 v3 v10 v11 : Value} {u12 : Value} {I : Imm} {L : Own} (Inv : Nat → Value → Imm → Own → Prop) {n : Nat} (h : Inv n u12 I L)
  (round : ∀ (n : Nat) (x12 : Value) (I' : Imm) (L' : Own), I.Le I' → Inv n x12 I' L' → ∀ (N' : Act → Imm → Own → Prop), (∀ (m : Nat) {s : Env} {y12 : Value} {I : Imm} {L : Own}, m < n → Inv m y12 I L → N' (F34_0 s v1 v3 v10 v11 y12) I L) → ∀ (s : Env), B34_0 R N' (Q34_0 R) s v1 v3 v10 v11 x12 I' L') : L34_0 R (F34_0 s v1 v3 v10 v11 u12) I L :=
  loop_genB (by kernel_rfl) (fun n a I L => ∃ (s : Env) (x12 : Value), a = (F34_0 s v1 v3 v10 v11 x12) ∧ Inv n x12 I L) ⟨s, _, rfl, h⟩ fun n a I' L' hle ⟨s, x12, e, hi⟩ => e ▸ round34_0 (round n x12 I' L' hle hi (fun a I L => ∃ m, m < n ∧ (fun n a I L => ∃ (s : Env) (x12 : Value), a = (F34_0 s v1 v3 v10 v11 x12) ∧ Inv n x12 I L) m a I L) (fun m {s y12 I L} hm hi => ⟨m, hm, s, _, rfl, hi⟩) s)
theorem out34_0x0 {R : Ending → Imm → Own → Prop} {s : Env} {v3 : Value} {I : Imm} {L : Own} (h : J34_2 R (F34_2 s v3) I L) : Q34_0 R (.exit 0) (F34_2 s v3) I L :=
  Eq.mpr (by kernel_rfl) h
theorem out34_0r {R : Ending → Imm → Own → Prop} {s : Env} {v3 : Value} {I : Imm} {L : Own} (h : rcl Tryd.prog 26 v3 I L fun r0 =>
R (.returned r0) I L) : Q34_0 R .ret (F34_r s v3) I L :=
  Eq.mpr (by kernel_rfl) h
/-- loop 34_1: live: 1 3 5 6 10 11 12 16 17 18; what changes: 6 18 -/
def B34_1 (R : Ending → Imm → Own → Prop) (N : Act → Imm → Own → Prop) (Q : Exit → Act → Imm → Own → Prop) (s : Env) (v1 v3 v5 v6 v10 v11 v12 v16 v17 v18 : Value) (I : Imm) (L : Own) : Prop :=
 bin Tryd.prog .lss 3 v18 v17 I L fun x19 I L =>
 cnd x19
 (iad Tryd.prog 57 v16 v18 I L fun x20 I L =>
 ld Tryd.prog 9 x20 I L fun x21 I L =>
 gd (yb (some v6) false) (fun k => k x21 I L) (fun x24 I L =>
 gd (yb (some v6) false) (fun k => k v5 I L) (fun x25 I L =>
 gd (yb (some v6) false) (fun k => nck Tryd.prog x25 I L k) (fun x26 I L =>
 gd (yb (some v6) false) (fun k => fad Tryd.prog 85 x26 3 I L k) (fun x27 I L =>
 gd (yb (some v6) false) (fun k => ld Tryd.prog 9 x27 I L k) (fun x28 I L =>
 gd (yb (some v6) false) (fun k => eqn Tryd.prog .eql 9 false false x24 x28 I L k) (fun x29 I L =>
pck v6 (.bool true) x29 I L fun x30 I L =>
 bin Tryd.prog .add 3 v18 (.int .i64 1) I L fun x31 I L =>
N (F34_1 (U (U (U (U (U (U (U (U (U (U (U (U (U (U s 8 x21) 19 x19) 20 x20) 21 x21) 22 v6) 23 v6) 24 x24) 25 x25) 26 x26) 27 x27) 28 x28) 29 x29) 30 x30) 31 x31) v1 v3 v5 x30 v10 v11 v12 v16 v17 x31) I L) I L) I L) I L) I L) I L) I L)
 (Q (.exit 2) (F34_3 (U (U (U (U s 16 v16) 17 v17) 18 v18) 19 x19) v1 v3 v5 v6 v10 v11 v12) I L)
theorem round34_1 {R : Ending → Imm → Own → Prop} {N : Act → Imm → Own → Prop} {Q : Exit → Act → Imm → Own → Prop} {s : Env} {v1 v3 v5 v6 v10 v11 v12 v16 v17 v18 : Value} {I : Imm} {L : Own} (h : B34_1 R N Q s v1 v3 v5 v6 v10 v11 v12 v16 v17 v18 I L) : cdB Tryd.prog (cdIn Tryd.f34 [1, 0, 1, 0, 0, 1, 1, 0, 0, 1, 1, 0, 1, 0, 0]) (seqT N Q) (endN R) (F34_1 s v1 v3 v5 v6 v10 v11 v12 v16 v17 v18) I L :=
  sh_cutB (fun _ => none) (O := True) (by kernel_rfl) trivial (by kernel_rfl) h
theorem loop34_1 {R : Ending → Imm → Own → Prop} {N : Act → Imm → Own → Prop} {Q : Exit → Act → Imm → Own → Prop} {s : Env} {v1 v3 v5 v10 v11 v12 v16 v17 : Value} {u6 u18 : Value} {I : Imm} {L : Own} (Inv : Nat → Value → Value → Imm → Own → Prop) {n : Nat} (h : Inv n u6 u18 I L)
  (round : ∀ (n : Nat) (x6 x18 : Value) (I' : Imm) (L' : Own), I.Le I' → Inv n x6 x18 I' L' → ∀ (N' : Act → Imm → Own → Prop), (∀ (m : Nat) {s : Env} {y6 y18 : Value} {I : Imm} {L : Own}, m < n → Inv m y6 y18 I L → N' (F34_1 s v1 v3 v5 y6 v10 v11 v12 v16 v17 y18) I L) → ∀ (s : Env), B34_1 R N' (Q34_1 R N Q) s v1 v3 v5 x6 v10 v11 v12 v16 v17 x18 I' L') : L34_1 R N Q (F34_1 s v1 v3 v5 u6 v10 v11 v12 v16 v17 u18) I L :=
  loop_genB (by kernel_rfl) (fun n a I L => ∃ (s : Env) (x6 x18 : Value), a = (F34_1 s v1 v3 v5 x6 v10 v11 v12 v16 v17 x18) ∧ Inv n x6 x18 I L) ⟨s, _, _, rfl, h⟩ fun n a I' L' hle ⟨s, x6, x18, e, hi⟩ => e ▸ round34_1 (round n x6 x18 I' L' hle hi (fun a I L => ∃ m, m < n ∧ (fun n a I L => ∃ (s : Env) (x6 x18 : Value), a = (F34_1 s v1 v3 v5 x6 v10 v11 v12 v16 v17 x18) ∧ Inv n x6 x18 I L) m a I L) (fun m {s y6 y18 I L} hm hi => ⟨m, hm, s, _, _, rfl, hi⟩) s)
theorem out34_1x2 {R : Ending → Imm → Own → Prop} {N : Act → Imm → Own → Prop} {Q : Exit → Act → Imm → Own → Prop} {s : Env} {v1 v3 v5 v6 v10 v11 v12 : Value} {I : Imm} {L : Own} (h : J34_3 R N Q (F34_3 s v1 v3 v5 v6 v10 v11 v12) I L) : Q34_1 R N Q (.exit 2) (F34_3 s v1 v3 v5 v6 v10 v11 v12) I L :=
  Eq.mpr (by kernel_rfl) h
/-- 34_2: live: 3 -/
def T34_2 (R : Ending → Imm → Own → Prop) (s : Env) (v3 : Value) (I : Imm) (L : Own) : Prop :=
 cal Tryd.prog 18 #[] I L (xR R) fun x40 I L =>
 sto Tryd.prog 26 v3 x40 I L fun _ I L =>
 rcl Tryd.prog 26 v3 I L fun r0 =>
R (.returned r0) I L
theorem join34_2 {R : Ending → Imm → Own → Prop} {s : Env} {v3 : Value} {I : Imm} {L : Own} (h : T34_2 R s v3 I L) : J34_2 R (F34_2 s v3) I L :=
  sh_cutB (fun _ => none) (O := True) (by kernel_rfl) trivial (by kernel_rfl) h
/-- 34_3: live: 1 3 5 6 10 11 12 -/
def T34_3 (R : Ending → Imm → Own → Prop) (N : Act → Imm → Own → Prop) (Q : Exit → Act → Imm → Own → Prop) (s : Env) (v1 v3 v5 v6 v10 v11 v12 : Value) (I : Imm) (L : Own) : Prop :=
 un Tryd.prog .not v6 I L fun x33 I L =>
 cnd x33
 (nck Tryd.prog v5 I L fun x35 I L =>
 fad Tryd.prog 85 x35 1 I L fun x36 I L =>
 ld Tryd.prog 3 x36 I L fun x37 I L =>
 bld Tryd.prog 26 #[(0, (.int .i64 5)), (1, x37)] I L fun x38 I L =>
 sto Tryd.prog 26 v3 x38 I L fun _ I L =>
Q .ret (F34_r (U (U (U (U (U (U (U (U (U (U (U (U (U s 1 v1) 5 v5) 6 v6) 10 v10) 11 v11) 12 v12) 32 v6) 33 x33) 34 v5) 35 x35) 36 x36) 37 x37) 38 x38) v3) I L)
 (J34_4 R N Q (F34_4 (U (U (U (U s 5 v5) 6 v6) 32 v6) 33 x33) v1 v3 v10 v11 v12) I L)
theorem join34_3 {R : Ending → Imm → Own → Prop} {N : Act → Imm → Own → Prop} {Q : Exit → Act → Imm → Own → Prop} {s : Env} {v1 v3 v5 v6 v10 v11 v12 : Value} {I : Imm} {L : Own} (h : T34_3 R N Q s v1 v3 v5 v6 v10 v11 v12 I L) : J34_3 R N Q (F34_3 s v1 v3 v5 v6 v10 v11 v12) I L :=
  sh_cutB (fun _ => none) (O := True) (by kernel_rfl) trivial (by kernel_rfl) h
/-- 34_4: live: 1 3 10 11 12 -/
def T34_4 (R : Ending → Imm → Own → Prop) (N : Act → Imm → Own → Prop) (Q : Exit → Act → Imm → Own → Prop) (s : Env) (v1 v3 v10 v11 v12 : Value) (I : Imm) (L : Own) : Prop :=
 bin Tryd.prog .add 3 v12 (.int .i64 1) I L fun x39 I L =>
N (F34_0 (U s 39 x39) v1 v3 v10 v11 x39) I L
theorem join34_4 {R : Ending → Imm → Own → Prop} {N : Act → Imm → Own → Prop} {Q : Exit → Act → Imm → Own → Prop} {s : Env} {v1 v3 v10 v11 v12 : Value} {I : Imm} {L : Own} (h : T34_4 R N Q s v1 v3 v10 v11 v12 I L) : J34_4 R N Q (F34_4 s v1 v3 v10 v11 v12) I L :=
  sh_cutB (fun _ => none) (O := True) (by kernel_rfl) trivial (by kernel_rfl) h
/-- 34: escritoire/escritoireref.blockWrong$1 -/
def M34 (R : Ending → Imm → Own → Prop) (x0 x1 : Value) (I : Imm) (L : Own) : Prop :=
 al Tryd.prog 26 I L fun x3 I L =>
 cal Tryd.prog 35 #[x0] I L (xR R) fun x10 I L =>
 blt Tryd.prog .len #[82] 3 #[x10] I L fun x11 I L =>
L34_0 R (F34_0 (U (U eU 0 x0) 9 x0) x1 x3 x10 x11 (.int .i64 0)) I L
theorem go34 {R : Ending → Imm → Own → Prop} {x0 x1 : Value} {I : Imm} {L : Own} (h : M34 R x0 x1 I L) : wpC Tryd.prog 34 #[x0, x1] I L R :=
  wpC_goX (endN_le _ _ R) (fun p => if p = [0, 1, 0, 1] then some (L34_0 R) else none) Tryd.func34 (by kernel_rfl) (O := (L34_0 R = L34_0 R) ∧ True) (by kernel_rfl) ⟨rfl, trivial⟩ (by kernel_rfl) h

def F35_r (s : Env) (v2 : Value) : Act := fr 30 (U s 2 v2) []
def F35_0 (s : Env) (v0 : Value) : Act := fr 30 (U s 0 v0) []
def F35_1 (s : Env) (v2 : Value) : Act := fr 30 (U s 2 v2) []
def Q35_0 (R : Ending → Imm → Own → Prop) : Exit → Act → Imm → Own → Prop := (seqT (cdB Tryd.prog (cdIn Tryd.f35 [1, 1, 1, 1]) (endB Tryd.prog Tryd.f35 R) (endN R)) (endB Tryd.prog Tryd.f35 R))
def D35_0 (R : Ending → Imm → Own → Prop) (a : Act) (I : Imm) (L : Own) : Prop := cdB Tryd.prog (cdIn Tryd.f35 [1, 1, 1, 0]) (Q35_0 R) (endN R) a I L
def Q35_1 (R : Ending → Imm → Own → Prop) : Exit → Act → Imm → Own → Prop := (endB Tryd.prog Tryd.f35 R)
def J35_1 (R : Ending → Imm → Own → Prop) (a : Act) (I : Imm) (L : Own) : Prop := cdB Tryd.prog (cdIn Tryd.f35 [1, 1, 1, 1]) (Q35_1 R) (endN R) a I L
/-- 35_0: live: 0 -/
def G35_0 (R : Ending → Imm → Own → Prop) (C : Cls) (s : Env) (v0 : Value) (I : Imm) (L : Own) : Prop :=
 qnck Tryd.prog v0 C fun x20 =>
 qfad Tryd.prog 85 x20 5 C fun x21 =>
 qld Tryd.prog 68 x21 C fun x22 =>
 qnck Tryd.prog v0 C fun x25 =>
 qfad Tryd.prog 85 x25 6 C fun x26 =>
 qld Tryd.prog 68 x26 C fun x27 =>
 cal Tryd.prog 35 #[x22] I L (xR R) fun x23 I L =>
 (C I L ∧
 cal Tryd.prog 35 #[x27] I L (xR R) fun x28 I L =>
 (C I L ∧
 blt Tryd.prog .append #[82, 82] 82 #[x23, x28] I L fun x29 I L =>
 (C I L ∧
J35_1 R (F35_1 (U (U (U (U (U (U (U (U (U (U (U (U s 0 v0) 19 v0) 20 x20) 21 x21) 22 x22) 23 x23) 24 v0) 25 x25) 26 x26) 27 x27) 28 x28) 29 x29) x29) I L)))
theorem draw35_0 {R : Ending → Imm → Own → Prop} {C : Cls} {s : Env} {v0 : Value} {I : Imm} {L : Own} (hC : C I L) (h : G35_0 R C s v0 I L) : D35_0 R (F35_0 s v0) I L :=
  draw_planB (ops := opsIn Tryd.f35 [1, 1, 1, 0]) (id := 5) (Q := Q35_0 R) (X := (endN R)) endN_put (.take 0 (.take 1 (.take 2 (.take 3 (.take 5 (.take 6 (.take 7 (.take 8 (.all fun _ => (.all fun _ => (.all fun _ => (.take 11 .done)))))))))))) [] (by kernel_rfl) rfl (by kernel_rfl) (by kernel_rfl) hC h
/-- 35_1: live: 2 -/
def T35_1 (R : Ending → Imm → Own → Prop) (s : Env) (v2 : Value) (I : Imm) (L : Own) : Prop :=
R (.returned v2) I L
theorem join35_1 {R : Ending → Imm → Own → Prop} {s : Env} {v2 : Value} {I : Imm} {L : Own} (h : T35_1 R s v2 I L) : J35_1 R (F35_1 s v2) I L :=
  sh_cutB (fun _ => none) (O := True) (by kernel_rfl) trivial (by kernel_rfl) h
/-- 35: escritoire/escritoireref.exprNames -/
def M35 (R : Ending → Imm → Own → Prop) (x0 : Value) (I : Imm) (L : Own) : Prop :=
 eqn Tryd.prog .eql 68 false true x0 (.pointer none) I L fun x4 I L =>
 gd (yb (some x4) false) (fun k => k x0 I L) (fun x6 I L =>
 gd (yb (some x4) false) (fun k => nck Tryd.prog x6 I L k) (fun x7 I L =>
 gd (yb (some x4) false) (fun k => fad Tryd.prog 85 x7 0 I L k) (fun x8 I L =>
 gd (yb (some x4) false) (fun k => ld Tryd.prog 3 x8 I L k) (fun x9 I L =>
 gd (yb (some x4) false) (fun k => eqn Tryd.prog .eql 3 false true x9 (.int .i64 1) I L k) (fun x10 I L =>
pck x4 (.bool true) x10 I L fun x11 I L =>
 cnd x11
 (R (.returned (.slice none 0 0)) I L)
 (nck Tryd.prog x0 I L fun x13 I L =>
 fad Tryd.prog 85 x13 0 I L fun x14 I L =>
 ld Tryd.prog 3 x14 I L fun x15 I L =>
 eqn Tryd.prog .eql 3 false true x15 (.int .i64 2) I L fun x16 I L =>
 cnd x16
 (bsl Tryd.prog 82 1 #[(0, x0)] I L fun x18 I L =>
R (.returned x18) I L)
 (D35_0 R (F35_0 (U (U (U (U (U (U (U (U (U (U (U (U (U (U (U eU 2 (.slice none 0 0)) 3 x0) 4 x4) 5 x4) 6 x6) 7 x7) 8 x8) 9 x9) 10 x10) 11 x11) 12 x0) 13 x13) 14 x14) 15 x15) 16 x16) x0) I L))) I L) I L) I L) I L) I L
theorem go35 {R : Ending → Imm → Own → Prop} {x0 : Value} {I : Imm} {L : Own} (h : M35 R x0 I L) : wpC Tryd.prog 35 #[x0] I L R :=
  wpC_goX (endN_le _ _ R) (fun p => if p = [0, 1, 1, 1] then some (D35_0 R) else none) Tryd.func35 (by kernel_rfl) (O := (D35_0 R = D35_0 R) ∧ True) (by kernel_rfl) ⟨rfl, trivial⟩ (by kernel_rfl) h

def F36_r (s : Env) (v4 : Value) : Act := fr 25 (U s 4 v4) []
def F36_0 (s : Env) (v1 v7 v8 v9 : Value) : Act := fr 25 (U (U (U (U s 1 v1) 7 v7) 8 v8) 9 v9) []
def F36_1 (s : Env) : Act := fr 25 s []
def Q36_0 (R : Ending → Imm → Own → Prop) : Exit → Act → Imm → Own → Prop := (blkT 0 (seqT (cdB Tryd.prog (cdIn Tryd.f36 [1, 1]) (endB Tryd.prog Tryd.f36 R) (endN R)) (endB Tryd.prog Tryd.f36 R)))
def L36_0 (R : Ending → Imm → Own → Prop) (a : Act) (I : Imm) (L : Own) : Prop := cdB Tryd.prog (cdIn Tryd.f36 [1, 0, 1, 0]) (Q36_0 R) (endN R) a I L
def Q36_1 (R : Ending → Imm → Own → Prop) : Exit → Act → Imm → Own → Prop := (endB Tryd.prog Tryd.f36 R)
def J36_1 (R : Ending → Imm → Own → Prop) (a : Act) (I : Imm) (L : Own) : Prop := cdB Tryd.prog (cdIn Tryd.f36 [1, 1]) (Q36_1 R) (endN R) a I L
/-- loop 36_0: live: 1 7 8 9; what changes: 9 -/
def B36_0 (R : Ending → Imm → Own → Prop) (N : Act → Imm → Own → Prop) (Q : Exit → Act → Imm → Own → Prop) (s : Env) (v1 v7 v8 v9 : Value) (I : Imm) (L : Own) : Prop :=
 bin Tryd.prog .lss 3 v9 v8 I L fun x10 I L =>
 cnd x10
 (iad Tryd.prog 45 v7 v9 I L fun x12 I L =>
 ld Tryd.prog 70 x12 I L fun x13 I L =>
 al Tryd.prog 70 I L fun x6 I L =>
 sto Tryd.prog 70 x6 x13 I L fun _ I L =>
 fad Tryd.prog 70 x6 0 I L fun x14 I L =>
 ld Tryd.prog 3 x14 I L fun x15 I L =>
 eqn Tryd.prog .neq 3 false true x15 (.int .i64 4) I L fun x16 I L =>
 gd (yb (some x16) true) (fun k => fad Tryd.prog 70 x6 2 I L k) (fun x18 I L =>
 gd (yb (some x16) true) (fun k => ld Tryd.prog 9 x18 I L k) (fun x19 I L =>
 gd (yb (some x16) true) (fun k => k v1 I L) (fun x20 I L =>
 gd (yb (some x16) true) (fun k => eqn Tryd.prog .eql 9 false false x19 x20 I L k) (fun x21 I L =>
pck x16 x21 (.bool false) I L fun x22 I L =>
 cnd x22
 (Q .ret (F36_r (U (U (U (U (U (U (U (U (U (U (U (U (U (U (U (U (U (U (U (U s 1 v1) 5 v9) 6 x6) 7 v7) 8 v8) 9 v9) 10 x10) 11 v9) 12 x12) 13 x13) 14 x14) 15 x15) 16 x16) 17 x16) 18 x18) 19 x19) 20 x20) 21 x21) 22 x22) 23 v9) v9) I L)
 (bin Tryd.prog .add 3 v9 (.int .i64 1) I L fun x24 I L =>
N (F36_0 (U (U (U (U (U (U (U (U (U (U (U (U (U (U (U (U s 5 v9) 6 x6) 10 x10) 11 v9) 12 x12) 13 x13) 14 x14) 15 x15) 16 x16) 17 x16) 18 x18) 19 x19) 20 x20) 21 x21) 22 x22) 24 x24) v1 v7 v8 x24) I L)) I L) I L) I L) I L)
 (Q (.exit 0) (F36_1 (U (U (U (U (U s 1 v1) 7 v7) 8 v8) 9 v9) 10 x10)) I L)
theorem round36_0 {R : Ending → Imm → Own → Prop} {N : Act → Imm → Own → Prop} {Q : Exit → Act → Imm → Own → Prop} {s : Env} {v1 v7 v8 v9 : Value} {I : Imm} {L : Own} (h : B36_0 R N Q s v1 v7 v8 v9 I L) : cdB Tryd.prog (cdIn Tryd.f36 [1, 0, 1, 0, 0]) (seqT N Q) (endN R) (F36_0 s v1 v7 v8 v9) I L :=
  sh_cutB (fun _ => none) (O := True) (by kernel_rfl) trivial (by kernel_rfl) h
theorem loop36_0 {R : Ending → Imm → Own → Prop} {s : Env} {v1 v7 v8 : Value} {u9 : Value} {I : Imm} {L : Own} (Inv : Nat → Value → Imm → Own → Prop) {n : Nat} (h : Inv n u9 I L)
  (round : ∀ (n : Nat) (x9 : Value) (I' : Imm) (L' : Own), I.Le I' → Inv n x9 I' L' → ∀ (N' : Act → Imm → Own → Prop), (∀ (m : Nat) {s : Env} {y9 : Value} {I : Imm} {L : Own}, m < n → Inv m y9 I L → N' (F36_0 s v1 v7 v8 y9) I L) → ∀ (s : Env), B36_0 R N' (Q36_0 R) s v1 v7 v8 x9 I' L') : L36_0 R (F36_0 s v1 v7 v8 u9) I L :=
  loop_genB (by kernel_rfl) (fun n a I L => ∃ (s : Env) (x9 : Value), a = (F36_0 s v1 v7 v8 x9) ∧ Inv n x9 I L) ⟨s, _, rfl, h⟩ fun n a I' L' hle ⟨s, x9, e, hi⟩ => e ▸ round36_0 (round n x9 I' L' hle hi (fun a I L => ∃ m, m < n ∧ (fun n a I L => ∃ (s : Env) (x9 : Value), a = (F36_0 s v1 v7 v8 x9) ∧ Inv n x9 I L) m a I L) (fun m {s y9 I L} hm hi => ⟨m, hm, s, _, rfl, hi⟩) s)
theorem out36_0x0 {R : Ending → Imm → Own → Prop} {s : Env} {I : Imm} {L : Own} (h : J36_1 R (F36_1 s) I L) : Q36_0 R (.exit 0) (F36_1 s) I L :=
  Eq.mpr (by kernel_rfl) h
theorem out36_0r {R : Ending → Imm → Own → Prop} {s : Env} {v4 : Value} {I : Imm} {L : Own} (h : R (.returned v4) I L) : Q36_0 R .ret (F36_r s v4) I L :=
  Eq.mpr (by kernel_rfl) h
/-- 36_1: live:  -/
def T36_1 (R : Ending → Imm → Own → Prop) (s : Env) (I : Imm) (L : Own) : Prop :=
R (.returned (.int .i64 (-1))) I L
theorem join36_1 {R : Ending → Imm → Own → Prop} {s : Env} {I : Imm} {L : Own} (h : T36_1 R s I L) : J36_1 R (F36_1 s) I L :=
  sh_cutB (fun _ => none) (O := True) (by kernel_rfl) trivial (by kernel_rfl) h
/-- 36: escritoire/escritoireref.which -/
def M36 (R : Ending → Imm → Own → Prop) (x0 x1 : Value) (I : Imm) (L : Own) : Prop :=
 blt Tryd.prog .len #[45] 3 #[x0] I L fun x8 I L =>
L36_0 R (F36_0 (U (U eU 0 x0) 4 (.int .i64 0)) x1 x0 x8 (.int .i64 0)) I L
theorem go36 {R : Ending → Imm → Own → Prop} {x0 x1 : Value} {I : Imm} {L : Own} (h : M36 R x0 x1 I L) : wpC Tryd.prog 36 #[x0, x1] I L R :=
  wpC_goX (endN_le _ _ R) (fun p => if p = [0, 1, 0, 1] then some (L36_0 R) else none) Tryd.func36 (by kernel_rfl) (O := (L36_0 R = L36_0 R) ∧ True) (by kernel_rfl) ⟨rfl, trivial⟩ (by kernel_rfl) h

def F37_r (s : Env) (v6 : Value) : Act := fr 15 (U s 6 v6) []
/-- 37: escritoire/escritoireref.within -/
def M37 (R : Ending → Imm → Own → Prop) (x0 x1 x2 : Value) (I : Imm) (L : Own) : Prop :=
 bin Tryd.prog .leq 3 x1 x0 I L fun x9 I L =>
 gd (yb (some x9) true) (fun k => k x0 I L) (fun x11 I L =>
 gd (yb (some x9) true) (fun k => k x2 I L) (fun x12 I L =>
 gd (yb (some x9) true) (fun k => bin Tryd.prog .leq 3 x11 x12 I L k) (fun x13 I L =>
pck x9 x13 (.bool false) I L fun x14 I L =>
R (.returned x14) I L) I L) I L) I L
theorem go37 {R : Ending → Imm → Own → Prop} {x0 x1 x2 : Value} {I : Imm} {L : Own} (h : M37 R x0 x1 x2 I L) : wpC Tryd.prog 37 #[x0, x1, x2] I L R :=
  wpC_goX (endN_le _ _ R) (fun _ => none) Tryd.func37 (by kernel_rfl) (O := True) (by kernel_rfl) trivial (by kernel_rfl) h
end Go.Proofs.YtkclodaplbalfaaDoor
