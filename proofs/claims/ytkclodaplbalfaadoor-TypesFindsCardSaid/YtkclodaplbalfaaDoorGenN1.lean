/- The shallow forms of the functions, printed by a program of this claim's writer out of the loaded translation, each checked by the kernel. Conditions: none. -/
import Derived.Test.YtkclodaplbalfaaDoorSlB
import Derived.Test.YtkclodaplbalfaaDoorProg
set_option linter.unusedVariables false
set_option maxRecDepth 100000
namespace Go.Proofs.YtkclodaplbalfaaDoor
open Go Sl

def F38_r (s : Env) (v6 : Value) : Act := fr 36 (U s 6 v6) []
def F38_0 (s : Env) (v0 v2 v7 v8 : Value) : Act := fr 36 (U (U (U (U s 0 v0) 2 v2) 7 v7) 8 v8) []
def F38_1 (s : Env) : Act := fr 36 s []
def Q38_0 (R : Ending → Imm → Own → Prop) : Exit → Act → Imm → Own → Prop := (blkT 0 (seqT (cdB Tryd.prog (cdIn Tryd.f38 [1, 1, 1, 1]) (endB Tryd.prog Tryd.f38 R) (endN R)) (endB Tryd.prog Tryd.f38 R)))
def L38_0 (R : Ending → Imm → Own → Prop) (a : Act) (I : Imm) (L : Own) : Prop := cdB Tryd.prog (cdIn Tryd.f38 [1, 1, 1, 0, 0]) (Q38_0 R) (endN R) a I L
def Q38_1 (R : Ending → Imm → Own → Prop) : Exit → Act → Imm → Own → Prop := (endB Tryd.prog Tryd.f38 R)
def J38_1 (R : Ending → Imm → Own → Prop) (a : Act) (I : Imm) (L : Own) : Prop := cdB Tryd.prog (cdIn Tryd.f38 [1, 1, 1, 1]) (Q38_1 R) (endN R) a I L
/-- loop 38_0: live: 0 2 7 8; what changes: 8 -/
def B38_0 (R : Ending → Imm → Own → Prop) (N : Act → Imm → Own → Prop) (Q : Exit → Act → Imm → Own → Prop) (s : Env) (v0 v2 v7 v8 : Value) (I : Imm) (L : Own) : Prop :=
 blt Tryd.prog .len #[101] 3 #[v8] I L fun x15 I L =>
 bin Tryd.prog .gtr 3 x15 (.int .i64 0) I L fun x16 I L =>
 cnd x16
 (iad Tryd.prog 101 v8 (.int .i64 0) I L fun x18 I L =>
 ld Tryd.prog 3 x18 I L fun x19 I L =>
 slc Tryd.prog 101 v8 (some (.int .i64 1)) none none I L fun x21 I L =>
 eqn Tryd.prog .eql 3 false false x19 v2 I L fun x24 I L =>
 cnd x24
 (Q .ret (F38_r (U (U (U (U (U (U (U (U (U (U (U (U (U (U (U (U s 0 v0) 2 v2) 7 v7) 8 x21) 9 x19) 14 v8) 15 x15) 16 x16) 17 v8) 18 x18) 19 x19) 20 v8) 21 x21) 22 x19) 23 v2) 24 x24) (.bool true)) I L)
 (lkp Tryd.prog 100 v7 x19 false I L fun x27 I L =>
 un Tryd.prog .not x27 I L fun x28 I L =>
 cnd x28
 (mup Tryd.prog 100 v7 x19 (.bool true) I L fun _ I L =>
 cal Tryd.prog 52 #[v0, x19] I L (xR R) fun x34 I L =>
 blt Tryd.prog .append #[101, 101] 101 #[x21, x34] I L fun x35 I L =>
N (F38_0 (U (U (U (U (U (U (U (U (U (U (U (U (U (U (U (U (U (U (U (U (U (U (U s 9 x19) 14 v8) 15 x15) 16 x16) 17 v8) 18 x18) 19 x19) 20 v8) 21 x21) 22 x19) 23 v2) 24 x24) 25 v7) 26 x19) 27 x27) 28 x28) 29 v7) 30 x19) 31 x21) 32 v0) 33 x19) 34 x34) 35 x35) v0 v2 v7 x35) I L)
 (N (F38_0 (U (U (U (U (U (U (U (U (U (U (U (U (U (U (U (U s 9 x19) 14 v8) 15 x15) 16 x16) 17 v8) 18 x18) 19 x19) 20 v8) 21 x21) 22 x19) 23 v2) 24 x24) 25 v7) 26 x19) 27 x27) 28 x28) v0 v2 v7 x21) I L)))
 (Q (.exit 0) (F38_1 (U (U (U (U (U (U (U s 0 v0) 2 v2) 7 v7) 8 v8) 14 v8) 15 x15) 16 x16)) I L)
theorem round38_0 {R : Ending → Imm → Own → Prop} {N : Act → Imm → Own → Prop} {Q : Exit → Act → Imm → Own → Prop} {s : Env} {v0 v2 v7 v8 : Value} {I : Imm} {L : Own} (h : B38_0 R N Q s v0 v2 v7 v8 I L) : cdB Tryd.prog (cdIn Tryd.f38 [1, 1, 1, 0, 0, 0]) (seqT N Q) (endN R) (F38_0 s v0 v2 v7 v8) I L :=
  sh_cutB (fun _ => none) (O := True) (by kernel_rfl) trivial (by kernel_rfl) h
theorem loop38_0 {R : Ending → Imm → Own → Prop} {s : Env} {v0 v2 v7 : Value} {u8 : Value} {I : Imm} {L : Own} (Inv : Nat → Value → Imm → Own → Prop) {n : Nat} (h : Inv n u8 I L)
  (round : ∀ (n : Nat) (x8 : Value) (I' : Imm) (L' : Own), I.Le I' → Inv n x8 I' L' → ∀ (N' : Act → Imm → Own → Prop), (∀ (m : Nat) {s : Env} {y8 : Value} {I : Imm} {L : Own}, m < n → Inv m y8 I L → N' (F38_0 s v0 v2 v7 y8) I L) → ∀ (s : Env), B38_0 R N' (Q38_0 R) s v0 v2 v7 x8 I' L') : L38_0 R (F38_0 s v0 v2 v7 u8) I L :=
  loop_genB (by kernel_rfl) (fun n a I L => ∃ (s : Env) (x8 : Value), a = (F38_0 s v0 v2 v7 x8) ∧ Inv n x8 I L) ⟨s, _, rfl, h⟩ fun n a I' L' hle ⟨s, x8, e, hi⟩ => e ▸ round38_0 (round n x8 I' L' hle hi (fun a I L => ∃ m, m < n ∧ (fun n a I L => ∃ (s : Env) (x8 : Value), a = (F38_0 s v0 v2 v7 x8) ∧ Inv n x8 I L) m a I L) (fun m {s y8 I L} hm hi => ⟨m, hm, s, _, rfl, hi⟩) s)
theorem out38_0x0 {R : Ending → Imm → Own → Prop} {s : Env} {I : Imm} {L : Own} (h : J38_1 R (F38_1 s) I L) : Q38_0 R (.exit 0) (F38_1 s) I L :=
  Eq.mpr (by kernel_rfl) h
theorem out38_0r {R : Ending → Imm → Own → Prop} {s : Env} {v6 : Value} {I : Imm} {L : Own} (h : R (.returned v6) I L) : Q38_0 R .ret (F38_r s v6) I L :=
  Eq.mpr (by kernel_rfl) h
/-- 38_1: live:  -/
def T38_1 (R : Ending → Imm → Own → Prop) (s : Env) (I : Imm) (L : Own) : Prop :=
R (.returned (.bool false)) I L
theorem join38_1 {R : Ending → Imm → Own → Prop} {s : Env} {I : Imm} {L : Own} (h : T38_1 R s I L) : J38_1 R (F38_1 s) I L :=
  sh_cutB (fun _ => none) (O := True) (by kernel_rfl) trivial (by kernel_rfl) h
/-- 38: escritoire/escritoireref.comes -/
def M38 (R : Ending → Imm → Own → Prop) (x0 x1 x2 : Value) (I : Imm) (L : Own) : Prop :=
 mkm Tryd.prog 100 none I L fun x10 I L =>
 cal Tryd.prog 52 #[x0, x1] I L (xR R) fun x13 I L =>
L38_0 R (F38_0 (U (U (U (U (U (U eU 1 x1) 6 (.bool false)) 10 x10) 11 x0) 12 x1) 13 x13) x0 x2 x10 x13) I L
theorem go38 {R : Ending → Imm → Own → Prop} {x0 x1 x2 : Value} {I : Imm} {L : Own} (h : M38 R x0 x1 x2 I L) : wpC Tryd.prog 38 #[x0, x1, x2] I L R :=
  wpC_goX (endN_le _ _ R) (fun p => if p = [0, 0, 1, 1, 1] then some (L38_0 R) else none) Tryd.func38 (by kernel_rfl) (O := (L38_0 R = L38_0 R) ∧ True) (by kernel_rfl) ⟨rfl, trivial⟩ (by kernel_rfl) h

def F39_r (s : Env) (v2 : Value) : Act := fr 21 (U s 2 v2) []
/-- 39: escritoire/escritoireref.isLetter -/
def M39 (R : Ending → Imm → Own → Prop) (x0 : Value) (I : Imm) (L : Own) : Prop :=
 eqn Tryd.prog .eql 5 false true x0 (.int .u8 95) I L fun x4 I L =>
 gd (yb (some x4) false) (fun k => k x0 I L) (fun x6 I L =>
 gd (yb (some x4) false) (fun k => bin Tryd.prog .geq 5 x6 (.int .u8 97) I L k) (fun x7 I L =>
 gd (yb (some x4) false) (fun k => k x7 I L) (fun x8 I L =>
 gd (yb (some x8) true) (fun k => k x0 I L) (fun x9 I L =>
 gd (yb (some x8) true) (fun k => bin Tryd.prog .leq 5 x9 (.int .u8 122) I L k) (fun x10 I L =>
 gd (yb (some x4) false) (fun k => pck x8 x10 (.bool false) I L k) (fun x11 I L =>
pck x4 (.bool true) x11 I L fun x12 I L =>
 gd (yb (some x12) false) (fun k => k x0 I L) (fun x14 I L =>
 gd (yb (some x12) false) (fun k => bin Tryd.prog .geq 5 x14 (.int .u8 65) I L k) (fun x15 I L =>
 gd (yb (some x12) false) (fun k => k x15 I L) (fun x16 I L =>
 gd (yb (some x16) true) (fun k => k x0 I L) (fun x17 I L =>
 gd (yb (some x16) true) (fun k => bin Tryd.prog .leq 5 x17 (.int .u8 90) I L k) (fun x18 I L =>
 gd (yb (some x12) false) (fun k => pck x16 x18 (.bool false) I L k) (fun x19 I L =>
pck x12 (.bool true) x19 I L fun x20 I L =>
R (.returned x20) I L) I L) I L) I L) I L) I L) I L) I L) I L) I L) I L) I L) I L
theorem go39 {R : Ending → Imm → Own → Prop} {x0 : Value} {I : Imm} {L : Own} (h : M39 R x0 I L) : wpC Tryd.prog 39 #[x0] I L R :=
  wpC_goX (endN_le _ _ R) (fun _ => none) Tryd.func39 (by kernel_rfl) (O := True) (by kernel_rfl) trivial (by kernel_rfl) h

def F40_r (s : Env) (v2 : Value) : Act := fr 9 (U s 2 v2) []
/-- 40: escritoire/escritoireref.isDigit -/
def M40 (R : Ending → Imm → Own → Prop) (x0 : Value) (I : Imm) (L : Own) : Prop :=
 bin Tryd.prog .geq 5 x0 (.int .u8 48) I L fun x4 I L =>
 gd (yb (some x4) true) (fun k => k x0 I L) (fun x6 I L =>
 gd (yb (some x4) true) (fun k => bin Tryd.prog .leq 5 x6 (.int .u8 57) I L k) (fun x7 I L =>
pck x4 x7 (.bool false) I L fun x8 I L =>
R (.returned x8) I L) I L) I L
theorem go40 {R : Ending → Imm → Own → Prop} {x0 : Value} {I : Imm} {L : Own} (h : M40 R x0 I L) : wpC Tryd.prog 40 #[x0] I L R :=
  wpC_goX (endN_le _ _ R) (fun _ => none) Tryd.func40 (by kernel_rfl) (O := True) (by kernel_rfl) trivial (by kernel_rfl) h

def F43_r (s : Env) (v6 : Value) : Act := fr 49 (U s 6 v6) []
def F43_0 (s : Env) (v0 v1 v2 v7 : Value) : Act := fr 49 (U (U (U (U s 0 v0) 1 v1) 2 v2) 7 v7) []
def F43_1 (s : Env) (v7 : Value) : Act := fr 49 (U s 7 v7) []
def Q43_0 (R : Ending → Imm → Own → Prop) : Exit → Act → Imm → Own → Prop := (blkT 0 (seqT (cdB Tryd.prog (cdIn Tryd.f43 [1, 1, 1]) (endB Tryd.prog Tryd.f43 R) (endN R)) (endB Tryd.prog Tryd.f43 R)))
def L43_0 (R : Ending → Imm → Own → Prop) (a : Act) (I : Imm) (L : Own) : Prop := cdB Tryd.prog (cdIn Tryd.f43 [1, 1, 0, 0]) (Q43_0 R) (endN R) a I L
def Q43_1 (R : Ending → Imm → Own → Prop) : Exit → Act → Imm → Own → Prop := (endB Tryd.prog Tryd.f43 R)
def J43_1 (R : Ending → Imm → Own → Prop) (a : Act) (I : Imm) (L : Own) : Prop := cdB Tryd.prog (cdIn Tryd.f43 [1, 1, 1]) (Q43_1 R) (endN R) a I L
/-- loop 43_0: live: 0 1 2 7; what changes: 7 -/
def B43_0 (R : Ending → Imm → Own → Prop) (N : Act → Imm → Own → Prop) (Q : Exit → Act → Imm → Own → Prop) (s : Env) (v0 v1 v2 v7 : Value) (I : Imm) (L : Own) : Prop :=
 cal Tryd.prog 11 #[v0] I L (xR R) fun x15 I L =>
 un Tryd.prog .not x15 I L fun x16 I L =>
 gd (yb (some x16) true) (fun k => k v0 I L) (fun x18 I L =>
 gd (yb (some x16) true) (fun k => cal Tryd.prog 12 #[x18] I L (xR R) k) (fun x19 I L =>
 gd (yb (some x16) true) (fun k => cal Tryd.prog 56 #[x19] I L (xR R) k) (fun x20 I L =>
 gd (yb (some x16) true) (fun k => k v1 I L) (fun x21 I L =>
 gd (yb (some x16) true) (fun k => bin Tryd.prog .geq 3 x20 x21 I L k) (fun x22 I L =>
pck x16 x22 (.bool false) I L fun x23 I L =>
 gd (yb (some x23) true) (fun k => k v0 I L) (fun x25 I L =>
 gd (yb (some x23) true) (fun k => cal Tryd.prog 12 #[x25] I L (xR R) k) (fun x26 I L =>
 gd (yb (some x23) true) (fun k => cal Tryd.prog 56 #[x26] I L (xR R) k) (fun x27 I L =>
 gd (yb (some x23) true) (fun k => bin Tryd.prog .gtr 3 x27 (.int .i64 0) I L k) (fun x28 I L =>
pck x23 x28 (.bool false) I L fun x29 I L =>
 cnd x29
 (cal Tryd.prog 14 #[v0] I L (xR R) fun x31 I L =>
 cal Tryd.prog 12 #[v0] I L (xR R) fun x33 I L =>
 cal Tryd.prog 29 #[v0] I L (xR R) fun x35 I L =>
 cal Tryd.prog 56 #[x33] I L (xR R) fun x38 I L =>
 bin Tryd.prog .add 3 x38 (.int .i64 1) I L fun x39 I L =>
 cal Tryd.prog 43 #[v0, x39, v2] I L (xR R) fun x41 I L =>
 bld Tryd.prog 85 #[(0, (.int .i64 3)), (1, x31), (4, x33), (5, v7), (6, x41)] I L fun x46 I L =>
 bx Tryd.prog 85 x46 I L fun x47 I L =>
N (F43_0 (U (U (U (U (U (U (U (U (U (U (U (U (U (U (U (U (U (U (U (U (U (U (U (U (U (U (U (U (U (U (U (U (U (U (U (U (U s 8 x31) 9 x33) 10 x41) 14 v0) 15 x15) 16 x16) 17 x16) 18 x18) 19 x19) 20 x20) 21 x21) 22 x22) 23 x23) 24 x23) 25 x25) 26 x26) 27 x27) 28 x28) 29 x29) 30 v0) 31 x31) 32 v0) 33 x33) 34 v0) 35 x35) 36 v0) 37 x33) 38 x38) 39 x39) 40 v2) 41 x41) 42 x31) 43 x33) 44 v7) 45 x41) 46 x46) 47 x47) v0 v1 v2 x47) I L)
 (Q (.exit 0) (F43_1 (U (U (U (U (U (U (U (U (U (U (U (U (U (U (U (U (U (U (U s 0 v0) 1 v1) 2 v2) 14 v0) 15 x15) 16 x16) 17 x16) 18 x18) 19 x19) 20 x20) 21 x21) 22 x22) 23 x23) 24 x23) 25 x25) 26 x26) 27 x27) 28 x28) 29 x29) v7) I L)) I L) I L) I L) I L) I L) I L) I L) I L) I L
theorem round43_0 {R : Ending → Imm → Own → Prop} {N : Act → Imm → Own → Prop} {Q : Exit → Act → Imm → Own → Prop} {s : Env} {v0 v1 v2 v7 : Value} {I : Imm} {L : Own} (h : B43_0 R N Q s v0 v1 v2 v7 I L) : cdB Tryd.prog (cdIn Tryd.f43 [1, 1, 0, 0, 0]) (seqT N Q) (endN R) (F43_0 s v0 v1 v2 v7) I L :=
  sh_cutB (fun _ => none) (O := True) (by kernel_rfl) trivial (by kernel_rfl) h
theorem loop43_0 {R : Ending → Imm → Own → Prop} {s : Env} {v0 v1 v2 : Value} {u7 : Value} {I : Imm} {L : Own} (Inv : Nat → Value → Imm → Own → Prop) {n : Nat} (h : Inv n u7 I L)
  (round : ∀ (n : Nat) (x7 : Value) (I' : Imm) (L' : Own), I.Le I' → Inv n x7 I' L' → ∀ (N' : Act → Imm → Own → Prop), (∀ (m : Nat) {s : Env} {y7 : Value} {I : Imm} {L : Own}, m < n → Inv m y7 I L → N' (F43_0 s v0 v1 v2 y7) I L) → ∀ (s : Env), B43_0 R N' (Q43_0 R) s v0 v1 v2 x7 I' L') : L43_0 R (F43_0 s v0 v1 v2 u7) I L :=
  loop_genB (by kernel_rfl) (fun n a I L => ∃ (s : Env) (x7 : Value), a = (F43_0 s v0 v1 v2 x7) ∧ Inv n x7 I L) ⟨s, _, rfl, h⟩ fun n a I' L' hle ⟨s, x7, e, hi⟩ => e ▸ round43_0 (round n x7 I' L' hle hi (fun a I L => ∃ m, m < n ∧ (fun n a I L => ∃ (s : Env) (x7 : Value), a = (F43_0 s v0 v1 v2 x7) ∧ Inv n x7 I L) m a I L) (fun m {s y7 I L} hm hi => ⟨m, hm, s, _, rfl, hi⟩) s)
theorem out43_0x0 {R : Ending → Imm → Own → Prop} {s : Env} {v7 : Value} {I : Imm} {L : Own} (h : J43_1 R (F43_1 s v7) I L) : Q43_0 R (.exit 0) (F43_1 s v7) I L :=
  Eq.mpr (by kernel_rfl) h
/-- 43_1: live: 7 -/
def T43_1 (R : Ending → Imm → Own → Prop) (s : Env) (v7 : Value) (I : Imm) (L : Own) : Prop :=
R (.returned v7) I L
theorem join43_1 {R : Ending → Imm → Own → Prop} {s : Env} {v7 : Value} {I : Imm} {L : Own} (h : T43_1 R s v7 I L) : J43_1 R (F43_1 s v7) I L :=
  sh_cutB (fun _ => none) (O := True) (by kernel_rfl) trivial (by kernel_rfl) h
/-- 43: (*escritoire/escritoireref.eyes).expr -/
def M43 (R : Ending → Imm → Own → Prop) (x0 x1 x2 : Value) (I : Imm) (L : Own) : Prop :=
 cal Tryd.prog 55 #[x0, x2] I L (xR R) fun x13 I L =>
L43_0 R (F43_0 (U (U (U (U eU 6 (.pointer none)) 11 x0) 12 x2) 13 x13) x0 x1 x2 x13) I L
theorem go43 {R : Ending → Imm → Own → Prop} {x0 x1 x2 : Value} {I : Imm} {L : Own} (h : M43 R x0 x1 x2 I L) : wpC Tryd.prog 43 #[x0, x1, x2] I L R :=
  wpC_goX (endN_le _ _ R) (fun p => if p = [0, 0, 1, 1] then some (L43_0 R) else none) Tryd.func43 (by kernel_rfl) (O := (L43_0 R = L43_0 R) ∧ True) (by kernel_rfl) ⟨rfl, trivial⟩ (by kernel_rfl) h

def F44_r (s : Env) (v2 : Value) : Act := fr 11 (U s 2 v2) []
/-- 44: (*escritoire/escritoireref.eyes).bracket -/
def M44 (R : Ending → Imm → Own → Prop) (x0 : Value) (I : Imm) (L : Own) : Prop :=
 cal Tryd.prog 15 #[x0, (S [91])] I L (xR R) fun _ I L =>
 cal Tryd.prog 43 #[x0, (.int .i64 1), (.int .i64 0)] I L (xR R) fun x7 I L =>
 cal Tryd.prog 15 #[x0, (S [93])] I L (xR R) fun _ I L =>
R (.returned x7) I L
theorem go44 {R : Ending → Imm → Own → Prop} {x0 : Value} {I : Imm} {L : Own} (h : M44 R x0 I L) : wpC Tryd.prog 44 #[x0] I L R :=
  wpC_goX (endN_le _ _ R) (fun _ => none) Tryd.func44 (by kernel_rfl) (O := True) (by kernel_rfl) trivial (by kernel_rfl) h

def F45_r (s : Env) (v2 : Value) : Act := fr 4 (U s 2 v2) []
/-- 45: escritoire/escritoireref.one -/
def M45 (R : Ending → Imm → Own → Prop) (x0 : Value) (I : Imm) (L : Own) : Prop :=
 cnd x0
 (R (.returned (.int .i64 1)) I L)
 (R (.returned (.int .i64 0)) I L)
theorem go45 {R : Ending → Imm → Own → Prop} {x0 : Value} {I : Imm} {L : Own} (h : M45 R x0 I L) : wpC Tryd.prog 45 #[x0] I L R :=
  wpC_goX (endN_le _ _ R) (fun _ => none) Tryd.func45 (by kernel_rfl) (O := True) (by kernel_rfl) trivial (by kernel_rfl) h

def F52_r (s : Env) (v4 : Value) : Act := fr 40 (U s 4 v4) []
def F52_0 (s : Env) (v0 v1 v5 v6 : Value) : Act := fr 40 (U (U (U (U s 0 v0) 1 v1) 5 v5) 6 v6) []
def F52_1 (s : Env) (v5 : Value) : Act := fr 40 (U s 5 v5) []
def Q52_0 (R : Ending → Imm → Own → Prop) : Exit → Act → Imm → Own → Prop := (blkT 0 (seqT (cdB Tryd.prog (cdIn Tryd.f52 [1, 1, 1]) (endB Tryd.prog Tryd.f52 R) (endN R)) (endB Tryd.prog Tryd.f52 R)))
def L52_0 (R : Ending → Imm → Own → Prop) (a : Act) (I : Imm) (L : Own) : Prop := cdB Tryd.prog (cdIn Tryd.f52 [1, 1, 0, 1, 0]) (Q52_0 R) (endN R) a I L
def Q52_1 (R : Ending → Imm → Own → Prop) : Exit → Act → Imm → Own → Prop := (endB Tryd.prog Tryd.f52 R)
def J52_1 (R : Ending → Imm → Own → Prop) (a : Act) (I : Imm) (L : Own) : Prop := cdB Tryd.prog (cdIn Tryd.f52 [1, 1, 1]) (Q52_1 R) (endN R) a I L
/-- loop 52_0: live: 0 1 5 6; what changes: 5 6 -/
def B52_0 (R : Ending → Imm → Own → Prop) (N : Act → Imm → Own → Prop) (Q : Exit → Act → Imm → Own → Prop) (s : Env) (v0 v1 v5 v6 : Value) (I : Imm) (L : Own) : Prop :=
 bin Tryd.prog .geq 3 v6 (.int .i64 0) I L fun x15 I L =>
 gd (yb (some x15) true) (fun k => k v6 I L) (fun x17 I L =>
 gd (yb (some x15) true) (fun k => k v0 I L) (fun x18 I L =>
 gd (yb (some x15) true) (fun k => k v0 I L) (fun x19 I L =>
 gd (yb (some x15) true) (fun k => k v1 I L) (fun x20 I L =>
 gd (yb (some x15) true) (fun k => iad Tryd.prog 45 x19 x20 I L k) (fun x21 I L =>
 gd (yb (some x15) true) (fun k => fad Tryd.prog 70 x21 11 I L k) (fun x22 I L =>
 gd (yb (some x15) true) (fun k => ld Tryd.prog 9 x22 I L k) (fun x23 I L =>
 gd (yb (some x15) true) (fun k => cal Tryd.prog 36 #[x18, x23] I L (xR R) k) (fun x24 I L =>
 gd (yb (some x15) true) (fun k => bin Tryd.prog .leq 3 x17 x24 I L k) (fun x25 I L =>
pck x15 x25 (.bool false) I L fun x26 I L =>
 cnd x26
 (iad Tryd.prog 45 v0 v6 I L fun x31 I L =>
 fad Tryd.prog 70 x31 9 I L fun x32 I L =>
 ld Tryd.prog 3 x32 I L fun x33 I L =>
 eqn Tryd.prog .eql 3 false true x33 (.int .i64 3) I L fun x34 I L =>
 cnd x34
 (bsl Tryd.prog 101 1 #[(0, v6)] I L fun x37 I L =>
 blt Tryd.prog .append #[101, 101] 101 #[v5, x37] I L fun x38 I L =>
 bin Tryd.prog .add 3 v6 (.int .i64 1) I L fun x28 I L =>
N (F52_0 (U (U (U (U (U (U (U (U (U (U (U (U (U (U (U (U (U (U (U (U (U (U (U (U (U s 14 v6) 15 x15) 16 x15) 17 x17) 18 x18) 19 x19) 20 x20) 21 x21) 22 x22) 23 x23) 24 x24) 25 x25) 26 x26) 27 v6) 28 x28) 29 v0) 30 v6) 31 x31) 32 x32) 33 x33) 34 x34) 35 v5) 36 v6) 37 x37) 38 x38) v0 v1 x38 x28) I L)
 (bin Tryd.prog .add 3 v6 (.int .i64 1) I L fun x28 I L =>
N (F52_0 (U (U (U (U (U (U (U (U (U (U (U (U (U (U (U (U (U (U (U (U (U s 14 v6) 15 x15) 16 x15) 17 x17) 18 x18) 19 x19) 20 x20) 21 x21) 22 x22) 23 x23) 24 x24) 25 x25) 26 x26) 27 v6) 28 x28) 29 v0) 30 v6) 31 x31) 32 x32) 33 x33) 34 x34) v0 v1 v5 x28) I L))
 (Q (.exit 0) (F52_1 (U (U (U (U (U (U (U (U (U (U (U (U (U (U (U (U s 0 v0) 1 v1) 6 v6) 14 v6) 15 x15) 16 x15) 17 x17) 18 x18) 19 x19) 20 x20) 21 x21) 22 x22) 23 x23) 24 x24) 25 x25) 26 x26) v5) I L)) I L) I L) I L) I L) I L) I L) I L) I L) I L
theorem round52_0 {R : Ending → Imm → Own → Prop} {N : Act → Imm → Own → Prop} {Q : Exit → Act → Imm → Own → Prop} {s : Env} {v0 v1 v5 v6 : Value} {I : Imm} {L : Own} (h : B52_0 R N Q s v0 v1 v5 v6 I L) : cdB Tryd.prog (cdIn Tryd.f52 [1, 1, 0, 1, 0, 0]) (seqT N Q) (endN R) (F52_0 s v0 v1 v5 v6) I L :=
  sh_cutB (fun _ => none) (O := True) (by kernel_rfl) trivial (by kernel_rfl) h
theorem loop52_0 {R : Ending → Imm → Own → Prop} {s : Env} {v0 v1 : Value} {u5 u6 : Value} {I : Imm} {L : Own} (Inv : Nat → Value → Value → Imm → Own → Prop) {n : Nat} (h : Inv n u5 u6 I L)
  (round : ∀ (n : Nat) (x5 x6 : Value) (I' : Imm) (L' : Own), I.Le I' → Inv n x5 x6 I' L' → ∀ (N' : Act → Imm → Own → Prop), (∀ (m : Nat) {s : Env} {y5 y6 : Value} {I : Imm} {L : Own}, m < n → Inv m y5 y6 I L → N' (F52_0 s v0 v1 y5 y6) I L) → ∀ (s : Env), B52_0 R N' (Q52_0 R) s v0 v1 x5 x6 I' L') : L52_0 R (F52_0 s v0 v1 u5 u6) I L :=
  loop_genB (by kernel_rfl) (fun n a I L => ∃ (s : Env) (x5 x6 : Value), a = (F52_0 s v0 v1 x5 x6) ∧ Inv n x5 x6 I L) ⟨s, _, _, rfl, h⟩ fun n a I' L' hle ⟨s, x5, x6, e, hi⟩ => e ▸ round52_0 (round n x5 x6 I' L' hle hi (fun a I L => ∃ m, m < n ∧ (fun n a I L => ∃ (s : Env) (x5 x6 : Value), a = (F52_0 s v0 v1 x5 x6) ∧ Inv n x5 x6 I L) m a I L) (fun m {s y5 y6 I L} hm hi => ⟨m, hm, s, _, _, rfl, hi⟩) s)
theorem out52_0x0 {R : Ending → Imm → Own → Prop} {s : Env} {v5 : Value} {I : Imm} {L : Own} (h : J52_1 R (F52_1 s v5) I L) : Q52_0 R (.exit 0) (F52_1 s v5) I L :=
  Eq.mpr (by kernel_rfl) h
/-- 52_1: live: 5 -/
def T52_1 (R : Ending → Imm → Own → Prop) (s : Env) (v5 : Value) (I : Imm) (L : Own) : Prop :=
R (.returned v5) I L
theorem join52_1 {R : Ending → Imm → Own → Prop} {s : Env} {v5 : Value} {I : Imm} {L : Own} (h : T52_1 R s v5 I L) : J52_1 R (F52_1 s v5) I L :=
  sh_cutB (fun _ => none) (O := True) (by kernel_rfl) trivial (by kernel_rfl) h
/-- 52: escritoire/escritoireref.covers -/
def M52 (R : Ending → Imm → Own → Prop) (x0 x1 : Value) (I : Imm) (L : Own) : Prop :=
 iad Tryd.prog 45 x0 x1 I L fun x10 I L =>
 fad Tryd.prog 70 x10 10 I L fun x11 I L =>
 ld Tryd.prog 9 x11 I L fun x12 I L =>
 cal Tryd.prog 36 #[x0, x12] I L (xR R) fun x13 I L =>
L52_0 R (F52_0 (U (U (U (U (U (U (U (U eU 4 (.slice none 0 0)) 7 x0) 8 x0) 9 x1) 10 x10) 11 x11) 12 x12) 13 x13) x0 x1 (.slice none 0 0) x13) I L
theorem go52 {R : Ending → Imm → Own → Prop} {x0 x1 : Value} {I : Imm} {L : Own} (h : M52 R x0 x1 I L) : wpC Tryd.prog 52 #[x0, x1] I L R :=
  wpC_goX (endN_le _ _ R) (fun p => if p = [0, 1, 0, 1, 1] then some (L52_0 R) else none) Tryd.func52 (by kernel_rfl) (O := (L52_0 R = L52_0 R) ∧ True) (by kernel_rfl) ⟨rfl, trivial⟩ (by kernel_rfl) h

def F55_r (s : Env) (v4 : Value) : Act := fr 77 (U s 4 v4) []
def F55_0 (s : Env) (v0 v1 : Value) : Act := fr 77 (U (U s 0 v0) 1 v1) []
def F55_1 (s : Env) (v0 v5 v6 : Value) : Act := fr 77 (U (U (U s 0 v0) 5 v5) 6 v6) []
def F55_2 (s : Env) (v0 v5 v8 : Value) : Act := fr 77 (U (U (U s 0 v0) 5 v5) 8 v8) []
def Q55_0 (R : Ending → Imm → Own → Prop) : Exit → Act → Imm → Own → Prop := (blkT 0 (seqT (cdB Tryd.prog (cdIn Tryd.f55 [1, 1, 1]) (endB Tryd.prog Tryd.f55 R) (endN R)) (endB Tryd.prog Tryd.f55 R)))
def J55_0 (R : Ending → Imm → Own → Prop) (a : Act) (I : Imm) (L : Own) : Prop := cdB Tryd.prog (cdIn Tryd.f55 [1, 1, 0, 0, 1, 1, 1, 0, 1]) (Q55_0 R) (endN R) a I L
def Q55_1 (R : Ending → Imm → Own → Prop) : Exit → Act → Imm → Own → Prop := (blkT 0 (seqT (cdB Tryd.prog (cdIn Tryd.f55 [1, 1, 1]) (endB Tryd.prog Tryd.f55 R) (endN R)) (endB Tryd.prog Tryd.f55 R)))
def J55_1 (R : Ending → Imm → Own → Prop) (a : Act) (I : Imm) (L : Own) : Prop := cdB Tryd.prog (cdIn Tryd.f55 [1, 1, 0, 0, 1, 1, 1, 1, 1, 0, 1]) (Q55_1 R) (endN R) a I L
def Q55_2 (R : Ending → Imm → Own → Prop) : Exit → Act → Imm → Own → Prop := (blkT 0 (seqT (cdB Tryd.prog (cdIn Tryd.f55 [1, 1, 1]) (endB Tryd.prog Tryd.f55 R) (endN R)) (endB Tryd.prog Tryd.f55 R)))
def J55_2 (R : Ending → Imm → Own → Prop) (a : Act) (I : Imm) (L : Own) : Prop := cdB Tryd.prog (cdIn Tryd.f55 [1, 1, 0, 0, 1, 1, 1, 1, 1, 1, 1, 0, 1, 1]) (Q55_2 R) (endN R) a I L
/-- 55_0: live: 0 1 -/
def T55_0 (R : Ending → Imm → Own → Prop) (s : Env) (v0 v1 : Value) (I : Imm) (L : Own) : Prop :=
 cal Tryd.prog 25 #[v0, (S [40])] I L (xR R) fun _ I L =>
 bin Tryd.prog .add 3 v1 (.int .i64 1) I L fun x32 I L =>
 cal Tryd.prog 43 #[v0, (.int .i64 1), x32] I L (xR R) fun x33 I L =>
 cal Tryd.prog 15 #[v0, (S [41])] I L (xR R) fun _ I L =>
R (.returned x33) I L
theorem join55_0 {R : Ending → Imm → Own → Prop} {s : Env} {v0 v1 : Value} {I : Imm} {L : Own} (h : T55_0 R s v0 v1 I L) : J55_0 R (F55_0 s v0 v1) I L :=
  sh_cutB (fun _ => none) (O := True) (by kernel_rfl) trivial (by kernel_rfl) h
/-- 55_1: live: 0 5 6 -/
def T55_1 (R : Ending → Imm → Own → Prop) (s : Env) (v0 v5 v6 : Value) (I : Imm) (L : Own) : Prop :=
 cal Tryd.prog 29 #[v0] I L (xR R) fun _ I L =>
 bld Tryd.prog 85 #[(0, (.int .i64 2)), (1, v5), (3, v6)] I L fun x50 I L =>
 bx Tryd.prog 85 x50 I L fun x51 I L =>
R (.returned x51) I L
theorem join55_1 {R : Ending → Imm → Own → Prop} {s : Env} {v0 v5 v6 : Value} {I : Imm} {L : Own} (h : T55_1 R s v0 v5 v6 I L) : J55_1 R (F55_1 s v0 v5 v6) I L :=
  sh_cutB (fun _ => none) (O := True) (by kernel_rfl) trivial (by kernel_rfl) h
/-- 55_2: live: 0 5 8 -/
def T55_2 (R : Ending → Imm → Own → Prop) (s : Env) (v0 v5 v8 : Value) (I : Imm) (L : Own) : Prop :=
 cal Tryd.prog 29 #[v0] I L (xR R) fun _ I L =>
 bld Tryd.prog 85 #[(0, (.int .i64 1)), (1, v5), (2, v8)] I L fun x75 I L =>
 bx Tryd.prog 85 x75 I L fun x76 I L =>
R (.returned x76) I L
theorem join55_2 {R : Ending → Imm → Own → Prop} {s : Env} {v0 v5 v8 : Value} {I : Imm} {L : Own} (h : T55_2 R s v0 v5 v8 I L) : J55_2 R (F55_2 s v0 v5 v8) I L :=
  sh_cutB (fun _ => none) (O := True) (by kernel_rfl) trivial (by kernel_rfl) h
/-- 55: (*escritoire/escritoireref.eyes).single -/
def M55 (R : Ending → Imm → Own → Prop) (x0 x1 : Value) (I : Imm) (L : Own) : Prop :=
 cal Tryd.prog 14 #[x0] I L (xR R) fun x11 I L =>
 cal Tryd.prog 12 #[x0] I L (xR R) fun x13 I L =>
 cal Tryd.prog 11 #[x0] I L (xR R) fun x19 I L =>
 cnd x19
 (R (.returned (.pointer none)) I L)
 (eqn Tryd.prog .eql 9 false true x13 (S [40]) I L fun x22 I L =>
 cnd x22
 (bin Tryd.prog .geq 3 x1 (.int .i64 8) I L fun x24 I L =>
 cnd x24
 (cal Tryd.prog 13 #[x0, (.int .i64 4), x11] I L (xR R) fun x27 I L =>
J55_0 R (F55_0 (U (U (U (U (U (U (U (U (U (U (U (U (U (U (U (U (U (U eU 4 (.pointer none)) 5 x11) 6 x13) 10 x0) 11 x11) 12 x0) 13 x13) 17 x19) 18 x0) 19 x19) 20 x22) 21 x13) 22 x22) 23 x1) 24 x24) 25 x0) 26 x11) 27 x27) x0 x1) I L)
 (J55_0 R (F55_0 (U (U (U (U (U (U (U (U (U (U (U (U (U (U (U eU 4 (.pointer none)) 5 x11) 6 x13) 10 x0) 11 x11) 12 x0) 13 x13) 17 x19) 18 x0) 19 x19) 20 x22) 21 x13) 22 x22) 23 x1) 24 x24) x0 x1) I L))
 (cal Tryd.prog 26 #[x13] I L (xR R) fun x39 I L =>
 cnd x39
 (blt Tryd.prog .len #[9] 3 #[x13] I L fun x41 I L =>
 bin Tryd.prog .gtr 3 x41 (.int .i64 12) I L fun x42 I L =>
 cnd x42
 (cal Tryd.prog 13 #[x0, (.int .i64 4), x11] I L (xR R) fun x45 I L =>
J55_1 R (F55_1 (U (U (U (U (U (U (U (U (U (U (U (U (U (U (U (U (U (U (U (U (U eU 1 x1) 4 (.pointer none)) 10 x0) 11 x11) 12 x0) 13 x13) 17 x19) 18 x0) 19 x19) 20 x22) 21 x13) 22 x22) 37 x39) 38 x13) 39 x39) 40 x13) 41 x41) 42 x42) 43 x0) 44 x11) 45 x45) x0 x11 x13) I L)
 (J55_1 R (F55_1 (U (U (U (U (U (U (U (U (U (U (U (U (U (U (U (U (U (U eU 1 x1) 4 (.pointer none)) 10 x0) 11 x11) 12 x0) 13 x13) 17 x19) 18 x0) 19 x19) 20 x22) 21 x13) 22 x22) 37 x39) 38 x13) 39 x39) 40 x13) 41 x41) 42 x42) x0 x11 x13) I L))
 (eqn Tryd.prog .neq 9 false true x13 (S []) I L fun x54 I L =>
 gd (yb (some x54) true) (fun k => k x13 I L) (fun x56 I L =>
 gd (yb (some x54) true) (fun k => idx Tryd.prog 9 x56 (.int .i64 0) I L k) (fun x57 I L =>
 gd (yb (some x54) true) (fun k => cal Tryd.prog 40 #[x57] I L (xR R) k) (fun x58 I L =>
pck x54 x58 (.bool false) I L fun x59 I L =>
 cnd x59
 (cal Tryd.prog 70 #[x13] I L (xR R) fun x62 I L =>
 ext Tryd.prog x62 0 I L fun x63 I L =>
 ext Tryd.prog x62 1 I L fun x64 I L =>
 eqn Tryd.prog .neq 24 false true x64 (.int .i64 0) I L fun x66 I L =>
 cnd x66
 (cal Tryd.prog 13 #[x0, x64, x11] I L (xR R) fun x70 I L =>
J55_2 R (F55_2 (U (U (U (U (U (U (U (U (U (U (U (U (U (U (U (U (U (U (U (U (U (U (U (U (U (U (U (U (U (U (U (U (U (U (U (U eU 1 x1) 4 (.pointer none)) 6 x13) 9 x64) 10 x0) 11 x11) 12 x0) 13 x13) 17 x19) 18 x0) 19 x19) 20 x22) 21 x13) 22 x22) 37 x39) 38 x13) 39 x39) 52 x59) 53 x13) 54 x54) 55 x54) 56 x56) 57 x57) 58 x58) 59 x59) 60 x62) 61 x13) 62 x62) 63 x63) 64 x64) 65 x64) 66 x66) 67 x0) 68 x64) 69 x11) 70 x70) x0 x11 x63) I L)
 (J55_2 R (F55_2 (U (U (U (U (U (U (U (U (U (U (U (U (U (U (U (U (U (U (U (U (U (U (U (U (U (U (U (U (U (U (U (U eU 1 x1) 4 (.pointer none)) 6 x13) 9 x64) 10 x0) 11 x11) 12 x0) 13 x13) 17 x19) 18 x0) 19 x19) 20 x22) 21 x13) 22 x22) 37 x39) 38 x13) 39 x39) 52 x59) 53 x13) 54 x54) 55 x54) 56 x56) 57 x57) 58 x58) 59 x59) 60 x62) 61 x13) 62 x62) 63 x63) 64 x64) 65 x64) 66 x66) x0 x11 x63) I L))
 (cal Tryd.prog 13 #[x0, (.int .i64 3), x11] I L (xR R) fun _ I L =>
R (.returned (.pointer none)) I L)) I L) I L) I L)))
theorem go55 {R : Ending → Imm → Own → Prop} {x0 x1 : Value} {I : Imm} {L : Own} (h : M55 R x0 x1 I L) : wpC Tryd.prog 55 #[x0, x1] I L R :=
  wpC_goX (endN_le _ _ R) (fun p => if p = [1, 0, 1, 1, 1, 0, 0, 1, 1] then some (J55_0 R) else if p = [1, 0, 1, 1, 1, 1, 1, 0, 0, 1, 1] then some (J55_1 R) else if p = [1, 1, 0, 1, 1, 1, 1, 1, 1, 1, 0, 0, 1, 1] then some (J55_2 R) else none) Tryd.func55 (by kernel_rfl) (O := (J55_0 R = J55_0 R) ∧ (J55_1 R = J55_1 R) ∧ (J55_2 R = J55_2 R) ∧ True) (by kernel_rfl) ⟨rfl, rfl, rfl, trivial⟩ (by kernel_rfl) h

def F56_r (s : Env) (v2 : Value) : Act := fr 16 (U s 2 v2) []
def F56_0 (s : Env) (v3 v4 : Value) : Act := fr 16 (U (U s 3 v3) 4 v4) []
def F56_1 (s : Env) (v3 v9 : Value) : Act := fr 16 (U (U s 3 v3) 9 v9) []
def F56_2 (s : Env) : Act := fr 16 s []
def Q56_0 (R : Ending → Imm → Own → Prop) : Exit → Act → Imm → Own → Prop := (blkT 0 (seqT (cdB Tryd.prog (cdIn Tryd.f56 [1, 1]) (endB Tryd.prog Tryd.f56 R) (endN R)) (endB Tryd.prog Tryd.f56 R)))
def J56_0 (R : Ending → Imm → Own → Prop) (a : Act) (I : Imm) (L : Own) : Prop := cdB Tryd.prog (cdIn Tryd.f56 [1, 0, 1, 0, 1]) (Q56_0 R) (endN R) a I L
def Q56_1 (R : Ending → Imm → Own → Prop) : Exit → Act → Imm → Own → Prop := (Q56_0 R)
def J56_1 (R : Ending → Imm → Own → Prop) (a : Act) (I : Imm) (L : Own) : Prop := cdB Tryd.prog (cdIn Tryd.f56 [1, 0, 1, 0, 1, 1, 1]) (Q56_1 R) (endN R) a I L
def Q56_2 (R : Ending → Imm → Own → Prop) : Exit → Act → Imm → Own → Prop := (endB Tryd.prog Tryd.f56 R)
def J56_2 (R : Ending → Imm → Own → Prop) (a : Act) (I : Imm) (L : Own) : Prop := cdB Tryd.prog (cdIn Tryd.f56 [1, 1]) (Q56_2 R) (endN R) a I L
/-- 56_0: live: 3 4 -/
def T56_0 (R : Ending → Imm → Own → Prop) (s : Env) (v3 v4 : Value) (I : Imm) (L : Own) : Prop :=
 cnd v4
 (R (.returned (.int .i64 1)) I L)
 (eqn Tryd.prog .eql 9 false true v3 (S [43]) I L fun x10 I L =>
 cnd x10
 (J56_1 R (F56_1 (U (U s 4 v4) 10 x10) v3 x10) I L)
 (eqn Tryd.prog .eql 9 false true v3 (S [45]) I L fun x11 I L =>
 cnd x11
 (J56_1 R (F56_1 (U (U (U s 4 v4) 10 x10) 11 x11) v3 x11) I L)
 (eqn Tryd.prog .eql 9 false true v3 (S [124]) I L fun x12 I L =>
J56_1 R (F56_1 (U (U (U (U s 4 v4) 10 x10) 11 x11) 12 x12) v3 x12) I L)))
theorem join56_0 {R : Ending → Imm → Own → Prop} {s : Env} {v3 v4 : Value} {I : Imm} {L : Own} (h : T56_0 R s v3 v4 I L) : J56_0 R (F56_0 s v3 v4) I L :=
  sh_cutB (fun p => if p = [1, 1] then some (J56_1 R) else none) (O := (J56_1 R = J56_1 R) ∧ True) (by kernel_rfl) ⟨rfl, trivial⟩ (by kernel_rfl) h
/-- 56_1: live: 3 9 -/
def T56_1 (R : Ending → Imm → Own → Prop) (s : Env) (v3 v9 : Value) (I : Imm) (L : Own) : Prop :=
 cnd v9
 (R (.returned (.int .i64 2)) I L)
 (eqn Tryd.prog .eql 9 false true v3 (S [42]) I L fun x14 I L =>
 cnd x14
 (cnd x14
 (R (.returned (.int .i64 3)) I L)
 (J56_2 R (F56_2 (U (U (U (U s 3 v3) 9 v9) 13 x14) 14 x14)) I L))
 (eqn Tryd.prog .eql 9 false true v3 (S [38]) I L fun x15 I L =>
 cnd x15
 (R (.returned (.int .i64 3)) I L)
 (J56_2 R (F56_2 (U (U (U (U (U s 3 v3) 9 v9) 13 x15) 14 x14) 15 x15)) I L)))
theorem join56_1 {R : Ending → Imm → Own → Prop} {s : Env} {v3 v9 : Value} {I : Imm} {L : Own} (h : T56_1 R s v3 v9 I L) : J56_1 R (F56_1 s v3 v9) I L :=
  sh_cutB (fun _ => none) (O := True) (by kernel_rfl) trivial (by kernel_rfl) h
/-- 56_2: live:  -/
def T56_2 (R : Ending → Imm → Own → Prop) (s : Env) (I : Imm) (L : Own) : Prop :=
R (.returned (.int .i64 0)) I L
theorem join56_2 {R : Ending → Imm → Own → Prop} {s : Env} {I : Imm} {L : Own} (h : T56_2 R s I L) : J56_2 R (F56_2 s) I L :=
  sh_cutB (fun _ => none) (O := True) (by kernel_rfl) trivial (by kernel_rfl) h
/-- 56: escritoire/escritoireref.hold -/
def M56 (R : Ending → Imm → Own → Prop) (x0 : Value) (I : Imm) (L : Own) : Prop :=
 eqn Tryd.prog .eql 9 false true x0 (S [61, 61]) I L fun x5 I L =>
 cnd x5
 (J56_0 R (F56_0 (U (U (U eU 0 x0) 2 (.int .i64 0)) 5 x5) x0 x5) I L)
 (eqn Tryd.prog .eql 9 false true x0 (S [33, 61]) I L fun x6 I L =>
 cnd x6
 (J56_0 R (F56_0 (U (U (U (U eU 0 x0) 2 (.int .i64 0)) 5 x5) 6 x6) x0 x6) I L)
 (eqn Tryd.prog .eql 9 false true x0 (S [60]) I L fun x7 I L =>
 cnd x7
 (J56_0 R (F56_0 (U (U (U (U (U eU 0 x0) 2 (.int .i64 0)) 5 x5) 6 x6) 7 x7) x0 x7) I L)
 (eqn Tryd.prog .eql 9 false true x0 (S [62]) I L fun x8 I L =>
J56_0 R (F56_0 (U (U (U (U (U (U eU 0 x0) 2 (.int .i64 0)) 5 x5) 6 x6) 7 x7) 8 x8) x0 x8) I L)))
theorem go56 {R : Ending → Imm → Own → Prop} {x0 : Value} {I : Imm} {L : Own} (h : M56 R x0 I L) : wpC Tryd.prog 56 #[x0] I L R :=
  wpC_goX (endN_le _ _ R) (fun p => if p = [1, 0, 1, 0, 1] then some (J56_0 R) else none) Tryd.func56 (by kernel_rfl) (O := (J56_0 R = J56_0 R) ∧ True) (by kernel_rfl) ⟨rfl, trivial⟩ (by kernel_rfl) h

def F70_r (s : Env) (v2 v3 : Value) : Act := fr 66 (U (U s 2 v2) 3 v3) []
def F70_0 (s : Env) (v0 v4 : Value) : Act := fr 66 (U (U s 0 v0) 4 v4) []
def F70_1 (s : Env) (v0 v4 : Value) : Act := fr 66 (U (U s 0 v0) 4 v4) []
def F70_2 (s : Env) (v0 v4 : Value) : Act := fr 66 (U (U s 0 v0) 4 v4) []
def F70_3 (s : Env) (v0 v4 v5 : Value) : Act := fr 66 (U (U (U s 0 v0) 4 v4) 5 v5) []
def Q70_0 (R : Ending → Imm → Own → Prop) : Exit → Act → Imm → Own → Prop := (endB Tryd.prog Tryd.f70 R)
def J70_0 (R : Ending → Imm → Own → Prop) (a : Act) (I : Imm) (L : Own) : Prop := cdB Tryd.prog (cdIn Tryd.f70 [1, 1, 1]) (Q70_0 R) (endN R) a I L
def Q70_1 (R : Ending → Imm → Own → Prop) : Exit → Act → Imm → Own → Prop := (seqT (cdB Tryd.prog (cdIn Tryd.f70 [1, 1, 1, 1, 1]) (Q70_0 R) (endN R)) (Q70_0 R))
def D70_1 (R : Ending → Imm → Own → Prop) (a : Act) (I : Imm) (L : Own) : Prop := cdB Tryd.prog (cdIn Tryd.f70 [1, 1, 1, 1, 0, 1, 0]) (Q70_1 R) (endN R) a I L
def Q70_2 (R : Ending → Imm → Own → Prop) : Exit → Act → Imm → Own → Prop := (seqT (cdB Tryd.prog (cdIn Tryd.f70 [1, 1, 1, 1, 1]) (Q70_0 R) (endN R)) (Q70_0 R))
def D70_2 (R : Ending → Imm → Own → Prop) (a : Act) (I : Imm) (L : Own) : Prop := cdB Tryd.prog (cdIn Tryd.f70 [1, 1, 1, 1, 0, 1, 1, 1, 0]) (Q70_2 R) (endN R) a I L
def Q70_3 (R : Ending → Imm → Own → Prop) : Exit → Act → Imm → Own → Prop := (Q70_0 R)
def J70_3 (R : Ending → Imm → Own → Prop) (a : Act) (I : Imm) (L : Own) : Prop := cdB Tryd.prog (cdIn Tryd.f70 [1, 1, 1, 1, 1]) (Q70_3 R) (endN R) a I L
/-- 70_0: live: 0 4 -/
def T70_0 (R : Ending → Imm → Own → Prop) (s : Env) (v0 v4 : Value) (I : Imm) (L : Own) : Prop :=
 blt Tryd.prog .len #[9] 3 #[v0] I L fun x20 I L =>
 bin Tryd.prog .geq 3 x20 (.int .i64 2) I L fun x21 I L =>
 gd (yb (some x21) true) (fun k => k v0 I L) (fun x23 I L =>
 gd (yb (some x21) true) (fun k => slc Tryd.prog 9 x23 none (some (.int .i64 2)) none I L k) (fun x24 I L =>
 gd (yb (some x21) true) (fun k => eqn Tryd.prog .eql 9 false true x24 (S [48, 120]) I L k) (fun x25 I L =>
pck x21 x25 (.bool false) I L fun x26 I L =>
 cnd x26
 (D70_1 R (F70_1 (U (U (U (U (U (U (U (U (U s 5 (.int .i64 10)) 19 v0) 20 x20) 21 x21) 22 x21) 23 x23) 24 x24) 25 x25) 26 x26) v0 v4) I L)
 (blt Tryd.prog .len #[9] 3 #[v0] I L fun x30 I L =>
 bin Tryd.prog .geq 3 x30 (.int .i64 2) I L fun x31 I L =>
 gd (yb (some x31) true) (fun k => k v0 I L) (fun x33 I L =>
 gd (yb (some x31) true) (fun k => slc Tryd.prog 9 x33 none (some (.int .i64 2)) none I L k) (fun x34 I L =>
 gd (yb (some x31) true) (fun k => eqn Tryd.prog .eql 9 false true x34 (S [48, 98]) I L k) (fun x35 I L =>
pck x31 x35 (.bool false) I L fun x36 I L =>
 cnd x36
 (D70_2 R (F70_2 (U (U (U (U (U (U (U (U (U (U (U (U (U (U (U (U (U s 5 (.int .i64 10)) 19 v0) 20 x20) 21 x21) 22 x21) 23 x23) 24 x24) 25 x25) 26 x26) 29 v0) 30 x30) 31 x31) 32 x31) 33 x33) 34 x34) 35 x35) 36 x36) v0 v4) I L)
 (J70_3 R (F70_3 (U (U (U (U (U (U (U (U (U (U (U (U (U (U (U (U s 19 v0) 20 x20) 21 x21) 22 x21) 23 x23) 24 x24) 25 x25) 26 x26) 29 v0) 30 x30) 31 x31) 32 x31) 33 x33) 34 x34) 35 x35) 36 x36) v0 v4 (.int .i64 10)) I L)) I L) I L) I L)) I L) I L) I L
theorem join70_0 {R : Ending → Imm → Own → Prop} {s : Env} {v0 v4 : Value} {I : Imm} {L : Own} (h : T70_0 R s v0 v4 I L) : J70_0 R (F70_0 s v0 v4) I L :=
  sh_cutB (fun p => if p = [0, 1, 0, 1] then some (D70_1 R) else if p = [0, 1, 1, 1, 0, 1] then some (D70_2 R) else if p = [1, 1] then some (J70_3 R) else none) (O := (D70_1 R = D70_1 R) ∧ (D70_2 R = D70_2 R) ∧ (J70_3 R = J70_3 R) ∧ True) (by kernel_rfl) ⟨rfl, rfl, rfl, trivial⟩ (by kernel_rfl) h
/-- 70_1: live: 0 4 -/
def G70_1 (R : Ending → Imm → Own → Prop) (C : Cls) (s : Env) (v0 v4 : Value) (I : Imm) (L : Own) : Prop :=
 qslc Tryd.prog 9 v0 (some (.int .i64 2)) none none C fun x28 =>
J70_3 R (F70_3 (U (U s 27 v0) 28 x28) x28 v4 (.int .i64 16)) I L
theorem draw70_1 {R : Ending → Imm → Own → Prop} {C : Cls} {s : Env} {v0 v4 : Value} {I : Imm} {L : Own} (hC : C I L) (h : G70_1 R C s v0 v4 I L) : D70_1 R (F70_1 s v0 v4) I L :=
  draw_planB (ops := opsIn Tryd.f70 [1, 1, 1, 1, 0, 1, 0]) (id := 6) (Q := Q70_1 R) (X := (endN R)) endN_put (.take 0 (.take 1 (.take 2 (.take 3 .done)))) [] (by kernel_rfl) rfl (by kernel_rfl) (by kernel_rfl) hC h
/-- 70_2: live: 0 4 -/
def G70_2 (R : Ending → Imm → Own → Prop) (C : Cls) (s : Env) (v0 v4 : Value) (I : Imm) (L : Own) : Prop :=
 qslc Tryd.prog 9 v0 (some (.int .i64 2)) none none C fun x38 =>
J70_3 R (F70_3 (U (U s 37 v0) 38 x38) x38 v4 (.int .i64 2)) I L
theorem draw70_2 {R : Ending → Imm → Own → Prop} {C : Cls} {s : Env} {v0 v4 : Value} {I : Imm} {L : Own} (hC : C I L) (h : G70_2 R C s v0 v4 I L) : D70_2 R (F70_2 s v0 v4) I L :=
  draw_planB (ops := opsIn Tryd.f70 [1, 1, 1, 1, 0, 1, 1, 1, 0]) (id := 8) (Q := Q70_2 R) (X := (endN R)) endN_put (.take 0 (.take 1 (.take 2 (.take 3 .done)))) [] (by kernel_rfl) rfl (by kernel_rfl) (by kernel_rfl) hC h
/-- 70_3: live: 0 4 5 -/
def T70_3 (R : Ending → Imm → Own → Prop) (s : Env) (v0 v4 v5 : Value) (I : Imm) (L : Own) : Prop :=
 cal Tryd.prog 76 #[v0, v5] I L (xR R) fun x42 I L =>
 ext Tryd.prog x42 0 I L fun x43 I L =>
 ext Tryd.prog x42 1 I L fun x44 I L =>
 eqn Tryd.prog .neq 24 false true x44 (.int .i64 0) I L fun x46 I L =>
 cnd x46
 (R (.returned (.tuple #[(.int .i64 0), x44])) I L)
 (un Tryd.prog .not v4 I L fun x49 I L =>
 gd (yb (some x49) true) (fun k => k x43 I L) (fun x51 I L =>
 gd (yb (some x49) true) (fun k => cal Tryd.prog 77 #[(.int .i64 63)] I L (xR R) k) (fun x52 I L =>
 gd (yb (some x49) true) (fun k => bin Tryd.prog .geq 140 x51 x52 I L k) (fun x53 I L =>
pck x49 x53 (.bool false) I L fun x54 I L =>
 gd (yb (some x54) false) (fun k => k x43 I L) (fun x56 I L =>
 gd (yb (some x54) false) (fun k => cal Tryd.prog 77 #[(.int .i64 63)] I L (xR R) k) (fun x57 I L =>
 gd (yb (some x54) false) (fun k => bin Tryd.prog .gtr 140 x56 x57 I L k) (fun x58 I L =>
pck x54 (.bool true) x58 I L fun x59 I L =>
 cnd x59
 (R (.returned (.tuple #[(.int .i64 0), (.int .i64 2)])) I L)
 (cnd v4
 (un Tryd.prog .neg x43 I L fun x62 I L =>
 cvt Tryd.prog 140 3 x62 I L fun x63 I L =>
R (.returned (.tuple #[x63, (.int .i64 0)])) I L)
 (cvt Tryd.prog 140 3 x43 I L fun x65 I L =>
R (.returned (.tuple #[x65, (.int .i64 0)])) I L))) I L) I L) I L) I L) I L) I L)
theorem join70_3 {R : Ending → Imm → Own → Prop} {s : Env} {v0 v4 v5 : Value} {I : Imm} {L : Own} (h : T70_3 R s v0 v4 v5 I L) : J70_3 R (F70_3 s v0 v4 v5) I L :=
  sh_cutB (fun _ => none) (O := True) (by kernel_rfl) trivial (by kernel_rfl) h
/-- 70: escritoire/escritoireref.Number -/
def M70 (R : Ending → Imm → Own → Prop) (x0 : Value) (I : Imm) (L : Own) : Prop :=
 blt Tryd.prog .len #[9] 3 #[x0] I L fun x9 I L =>
 bin Tryd.prog .gtr 3 x9 (.int .i64 0) I L fun x10 I L =>
 gd (yb (some x10) true) (fun k => k x0 I L) (fun x12 I L =>
 gd (yb (some x10) true) (fun k => idx Tryd.prog 9 x12 (.int .i64 0) I L k) (fun x13 I L =>
 gd (yb (some x10) true) (fun k => eqn Tryd.prog .eql 5 false true x13 (.int .u8 45) I L k) (fun x14 I L =>
pck x10 x14 (.bool false) I L fun x15 I L =>
 cnd x15
 (slc Tryd.prog 9 x0 (some (.int .i64 1)) none none I L fun x18 I L =>
J70_0 R (F70_0 (U (U (U (U (U (U (U (U (U (U (U (U (U eU 2 (.int .i64 0)) 3 (.int .i64 0)) 8 x0) 9 x9) 10 x10) 11 x10) 12 x12) 13 x13) 14 x14) 15 x15) 16 x15) 17 x0) 18 x18) x18 x15) I L)
 (J70_0 R (F70_0 (U (U (U (U (U (U (U (U (U (U (U eU 2 (.int .i64 0)) 3 (.int .i64 0)) 8 x0) 9 x9) 10 x10) 11 x10) 12 x12) 13 x13) 14 x14) 15 x15) 16 x15) x0 x15) I L)) I L) I L) I L
theorem go70 {R : Ending → Imm → Own → Prop} {x0 : Value} {I : Imm} {L : Own} (h : M70 R x0 I L) : wpC Tryd.prog 70 #[x0] I L R :=
  wpC_goX (endN_le _ _ R) (fun p => if p = [1, 1, 1] then some (J70_0 R) else none) Tryd.func70 (by kernel_rfl) (O := (J70_0 R = J70_0 R) ∧ True) (by kernel_rfl) ⟨rfl, trivial⟩ (by kernel_rfl) h

def F76_r (s : Env) (v4 v5 : Value) : Act := fr 58 (U (U s 4 v4) 5 v5) []
def F76_0 (s : Env) (v0 v1 v6 v7 v8 : Value) : Act := fr 58 (U (U (U (U (U s 0 v0) 1 v1) 6 v6) 7 v7) 8 v8) []
def F76_1 (s : Env) (v6 v7 : Value) : Act := fr 58 (U (U s 6 v6) 7 v7) []
def Q76_0 (R : Ending → Imm → Own → Prop) : Exit → Act → Imm → Own → Prop := (blkT 0 (seqT (cdB Tryd.prog (cdIn Tryd.f76 [1, 1, 1, 1, 1]) (endB Tryd.prog Tryd.f76 R) (endN R)) (endB Tryd.prog Tryd.f76 R)))
def L76_0 (R : Ending → Imm → Own → Prop) (a : Act) (I : Imm) (L : Own) : Prop := cdB Tryd.prog (cdIn Tryd.f76 [1, 1, 1, 1, 0, 1, 0]) (Q76_0 R) (endN R) a I L
def Q76_1 (R : Ending → Imm → Own → Prop) : Exit → Act → Imm → Own → Prop := (endB Tryd.prog Tryd.f76 R)
def J76_1 (R : Ending → Imm → Own → Prop) (a : Act) (I : Imm) (L : Own) : Prop := cdB Tryd.prog (cdIn Tryd.f76 [1, 1, 1, 1, 1]) (Q76_1 R) (endN R) a I L
/-- loop 76_0: live: 0 1 6 7 8; what changes: 6 7 8 -/
def B76_0 (R : Ending → Imm → Own → Prop) (N : Act → Imm → Own → Prop) (Q : Exit → Act → Imm → Own → Prop) (s : Env) (v0 v1 v6 v7 v8 : Value) (I : Imm) (L : Own) : Prop :=
 blt Tryd.prog .len #[9] 3 #[v0] I L fun x20 I L =>
 bin Tryd.prog .lss 3 v8 x20 I L fun x21 I L =>
 cnd x21
 (idx Tryd.prog 9 v0 v8 I L fun x26 I L =>
 cal Tryd.prog 78 #[x26] I L (xR R) fun x27 I L =>
 bin Tryd.prog .sub 3 v1 (.int .i64 1) I L fun x30 I L =>
 cal Tryd.prog 37 #[x27, (.int .i64 0), x30] I L (xR R) fun x31 I L =>
 un Tryd.prog .not x31 I L fun x32 I L =>
 cnd x32
 (Q .ret (F76_r (U (U (U (U (U (U (U (U (U (U (U (U (U (U (U (U (U (U (U s 0 v0) 1 v1) 6 v6) 7 v7) 8 v8) 9 x27) 18 v8) 19 v0) 20 x20) 21 x21) 24 v0) 25 v8) 26 x26) 27 x27) 28 x27) 29 v1) 30 x30) 31 x31) 32 x32) (.int .u64 0) (.int .i64 3)) I L)
 (cvt Tryd.prog 3 140 v1 I L fun x36 I L =>
 cal Tryd.prog 79 #[v7, x36] I L (xR R) fun x37 I L =>
 ext Tryd.prog x37 0 I L fun x38 I L =>
 ext Tryd.prog x37 1 I L fun x39 I L =>
 cvt Tryd.prog 3 140 x27 I L fun x43 I L =>
 cal Tryd.prog 80 #[x39, x43, (.int .u64 0)] I L (xR R) fun x44 I L =>
 ext Tryd.prog x44 0 I L fun x45 I L =>
 ext Tryd.prog x44 1 I L fun x46 I L =>
 bin Tryd.prog .add 140 x38 x46 I L fun x49 I L =>
 bin Tryd.prog .gtr 140 x49 (.int .u64 0) I L fun x50 I L =>
 gd (yb (some x50) false) (fun k => k v6 I L) (fun x52 I L =>
 gd (yb (some x50) false) (fun k => bin Tryd.prog .gtr 140 x52 (.int .u64 0) I L k) (fun x53 I L =>
pck x50 (.bool true) x53 I L fun x54 I L =>
 cnd x54
 (bin Tryd.prog .add 3 v8 (.int .i64 1) I L fun x23 I L =>
N (F76_0 (U (U (U (U (U (U (U (U (U (U (U (U (U (U (U (U (U (U (U (U (U (U (U (U (U (U (U (U (U (U (U (U (U (U (U (U (U (U (U (U (U s 9 x27) 10 x38) 11 x39) 12 x46) 18 v8) 19 v0) 20 x20) 21 x21) 22 v8) 23 x23) 24 v0) 25 v8) 26 x26) 27 x27) 28 x27) 29 v1) 30 x30) 31 x31) 32 x32) 33 x37) 34 v7) 35 v1) 36 x36) 37 x37) 38 x38) 39 x39) 40 x44) 41 x39) 42 x27) 43 x43) 44 x44) 45 x45) 46 x46) 47 x38) 48 x46) 49 x49) 50 x50) 51 x50) 52 x52) 53 x53) 54 x54) v0 v1 (.int .u64 1) x45 x23) I L)
 (bin Tryd.prog .add 3 v8 (.int .i64 1) I L fun x23 I L =>
N (F76_0 (U (U (U (U (U (U (U (U (U (U (U (U (U (U (U (U (U (U (U (U (U (U (U (U (U (U (U (U (U (U (U (U (U (U (U (U (U (U (U (U (U s 9 x27) 10 x38) 11 x39) 12 x46) 18 v8) 19 v0) 20 x20) 21 x21) 22 v8) 23 x23) 24 v0) 25 v8) 26 x26) 27 x27) 28 x27) 29 v1) 30 x30) 31 x31) 32 x32) 33 x37) 34 v7) 35 v1) 36 x36) 37 x37) 38 x38) 39 x39) 40 x44) 41 x39) 42 x27) 43 x43) 44 x44) 45 x45) 46 x46) 47 x38) 48 x46) 49 x49) 50 x50) 51 x50) 52 x52) 53 x53) 54 x54) v0 v1 v6 x45 x23) I L)) I L) I L))
 (Q (.exit 0) (F76_1 (U (U (U (U (U (U (U s 0 v0) 1 v1) 8 v8) 18 v8) 19 v0) 20 x20) 21 x21) v6 v7) I L)
theorem round76_0 {R : Ending → Imm → Own → Prop} {N : Act → Imm → Own → Prop} {Q : Exit → Act → Imm → Own → Prop} {s : Env} {v0 v1 v6 v7 v8 : Value} {I : Imm} {L : Own} (h : B76_0 R N Q s v0 v1 v6 v7 v8 I L) : cdB Tryd.prog (cdIn Tryd.f76 [1, 1, 1, 1, 0, 1, 0, 0]) (seqT N Q) (endN R) (F76_0 s v0 v1 v6 v7 v8) I L :=
  sh_cutB (fun _ => none) (O := True) (by kernel_rfl) trivial (by kernel_rfl) h
theorem loop76_0 {R : Ending → Imm → Own → Prop} {s : Env} {v0 v1 : Value} {u6 u7 u8 : Value} {I : Imm} {L : Own} (Inv : Nat → Value → Value → Value → Imm → Own → Prop) {n : Nat} (h : Inv n u6 u7 u8 I L)
  (round : ∀ (n : Nat) (x6 x7 x8 : Value) (I' : Imm) (L' : Own), I.Le I' → Inv n x6 x7 x8 I' L' → ∀ (N' : Act → Imm → Own → Prop), (∀ (m : Nat) {s : Env} {y6 y7 y8 : Value} {I : Imm} {L : Own}, m < n → Inv m y6 y7 y8 I L → N' (F76_0 s v0 v1 y6 y7 y8) I L) → ∀ (s : Env), B76_0 R N' (Q76_0 R) s v0 v1 x6 x7 x8 I' L') : L76_0 R (F76_0 s v0 v1 u6 u7 u8) I L :=
  loop_genB (by kernel_rfl) (fun n a I L => ∃ (s : Env) (x6 x7 x8 : Value), a = (F76_0 s v0 v1 x6 x7 x8) ∧ Inv n x6 x7 x8 I L) ⟨s, _, _, _, rfl, h⟩ fun n a I' L' hle ⟨s, x6, x7, x8, e, hi⟩ => e ▸ round76_0 (round n x6 x7 x8 I' L' hle hi (fun a I L => ∃ m, m < n ∧ (fun n a I L => ∃ (s : Env) (x6 x7 x8 : Value), a = (F76_0 s v0 v1 x6 x7 x8) ∧ Inv n x6 x7 x8 I L) m a I L) (fun m {s y6 y7 y8 I L} hm hi => ⟨m, hm, s, _, _, _, rfl, hi⟩) s)
theorem out76_0x0 {R : Ending → Imm → Own → Prop} {s : Env} {v6 v7 : Value} {I : Imm} {L : Own} (h : J76_1 R (F76_1 s v6 v7) I L) : Q76_0 R (.exit 0) (F76_1 s v6 v7) I L :=
  Eq.mpr (by kernel_rfl) h
theorem out76_0r {R : Ending → Imm → Own → Prop} {s : Env} {v4 v5 : Value} {I : Imm} {L : Own} (h : R (.returned (.tuple #[v4, v5])) I L) : Q76_0 R .ret (F76_r s v4 v5) I L :=
  Eq.mpr (by kernel_rfl) h
/-- 76_1: live: 6 7 -/
def T76_1 (R : Ending → Imm → Own → Prop) (s : Env) (v6 v7 : Value) (I : Imm) (L : Own) : Prop :=
 bin Tryd.prog .gtr 140 v6 (.int .u64 0) I L fun x56 I L =>
 cnd x56
 (R (.returned (.tuple #[(.int .u64 0), (.int .i64 2)])) I L)
 (R (.returned (.tuple #[v7, (.int .i64 0)])) I L)
theorem join76_1 {R : Ending → Imm → Own → Prop} {s : Env} {v6 v7 : Value} {I : Imm} {L : Own} (h : T76_1 R s v6 v7 I L) : J76_1 R (F76_1 s v6 v7) I L :=
  sh_cutB (fun _ => none) (O := True) (by kernel_rfl) trivial (by kernel_rfl) h
/-- 76: escritoire/escritoireref.DigitsParse -/
def M76 (R : Ending → Imm → Own → Prop) (x0 x1 : Value) (I : Imm) (L : Own) : Prop :=
 cal Tryd.prog 37 #[x1, (.int .i64 2), (.int .i64 16)] I L (xR R) fun x14 I L =>
 un Tryd.prog .not x14 I L fun x15 I L =>
 cnd x15
 (R (.returned (.tuple #[(.int .u64 0), (.int .i64 1)])) I L)
 (eqn Tryd.prog .eql 9 false true x0 (S []) I L fun x17 I L =>
 cnd x17
 (R (.returned (.tuple #[(.int .u64 0), (.int .i64 3)])) I L)
 (L76_0 R (F76_0 (U (U (U (U (U (U (U eU 4 (.int .u64 0)) 5 (.int .i64 0)) 13 x1) 14 x14) 15 x15) 16 x0) 17 x17) x0 x1 (.int .u64 0) (.int .u64 0) (.int .i64 0)) I L))
theorem go76 {R : Ending → Imm → Own → Prop} {x0 x1 : Value} {I : Imm} {L : Own} (h : M76 R x0 x1 I L) : wpC Tryd.prog 76 #[x0, x1] I L R :=
  wpC_goX (endN_le _ _ R) (fun p => if p = [0, 1, 0, 1, 1, 1, 1] then some (L76_0 R) else none) Tryd.func76 (by kernel_rfl) (O := (L76_0 R = L76_0 R) ∧ True) (by kernel_rfl) ⟨rfl, trivial⟩ (by kernel_rfl) h

def F77_r (s : Env) (v2 : Value) : Act := fr 11 (U s 2 v2) []
def F77_0 (s : Env) (v0 v3 : Value) : Act := fr 11 (U (U s 0 v0) 3 v3) []
def F77_1 (s : Env) (v3 : Value) : Act := fr 11 (U s 3 v3) []
def Q77_0 (R : Ending → Imm → Own → Prop) : Exit → Act → Imm → Own → Prop := (blkT 0 (seqT (cdB Tryd.prog (cdIn Tryd.f77 [1, 1, 1]) (endB Tryd.prog Tryd.f77 R) (endN R)) (endB Tryd.prog Tryd.f77 R)))
def L77_0 (R : Ending → Imm → Own → Prop) (a : Act) (I : Imm) (L : Own) : Prop := cdB Tryd.prog (cdIn Tryd.f77 [1, 1, 0, 0]) (Q77_0 R) (endN R) a I L
def Q77_1 (R : Ending → Imm → Own → Prop) : Exit → Act → Imm → Own → Prop := (endB Tryd.prog Tryd.f77 R)
def J77_1 (R : Ending → Imm → Own → Prop) (a : Act) (I : Imm) (L : Own) : Prop := cdB Tryd.prog (cdIn Tryd.f77 [1, 1, 1]) (Q77_1 R) (endN R) a I L
/-- loop 77_0: live: 0 3; what changes: 0 3 -/
def B77_0 (R : Ending → Imm → Own → Prop) (N : Act → Imm → Own → Prop) (Q : Exit → Act → Imm → Own → Prop) (s : Env) (v0 v3 : Value) (I : Imm) (L : Own) : Prop :=
 bin Tryd.prog .gtr 3 v0 (.int .i64 0) I L fun x5 I L =>
 cnd x5
 (bin Tryd.prog .mul 140 v3 (.int .u64 2) I L fun x9 I L =>
 bin Tryd.prog .sub 3 v0 (.int .i64 1) I L fun x7 I L =>
N (F77_0 (U (U (U (U (U (U s 4 v0) 5 x5) 6 v0) 7 x7) 8 v3) 9 x9) x7 x9) I L)
 (Q (.exit 0) (F77_1 (U (U (U s 0 v0) 4 v0) 5 x5) v3) I L)
theorem round77_0 {R : Ending → Imm → Own → Prop} {N : Act → Imm → Own → Prop} {Q : Exit → Act → Imm → Own → Prop} {s : Env} {v0 v3 : Value} {I : Imm} {L : Own} (h : B77_0 R N Q s v0 v3 I L) : cdB Tryd.prog (cdIn Tryd.f77 [1, 1, 0, 0, 0]) (seqT N Q) (endN R) (F77_0 s v0 v3) I L :=
  sh_cutB (fun _ => none) (O := True) (by kernel_rfl) trivial (by kernel_rfl) h
theorem loop77_0 {R : Ending → Imm → Own → Prop} {s : Env} {u0 u3 : Value} {I : Imm} {L : Own} (Inv : Nat → Value → Value → Imm → Own → Prop) {n : Nat} (h : Inv n u0 u3 I L)
  (round : ∀ (n : Nat) (x0 x3 : Value) (I' : Imm) (L' : Own), I.Le I' → Inv n x0 x3 I' L' → ∀ (N' : Act → Imm → Own → Prop), (∀ (m : Nat) {s : Env} {y0 y3 : Value} {I : Imm} {L : Own}, m < n → Inv m y0 y3 I L → N' (F77_0 s y0 y3) I L) → ∀ (s : Env), B77_0 R N' (Q77_0 R) s x0 x3 I' L') : L77_0 R (F77_0 s u0 u3) I L :=
  loop_genB (by kernel_rfl) (fun n a I L => ∃ (s : Env) (x0 x3 : Value), a = (F77_0 s x0 x3) ∧ Inv n x0 x3 I L) ⟨s, _, _, rfl, h⟩ fun n a I' L' hle ⟨s, x0, x3, e, hi⟩ => e ▸ round77_0 (round n x0 x3 I' L' hle hi (fun a I L => ∃ m, m < n ∧ (fun n a I L => ∃ (s : Env) (x0 x3 : Value), a = (F77_0 s x0 x3) ∧ Inv n x0 x3 I L) m a I L) (fun m {s y0 y3 I L} hm hi => ⟨m, hm, s, _, _, rfl, hi⟩) s)
theorem out77_0x0 {R : Ending → Imm → Own → Prop} {s : Env} {v3 : Value} {I : Imm} {L : Own} (h : J77_1 R (F77_1 s v3) I L) : Q77_0 R (.exit 0) (F77_1 s v3) I L :=
  Eq.mpr (by kernel_rfl) h
/-- 77_1: live: 3 -/
def T77_1 (R : Ending → Imm → Own → Prop) (s : Env) (v3 : Value) (I : Imm) (L : Own) : Prop :=
R (.returned v3) I L
theorem join77_1 {R : Ending → Imm → Own → Prop} {s : Env} {v3 : Value} {I : Imm} {L : Own} (h : T77_1 R s v3 I L) : J77_1 R (F77_1 s v3) I L :=
  sh_cutB (fun _ => none) (O := True) (by kernel_rfl) trivial (by kernel_rfl) h
/-- 77: escritoire/escritoireref.pow2 -/
def M77 (R : Ending → Imm → Own → Prop) (x0 : Value) (I : Imm) (L : Own) : Prop :=
L77_0 R (F77_0 (U eU 2 (.int .u64 0)) x0 (.int .u64 1)) I L
theorem go77 {R : Ending → Imm → Own → Prop} {x0 : Value} {I : Imm} {L : Own} (h : M77 R x0 I L) : wpC Tryd.prog 77 #[x0] I L R :=
  wpC_goX (endN_le _ _ R) (fun p => if p = [0, 0, 1, 1] then some (L77_0 R) else none) Tryd.func77 (by kernel_rfl) (O := (L77_0 R = L77_0 R) ∧ True) (by kernel_rfl) ⟨rfl, trivial⟩ (by kernel_rfl) h

def F78_r (s : Env) (v2 : Value) : Act := fr 26 (U s 2 v2) []
def F78_0 (s : Env) (v0 v6 v7 v8 : Value) : Act := fr 26 (U (U (U (U s 0 v0) 6 v6) 7 v7) 8 v8) []
def F78_1 (s : Env) (v0 v3 v4 v5 v6 v7 v8 : Value) : Act := fr 26 (U (U (U (U (U (U (U s 0 v0) 3 v3) 4 v4) 5 v5) 6 v6) 7 v7) 8 v8) []
def F78_2 (s : Env) : Act := fr 26 s []
def F78_3 (s : Env) (v0 v6 v7 v8 : Value) : Act := fr 26 (U (U (U (U s 0 v0) 6 v6) 7 v7) 8 v8) []
def Q78_0 (R : Ending → Imm → Own → Prop) : Exit → Act → Imm → Own → Prop := (blkT 0 (seqT (cdB Tryd.prog (cdIn Tryd.f78 [1, 1]) (endB Tryd.prog Tryd.f78 R) (endN R)) (endB Tryd.prog Tryd.f78 R)))
def L78_0 (R : Ending → Imm → Own → Prop) (a : Act) (I : Imm) (L : Own) : Prop := cdB Tryd.prog (cdIn Tryd.f78 [1, 0, 1, 0]) (Q78_0 R) (endN R) a I L
def Q78_1 (R : Ending → Imm → Own → Prop) (N : Act → Imm → Own → Prop) (Q : Exit → Act → Imm → Own → Prop) : Exit → Act → Imm → Own → Prop := (blkT 2 (blkT 1 (seqT (cdB Tryd.prog (cdIn Tryd.f78 [1, 0, 1, 0, 0, 1, 1, 1]) (seqT N Q) (endN R)) (seqT N Q))))
def L78_1 (R : Ending → Imm → Own → Prop) (N : Act → Imm → Own → Prop) (Q : Exit → Act → Imm → Own → Prop) (a : Act) (I : Imm) (L : Own) : Prop := cdB Tryd.prog (cdIn Tryd.f78 [1, 0, 1, 0, 0, 1, 1, 0, 0, 1, 1, 0]) (Q78_1 R N Q) (endN R) a I L
def Q78_2 (R : Ending → Imm → Own → Prop) : Exit → Act → Imm → Own → Prop := (endB Tryd.prog Tryd.f78 R)
def J78_2 (R : Ending → Imm → Own → Prop) (a : Act) (I : Imm) (L : Own) : Prop := cdB Tryd.prog (cdIn Tryd.f78 [1, 1]) (Q78_2 R) (endN R) a I L
def Q78_3 (R : Ending → Imm → Own → Prop) (N : Act → Imm → Own → Prop) (Q : Exit → Act → Imm → Own → Prop) : Exit → Act → Imm → Own → Prop := (seqT N Q)
def J78_3 (R : Ending → Imm → Own → Prop) (N : Act → Imm → Own → Prop) (Q : Exit → Act → Imm → Own → Prop) (a : Act) (I : Imm) (L : Own) : Prop := cdB Tryd.prog (cdIn Tryd.f78 [1, 0, 1, 0, 0, 1, 1, 1]) (Q78_3 R N Q) (endN R) a I L
/-- loop 78_0: live: 0 6 7 8; what changes: 8 -/
def B78_0 (R : Ending → Imm → Own → Prop) (N : Act → Imm → Own → Prop) (Q : Exit → Act → Imm → Own → Prop) (s : Env) (v0 v6 v7 v8 : Value) (I : Imm) (L : Own) : Prop :=
 bin Tryd.prog .lss 3 v8 v7 I L fun x9 I L =>
 cnd x9
 (iad Tryd.prog 57 v6 v8 I L fun x11 I L =>
 ld Tryd.prog 9 x11 I L fun x12 I L =>
L78_1 R N Q (F78_1 (U (U (U (U s 9 x9) 10 v8) 11 x11) 12 x12) v0 v8 x12 (.int .i64 0) v6 v7 v8) I L)
 (Q (.exit 0) (F78_2 (U (U (U (U (U s 0 v0) 6 v6) 7 v7) 8 v8) 9 x9)) I L)
theorem round78_0 {R : Ending → Imm → Own → Prop} {N : Act → Imm → Own → Prop} {Q : Exit → Act → Imm → Own → Prop} {s : Env} {v0 v6 v7 v8 : Value} {I : Imm} {L : Own} (h : B78_0 R N Q s v0 v6 v7 v8 I L) : cdB Tryd.prog (cdIn Tryd.f78 [1, 0, 1, 0, 0]) (seqT N Q) (endN R) (F78_0 s v0 v6 v7 v8) I L :=
  sh_cutB (fun p => if p = [0, 1, 1, 0, 0, 1, 1] then some (L78_1 R N Q) else none) (O := (L78_1 R N Q = L78_1 R N Q) ∧ True) (by kernel_rfl) ⟨rfl, trivial⟩ (by kernel_rfl) h
theorem loop78_0 {R : Ending → Imm → Own → Prop} {s : Env} {v0 v6 v7 : Value} {u8 : Value} {I : Imm} {L : Own} (Inv : Nat → Value → Imm → Own → Prop) {n : Nat} (h : Inv n u8 I L)
  (round : ∀ (n : Nat) (x8 : Value) (I' : Imm) (L' : Own), I.Le I' → Inv n x8 I' L' → ∀ (N' : Act → Imm → Own → Prop), (∀ (m : Nat) {s : Env} {y8 : Value} {I : Imm} {L : Own}, m < n → Inv m y8 I L → N' (F78_0 s v0 v6 v7 y8) I L) → ∀ (s : Env), B78_0 R N' (Q78_0 R) s v0 v6 v7 x8 I' L') : L78_0 R (F78_0 s v0 v6 v7 u8) I L :=
  loop_genB (by kernel_rfl) (fun n a I L => ∃ (s : Env) (x8 : Value), a = (F78_0 s v0 v6 v7 x8) ∧ Inv n x8 I L) ⟨s, _, rfl, h⟩ fun n a I' L' hle ⟨s, x8, e, hi⟩ => e ▸ round78_0 (round n x8 I' L' hle hi (fun a I L => ∃ m, m < n ∧ (fun n a I L => ∃ (s : Env) (x8 : Value), a = (F78_0 s v0 v6 v7 x8) ∧ Inv n x8 I L) m a I L) (fun m {s y8 I L} hm hi => ⟨m, hm, s, _, rfl, hi⟩) s)
theorem out78_0x0 {R : Ending → Imm → Own → Prop} {s : Env} {I : Imm} {L : Own} (h : J78_2 R (F78_2 s) I L) : Q78_0 R (.exit 0) (F78_2 s) I L :=
  Eq.mpr (by kernel_rfl) h
theorem out78_0r {R : Ending → Imm → Own → Prop} {s : Env} {v2 : Value} {I : Imm} {L : Own} (h : R (.returned v2) I L) : Q78_0 R .ret (F78_r s v2) I L :=
  Eq.mpr (by kernel_rfl) h
/-- loop 78_1: live: 0 3 4 5 6 7 8; what changes: 5 -/
def B78_1 (R : Ending → Imm → Own → Prop) (N : Act → Imm → Own → Prop) (Q : Exit → Act → Imm → Own → Prop) (s : Env) (v0 v3 v4 v5 v6 v7 v8 : Value) (I : Imm) (L : Own) : Prop :=
 blt Tryd.prog .len #[9] 3 #[v4] I L fun x15 I L =>
 bin Tryd.prog .lss 3 v5 x15 I L fun x16 I L =>
 cnd x16
 (idx Tryd.prog 9 v4 v5 I L fun x21 I L =>
 eqn Tryd.prog .eql 5 false false x21 v0 I L fun x23 I L =>
 cnd x23
 (Q .ret (F78_r (U (U (U (U (U (U (U (U (U (U (U (U (U (U (U (U (U s 0 v0) 3 v3) 4 v4) 5 v5) 6 v6) 7 v7) 8 v8) 13 v5) 14 v4) 15 x15) 16 x16) 19 v4) 20 v5) 21 x21) 22 v0) 23 x23) 24 v3) v3) I L)
 (bin Tryd.prog .add 3 v5 (.int .i64 1) I L fun x18 I L =>
N (F78_1 (U (U (U (U (U (U (U (U (U (U (U s 13 v5) 14 v4) 15 x15) 16 x16) 17 v5) 18 x18) 19 v4) 20 v5) 21 x21) 22 v0) 23 x23) v0 v3 v4 x18 v6 v7 v8) I L))
 (Q (.exit 2) (F78_3 (U (U (U (U (U (U (U s 3 v3) 4 v4) 5 v5) 13 v5) 14 v4) 15 x15) 16 x16) v0 v6 v7 v8) I L)
theorem round78_1 {R : Ending → Imm → Own → Prop} {N : Act → Imm → Own → Prop} {Q : Exit → Act → Imm → Own → Prop} {s : Env} {v0 v3 v4 v5 v6 v7 v8 : Value} {I : Imm} {L : Own} (h : B78_1 R N Q s v0 v3 v4 v5 v6 v7 v8 I L) : cdB Tryd.prog (cdIn Tryd.f78 [1, 0, 1, 0, 0, 1, 1, 0, 0, 1, 1, 0, 0]) (seqT N Q) (endN R) (F78_1 s v0 v3 v4 v5 v6 v7 v8) I L :=
  sh_cutB (fun _ => none) (O := True) (by kernel_rfl) trivial (by kernel_rfl) h
theorem loop78_1 {R : Ending → Imm → Own → Prop} {N : Act → Imm → Own → Prop} {Q : Exit → Act → Imm → Own → Prop} {s : Env} {v0 v3 v4 v6 v7 v8 : Value} {u5 : Value} {I : Imm} {L : Own} (Inv : Nat → Value → Imm → Own → Prop) {n : Nat} (h : Inv n u5 I L)
  (round : ∀ (n : Nat) (x5 : Value) (I' : Imm) (L' : Own), I.Le I' → Inv n x5 I' L' → ∀ (N' : Act → Imm → Own → Prop), (∀ (m : Nat) {s : Env} {y5 : Value} {I : Imm} {L : Own}, m < n → Inv m y5 I L → N' (F78_1 s v0 v3 v4 y5 v6 v7 v8) I L) → ∀ (s : Env), B78_1 R N' (Q78_1 R N Q) s v0 v3 v4 x5 v6 v7 v8 I' L') : L78_1 R N Q (F78_1 s v0 v3 v4 u5 v6 v7 v8) I L :=
  loop_genB (by kernel_rfl) (fun n a I L => ∃ (s : Env) (x5 : Value), a = (F78_1 s v0 v3 v4 x5 v6 v7 v8) ∧ Inv n x5 I L) ⟨s, _, rfl, h⟩ fun n a I' L' hle ⟨s, x5, e, hi⟩ => e ▸ round78_1 (round n x5 I' L' hle hi (fun a I L => ∃ m, m < n ∧ (fun n a I L => ∃ (s : Env) (x5 : Value), a = (F78_1 s v0 v3 v4 x5 v6 v7 v8) ∧ Inv n x5 I L) m a I L) (fun m {s y5 I L} hm hi => ⟨m, hm, s, _, rfl, hi⟩) s)
theorem out78_1x2 {R : Ending → Imm → Own → Prop} {N : Act → Imm → Own → Prop} {Q : Exit → Act → Imm → Own → Prop} {s : Env} {v0 v6 v7 v8 : Value} {I : Imm} {L : Own} (h : J78_3 R N Q (F78_3 s v0 v6 v7 v8) I L) : Q78_1 R N Q (.exit 2) (F78_3 s v0 v6 v7 v8) I L :=
  Eq.mpr (by kernel_rfl) h
theorem out78_1r {R : Ending → Imm → Own → Prop} {N : Act → Imm → Own → Prop} {Q : Exit → Act → Imm → Own → Prop} {s : Env} {v2 : Value} {I : Imm} {L : Own} (h : Q .ret (F78_r s v2) I L) : Q78_1 R N Q .ret (F78_r s v2) I L :=
  Eq.mpr (by kernel_rfl) h
/-- 78_2: live:  -/
def T78_2 (R : Ending → Imm → Own → Prop) (s : Env) (I : Imm) (L : Own) : Prop :=
R (.returned (.int .i64 (-1))) I L
theorem join78_2 {R : Ending → Imm → Own → Prop} {s : Env} {I : Imm} {L : Own} (h : T78_2 R s I L) : J78_2 R (F78_2 s) I L :=
  sh_cutB (fun _ => none) (O := True) (by kernel_rfl) trivial (by kernel_rfl) h
/-- 78_3: live: 0 6 7 8 -/
def T78_3 (R : Ending → Imm → Own → Prop) (N : Act → Imm → Own → Prop) (Q : Exit → Act → Imm → Own → Prop) (s : Env) (v0 v6 v7 v8 : Value) (I : Imm) (L : Own) : Prop :=
 bin Tryd.prog .add 3 v8 (.int .i64 1) I L fun x25 I L =>
N (F78_0 (U s 25 x25) v0 v6 v7 x25) I L
theorem join78_3 {R : Ending → Imm → Own → Prop} {N : Act → Imm → Own → Prop} {Q : Exit → Act → Imm → Own → Prop} {s : Env} {v0 v6 v7 v8 : Value} {I : Imm} {L : Own} (h : T78_3 R N Q s v0 v6 v7 v8 I L) : J78_3 R N Q (F78_3 s v0 v6 v7 v8) I L :=
  sh_cutB (fun _ => none) (O := True) (by kernel_rfl) trivial (by kernel_rfl) h
/-- 78: escritoire/escritoireref.Digit -/
def M78 (R : Ending → Imm → Own → Prop) (x0 : Value) (I : Imm) (L : Own) : Prop :=
 bsl Tryd.prog 57 16 #[(0, (S [48])), (1, (S [49])), (2, (S [50])), (3, (S [51])), (4, (S [52])), (5, (S [53])), (6, (S [54])), (7, (S [55])), (8, (S [56])), (9, (S [57])), (10, (S [97, 65])), (11, (S [98, 66])), (12, (S [99, 67])), (13, (S [100, 68])), (14, (S [101, 69])), (15, (S [102, 70]))] I L fun x6 I L =>
 blt Tryd.prog .len #[57] 3 #[x6] I L fun x7 I L =>
L78_0 R (F78_0 (U eU 2 (.int .i64 0)) x0 x6 x7 (.int .i64 0)) I L
theorem go78 {R : Ending → Imm → Own → Prop} {x0 : Value} {I : Imm} {L : Own} (h : M78 R x0 I L) : wpC Tryd.prog 78 #[x0] I L R :=
  wpC_goX (endN_le _ _ R) (fun p => if p = [0, 1, 0, 1] then some (L78_0 R) else none) Tryd.func78 (by kernel_rfl) (O := (L78_0 R = L78_0 R) ∧ True) (by kernel_rfl) ⟨rfl, trivial⟩ (by kernel_rfl) h

def F8_r (s : Env) (v2 : Value) (ds : List Deferred) : Act := fr 35 (U s 2 v2) ds
def F8_0 (s : Env) (v2 v3 v9 v10 v11 : Value) (ds : List Deferred) : Act := fr 35 (U (U (U (U (U s 2 v2) 3 v3) 9 v9) 10 v10) 11 v11) ds
def F8_1 (s : Env) (v2 v3 v5 v9 v10 v11 : Value) (ds : List Deferred) : Act := fr 35 (U (U (U (U (U (U s 2 v2) 3 v3) 5 v5) 9 v9) 10 v10) 11 v11) ds
def F8_2 (s : Env) (v2 : Value) (ds : List Deferred) : Act := fr 35 (U s 2 v2) ds
def F8_3 (s : Env) (v2 v3 v9 v10 v11 : Value) (ds : List Deferred) : Act := fr 35 (U (U (U (U (U s 2 v2) 3 v3) 9 v9) 10 v10) 11 v11) ds
def Q8_0 (R : Ending → Imm → Own → Prop) : Exit → Act → Imm → Own → Prop := (blkT 0 (seqT (cdB Tryd.prog (cdIn Tryd.f8 [1, 1, 1, 1]) (endB Tryd.prog Tryd.f8 R) (endXB Tryd.prog Tryd.f8 R)) (endB Tryd.prog Tryd.f8 R)))
def L8_0 (R : Ending → Imm → Own → Prop) (a : Act) (I : Imm) (L : Own) : Prop := cdB Tryd.prog (cdIn Tryd.f8 [1, 1, 1, 0, 1, 0]) (Q8_0 R) (endXB Tryd.prog Tryd.f8 R) a I L
def Q8_1 (R : Ending → Imm → Own → Prop) (N : Act → Imm → Own → Prop) (Q : Exit → Act → Imm → Own → Prop) : Exit → Act → Imm → Own → Prop := (blkT 1 (seqT (cdB Tryd.prog (cdIn Tryd.f8 [1, 1, 1, 0, 1, 0, 0, 1, 1, 1]) (seqT N Q) (endXB Tryd.prog Tryd.f8 R)) (seqT N Q)))
def J8_1 (R : Ending → Imm → Own → Prop) (N : Act → Imm → Own → Prop) (Q : Exit → Act → Imm → Own → Prop) (a : Act) (I : Imm) (L : Own) : Prop := cdB Tryd.prog (cdIn Tryd.f8 [1, 1, 1, 0, 1, 0, 0, 1, 1, 0, 0, 1, 1]) (Q8_1 R N Q) (endXB Tryd.prog Tryd.f8 R) a I L
def Q8_2 (R : Ending → Imm → Own → Prop) : Exit → Act → Imm → Own → Prop := (endB Tryd.prog Tryd.f8 R)
def J8_2 (R : Ending → Imm → Own → Prop) (a : Act) (I : Imm) (L : Own) : Prop := cdB Tryd.prog (cdIn Tryd.f8 [1, 1, 1, 1]) (Q8_2 R) (endXB Tryd.prog Tryd.f8 R) a I L
def Q8_3 (R : Ending → Imm → Own → Prop) (N : Act → Imm → Own → Prop) (Q : Exit → Act → Imm → Own → Prop) : Exit → Act → Imm → Own → Prop := (seqT N Q)
def J8_3 (R : Ending → Imm → Own → Prop) (N : Act → Imm → Own → Prop) (Q : Exit → Act → Imm → Own → Prop) (a : Act) (I : Imm) (L : Own) : Prop := cdB Tryd.prog (cdIn Tryd.f8 [1, 1, 1, 0, 1, 0, 0, 1, 1, 1]) (Q8_3 R N Q) (endXB Tryd.prog Tryd.f8 R) a I L
/-- loop 8_0: live: 2 3 9 10 11; what changes: 11 -/
def B8_0 (R : Ending → Imm → Own → Prop) (N : Act → Imm → Own → Prop) (Q : Exit → Act → Imm → Own → Prop) (s : Env) (v2 v3 v9 v10 v11 : Value) (ds : List Deferred) (I : Imm) (L : Own) : Prop :=
 bin Tryd.prog .lss 3 v11 v10 I L fun x12 I L =>
 cnd x12
 (iad Tryd.prog 23 v9 v11 I L fun x13 I L =>
 ld Tryd.prog 47 x13 I L fun x14 I L =>
 al Tryd.prog 47 I L fun x5 I L =>
 sto Tryd.prog 47 x5 x14 I L fun _ I L =>
 fad Tryd.prog 47 x5 0 I L fun x16 I L =>
 ld Tryd.prog 9 x16 I L fun x17 I L =>
 lkp Tryd.prog 55 v3 x17 false I L fun x18 I L =>
 bin Tryd.prog .gtr 3 x18 (.int .i64 0) I L fun x19 I L =>
 cnd x19
 (fad Tryd.prog 47 x5 1 I L fun x20 I L =>
 ld Tryd.prog 3 x20 I L fun x21 I L =>
 cal Tryd.prog 21 #[(.int .i64 9), x21] I L (xD Tryd.prog Tryd.f8 R (fr 35 (U (U (U (U (U (U (U (U (U (U (U (U (U (U (U (U s 2 v2) 3 v3) 5 x5) 9 v9) 10 v10) 11 v11) 12 x12) 13 x13) 14 x14) 15 v3) 16 x16) 17 x17) 18 x18) 19 x19) 20 x20) 21 x21) ds)) fun x22 I L =>
J8_1 R N Q (F8_1 (U (U (U (U (U (U (U (U (U (U (U s 12 x12) 13 x13) 14 x14) 15 v3) 16 x16) 17 x17) 18 x18) 19 x19) 20 x20) 21 x21) 22 x22) v2 v3 x5 v9 v10 v11 ds) I L)
 (J8_1 R N Q (F8_1 (U (U (U (U (U (U (U (U s 12 x12) 13 x13) 14 x14) 15 v3) 16 x16) 17 x17) 18 x18) 19 x19) v2 v3 x5 v9 v10 v11 ds) I L))
 (Q (.exit 0) (F8_2 (U (U (U (U (U s 3 v3) 9 v9) 10 v10) 11 v11) 12 x12) v2 ds) I L)
theorem round8_0 {R : Ending → Imm → Own → Prop} {N : Act → Imm → Own → Prop} {Q : Exit → Act → Imm → Own → Prop} {s : Env} {v2 v3 v9 v10 v11 : Value} {ds : List Deferred} {I : Imm} {L : Own} (h : B8_0 R N Q s v2 v3 v9 v10 v11 ds I L) : cdB Tryd.prog (cdIn Tryd.f8 [1, 1, 1, 0, 1, 0, 0]) (seqT N Q) (endXB Tryd.prog Tryd.f8 R) (F8_0 s v2 v3 v9 v10 v11 ds) I L :=
  sh_cutB (fun p => if p = [1, 1, 0, 0, 1, 1] then some (J8_1 R N Q) else none) (O := (J8_1 R N Q = J8_1 R N Q) ∧ True) (by kernel_rfl) ⟨rfl, trivial⟩ (by kernel_rfl) h
theorem loop8_0 {R : Ending → Imm → Own → Prop} {s : Env} {v2 v3 v9 v10 : Value} {u11 : Value} {ds : List Deferred} {I : Imm} {L : Own} (Inv : Nat → Value → Imm → Own → Prop) {n : Nat} (h : Inv n u11 I L)
  (round : ∀ (n : Nat) (x11 : Value) (I' : Imm) (L' : Own), I.Le I' → Inv n x11 I' L' → ∀ (N' : Act → Imm → Own → Prop), (∀ (m : Nat) {s : Env} {y11 : Value} {I : Imm} {L : Own}, m < n → Inv m y11 I L → N' (F8_0 s v2 v3 v9 v10 y11 ds) I L) → ∀ (s : Env), B8_0 R N' (Q8_0 R) s v2 v3 v9 v10 x11 ds I' L') : L8_0 R (F8_0 s v2 v3 v9 v10 u11 ds) I L :=
  loop_genB (by kernel_rfl) (fun n a I L => ∃ (s : Env) (x11 : Value), a = (F8_0 s v2 v3 v9 v10 x11 ds) ∧ Inv n x11 I L) ⟨s, _, rfl, h⟩ fun n a I' L' hle ⟨s, x11, e, hi⟩ => e ▸ round8_0 (round n x11 I' L' hle hi (fun a I L => ∃ m, m < n ∧ (fun n a I L => ∃ (s : Env) (x11 : Value), a = (F8_0 s v2 v3 v9 v10 x11 ds) ∧ Inv n x11 I L) m a I L) (fun m {s y11 I L} hm hi => ⟨m, hm, s, _, rfl, hi⟩) s)
theorem out8_0x0 {R : Ending → Imm → Own → Prop} {s : Env} {v2 : Value} {ds : List Deferred} {I : Imm} {L : Own} (h : J8_2 R (F8_2 s v2 ds) I L) : Q8_0 R (.exit 0) (F8_2 s v2 ds) I L :=
  Eq.mpr (by kernel_rfl) h
/-- 8_1: live: 2 3 5 9 10 11 -/
def T8_1 (R : Ending → Imm → Own → Prop) (N : Act → Imm → Own → Prop) (Q : Exit → Act → Imm → Own → Prop) (s : Env) (v2 v3 v5 v9 v10 v11 : Value) (ds : List Deferred) (I : Imm) (L : Own) : Prop :=
 mkm Tryd.prog 55 none I L fun x24 I L =>
 bld Tryd.prog 59 #[(0, v3), (1, x24)] I L fun x25 I L =>
 bx Tryd.prog 59 x25 I L fun x26 I L =>
 fad Tryd.prog 47 v5 2 I L fun x28 I L =>
 ld Tryd.prog 45 x28 I L fun x29 I L =>
 cal Tryd.prog 22 #[x26, x29] I L (xD Tryd.prog Tryd.f8 R (fr 35 (U (U (U (U (U (U (U (U (U (U (U (U (U (U s 2 v2) 3 v3) 5 v5) 6 x26) 9 v9) 10 v10) 11 v11) 23 v3) 24 x24) 25 x25) 26 x26) 27 x26) 28 x28) 29 x29) ds)) fun x30 I L =>
 fad Tryd.prog 47 v5 0 I L fun x32 I L =>
 ld Tryd.prog 9 x32 I L fun x33 I L =>
 mup Tryd.prog 55 v3 x33 (.int .i64 1) I L fun _ I L =>
J8_3 R N Q (F8_3 (U (U (U (U (U (U (U (U (U (U (U (U (U s 5 v5) 6 x26) 23 v3) 24 x24) 25 x25) 26 x26) 27 x26) 28 x28) 29 x29) 30 x30) 31 v3) 32 x32) 33 x33) v2 v3 v9 v10 v11 ds) I L
theorem join8_1 {R : Ending → Imm → Own → Prop} {N : Act → Imm → Own → Prop} {Q : Exit → Act → Imm → Own → Prop} {s : Env} {v2 v3 v5 v9 v10 v11 : Value} {ds : List Deferred} {I : Imm} {L : Own} (h : T8_1 R N Q s v2 v3 v5 v9 v10 v11 ds I L) : J8_1 R N Q (F8_1 s v2 v3 v5 v9 v10 v11 ds) I L :=
  sh_cutB (fun _ => none) (O := True) (by kernel_rfl) trivial (by kernel_rfl) h
/-- 8_2: live: 2 -/
def T8_2 (R : Ending → Imm → Own → Prop) (s : Env) (v2 : Value) (ds : List Deferred) (I : Imm) (L : Own) : Prop :=
 sto Tryd.prog 32 v2 .nilIface I L fun _ I L =>
eD Tryd.prog Tryd.f8 R (fr 35 (U s 2 v2) ds) I L
theorem join8_2 {R : Ending → Imm → Own → Prop} {s : Env} {v2 : Value} {ds : List Deferred} {I : Imm} {L : Own} (h : T8_2 R s v2 ds I L) : J8_2 R (F8_2 s v2 ds) I L :=
  sh_cutB (fun _ => none) (O := True) (by kernel_rfl) trivial (by kernel_rfl) h
/-- 8_3: live: 2 3 9 10 11 -/
def T8_3 (R : Ending → Imm → Own → Prop) (N : Act → Imm → Own → Prop) (Q : Exit → Act → Imm → Own → Prop) (s : Env) (v2 v3 v9 v10 v11 : Value) (ds : List Deferred) (I : Imm) (L : Own) : Prop :=
 bin Tryd.prog .add 3 v11 (.int .i64 1) I L fun x34 I L =>
N (F8_0 (U s 34 x34) v2 v3 v9 v10 x34 ds) I L
theorem join8_3 {R : Ending → Imm → Own → Prop} {N : Act → Imm → Own → Prop} {Q : Exit → Act → Imm → Own → Prop} {s : Env} {v2 v3 v9 v10 v11 : Value} {ds : List Deferred} {I : Imm} {L : Own} (h : T8_3 R N Q s v2 v3 v9 v10 v11 ds I L) : J8_3 R N Q (F8_3 s v2 v3 v9 v10 v11 ds) I L :=
  sh_cutB (fun _ => none) (O := True) (by kernel_rfl) trivial (by kernel_rfl) h
/-- 8: escritoire/types.Check -/
def M8 (R : Ending → Imm → Own → Prop) (x0 : Value) (I : Imm) (L : Own) : Prop :=
 al Tryd.prog 32 I L fun x2 I L =>
 mkm Tryd.prog 55 none I L fun x8 I L =>
 blt Tryd.prog .len #[23] 3 #[x0] I L fun x10 I L =>
L8_0 R (F8_0 (U (U (U eU 0 x0) 7 (.func (.func 20) #[] #[x2])) 8 x8) x2 x8 x0 x10 (.int .i64 0) ({ target := .fn (.func 20) #[x2], args := #[] ++ #[] } :: [])) I L
theorem go8 {R : Ending → Imm → Own → Prop} {x0 : Value} {I : Imm} {L : Own} (h : M8 R x0 I L) : wpC Tryd.prog 8 #[x0] I L R :=
  wpC_goX (fun _ _ _ _ h => h) (fun p => if p = [0, 1, 0, 1, 1, 1] then some (L8_0 R) else none) Tryd.func8 (by kernel_rfl) (O := (L8_0 R = L8_0 R) ∧ True) (by kernel_rfl) ⟨rfl, trivial⟩ (by kernel_rfl) h

/-- 20: escritoire/types.Check$1: what recover hands back: rv -/
def M20 (R : Ending → Imm → Own → Prop) (x0 : Value) (rv : Value) (I : Imm) (L : Own) : Prop :=
 eqn Tryd.prog .neq 20 false true rv .nilIface I L fun x6 I L =>
 cnd x6
 (tas Tryd.prog rv 20 53 true I L fun x9 I L =>
 ext Tryd.prog x9 0 I L fun x10 I L =>
 ext Tryd.prog x9 1 I L fun x11 I L =>
 al Tryd.prog 53 I L fun x2 I L =>
 sto Tryd.prog 53 x2 x10 I L fun _ I L =>
 un Tryd.prog .not x11 I L fun x13 I L =>
 cnd x13
 (pan rv I L (xR R))
 (fad Tryd.prog 53 x2 0 I L fun x15 I L =>
 ld Tryd.prog 32 x15 I L fun x16 I L =>
 sto Tryd.prog 32 x0 x16 I L fun _ I L =>
R (.returned (.tuple #[])) I L))
 (R (.returned (.tuple #[])) I L)
theorem god20 {R : Ending → FrameMode → Imm → Own → Prop} {x0 : Value} {rv : Value} {m m' : FrameMode} {I : Imm} {L : Own} (hm : RecM m rv m') (h : M20 (fun e => R e m') x0 rv I L) : wpD Tryd.prog 20 #[x0] m I L R :=
  wpD_rec (id := 0) (d0 := 4) (d1 := 1) (o0 := opN Tryd.f20 [0] 0) (o1 := opN Tryd.f20 [0] 1) (c := cdIn Tryd.f20 [1]) (ts := #[]) hm (fun _ => none) Tryd.func20 (by kernel_rfl) (by kernel_rfl) (by kernel_rfl) (by kernel_rfl) (by kernel_rfl) (by kernel_rfl) (by kernel_rfl) (by kernel_rfl) (O := True) (by kernel_rfl) trivial (by kernel_rfl) h

def F21_r (s : Env) : Act := fr 11 s []
/-- 21: escritoire/types.fail -/
def M21 (R : Ending → Imm → Own → Prop) (x0 x1 : Value) (I : Imm) (L : Own) : Prop :=
 bld Tryd.prog 76 #[(0, x0), (1, x1)] I L fun x6 I L =>
 bx Tryd.prog 76 x6 I L fun x7 I L =>
 mki Tryd.prog 73 x7 I L fun x8 I L =>
 bld Tryd.prog 53 #[(0, x8)] I L fun x9 I L =>
 mki Tryd.prog 53 x9 I L fun x10 I L =>
pan x10 I L (xR R)
theorem go21 {R : Ending → Imm → Own → Prop} {x0 x1 : Value} {I : Imm} {L : Own} (h : M21 R x0 x1 I L) : wpC Tryd.prog 21 #[x0, x1] I L R :=
  wpC_goX (endN_le _ _ R) (fun _ => none) Tryd.func21 (by kernel_rfl) (O := True) (by kernel_rfl) trivial (by kernel_rfl) h

def F22_r (s : Env) : Act := fr 126 s []
def F22_0 (s : Env) (v0 v1 v4 v13 v14 : Value) : Act := fr 126 (U (U (U (U (U s 0 v0) 1 v1) 4 v4) 13 v13) 14 v14) []
def F22_1 (s : Env) (v0 v1 v4 v6 v13 v14 : Value) : Act := fr 126 (U (U (U (U (U (U s 0 v0) 1 v1) 4 v4) 6 v6) 13 v13) 14 v14) []
def F22_2 (s : Env) (v0 v1 v4 : Value) : Act := fr 126 (U (U (U s 0 v0) 1 v1) 4 v4) []
def F22_3 (s : Env) (v0 v1 v4 v6 v13 v14 v46 : Value) : Act := fr 126 (U (U (U (U (U (U (U s 0 v0) 1 v1) 4 v4) 6 v6) 13 v13) 14 v14) 46 v46) []
def F22_4 (s : Env) (v0 v1 v4 v6 v13 v14 : Value) : Act := fr 126 (U (U (U (U (U (U s 0 v0) 1 v1) 4 v4) 6 v6) 13 v13) 14 v14) []
def F22_5 (s : Env) (v0 v1 v4 v6 v13 v14 : Value) : Act := fr 126 (U (U (U (U (U (U s 0 v0) 1 v1) 4 v4) 6 v6) 13 v13) 14 v14) []
def F22_6 (s : Env) (v0 v1 v4 v6 v13 v14 : Value) : Act := fr 126 (U (U (U (U (U (U s 0 v0) 1 v1) 4 v4) 6 v6) 13 v13) 14 v14) []
def F22_7 (s : Env) (v0 v1 v4 v6 v13 v14 : Value) : Act := fr 126 (U (U (U (U (U (U s 0 v0) 1 v1) 4 v4) 6 v6) 13 v13) 14 v14) []
def F22_8 (s : Env) (v0 v1 v4 v6 v13 v14 v76 : Value) : Act := fr 126 (U (U (U (U (U (U (U s 0 v0) 1 v1) 4 v4) 6 v6) 13 v13) 14 v14) 76 v76) []
def F22_9 (s : Env) (v0 v1 v4 v6 v13 v14 : Value) : Act := fr 126 (U (U (U (U (U (U s 0 v0) 1 v1) 4 v4) 6 v6) 13 v13) 14 v14) []
def F22_10 (s : Env) (v0 v1 v4 v6 v13 v14 : Value) : Act := fr 126 (U (U (U (U (U (U s 0 v0) 1 v1) 4 v4) 6 v6) 13 v13) 14 v14) []
def F22_11 (s : Env) (v0 v1 v4 v13 v14 : Value) : Act := fr 126 (U (U (U (U (U s 0 v0) 1 v1) 4 v4) 13 v13) 14 v14) []
def Q22_0 (R : Ending → Imm → Own → Prop) : Exit → Act → Imm → Own → Prop := (blkT 0 (seqT (cdB Tryd.prog (cdIn Tryd.f22 [1, 1]) (endB Tryd.prog Tryd.f22 R) (endN R)) (endB Tryd.prog Tryd.f22 R)))
def L22_0 (R : Ending → Imm → Own → Prop) (a : Act) (I : Imm) (L : Own) : Prop := cdB Tryd.prog (cdIn Tryd.f22 [1, 0, 1, 0]) (Q22_0 R) (endN R) a I L
def Q22_1 (R : Ending → Imm → Own → Prop) (N : Act → Imm → Own → Prop) (Q : Exit → Act → Imm → Own → Prop) : Exit → Act → Imm → Own → Prop := (seqT (cdB Tryd.prog (cdIn Tryd.f22 [1, 0, 1, 0, 0, 1, 1, 0, 0, 1, 1, 1, 0, 1]) (seqT (cdB Tryd.prog (cdIn Tryd.f22 [1, 0, 1, 0, 0, 1, 1, 0, 0, 1, 1, 1, 1]) (blkT 1 (seqT (cdB Tryd.prog (cdIn Tryd.f22 [1, 0, 1, 0, 0, 1, 1, 1]) (seqT N Q) (endN R)) (seqT N Q))) (endN R)) (blkT 1 (seqT (cdB Tryd.prog (cdIn Tryd.f22 [1, 0, 1, 0, 0, 1, 1, 1]) (seqT N Q) (endN R)) (seqT N Q)))) (endN R)) (seqT (cdB Tryd.prog (cdIn Tryd.f22 [1, 0, 1, 0, 0, 1, 1, 0, 0, 1, 1, 1, 1]) (blkT 1 (seqT (cdB Tryd.prog (cdIn Tryd.f22 [1, 0, 1, 0, 0, 1, 1, 1]) (seqT N Q) (endN R)) (seqT N Q))) (endN R)) (blkT 1 (seqT (cdB Tryd.prog (cdIn Tryd.f22 [1, 0, 1, 0, 0, 1, 1, 1]) (seqT N Q) (endN R)) (seqT N Q)))))
def D22_1 (R : Ending → Imm → Own → Prop) (N : Act → Imm → Own → Prop) (Q : Exit → Act → Imm → Own → Prop) (a : Act) (I : Imm) (L : Own) : Prop := cdB Tryd.prog (cdIn Tryd.f22 [1, 0, 1, 0, 0, 1, 1, 0, 0, 1, 1, 1, 0, 0]) (Q22_1 R N Q) (endN R) a I L
def Q22_2 (R : Ending → Imm → Own → Prop) : Exit → Act → Imm → Own → Prop := (endB Tryd.prog Tryd.f22 R)
def J22_2 (R : Ending → Imm → Own → Prop) (a : Act) (I : Imm) (L : Own) : Prop := cdB Tryd.prog (cdIn Tryd.f22 [1, 1]) (Q22_2 R) (endN R) a I L
def Q22_3 (R : Ending → Imm → Own → Prop) (N : Act → Imm → Own → Prop) (Q : Exit → Act → Imm → Own → Prop) : Exit → Act → Imm → Own → Prop := (seqT (cdB Tryd.prog (cdIn Tryd.f22 [1, 0, 1, 0, 0, 1, 1, 0, 0, 1, 1, 1, 1]) (blkT 1 (seqT (cdB Tryd.prog (cdIn Tryd.f22 [1, 0, 1, 0, 0, 1, 1, 1]) (seqT N Q) (endN R)) (seqT N Q))) (endN R)) (blkT 1 (seqT (cdB Tryd.prog (cdIn Tryd.f22 [1, 0, 1, 0, 0, 1, 1, 1]) (seqT N Q) (endN R)) (seqT N Q))))
def J22_3 (R : Ending → Imm → Own → Prop) (N : Act → Imm → Own → Prop) (Q : Exit → Act → Imm → Own → Prop) (a : Act) (I : Imm) (L : Own) : Prop := cdB Tryd.prog (cdIn Tryd.f22 [1, 0, 1, 0, 0, 1, 1, 0, 0, 1, 1, 1, 0, 1]) (Q22_3 R N Q) (endN R) a I L
def Q22_4 (R : Ending → Imm → Own → Prop) (N : Act → Imm → Own → Prop) (Q : Exit → Act → Imm → Own → Prop) : Exit → Act → Imm → Own → Prop := (blkT 1 (seqT (cdB Tryd.prog (cdIn Tryd.f22 [1, 0, 1, 0, 0, 1, 1, 1]) (seqT N Q) (endN R)) (seqT N Q)))
def J22_4 (R : Ending → Imm → Own → Prop) (N : Act → Imm → Own → Prop) (Q : Exit → Act → Imm → Own → Prop) (a : Act) (I : Imm) (L : Own) : Prop := cdB Tryd.prog (cdIn Tryd.f22 [1, 0, 1, 0, 0, 1, 1, 0, 0, 1, 1, 1, 1]) (Q22_4 R N Q) (endN R) a I L
def Q22_5 (R : Ending → Imm → Own → Prop) (N : Act → Imm → Own → Prop) (Q : Exit → Act → Imm → Own → Prop) : Exit → Act → Imm → Own → Prop := (seqT (cdB Tryd.prog (cdIn Tryd.f22 [1, 0, 1, 0, 0, 1, 1, 0, 0, 1, 1, 1, 1, 1]) (Q22_4 R N Q) (endN R)) (Q22_4 R N Q))
def D22_5 (R : Ending → Imm → Own → Prop) (N : Act → Imm → Own → Prop) (Q : Exit → Act → Imm → Own → Prop) (a : Act) (I : Imm) (L : Own) : Prop := cdB Tryd.prog (cdIn Tryd.f22 [1, 0, 1, 0, 0, 1, 1, 0, 0, 1, 1, 1, 1, 0]) (Q22_5 R N Q) (endN R) a I L
def Q22_6 (R : Ending → Imm → Own → Prop) (N : Act → Imm → Own → Prop) (Q : Exit → Act → Imm → Own → Prop) : Exit → Act → Imm → Own → Prop := (Q22_4 R N Q)
def J22_6 (R : Ending → Imm → Own → Prop) (N : Act → Imm → Own → Prop) (Q : Exit → Act → Imm → Own → Prop) (a : Act) (I : Imm) (L : Own) : Prop := cdB Tryd.prog (cdIn Tryd.f22 [1, 0, 1, 0, 0, 1, 1, 0, 0, 1, 1, 1, 1, 1]) (Q22_6 R N Q) (endN R) a I L
def Q22_7 (R : Ending → Imm → Own → Prop) (N : Act → Imm → Own → Prop) (Q : Exit → Act → Imm → Own → Prop) : Exit → Act → Imm → Own → Prop := (seqT (cdB Tryd.prog (cdIn Tryd.f22 [1, 0, 1, 0, 0, 1, 1, 0, 0, 1, 1, 1, 1, 1, 0, 1]) (seqT (cdB Tryd.prog (cdIn Tryd.f22 [1, 0, 1, 0, 0, 1, 1, 0, 0, 1, 1, 1, 1, 1, 1]) (Q22_6 R N Q) (endN R)) (Q22_6 R N Q)) (endN R)) (seqT (cdB Tryd.prog (cdIn Tryd.f22 [1, 0, 1, 0, 0, 1, 1, 0, 0, 1, 1, 1, 1, 1, 1]) (Q22_6 R N Q) (endN R)) (Q22_6 R N Q)))
def D22_7 (R : Ending → Imm → Own → Prop) (N : Act → Imm → Own → Prop) (Q : Exit → Act → Imm → Own → Prop) (a : Act) (I : Imm) (L : Own) : Prop := cdB Tryd.prog (cdIn Tryd.f22 [1, 0, 1, 0, 0, 1, 1, 0, 0, 1, 1, 1, 1, 1, 0, 0]) (Q22_7 R N Q) (endN R) a I L
def Q22_8 (R : Ending → Imm → Own → Prop) (N : Act → Imm → Own → Prop) (Q : Exit → Act → Imm → Own → Prop) : Exit → Act → Imm → Own → Prop := (seqT (cdB Tryd.prog (cdIn Tryd.f22 [1, 0, 1, 0, 0, 1, 1, 0, 0, 1, 1, 1, 1, 1, 1]) (Q22_6 R N Q) (endN R)) (Q22_6 R N Q))
def J22_8 (R : Ending → Imm → Own → Prop) (N : Act → Imm → Own → Prop) (Q : Exit → Act → Imm → Own → Prop) (a : Act) (I : Imm) (L : Own) : Prop := cdB Tryd.prog (cdIn Tryd.f22 [1, 0, 1, 0, 0, 1, 1, 0, 0, 1, 1, 1, 1, 1, 0, 1]) (Q22_8 R N Q) (endN R) a I L
def Q22_9 (R : Ending → Imm → Own → Prop) (N : Act → Imm → Own → Prop) (Q : Exit → Act → Imm → Own → Prop) : Exit → Act → Imm → Own → Prop := (Q22_6 R N Q)
def J22_9 (R : Ending → Imm → Own → Prop) (N : Act → Imm → Own → Prop) (Q : Exit → Act → Imm → Own → Prop) (a : Act) (I : Imm) (L : Own) : Prop := cdB Tryd.prog (cdIn Tryd.f22 [1, 0, 1, 0, 0, 1, 1, 0, 0, 1, 1, 1, 1, 1, 1]) (Q22_9 R N Q) (endN R) a I L
def Q22_10 (R : Ending → Imm → Own → Prop) (N : Act → Imm → Own → Prop) (Q : Exit → Act → Imm → Own → Prop) : Exit → Act → Imm → Own → Prop := (Q22_9 R N Q)
def D22_10 (R : Ending → Imm → Own → Prop) (N : Act → Imm → Own → Prop) (Q : Exit → Act → Imm → Own → Prop) (a : Act) (I : Imm) (L : Own) : Prop := cdB Tryd.prog (cdIn Tryd.f22 [1, 0, 1, 0, 0, 1, 1, 0, 0, 1, 1, 1, 1, 1, 1, 1, 1, 0]) (Q22_10 R N Q) (endN R) a I L
def Q22_11 (R : Ending → Imm → Own → Prop) (N : Act → Imm → Own → Prop) (Q : Exit → Act → Imm → Own → Prop) : Exit → Act → Imm → Own → Prop := (seqT N Q)
def J22_11 (R : Ending → Imm → Own → Prop) (N : Act → Imm → Own → Prop) (Q : Exit → Act → Imm → Own → Prop) (a : Act) (I : Imm) (L : Own) : Prop := cdB Tryd.prog (cdIn Tryd.f22 [1, 0, 1, 0, 0, 1, 1, 1]) (Q22_11 R N Q) (endN R) a I L
/-- loop 22_0: live: 0 1 4 13 14; what changes: 14 -/
def B22_0 (R : Ending → Imm → Own → Prop) (N : Act → Imm → Own → Prop) (Q : Exit → Act → Imm → Own → Prop) (s : Env) (v0 v1 v4 v13 v14 : Value) (I : Imm) (L : Own) : Prop :=
 bin Tryd.prog .lss 3 v14 v13 I L fun x15 I L =>
 cnd x15
 (iad Tryd.prog 45 v1 v14 I L fun x19 I L =>
 nck Tryd.prog x19 I L fun x21 I L =>
 fad Tryd.prog 70 x21 0 I L fun x22 I L =>
 ld Tryd.prog 3 x22 I L fun x23 I L =>
 eqn Tryd.prog .eql 3 false true x23 (.int .i64 4) I L fun x24 I L =>
 cnd x24
 (nck Tryd.prog x19 I L fun x27 I L =>
 fad Tryd.prog 70 x27 8 I L fun x28 I L =>
 ld Tryd.prog 68 x28 I L fun x29 I L =>
 cal Tryd.prog 32 #[v0, x29] I L (xR R) fun x30 I L =>
 nck Tryd.prog x19 I L fun x33 I L =>
 fad Tryd.prog 70 x33 12 I L fun x34 I L =>
 ld Tryd.prog 45 x34 I L fun x35 I L =>
 cal Tryd.prog 22 #[v0, x35] I L (xR R) fun x36 I L =>
 bin Tryd.prog .add 3 v14 (.int .i64 1) I L fun x113 I L =>
N (F22_0 (U (U (U (U (U (U (U (U (U (U (U (U (U (U (U (U (U (U (U (U (U (U (U (U (U s 5 v14) 6 x19) 15 x15) 16 v14) 17 v1) 18 v14) 19 x19) 20 x19) 21 x21) 22 x22) 23 x23) 24 x24) 25 v0) 26 x19) 27 x27) 28 x28) 29 x29) 30 x30) 31 v0) 32 x19) 33 x33) 34 x34) 35 x35) 36 x36) 113 x113) v0 v1 v4 v13 x113) I L)
 (D22_1 R N Q (F22_1 (U (U (U (U (U (U (U (U (U (U (U s 5 v14) 15 x15) 16 v14) 17 v1) 18 v14) 19 x19) 20 x19) 21 x21) 22 x22) 23 x23) 24 x24) v0 v1 v4 x19 v13 v14) I L))
 (Q (.exit 0) (F22_2 (U (U (U s 13 v13) 14 v14) 15 x15) v0 v1 v4) I L)
theorem round22_0 {R : Ending → Imm → Own → Prop} {N : Act → Imm → Own → Prop} {Q : Exit → Act → Imm → Own → Prop} {s : Env} {v0 v1 v4 v13 v14 : Value} {I : Imm} {L : Own} (h : B22_0 R N Q s v0 v1 v4 v13 v14 I L) : cdB Tryd.prog (cdIn Tryd.f22 [1, 0, 1, 0, 0]) (seqT N Q) (endN R) (F22_0 s v0 v1 v4 v13 v14) I L :=
  sh_cutB (fun p => if p = [0, 0, 1, 1, 1, 0, 0, 1, 1] then some (D22_1 R N Q) else none) (O := (D22_1 R N Q = D22_1 R N Q) ∧ True) (by kernel_rfl) ⟨rfl, trivial⟩ (by kernel_rfl) h
theorem loop22_0 {R : Ending → Imm → Own → Prop} {s : Env} {v0 v1 v4 v13 : Value} {u14 : Value} {I : Imm} {L : Own} (Inv : Nat → Value → Imm → Own → Prop) {n : Nat} (h : Inv n u14 I L)
  (round : ∀ (n : Nat) (x14 : Value) (I' : Imm) (L' : Own), I.Le I' → Inv n x14 I' L' → ∀ (N' : Act → Imm → Own → Prop), (∀ (m : Nat) {s : Env} {y14 : Value} {I : Imm} {L : Own}, m < n → Inv m y14 I L → N' (F22_0 s v0 v1 v4 v13 y14) I L) → ∀ (s : Env), B22_0 R N' (Q22_0 R) s v0 v1 v4 v13 x14 I' L') : L22_0 R (F22_0 s v0 v1 v4 v13 u14) I L :=
  loop_genB (by kernel_rfl) (fun n a I L => ∃ (s : Env) (x14 : Value), a = (F22_0 s v0 v1 v4 v13 x14) ∧ Inv n x14 I L) ⟨s, _, rfl, h⟩ fun n a I' L' hle ⟨s, x14, e, hi⟩ => e ▸ round22_0 (round n x14 I' L' hle hi (fun a I L => ∃ m, m < n ∧ (fun n a I L => ∃ (s : Env) (x14 : Value), a = (F22_0 s v0 v1 v4 v13 x14) ∧ Inv n x14 I L) m a I L) (fun m {s y14 I L} hm hi => ⟨m, hm, s, _, rfl, hi⟩) s)
theorem out22_0x0 {R : Ending → Imm → Own → Prop} {s : Env} {v0 v1 v4 : Value} {I : Imm} {L : Own} (h : J22_2 R (F22_2 s v0 v1 v4) I L) : Q22_0 R (.exit 0) (F22_2 s v0 v1 v4) I L :=
  Eq.mpr (by kernel_rfl) h
/-- 22_1: live: 0 1 4 6 13 14 -/
def G22_1 (R : Ending → Imm → Own → Prop) (N : Act → Imm → Own → Prop) (Q : Exit → Act → Imm → Own → Prop) (C : Cls) (s : Env) (v0 v1 v4 v6 v13 v14 : Value) (I : Imm) (L : Own) : Prop :=
 qnck Tryd.prog v0 C fun x38 =>
 qfad Tryd.prog 59 x38 1 C fun x39 =>
 qld Tryd.prog 55 x39 C fun x40 =>
 qnck Tryd.prog v6 C fun x42 =>
 qfad Tryd.prog 70 x42 2 C fun x43 =>
 qld Tryd.prog 9 x43 C fun x44 =>
 qlkp Tryd.prog 55 x40 x44 false C fun x45 =>
 qbin Tryd.prog .gtr 3 x45 (.int .i64 0) C fun x46 =>
J22_3 R N Q (F22_3 (U (U (U (U (U (U (U (U (U s 37 v0) 38 x38) 39 x39) 40 x40) 41 v6) 42 x42) 43 x43) 44 x44) 45 x45) v0 v1 v4 v6 v13 v14 x46) I L
theorem draw22_1 {R : Ending → Imm → Own → Prop} {N : Act → Imm → Own → Prop} {Q : Exit → Act → Imm → Own → Prop} {C : Cls} {s : Env} {v0 v1 v4 v6 v13 v14 : Value} {I : Imm} {L : Own} (hC : C I L) (h : G22_1 R N Q C s v0 v1 v4 v6 v13 v14 I L) : D22_1 R N Q (F22_1 s v0 v1 v4 v6 v13 v14) I L :=
  draw_planB (ops := opsIn Tryd.f22 [1, 0, 1, 0, 0, 1, 1, 0, 0, 1, 1, 1, 0, 0]) (id := 8) (Q := Q22_1 R N Q) (X := (endN R)) endN_put (.take 0 (.take 1 (.take 2 (.take 3 (.take 4 (.take 5 (.take 6 (.take 7 (.take 8 (.take 9 .done)))))))))) [] (by kernel_rfl) rfl (by kernel_rfl) (by kernel_rfl) hC h
/-- 22_2: live: 0 1 4 -/
def T22_2 (R : Ending → Imm → Own → Prop) (s : Env) (v0 v1 v4 : Value) (I : Imm) (L : Own) : Prop :=
 cal Tryd.prog 33 #[v0, v1] I L (xR R) fun _ I L =>
 nck Tryd.prog v0 I L fun x119 I L =>
 fad Tryd.prog 59 x119 2 I L fun x120 I L =>
 ld Tryd.prog 57 x120 I L fun x121 I L =>
 slc Tryd.prog 57 x121 none (some v4) none I L fun x123 I L =>
 nck Tryd.prog v0 I L fun x124 I L =>
 fad Tryd.prog 59 x124 2 I L fun x125 I L =>
 sto Tryd.prog 57 x125 x123 I L fun _ I L =>
R (.returned (.tuple #[])) I L
theorem join22_2 {R : Ending → Imm → Own → Prop} {s : Env} {v0 v1 v4 : Value} {I : Imm} {L : Own} (h : T22_2 R s v0 v1 v4 I L) : J22_2 R (F22_2 s v0 v1 v4) I L :=
  sh_cutB (fun _ => none) (O := True) (by kernel_rfl) trivial (by kernel_rfl) h
/-- 22_3: live: 0 1 4 6 13 14 46 -/
def T22_3 (R : Ending → Imm → Own → Prop) (N : Act → Imm → Own → Prop) (Q : Exit → Act → Imm → Own → Prop) (s : Env) (v0 v1 v4 v6 v13 v14 v46 : Value) (I : Imm) (L : Own) : Prop :=
 cnd v46
 (nck Tryd.prog v6 I L fun x48 I L =>
 fad Tryd.prog 70 x48 1 I L fun x49 I L =>
 ld Tryd.prog 3 x49 I L fun x50 I L =>
 cal Tryd.prog 21 #[(.int .i64 9), x50] I L (xR R) fun x51 I L =>
J22_4 R N Q (F22_4 (U (U (U (U (U (U s 46 v46) 47 v6) 48 x48) 49 x49) 50 x50) 51 x51) v0 v1 v4 v6 v13 v14) I L)
 (J22_4 R N Q (F22_4 (U s 46 v46) v0 v1 v4 v6 v13 v14) I L)
theorem join22_3 {R : Ending → Imm → Own → Prop} {N : Act → Imm → Own → Prop} {Q : Exit → Act → Imm → Own → Prop} {s : Env} {v0 v1 v4 v6 v13 v14 v46 : Value} {I : Imm} {L : Own} (h : T22_3 R N Q s v0 v1 v4 v6 v13 v14 v46 I L) : J22_3 R N Q (F22_3 s v0 v1 v4 v6 v13 v14 v46) I L :=
  sh_cutB (fun _ => none) (O := True) (by kernel_rfl) trivial (by kernel_rfl) h
/-- 22_4: live: 0 1 4 6 13 14 -/
def T22_4 (R : Ending → Imm → Own → Prop) (N : Act → Imm → Own → Prop) (Q : Exit → Act → Imm → Own → Prop) (s : Env) (v0 v1 v4 v6 v13 v14 : Value) (I : Imm) (L : Own) : Prop :=
D22_5 R N Q (F22_5 s v0 v1 v4 v6 v13 v14) I L
theorem join22_4 {R : Ending → Imm → Own → Prop} {N : Act → Imm → Own → Prop} {Q : Exit → Act → Imm → Own → Prop} {s : Env} {v0 v1 v4 v6 v13 v14 : Value} {I : Imm} {L : Own} (h : T22_4 R N Q s v0 v1 v4 v6 v13 v14 I L) : J22_4 R N Q (F22_4 s v0 v1 v4 v6 v13 v14) I L :=
  sh_cutB (fun p => if p = [0] then some (D22_5 R N Q) else none) (O := (D22_5 R N Q = D22_5 R N Q) ∧ True) (by kernel_rfl) ⟨rfl, trivial⟩ (by kernel_rfl) h
/-- 22_5: live: 0 1 4 6 13 14 -/
def G22_5 (R : Ending → Imm → Own → Prop) (N : Act → Imm → Own → Prop) (Q : Exit → Act → Imm → Own → Prop) (C : Cls) (s : Env) (v0 v1 v4 v6 v13 v14 : Value) (I : Imm) (L : Own) : Prop :=
 qnck Tryd.prog v0 C fun x53 =>
 qfad Tryd.prog 59 x53 1 C fun x54 =>
 qld Tryd.prog 55 x54 C fun x55 =>
 qnck Tryd.prog v6 C fun x57 =>
 qfad Tryd.prog 70 x57 2 C fun x58 =>
 qld Tryd.prog 9 x58 C fun x59 =>
 mup Tryd.prog 55 x55 x59 (.int .i64 1) I L fun _ I L =>
J22_6 R N Q (F22_6 (U (U (U (U (U (U (U (U s 52 v0) 53 x53) 54 x54) 55 x55) 56 v6) 57 x57) 58 x58) 59 x59) v0 v1 v4 v6 v13 v14) I L
theorem draw22_5 {R : Ending → Imm → Own → Prop} {N : Act → Imm → Own → Prop} {Q : Exit → Act → Imm → Own → Prop} {C : Cls} {s : Env} {v0 v1 v4 v6 v13 v14 : Value} {I : Imm} {L : Own} (hC : C I L) (h : G22_5 R N Q C s v0 v1 v4 v6 v13 v14 I L) : D22_5 R N Q (F22_5 s v0 v1 v4 v6 v13 v14) I L :=
  draw_planB (ops := opsIn Tryd.f22 [1, 0, 1, 0, 0, 1, 1, 0, 0, 1, 1, 1, 1, 0]) (id := 10) (Q := Q22_5 R N Q) (X := (endN R)) endN_put (.take 0 (.take 1 (.take 2 (.take 3 (.take 4 (.take 5 (.take 6 (.take 7 (.all fun _ => .done))))))))) [8] (by kernel_rfl) rfl (by kernel_rfl) (by kernel_rfl) hC h
/-- 22_6: live: 0 1 4 6 13 14 -/
def T22_6 (R : Ending → Imm → Own → Prop) (N : Act → Imm → Own → Prop) (Q : Exit → Act → Imm → Own → Prop) (s : Env) (v0 v1 v4 v6 v13 v14 : Value) (I : Imm) (L : Own) : Prop :=
D22_7 R N Q (F22_7 s v0 v1 v4 v6 v13 v14) I L
theorem join22_6 {R : Ending → Imm → Own → Prop} {N : Act → Imm → Own → Prop} {Q : Exit → Act → Imm → Own → Prop} {s : Env} {v0 v1 v4 v6 v13 v14 : Value} {I : Imm} {L : Own} (h : T22_6 R N Q s v0 v1 v4 v6 v13 v14 I L) : J22_6 R N Q (F22_6 s v0 v1 v4 v6 v13 v14) I L :=
  sh_cutB (fun p => if p = [0, 0] then some (D22_7 R N Q) else none) (O := (D22_7 R N Q = D22_7 R N Q) ∧ True) (by kernel_rfl) ⟨rfl, trivial⟩ (by kernel_rfl) h
/-- 22_7: live: 0 1 4 6 13 14 -/
def G22_7 (R : Ending → Imm → Own → Prop) (N : Act → Imm → Own → Prop) (Q : Exit → Act → Imm → Own → Prop) (C : Cls) (s : Env) (v0 v1 v4 v6 v13 v14 : Value) (I : Imm) (L : Own) : Prop :=
 qnck Tryd.prog v6 C fun x61 =>
 qfad Tryd.prog 70 x61 0 C fun x62 =>
 qld Tryd.prog 3 x62 C fun x63 =>
 qeqn Tryd.prog .eql 3 false true x63 (.int .i64 3) C fun x64 =>
qgd (yb (some x64) true) (fun k => k v0) fun x66 =>
qgd (yb (some x64) true) (fun k => qnck Tryd.prog x66 C k) fun x67 =>
qgd (yb (some x64) true) (fun k => qfad Tryd.prog 59 x67 0 C k) fun x68 =>
qgd (yb (some x64) true) (fun k => qld Tryd.prog 55 x68 C k) fun x69 =>
qgd (yb (some x64) true) (fun k => k v6) fun x70 =>
qgd (yb (some x64) true) (fun k => qnck Tryd.prog x70 C k) fun x71 =>
qgd (yb (some x64) true) (fun k => qfad Tryd.prog 70 x71 3 C k) fun x72 =>
qgd (yb (some x64) true) (fun k => qld Tryd.prog 9 x72 C k) fun x73 =>
qgd (yb (some x64) true) (fun k => qlkp Tryd.prog 55 x69 x73 false C k) fun x74 =>
qgd (yb (some x64) true) (fun k => qeqn Tryd.prog .eql 3 false true x74 (.int .i64 0) C k) fun x75 =>
qpck x64 x75 (.bool false) fun x76 =>
J22_8 R N Q (F22_8 (U (U (U (U (U (U (U (U (U (U (U (U (U (U (U (U s 60 v6) 61 x61) 62 x62) 63 x63) 64 x64) 65 x64) 66 x66) 67 x67) 68 x68) 69 x69) 70 x70) 71 x71) 72 x72) 73 x73) 74 x74) 75 x75) v0 v1 v4 v6 v13 v14 x76) I L
theorem draw22_7 {R : Ending → Imm → Own → Prop} {N : Act → Imm → Own → Prop} {Q : Exit → Act → Imm → Own → Prop} {C : Cls} {s : Env} {v0 v1 v4 v6 v13 v14 : Value} {I : Imm} {L : Own} (hC : C I L) (h : G22_7 R N Q C s v0 v1 v4 v6 v13 v14 I L) : D22_7 R N Q (F22_7 s v0 v1 v4 v6 v13 v14) I L :=
  draw_planB (ops := opsIn Tryd.f22 [1, 0, 1, 0, 0, 1, 1, 0, 0, 1, 1, 1, 1, 1, 0, 0]) (id := 11) (Q := Q22_7 R N Q) (X := (endN R)) endN_put (.take 0 (.take 1 (.take 2 (.take 3 (.take 4 (.take 5 (.take 6 (.take 7 (.take 8 (.take 9 (.take 10 (.take 11 (.take 12 (.take 13 (.take 14 (.take 15 (.take 16 .done))))))))))))))))) [] (by kernel_rfl) rfl (by kernel_rfl) (by kernel_rfl) hC h
/-- 22_8: live: 0 1 4 6 13 14 76 -/
def T22_8 (R : Ending → Imm → Own → Prop) (N : Act → Imm → Own → Prop) (Q : Exit → Act → Imm → Own → Prop) (s : Env) (v0 v1 v4 v6 v13 v14 v76 : Value) (I : Imm) (L : Own) : Prop :=
 cnd v76
 (nck Tryd.prog v6 I L fun x78 I L =>
 fad Tryd.prog 70 x78 1 I L fun x79 I L =>
 ld Tryd.prog 3 x79 I L fun x80 I L =>
 cal Tryd.prog 21 #[(.int .i64 7), x80] I L (xR R) fun x81 I L =>
J22_9 R N Q (F22_9 (U (U (U (U (U (U s 76 v76) 77 v6) 78 x78) 79 x79) 80 x80) 81 x81) v0 v1 v4 v6 v13 v14) I L)
 (J22_9 R N Q (F22_9 (U s 76 v76) v0 v1 v4 v6 v13 v14) I L)
theorem join22_8 {R : Ending → Imm → Own → Prop} {N : Act → Imm → Own → Prop} {Q : Exit → Act → Imm → Own → Prop} {s : Env} {v0 v1 v4 v6 v13 v14 v76 : Value} {I : Imm} {L : Own} (h : T22_8 R N Q s v0 v1 v4 v6 v13 v14 v76 I L) : J22_8 R N Q (F22_8 s v0 v1 v4 v6 v13 v14 v76) I L :=
  sh_cutB (fun _ => none) (O := True) (by kernel_rfl) trivial (by kernel_rfl) h
/-- 22_9: live: 0 1 4 6 13 14 -/
def T22_9 (R : Ending → Imm → Own → Prop) (N : Act → Imm → Own → Prop) (Q : Exit → Act → Imm → Own → Prop) (s : Env) (v0 v1 v4 v6 v13 v14 : Value) (I : Imm) (L : Own) : Prop :=
 nck Tryd.prog v6 I L fun x84 I L =>
 fad Tryd.prog 70 x84 8 I L fun x85 I L =>
 ld Tryd.prog 68 x85 I L fun x86 I L =>
 cal Tryd.prog 32 #[v0, x86] I L (xR R) fun x87 I L =>
 nck Tryd.prog v6 I L fun x89 I L =>
 fad Tryd.prog 70 x89 0 I L fun x90 I L =>
 ld Tryd.prog 3 x90 I L fun x91 I L =>
 eqn Tryd.prog .eql 3 false true x91 (.int .i64 1) I L fun x92 I L =>
 gd (yb (some x92) true) (fun k => k v6 I L) (fun x94 I L =>
 gd (yb (some x92) true) (fun k => nck Tryd.prog x94 I L k) (fun x95 I L =>
 gd (yb (some x92) true) (fun k => fad Tryd.prog 70 x95 7 I L k) (fun x96 I L =>
 gd (yb (some x92) true) (fun k => ld Tryd.prog 4 x96 I L k) (fun x97 I L =>
 gd (yb (some x92) true) (fun k => un Tryd.prog .not x97 I L k) (fun x98 I L =>
pck x92 x98 (.bool false) I L fun x99 I L =>
 cnd x99
 (D22_10 R N Q (F22_10 (U (U (U (U (U (U (U (U (U (U (U (U (U (U (U (U (U (U s 82 v0) 83 v6) 84 x84) 85 x85) 86 x86) 87 x87) 88 v6) 89 x89) 90 x90) 91 x91) 92 x92) 93 x92) 94 x94) 95 x95) 96 x96) 97 x97) 98 x98) 99 x99) v0 v1 v4 v6 v13 v14) I L)
 (J22_11 R N Q (F22_11 (U (U (U (U (U (U (U (U (U (U (U (U (U (U (U (U (U (U (U s 6 v6) 82 v0) 83 v6) 84 x84) 85 x85) 86 x86) 87 x87) 88 v6) 89 x89) 90 x90) 91 x91) 92 x92) 93 x92) 94 x94) 95 x95) 96 x96) 97 x97) 98 x98) 99 x99) v0 v1 v4 v13 v14) I L)) I L) I L) I L) I L) I L
theorem join22_9 {R : Ending → Imm → Own → Prop} {N : Act → Imm → Own → Prop} {Q : Exit → Act → Imm → Own → Prop} {s : Env} {v0 v1 v4 v6 v13 v14 : Value} {I : Imm} {L : Own} (h : T22_9 R N Q s v0 v1 v4 v6 v13 v14 I L) : J22_9 R N Q (F22_9 s v0 v1 v4 v6 v13 v14) I L :=
  sh_cutB (fun p => if p = [0, 1, 1] then some (D22_10 R N Q) else none) (O := (D22_10 R N Q = D22_10 R N Q) ∧ True) (by kernel_rfl) ⟨rfl, trivial⟩ (by kernel_rfl) h
/-- 22_10: live: 0 1 4 6 13 14 -/
def G22_10 (R : Ending → Imm → Own → Prop) (N : Act → Imm → Own → Prop) (Q : Exit → Act → Imm → Own → Prop) (C : Cls) (s : Env) (v0 v1 v4 v6 v13 v14 : Value) (I : Imm) (L : Own) : Prop :=
 qnck Tryd.prog v0 C fun x102 =>
 qfad Tryd.prog 59 x102 2 C fun x103 =>
 qnck Tryd.prog v6 C fun x106 =>
 qfad Tryd.prog 70 x106 2 C fun x107 =>
 qld Tryd.prog 9 x107 C fun x108 =>
 (ld Tryd.prog 57 x103 I L fun x104 I L =>
 (C I L ∧
 bsl Tryd.prog 57 1 #[(0, x108)] I L fun x109 I L =>
 (C I L ∧
 blt Tryd.prog .append #[57, 57] 57 #[x104, x109] I L fun x110 I L =>
 (C I L ∧
 qnck Tryd.prog v0 C fun x111 =>
 qfad Tryd.prog 59 x111 2 C fun x112 =>
 sto Tryd.prog 57 x112 x110 I L fun _ I L =>
 (C I L ∧
J22_11 R N Q (F22_11 (U (U (U (U (U (U (U (U (U (U (U (U (U (U s 6 v6) 100 v0) 101 v0) 102 x102) 103 x103) 104 x104) 105 v6) 106 x106) 107 x107) 108 x108) 109 x109) 110 x110) 111 x111) 112 x112) v0 v1 v4 v13 v14) I L))))) ∧ (bsl Tryd.prog 57 1 #[(0, x108)] I L fun x109 I L =>
 (C I L ∧
 ld Tryd.prog 57 x103 I L fun x104 I L =>
 (C I L ∧
 blt Tryd.prog .append #[57, 57] 57 #[x104, x109] I L fun x110 I L =>
 (C I L ∧
 qnck Tryd.prog v0 C fun x111 =>
 qfad Tryd.prog 59 x111 2 C fun x112 =>
 sto Tryd.prog 57 x112 x110 I L fun _ I L =>
 (C I L ∧
J22_11 R N Q (F22_11 (U (U (U (U (U (U (U (U (U (U (U (U (U (U s 6 v6) 100 v0) 101 v0) 102 x102) 103 x103) 104 x104) 105 v6) 106 x106) 107 x107) 108 x108) 109 x109) 110 x110) 111 x111) 112 x112) v0 v1 v4 v13 v14) I L)))))
theorem draw22_10 {R : Ending → Imm → Own → Prop} {N : Act → Imm → Own → Prop} {Q : Exit → Act → Imm → Own → Prop} {C : Cls} {s : Env} {v0 v1 v4 v6 v13 v14 : Value} {I : Imm} {L : Own} (hC : C I L) (h : G22_10 R N Q C s v0 v1 v4 v6 v13 v14 I L) : D22_10 R N Q (F22_10 s v0 v1 v4 v6 v13 v14) I L :=
  draw_planB (ops := opsIn Tryd.f22 [1, 0, 1, 0, 0, 1, 1, 0, 0, 1, 1, 1, 1, 1, 1, 1, 1, 0]) (id := 15) (Q := Q22_10 R N Q) (X := (endN R)) endN_put (.take 0 (.take 1 (.take 2 (.take 3 (.take 5 (.take 6 (.take 7 (.take 8 (.all fun i => if i = 4 then (.all fun _ => (.all fun _ => (.take 11 (.take 12 (.all fun _ => .done))))) else (.all fun _ => (.all fun _ => (.take 11 (.take 12 (.all fun _ => .done)))))))))))))) [] (by kernel_rfl) rfl (by kernel_rfl) (by kernel_rfl) hC h
/-- 22_11: live: 0 1 4 13 14 -/
def T22_11 (R : Ending → Imm → Own → Prop) (N : Act → Imm → Own → Prop) (Q : Exit → Act → Imm → Own → Prop) (s : Env) (v0 v1 v4 v13 v14 : Value) (I : Imm) (L : Own) : Prop :=
 bin Tryd.prog .add 3 v14 (.int .i64 1) I L fun x113 I L =>
N (F22_0 (U s 113 x113) v0 v1 v4 v13 x113) I L
theorem join22_11 {R : Ending → Imm → Own → Prop} {N : Act → Imm → Own → Prop} {Q : Exit → Act → Imm → Own → Prop} {s : Env} {v0 v1 v4 v13 v14 : Value} {I : Imm} {L : Own} (h : T22_11 R N Q s v0 v1 v4 v13 v14 I L) : J22_11 R N Q (F22_11 s v0 v1 v4 v13 v14) I L :=
  sh_cutB (fun _ => none) (O := True) (by kernel_rfl) trivial (by kernel_rfl) h
/-- 22: (*escritoire/types.checker).items -/
def M22 (R : Ending → Imm → Own → Prop) (x0 x1 : Value) (I : Imm) (L : Own) : Prop :=
 nck Tryd.prog x0 I L fun x8 I L =>
 fad Tryd.prog 59 x8 2 I L fun x9 I L =>
 ld Tryd.prog 57 x9 I L fun x10 I L =>
 blt Tryd.prog .len #[57] 3 #[x10] I L fun x11 I L =>
 blt Tryd.prog .len #[45] 3 #[x1] I L fun x13 I L =>
L22_0 R (F22_0 (U (U (U (U (U (U eU 7 x0) 8 x8) 9 x9) 10 x10) 11 x11) 12 x1) x0 x1 x11 x13 (.int .i64 0)) I L
theorem go22 {R : Ending → Imm → Own → Prop} {x0 x1 : Value} {I : Imm} {L : Own} (h : M22 R x0 x1 I L) : wpC Tryd.prog 22 #[x0, x1] I L R :=
  wpC_goX (endN_le _ _ R) (fun p => if p = [0, 1, 0, 1] then some (L22_0 R) else none) Tryd.func22 (by kernel_rfl) (O := (L22_0 R = L22_0 R) ∧ True) (by kernel_rfl) ⟨rfl, trivial⟩ (by kernel_rfl) h

def F32_r (s : Env) : Act := fr 29 s []
def F32_0 (s : Env) (v0 v7 v8 v9 : Value) : Act := fr 29 (U (U (U (U s 0 v0) 7 v7) 8 v8) 9 v9) []
def F32_1 (s : Env) (v0 v5 v7 v8 v9 : Value) : Act := fr 29 (U (U (U (U (U s 0 v0) 5 v5) 7 v7) 8 v8) 9 v9) []
def F32_2 (s : Env) (v0 v5 v7 v8 v9 v22 : Value) : Act := fr 29 (U (U (U (U (U (U s 0 v0) 5 v5) 7 v7) 8 v8) 9 v9) 22 v22) []
def F32_3 (s : Env) (v0 v7 v8 v9 : Value) : Act := fr 29 (U (U (U (U s 0 v0) 7 v7) 8 v8) 9 v9) []
def Q32_0 (R : Ending → Imm → Own → Prop) : Exit → Act → Imm → Own → Prop := (blkT 0 (endB Tryd.prog Tryd.f32 R))
def L32_0 (R : Ending → Imm → Own → Prop) (a : Act) (I : Imm) (L : Own) : Prop := cdB Tryd.prog (cdIn Tryd.f32 [1, 0]) (Q32_0 R) (endN R) a I L
def Q32_1 (R : Ending → Imm → Own → Prop) (N : Act → Imm → Own → Prop) (Q : Exit → Act → Imm → Own → Prop) : Exit → Act → Imm → Own → Prop := (seqT (cdB Tryd.prog (cdIn Tryd.f32 [1, 0, 0, 1, 1, 0, 0, 1, 1]) (blkT 1 (seqT (cdB Tryd.prog (cdIn Tryd.f32 [1, 0, 0, 1, 1, 1]) (seqT N Q) (endN R)) (seqT N Q))) (endN R)) (blkT 1 (seqT (cdB Tryd.prog (cdIn Tryd.f32 [1, 0, 0, 1, 1, 1]) (seqT N Q) (endN R)) (seqT N Q))))
def D32_1 (R : Ending → Imm → Own → Prop) (N : Act → Imm → Own → Prop) (Q : Exit → Act → Imm → Own → Prop) (a : Act) (I : Imm) (L : Own) : Prop := cdB Tryd.prog (cdIn Tryd.f32 [1, 0, 0, 1, 1, 0, 0, 1, 0]) (Q32_1 R N Q) (endN R) a I L
def Q32_2 (R : Ending → Imm → Own → Prop) (N : Act → Imm → Own → Prop) (Q : Exit → Act → Imm → Own → Prop) : Exit → Act → Imm → Own → Prop := (blkT 1 (seqT (cdB Tryd.prog (cdIn Tryd.f32 [1, 0, 0, 1, 1, 1]) (seqT N Q) (endN R)) (seqT N Q)))
def J32_2 (R : Ending → Imm → Own → Prop) (N : Act → Imm → Own → Prop) (Q : Exit → Act → Imm → Own → Prop) (a : Act) (I : Imm) (L : Own) : Prop := cdB Tryd.prog (cdIn Tryd.f32 [1, 0, 0, 1, 1, 0, 0, 1, 1]) (Q32_2 R N Q) (endN R) a I L
def Q32_3 (R : Ending → Imm → Own → Prop) (N : Act → Imm → Own → Prop) (Q : Exit → Act → Imm → Own → Prop) : Exit → Act → Imm → Own → Prop := (seqT N Q)
def J32_3 (R : Ending → Imm → Own → Prop) (N : Act → Imm → Own → Prop) (Q : Exit → Act → Imm → Own → Prop) (a : Act) (I : Imm) (L : Own) : Prop := cdB Tryd.prog (cdIn Tryd.f32 [1, 0, 0, 1, 1, 1]) (Q32_3 R N Q) (endN R) a I L
/-- loop 32_0: live: 0 7 8 9; what changes: 9 -/
def B32_0 (R : Ending → Imm → Own → Prop) (N : Act → Imm → Own → Prop) (Q : Exit → Act → Imm → Own → Prop) (s : Env) (v0 v7 v8 v9 : Value) (I : Imm) (L : Own) : Prop :=
 bin Tryd.prog .lss 3 v9 v8 I L fun x10 I L =>
 cnd x10
 (iad Tryd.prog 82 v7 v9 I L fun x11 I L =>
 ld Tryd.prog 68 x11 I L fun x12 I L =>
D32_1 R N Q (F32_1 (U (U (U s 10 x10) 11 x11) 12 x12) v0 x12 v7 v8 v9) I L)
 (Q (.exit 0) (F32_r (U (U (U (U (U s 0 v0) 7 v7) 8 v8) 9 v9) 10 x10)) I L)
theorem round32_0 {R : Ending → Imm → Own → Prop} {N : Act → Imm → Own → Prop} {Q : Exit → Act → Imm → Own → Prop} {s : Env} {v0 v7 v8 v9 : Value} {I : Imm} {L : Own} (h : B32_0 R N Q s v0 v7 v8 v9 I L) : cdB Tryd.prog (cdIn Tryd.f32 [1, 0, 0]) (seqT N Q) (endN R) (F32_0 s v0 v7 v8 v9) I L :=
  sh_cutB (fun p => if p = [0, 1, 0, 0, 1, 1] then some (D32_1 R N Q) else none) (O := (D32_1 R N Q = D32_1 R N Q) ∧ True) (by kernel_rfl) ⟨rfl, trivial⟩ (by kernel_rfl) h
theorem loop32_0 {R : Ending → Imm → Own → Prop} {s : Env} {v0 v7 v8 : Value} {u9 : Value} {I : Imm} {L : Own} (Inv : Nat → Value → Imm → Own → Prop) {n : Nat} (h : Inv n u9 I L)
  (round : ∀ (n : Nat) (x9 : Value) (I' : Imm) (L' : Own), I.Le I' → Inv n x9 I' L' → ∀ (N' : Act → Imm → Own → Prop), (∀ (m : Nat) {s : Env} {y9 : Value} {I : Imm} {L : Own}, m < n → Inv m y9 I L → N' (F32_0 s v0 v7 v8 y9) I L) → ∀ (s : Env), B32_0 R N' (Q32_0 R) s v0 v7 v8 x9 I' L') : L32_0 R (F32_0 s v0 v7 v8 u9) I L :=
  loop_genB (by kernel_rfl) (fun n a I L => ∃ (s : Env) (x9 : Value), a = (F32_0 s v0 v7 v8 x9) ∧ Inv n x9 I L) ⟨s, _, rfl, h⟩ fun n a I' L' hle ⟨s, x9, e, hi⟩ => e ▸ round32_0 (round n x9 I' L' hle hi (fun a I L => ∃ m, m < n ∧ (fun n a I L => ∃ (s : Env) (x9 : Value), a = (F32_0 s v0 v7 v8 x9) ∧ Inv n x9 I L) m a I L) (fun m {s y9 I L} hm hi => ⟨m, hm, s, _, rfl, hi⟩) s)
theorem out32_0x0 {R : Ending → Imm → Own → Prop} {s : Env} {I : Imm} {L : Own} (h : R (.returned (.tuple #[])) I L) : Q32_0 R (.exit 0) (F32_r s) I L :=
  Eq.mpr (by kernel_rfl) h
/-- 32_1: live: 0 5 7 8 9 -/
def G32_1 (R : Ending → Imm → Own → Prop) (N : Act → Imm → Own → Prop) (Q : Exit → Act → Imm → Own → Prop) (C : Cls) (s : Env) (v0 v5 v7 v8 v9 : Value) (I : Imm) (L : Own) : Prop :=
 qnck Tryd.prog v0 C fun x14 =>
 qfad Tryd.prog 59 x14 2 C fun x15 =>
 qld Tryd.prog 57 x15 C fun x16 =>
 qnck Tryd.prog v5 C fun x18 =>
 qfad Tryd.prog 85 x18 3 C fun x19 =>
 qld Tryd.prog 9 x19 C fun x20 =>
 qcal Tryd.prog 49 #[x16, x20] C fun x21 =>
 qun Tryd.prog .not x21 C fun x22 =>
J32_2 R N Q (F32_2 (U (U (U (U (U (U (U (U (U s 13 v0) 14 x14) 15 x15) 16 x16) 17 v5) 18 x18) 19 x19) 20 x20) 21 x21) v0 v5 v7 v8 v9 x22) I L
theorem draw32_1 {R : Ending → Imm → Own → Prop} {N : Act → Imm → Own → Prop} {Q : Exit → Act → Imm → Own → Prop} {C : Cls} {s : Env} {v0 v5 v7 v8 v9 : Value} {I : Imm} {L : Own} (hC : C I L) (h : G32_1 R N Q C s v0 v5 v7 v8 v9 I L) : D32_1 R N Q (F32_1 s v0 v5 v7 v8 v9) I L :=
  draw_planB (ops := opsIn Tryd.f32 [1, 0, 0, 1, 1, 0, 0, 1, 0]) (id := 3) (Q := Q32_1 R N Q) (X := (endN R)) endN_put (.take 0 (.take 1 (.take 2 (.take 3 (.take 4 (.take 5 (.take 6 (.take 7 (.take 8 (.take 9 .done)))))))))) [] (by kernel_rfl) rfl (by kernel_rfl) (by kernel_rfl) hC h
/-- 32_2: live: 0 5 7 8 9 22 -/
def T32_2 (R : Ending → Imm → Own → Prop) (N : Act → Imm → Own → Prop) (Q : Exit → Act → Imm → Own → Prop) (s : Env) (v0 v5 v7 v8 v9 v22 : Value) (I : Imm) (L : Own) : Prop :=
 cnd v22
 (nck Tryd.prog v5 I L fun x24 I L =>
 fad Tryd.prog 85 x24 1 I L fun x25 I L =>
 ld Tryd.prog 3 x25 I L fun x26 I L =>
 cal Tryd.prog 21 #[(.int .i64 5), x26] I L (xR R) fun x27 I L =>
J32_3 R N Q (F32_3 (U (U (U (U (U (U (U s 5 v5) 22 v22) 23 v5) 24 x24) 25 x25) 26 x26) 27 x27) v0 v7 v8 v9) I L)
 (J32_3 R N Q (F32_3 (U (U s 5 v5) 22 v22) v0 v7 v8 v9) I L)
theorem join32_2 {R : Ending → Imm → Own → Prop} {N : Act → Imm → Own → Prop} {Q : Exit → Act → Imm → Own → Prop} {s : Env} {v0 v5 v7 v8 v9 v22 : Value} {I : Imm} {L : Own} (h : T32_2 R N Q s v0 v5 v7 v8 v9 v22 I L) : J32_2 R N Q (F32_2 s v0 v5 v7 v8 v9 v22) I L :=
  sh_cutB (fun _ => none) (O := True) (by kernel_rfl) trivial (by kernel_rfl) h
/-- 32_3: live: 0 7 8 9 -/
def T32_3 (R : Ending → Imm → Own → Prop) (N : Act → Imm → Own → Prop) (Q : Exit → Act → Imm → Own → Prop) (s : Env) (v0 v7 v8 v9 : Value) (I : Imm) (L : Own) : Prop :=
 bin Tryd.prog .add 3 v9 (.int .i64 1) I L fun x28 I L =>
N (F32_0 (U s 28 x28) v0 v7 v8 x28) I L
theorem join32_3 {R : Ending → Imm → Own → Prop} {N : Act → Imm → Own → Prop} {Q : Exit → Act → Imm → Own → Prop} {s : Env} {v0 v7 v8 v9 : Value} {I : Imm} {L : Own} (h : T32_3 R N Q s v0 v7 v8 v9 I L) : J32_3 R N Q (F32_3 s v0 v7 v8 v9) I L :=
  sh_cutB (fun _ => none) (O := True) (by kernel_rfl) trivial (by kernel_rfl) h
/-- 32: (*escritoire/types.checker).asks -/
def M32 (R : Ending → Imm → Own → Prop) (x0 x1 : Value) (I : Imm) (L : Own) : Prop :=
 cal Tryd.prog 48 #[x1] I L (xR R) fun x7 I L =>
 blt Tryd.prog .len #[82] 3 #[x7] I L fun x8 I L =>
L32_0 R (F32_0 (U (U eU 1 x1) 6 x1) x0 x7 x8 (.int .i64 0)) I L
theorem go32 {R : Ending → Imm → Own → Prop} {x0 x1 : Value} {I : Imm} {L : Own} (h : M32 R x0 x1 I L) : wpC Tryd.prog 32 #[x0, x1] I L R :=
  wpC_goX (endN_le _ _ R) (fun p => if p = [0, 1] then some (L32_0 R) else none) Tryd.func32 (by kernel_rfl) (O := (L32_0 R = L32_0 R) ∧ True) (by kernel_rfl) ⟨rfl, trivial⟩ (by kernel_rfl) h

def F33_r (s : Env) : Act := fr 139 s []
def F33_0 (s : Env) (v1 v10 v11 : Value) : Act := fr 139 (U (U (U s 1 v1) 10 v10) 11 v11) []
def F33_1 (s : Env) (v1 v4 v5 v6 v7 v10 v11 : Value) : Act := fr 139 (U (U (U (U (U (U (U s 1 v1) 4 v4) 5 v5) 6 v6) 7 v7) 10 v10) 11 v11) []
def F33_2 (s : Env) (v1 : Value) : Act := fr 139 (U s 1 v1) []
def F33_3 (s : Env) (v1 v10 v11 : Value) : Act := fr 139 (U (U (U s 1 v1) 10 v10) 11 v11) []
def F33_4 (s : Env) (v1 v4 v5 v6 v7 v10 v11 v52 : Value) : Act := fr 139 (U (U (U (U (U (U (U (U s 1 v1) 4 v4) 5 v5) 6 v6) 7 v7) 10 v10) 11 v11) 52 v52) []
def F33_5 (s : Env) (v1 v114 v115 : Value) : Act := fr 139 (U (U (U s 1 v1) 114 v114) 115 v115) []
def Q33_0 (R : Ending → Imm → Own → Prop) : Exit → Act → Imm → Own → Prop := (blkT 0 (seqT (cdB Tryd.prog (cdIn Tryd.f33 [1]) (endB Tryd.prog Tryd.f33 R) (endN R)) (endB Tryd.prog Tryd.f33 R)))
def L33_0 (R : Ending → Imm → Own → Prop) (a : Act) (I : Imm) (L : Own) : Prop := cdB Tryd.prog (cdIn Tryd.f33 [0, 1, 0]) (Q33_0 R) (endN R) a I L
def Q33_1 (R : Ending → Imm → Own → Prop) (N : Act → Imm → Own → Prop) (Q : Exit → Act → Imm → Own → Prop) : Exit → Act → Imm → Own → Prop := (blkT 1 (seqT (cdB Tryd.prog (cdIn Tryd.f33 [0, 1, 0, 0, 1, 1, 1]) (seqT N Q) (endN R)) (seqT N Q)))
def J33_1 (R : Ending → Imm → Own → Prop) (N : Act → Imm → Own → Prop) (Q : Exit → Act → Imm → Own → Prop) (a : Act) (I : Imm) (L : Own) : Prop := cdB Tryd.prog (cdIn Tryd.f33 [0, 1, 0, 0, 1, 1, 0, 0, 1, 1, 1, 1, 1, 1]) (Q33_1 R N Q) (endN R) a I L
def Q33_2 (R : Ending → Imm → Own → Prop) : Exit → Act → Imm → Own → Prop := (endB Tryd.prog Tryd.f33 R)
def J33_2 (R : Ending → Imm → Own → Prop) (a : Act) (I : Imm) (L : Own) : Prop := cdB Tryd.prog (cdIn Tryd.f33 [1]) (Q33_2 R) (endN R) a I L
def Q33_3 (R : Ending → Imm → Own → Prop) (N : Act → Imm → Own → Prop) (Q : Exit → Act → Imm → Own → Prop) : Exit → Act → Imm → Own → Prop := (seqT N Q)
def J33_3 (R : Ending → Imm → Own → Prop) (N : Act → Imm → Own → Prop) (Q : Exit → Act → Imm → Own → Prop) (a : Act) (I : Imm) (L : Own) : Prop := cdB Tryd.prog (cdIn Tryd.f33 [0, 1, 0, 0, 1, 1, 1]) (Q33_3 R N Q) (endN R) a I L
def Q33_4 (R : Ending → Imm → Own → Prop) (N : Act → Imm → Own → Prop) (Q : Exit → Act → Imm → Own → Prop) : Exit → Act → Imm → Own → Prop := (blkT 2 (Q33_1 R N Q))
def J33_4 (R : Ending → Imm → Own → Prop) (N : Act → Imm → Own → Prop) (Q : Exit → Act → Imm → Own → Prop) (a : Act) (I : Imm) (L : Own) : Prop := cdB Tryd.prog (cdIn Tryd.f33 [0, 1, 0, 0, 1, 1, 0, 0, 1, 1, 1, 1, 1, 1, 0, 1, 1, 1]) (Q33_4 R N Q) (endN R) a I L
def Q33_5 (R : Ending → Imm → Own → Prop) : Exit → Act → Imm → Own → Prop := (blkT 3 (Q33_2 R))
def L33_5 (R : Ending → Imm → Own → Prop) (a : Act) (I : Imm) (L : Own) : Prop := cdB Tryd.prog (cdIn Tryd.f33 [1, 1, 0]) (Q33_5 R) (endN R) a I L
/-- loop 33_0: live: 1 10 11; what changes: 11 -/
def B33_0 (R : Ending → Imm → Own → Prop) (N : Act → Imm → Own → Prop) (Q : Exit → Act → Imm → Own → Prop) (s : Env) (v1 v10 v11 : Value) (I : Imm) (L : Own) : Prop :=
 bin Tryd.prog .lss 3 v11 v10 I L fun x12 I L =>
 cnd x12
 (iad Tryd.prog 45 v1 v11 I L fun x16 I L =>
 nck Tryd.prog x16 I L fun x18 I L =>
 fad Tryd.prog 70 x18 9 I L fun x19 I L =>
 ld Tryd.prog 3 x19 I L fun x20 I L =>
 eqn Tryd.prog .eql 3 false true x20 (.int .i64 0) I L fun x21 I L =>
 cnd x21
 (bin Tryd.prog .add 3 v11 (.int .i64 1) I L fun x112 I L =>
N (F33_0 (U (U (U (U (U (U (U (U (U (U (U (U (U s 4 v11) 5 x16) 12 x12) 13 v11) 14 v1) 15 v11) 16 x16) 17 x16) 18 x18) 19 x19) 20 x20) 21 x21) 112 x112) v1 v10 x112) I L)
 (nck Tryd.prog x16 I L fun x24 I L =>
 fad Tryd.prog 70 x24 10 I L fun x25 I L =>
 ld Tryd.prog 9 x25 I L fun x26 I L =>
 cal Tryd.prog 50 #[v1, x26] I L (xR R) fun x27 I L =>
 nck Tryd.prog x16 I L fun x30 I L =>
 fad Tryd.prog 70 x30 9 I L fun x31 I L =>
 ld Tryd.prog 3 x31 I L fun x32 I L =>
 eqn Tryd.prog .eql 3 false true x32 (.int .i64 3) I L fun x33 I L =>
 cnd x33
 (nck Tryd.prog x16 I L fun x36 I L =>
 fad Tryd.prog 70 x36 11 I L fun x37 I L =>
 ld Tryd.prog 9 x37 I L fun x38 I L =>
 cal Tryd.prog 50 #[v1, x38] I L (xR R) fun x39 I L =>
J33_1 R N Q (F33_1 (U (U (U (U (U (U (U (U (U (U (U (U (U (U (U (U (U (U (U (U (U (U (U (U (U (U (U (U s 12 x12) 13 v11) 14 v1) 15 v11) 16 x16) 17 x16) 18 x18) 19 x19) 20 x20) 21 x21) 22 v1) 23 x16) 24 x24) 25 x25) 26 x26) 27 x27) 28 x27) 29 x16) 30 x30) 31 x31) 32 x32) 33 x33) 34 v1) 35 x16) 36 x36) 37 x37) 38 x38) 39 x39) v1 v11 x16 x27 x39 v10 v11) I L)
 (J33_1 R N Q (F33_1 (U (U (U (U (U (U (U (U (U (U (U (U (U (U (U (U (U (U (U (U (U (U s 12 x12) 13 v11) 14 v1) 15 v11) 16 x16) 17 x16) 18 x18) 19 x19) 20 x20) 21 x21) 22 v1) 23 x16) 24 x24) 25 x25) 26 x26) 27 x27) 28 x27) 29 x16) 30 x30) 31 x31) 32 x32) 33 x33) v1 v11 x16 x27 x27 v10 v11) I L)))
 (Q (.exit 0) (F33_2 (U (U (U s 10 v10) 11 v11) 12 x12) v1) I L)
theorem round33_0 {R : Ending → Imm → Own → Prop} {N : Act → Imm → Own → Prop} {Q : Exit → Act → Imm → Own → Prop} {s : Env} {v1 v10 v11 : Value} {I : Imm} {L : Own} (h : B33_0 R N Q s v1 v10 v11 I L) : cdB Tryd.prog (cdIn Tryd.f33 [0, 1, 0, 0]) (seqT N Q) (endN R) (F33_0 s v1 v10 v11) I L :=
  sh_cutB (fun p => if p = [1, 1, 1, 1, 1, 1, 0, 0, 1, 1] then some (J33_1 R N Q) else none) (O := (J33_1 R N Q = J33_1 R N Q) ∧ True) (by kernel_rfl) ⟨rfl, trivial⟩ (by kernel_rfl) h
theorem loop33_0 {R : Ending → Imm → Own → Prop} {s : Env} {v1 v10 : Value} {u11 : Value} {I : Imm} {L : Own} (Inv : Nat → Value → Imm → Own → Prop) {n : Nat} (h : Inv n u11 I L)
  (round : ∀ (n : Nat) (x11 : Value) (I' : Imm) (L' : Own), I.Le I' → Inv n x11 I' L' → ∀ (N' : Act → Imm → Own → Prop), (∀ (m : Nat) {s : Env} {y11 : Value} {I : Imm} {L : Own}, m < n → Inv m y11 I L → N' (F33_0 s v1 v10 y11) I L) → ∀ (s : Env), B33_0 R N' (Q33_0 R) s v1 v10 x11 I' L') : L33_0 R (F33_0 s v1 v10 u11) I L :=
  loop_genB (by kernel_rfl) (fun n a I L => ∃ (s : Env) (x11 : Value), a = (F33_0 s v1 v10 x11) ∧ Inv n x11 I L) ⟨s, _, rfl, h⟩ fun n a I' L' hle ⟨s, x11, e, hi⟩ => e ▸ round33_0 (round n x11 I' L' hle hi (fun a I L => ∃ m, m < n ∧ (fun n a I L => ∃ (s : Env) (x11 : Value), a = (F33_0 s v1 v10 x11) ∧ Inv n x11 I L) m a I L) (fun m {s y11 I L} hm hi => ⟨m, hm, s, _, rfl, hi⟩) s)
theorem out33_0x0 {R : Ending → Imm → Own → Prop} {s : Env} {v1 : Value} {I : Imm} {L : Own} (h : J33_2 R (F33_2 s v1) I L) : Q33_0 R (.exit 0) (F33_2 s v1) I L :=
  Eq.mpr (by kernel_rfl) h
/-- 33_1: live: 1 4 5 6 7 10 11 -/
def T33_1 (R : Ending → Imm → Own → Prop) (N : Act → Imm → Own → Prop) (Q : Exit → Act → Imm → Own → Prop) (s : Env) (v1 v4 v5 v6 v7 v10 v11 : Value) (I : Imm) (L : Own) : Prop :=
 bin Tryd.prog .lss 3 v6 (.int .i64 0) I L fun x42 I L =>
 gd (yb (some x42) false) (fun k => k v7 I L) (fun x44 I L =>
 gd (yb (some x42) false) (fun k => bin Tryd.prog .lss 3 x44 (.int .i64 0) I L k) (fun x45 I L =>
pck x42 (.bool true) x45 I L fun x46 I L =>
 cnd x46
 (nck Tryd.prog v5 I L fun x48 I L =>
 fad Tryd.prog 70 x48 1 I L fun x49 I L =>
 ld Tryd.prog 3 x49 I L fun x50 I L =>
 cal Tryd.prog 21 #[(.int .i64 7), x50] I L (xR R) fun x51 I L =>
J33_3 R N Q (F33_3 (U (U (U (U (U (U (U (U (U (U (U (U (U (U (U (U s 4 v4) 5 v5) 6 v6) 7 v7) 40 x46) 41 v6) 42 x42) 43 x42) 44 x44) 45 x45) 46 x46) 47 v5) 48 x48) 49 x49) 50 x50) 51 x51) v1 v10 v11) I L)
 (nck Tryd.prog v5 I L fun x54 I L =>
 fad Tryd.prog 70 x54 9 I L fun x55 I L =>
 ld Tryd.prog 3 x55 I L fun x56 I L =>
 eqn Tryd.prog .eql 3 false true x56 (.int .i64 2) I L fun x57 I L =>
 gd (yb (some x57) true) (fun k => k v1 I L) (fun x59 I L =>
 gd (yb (some x57) true) (fun k => k v6 I L) (fun x60 I L =>
 gd (yb (some x57) true) (fun k => iad Tryd.prog 45 x59 x60 I L k) (fun x61 I L =>
 gd (yb (some x57) true) (fun k => fad Tryd.prog 70 x61 7 I L k) (fun x62 I L =>
 gd (yb (some x57) true) (fun k => ld Tryd.prog 4 x62 I L k) (fun x63 I L =>
 gd (yb (some x57) true) (fun k => un Tryd.prog .not x63 I L k) (fun x64 I L =>
pck x57 x64 (.bool false) I L fun x65 I L =>
 cnd x65
 (J33_4 R N Q (F33_4 (U (U (U (U (U (U (U (U (U (U (U (U (U (U (U (U (U (U (U (U s 40 x46) 41 v6) 42 x42) 43 x42) 44 x44) 45 x45) 46 x46) 53 v5) 54 x54) 55 x55) 56 x56) 57 x57) 58 x57) 59 x59) 60 x60) 61 x61) 62 x62) 63 x63) 64 x64) 65 x65) v1 v4 v5 v6 v7 v10 v11 x65) I L)
 (nck Tryd.prog v5 I L fun x67 I L =>
 fad Tryd.prog 70 x67 9 I L fun x68 I L =>
 ld Tryd.prog 3 x68 I L fun x69 I L =>
 eqn Tryd.prog .eql 3 false true x69 (.int .i64 3) I L fun x70 I L =>
 gd (yb (some x70) true) (fun k => k v5 I L) (fun x72 I L =>
 gd (yb (some x70) true) (fun k => nck Tryd.prog x72 I L k) (fun x73 I L =>
 gd (yb (some x70) true) (fun k => fad Tryd.prog 70 x73 4 I L k) (fun x74 I L =>
 gd (yb (some x70) true) (fun k => ld Tryd.prog 3 x74 I L k) (fun x75 I L =>
 gd (yb (some x70) true) (fun k => eqn Tryd.prog .neq 3 false true x75 (.int .i64 4) I L k) (fun x76 I L =>
 gd (yb (some x70) true) (fun k => k x76 I L) (fun x77 I L =>
 gd (yb (some x77) false) (fun k => k v5 I L) (fun x78 I L =>
 gd (yb (some x77) false) (fun k => nck Tryd.prog x78 I L k) (fun x79 I L =>
 gd (yb (some x77) false) (fun k => fad Tryd.prog 70 x79 6 I L k) (fun x80 I L =>
 gd (yb (some x77) false) (fun k => ld Tryd.prog 4 x80 I L k) (fun x81 I L =>
 gd (yb (some x70) true) (fun k => pck x77 (.bool true) x81 I L k) (fun x82 I L =>
pck x70 x82 (.bool false) I L fun x83 I L =>
J33_4 R N Q (F33_4 (U (U (U (U (U (U (U (U (U (U (U (U (U (U (U (U (U (U (U (U (U (U (U (U (U (U (U (U (U (U (U (U (U (U (U (U (U (U s 40 x46) 41 v6) 42 x42) 43 x42) 44 x44) 45 x45) 46 x46) 53 v5) 54 x54) 55 x55) 56 x56) 57 x57) 58 x57) 59 x59) 60 x60) 61 x61) 62 x62) 63 x63) 64 x64) 65 x65) 66 v5) 67 x67) 68 x68) 69 x69) 70 x70) 71 x70) 72 x72) 73 x73) 74 x74) 75 x75) 76 x76) 77 x77) 78 x78) 79 x79) 80 x80) 81 x81) 82 x82) 83 x83) v1 v4 v5 v6 v7 v10 v11 x83) I L) I L) I L) I L) I L) I L) I L) I L) I L) I L) I L) I L)) I L) I L) I L) I L) I L) I L)) I L) I L
theorem join33_1 {R : Ending → Imm → Own → Prop} {N : Act → Imm → Own → Prop} {Q : Exit → Act → Imm → Own → Prop} {s : Env} {v1 v4 v5 v6 v7 v10 v11 : Value} {I : Imm} {L : Own} (h : T33_1 R N Q s v1 v4 v5 v6 v7 v10 v11 I L) : J33_1 R N Q (F33_1 s v1 v4 v5 v6 v7 v10 v11) I L :=
  sh_cutB (fun p => if p = [1, 1, 1, 0] then some (J33_4 R N Q) else none) (O := (J33_4 R N Q = J33_4 R N Q) ∧ True) (by kernel_rfl) ⟨rfl, trivial⟩ (by kernel_rfl) h
/-- 33_2: live: 1 -/
def T33_2 (R : Ending → Imm → Own → Prop) (s : Env) (v1 : Value) (I : Imm) (L : Own) : Prop :=
 blt Tryd.prog .len #[45] 3 #[v1] I L fun x114 I L =>
L33_5 R (F33_5 (U s 113 v1) v1 x114 (.int .i64 0)) I L
theorem join33_2 {R : Ending → Imm → Own → Prop} {s : Env} {v1 : Value} {I : Imm} {L : Own} (h : T33_2 R s v1 I L) : J33_2 R (F33_2 s v1) I L :=
  sh_cutB (fun p => if p = [0, 1] then some (L33_5 R) else none) (O := (L33_5 R = L33_5 R) ∧ True) (by kernel_rfl) ⟨rfl, trivial⟩ (by kernel_rfl) h
/-- 33_3: live: 1 10 11 -/
def T33_3 (R : Ending → Imm → Own → Prop) (N : Act → Imm → Own → Prop) (Q : Exit → Act → Imm → Own → Prop) (s : Env) (v1 v10 v11 : Value) (I : Imm) (L : Own) : Prop :=
 bin Tryd.prog .add 3 v11 (.int .i64 1) I L fun x112 I L =>
N (F33_0 (U s 112 x112) v1 v10 x112) I L
theorem join33_3 {R : Ending → Imm → Own → Prop} {N : Act → Imm → Own → Prop} {Q : Exit → Act → Imm → Own → Prop} {s : Env} {v1 v10 v11 : Value} {I : Imm} {L : Own} (h : T33_3 R N Q s v1 v10 v11 I L) : J33_3 R N Q (F33_3 s v1 v10 v11) I L :=
  sh_cutB (fun _ => none) (O := True) (by kernel_rfl) trivial (by kernel_rfl) h
/-- 33_4: live: 1 4 5 6 7 10 11 52 -/
def T33_4 (R : Ending → Imm → Own → Prop) (N : Act → Imm → Own → Prop) (Q : Exit → Act → Imm → Own → Prop) (s : Env) (v1 v4 v5 v6 v7 v10 v11 v52 : Value) (I : Imm) (L : Own) : Prop :=
 cnd v52
 (nck Tryd.prog v5 I L fun x85 I L =>
 fad Tryd.prog 70 x85 1 I L fun x86 I L =>
 ld Tryd.prog 3 x86 I L fun x87 I L =>
 cal Tryd.prog 21 #[(.int .i64 13), x87] I L (xR R) fun x88 I L =>
J33_3 R N Q (F33_3 (U (U (U (U (U (U (U (U (U (U s 4 v4) 5 v5) 6 v6) 7 v7) 52 v52) 84 v5) 85 x85) 86 x86) 87 x87) 88 x88) v1 v10 v11) I L)
 (bin Tryd.prog .lss 3 v7 v6 I L fun x92 I L =>
 cnd x92
 (nck Tryd.prog v5 I L fun x94 I L =>
 fad Tryd.prog 70 x94 1 I L fun x95 I L =>
 ld Tryd.prog 3 x95 I L fun x96 I L =>
 cal Tryd.prog 21 #[(.int .i64 10), x96] I L (xR R) fun x97 I L =>
J33_3 R N Q (F33_3 (U (U (U (U (U (U (U (U (U (U (U (U (U (U s 4 v4) 5 v5) 6 v6) 7 v7) 52 v52) 89 x92) 90 v7) 91 v6) 92 x92) 93 v5) 94 x94) 95 x95) 96 x96) 97 x97) v1 v10 v11) I L)
 (bin Tryd.prog .leq 3 v6 v4 I L fun x101 I L =>
 gd (yb (some x101) true) (fun k => k v4 I L) (fun x103 I L =>
 gd (yb (some x101) true) (fun k => k v7 I L) (fun x104 I L =>
 gd (yb (some x101) true) (fun k => bin Tryd.prog .leq 3 x103 x104 I L k) (fun x105 I L =>
pck x101 x105 (.bool false) I L fun x106 I L =>
 cnd x106
 (nck Tryd.prog v5 I L fun x108 I L =>
 fad Tryd.prog 70 x108 1 I L fun x109 I L =>
 ld Tryd.prog 3 x109 I L fun x110 I L =>
 cal Tryd.prog 21 #[(.int .i64 6), x110] I L (xR R) fun x111 I L =>
J33_3 R N Q (F33_3 (U (U (U (U (U (U (U (U (U (U (U (U (U (U (U (U (U (U (U (U (U (U (U s 4 v4) 5 v5) 6 v6) 7 v7) 52 v52) 89 x92) 90 v7) 91 v6) 92 x92) 98 x106) 99 v6) 100 v4) 101 x101) 102 x101) 103 x103) 104 x104) 105 x105) 106 x106) 107 v5) 108 x108) 109 x109) 110 x110) 111 x111) v1 v10 v11) I L)
 (J33_3 R N Q (F33_3 (U (U (U (U (U (U (U (U (U (U (U (U (U (U (U (U (U (U s 4 v4) 5 v5) 6 v6) 7 v7) 52 v52) 89 x92) 90 v7) 91 v6) 92 x92) 98 x106) 99 v6) 100 v4) 101 x101) 102 x101) 103 x103) 104 x104) 105 x105) 106 x106) v1 v10 v11) I L)) I L) I L) I L))
theorem join33_4 {R : Ending → Imm → Own → Prop} {N : Act → Imm → Own → Prop} {Q : Exit → Act → Imm → Own → Prop} {s : Env} {v1 v4 v5 v6 v7 v10 v11 v52 : Value} {I : Imm} {L : Own} (h : T33_4 R N Q s v1 v4 v5 v6 v7 v10 v11 v52 I L) : J33_4 R N Q (F33_4 s v1 v4 v5 v6 v7 v10 v11 v52) I L :=
  sh_cutB (fun _ => none) (O := True) (by kernel_rfl) trivial (by kernel_rfl) h
/-- loop 33_5: live: 1 114 115; what changes: 115 -/
def B33_5 (R : Ending → Imm → Own → Prop) (N : Act → Imm → Own → Prop) (Q : Exit → Act → Imm → Own → Prop) (s : Env) (v1 v114 v115 : Value) (I : Imm) (L : Own) : Prop :=
 bin Tryd.prog .lss 3 v115 v114 I L fun x116 I L =>
 cnd x116
 (iad Tryd.prog 45 v1 v115 I L fun x120 I L =>
 fad Tryd.prog 70 x120 9 I L fun x121 I L =>
 ld Tryd.prog 3 x121 I L fun x122 I L =>
 eqn Tryd.prog .eql 3 false true x122 (.int .i64 3) I L fun x123 I L =>
 gd (yb (some x123) true) (fun k => k v1 I L) (fun x125 I L =>
 gd (yb (some x123) true) (fun k => k v115 I L) (fun x126 I L =>
 gd (yb (some x123) true) (fun k => k v115 I L) (fun x127 I L =>
 gd (yb (some x123) true) (fun k => k v1 I L) (fun x128 I L =>
 gd (yb (some x123) true) (fun k => blt Tryd.prog .len #[45] 3 #[x128] I L k) (fun x129 I L =>
 gd (yb (some x123) true) (fun k => cal Tryd.prog 51 #[x125, x126, x127, x129] I L (xR R) k) (fun x130 I L =>
pck x123 x130 (.bool false) I L fun x131 I L =>
 cnd x131
 (iad Tryd.prog 45 v1 v115 I L fun x134 I L =>
 fad Tryd.prog 70 x134 1 I L fun x135 I L =>
 ld Tryd.prog 3 x135 I L fun x136 I L =>
 cal Tryd.prog 21 #[(.int .i64 11), x136] I L (xR R) fun x137 I L =>
 bin Tryd.prog .add 3 v115 (.int .i64 1) I L fun x138 I L =>
N (F33_5 (U (U (U (U (U (U (U (U (U (U (U (U (U (U (U (U (U (U (U (U (U (U (U (U s 8 v115) 116 x116) 117 v115) 118 v1) 119 v115) 120 x120) 121 x121) 122 x122) 123 x123) 124 x123) 125 x125) 126 x126) 127 x127) 128 x128) 129 x129) 130 x130) 131 x131) 132 v1) 133 v115) 134 x134) 135 x135) 136 x136) 137 x137) 138 x138) v1 v114 x138) I L)
 (bin Tryd.prog .add 3 v115 (.int .i64 1) I L fun x138 I L =>
N (F33_5 (U (U (U (U (U (U (U (U (U (U (U (U (U (U (U (U (U (U s 8 v115) 116 x116) 117 v115) 118 v1) 119 v115) 120 x120) 121 x121) 122 x122) 123 x123) 124 x123) 125 x125) 126 x126) 127 x127) 128 x128) 129 x129) 130 x130) 131 x131) 138 x138) v1 v114 x138) I L)) I L) I L) I L) I L) I L) I L)
 (Q (.exit 3) (F33_r (U (U (U (U s 1 v1) 114 v114) 115 v115) 116 x116)) I L)
theorem round33_5 {R : Ending → Imm → Own → Prop} {N : Act → Imm → Own → Prop} {Q : Exit → Act → Imm → Own → Prop} {s : Env} {v1 v114 v115 : Value} {I : Imm} {L : Own} (h : B33_5 R N Q s v1 v114 v115 I L) : cdB Tryd.prog (cdIn Tryd.f33 [1, 1, 0, 0]) (seqT N Q) (endN R) (F33_5 s v1 v114 v115) I L :=
  sh_cutB (fun _ => none) (O := True) (by kernel_rfl) trivial (by kernel_rfl) h
theorem loop33_5 {R : Ending → Imm → Own → Prop} {s : Env} {v1 v114 : Value} {u115 : Value} {I : Imm} {L : Own} (Inv : Nat → Value → Imm → Own → Prop) {n : Nat} (h : Inv n u115 I L)
  (round : ∀ (n : Nat) (x115 : Value) (I' : Imm) (L' : Own), I.Le I' → Inv n x115 I' L' → ∀ (N' : Act → Imm → Own → Prop), (∀ (m : Nat) {s : Env} {y115 : Value} {I : Imm} {L : Own}, m < n → Inv m y115 I L → N' (F33_5 s v1 v114 y115) I L) → ∀ (s : Env), B33_5 R N' (Q33_5 R) s v1 v114 x115 I' L') : L33_5 R (F33_5 s v1 v114 u115) I L :=
  loop_genB (by kernel_rfl) (fun n a I L => ∃ (s : Env) (x115 : Value), a = (F33_5 s v1 v114 x115) ∧ Inv n x115 I L) ⟨s, _, rfl, h⟩ fun n a I' L' hle ⟨s, x115, e, hi⟩ => e ▸ round33_5 (round n x115 I' L' hle hi (fun a I L => ∃ m, m < n ∧ (fun n a I L => ∃ (s : Env) (x115 : Value), a = (F33_5 s v1 v114 x115) ∧ Inv n x115 I L) m a I L) (fun m {s y115 I L} hm hi => ⟨m, hm, s, _, rfl, hi⟩) s)
theorem out33_5x3 {R : Ending → Imm → Own → Prop} {s : Env} {I : Imm} {L : Own} (h : R (.returned (.tuple #[])) I L) : Q33_5 R (.exit 3) (F33_r s) I L :=
  Eq.mpr (by kernel_rfl) h
/-- 33: (*escritoire/types.checker).rules -/
def M33 (R : Ending → Imm → Own → Prop) (x0 x1 : Value) (I : Imm) (L : Own) : Prop :=
 blt Tryd.prog .len #[45] 3 #[x1] I L fun x10 I L =>
L33_0 R (F33_0 (U (U eU 0 x0) 9 x1) x1 x10 (.int .i64 0)) I L
theorem go33 {R : Ending → Imm → Own → Prop} {x0 x1 : Value} {I : Imm} {L : Own} (h : M33 R x0 x1 I L) : wpC Tryd.prog 33 #[x0, x1] I L R :=
  wpC_goX (endN_le _ _ R) (fun p => if p = [0, 1, 0] then some (L33_0 R) else none) Tryd.func33 (by kernel_rfl) (O := (L33_0 R = L33_0 R) ∧ True) (by kernel_rfl) ⟨rfl, trivial⟩ (by kernel_rfl) h

def F50_r (s : Env) (v4 : Value) : Act := fr 8 (U s 4 v4) []
/-- 50: escritoire/types.find -/
def M50 (R : Ending → Imm → Own → Prop) (x0 x1 : Value) (I : Imm) (L : Own) : Prop :=
 bx Tryd.prog 9 x1 I L fun x3 I L =>
 cal Tryd.prog 63 #[x0, (.func (.func 64) #[] #[x3])] I L (xR R) fun x7 I L =>
R (.returned x7) I L
theorem go50 {R : Ending → Imm → Own → Prop} {x0 x1 : Value} {I : Imm} {L : Own} (h : M50 R x0 x1 I L) : wpC Tryd.prog 50 #[x0, x1] I L R :=
  wpC_goX (endN_le _ _ R) (fun _ => none) Tryd.func50 (by kernel_rfl) (O := True) (by kernel_rfl) trivial (by kernel_rfl) h

def F51_r (s : Env) (v8 : Value) : Act := fr 45 (U s 8 v8) []
def F51_0 (s : Env) (v0 v1 v2 v3 v11 v12 : Value) : Act := fr 45 (U (U (U (U (U (U s 0 v0) 1 v1) 2 v2) 3 v3) 11 v11) 12 v12) []
def F51_1 (s : Env) : Act := fr 45 s []
def Q51_0 (R : Ending → Imm → Own → Prop) : Exit → Act → Imm → Own → Prop := (blkT 0 (seqT (cdB Tryd.prog (cdIn Tryd.f51 [1, 1]) (endB Tryd.prog Tryd.f51 R) (endN R)) (endB Tryd.prog Tryd.f51 R)))
def L51_0 (R : Ending → Imm → Own → Prop) (a : Act) (I : Imm) (L : Own) : Prop := cdB Tryd.prog (cdIn Tryd.f51 [1, 0, 1, 0]) (Q51_0 R) (endN R) a I L
def Q51_1 (R : Ending → Imm → Own → Prop) : Exit → Act → Imm → Own → Prop := (endB Tryd.prog Tryd.f51 R)
def J51_1 (R : Ending → Imm → Own → Prop) (a : Act) (I : Imm) (L : Own) : Prop := cdB Tryd.prog (cdIn Tryd.f51 [1, 1]) (Q51_1 R) (endN R) a I L
/-- loop 51_0: live: 0 1 2 3 11 12; what changes: 12 -/
def B51_0 (R : Ending → Imm → Own → Prop) (N : Act → Imm → Own → Prop) (Q : Exit → Act → Imm → Own → Prop) (s : Env) (v0 v1 v2 v3 v11 v12 : Value) (I : Imm) (L : Own) : Prop :=
 bin Tryd.prog .lss 3 v12 v11 I L fun x13 I L =>
 cnd x13
 (bin Tryd.prog .gtr 3 v3 (.int .i64 0) I L fun x16 I L =>
 gd (yb (some x16) true) (fun k => k v0 I L) (fun x18 I L =>
 gd (yb (some x16) true) (fun k => k v1 I L) (fun x19 I L =>
 gd (yb (some x16) true) (fun k => k v12 I L) (fun x20 I L =>
 gd (yb (some x16) true) (fun k => cal Tryd.prog 65 #[x18, x19, x20] I L (xR R) k) (fun x21 I L =>
pck x16 x21 (.bool false) I L fun x22 I L =>
 gd (yb (some x22) true) (fun k => k v12 I L) (fun x24 I L =>
 gd (yb (some x22) true) (fun k => k v2 I L) (fun x25 I L =>
 gd (yb (some x22) true) (fun k => eqn Tryd.prog .eql 3 false false x24 x25 I L k) (fun x26 I L =>
 gd (yb (some x22) true) (fun k => k x26 I L) (fun x27 I L =>
 gd (yb (some x27) false) (fun k => k v0 I L) (fun x28 I L =>
 gd (yb (some x27) false) (fun k => k v12 I L) (fun x29 I L =>
 gd (yb (some x27) false) (fun k => iad Tryd.prog 45 x28 x29 I L k) (fun x30 I L =>
 gd (yb (some x27) false) (fun k => fad Tryd.prog 70 x30 9 I L k) (fun x31 I L =>
 gd (yb (some x27) false) (fun k => ld Tryd.prog 3 x31 I L k) (fun x32 I L =>
 gd (yb (some x27) false) (fun k => eqn Tryd.prog .eql 3 false true x32 (.int .i64 3) I L k) (fun x33 I L =>
 gd (yb (some x27) false) (fun k => k x33 I L) (fun x34 I L =>
 gd (yb (some x34) true) (fun k => k v0 I L) (fun x35 I L =>
 gd (yb (some x34) true) (fun k => k v12 I L) (fun x36 I L =>
 gd (yb (some x34) true) (fun k => k v2 I L) (fun x37 I L =>
 gd (yb (some x34) true) (fun k => k v3 I L) (fun x38 I L =>
 gd (yb (some x34) true) (fun k => bin Tryd.prog .sub 3 x38 (.int .i64 1) I L k) (fun x39 I L =>
 gd (yb (some x34) true) (fun k => cal Tryd.prog 51 #[x35, x36, x37, x39] I L (xR R) k) (fun x40 I L =>
 gd (yb (some x27) false) (fun k => pck x34 x40 (.bool false) I L k) (fun x41 I L =>
 gd (yb (some x22) true) (fun k => pck x27 (.bool true) x41 I L k) (fun x42 I L =>
pck x22 x42 (.bool false) I L fun x43 I L =>
 cnd x43
 (Q .ret (F51_r (U (U (U (U (U (U (U (U (U (U (U (U (U (U (U (U (U (U (U (U (U (U (U (U (U (U (U (U (U (U (U (U (U (U (U (U (U (U s 0 v0) 1 v1) 2 v2) 3 v3) 9 v12) 11 v11) 12 v12) 13 x13) 14 v12) 15 v3) 16 x16) 17 x16) 18 x18) 19 x19) 20 x20) 21 x21) 22 x22) 23 x22) 24 x24) 25 x25) 26 x26) 27 x27) 28 x28) 29 x29) 30 x30) 31 x31) 32 x32) 33 x33) 34 x34) 35 x35) 36 x36) 37 x37) 38 x38) 39 x39) 40 x40) 41 x41) 42 x42) 43 x43) (.bool true)) I L)
 (bin Tryd.prog .add 3 v12 (.int .i64 1) I L fun x44 I L =>
N (F51_0 (U (U (U (U (U (U (U (U (U (U (U (U (U (U (U (U (U (U (U (U (U (U (U (U (U (U (U (U (U (U (U (U (U s 9 v12) 13 x13) 14 v12) 15 v3) 16 x16) 17 x16) 18 x18) 19 x19) 20 x20) 21 x21) 22 x22) 23 x22) 24 x24) 25 x25) 26 x26) 27 x27) 28 x28) 29 x29) 30 x30) 31 x31) 32 x32) 33 x33) 34 x34) 35 x35) 36 x36) 37 x37) 38 x38) 39 x39) 40 x40) 41 x41) 42 x42) 43 x43) 44 x44) v0 v1 v2 v3 v11 x44) I L)) I L) I L) I L) I L) I L) I L) I L) I L) I L) I L) I L) I L) I L) I L) I L) I L) I L) I L) I L) I L) I L) I L) I L)
 (Q (.exit 0) (F51_1 (U (U (U (U (U (U (U s 0 v0) 1 v1) 2 v2) 3 v3) 11 v11) 12 v12) 13 x13)) I L)
theorem round51_0 {R : Ending → Imm → Own → Prop} {N : Act → Imm → Own → Prop} {Q : Exit → Act → Imm → Own → Prop} {s : Env} {v0 v1 v2 v3 v11 v12 : Value} {I : Imm} {L : Own} (h : B51_0 R N Q s v0 v1 v2 v3 v11 v12 I L) : cdB Tryd.prog (cdIn Tryd.f51 [1, 0, 1, 0, 0]) (seqT N Q) (endN R) (F51_0 s v0 v1 v2 v3 v11 v12) I L :=
  sh_cutB (fun _ => none) (O := True) (by kernel_rfl) trivial (by kernel_rfl) h
theorem loop51_0 {R : Ending → Imm → Own → Prop} {s : Env} {v0 v1 v2 v3 v11 : Value} {u12 : Value} {I : Imm} {L : Own} (Inv : Nat → Value → Imm → Own → Prop) {n : Nat} (h : Inv n u12 I L)
  (round : ∀ (n : Nat) (x12 : Value) (I' : Imm) (L' : Own), I.Le I' → Inv n x12 I' L' → ∀ (N' : Act → Imm → Own → Prop), (∀ (m : Nat) {s : Env} {y12 : Value} {I : Imm} {L : Own}, m < n → Inv m y12 I L → N' (F51_0 s v0 v1 v2 v3 v11 y12) I L) → ∀ (s : Env), B51_0 R N' (Q51_0 R) s v0 v1 v2 v3 v11 x12 I' L') : L51_0 R (F51_0 s v0 v1 v2 v3 v11 u12) I L :=
  loop_genB (by kernel_rfl) (fun n a I L => ∃ (s : Env) (x12 : Value), a = (F51_0 s v0 v1 v2 v3 v11 x12) ∧ Inv n x12 I L) ⟨s, _, rfl, h⟩ fun n a I' L' hle ⟨s, x12, e, hi⟩ => e ▸ round51_0 (round n x12 I' L' hle hi (fun a I L => ∃ m, m < n ∧ (fun n a I L => ∃ (s : Env) (x12 : Value), a = (F51_0 s v0 v1 v2 v3 v11 x12) ∧ Inv n x12 I L) m a I L) (fun m {s y12 I L} hm hi => ⟨m, hm, s, _, rfl, hi⟩) s)
theorem out51_0x0 {R : Ending → Imm → Own → Prop} {s : Env} {I : Imm} {L : Own} (h : J51_1 R (F51_1 s) I L) : Q51_0 R (.exit 0) (F51_1 s) I L :=
  Eq.mpr (by kernel_rfl) h
theorem out51_0r {R : Ending → Imm → Own → Prop} {s : Env} {v8 : Value} {I : Imm} {L : Own} (h : R (.returned v8) I L) : Q51_0 R .ret (F51_r s v8) I L :=
  Eq.mpr (by kernel_rfl) h
/-- 51_1: live:  -/
def T51_1 (R : Ending → Imm → Own → Prop) (s : Env) (I : Imm) (L : Own) : Prop :=
R (.returned (.bool false)) I L
theorem join51_1 {R : Ending → Imm → Own → Prop} {s : Env} {I : Imm} {L : Own} (h : T51_1 R s I L) : J51_1 R (F51_1 s) I L :=
  sh_cutB (fun _ => none) (O := True) (by kernel_rfl) trivial (by kernel_rfl) h
/-- 51: escritoire/types.round -/
def M51 (R : Ending → Imm → Own → Prop) (x0 x1 x2 x3 : Value) (I : Imm) (L : Own) : Prop :=
 blt Tryd.prog .len #[45] 3 #[x0] I L fun x11 I L =>
L51_0 R (F51_0 (U (U eU 8 (.bool false)) 10 x0) x0 x1 x2 x3 x11 (.int .i64 0)) I L
theorem go51 {R : Ending → Imm → Own → Prop} {x0 x1 x2 x3 : Value} {I : Imm} {L : Own} (h : M51 R x0 x1 x2 x3 I L) : wpC Tryd.prog 51 #[x0, x1, x2, x3] I L R :=
  wpC_goX (endN_le _ _ R) (fun p => if p = [0, 1, 0, 1] then some (L51_0 R) else none) Tryd.func51 (by kernel_rfl) (O := (L51_0 R = L51_0 R) ∧ True) (by kernel_rfl) ⟨rfl, trivial⟩ (by kernel_rfl) h

def F64_r (s : Env) (v3 : Value) : Act := fr 13 (U s 3 v3) []
/-- 64: escritoire/types.find$1 -/
def M64 (R : Ending → Imm → Own → Prop) (x0 x1 : Value) (I : Imm) (L : Own) : Prop :=
 bx Tryd.prog 70 x0 I L fun x2 I L =>
 fad Tryd.prog 70 x2 0 I L fun x4 I L =>
 ld Tryd.prog 3 x4 I L fun x5 I L =>
 eqn Tryd.prog .neq 3 false true x5 (.int .i64 4) I L fun x6 I L =>
 gd (yb (some x6) true) (fun k => fad Tryd.prog 70 x2 2 I L k) (fun x8 I L =>
 gd (yb (some x6) true) (fun k => ld Tryd.prog 9 x8 I L k) (fun x9 I L =>
 gd (yb (some x6) true) (fun k => ld Tryd.prog 9 x1 I L k) (fun x10 I L =>
 gd (yb (some x6) true) (fun k => eqn Tryd.prog .eql 9 false false x9 x10 I L k) (fun x11 I L =>
pck x6 x11 (.bool false) I L fun x12 I L =>
R (.returned x12) I L) I L) I L) I L) I L
theorem go64 {R : Ending → Imm → Own → Prop} {x0 x1 : Value} {I : Imm} {L : Own} (h : M64 R x0 x1 I L) : wpC Tryd.prog 64 #[x0, x1] I L R :=
  wpC_goX (endN_le _ _ R) (fun _ => none) Tryd.func64 (by kernel_rfl) (O := True) (by kernel_rfl) trivial (by kernel_rfl) h

def F65_r (s : Env) (v6 : Value) : Act := fr 35 (U s 6 v6) []
/-- 65: escritoire/types.over -/
def M65 (R : Ending → Imm → Own → Prop) (x0 x1 x2 : Value) (I : Imm) (L : Own) : Prop :=
 iad Tryd.prog 45 x0 x1 I L fun x9 I L =>
 fad Tryd.prog 70 x9 9 I L fun x10 I L =>
 ld Tryd.prog 3 x10 I L fun x11 I L =>
 eqn Tryd.prog .eql 3 false true x11 (.int .i64 3) I L fun x12 I L =>
 gd (yb (some x12) true) (fun k => k x0 I L) (fun x14 I L =>
 gd (yb (some x12) true) (fun k => k x0 I L) (fun x15 I L =>
 gd (yb (some x12) true) (fun k => k x1 I L) (fun x16 I L =>
 gd (yb (some x12) true) (fun k => iad Tryd.prog 45 x15 x16 I L k) (fun x17 I L =>
 gd (yb (some x12) true) (fun k => fad Tryd.prog 70 x17 10 I L k) (fun x18 I L =>
 gd (yb (some x12) true) (fun k => ld Tryd.prog 9 x18 I L k) (fun x19 I L =>
 gd (yb (some x12) true) (fun k => cal Tryd.prog 50 #[x14, x19] I L (xR R) k) (fun x20 I L =>
 gd (yb (some x12) true) (fun k => k x2 I L) (fun x21 I L =>
 gd (yb (some x12) true) (fun k => bin Tryd.prog .leq 3 x20 x21 I L k) (fun x22 I L =>
pck x12 x22 (.bool false) I L fun x23 I L =>
 gd (yb (some x23) true) (fun k => k x2 I L) (fun x25 I L =>
 gd (yb (some x23) true) (fun k => k x0 I L) (fun x26 I L =>
 gd (yb (some x23) true) (fun k => k x0 I L) (fun x27 I L =>
 gd (yb (some x23) true) (fun k => k x1 I L) (fun x28 I L =>
 gd (yb (some x23) true) (fun k => iad Tryd.prog 45 x27 x28 I L k) (fun x29 I L =>
 gd (yb (some x23) true) (fun k => fad Tryd.prog 70 x29 11 I L k) (fun x30 I L =>
 gd (yb (some x23) true) (fun k => ld Tryd.prog 9 x30 I L k) (fun x31 I L =>
 gd (yb (some x23) true) (fun k => cal Tryd.prog 50 #[x26, x31] I L (xR R) k) (fun x32 I L =>
 gd (yb (some x23) true) (fun k => bin Tryd.prog .leq 3 x25 x32 I L k) (fun x33 I L =>
pck x23 x33 (.bool false) I L fun x34 I L =>
R (.returned x34) I L) I L) I L) I L) I L) I L) I L) I L) I L) I L) I L) I L) I L) I L) I L) I L) I L) I L) I L
theorem go65 {R : Ending → Imm → Own → Prop} {x0 x1 x2 : Value} {I : Imm} {L : Own} (h : M65 R x0 x1 x2 I L) : wpC Tryd.prog 65 #[x0, x1, x2] I L R :=
  wpC_goX (endN_le _ _ R) (fun _ => none) Tryd.func65 (by kernel_rfl) (O := True) (by kernel_rfl) trivial (by kernel_rfl) h

def F63_r (s : Env) (v4 : Value) : Act := fr 19 (U s 4 v4) []
def F63_0 (s : Env) (v0 v1 v7 v8 : Value) : Act := fr 19 (U (U (U (U s 0 v0) 1 v1) 7 v7) 8 v8) []
def F63_1 (s : Env) : Act := fr 19 s []
def Q63_0 (R : Ending → Imm → Own → Prop) : Exit → Act → Imm → Own → Prop := (blkT 0 (seqT (cdB Tryd.prog (cdIn Tryd.f63 [1, 1]) (endB Tryd.prog Tryd.f63 R) (endN R)) (endB Tryd.prog Tryd.f63 R)))
def L63_0 (R : Ending → Imm → Own → Prop) (a : Act) (I : Imm) (L : Own) : Prop := cdB Tryd.prog (cdIn Tryd.f63 [1, 0, 1, 0]) (Q63_0 R) (endN R) a I L
def Q63_1 (R : Ending → Imm → Own → Prop) : Exit → Act → Imm → Own → Prop := (endB Tryd.prog Tryd.f63 R)
def J63_1 (R : Ending → Imm → Own → Prop) (a : Act) (I : Imm) (L : Own) : Prop := cdB Tryd.prog (cdIn Tryd.f63 [1, 1]) (Q63_1 R) (endN R) a I L
/-- loop 63_0: live: 0 1 7 8; what changes: 8 -/
def B63_0 (R : Ending → Imm → Own → Prop) (N : Act → Imm → Own → Prop) (Q : Exit → Act → Imm → Own → Prop) (s : Env) (v0 v1 v7 v8 : Value) (I : Imm) (L : Own) : Prop :=
 bin Tryd.prog .lss 3 v8 v7 I L fun x9 I L =>
 cnd x9
 (iad Tryd.prog 45 v0 v8 I L fun x14 I L =>
 ld Tryd.prog 70 x14 I L fun x15 I L =>
 clv Tryd.prog v1 #[x15] I L (xR R) fun x16 I L =>
 cnd x16
 (Q .ret (F63_r (U (U (U (U (U (U (U (U (U (U (U (U (U (U s 0 v0) 1 v1) 5 v8) 7 v7) 8 v8) 9 x9) 10 v8) 11 v1) 12 v0) 13 v8) 14 x14) 15 x15) 16 x16) 17 v8) v8) I L)
 (bin Tryd.prog .add 3 v8 (.int .i64 1) I L fun x18 I L =>
N (F63_0 (U (U (U (U (U (U (U (U (U (U s 5 v8) 9 x9) 10 v8) 11 v1) 12 v0) 13 v8) 14 x14) 15 x15) 16 x16) 18 x18) v0 v1 v7 x18) I L))
 (Q (.exit 0) (F63_1 (U (U (U (U (U s 0 v0) 1 v1) 7 v7) 8 v8) 9 x9)) I L)
theorem round63_0 {R : Ending → Imm → Own → Prop} {N : Act → Imm → Own → Prop} {Q : Exit → Act → Imm → Own → Prop} {s : Env} {v0 v1 v7 v8 : Value} {I : Imm} {L : Own} (h : B63_0 R N Q s v0 v1 v7 v8 I L) : cdB Tryd.prog (cdIn Tryd.f63 [1, 0, 1, 0, 0]) (seqT N Q) (endN R) (F63_0 s v0 v1 v7 v8) I L :=
  sh_cutB (fun _ => none) (O := True) (by kernel_rfl) trivial (by kernel_rfl) h
theorem loop63_0 {R : Ending → Imm → Own → Prop} {s : Env} {v0 v1 v7 : Value} {u8 : Value} {I : Imm} {L : Own} (Inv : Nat → Value → Imm → Own → Prop) {n : Nat} (h : Inv n u8 I L)
  (round : ∀ (n : Nat) (x8 : Value) (I' : Imm) (L' : Own), I.Le I' → Inv n x8 I' L' → ∀ (N' : Act → Imm → Own → Prop), (∀ (m : Nat) {s : Env} {y8 : Value} {I : Imm} {L : Own}, m < n → Inv m y8 I L → N' (F63_0 s v0 v1 v7 y8) I L) → ∀ (s : Env), B63_0 R N' (Q63_0 R) s v0 v1 v7 x8 I' L') : L63_0 R (F63_0 s v0 v1 v7 u8) I L :=
  loop_genB (by kernel_rfl) (fun n a I L => ∃ (s : Env) (x8 : Value), a = (F63_0 s v0 v1 v7 x8) ∧ Inv n x8 I L) ⟨s, _, rfl, h⟩ fun n a I' L' hle ⟨s, x8, e, hi⟩ => e ▸ round63_0 (round n x8 I' L' hle hi (fun a I L => ∃ m, m < n ∧ (fun n a I L => ∃ (s : Env) (x8 : Value), a = (F63_0 s v0 v1 v7 x8) ∧ Inv n x8 I L) m a I L) (fun m {s y8 I L} hm hi => ⟨m, hm, s, _, rfl, hi⟩) s)
theorem out63_0x0 {R : Ending → Imm → Own → Prop} {s : Env} {I : Imm} {L : Own} (h : J63_1 R (F63_1 s) I L) : Q63_0 R (.exit 0) (F63_1 s) I L :=
  Eq.mpr (by kernel_rfl) h
theorem out63_0r {R : Ending → Imm → Own → Prop} {s : Env} {v4 : Value} {I : Imm} {L : Own} (h : R (.returned v4) I L) : Q63_0 R .ret (F63_r s v4) I L :=
  Eq.mpr (by kernel_rfl) h
/-- 63_1: live:  -/
def T63_1 (R : Ending → Imm → Own → Prop) (s : Env) (I : Imm) (L : Own) : Prop :=
R (.returned (.int .i64 (-1))) I L
theorem join63_1 {R : Ending → Imm → Own → Prop} {s : Env} {I : Imm} {L : Own} (h : T63_1 R s I L) : J63_1 R (F63_1 s) I L :=
  sh_cutB (fun _ => none) (O := True) (by kernel_rfl) trivial (by kernel_rfl) h
/-- 63: slices.IndexFunc[[]escritoire/api.Item,escritoire/api.Item] -/
def M63 (R : Ending → Imm → Own → Prop) (x0 x1 : Value) (I : Imm) (L : Own) : Prop :=
 blt Tryd.prog .len #[45] 3 #[x0] I L fun x7 I L =>
L63_0 R (F63_0 (U (U eU 4 (.int .i64 0)) 6 x0) x0 x1 x7 (.int .i64 0)) I L
theorem go63 {R : Ending → Imm → Own → Prop} {x0 x1 : Value} {I : Imm} {L : Own} (h : M63 R x0 x1 I L) : wpC Tryd.prog 63 #[x0, x1] I L R :=
  wpC_goX (endN_le _ _ R) (fun p => if p = [0, 1, 0, 1] then some (L63_0 R) else none) Tryd.func63 (by kernel_rfl) (O := (L63_0 R = L63_0 R) ∧ True) (by kernel_rfl) ⟨rfl, trivial⟩ (by kernel_rfl) h

def F41_r (s : Env) (v4 : Value) : Act := fr 8 (U s 4 v4) []
/-- 41: strings.HasPrefix -/
def M41 (R : Ending → Imm → Own → Prop) (x0 x1 : Value) (I : Imm) (L : Own) : Prop :=
 cal Tryd.prog 53 #[x0, x1] I L (xR R) fun x7 I L =>
R (.returned x7) I L
theorem go41 {R : Ending → Imm → Own → Prop} {x0 x1 : Value} {I : Imm} {L : Own} (h : M41 R x0 x1 I L) : wpC Tryd.prog 41 #[x0, x1] I L R :=
  wpC_goX (endN_le _ _ R) (fun _ => none) Tryd.func41 (by kernel_rfl) (O := True) (by kernel_rfl) trivial (by kernel_rfl) h

def F46_r (s : Env) (v4 : Value) : Act := fr 8 (U s 4 v4) []
/-- 46: strings.HasSuffix -/
def M46 (R : Ending → Imm → Own → Prop) (x0 x1 : Value) (I : Imm) (L : Own) : Prop :=
 cal Tryd.prog 57 #[x0, x1] I L (xR R) fun x7 I L =>
R (.returned x7) I L
theorem go46 {R : Ending → Imm → Own → Prop} {x0 x1 : Value} {I : Imm} {L : Own} (h : M46 R x0 x1 I L) : wpC Tryd.prog 46 #[x0, x1] I L R :=
  wpC_goX (endN_le _ _ R) (fun _ => none) Tryd.func46 (by kernel_rfl) (O := True) (by kernel_rfl) trivial (by kernel_rfl) h

def F53_r (s : Env) (v4 : Value) : Act := fr 18 (U s 4 v4) []
/-- 53: internal/stringslite.HasPrefix -/
def M53 (R : Ending → Imm → Own → Prop) (x0 x1 : Value) (I : Imm) (L : Own) : Prop :=
 blt Tryd.prog .len #[9] 3 #[x0] I L fun x6 I L =>
 blt Tryd.prog .len #[9] 3 #[x1] I L fun x8 I L =>
 bin Tryd.prog .geq 3 x6 x8 I L fun x9 I L =>
 gd (yb (some x9) true) (fun k => k x0 I L) (fun x11 I L =>
 gd (yb (some x9) true) (fun k => k x1 I L) (fun x12 I L =>
 gd (yb (some x9) true) (fun k => blt Tryd.prog .len #[9] 3 #[x12] I L k) (fun x13 I L =>
 gd (yb (some x9) true) (fun k => slc Tryd.prog 9 x11 none (some x13) none I L k) (fun x14 I L =>
 gd (yb (some x9) true) (fun k => k x1 I L) (fun x15 I L =>
 gd (yb (some x9) true) (fun k => eqn Tryd.prog .eql 9 false false x14 x15 I L k) (fun x16 I L =>
pck x9 x16 (.bool false) I L fun x17 I L =>
R (.returned x17) I L) I L) I L) I L) I L) I L) I L
theorem go53 {R : Ending → Imm → Own → Prop} {x0 x1 : Value} {I : Imm} {L : Own} (h : M53 R x0 x1 I L) : wpC Tryd.prog 53 #[x0, x1] I L R :=
  wpC_goX (endN_le _ _ R) (fun _ => none) Tryd.func53 (by kernel_rfl) (O := True) (by kernel_rfl) trivial (by kernel_rfl) h

def F57_r (s : Env) (v4 : Value) : Act := fr 21 (U s 4 v4) []
/-- 57: internal/stringslite.HasSuffix -/
def M57 (R : Ending → Imm → Own → Prop) (x0 x1 : Value) (I : Imm) (L : Own) : Prop :=
 blt Tryd.prog .len #[9] 3 #[x0] I L fun x6 I L =>
 blt Tryd.prog .len #[9] 3 #[x1] I L fun x8 I L =>
 bin Tryd.prog .geq 3 x6 x8 I L fun x9 I L =>
 gd (yb (some x9) true) (fun k => k x0 I L) (fun x11 I L =>
 gd (yb (some x9) true) (fun k => k x0 I L) (fun x12 I L =>
 gd (yb (some x9) true) (fun k => blt Tryd.prog .len #[9] 3 #[x12] I L k) (fun x13 I L =>
 gd (yb (some x9) true) (fun k => k x1 I L) (fun x14 I L =>
 gd (yb (some x9) true) (fun k => blt Tryd.prog .len #[9] 3 #[x14] I L k) (fun x15 I L =>
 gd (yb (some x9) true) (fun k => bin Tryd.prog .sub 3 x13 x15 I L k) (fun x16 I L =>
 gd (yb (some x9) true) (fun k => slc Tryd.prog 9 x11 (some x16) none none I L k) (fun x17 I L =>
 gd (yb (some x9) true) (fun k => k x1 I L) (fun x18 I L =>
 gd (yb (some x9) true) (fun k => eqn Tryd.prog .eql 9 false false x17 x18 I L k) (fun x19 I L =>
pck x9 x19 (.bool false) I L fun x20 I L =>
R (.returned x20) I L) I L) I L) I L) I L) I L) I L) I L) I L) I L
theorem go57 {R : Ending → Imm → Own → Prop} {x0 x1 : Value} {I : Imm} {L : Own} (h : M57 R x0 x1 I L) : wpC Tryd.prog 57 #[x0, x1] I L R :=
  wpC_goX (endN_le _ _ R) (fun _ => none) Tryd.func57 (by kernel_rfl) (O := True) (by kernel_rfl) trivial (by kernel_rfl) h
end Go.Proofs.YtkclodaplbalfaaDoor
