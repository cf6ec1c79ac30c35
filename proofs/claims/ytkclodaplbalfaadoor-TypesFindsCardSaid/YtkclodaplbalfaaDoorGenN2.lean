/- The shallow forms of the functions, printed by a program of this claim's writer out of the loaded translation, each checked by the kernel. Conditions: none. -/
import Derived.Test.YtkclodaplbalfaaDoorSlB
import Derived.Test.YtkclodaplbalfaaDoorProg
set_option linter.unusedVariables false
set_option maxRecDepth 100000
namespace Go.Proofs.YtkclodaplbalfaaDoor
open Go Sl

def F19_r (s : Env) (v2 v3 : Value) : Act := fr 38 (U (U s 2 v2) 3 v3) []
def F19_0 (s : Env) (v0 v4 : Value) : Act := fr 38 (U (U s 0 v0) 4 v4) []
def F19_1 (s : Env) (v4 v5 : Value) : Act := fr 38 (U (U s 4 v4) 5 v5) []
def F19_2 (s : Env) (v4 : Value) : Act := fr 38 (U s 4 v4) []
def F19_3 (s : Env) (v2 v3 : Value) : Act := fr 38 (U (U s 2 v2) 3 v3) []
def Q19_0 (R : Ending → Imm → Own → Prop) : Exit → Act → Imm → Own → Prop := (blkT 0 (seqT (cdB Tryd.prog (cdIn Tryd.f19 [1, 1, 1]) (endB Tryd.prog Tryd.f19 R) (endN R)) (endB Tryd.prog Tryd.f19 R)))
def L19_0 (R : Ending → Imm → Own → Prop) (a : Act) (I : Imm) (L : Own) : Prop := cdB Tryd.prog (cdIn Tryd.f19 [1, 1, 0, 0]) (Q19_0 R) (endN R) a I L
def Q19_1 (R : Ending → Imm → Own → Prop) (N : Act → Imm → Own → Prop) (Q : Exit → Act → Imm → Own → Prop) : Exit → Act → Imm → Own → Prop := (seqT (cdB Tryd.prog (cdIn Tryd.f19 [1, 1, 0, 0, 0, 1, 0, 0, 1, 1, 0, 1]) (seqT (cdB Tryd.prog (cdIn Tryd.f19 [1, 1, 0, 0, 0, 1, 0, 1]) (blkT 1 (seqT N Q)) (endN R)) (blkT 1 (seqT N Q))) (endN R)) (seqT (cdB Tryd.prog (cdIn Tryd.f19 [1, 1, 0, 0, 0, 1, 0, 1]) (blkT 1 (seqT N Q)) (endN R)) (blkT 1 (seqT N Q))))
def D19_1 (R : Ending → Imm → Own → Prop) (N : Act → Imm → Own → Prop) (Q : Exit → Act → Imm → Own → Prop) (a : Act) (I : Imm) (L : Own) : Prop := cdB Tryd.prog (cdIn Tryd.f19 [1, 1, 0, 0, 0, 1, 0, 0, 1, 1, 0, 0]) (Q19_1 R N Q) (endN R) a I L
def Q19_2 (R : Ending → Imm → Own → Prop) : Exit → Act → Imm → Own → Prop := (endB Tryd.prog Tryd.f19 R)
def J19_2 (R : Ending → Imm → Own → Prop) (a : Act) (I : Imm) (L : Own) : Prop := cdB Tryd.prog (cdIn Tryd.f19 [1, 1, 1]) (Q19_2 R) (endN R) a I L
def Q19_3 (R : Ending → Imm → Own → Prop) (N : Act → Imm → Own → Prop) (Q : Exit → Act → Imm → Own → Prop) : Exit → Act → Imm → Own → Prop := (seqT (cdB Tryd.prog (cdIn Tryd.f19 [1, 1, 0, 0, 0, 1, 0, 1]) (blkT 1 (seqT N Q)) (endN R)) (blkT 1 (seqT N Q)))
def J19_3 (R : Ending → Imm → Own → Prop) (N : Act → Imm → Own → Prop) (Q : Exit → Act → Imm → Own → Prop) (a : Act) (I : Imm) (L : Own) : Prop := cdB Tryd.prog (cdIn Tryd.f19 [1, 1, 0, 0, 0, 1, 0, 0, 1, 1, 0, 1]) (Q19_3 R N Q) (endN R) a I L
/-- loop 19_0: live: 0 4; what changes: 0 -/
def B19_0 (R : Ending → Imm → Own → Prop) (N : Act → Imm → Own → Prop) (Q : Exit → Act → Imm → Own → Prop) (s : Env) (v0 v4 : Value) (I : Imm) (L : Own) : Prop :=
 eqn Tryd.prog .neq 32 false true v0 .nilIface I L fun x12 I L =>
 cnd x12
 (tas Tryd.prog v0 32 73 true I L fun x15 I L =>
 ext Tryd.prog x15 0 I L fun x16 I L =>
 ext Tryd.prog x15 1 I L fun x17 I L =>
 gd (yb (some x17) true) (fun k => k x16 I L) (fun x20 I L =>
 gd (yb (some x17) true) (fun k => eqn Tryd.prog .neq 73 false true x20 (.pointer none) I L k) (fun x21 I L =>
pck x17 x21 (.bool false) I L fun x22 I L =>
 cnd x22
 (D19_1 R N Q (F19_1 (U (U (U (U (U (U (U (U (U (U (U (U (U (U s 0 v0) 6 x17) 11 v0) 12 x12) 13 x15) 14 v0) 15 x15) 16 x16) 17 x17) 18 x17) 19 x17) 20 x20) 21 x21) 22 x22) v4 x16) I L)
 (tas Tryd.prog v0 32 77 true I L fun x30 I L =>
 ext Tryd.prog x30 0 I L fun x31 I L =>
 ext Tryd.prog x30 1 I L fun x32 I L =>
 un Tryd.prog .not x32 I L fun x34 I L =>
 cnd x34
 (Q (.exit 0) (F19_2 (U (U (U (U (U (U (U (U (U (U (U (U (U (U (U (U (U (U (U (U (U (U (U (U s 0 v0) 5 x16) 6 x17) 7 x31) 8 x32) 11 v0) 12 x12) 13 x15) 14 v0) 15 x15) 16 x16) 17 x17) 18 x17) 19 x17) 20 x20) 21 x21) 22 x22) 28 x30) 29 v0) 30 x30) 31 x31) 32 x32) 33 x32) 34 x34) v4) I L)
 (inv Tryd.prog x31 "Unwrap" #[] I L (xR R) fun x36 I L =>
N (F19_0 (U (U (U (U (U (U (U (U (U (U (U (U (U (U (U (U (U (U (U (U (U (U (U (U (U s 5 x16) 6 x17) 7 x31) 8 x32) 11 v0) 12 x12) 13 x15) 14 v0) 15 x15) 16 x16) 17 x17) 18 x17) 19 x17) 20 x20) 21 x21) 22 x22) 28 x30) 29 v0) 30 x30) 31 x31) 32 x32) 33 x32) 34 x34) 35 x31) 36 x36) x36 v4) I L))) I L) I L)
 (Q (.exit 0) (F19_2 (U (U (U s 0 v0) 11 v0) 12 x12) v4) I L)
theorem round19_0 {R : Ending → Imm → Own → Prop} {N : Act → Imm → Own → Prop} {Q : Exit → Act → Imm → Own → Prop} {s : Env} {v0 v4 : Value} {I : Imm} {L : Own} (h : B19_0 R N Q s v0 v4 I L) : cdB Tryd.prog (cdIn Tryd.f19 [1, 1, 0, 0, 0]) (seqT N Q) (endN R) (F19_0 s v0 v4) I L :=
  sh_cutB (fun p => if p = [0, 0, 1, 1, 0, 0, 1] then some (D19_1 R N Q) else none) (O := (D19_1 R N Q = D19_1 R N Q) ∧ True) (by kernel_rfl) ⟨rfl, trivial⟩ (by kernel_rfl) h
theorem loop19_0 {R : Ending → Imm → Own → Prop} {s : Env} {v4 : Value} {u0 : Value} {I : Imm} {L : Own} (Inv : Nat → Value → Imm → Own → Prop) {n : Nat} (h : Inv n u0 I L)
  (round : ∀ (n : Nat) (x0 : Value) (I' : Imm) (L' : Own), I.Le I' → Inv n x0 I' L' → ∀ (N' : Act → Imm → Own → Prop), (∀ (m : Nat) {s : Env} {y0 : Value} {I : Imm} {L : Own}, m < n → Inv m y0 I L → N' (F19_0 s y0 v4) I L) → ∀ (s : Env), B19_0 R N' (Q19_0 R) s x0 v4 I' L') : L19_0 R (F19_0 s u0 v4) I L :=
  loop_genB (by kernel_rfl) (fun n a I L => ∃ (s : Env) (x0 : Value), a = (F19_0 s x0 v4) ∧ Inv n x0 I L) ⟨s, _, rfl, h⟩ fun n a I' L' hle ⟨s, x0, e, hi⟩ => e ▸ round19_0 (round n x0 I' L' hle hi (fun a I L => ∃ m, m < n ∧ (fun n a I L => ∃ (s : Env) (x0 : Value), a = (F19_0 s x0 v4) ∧ Inv n x0 I L) m a I L) (fun m {s y0 I L} hm hi => ⟨m, hm, s, _, rfl, hi⟩) s)
theorem out19_0x0 {R : Ending → Imm → Own → Prop} {s : Env} {v4 : Value} {I : Imm} {L : Own} (h : J19_2 R (F19_2 s v4) I L) : Q19_0 R (.exit 0) (F19_2 s v4) I L :=
  Eq.mpr (by kernel_rfl) h
theorem out19_0r {R : Ending → Imm → Own → Prop} {s : Env} {v2 v3 : Value} {I : Imm} {L : Own} (h : R (.returned (.tuple #[v2, v3])) I L) : Q19_0 R .ret (F19_r s v2 v3) I L :=
  Eq.mpr (by kernel_rfl) h
/-- 19_1: live: 4 5 -/
def G19_1 (R : Ending → Imm → Own → Prop) (N : Act → Imm → Own → Prop) (Q : Exit → Act → Imm → Own → Prop) (C : Cls) (s : Env) (v4 v5 : Value) (I : Imm) (L : Own) : Prop :=
 qnck Tryd.prog v5 C fun x25 =>
 qfad Tryd.prog 76 x25 1 C fun x26 =>
 qld Tryd.prog 3 x26 C fun x27 =>
J19_3 R N Q (F19_3 (U (U (U (U (U (U (U s 4 v4) 5 v5) 23 v4) 24 v5) 25 x25) 26 x26) 27 x27) v4 x27) I L
theorem draw19_1 {R : Ending → Imm → Own → Prop} {N : Act → Imm → Own → Prop} {Q : Exit → Act → Imm → Own → Prop} {C : Cls} {s : Env} {v4 v5 : Value} {I : Imm} {L : Own} (hC : C I L) (h : G19_1 R N Q C s v4 v5 I L) : D19_1 R N Q (F19_1 s v4 v5) I L :=
  draw_planB (ops := opsIn Tryd.f19 [1, 1, 0, 0, 0, 1, 0, 0, 1, 1, 0, 0]) (id := 5) (Q := Q19_1 R N Q) (X := (endN R)) endN_put (.take 0 (.take 1 (.take 2 (.take 3 (.take 4 (.take 5 (.take 6 .done))))))) [] (by kernel_rfl) rfl (by kernel_rfl) (by kernel_rfl) hC h
/-- 19_2: live: 4 -/
def T19_2 (R : Ending → Imm → Own → Prop) (s : Env) (v4 : Value) (I : Imm) (L : Own) : Prop :=
R (.returned (.tuple #[v4, (.int .i64 (-1))])) I L
theorem join19_2 {R : Ending → Imm → Own → Prop} {s : Env} {v4 : Value} {I : Imm} {L : Own} (h : T19_2 R s v4 I L) : J19_2 R (F19_2 s v4) I L :=
  sh_cutB (fun _ => none) (O := True) (by kernel_rfl) trivial (by kernel_rfl) h
/-- 19_3: live: 2 3 -/
def T19_3 (R : Ending → Imm → Own → Prop) (N : Act → Imm → Own → Prop) (Q : Exit → Act → Imm → Own → Prop) (s : Env) (v2 v3 : Value) (I : Imm) (L : Own) : Prop :=
Q .ret (F19_r s v2 v3) I L
theorem join19_3 {R : Ending → Imm → Own → Prop} {N : Act → Imm → Own → Prop} {Q : Exit → Act → Imm → Own → Prop} {s : Env} {v2 v3 : Value} {I : Imm} {L : Own} (h : T19_3 R N Q s v2 v3 I L) : J19_3 R N Q (F19_3 s v2 v3) I L :=
  sh_cutB (fun _ => none) (O := True) (by kernel_rfl) trivial (by kernel_rfl) h
/-- 19: escritoire/plain.Place -/
def M19 (R : Ending → Imm → Own → Prop) (x0 : Value) (I : Imm) (L : Own) : Prop :=
 cal Tryd.prog 31 #[x0] I L (xR R) fun x10 I L =>
L19_0 R (F19_0 (U (U (U (U eU 2 (.int .i64 0)) 3 (.int .i64 0)) 9 x0) 10 x10) x0 x10) I L
theorem go19 {R : Ending → Imm → Own → Prop} {x0 : Value} {I : Imm} {L : Own} (h : M19 R x0 I L) : wpC Tryd.prog 19 #[x0] I L R :=
  wpC_goX (endN_le _ _ R) (fun p => if p = [0, 0, 1, 1] then some (L19_0 R) else none) Tryd.func19 (by kernel_rfl) (O := (L19_0 R = L19_0 R) ∧ True) (by kernel_rfl) ⟨rfl, trivial⟩ (by kernel_rfl) h

def F31_r (s : Env) (v2 : Value) : Act := fr 10 (U s 2 v2) []
/-- 31: escritoire/api.Tell -/
def M31 (R : Ending → Imm → Own → Prop) (x0 : Value) (I : Imm) (L : Own) : Prop :=
 eqn Tryd.prog .eql 32 false true x0 .nilIface I L fun x5 I L =>
 cnd x5
 (R (.returned (.int .i64 0)) I L)
 (al Tryd.prog 24 I L fun x3 I L =>
 mki Tryd.prog 97 x3 I L fun x7 I L =>
 cal Tryd.prog 47 #[x0, x7] I L (xR R) fun x8 I L =>
 cnd x8
 (ld Tryd.prog 24 x3 I L fun x9 I L =>
R (.returned x9) I L)
 (R (.returned (.int .i64 (-1))) I L))
theorem go31 {R : Ending → Imm → Own → Prop} {x0 : Value} {I : Imm} {L : Own} (h : M31 R x0 I L) : wpC Tryd.prog 31 #[x0] I L R :=
  wpC_goX (endN_le _ _ R) (fun _ => none) Tryd.func31 (by kernel_rfl) (O := True) (by kernel_rfl) trivial (by kernel_rfl) h

def F100_r (s : Env) (v2 : Value) : Act := fr 8 (U s 2 v2) []
/-- 100: (*escritoire/api.At).Unwrap -/
def M100 (R : Ending → Imm → Own → Prop) (x0 : Value) (I : Imm) (L : Own) : Prop :=
 nck Tryd.prog x0 I L fun x4 I L =>
 fad Tryd.prog 76 x4 0 I L fun x5 I L =>
 ld Tryd.prog 24 x5 I L fun x6 I L =>
 mki Tryd.prog 24 x6 I L fun x7 I L =>
R (.returned x7) I L
theorem go100 {R : Ending → Imm → Own → Prop} {x0 : Value} {I : Imm} {L : Own} (h : M100 R x0 I L) : wpC Tryd.prog 100 #[x0] I L R :=
  wpC_goX (endN_le _ _ R) (fun _ => none) Tryd.func100 (by kernel_rfl) (O := True) (by kernel_rfl) trivial (by kernel_rfl) h

def F47_r (s : Env) (v4 : Value) : Act := fr 42 (U s 4 v4) []
def F47_0 (s : Env) (v0 v1 : Value) : Act := fr 42 (U (U s 0 v0) 1 v1) []
def F47_1 (s : Env) (v0 v1 v5 v6 : Value) : Act := fr 42 (U (U (U (U s 0 v0) 1 v1) 5 v5) 6 v6) []
def Q47_0 (R : Ending → Imm → Own → Prop) : Exit → Act → Imm → Own → Prop := (endB Tryd.prog Tryd.f47 R)
def J47_0 (R : Ending → Imm → Own → Prop) (a : Act) (I : Imm) (L : Own) : Prop := cdB Tryd.prog (cdIn Tryd.f47 [1, 1, 1]) (Q47_0 R) (endN R) a I L
def Q47_1 (R : Ending → Imm → Own → Prop) : Exit → Act → Imm → Own → Prop := (Q47_0 R)
def J47_1 (R : Ending → Imm → Own → Prop) (a : Act) (I : Imm) (L : Own) : Prop := cdB Tryd.prog (cdIn Tryd.f47 [1, 1, 1, 1, 1, 1]) (Q47_1 R) (endN R) a I L
/-- 47_0: live: 0 1 -/
def T47_0 (R : Ending → Imm → Own → Prop) (s : Env) (v0 v1 : Value) (I : Imm) (L : Own) : Prop :=
 cal Tryd.prog 58 #[v1] I L (xR R) fun x14 I L =>
 al Tryd.prog 108 I L fun x5 I L =>
 sto Tryd.prog 108 x5 x14 I L fun _ I L =>
 ld Tryd.prog 108 x5 I L fun x15 I L =>
 cal Tryd.prog 59 #[x15] I L (xR R) fun x16 I L =>
 inv Tryd.prog x16 "Kind" #[] I L (xR R) fun x18 I L =>
 eqn Tryd.prog .neq 113 false true x18 (.int .u8 22) I L fun x19 I L =>
 gd (yb (some x19) false) (fun k => ld Tryd.prog 108 x5 I L k) (fun x21 I L =>
 gd (yb (some x19) false) (fun k => cal Tryd.prog 60 #[x21] I L (xR R) k) (fun x22 I L =>
pck x19 (.bool true) x22 I L fun x23 I L =>
 cnd x23
 (mki Tryd.prog 9 (S [101, 114, 114, 111, 114, 115, 58, 32, 116, 97, 114, 103, 101, 116, 32, 109, 117, 115, 116, 32, 98, 101, 32, 97, 32, 110, 111, 110, 45, 110, 105, 108, 32, 112, 111, 105, 110, 116, 101, 114]) I L fun x24 I L =>
pan x24 I L (xR R))
 (J47_1 R (F47_1 (U (U (U (U (U (U (U (U (U (U (U s 13 v1) 14 x14) 15 x15) 16 x16) 17 x16) 18 x18) 19 x19) 20 x19) 21 x21) 22 x22) 23 x23) v0 v1 x5 x16) I L)) I L) I L
theorem join47_0 {R : Ending → Imm → Own → Prop} {s : Env} {v0 v1 : Value} {I : Imm} {L : Own} (h : T47_0 R s v0 v1 I L) : J47_0 R (F47_0 s v0 v1) I L :=
  sh_cutB (fun p => if p = [1, 1, 1] then some (J47_1 R) else none) (O := (J47_1 R = J47_1 R) ∧ True) (by kernel_rfl) ⟨rfl, trivial⟩ (by kernel_rfl) h
/-- 47_1: live: 0 1 5 6 -/
def T47_1 (R : Ending → Imm → Own → Prop) (s : Env) (v0 v1 v5 v6 : Value) (I : Imm) (L : Own) : Prop :=
 inv Tryd.prog v6 "Elem" #[] I L (xR R) fun x26 I L =>
 inv Tryd.prog x26 "Kind" #[] I L (xR R) fun x28 I L =>
 eqn Tryd.prog .neq 113 false true x28 (.int .u8 20) I L fun x29 I L =>
 gd (yb (some x29) true) (fun k => k x26 I L) (fun x31 I L =>
 gd (yb (some x29) true) (fun k => ld Tryd.prog 111 (.pointer (some ⟨0, 0, none⟩)) I L k) (fun x32 I L =>
 gd (yb (some x29) true) (fun k => inv Tryd.prog x31 "Implements" #[x32] I L (xR R) k) (fun x33 I L =>
 gd (yb (some x29) true) (fun k => un Tryd.prog .not x33 I L k) (fun x34 I L =>
pck x29 x34 (.bool false) I L fun x35 I L =>
 cnd x35
 (mki Tryd.prog 9 (S [101, 114, 114, 111, 114, 115, 58, 32, 42, 116, 97, 114, 103, 101, 116, 32, 109, 117, 115, 116, 32, 98, 101, 32, 105, 110, 116, 101, 114, 102, 97, 99, 101, 32, 111, 114, 32, 105, 109, 112, 108, 101, 109, 101, 110, 116, 32, 101, 114, 114, 111, 114]) I L fun x36 I L =>
pan x36 I L (xR R))
 (ld Tryd.prog 108 v5 I L fun x39 I L =>
 cal Tryd.prog 61 #[v0, v1, x39, x26] I L (xR R) fun x41 I L =>
R (.returned x41) I L)) I L) I L) I L) I L
theorem join47_1 {R : Ending → Imm → Own → Prop} {s : Env} {v0 v1 v5 v6 : Value} {I : Imm} {L : Own} (h : T47_1 R s v0 v1 v5 v6 I L) : J47_1 R (F47_1 s v0 v1 v5 v6) I L :=
  sh_cutB (fun _ => none) (O := True) (by kernel_rfl) trivial (by kernel_rfl) h
/-- 47: errors.As -/
def M47 (R : Ending → Imm → Own → Prop) (x0 x1 : Value) (I : Imm) (L : Own) : Prop :=
 eqn Tryd.prog .eql 32 false true x0 .nilIface I L fun x9 I L =>
 cnd x9
 (R (.returned (.bool false)) I L)
 (eqn Tryd.prog .eql 20 false true x1 .nilIface I L fun x11 I L =>
 cnd x11
 (mki Tryd.prog 9 (S [101, 114, 114, 111, 114, 115, 58, 32, 116, 97, 114, 103, 101, 116, 32, 99, 97, 110, 110, 111, 116, 32, 98, 101, 32, 110, 105, 108]) I L fun x12 I L =>
pan x12 I L (xR R))
 (J47_0 R (F47_0 (U (U (U (U (U eU 4 (.bool false)) 8 x0) 9 x9) 10 x1) 11 x11) x0 x1) I L))
theorem go47 {R : Ending → Imm → Own → Prop} {x0 x1 : Value} {I : Imm} {L : Own} (h : M47 R x0 x1 I L) : wpC Tryd.prog 47 #[x0, x1] I L R :=
  wpC_goX (endN_le _ _ R) (fun p => if p = [1, 1, 1] then some (J47_0 R) else none) Tryd.func47 (by kernel_rfl) (O := (J47_0 R = J47_0 R) ∧ True) (by kernel_rfl) ⟨rfl, trivial⟩ (by kernel_rfl) h

def F61_r (s : Env) (v8 : Value) : Act := fr 62 (U s 8 v8) []
def F61_0 (s : Env) (v0 v1 v3 v6 : Value) : Act := fr 62 (U (U (U (U s 0 v0) 1 v1) 3 v3) 6 v6) []
def F61_1 (s : Env) (v1 v3 v6 v48 v49 v50 : Value) : Act := fr 62 (U (U (U (U (U (U s 1 v1) 3 v3) 6 v6) 48 v48) 49 v49) 50 v50) []
def F61_2 (s : Env) : Act := fr 62 s []
def Q61_0 (R : Ending → Imm → Own → Prop) : Exit → Act → Imm → Own → Prop := (blkT 0 (endB Tryd.prog Tryd.f61 R))
def L61_0 (R : Ending → Imm → Own → Prop) (a : Act) (I : Imm) (L : Own) : Prop := cdB Tryd.prog (cdIn Tryd.f61 [1, 0]) (Q61_0 R) (endN R) a I L
def Q61_1 (R : Ending → Imm → Own → Prop) (N : Act → Imm → Own → Prop) (Q : Exit → Act → Imm → Own → Prop) : Exit → Act → Imm → Own → Prop := (blkT 3 (seqT (cdB Tryd.prog (cdIn Tryd.f61 [1, 0, 0, 0, 1, 1, 1, 0, 1, 1, 1, 0, 1, 1]) (blkT 2 (blkT 1 (seqT N Q))) (endN R)) (blkT 2 (blkT 1 (seqT N Q)))))
def L61_1 (R : Ending → Imm → Own → Prop) (N : Act → Imm → Own → Prop) (Q : Exit → Act → Imm → Own → Prop) (a : Act) (I : Imm) (L : Own) : Prop := cdB Tryd.prog (cdIn Tryd.f61 [1, 0, 0, 0, 1, 1, 1, 0, 1, 1, 1, 0, 1, 0, 1, 0]) (Q61_1 R N Q) (endN R) a I L
def Q61_2 (R : Ending → Imm → Own → Prop) (N : Act → Imm → Own → Prop) (Q : Exit → Act → Imm → Own → Prop) : Exit → Act → Imm → Own → Prop := (blkT 2 (blkT 1 (seqT N Q)))
def J61_2 (R : Ending → Imm → Own → Prop) (N : Act → Imm → Own → Prop) (Q : Exit → Act → Imm → Own → Prop) (a : Act) (I : Imm) (L : Own) : Prop := cdB Tryd.prog (cdIn Tryd.f61 [1, 0, 0, 0, 1, 1, 1, 0, 1, 1, 1, 0, 1, 1]) (Q61_2 R N Q) (endN R) a I L
/-- loop 61_0: live: 0 1 3 6; what changes: 0 -/
def B61_0 (R : Ending → Imm → Own → Prop) (N : Act → Imm → Own → Prop) (Q : Exit → Act → Imm → Own → Prop) (s : Env) (v0 v1 v3 v6 : Value) (I : Imm) (L : Own) : Prop :=
 cal Tryd.prog 71 #[v0] I L (xR R) fun x17 I L =>
 inv Tryd.prog x17 "AssignableTo" #[v3] I L (xR R) fun x19 I L =>
 cnd x19
 (ld Tryd.prog 108 v6 I L fun x20 I L =>
 cal Tryd.prog 72 #[x20] I L (xR R) fun x21 I L =>
 cal Tryd.prog 58 #[v0] I L (xR R) fun x23 I L =>
 cal Tryd.prog 73 #[x21, x23] I L (xR R) fun x24 I L =>
Q .ret (F61_r (U (U (U (U (U (U (U (U (U (U (U (U (U s 0 v0) 1 v1) 3 v3) 6 v6) 16 v0) 17 x17) 18 v3) 19 x19) 20 x20) 21 x21) 22 v0) 23 x23) 24 x24) (.bool true)) I L)
 (tas Tryd.prog v0 32 131 true I L fun x27 I L =>
 ext Tryd.prog x27 0 I L fun x28 I L =>
 ext Tryd.prog x27 1 I L fun x29 I L =>
 gd (yb (some x29) true) (fun k => k x28 I L) (fun x32 I L =>
 gd (yb (some x29) true) (fun k => k v1 I L) (fun x33 I L =>
 gd (yb (some x29) true) (fun k => inv Tryd.prog x32 "As" #[x33] I L (xR R) k) (fun x34 I L =>
pck x29 x34 (.bool false) I L fun x35 I L =>
 cnd x35
 (Q .ret (F61_r (U (U (U (U (U (U (U (U (U (U (U (U (U (U (U (U (U (U (U (U (U s 0 v0) 1 v1) 3 v3) 6 v6) 9 x28) 10 x29) 16 v0) 17 x17) 18 v3) 19 x19) 25 x27) 26 v0) 27 x27) 28 x28) 29 x29) 30 x29) 31 x29) 32 x32) 33 x33) 34 x34) 35 x35) (.bool true)) I L)
 (tas Tryd.prog v0 32 77 true I L fun x37 I L =>
 ext Tryd.prog x37 1 I L fun x38 I L =>
 ext Tryd.prog x37 0 I L fun x39 I L =>
 cnd x38
 (inv Tryd.prog x39 "Unwrap" #[] I L (xR R) fun x41 I L =>
 eqn Tryd.prog .eql 32 false true x41 .nilIface I L fun x43 I L =>
 cnd x43
 (Q .ret (F61_r (U (U (U (U (U (U (U (U (U (U (U (U (U (U (U (U (U (U (U (U (U (U (U (U (U (U (U (U (U (U s 0 x41) 1 v1) 3 v3) 6 v6) 9 x28) 10 x29) 11 x39) 16 v0) 17 x17) 18 v3) 19 x19) 25 x27) 26 v0) 27 x27) 28 x28) 29 x29) 30 x29) 31 x29) 32 x32) 33 x33) 34 x34) 35 x35) 36 v0) 37 x37) 38 x38) 39 x39) 40 x39) 41 x41) 42 x41) 43 x43) (.bool false)) I L)
 (N (F61_0 (U (U (U (U (U (U (U (U (U (U (U (U (U (U (U (U (U (U (U (U (U (U (U (U (U (U s 9 x28) 10 x29) 11 x39) 16 v0) 17 x17) 18 v3) 19 x19) 25 x27) 26 v0) 27 x27) 28 x28) 29 x29) 30 x29) 31 x29) 32 x32) 33 x33) 34 x34) 35 x35) 36 v0) 37 x37) 38 x38) 39 x39) 40 x39) 41 x41) 42 x41) 43 x43) x41 v1 v3 v6) I L))
 (tas Tryd.prog v0 32 134 true I L fun x44 I L =>
 ext Tryd.prog x44 1 I L fun x45 I L =>
 ext Tryd.prog x44 0 I L fun x46 I L =>
 cnd x45
 (inv Tryd.prog x46 "Unwrap" #[] I L (xR R) fun x48 I L =>
 blt Tryd.prog .len #[135] 3 #[x48] I L fun x49 I L =>
L61_1 R N Q (F61_1 (U (U (U (U (U (U (U (U (U (U (U (U (U (U (U (U (U (U (U (U (U (U (U (U (U (U (U s 0 v0) 9 x28) 10 x29) 12 x46) 16 v0) 17 x17) 18 v3) 19 x19) 25 x27) 26 v0) 27 x27) 28 x28) 29 x29) 30 x29) 31 x29) 32 x32) 33 x33) 34 x34) 35 x35) 36 v0) 37 x37) 38 x38) 39 x39) 44 x44) 45 x45) 46 x46) 47 x46) v1 v3 v6 x48 x49 (.int .i64 0)) I L)
 (Q .ret (F61_r (U (U (U (U (U (U (U (U (U (U (U (U (U (U (U (U (U (U (U (U (U (U (U (U (U (U (U (U (U s 0 v0) 1 v1) 3 v3) 6 v6) 9 x28) 10 x29) 15 v0) 16 v0) 17 x17) 18 v3) 19 x19) 25 x27) 26 v0) 27 x27) 28 x28) 29 x29) 30 x29) 31 x29) 32 x32) 33 x33) 34 x34) 35 x35) 36 v0) 37 x37) 38 x38) 39 x39) 44 x44) 45 x45) 46 x46) (.bool false)) I L)))) I L) I L) I L)
theorem round61_0 {R : Ending → Imm → Own → Prop} {N : Act → Imm → Own → Prop} {Q : Exit → Act → Imm → Own → Prop} {s : Env} {v0 v1 v3 v6 : Value} {I : Imm} {L : Own} (h : B61_0 R N Q s v0 v1 v3 v6 I L) : cdB Tryd.prog (cdIn Tryd.f61 [1, 0, 0]) (seqT N Q) (endN R) (F61_0 s v0 v1 v3 v6) I L :=
  sh_cutB (fun p => if p = [0, 1, 0, 1, 0, 1, 1, 1, 0, 1, 1, 1, 0] then some (L61_1 R N Q) else none) (O := (L61_1 R N Q = L61_1 R N Q) ∧ True) (by kernel_rfl) ⟨rfl, trivial⟩ (by kernel_rfl) h
theorem loop61_0 {R : Ending → Imm → Own → Prop} {s : Env} {v1 v3 v6 : Value} {u0 : Value} {I : Imm} {L : Own} (Inv : Nat → Value → Imm → Own → Prop) {n : Nat} (h : Inv n u0 I L)
  (round : ∀ (n : Nat) (x0 : Value) (I' : Imm) (L' : Own), I.Le I' → Inv n x0 I' L' → ∀ (N' : Act → Imm → Own → Prop), (∀ (m : Nat) {s : Env} {y0 : Value} {I : Imm} {L : Own}, m < n → Inv m y0 I L → N' (F61_0 s y0 v1 v3 v6) I L) → ∀ (s : Env), B61_0 R N' (Q61_0 R) s x0 v1 v3 v6 I' L') : L61_0 R (F61_0 s u0 v1 v3 v6) I L :=
  loop_genB (by kernel_rfl) (fun n a I L => ∃ (s : Env) (x0 : Value), a = (F61_0 s x0 v1 v3 v6) ∧ Inv n x0 I L) ⟨s, _, rfl, h⟩ fun n a I' L' hle ⟨s, x0, e, hi⟩ => e ▸ round61_0 (round n x0 I' L' hle hi (fun a I L => ∃ m, m < n ∧ (fun n a I L => ∃ (s : Env) (x0 : Value), a = (F61_0 s x0 v1 v3 v6) ∧ Inv n x0 I L) m a I L) (fun m {s y0 I L} hm hi => ⟨m, hm, s, _, rfl, hi⟩) s)
theorem out61_0r {R : Ending → Imm → Own → Prop} {s : Env} {v8 : Value} {I : Imm} {L : Own} (h : R (.returned v8) I L) : Q61_0 R .ret (F61_r s v8) I L :=
  Eq.mpr (by kernel_rfl) h
/-- loop 61_1: live: 1 3 6 48 49 50; what changes: 50 -/
def B61_1 (R : Ending → Imm → Own → Prop) (N : Act → Imm → Own → Prop) (Q : Exit → Act → Imm → Own → Prop) (s : Env) (v1 v3 v6 v48 v49 v50 : Value) (I : Imm) (L : Own) : Prop :=
 bin Tryd.prog .lss 3 v50 v49 I L fun x51 I L =>
 cnd x51
 (iad Tryd.prog 135 v48 v50 I L fun x52 I L =>
 ld Tryd.prog 32 x52 I L fun x53 I L =>
 eqn Tryd.prog .eql 32 false true x53 .nilIface I L fun x55 I L =>
 cnd x55
 (bin Tryd.prog .add 3 v50 (.int .i64 1) I L fun x61 I L =>
N (F61_1 (U (U (U (U (U (U (U s 14 x53) 51 x51) 52 x52) 53 x53) 54 x53) 55 x55) 61 x61) v1 v3 v6 v48 v49 x61) I L)
 (ld Tryd.prog 108 v6 I L fun x58 I L =>
 cal Tryd.prog 61 #[x53, v1, x58, v3] I L (xR R) fun x60 I L =>
 cnd x60
 (Q .ret (F61_r (U (U (U (U (U (U (U (U (U (U (U (U (U (U (U (U (U s 1 v1) 3 v3) 6 v6) 14 x53) 48 v48) 49 v49) 50 v50) 51 x51) 52 x52) 53 x53) 54 x53) 55 x55) 56 x53) 57 v1) 58 x58) 59 v3) 60 x60) (.bool true)) I L)
 (bin Tryd.prog .add 3 v50 (.int .i64 1) I L fun x61 I L =>
N (F61_1 (U (U (U (U (U (U (U (U (U (U (U (U s 14 x53) 51 x51) 52 x52) 53 x53) 54 x53) 55 x55) 56 x53) 57 v1) 58 x58) 59 v3) 60 x60) 61 x61) v1 v3 v6 v48 v49 x61) I L)))
 (Q (.exit 3) (F61_2 (U (U (U (U (U (U (U s 1 v1) 3 v3) 6 v6) 48 v48) 49 v49) 50 v50) 51 x51)) I L)
theorem round61_1 {R : Ending → Imm → Own → Prop} {N : Act → Imm → Own → Prop} {Q : Exit → Act → Imm → Own → Prop} {s : Env} {v1 v3 v6 v48 v49 v50 : Value} {I : Imm} {L : Own} (h : B61_1 R N Q s v1 v3 v6 v48 v49 v50 I L) : cdB Tryd.prog (cdIn Tryd.f61 [1, 0, 0, 0, 1, 1, 1, 0, 1, 1, 1, 0, 1, 0, 1, 0, 0]) (seqT N Q) (endN R) (F61_1 s v1 v3 v6 v48 v49 v50) I L :=
  sh_cutB (fun _ => none) (O := True) (by kernel_rfl) trivial (by kernel_rfl) h
theorem loop61_1 {R : Ending → Imm → Own → Prop} {N : Act → Imm → Own → Prop} {Q : Exit → Act → Imm → Own → Prop} {s : Env} {v1 v3 v6 v48 v49 : Value} {u50 : Value} {I : Imm} {L : Own} (Inv : Nat → Value → Imm → Own → Prop) {n : Nat} (h : Inv n u50 I L)
  (round : ∀ (n : Nat) (x50 : Value) (I' : Imm) (L' : Own), I.Le I' → Inv n x50 I' L' → ∀ (N' : Act → Imm → Own → Prop), (∀ (m : Nat) {s : Env} {y50 : Value} {I : Imm} {L : Own}, m < n → Inv m y50 I L → N' (F61_1 s v1 v3 v6 v48 v49 y50) I L) → ∀ (s : Env), B61_1 R N' (Q61_1 R N Q) s v1 v3 v6 v48 v49 x50 I' L') : L61_1 R N Q (F61_1 s v1 v3 v6 v48 v49 u50) I L :=
  loop_genB (by kernel_rfl) (fun n a I L => ∃ (s : Env) (x50 : Value), a = (F61_1 s v1 v3 v6 v48 v49 x50) ∧ Inv n x50 I L) ⟨s, _, rfl, h⟩ fun n a I' L' hle ⟨s, x50, e, hi⟩ => e ▸ round61_1 (round n x50 I' L' hle hi (fun a I L => ∃ m, m < n ∧ (fun n a I L => ∃ (s : Env) (x50 : Value), a = (F61_1 s v1 v3 v6 v48 v49 x50) ∧ Inv n x50 I L) m a I L) (fun m {s y50 I L} hm hi => ⟨m, hm, s, _, rfl, hi⟩) s)
theorem out61_1x3 {R : Ending → Imm → Own → Prop} {N : Act → Imm → Own → Prop} {Q : Exit → Act → Imm → Own → Prop} {s : Env} {I : Imm} {L : Own} (h : J61_2 R N Q (F61_2 s) I L) : Q61_1 R N Q (.exit 3) (F61_2 s) I L :=
  Eq.mpr (by kernel_rfl) h
theorem out61_1r {R : Ending → Imm → Own → Prop} {N : Act → Imm → Own → Prop} {Q : Exit → Act → Imm → Own → Prop} {s : Env} {v8 : Value} {I : Imm} {L : Own} (h : Q .ret (F61_r s v8) I L) : Q61_1 R N Q .ret (F61_r s v8) I L :=
  Eq.mpr (by kernel_rfl) h
/-- 61_2: live:  -/
def T61_2 (R : Ending → Imm → Own → Prop) (N : Act → Imm → Own → Prop) (Q : Exit → Act → Imm → Own → Prop) (s : Env) (I : Imm) (L : Own) : Prop :=
Q .ret (F61_r s (.bool false)) I L
theorem join61_2 {R : Ending → Imm → Own → Prop} {N : Act → Imm → Own → Prop} {Q : Exit → Act → Imm → Own → Prop} {s : Env} {I : Imm} {L : Own} (h : T61_2 R N Q s I L) : J61_2 R N Q (F61_2 s) I L :=
  sh_cutB (fun _ => none) (O := True) (by kernel_rfl) trivial (by kernel_rfl) h
/-- 61: errors.as -/
def M61 (R : Ending → Imm → Own → Prop) (x0 x1 x2 x3 : Value) (I : Imm) (L : Own) : Prop :=
 bx Tryd.prog 108 x2 I L fun x6 I L =>
L61_0 R (F61_0 (U (U eU 2 x2) 8 (.bool false)) x0 x1 x3 x6) I L
theorem go61 {R : Ending → Imm → Own → Prop} {x0 x1 x2 x3 : Value} {I : Imm} {L : Own} (h : M61 R x0 x1 x2 x3 I L) : wpC Tryd.prog 61 #[x0, x1, x2, x3] I L R :=
  wpC_goX (endN_le _ _ R) (fun p => if p = [0, 1] then some (L61_0 R) else none) Tryd.func61 (by kernel_rfl) (O := (L61_0 R = L61_0 R) ∧ True) (by kernel_rfl) ⟨rfl, trivial⟩ (by kernel_rfl) h

def F48_r (s : Env) (v2 : Value) : Act := fr 23 (U s 2 v2) []
def F48_0 (s : Env) (v0 : Value) : Act := fr 23 (U s 0 v0) []
def F48_1 (s : Env) (v2 : Value) : Act := fr 23 (U s 2 v2) []
def Q48_0 (R : Ending → Imm → Own → Prop) : Exit → Act → Imm → Own → Prop := (seqT (cdB Tryd.prog (cdIn Tryd.f48 [1, 1, 1, 1]) (endB Tryd.prog Tryd.f48 R) (endN R)) (endB Tryd.prog Tryd.f48 R))
def D48_0 (R : Ending → Imm → Own → Prop) (a : Act) (I : Imm) (L : Own) : Prop := cdB Tryd.prog (cdIn Tryd.f48 [1, 1, 1, 0]) (Q48_0 R) (endN R) a I L
def Q48_1 (R : Ending → Imm → Own → Prop) : Exit → Act → Imm → Own → Prop := (endB Tryd.prog Tryd.f48 R)
def J48_1 (R : Ending → Imm → Own → Prop) (a : Act) (I : Imm) (L : Own) : Prop := cdB Tryd.prog (cdIn Tryd.f48 [1, 1, 1, 1]) (Q48_1 R) (endN R) a I L
/-- 48_0: live: 0 -/
def G48_0 (R : Ending → Imm → Own → Prop) (C : Cls) (s : Env) (v0 : Value) (I : Imm) (L : Own) : Prop :=
 qnck Tryd.prog v0 C fun x13 =>
 qfad Tryd.prog 85 x13 5 C fun x14 =>
 qld Tryd.prog 68 x14 C fun x15 =>
 qnck Tryd.prog v0 C fun x18 =>
 qfad Tryd.prog 85 x18 6 C fun x19 =>
 qld Tryd.prog 68 x19 C fun x20 =>
 cal Tryd.prog 48 #[x15] I L (xR R) fun x16 I L =>
 (C I L ∧
 cal Tryd.prog 48 #[x20] I L (xR R) fun x21 I L =>
 (C I L ∧
 blt Tryd.prog .append #[82, 82] 82 #[x16, x21] I L fun x22 I L =>
 (C I L ∧
J48_1 R (F48_1 (U (U (U (U (U (U (U (U (U (U (U (U s 0 v0) 12 v0) 13 x13) 14 x14) 15 x15) 16 x16) 17 v0) 18 x18) 19 x19) 20 x20) 21 x21) 22 x22) x22) I L)))
theorem draw48_0 {R : Ending → Imm → Own → Prop} {C : Cls} {s : Env} {v0 : Value} {I : Imm} {L : Own} (hC : C I L) (h : G48_0 R C s v0 I L) : D48_0 R (F48_0 s v0) I L :=
  draw_planB (ops := opsIn Tryd.f48 [1, 1, 1, 0]) (id := 5) (Q := Q48_0 R) (X := (endN R)) endN_put (.take 0 (.take 1 (.take 2 (.take 3 (.take 5 (.take 6 (.take 7 (.take 8 (.all fun _ => (.all fun _ => (.all fun _ => (.take 11 .done)))))))))))) [] (by kernel_rfl) rfl (by kernel_rfl) (by kernel_rfl) hC h
/-- 48_1: live: 2 -/
def T48_1 (R : Ending → Imm → Own → Prop) (s : Env) (v2 : Value) (I : Imm) (L : Own) : Prop :=
R (.returned v2) I L
theorem join48_1 {R : Ending → Imm → Own → Prop} {s : Env} {v2 : Value} {I : Imm} {L : Own} (h : T48_1 R s v2 I L) : J48_1 R (F48_1 s v2) I L :=
  sh_cutB (fun _ => none) (O := True) (by kernel_rfl) trivial (by kernel_rfl) h
/-- 48: escritoire/expr.Names -/
def M48 (R : Ending → Imm → Own → Prop) (x0 : Value) (I : Imm) (L : Own) : Prop :=
 eqn Tryd.prog .eql 68 false true x0 (.pointer none) I L fun x4 I L =>
 cnd x4
 (R (.returned (.slice none 0 0)) I L)
 (nck Tryd.prog x0 I L fun x6 I L =>
 fad Tryd.prog 85 x6 0 I L fun x7 I L =>
 ld Tryd.prog 3 x7 I L fun x8 I L =>
 eqn Tryd.prog .eql 3 false true x8 (.int .i64 2) I L fun x9 I L =>
 cnd x9
 (bsl Tryd.prog 82 1 #[(0, x0)] I L fun x11 I L =>
R (.returned x11) I L)
 (D48_0 R (F48_0 (U (U (U (U (U (U (U (U eU 2 (.slice none 0 0)) 3 x0) 4 x4) 5 x0) 6 x6) 7 x7) 8 x8) 9 x9) x0) I L))
theorem go48 {R : Ending → Imm → Own → Prop} {x0 : Value} {I : Imm} {L : Own} (h : M48 R x0 I L) : wpC Tryd.prog 48 #[x0] I L R :=
  wpC_goX (endN_le _ _ R) (fun p => if p = [0, 1, 1, 1] then some (D48_0 R) else none) Tryd.func48 (by kernel_rfl) (O := (D48_0 R = D48_0 R) ∧ True) (by kernel_rfl) ⟨rfl, trivial⟩ (by kernel_rfl) h

def F49_r (s : Env) (v4 : Value) : Act := fr 9 (U s 4 v4) []
/-- 49: slices.Contains[[]string,string] -/
def M49 (R : Ending → Imm → Own → Prop) (x0 x1 : Value) (I : Imm) (L : Own) : Prop :=
 cal Tryd.prog 62 #[x0, x1] I L (xR R) fun x7 I L =>
 bin Tryd.prog .geq 3 x7 (.int .i64 0) I L fun x8 I L =>
R (.returned x8) I L
theorem go49 {R : Ending → Imm → Own → Prop} {x0 x1 : Value} {I : Imm} {L : Own} (h : M49 R x0 x1 I L) : wpC Tryd.prog 49 #[x0, x1] I L R :=
  wpC_goX (endN_le _ _ R) (fun _ => none) Tryd.func49 (by kernel_rfl) (O := True) (by kernel_rfl) trivial (by kernel_rfl) h

def F62_r (s : Env) (v4 : Value) : Act := fr 19 (U s 4 v4) []
def F62_0 (s : Env) (v0 v1 v7 v8 : Value) : Act := fr 19 (U (U (U (U s 0 v0) 1 v1) 7 v7) 8 v8) []
def F62_1 (s : Env) : Act := fr 19 s []
def Q62_0 (R : Ending → Imm → Own → Prop) : Exit → Act → Imm → Own → Prop := (blkT 0 (seqT (cdB Tryd.prog (cdIn Tryd.f62 [1, 1]) (endB Tryd.prog Tryd.f62 R) (endN R)) (endB Tryd.prog Tryd.f62 R)))
def L62_0 (R : Ending → Imm → Own → Prop) (a : Act) (I : Imm) (L : Own) : Prop := cdB Tryd.prog (cdIn Tryd.f62 [1, 0, 1, 0]) (Q62_0 R) (endN R) a I L
def Q62_1 (R : Ending → Imm → Own → Prop) : Exit → Act → Imm → Own → Prop := (endB Tryd.prog Tryd.f62 R)
def J62_1 (R : Ending → Imm → Own → Prop) (a : Act) (I : Imm) (L : Own) : Prop := cdB Tryd.prog (cdIn Tryd.f62 [1, 1]) (Q62_1 R) (endN R) a I L
/-- loop 62_0: live: 0 1 7 8; what changes: 8 -/
def B62_0 (R : Ending → Imm → Own → Prop) (N : Act → Imm → Own → Prop) (Q : Exit → Act → Imm → Own → Prop) (s : Env) (v0 v1 v7 v8 : Value) (I : Imm) (L : Own) : Prop :=
 bin Tryd.prog .lss 3 v8 v7 I L fun x9 I L =>
 cnd x9
 (iad Tryd.prog 57 v0 v8 I L fun x14 I L =>
 ld Tryd.prog 9 x14 I L fun x15 I L =>
 eqn Tryd.prog .eql 9 false false v1 x15 I L fun x16 I L =>
 cnd x16
 (Q .ret (F62_r (U (U (U (U (U (U (U (U (U (U (U (U (U (U s 0 v0) 1 v1) 5 v8) 7 v7) 8 v8) 9 x9) 10 v8) 11 v1) 12 v0) 13 v8) 14 x14) 15 x15) 16 x16) 17 v8) v8) I L)
 (bin Tryd.prog .add 3 v8 (.int .i64 1) I L fun x18 I L =>
N (F62_0 (U (U (U (U (U (U (U (U (U (U s 5 v8) 9 x9) 10 v8) 11 v1) 12 v0) 13 v8) 14 x14) 15 x15) 16 x16) 18 x18) v0 v1 v7 x18) I L))
 (Q (.exit 0) (F62_1 (U (U (U (U (U s 0 v0) 1 v1) 7 v7) 8 v8) 9 x9)) I L)
theorem round62_0 {R : Ending → Imm → Own → Prop} {N : Act → Imm → Own → Prop} {Q : Exit → Act → Imm → Own → Prop} {s : Env} {v0 v1 v7 v8 : Value} {I : Imm} {L : Own} (h : B62_0 R N Q s v0 v1 v7 v8 I L) : cdB Tryd.prog (cdIn Tryd.f62 [1, 0, 1, 0, 0]) (seqT N Q) (endN R) (F62_0 s v0 v1 v7 v8) I L :=
  sh_cutB (fun _ => none) (O := True) (by kernel_rfl) trivial (by kernel_rfl) h
theorem loop62_0 {R : Ending → Imm → Own → Prop} {s : Env} {v0 v1 v7 : Value} {u8 : Value} {I : Imm} {L : Own} (Inv : Nat → Value → Imm → Own → Prop) {n : Nat} (h : Inv n u8 I L)
  (round : ∀ (n : Nat) (x8 : Value) (I' : Imm) (L' : Own), I.Le I' → Inv n x8 I' L' → ∀ (N' : Act → Imm → Own → Prop), (∀ (m : Nat) {s : Env} {y8 : Value} {I : Imm} {L : Own}, m < n → Inv m y8 I L → N' (F62_0 s v0 v1 v7 y8) I L) → ∀ (s : Env), B62_0 R N' (Q62_0 R) s v0 v1 v7 x8 I' L') : L62_0 R (F62_0 s v0 v1 v7 u8) I L :=
  loop_genB (by kernel_rfl) (fun n a I L => ∃ (s : Env) (x8 : Value), a = (F62_0 s v0 v1 v7 x8) ∧ Inv n x8 I L) ⟨s, _, rfl, h⟩ fun n a I' L' hle ⟨s, x8, e, hi⟩ => e ▸ round62_0 (round n x8 I' L' hle hi (fun a I L => ∃ m, m < n ∧ (fun n a I L => ∃ (s : Env) (x8 : Value), a = (F62_0 s v0 v1 v7 x8) ∧ Inv n x8 I L) m a I L) (fun m {s y8 I L} hm hi => ⟨m, hm, s, _, rfl, hi⟩) s)
theorem out62_0x0 {R : Ending → Imm → Own → Prop} {s : Env} {I : Imm} {L : Own} (h : J62_1 R (F62_1 s) I L) : Q62_0 R (.exit 0) (F62_1 s) I L :=
  Eq.mpr (by kernel_rfl) h
theorem out62_0r {R : Ending → Imm → Own → Prop} {s : Env} {v4 : Value} {I : Imm} {L : Own} (h : R (.returned v4) I L) : Q62_0 R .ret (F62_r s v4) I L :=
  Eq.mpr (by kernel_rfl) h
/-- 62_1: live:  -/
def T62_1 (R : Ending → Imm → Own → Prop) (s : Env) (I : Imm) (L : Own) : Prop :=
R (.returned (.int .i64 (-1))) I L
theorem join62_1 {R : Ending → Imm → Own → Prop} {s : Env} {I : Imm} {L : Own} (h : T62_1 R s I L) : J62_1 R (F62_1 s) I L :=
  sh_cutB (fun _ => none) (O := True) (by kernel_rfl) trivial (by kernel_rfl) h
/-- 62: slices.Index[[]string,string] -/
def M62 (R : Ending → Imm → Own → Prop) (x0 x1 : Value) (I : Imm) (L : Own) : Prop :=
 blt Tryd.prog .len #[57] 3 #[x0] I L fun x7 I L =>
L62_0 R (F62_0 (U (U eU 4 (.int .i64 0)) 6 x0) x0 x1 x7 (.int .i64 0)) I L
theorem go62 {R : Ending → Imm → Own → Prop} {x0 x1 : Value} {I : Imm} {L : Own} (h : M62 R x0 x1 I L) : wpC Tryd.prog 62 #[x0, x1] I L R :=
  wpC_goX (endN_le _ _ R) (fun p => if p = [0, 1, 0, 1] then some (L62_0 R) else none) Tryd.func62 (by kernel_rfl) (O := (L62_0 R = L62_0 R) ∧ True) (by kernel_rfl) ⟨rfl, trivial⟩ (by kernel_rfl) h
end Go.Proofs.YtkclodaplbalfaaDoor
