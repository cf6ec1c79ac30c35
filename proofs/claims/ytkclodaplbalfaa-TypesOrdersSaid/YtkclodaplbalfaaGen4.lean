/- The shallow forms of the functions, printed by a program of this claim's writer out of the loaded translation, each checked by the kernel. Conditions: none. -/
import Derived.Test.YtkclodaplbalfaaSl
import Derived.Test.YtkclodaplbalfaaProg
set_option linter.unusedVariables false
set_option maxRecDepth 100000
namespace Go.Proofs.Ytkclodaplbalfaa
open Go Sl

def Q42_0 (R : Ending → Imm → Own → Prop) : Exit → Act → Imm → Own → Prop := (blkT 0 (seqT (cdT Try.prog (cdIn Try.f42 [1, 1]) (endT Try.prog Try.f42 R) (endX R)) (endT Try.prog Try.f42 R)))
def L42_0 (R : Ending → Imm → Own → Prop) (a : Act) (I : Imm) (L : Own) : Prop := cdT Try.prog (cdIn Try.f42 [1, 0, 1, 0]) (Q42_0 R) (endX R) a I L
def Q42_1 (R : Ending → Imm → Own → Prop) : Exit → Act → Imm → Own → Prop := (endT Try.prog Try.f42 R)
def J42_1 (R : Ending → Imm → Own → Prop) (a : Act) (I : Imm) (L : Own) : Prop := cdT Try.prog (cdIn Try.f42 [1, 1]) (Q42_1 R) (endX R) a I L
/-- loop 42_0: what changes: 8; beside: 4 5 9 10 11 12 13 14 15 16 17 18 -/
def B42_0 (N : Act → Imm → Own → Prop) (Q : Exit → Act → Imm → Own → Prop) (X : XT) (s0 s1 s2 s3 s4 s5 s6 s7 s8 s9 s10 s11 s12 s13 s14 s15 s16 s17 s18 : Value) (I : Imm) (L : Own) : Prop :=
 bin Try.prog .lss 3 s8 s7 I L fun x9 I L =>
 cnd x9
 (iad Try.prog 38 s0 s8 I L fun x14 I L =>
 ld Try.prog 3 x14 I L fun x15 I L =>
 eqn Try.prog .eql 3 false false s1 x15 I L fun x16 I L =>
 cnd x16
 (Q .ret ⟨#[s0, s1, s2, s3, s8, s8, s6, s7, s8, x9, s8, s1, s0, s8, x14, x15, x16, s8, s18], []⟩ I L)
 (bin Try.prog .add 3 s8 (.int .i64 1) I L fun x18 I L =>
N ⟨#[s0, s1, s2, s3, s4, s8, s6, s7, x18, x9, s8, s1, s0, s8, x14, x15, x16, s17, x18], []⟩ I L))
 (Q (.exit 0) ⟨#[s0, s1, s2, s3, s4, s5, s6, s7, s8, x9, s10, s11, s12, s13, s14, s15, s16, s17, s18], []⟩ I L)
theorem round42_0 {N : Act → Imm → Own → Prop} {Q : Exit → Act → Imm → Own → Prop} {X : XT} {s0 s1 s2 s3 s4 s5 s6 s7 s8 s9 s10 s11 s12 s13 s14 s15 s16 s17 s18 : Value} {I : Imm} {L : Own} (h : B42_0 N Q X s0 s1 s2 s3 s4 s5 s6 s7 s8 s9 s10 s11 s12 s13 s14 s15 s16 s17 s18 I L) : cdT Try.prog (cdIn Try.f42 [1, 0, 1, 0, 0]) (seqT N Q) X ⟨#[s0, s1, s2, s3, s4, s5, s6, s7, s8, s9, s10, s11, s12, s13, s14, s15, s16, s17, s18], []⟩ I L :=
  sh_cut (fun _ => none) (O := True) (by kernel_rfl) trivial (by kernel_rfl) h
theorem loop42_0 {R : Ending → Imm → Own → Prop} {s0 s1 s2 s3 s6 s7 : Value} {x8 u4 u5 u9 u10 u11 u12 u13 u14 u15 u16 u17 u18 : Value} {I : Imm} {L : Own} (Inv : Nat → Value → Imm → Own → Prop) {n : Nat} (h : Inv n x8 I L)
  (round : ∀ (n : Nat) (x8 : Value) (I' : Imm) (L' : Own), I.Le I' → Inv n x8 I' L' → ∀ (N' : Act → Imm → Own → Prop), (∀ (m : Nat) {y8 w4 w5 w9 w10 w11 w12 w13 w14 w15 w16 w17 w18 : Value} {I : Imm} {L : Own}, m < n → Inv m y8 I L → N' ⟨#[s0, s1, s2, s3, w4, w5, s6, s7, y8, w9, w10, w11, w12, w13, w14, w15, w16, w17, w18], []⟩ I L) → ∀ (u : Nat → Value), B42_0 N' (Q42_0 R) (endX R) s0 s1 s2 s3 (u 4) (u 5) s6 s7 x8 (u 9) (u 10) (u 11) (u 12) (u 13) (u 14) (u 15) (u 16) (u 17) (u 18) I' L') : L42_0 R ⟨#[s0, s1, s2, s3, u4, u5, s6, s7, x8, u9, u10, u11, u12, u13, u14, u15, u16, u17, u18], []⟩ I L :=
  loop_gen (by kernel_rfl) (fun n a I L => ∃ (x8 : Value) (u : Nat → Value), a = (⟨#[s0, s1, s2, s3, u 4, u 5, s6, s7, x8, u 9, u 10, u 11, u 12, u 13, u 14, u 15, u 16, u 17, u 18], []⟩ : Act) ∧ Inv n x8 I L) ⟨x8, (fun i => (Act.tmps ⟨#[s0, s1, s2, s3, u4, u5, s6, s7, x8, u9, u10, u11, u12, u13, u14, u15, u16, u17, u18], []⟩).getD i undef), (by kernel_rfl), h⟩
    (fun n a I' L' hle ⟨x8, u, e, hi⟩ => e ▸ round42_0 (round n x8 I' L' hle hi (fun a I L => ∃ m, m < n ∧ (fun n a I L => ∃ (x8 : Value) (u : Nat → Value), a = (⟨#[s0, s1, s2, s3, u 4, u 5, s6, s7, x8, u 9, u 10, u 11, u 12, u 13, u 14, u 15, u 16, u 17, u 18], []⟩ : Act) ∧ Inv n x8 I L) m a I L) (fun m => fun {y8 w4 w5 w9 w10 w11 w12 w13 w14 w15 w16 w17 w18 I L} hm hi => ⟨m, hm, y8, (fun i => (Act.tmps ⟨#[s0, s1, s2, s3, w4, w5, s6, s7, y8, w9, w10, w11, w12, w13, w14, w15, w16, w17, w18], []⟩).getD i undef), (by kernel_rfl), hi⟩) u))
theorem out42_0x0 {R : Ending → Imm → Own → Prop} {s0 s1 s2 s3 s4 s5 s6 s7 s8 s9 s10 s11 s12 s13 s14 s15 s16 s17 s18 : Value} {I : Imm} {L : Own} (h : J42_1 R ⟨#[s0, s1, s2, s3, s4, s5, s6, s7, s8, s9, s10, s11, s12, s13, s14, s15, s16, s17, s18], []⟩ I L) : Q42_0 R (.exit 0) ⟨#[s0, s1, s2, s3, s4, s5, s6, s7, s8, s9, s10, s11, s12, s13, s14, s15, s16, s17, s18], []⟩ I L :=
  Eq.mpr (by kernel_rfl) h
theorem out42_0r {R : Ending → Imm → Own → Prop} {s0 s1 s2 s3 s4 s5 s6 s7 s8 s9 s10 s11 s12 s13 s14 s15 s16 s17 s18 : Value} {I : Imm} {L : Own} (h : R (.returned s4) I L) : Q42_0 R .ret ⟨#[s0, s1, s2, s3, s4, s5, s6, s7, s8, s9, s10, s11, s12, s13, s14, s15, s16, s17, s18], []⟩ I L :=
  Eq.mpr (by kernel_rfl) h
def T42_1 (R : Ending → Imm → Own → Prop) (s0 s1 s2 s3 s4 s5 s6 s7 s8 s9 s10 s11 s12 s13 s14 s15 s16 s17 s18 : Value) (I : Imm) (L : Own) : Prop :=
R (.returned (.int .i64 (-1))) I L
theorem join42_1 {R : Ending → Imm → Own → Prop} {s0 s1 s2 s3 s4 s5 s6 s7 s8 s9 s10 s11 s12 s13 s14 s15 s16 s17 s18 : Value} {I : Imm} {L : Own} (h : T42_1 R s0 s1 s2 s3 s4 s5 s6 s7 s8 s9 s10 s11 s12 s13 s14 s15 s16 s17 s18 I L) : J42_1 R ⟨#[s0, s1, s2, s3, s4, s5, s6, s7, s8, s9, s10, s11, s12, s13, s14, s15, s16, s17, s18], []⟩ I L :=
  sh_cut (fun _ => none) (O := True) (by kernel_rfl) trivial (by kernel_rfl) h
/-- 42: slices.Index[[]int,int] -/
def M42 (R : Ending → Imm → Own → Prop) (x0 x1 : Value) (I : Imm) (L : Own) : Prop :=
 blt Try.prog .len #[38] 3 #[x0] I L fun x7 I L =>
L42_0 R ⟨#[x0, x1, undef, undef, (.int .i64 0), undef, x0, x7, (.int .i64 0), undef, undef, undef, undef, undef, undef, undef, undef, undef, undef], []⟩ I L
theorem go42 {R : Ending → Imm → Own → Prop} {x0 x1 : Value} {I : Imm} {L : Own} (h : M42 R x0 x1 I L) : wpC Try.prog 42 #[x0, x1] I L R :=
  wpC_go (fun p => if p = [0, 1, 0, 1] then some (L42_0 R) else none) Try.func42 (by kernel_rfl) (O := (L42_0 R = L42_0 R) ∧ True) (by kernel_rfl) ⟨rfl, trivial⟩ (by kernel_rfl) h

/-- 43: escritoire/escritoireref.isLetter -/
def M43 (R : Ending → Imm → Own → Prop) (x0 : Value) (I : Imm) (L : Own) : Prop :=
 eqn Try.prog .eql 5 false true x0 (.int .u8 95) I L fun x4 I L =>
gd (yb (some x4) false) (fun k => k x0 I L) (fun x6 I L =>
gd (yb (some x4) false) (fun k => bin Try.prog .geq 5 x6 (.int .u8 97) I L k) (fun x7 I L =>
gd (yb (some x4) false) (fun k => k x7 I L) (fun x8 I L =>
gd (yb (some x8) true) (fun k => k x0 I L) (fun x9 I L =>
gd (yb (some x8) true) (fun k => bin Try.prog .leq 5 x9 (.int .u8 122) I L k) (fun x10 I L =>
gd (yb (some x4) false) (fun k => pck x8 x10 (.bool false) I L k) (fun x11 I L =>
pck x4 (.bool true) x11 I L fun x12 I L =>
gd (yb (some x12) false) (fun k => k x0 I L) (fun x14 I L =>
gd (yb (some x12) false) (fun k => bin Try.prog .geq 5 x14 (.int .u8 65) I L k) (fun x15 I L =>
gd (yb (some x12) false) (fun k => k x15 I L) (fun x16 I L =>
gd (yb (some x16) true) (fun k => k x0 I L) (fun x17 I L =>
gd (yb (some x16) true) (fun k => bin Try.prog .leq 5 x17 (.int .u8 90) I L k) (fun x18 I L =>
gd (yb (some x12) false) (fun k => pck x16 x18 (.bool false) I L k) (fun x19 I L =>
pck x12 (.bool true) x19 I L fun x20 I L =>
R (.returned x20) I L) I L) I L) I L) I L) I L) I L) I L) I L) I L) I L) I L) I L
theorem go43 {R : Ending → Imm → Own → Prop} {x0 : Value} {I : Imm} {L : Own} (h : M43 R x0 I L) : wpC Try.prog 43 #[x0] I L R :=
  wpC_go (fun _ => none) Try.func43 (by kernel_rfl) (O := True) (by kernel_rfl) trivial (by kernel_rfl) h

/-- 44: escritoire/escritoireref.isDigit -/
def M44 (R : Ending → Imm → Own → Prop) (x0 : Value) (I : Imm) (L : Own) : Prop :=
 bin Try.prog .geq 5 x0 (.int .u8 48) I L fun x4 I L =>
gd (yb (some x4) true) (fun k => k x0 I L) (fun x6 I L =>
gd (yb (some x4) true) (fun k => bin Try.prog .leq 5 x6 (.int .u8 57) I L k) (fun x7 I L =>
pck x4 x7 (.bool false) I L fun x8 I L =>
R (.returned x8) I L) I L) I L
theorem go44 {R : Ending → Imm → Own → Prop} {x0 : Value} {I : Imm} {L : Own} (h : M44 R x0 I L) : wpC Try.prog 44 #[x0] I L R :=
  wpC_go (fun _ => none) Try.func44 (by kernel_rfl) (O := True) (by kernel_rfl) trivial (by kernel_rfl) h

def Q47_0 (R : Ending → Imm → Own → Prop) : Exit → Act → Imm → Own → Prop := (blkT 0 (seqT (cdT Try.prog (cdIn Try.f47 [1, 1, 1]) (endT Try.prog Try.f47 R) (endX R)) (endT Try.prog Try.f47 R)))
def L47_0 (R : Ending → Imm → Own → Prop) (a : Act) (I : Imm) (L : Own) : Prop := cdT Try.prog (cdIn Try.f47 [1, 1, 0, 0]) (Q47_0 R) (endX R) a I L
def Q47_1 (R : Ending → Imm → Own → Prop) : Exit → Act → Imm → Own → Prop := (endT Try.prog Try.f47 R)
def J47_1 (R : Ending → Imm → Own → Prop) (a : Act) (I : Imm) (L : Own) : Prop := cdT Try.prog (cdIn Try.f47 [1, 1, 1]) (Q47_1 R) (endX R) a I L
/-- loop 47_0: what changes: 7; beside: 8 9 10 14 15 16 17 18 19 20 21 22 23 24 25 26 27 28 29 30 31 32 33 34 35 36 37 38 39 40 41 42 43 44 45 46 47 -/
def B47_0 (N : Act → Imm → Own → Prop) (Q : Exit → Act → Imm → Own → Prop) (X : XT) (s0 s1 s2 s3 s4 s5 s6 s7 s8 s9 s10 s11 s12 s13 s14 s15 s16 s17 s18 s19 s20 s21 s22 s23 s24 s25 s26 s27 s28 s29 s30 s31 s32 s33 s34 s35 s36 s37 s38 s39 s40 s41 s42 s43 s44 s45 s46 s47 s48 : Value) (I : Imm) (L : Own) : Prop :=
 cal Try.prog 14 #[s0] I L (fun ch => X ch []) fun x15 I L =>
 un Try.prog .not x15 I L fun x16 I L =>
gd (yb (some x16) true) (fun k => k s0 I L) (fun x18 I L =>
gd (yb (some x16) true) (fun k => cal Try.prog 15 #[x18] I L (fun ch => X ch []) k) (fun x19 I L =>
gd (yb (some x16) true) (fun k => cal Try.prog 54 #[x19] I L (fun ch => X ch []) k) (fun x20 I L =>
gd (yb (some x16) true) (fun k => k s1 I L) (fun x21 I L =>
gd (yb (some x16) true) (fun k => bin Try.prog .geq 3 x20 x21 I L k) (fun x22 I L =>
pck x16 x22 (.bool false) I L fun x23 I L =>
gd (yb (some x23) true) (fun k => k s0 I L) (fun x25 I L =>
gd (yb (some x23) true) (fun k => cal Try.prog 15 #[x25] I L (fun ch => X ch []) k) (fun x26 I L =>
gd (yb (some x23) true) (fun k => cal Try.prog 54 #[x26] I L (fun ch => X ch []) k) (fun x27 I L =>
gd (yb (some x23) true) (fun k => bin Try.prog .gtr 3 x27 (.int .i64 0) I L k) (fun x28 I L =>
pck x23 x28 (.bool false) I L fun x29 I L =>
 cnd x29
 (cal Try.prog 17 #[s0] I L (fun ch => X ch []) fun x31 I L =>
 cal Try.prog 15 #[s0] I L (fun ch => X ch []) fun x33 I L =>
 cal Try.prog 34 #[s0] I L (fun ch => X ch []) fun x35 I L =>
 cal Try.prog 54 #[x33] I L (fun ch => X ch []) fun x38 I L =>
 bin Try.prog .add 3 x38 (.int .i64 1) I L fun x39 I L =>
 cal Try.prog 47 #[s0, x39, s2] I L (fun ch => X ch []) fun x41 I L =>
 bld Try.prog 74 #[(0, (.int .i64 3)), (1, x31), (4, x33), (5, s7), (6, x41)] I L fun x46 I L =>
 bx Try.prog 74 x46 I L fun x47 I L =>
N ⟨#[s0, s1, s2, s3, s4, s5, s6, x47, x31, x33, x41, s11, s12, s13, s0, x15, x16, x16, x18, x19, x20, x21, x22, x23, x23, x25, x26, x27, x28, x29, s0, x31, s0, x33, s0, x35, s0, x33, x38, x39, s2, x41, x31, x33, s7, x41, x46, x47, s48], []⟩ I L)
 (Q (.exit 0) ⟨#[s0, s1, s2, s3, s4, s5, s6, s7, s8, s9, s10, s11, s12, s13, s0, x15, x16, x16, x18, x19, x20, x21, x22, x23, x23, x25, x26, x27, x28, x29, s30, s31, s32, s33, s34, s35, s36, s37, s38, s39, s40, s41, s42, s43, s44, s45, s46, s47, s48], []⟩ I L)) I L) I L) I L) I L) I L) I L) I L) I L) I L
theorem round47_0 {N : Act → Imm → Own → Prop} {Q : Exit → Act → Imm → Own → Prop} {X : XT} {s0 s1 s2 s3 s4 s5 s6 s7 s8 s9 s10 s11 s12 s13 s14 s15 s16 s17 s18 s19 s20 s21 s22 s23 s24 s25 s26 s27 s28 s29 s30 s31 s32 s33 s34 s35 s36 s37 s38 s39 s40 s41 s42 s43 s44 s45 s46 s47 s48 : Value} {I : Imm} {L : Own} (h : B47_0 N Q X s0 s1 s2 s3 s4 s5 s6 s7 s8 s9 s10 s11 s12 s13 s14 s15 s16 s17 s18 s19 s20 s21 s22 s23 s24 s25 s26 s27 s28 s29 s30 s31 s32 s33 s34 s35 s36 s37 s38 s39 s40 s41 s42 s43 s44 s45 s46 s47 s48 I L) : cdT Try.prog (cdIn Try.f47 [1, 1, 0, 0, 0]) (seqT N Q) X ⟨#[s0, s1, s2, s3, s4, s5, s6, s7, s8, s9, s10, s11, s12, s13, s14, s15, s16, s17, s18, s19, s20, s21, s22, s23, s24, s25, s26, s27, s28, s29, s30, s31, s32, s33, s34, s35, s36, s37, s38, s39, s40, s41, s42, s43, s44, s45, s46, s47, s48], []⟩ I L :=
  sh_cut (fun _ => none) (O := True) (by kernel_rfl) trivial (by kernel_rfl) h
theorem loop47_0 {R : Ending → Imm → Own → Prop} {s0 s1 s2 s3 s4 s5 s6 s11 s12 s13 s48 : Value} {x7 u8 u9 u10 u14 u15 u16 u17 u18 u19 u20 u21 u22 u23 u24 u25 u26 u27 u28 u29 u30 u31 u32 u33 u34 u35 u36 u37 u38 u39 u40 u41 u42 u43 u44 u45 u46 u47 : Value} {I : Imm} {L : Own} (Inv : Nat → Value → Imm → Own → Prop) {n : Nat} (h : Inv n x7 I L)
  (round : ∀ (n : Nat) (x7 : Value) (I' : Imm) (L' : Own), I.Le I' → Inv n x7 I' L' → ∀ (N' : Act → Imm → Own → Prop), (∀ (m : Nat) {y7 w8 w9 w10 w14 w15 w16 w17 w18 w19 w20 w21 w22 w23 w24 w25 w26 w27 w28 w29 w30 w31 w32 w33 w34 w35 w36 w37 w38 w39 w40 w41 w42 w43 w44 w45 w46 w47 : Value} {I : Imm} {L : Own}, m < n → Inv m y7 I L → N' ⟨#[s0, s1, s2, s3, s4, s5, s6, y7, w8, w9, w10, s11, s12, s13, w14, w15, w16, w17, w18, w19, w20, w21, w22, w23, w24, w25, w26, w27, w28, w29, w30, w31, w32, w33, w34, w35, w36, w37, w38, w39, w40, w41, w42, w43, w44, w45, w46, w47, s48], []⟩ I L) → ∀ (u : Nat → Value), B47_0 N' (Q47_0 R) (endX R) s0 s1 s2 s3 s4 s5 s6 x7 (u 8) (u 9) (u 10) s11 s12 s13 (u 14) (u 15) (u 16) (u 17) (u 18) (u 19) (u 20) (u 21) (u 22) (u 23) (u 24) (u 25) (u 26) (u 27) (u 28) (u 29) (u 30) (u 31) (u 32) (u 33) (u 34) (u 35) (u 36) (u 37) (u 38) (u 39) (u 40) (u 41) (u 42) (u 43) (u 44) (u 45) (u 46) (u 47) s48 I' L') : L47_0 R ⟨#[s0, s1, s2, s3, s4, s5, s6, x7, u8, u9, u10, s11, s12, s13, u14, u15, u16, u17, u18, u19, u20, u21, u22, u23, u24, u25, u26, u27, u28, u29, u30, u31, u32, u33, u34, u35, u36, u37, u38, u39, u40, u41, u42, u43, u44, u45, u46, u47, s48], []⟩ I L :=
  loop_gen (by kernel_rfl) (fun n a I L => ∃ (x7 : Value) (u : Nat → Value), a = (⟨#[s0, s1, s2, s3, s4, s5, s6, x7, u 8, u 9, u 10, s11, s12, s13, u 14, u 15, u 16, u 17, u 18, u 19, u 20, u 21, u 22, u 23, u 24, u 25, u 26, u 27, u 28, u 29, u 30, u 31, u 32, u 33, u 34, u 35, u 36, u 37, u 38, u 39, u 40, u 41, u 42, u 43, u 44, u 45, u 46, u 47, s48], []⟩ : Act) ∧ Inv n x7 I L) ⟨x7, (fun i => (Act.tmps ⟨#[s0, s1, s2, s3, s4, s5, s6, x7, u8, u9, u10, s11, s12, s13, u14, u15, u16, u17, u18, u19, u20, u21, u22, u23, u24, u25, u26, u27, u28, u29, u30, u31, u32, u33, u34, u35, u36, u37, u38, u39, u40, u41, u42, u43, u44, u45, u46, u47, s48], []⟩).getD i undef), (by kernel_rfl), h⟩
    (fun n a I' L' hle ⟨x7, u, e, hi⟩ => e ▸ round47_0 (round n x7 I' L' hle hi (fun a I L => ∃ m, m < n ∧ (fun n a I L => ∃ (x7 : Value) (u : Nat → Value), a = (⟨#[s0, s1, s2, s3, s4, s5, s6, x7, u 8, u 9, u 10, s11, s12, s13, u 14, u 15, u 16, u 17, u 18, u 19, u 20, u 21, u 22, u 23, u 24, u 25, u 26, u 27, u 28, u 29, u 30, u 31, u 32, u 33, u 34, u 35, u 36, u 37, u 38, u 39, u 40, u 41, u 42, u 43, u 44, u 45, u 46, u 47, s48], []⟩ : Act) ∧ Inv n x7 I L) m a I L) (fun m => fun {y7 w8 w9 w10 w14 w15 w16 w17 w18 w19 w20 w21 w22 w23 w24 w25 w26 w27 w28 w29 w30 w31 w32 w33 w34 w35 w36 w37 w38 w39 w40 w41 w42 w43 w44 w45 w46 w47 I L} hm hi => ⟨m, hm, y7, (fun i => (Act.tmps ⟨#[s0, s1, s2, s3, s4, s5, s6, y7, w8, w9, w10, s11, s12, s13, w14, w15, w16, w17, w18, w19, w20, w21, w22, w23, w24, w25, w26, w27, w28, w29, w30, w31, w32, w33, w34, w35, w36, w37, w38, w39, w40, w41, w42, w43, w44, w45, w46, w47, s48], []⟩).getD i undef), (by kernel_rfl), hi⟩) u))
theorem out47_0x0 {R : Ending → Imm → Own → Prop} {s0 s1 s2 s3 s4 s5 s6 s7 s8 s9 s10 s11 s12 s13 s14 s15 s16 s17 s18 s19 s20 s21 s22 s23 s24 s25 s26 s27 s28 s29 s30 s31 s32 s33 s34 s35 s36 s37 s38 s39 s40 s41 s42 s43 s44 s45 s46 s47 s48 : Value} {I : Imm} {L : Own} (h : J47_1 R ⟨#[s0, s1, s2, s3, s4, s5, s6, s7, s8, s9, s10, s11, s12, s13, s14, s15, s16, s17, s18, s19, s20, s21, s22, s23, s24, s25, s26, s27, s28, s29, s30, s31, s32, s33, s34, s35, s36, s37, s38, s39, s40, s41, s42, s43, s44, s45, s46, s47, s48], []⟩ I L) : Q47_0 R (.exit 0) ⟨#[s0, s1, s2, s3, s4, s5, s6, s7, s8, s9, s10, s11, s12, s13, s14, s15, s16, s17, s18, s19, s20, s21, s22, s23, s24, s25, s26, s27, s28, s29, s30, s31, s32, s33, s34, s35, s36, s37, s38, s39, s40, s41, s42, s43, s44, s45, s46, s47, s48], []⟩ I L :=
  Eq.mpr (by kernel_rfl) h
def T47_1 (R : Ending → Imm → Own → Prop) (s0 s1 s2 s3 s4 s5 s6 s7 s8 s9 s10 s11 s12 s13 s14 s15 s16 s17 s18 s19 s20 s21 s22 s23 s24 s25 s26 s27 s28 s29 s30 s31 s32 s33 s34 s35 s36 s37 s38 s39 s40 s41 s42 s43 s44 s45 s46 s47 s48 : Value) (I : Imm) (L : Own) : Prop :=
R (.returned s7) I L
theorem join47_1 {R : Ending → Imm → Own → Prop} {s0 s1 s2 s3 s4 s5 s6 s7 s8 s9 s10 s11 s12 s13 s14 s15 s16 s17 s18 s19 s20 s21 s22 s23 s24 s25 s26 s27 s28 s29 s30 s31 s32 s33 s34 s35 s36 s37 s38 s39 s40 s41 s42 s43 s44 s45 s46 s47 s48 : Value} {I : Imm} {L : Own} (h : T47_1 R s0 s1 s2 s3 s4 s5 s6 s7 s8 s9 s10 s11 s12 s13 s14 s15 s16 s17 s18 s19 s20 s21 s22 s23 s24 s25 s26 s27 s28 s29 s30 s31 s32 s33 s34 s35 s36 s37 s38 s39 s40 s41 s42 s43 s44 s45 s46 s47 s48 I L) : J47_1 R ⟨#[s0, s1, s2, s3, s4, s5, s6, s7, s8, s9, s10, s11, s12, s13, s14, s15, s16, s17, s18, s19, s20, s21, s22, s23, s24, s25, s26, s27, s28, s29, s30, s31, s32, s33, s34, s35, s36, s37, s38, s39, s40, s41, s42, s43, s44, s45, s46, s47, s48], []⟩ I L :=
  sh_cut (fun _ => none) (O := True) (by kernel_rfl) trivial (by kernel_rfl) h
/-- 47: (*escritoire/escritoireref.eyes).expr -/
def M47 (R : Ending → Imm → Own → Prop) (x0 x1 x2 : Value) (I : Imm) (L : Own) : Prop :=
 cal Try.prog 53 #[x0, x2] I L (fun ch => (endX R) ch []) fun x13 I L =>
L47_0 R ⟨#[x0, x1, x2, undef, undef, undef, (.pointer none), x13, undef, undef, undef, x0, x2, x13, undef, undef, undef, undef, undef, undef, undef, undef, undef, undef, undef, undef, undef, undef, undef, undef, undef, undef, undef, undef, undef, undef, undef, undef, undef, undef, undef, undef, undef, undef, undef, undef, undef, undef, undef], []⟩ I L
theorem go47 {R : Ending → Imm → Own → Prop} {x0 x1 x2 : Value} {I : Imm} {L : Own} (h : M47 R x0 x1 x2 I L) : wpC Try.prog 47 #[x0, x1, x2] I L R :=
  wpC_go (fun p => if p = [0, 0, 1, 1] then some (L47_0 R) else none) Try.func47 (by kernel_rfl) (O := (L47_0 R = L47_0 R) ∧ True) (by kernel_rfl) ⟨rfl, trivial⟩ (by kernel_rfl) h

/-- 48: (*escritoire/escritoireref.eyes).bracket -/
def M48 (R : Ending → Imm → Own → Prop) (x0 : Value) (I : Imm) (L : Own) : Prop :=
 cal Try.prog 18 #[x0, (S [91])] I L (fun ch => (endX R) ch []) fun _ I L =>
 cal Try.prog 47 #[x0, (.int .i64 1), (.int .i64 0)] I L (fun ch => (endX R) ch []) fun x7 I L =>
 cal Try.prog 18 #[x0, (S [93])] I L (fun ch => (endX R) ch []) fun _ I L =>
R (.returned x7) I L
theorem go48 {R : Ending → Imm → Own → Prop} {x0 : Value} {I : Imm} {L : Own} (h : M48 R x0 I L) : wpC Try.prog 48 #[x0] I L R :=
  wpC_go (fun _ => none) Try.func48 (by kernel_rfl) (O := True) (by kernel_rfl) trivial (by kernel_rfl) h

/-- 49: escritoire/escritoireref.one -/
def M49 (R : Ending → Imm → Own → Prop) (x0 : Value) (I : Imm) (L : Own) : Prop :=
 cnd x0
 (R (.returned (.int .i64 1)) I L)
 (R (.returned (.int .i64 0)) I L)
theorem go49 {R : Ending → Imm → Own → Prop} {x0 : Value} {I : Imm} {L : Own} (h : M49 R x0 I L) : wpC Try.prog 49 #[x0] I L R :=
  wpC_go (fun _ => none) Try.func49 (by kernel_rfl) (O := True) (by kernel_rfl) trivial (by kernel_rfl) h

def Q53_0 (R : Ending → Imm → Own → Prop) : Exit → Act → Imm → Own → Prop := (blkT 0 (seqT (cdT Try.prog (cdIn Try.f53 [1, 1, 1]) (endT Try.prog Try.f53 R) (endX R)) (endT Try.prog Try.f53 R)))
def J53_0 (R : Ending → Imm → Own → Prop) (a : Act) (I : Imm) (L : Own) : Prop := cdT Try.prog (cdIn Try.f53 [1, 1, 0, 0, 1, 1, 1, 0, 1]) (Q53_0 R) (endX R) a I L
def Q53_1 (R : Ending → Imm → Own → Prop) : Exit → Act → Imm → Own → Prop := (blkT 0 (seqT (cdT Try.prog (cdIn Try.f53 [1, 1, 1]) (endT Try.prog Try.f53 R) (endX R)) (endT Try.prog Try.f53 R)))
def J53_1 (R : Ending → Imm → Own → Prop) (a : Act) (I : Imm) (L : Own) : Prop := cdT Try.prog (cdIn Try.f53 [1, 1, 0, 0, 1, 1, 1, 1, 1, 0, 1]) (Q53_1 R) (endX R) a I L
def Q53_2 (R : Ending → Imm → Own → Prop) : Exit → Act → Imm → Own → Prop := (blkT 0 (seqT (cdT Try.prog (cdIn Try.f53 [1, 1, 1]) (endT Try.prog Try.f53 R) (endX R)) (endT Try.prog Try.f53 R)))
def J53_2 (R : Ending → Imm → Own → Prop) (a : Act) (I : Imm) (L : Own) : Prop := cdT Try.prog (cdIn Try.f53 [1, 1, 0, 0, 1, 1, 1, 1, 1, 1, 1, 0, 1, 1]) (Q53_2 R) (endX R) a I L
def T53_0 (R : Ending → Imm → Own → Prop) (s0 s1 s2 s3 s4 s5 s6 s7 s8 s9 s10 s11 s12 s13 s14 s15 s16 s17 s18 s19 s20 s21 s22 s23 s24 s25 s26 s27 s28 s29 s30 s31 s32 s33 s34 s35 s36 s37 s38 s39 s40 s41 s42 s43 s44 s45 s46 s47 s48 s49 s50 s51 s52 s53 s54 s55 s56 s57 s58 s59 s60 s61 s62 s63 s64 s65 s66 s67 s68 s69 s70 s71 s72 s73 s74 s75 s76 : Value) (I : Imm) (L : Own) : Prop :=
 cal Try.prog 30 #[s0, (S [40])] I L (fun ch => (endX R) ch []) fun _ I L =>
 bin Try.prog .add 3 s1 (.int .i64 1) I L fun x32 I L =>
 cal Try.prog 47 #[s0, (.int .i64 1), x32] I L (fun ch => (endX R) ch []) fun x33 I L =>
 cal Try.prog 18 #[s0, (S [41])] I L (fun ch => (endX R) ch []) fun _ I L =>
R (.returned x33) I L
theorem join53_0 {R : Ending → Imm → Own → Prop} {s0 s1 s2 s3 s4 s5 s6 s7 s8 s9 s10 s11 s12 s13 s14 s15 s16 s17 s18 s19 s20 s21 s22 s23 s24 s25 s26 s27 s28 s29 s30 s31 s32 s33 s34 s35 s36 s37 s38 s39 s40 s41 s42 s43 s44 s45 s46 s47 s48 s49 s50 s51 s52 s53 s54 s55 s56 s57 s58 s59 s60 s61 s62 s63 s64 s65 s66 s67 s68 s69 s70 s71 s72 s73 s74 s75 s76 : Value} {I : Imm} {L : Own} (h : T53_0 R s0 s1 s2 s3 s4 s5 s6 s7 s8 s9 s10 s11 s12 s13 s14 s15 s16 s17 s18 s19 s20 s21 s22 s23 s24 s25 s26 s27 s28 s29 s30 s31 s32 s33 s34 s35 s36 s37 s38 s39 s40 s41 s42 s43 s44 s45 s46 s47 s48 s49 s50 s51 s52 s53 s54 s55 s56 s57 s58 s59 s60 s61 s62 s63 s64 s65 s66 s67 s68 s69 s70 s71 s72 s73 s74 s75 s76 I L) : J53_0 R ⟨#[s0, s1, s2, s3, s4, s5, s6, s7, s8, s9, s10, s11, s12, s13, s14, s15, s16, s17, s18, s19, s20, s21, s22, s23, s24, s25, s26, s27, s28, s29, s30, s31, s32, s33, s34, s35, s36, s37, s38, s39, s40, s41, s42, s43, s44, s45, s46, s47, s48, s49, s50, s51, s52, s53, s54, s55, s56, s57, s58, s59, s60, s61, s62, s63, s64, s65, s66, s67, s68, s69, s70, s71, s72, s73, s74, s75, s76], []⟩ I L :=
  sh_cut (fun _ => none) (O := True) (by kernel_rfl) trivial (by kernel_rfl) h
def T53_1 (R : Ending → Imm → Own → Prop) (s0 s1 s2 s3 s4 s5 s6 s7 s8 s9 s10 s11 s12 s13 s14 s15 s16 s17 s18 s19 s20 s21 s22 s23 s24 s25 s26 s27 s28 s29 s30 s31 s32 s33 s34 s35 s36 s37 s38 s39 s40 s41 s42 s43 s44 s45 s46 s47 s48 s49 s50 s51 s52 s53 s54 s55 s56 s57 s58 s59 s60 s61 s62 s63 s64 s65 s66 s67 s68 s69 s70 s71 s72 s73 s74 s75 s76 : Value) (I : Imm) (L : Own) : Prop :=
 cal Try.prog 34 #[s0] I L (fun ch => (endX R) ch []) fun _ I L =>
 bld Try.prog 74 #[(0, (.int .i64 2)), (1, s5), (3, s6)] I L fun x50 I L =>
 bx Try.prog 74 x50 I L fun x51 I L =>
R (.returned x51) I L
theorem join53_1 {R : Ending → Imm → Own → Prop} {s0 s1 s2 s3 s4 s5 s6 s7 s8 s9 s10 s11 s12 s13 s14 s15 s16 s17 s18 s19 s20 s21 s22 s23 s24 s25 s26 s27 s28 s29 s30 s31 s32 s33 s34 s35 s36 s37 s38 s39 s40 s41 s42 s43 s44 s45 s46 s47 s48 s49 s50 s51 s52 s53 s54 s55 s56 s57 s58 s59 s60 s61 s62 s63 s64 s65 s66 s67 s68 s69 s70 s71 s72 s73 s74 s75 s76 : Value} {I : Imm} {L : Own} (h : T53_1 R s0 s1 s2 s3 s4 s5 s6 s7 s8 s9 s10 s11 s12 s13 s14 s15 s16 s17 s18 s19 s20 s21 s22 s23 s24 s25 s26 s27 s28 s29 s30 s31 s32 s33 s34 s35 s36 s37 s38 s39 s40 s41 s42 s43 s44 s45 s46 s47 s48 s49 s50 s51 s52 s53 s54 s55 s56 s57 s58 s59 s60 s61 s62 s63 s64 s65 s66 s67 s68 s69 s70 s71 s72 s73 s74 s75 s76 I L) : J53_1 R ⟨#[s0, s1, s2, s3, s4, s5, s6, s7, s8, s9, s10, s11, s12, s13, s14, s15, s16, s17, s18, s19, s20, s21, s22, s23, s24, s25, s26, s27, s28, s29, s30, s31, s32, s33, s34, s35, s36, s37, s38, s39, s40, s41, s42, s43, s44, s45, s46, s47, s48, s49, s50, s51, s52, s53, s54, s55, s56, s57, s58, s59, s60, s61, s62, s63, s64, s65, s66, s67, s68, s69, s70, s71, s72, s73, s74, s75, s76], []⟩ I L :=
  sh_cut (fun _ => none) (O := True) (by kernel_rfl) trivial (by kernel_rfl) h
def T53_2 (R : Ending → Imm → Own → Prop) (s0 s1 s2 s3 s4 s5 s6 s7 s8 s9 s10 s11 s12 s13 s14 s15 s16 s17 s18 s19 s20 s21 s22 s23 s24 s25 s26 s27 s28 s29 s30 s31 s32 s33 s34 s35 s36 s37 s38 s39 s40 s41 s42 s43 s44 s45 s46 s47 s48 s49 s50 s51 s52 s53 s54 s55 s56 s57 s58 s59 s60 s61 s62 s63 s64 s65 s66 s67 s68 s69 s70 s71 s72 s73 s74 s75 s76 : Value) (I : Imm) (L : Own) : Prop :=
 cal Try.prog 34 #[s0] I L (fun ch => (endX R) ch []) fun _ I L =>
 bld Try.prog 74 #[(0, (.int .i64 1)), (1, s5), (2, s8)] I L fun x75 I L =>
 bx Try.prog 74 x75 I L fun x76 I L =>
R (.returned x76) I L
theorem join53_2 {R : Ending → Imm → Own → Prop} {s0 s1 s2 s3 s4 s5 s6 s7 s8 s9 s10 s11 s12 s13 s14 s15 s16 s17 s18 s19 s20 s21 s22 s23 s24 s25 s26 s27 s28 s29 s30 s31 s32 s33 s34 s35 s36 s37 s38 s39 s40 s41 s42 s43 s44 s45 s46 s47 s48 s49 s50 s51 s52 s53 s54 s55 s56 s57 s58 s59 s60 s61 s62 s63 s64 s65 s66 s67 s68 s69 s70 s71 s72 s73 s74 s75 s76 : Value} {I : Imm} {L : Own} (h : T53_2 R s0 s1 s2 s3 s4 s5 s6 s7 s8 s9 s10 s11 s12 s13 s14 s15 s16 s17 s18 s19 s20 s21 s22 s23 s24 s25 s26 s27 s28 s29 s30 s31 s32 s33 s34 s35 s36 s37 s38 s39 s40 s41 s42 s43 s44 s45 s46 s47 s48 s49 s50 s51 s52 s53 s54 s55 s56 s57 s58 s59 s60 s61 s62 s63 s64 s65 s66 s67 s68 s69 s70 s71 s72 s73 s74 s75 s76 I L) : J53_2 R ⟨#[s0, s1, s2, s3, s4, s5, s6, s7, s8, s9, s10, s11, s12, s13, s14, s15, s16, s17, s18, s19, s20, s21, s22, s23, s24, s25, s26, s27, s28, s29, s30, s31, s32, s33, s34, s35, s36, s37, s38, s39, s40, s41, s42, s43, s44, s45, s46, s47, s48, s49, s50, s51, s52, s53, s54, s55, s56, s57, s58, s59, s60, s61, s62, s63, s64, s65, s66, s67, s68, s69, s70, s71, s72, s73, s74, s75, s76], []⟩ I L :=
  sh_cut (fun _ => none) (O := True) (by kernel_rfl) trivial (by kernel_rfl) h
/-- 53: (*escritoire/escritoireref.eyes).single -/
def M53 (R : Ending → Imm → Own → Prop) (x0 x1 : Value) (I : Imm) (L : Own) : Prop :=
 cal Try.prog 17 #[x0] I L (fun ch => (endX R) ch []) fun x11 I L =>
 cal Try.prog 15 #[x0] I L (fun ch => (endX R) ch []) fun x13 I L =>
 cal Try.prog 14 #[x0] I L (fun ch => (endX R) ch []) fun x19 I L =>
 cnd x19
 (R (.returned (.pointer none)) I L)
 (eqn Try.prog .eql 9 false true x13 (S [40]) I L fun x22 I L =>
 cnd x22
 (bin Try.prog .geq 3 x1 (.int .i64 8) I L fun x24 I L =>
 cnd x24
 (cal Try.prog 16 #[x0, (.int .i64 4), x11] I L (fun ch => (endX R) ch []) fun x27 I L =>
J53_0 R ⟨#[x0, x1, undef, undef, (.pointer none), x11, x13, undef, undef, undef, x0, x11, x0, x13, undef, undef, undef, x19, x0, x19, x22, x13, x22, x1, x24, x0, x11, x27, undef, undef, undef, undef, undef, undef, undef, undef, undef, undef, undef, undef, undef, undef, undef, undef, undef, undef, undef, undef, undef, undef, undef, undef, undef, undef, undef, undef, undef, undef, undef, undef, undef, undef, undef, undef, undef, undef, undef, undef, undef, undef, undef, undef, undef, undef, undef, undef, undef], []⟩ I L)
 (J53_0 R ⟨#[x0, x1, undef, undef, (.pointer none), x11, x13, undef, undef, undef, x0, x11, x0, x13, undef, undef, undef, x19, x0, x19, x22, x13, x22, x1, x24, undef, undef, undef, undef, undef, undef, undef, undef, undef, undef, undef, undef, undef, undef, undef, undef, undef, undef, undef, undef, undef, undef, undef, undef, undef, undef, undef, undef, undef, undef, undef, undef, undef, undef, undef, undef, undef, undef, undef, undef, undef, undef, undef, undef, undef, undef, undef, undef, undef, undef, undef, undef], []⟩ I L))
 (cal Try.prog 31 #[x13] I L (fun ch => (endX R) ch []) fun x39 I L =>
 cnd x39
 (blt Try.prog .len #[9] 3 #[x13] I L fun x41 I L =>
 bin Try.prog .gtr 3 x41 (.int .i64 12) I L fun x42 I L =>
 cnd x42
 (cal Try.prog 16 #[x0, (.int .i64 4), x11] I L (fun ch => (endX R) ch []) fun x45 I L =>
J53_1 R ⟨#[x0, x1, undef, undef, (.pointer none), x11, x13, undef, undef, undef, x0, x11, x0, x13, undef, undef, undef, x19, x0, x19, x22, x13, x22, undef, undef, undef, undef, undef, undef, undef, undef, undef, undef, undef, undef, undef, undef, x39, x13, x39, x13, x41, x42, x0, x11, x45, undef, undef, undef, undef, undef, undef, undef, undef, undef, undef, undef, undef, undef, undef, undef, undef, undef, undef, undef, undef, undef, undef, undef, undef, undef, undef, undef, undef, undef, undef, undef], []⟩ I L)
 (J53_1 R ⟨#[x0, x1, undef, undef, (.pointer none), x11, x13, undef, undef, undef, x0, x11, x0, x13, undef, undef, undef, x19, x0, x19, x22, x13, x22, undef, undef, undef, undef, undef, undef, undef, undef, undef, undef, undef, undef, undef, undef, x39, x13, x39, x13, x41, x42, undef, undef, undef, undef, undef, undef, undef, undef, undef, undef, undef, undef, undef, undef, undef, undef, undef, undef, undef, undef, undef, undef, undef, undef, undef, undef, undef, undef, undef, undef, undef, undef, undef, undef], []⟩ I L))
 (eqn Try.prog .neq 9 false true x13 (S []) I L fun x54 I L =>
gd (yb (some x54) true) (fun k => k x13 I L) (fun x56 I L =>
gd (yb (some x54) true) (fun k => idx Try.prog 9 x56 (.int .i64 0) I L k) (fun x57 I L =>
gd (yb (some x54) true) (fun k => cal Try.prog 44 #[x57] I L (fun ch => (endX R) ch []) k) (fun x58 I L =>
pck x54 x58 (.bool false) I L fun x59 I L =>
 cnd x59
 (cal Try.prog 60 #[x13] I L (fun ch => (endX R) ch []) fun x62 I L =>
 ext Try.prog x62 0 I L fun x63 I L =>
 ext Try.prog x62 1 I L fun x64 I L =>
 eqn Try.prog .neq 30 false true x64 (.int .i64 0) I L fun x66 I L =>
 cnd x66
 (cal Try.prog 16 #[x0, x64, x11] I L (fun ch => (endX R) ch []) fun x70 I L =>
J53_2 R ⟨#[x0, x1, undef, undef, (.pointer none), x11, x13, undef, x63, x64, x0, x11, x0, x13, undef, undef, undef, x19, x0, x19, x22, x13, x22, undef, undef, undef, undef, undef, undef, undef, undef, undef, undef, undef, undef, undef, undef, x39, x13, x39, undef, undef, undef, undef, undef, undef, undef, undef, undef, undef, undef, undef, x59, x13, x54, x54, x56, x57, x58, x59, x62, x13, x62, x63, x64, x64, x66, x0, x64, x11, x70, undef, undef, undef, undef, undef, undef], []⟩ I L)
 (J53_2 R ⟨#[x0, x1, undef, undef, (.pointer none), x11, x13, undef, x63, x64, x0, x11, x0, x13, undef, undef, undef, x19, x0, x19, x22, x13, x22, undef, undef, undef, undef, undef, undef, undef, undef, undef, undef, undef, undef, undef, undef, x39, x13, x39, undef, undef, undef, undef, undef, undef, undef, undef, undef, undef, undef, undef, x59, x13, x54, x54, x56, x57, x58, x59, x62, x13, x62, x63, x64, x64, x66, undef, undef, undef, undef, undef, undef, undef, undef, undef, undef], []⟩ I L))
 (cal Try.prog 16 #[x0, (.int .i64 3), x11] I L (fun ch => (endX R) ch []) fun _ I L =>
R (.returned (.pointer none)) I L)) I L) I L) I L)))
theorem go53 {R : Ending → Imm → Own → Prop} {x0 x1 : Value} {I : Imm} {L : Own} (h : M53 R x0 x1 I L) : wpC Try.prog 53 #[x0, x1] I L R :=
  wpC_go (fun p => if p = [1, 0, 1, 1, 1, 0, 0, 1, 1] then some (J53_0 R) else if p = [1, 0, 1, 1, 1, 1, 1, 0, 0, 1, 1] then some (J53_1 R) else if p = [1, 1, 0, 1, 1, 1, 1, 1, 1, 1, 0, 0, 1, 1] then some (J53_2 R) else none) Try.func53 (by kernel_rfl) (O := (J53_0 R = J53_0 R) ∧ (J53_1 R = J53_1 R) ∧ (J53_2 R = J53_2 R) ∧ True) (by kernel_rfl) ⟨rfl, rfl, rfl, trivial⟩ (by kernel_rfl) h

def Q54_0 (R : Ending → Imm → Own → Prop) : Exit → Act → Imm → Own → Prop := (blkT 0 (seqT (cdT Try.prog (cdIn Try.f54 [1, 1]) (endT Try.prog Try.f54 R) (endX R)) (endT Try.prog Try.f54 R)))
def J54_0 (R : Ending → Imm → Own → Prop) (a : Act) (I : Imm) (L : Own) : Prop := cdT Try.prog (cdIn Try.f54 [1, 0, 1, 0, 1]) (Q54_0 R) (endX R) a I L
def Q54_1 (R : Ending → Imm → Own → Prop) : Exit → Act → Imm → Own → Prop := (Q54_0 R)
def J54_1 (R : Ending → Imm → Own → Prop) (a : Act) (I : Imm) (L : Own) : Prop := cdT Try.prog (cdIn Try.f54 [1, 0, 1, 0, 1, 1, 1]) (Q54_1 R) (endX R) a I L
def Q54_2 (R : Ending → Imm → Own → Prop) : Exit → Act → Imm → Own → Prop := (endT Try.prog Try.f54 R)
def J54_2 (R : Ending → Imm → Own → Prop) (a : Act) (I : Imm) (L : Own) : Prop := cdT Try.prog (cdIn Try.f54 [1, 1]) (Q54_2 R) (endX R) a I L
def T54_0 (R : Ending → Imm → Own → Prop) (s0 s1 s2 s3 s4 s5 s6 s7 s8 s9 s10 s11 s12 s13 s14 s15 : Value) (I : Imm) (L : Own) : Prop :=
 cnd s4
 (R (.returned (.int .i64 1)) I L)
 (eqn Try.prog .eql 9 false true s3 (S [43]) I L fun x10 I L =>
 cnd x10
 (J54_1 R ⟨#[s0, s1, s2, s3, s4, s5, s6, s7, s8, x10, x10, s11, s12, s13, s14, s15], []⟩ I L)
 (eqn Try.prog .eql 9 false true s3 (S [45]) I L fun x11 I L =>
 cnd x11
 (J54_1 R ⟨#[s0, s1, s2, s3, s4, s5, s6, s7, s8, x11, x10, x11, s12, s13, s14, s15], []⟩ I L)
 (eqn Try.prog .eql 9 false true s3 (S [124]) I L fun x12 I L =>
J54_1 R ⟨#[s0, s1, s2, s3, s4, s5, s6, s7, s8, x12, x10, x11, x12, s13, s14, s15], []⟩ I L)))
theorem join54_0 {R : Ending → Imm → Own → Prop} {s0 s1 s2 s3 s4 s5 s6 s7 s8 s9 s10 s11 s12 s13 s14 s15 : Value} {I : Imm} {L : Own} (h : T54_0 R s0 s1 s2 s3 s4 s5 s6 s7 s8 s9 s10 s11 s12 s13 s14 s15 I L) : J54_0 R ⟨#[s0, s1, s2, s3, s4, s5, s6, s7, s8, s9, s10, s11, s12, s13, s14, s15], []⟩ I L :=
  sh_cut (fun p => if p = [1, 1] then some (J54_1 R) else none) (O := (J54_1 R = J54_1 R) ∧ True) (by kernel_rfl) ⟨rfl, trivial⟩ (by kernel_rfl) h
def T54_1 (R : Ending → Imm → Own → Prop) (s0 s1 s2 s3 s4 s5 s6 s7 s8 s9 s10 s11 s12 s13 s14 s15 : Value) (I : Imm) (L : Own) : Prop :=
 cnd s9
 (R (.returned (.int .i64 2)) I L)
 (eqn Try.prog .eql 9 false true s3 (S [42]) I L fun x14 I L =>
 cnd x14
 (cnd x14
 (R (.returned (.int .i64 3)) I L)
 (J54_2 R ⟨#[s0, s1, s2, s3, s4, s5, s6, s7, s8, s9, s10, s11, s12, x14, x14, s15], []⟩ I L))
 (eqn Try.prog .eql 9 false true s3 (S [38]) I L fun x15 I L =>
 cnd x15
 (R (.returned (.int .i64 3)) I L)
 (J54_2 R ⟨#[s0, s1, s2, s3, s4, s5, s6, s7, s8, s9, s10, s11, s12, x15, x14, x15], []⟩ I L)))
theorem join54_1 {R : Ending → Imm → Own → Prop} {s0 s1 s2 s3 s4 s5 s6 s7 s8 s9 s10 s11 s12 s13 s14 s15 : Value} {I : Imm} {L : Own} (h : T54_1 R s0 s1 s2 s3 s4 s5 s6 s7 s8 s9 s10 s11 s12 s13 s14 s15 I L) : J54_1 R ⟨#[s0, s1, s2, s3, s4, s5, s6, s7, s8, s9, s10, s11, s12, s13, s14, s15], []⟩ I L :=
  sh_cut (fun _ => none) (O := True) (by kernel_rfl) trivial (by kernel_rfl) h
def T54_2 (R : Ending → Imm → Own → Prop) (s0 s1 s2 s3 s4 s5 s6 s7 s8 s9 s10 s11 s12 s13 s14 s15 : Value) (I : Imm) (L : Own) : Prop :=
R (.returned (.int .i64 0)) I L
theorem join54_2 {R : Ending → Imm → Own → Prop} {s0 s1 s2 s3 s4 s5 s6 s7 s8 s9 s10 s11 s12 s13 s14 s15 : Value} {I : Imm} {L : Own} (h : T54_2 R s0 s1 s2 s3 s4 s5 s6 s7 s8 s9 s10 s11 s12 s13 s14 s15 I L) : J54_2 R ⟨#[s0, s1, s2, s3, s4, s5, s6, s7, s8, s9, s10, s11, s12, s13, s14, s15], []⟩ I L :=
  sh_cut (fun _ => none) (O := True) (by kernel_rfl) trivial (by kernel_rfl) h
/-- 54: escritoire/escritoireref.hold -/
def M54 (R : Ending → Imm → Own → Prop) (x0 : Value) (I : Imm) (L : Own) : Prop :=
 eqn Try.prog .eql 9 false true x0 (S [61, 61]) I L fun x5 I L =>
 cnd x5
 (J54_0 R ⟨#[x0, undef, (.int .i64 0), x0, x5, x5, undef, undef, undef, undef, undef, undef, undef, undef, undef, undef], []⟩ I L)
 (eqn Try.prog .eql 9 false true x0 (S [33, 61]) I L fun x6 I L =>
 cnd x6
 (J54_0 R ⟨#[x0, undef, (.int .i64 0), x0, x6, x5, x6, undef, undef, undef, undef, undef, undef, undef, undef, undef], []⟩ I L)
 (eqn Try.prog .eql 9 false true x0 (S [60]) I L fun x7 I L =>
 cnd x7
 (J54_0 R ⟨#[x0, undef, (.int .i64 0), x0, x7, x5, x6, x7, undef, undef, undef, undef, undef, undef, undef, undef], []⟩ I L)
 (eqn Try.prog .eql 9 false true x0 (S [62]) I L fun x8 I L =>
J54_0 R ⟨#[x0, undef, (.int .i64 0), x0, x8, x5, x6, x7, x8, undef, undef, undef, undef, undef, undef, undef], []⟩ I L)))
theorem go54 {R : Ending → Imm → Own → Prop} {x0 : Value} {I : Imm} {L : Own} (h : M54 R x0 I L) : wpC Try.prog 54 #[x0] I L R :=
  wpC_go (fun p => if p = [1, 0, 1, 0, 1] then some (J54_0 R) else none) Try.func54 (by kernel_rfl) (O := (J54_0 R = J54_0 R) ∧ True) (by kernel_rfl) ⟨rfl, trivial⟩ (by kernel_rfl) h

def Q60_0 (R : Ending → Imm → Own → Prop) : Exit → Act → Imm → Own → Prop := (endT Try.prog Try.f60 R)
def J60_0 (R : Ending → Imm → Own → Prop) (a : Act) (I : Imm) (L : Own) : Prop := cdT Try.prog (cdIn Try.f60 [1, 1, 1]) (Q60_0 R) (endX R) a I L
def Q60_1 (R : Ending → Imm → Own → Prop) : Exit → Act → Imm → Own → Prop := (seqT (cdT Try.prog (cdIn Try.f60 [1, 1, 1, 1, 1]) (Q60_0 R) (endX R)) (Q60_0 R))
def D60_1 (R : Ending → Imm → Own → Prop) (a : Act) (I : Imm) (L : Own) : Prop := cdT Try.prog (cdIn Try.f60 [1, 1, 1, 1, 0, 1, 0]) (Q60_1 R) (endX R) a I L
def Q60_2 (R : Ending → Imm → Own → Prop) : Exit → Act → Imm → Own → Prop := (seqT (cdT Try.prog (cdIn Try.f60 [1, 1, 1, 1, 1]) (Q60_0 R) (endX R)) (Q60_0 R))
def D60_2 (R : Ending → Imm → Own → Prop) (a : Act) (I : Imm) (L : Own) : Prop := cdT Try.prog (cdIn Try.f60 [1, 1, 1, 1, 0, 1, 1, 1, 0]) (Q60_2 R) (endX R) a I L
def Q60_3 (R : Ending → Imm → Own → Prop) : Exit → Act → Imm → Own → Prop := (Q60_0 R)
def J60_3 (R : Ending → Imm → Own → Prop) (a : Act) (I : Imm) (L : Own) : Prop := cdT Try.prog (cdIn Try.f60 [1, 1, 1, 1, 1]) (Q60_3 R) (endX R) a I L
def T60_0 (R : Ending → Imm → Own → Prop) (s0 s1 s2 s3 s4 s5 s6 s7 s8 s9 s10 s11 s12 s13 s14 s15 s16 s17 s18 s19 s20 s21 s22 s23 s24 s25 s26 s27 s28 s29 s30 s31 s32 s33 s34 s35 s36 s37 s38 s39 s40 s41 s42 s43 s44 s45 s46 s47 s48 s49 s50 s51 s52 s53 s54 s55 s56 s57 s58 s59 s60 s61 s62 s63 s64 s65 : Value) (I : Imm) (L : Own) : Prop :=
 blt Try.prog .len #[9] 3 #[s0] I L fun x20 I L =>
 bin Try.prog .geq 3 x20 (.int .i64 2) I L fun x21 I L =>
gd (yb (some x21) true) (fun k => k s0 I L) (fun x23 I L =>
gd (yb (some x21) true) (fun k => slc Try.prog 9 x23 none (some (.int .i64 2)) none I L k) (fun x24 I L =>
gd (yb (some x21) true) (fun k => eqn Try.prog .eql 9 false true x24 (S [48, 120]) I L k) (fun x25 I L =>
pck x21 x25 (.bool false) I L fun x26 I L =>
 cnd x26
 (D60_1 R ⟨#[s0, s1, s2, s3, s4, (.int .i64 10), s6, s7, s8, s9, s10, s11, s12, s13, s14, s15, s16, s17, s18, s0, x20, x21, x21, x23, x24, x25, x26, s27, s28, s29, s30, s31, s32, s33, s34, s35, s36, s37, s38, s39, s40, s41, s42, s43, s44, s45, s46, s47, s48, s49, s50, s51, s52, s53, s54, s55, s56, s57, s58, s59, s60, s61, s62, s63, s64, s65], []⟩ I L)
 (blt Try.prog .len #[9] 3 #[s0] I L fun x30 I L =>
 bin Try.prog .geq 3 x30 (.int .i64 2) I L fun x31 I L =>
gd (yb (some x31) true) (fun k => k s0 I L) (fun x33 I L =>
gd (yb (some x31) true) (fun k => slc Try.prog 9 x33 none (some (.int .i64 2)) none I L k) (fun x34 I L =>
gd (yb (some x31) true) (fun k => eqn Try.prog .eql 9 false true x34 (S [48, 98]) I L k) (fun x35 I L =>
pck x31 x35 (.bool false) I L fun x36 I L =>
 cnd x36
 (D60_2 R ⟨#[s0, s1, s2, s3, s4, (.int .i64 10), s6, s7, s8, s9, s10, s11, s12, s13, s14, s15, s16, s17, s18, s0, x20, x21, x21, x23, x24, x25, x26, s27, s28, s0, x30, x31, x31, x33, x34, x35, x36, s37, s38, s39, s40, s41, s42, s43, s44, s45, s46, s47, s48, s49, s50, s51, s52, s53, s54, s55, s56, s57, s58, s59, s60, s61, s62, s63, s64, s65], []⟩ I L)
 (J60_3 R ⟨#[s0, s1, s2, s3, s4, (.int .i64 10), s6, s7, s8, s9, s10, s11, s12, s13, s14, s15, s16, s17, s18, s0, x20, x21, x21, x23, x24, x25, x26, s27, s28, s0, x30, x31, x31, x33, x34, x35, x36, s37, s38, s39, s40, s41, s42, s43, s44, s45, s46, s47, s48, s49, s50, s51, s52, s53, s54, s55, s56, s57, s58, s59, s60, s61, s62, s63, s64, s65], []⟩ I L)) I L) I L) I L)) I L) I L) I L
theorem join60_0 {R : Ending → Imm → Own → Prop} {s0 s1 s2 s3 s4 s5 s6 s7 s8 s9 s10 s11 s12 s13 s14 s15 s16 s17 s18 s19 s20 s21 s22 s23 s24 s25 s26 s27 s28 s29 s30 s31 s32 s33 s34 s35 s36 s37 s38 s39 s40 s41 s42 s43 s44 s45 s46 s47 s48 s49 s50 s51 s52 s53 s54 s55 s56 s57 s58 s59 s60 s61 s62 s63 s64 s65 : Value} {I : Imm} {L : Own} (h : T60_0 R s0 s1 s2 s3 s4 s5 s6 s7 s8 s9 s10 s11 s12 s13 s14 s15 s16 s17 s18 s19 s20 s21 s22 s23 s24 s25 s26 s27 s28 s29 s30 s31 s32 s33 s34 s35 s36 s37 s38 s39 s40 s41 s42 s43 s44 s45 s46 s47 s48 s49 s50 s51 s52 s53 s54 s55 s56 s57 s58 s59 s60 s61 s62 s63 s64 s65 I L) : J60_0 R ⟨#[s0, s1, s2, s3, s4, s5, s6, s7, s8, s9, s10, s11, s12, s13, s14, s15, s16, s17, s18, s19, s20, s21, s22, s23, s24, s25, s26, s27, s28, s29, s30, s31, s32, s33, s34, s35, s36, s37, s38, s39, s40, s41, s42, s43, s44, s45, s46, s47, s48, s49, s50, s51, s52, s53, s54, s55, s56, s57, s58, s59, s60, s61, s62, s63, s64, s65], []⟩ I L :=
  sh_cut (fun p => if p = [0, 1, 0, 1] then some (D60_1 R) else if p = [0, 1, 1, 1, 0, 1] then some (D60_2 R) else if p = [1, 1] then some (J60_3 R) else none) (O := (D60_1 R = D60_1 R) ∧ (D60_2 R = D60_2 R) ∧ (J60_3 R = J60_3 R) ∧ True) (by kernel_rfl) ⟨rfl, rfl, rfl, trivial⟩ (by kernel_rfl) h
def G60_1 (R : Ending → Imm → Own → Prop) (C : Cls) (s0 s1 s2 s3 s4 s5 s6 s7 s8 s9 s10 s11 s12 s13 s14 s15 s16 s17 s18 s19 s20 s21 s22 s23 s24 s25 s26 s27 s28 s29 s30 s31 s32 s33 s34 s35 s36 s37 s38 s39 s40 s41 s42 s43 s44 s45 s46 s47 s48 s49 s50 s51 s52 s53 s54 s55 s56 s57 s58 s59 s60 s61 s62 s63 s64 s65 : Value) (I : Imm) (L : Own) : Prop :=
 qslc Try.prog 9 s0 (some (.int .i64 2)) none none C fun x28 =>
J60_3 R ⟨#[x28, s1, s2, s3, s4, (.int .i64 16), s6, s7, s8, s9, s10, s11, s12, s13, s14, s15, s16, s17, s18, s19, s20, s21, s22, s23, s24, s25, s26, s0, x28, s29, s30, s31, s32, s33, s34, s35, s36, s37, s38, s39, s40, s41, s42, s43, s44, s45, s46, s47, s48, s49, s50, s51, s52, s53, s54, s55, s56, s57, s58, s59, s60, s61, s62, s63, s64, s65], []⟩ I L
theorem draw60_1 {R : Ending → Imm → Own → Prop} {C : Cls} {s0 s1 s2 s3 s4 s5 s6 s7 s8 s9 s10 s11 s12 s13 s14 s15 s16 s17 s18 s19 s20 s21 s22 s23 s24 s25 s26 s27 s28 s29 s30 s31 s32 s33 s34 s35 s36 s37 s38 s39 s40 s41 s42 s43 s44 s45 s46 s47 s48 s49 s50 s51 s52 s53 s54 s55 s56 s57 s58 s59 s60 s61 s62 s63 s64 s65 : Value} {I : Imm} {L : Own} (hC : C I L) (h : G60_1 R C s0 s1 s2 s3 s4 s5 s6 s7 s8 s9 s10 s11 s12 s13 s14 s15 s16 s17 s18 s19 s20 s21 s22 s23 s24 s25 s26 s27 s28 s29 s30 s31 s32 s33 s34 s35 s36 s37 s38 s39 s40 s41 s42 s43 s44 s45 s46 s47 s48 s49 s50 s51 s52 s53 s54 s55 s56 s57 s58 s59 s60 s61 s62 s63 s64 s65 I L) : D60_1 R ⟨#[s0, s1, s2, s3, s4, s5, s6, s7, s8, s9, s10, s11, s12, s13, s14, s15, s16, s17, s18, s19, s20, s21, s22, s23, s24, s25, s26, s27, s28, s29, s30, s31, s32, s33, s34, s35, s36, s37, s38, s39, s40, s41, s42, s43, s44, s45, s46, s47, s48, s49, s50, s51, s52, s53, s54, s55, s56, s57, s58, s59, s60, s61, s62, s63, s64, s65], []⟩ I L :=
  draw_plan (ops := opsIn Try.f60 [1, 1, 1, 1, 0, 1, 0]) (id := 6) (Q := Q60_1 R) (X := (endX R)) (.take 0 (.take 1 (.take 2 (.take 3 .done)))) [] (by kernel_rfl) rfl (by kernel_rfl) (by kernel_rfl) hC h
def G60_2 (R : Ending → Imm → Own → Prop) (C : Cls) (s0 s1 s2 s3 s4 s5 s6 s7 s8 s9 s10 s11 s12 s13 s14 s15 s16 s17 s18 s19 s20 s21 s22 s23 s24 s25 s26 s27 s28 s29 s30 s31 s32 s33 s34 s35 s36 s37 s38 s39 s40 s41 s42 s43 s44 s45 s46 s47 s48 s49 s50 s51 s52 s53 s54 s55 s56 s57 s58 s59 s60 s61 s62 s63 s64 s65 : Value) (I : Imm) (L : Own) : Prop :=
 qslc Try.prog 9 s0 (some (.int .i64 2)) none none C fun x38 =>
J60_3 R ⟨#[x38, s1, s2, s3, s4, (.int .i64 2), s6, s7, s8, s9, s10, s11, s12, s13, s14, s15, s16, s17, s18, s19, s20, s21, s22, s23, s24, s25, s26, s27, s28, s29, s30, s31, s32, s33, s34, s35, s36, s0, x38, s39, s40, s41, s42, s43, s44, s45, s46, s47, s48, s49, s50, s51, s52, s53, s54, s55, s56, s57, s58, s59, s60, s61, s62, s63, s64, s65], []⟩ I L
theorem draw60_2 {R : Ending → Imm → Own → Prop} {C : Cls} {s0 s1 s2 s3 s4 s5 s6 s7 s8 s9 s10 s11 s12 s13 s14 s15 s16 s17 s18 s19 s20 s21 s22 s23 s24 s25 s26 s27 s28 s29 s30 s31 s32 s33 s34 s35 s36 s37 s38 s39 s40 s41 s42 s43 s44 s45 s46 s47 s48 s49 s50 s51 s52 s53 s54 s55 s56 s57 s58 s59 s60 s61 s62 s63 s64 s65 : Value} {I : Imm} {L : Own} (hC : C I L) (h : G60_2 R C s0 s1 s2 s3 s4 s5 s6 s7 s8 s9 s10 s11 s12 s13 s14 s15 s16 s17 s18 s19 s20 s21 s22 s23 s24 s25 s26 s27 s28 s29 s30 s31 s32 s33 s34 s35 s36 s37 s38 s39 s40 s41 s42 s43 s44 s45 s46 s47 s48 s49 s50 s51 s52 s53 s54 s55 s56 s57 s58 s59 s60 s61 s62 s63 s64 s65 I L) : D60_2 R ⟨#[s0, s1, s2, s3, s4, s5, s6, s7, s8, s9, s10, s11, s12, s13, s14, s15, s16, s17, s18, s19, s20, s21, s22, s23, s24, s25, s26, s27, s28, s29, s30, s31, s32, s33, s34, s35, s36, s37, s38, s39, s40, s41, s42, s43, s44, s45, s46, s47, s48, s49, s50, s51, s52, s53, s54, s55, s56, s57, s58, s59, s60, s61, s62, s63, s64, s65], []⟩ I L :=
  draw_plan (ops := opsIn Try.f60 [1, 1, 1, 1, 0, 1, 1, 1, 0]) (id := 8) (Q := Q60_2 R) (X := (endX R)) (.take 0 (.take 1 (.take 2 (.take 3 .done)))) [] (by kernel_rfl) rfl (by kernel_rfl) (by kernel_rfl) hC h
def T60_3 (R : Ending → Imm → Own → Prop) (s0 s1 s2 s3 s4 s5 s6 s7 s8 s9 s10 s11 s12 s13 s14 s15 s16 s17 s18 s19 s20 s21 s22 s23 s24 s25 s26 s27 s28 s29 s30 s31 s32 s33 s34 s35 s36 s37 s38 s39 s40 s41 s42 s43 s44 s45 s46 s47 s48 s49 s50 s51 s52 s53 s54 s55 s56 s57 s58 s59 s60 s61 s62 s63 s64 s65 : Value) (I : Imm) (L : Own) : Prop :=
 cal Try.prog 63 #[s0, s5] I L (fun ch => (endX R) ch []) fun x42 I L =>
 ext Try.prog x42 0 I L fun x43 I L =>
 ext Try.prog x42 1 I L fun x44 I L =>
 eqn Try.prog .neq 30 false true x44 (.int .i64 0) I L fun x46 I L =>
 cnd x46
 (R (.returned (.tuple #[(.int .i64 0), x44])) I L)
 (un Try.prog .not s4 I L fun x49 I L =>
gd (yb (some x49) true) (fun k => k x43 I L) (fun x51 I L =>
gd (yb (some x49) true) (fun k => cal Try.prog 64 #[(.int .i64 63)] I L (fun ch => (endX R) ch []) k) (fun x52 I L =>
gd (yb (some x49) true) (fun k => bin Try.prog .geq 94 x51 x52 I L k) (fun x53 I L =>
pck x49 x53 (.bool false) I L fun x54 I L =>
gd (yb (some x54) false) (fun k => k x43 I L) (fun x56 I L =>
gd (yb (some x54) false) (fun k => cal Try.prog 64 #[(.int .i64 63)] I L (fun ch => (endX R) ch []) k) (fun x57 I L =>
gd (yb (some x54) false) (fun k => bin Try.prog .gtr 94 x56 x57 I L k) (fun x58 I L =>
pck x54 (.bool true) x58 I L fun x59 I L =>
 cnd x59
 (R (.returned (.tuple #[(.int .i64 0), (.int .i64 2)])) I L)
 (cnd s4
 (un Try.prog .neg x43 I L fun x62 I L =>
 cvt Try.prog 94 3 x62 I L fun x63 I L =>
R (.returned (.tuple #[x63, (.int .i64 0)])) I L)
 (cvt Try.prog 94 3 x43 I L fun x65 I L =>
R (.returned (.tuple #[x65, (.int .i64 0)])) I L))) I L) I L) I L) I L) I L) I L)
theorem join60_3 {R : Ending → Imm → Own → Prop} {s0 s1 s2 s3 s4 s5 s6 s7 s8 s9 s10 s11 s12 s13 s14 s15 s16 s17 s18 s19 s20 s21 s22 s23 s24 s25 s26 s27 s28 s29 s30 s31 s32 s33 s34 s35 s36 s37 s38 s39 s40 s41 s42 s43 s44 s45 s46 s47 s48 s49 s50 s51 s52 s53 s54 s55 s56 s57 s58 s59 s60 s61 s62 s63 s64 s65 : Value} {I : Imm} {L : Own} (h : T60_3 R s0 s1 s2 s3 s4 s5 s6 s7 s8 s9 s10 s11 s12 s13 s14 s15 s16 s17 s18 s19 s20 s21 s22 s23 s24 s25 s26 s27 s28 s29 s30 s31 s32 s33 s34 s35 s36 s37 s38 s39 s40 s41 s42 s43 s44 s45 s46 s47 s48 s49 s50 s51 s52 s53 s54 s55 s56 s57 s58 s59 s60 s61 s62 s63 s64 s65 I L) : J60_3 R ⟨#[s0, s1, s2, s3, s4, s5, s6, s7, s8, s9, s10, s11, s12, s13, s14, s15, s16, s17, s18, s19, s20, s21, s22, s23, s24, s25, s26, s27, s28, s29, s30, s31, s32, s33, s34, s35, s36, s37, s38, s39, s40, s41, s42, s43, s44, s45, s46, s47, s48, s49, s50, s51, s52, s53, s54, s55, s56, s57, s58, s59, s60, s61, s62, s63, s64, s65], []⟩ I L :=
  sh_cut (fun _ => none) (O := True) (by kernel_rfl) trivial (by kernel_rfl) h
/-- 60: escritoire/escritoireref.Number -/
def M60 (R : Ending → Imm → Own → Prop) (x0 : Value) (I : Imm) (L : Own) : Prop :=
 blt Try.prog .len #[9] 3 #[x0] I L fun x9 I L =>
 bin Try.prog .gtr 3 x9 (.int .i64 0) I L fun x10 I L =>
gd (yb (some x10) true) (fun k => k x0 I L) (fun x12 I L =>
gd (yb (some x10) true) (fun k => idx Try.prog 9 x12 (.int .i64 0) I L k) (fun x13 I L =>
gd (yb (some x10) true) (fun k => eqn Try.prog .eql 5 false true x13 (.int .u8 45) I L k) (fun x14 I L =>
pck x10 x14 (.bool false) I L fun x15 I L =>
 cnd x15
 (slc Try.prog 9 x0 (some (.int .i64 1)) none none I L fun x18 I L =>
J60_0 R ⟨#[x18, undef, (.int .i64 0), (.int .i64 0), x15, undef, undef, undef, x0, x9, x10, x10, x12, x13, x14, x15, x15, x0, x18, undef, undef, undef, undef, undef, undef, undef, undef, undef, undef, undef, undef, undef, undef, undef, undef, undef, undef, undef, undef, undef, undef, undef, undef, undef, undef, undef, undef, undef, undef, undef, undef, undef, undef, undef, undef, undef, undef, undef, undef, undef, undef, undef, undef, undef, undef, undef], []⟩ I L)
 (J60_0 R ⟨#[x0, undef, (.int .i64 0), (.int .i64 0), x15, undef, undef, undef, x0, x9, x10, x10, x12, x13, x14, x15, x15, undef, undef, undef, undef, undef, undef, undef, undef, undef, undef, undef, undef, undef, undef, undef, undef, undef, undef, undef, undef, undef, undef, undef, undef, undef, undef, undef, undef, undef, undef, undef, undef, undef, undef, undef, undef, undef, undef, undef, undef, undef, undef, undef, undef, undef, undef, undef, undef, undef], []⟩ I L)) I L) I L) I L
theorem go60 {R : Ending → Imm → Own → Prop} {x0 : Value} {I : Imm} {L : Own} (h : M60 R x0 I L) : wpC Try.prog 60 #[x0] I L R :=
  wpC_go (fun p => if p = [1, 1, 1] then some (J60_0 R) else none) Try.func60 (by kernel_rfl) (O := (J60_0 R = J60_0 R) ∧ True) (by kernel_rfl) ⟨rfl, trivial⟩ (by kernel_rfl) h

def Q62_0 (R : Ending → Imm → Own → Prop) : Exit → Act → Imm → Own → Prop := (blkT 0 (seqT (cdT Try.prog (cdIn Try.f62 [1, 1, 1]) (endT Try.prog Try.f62 R) (endX R)) (endT Try.prog Try.f62 R)))
def L62_0 (R : Ending → Imm → Own → Prop) (a : Act) (I : Imm) (L : Own) : Prop := cdT Try.prog (cdIn Try.f62 [1, 1, 0, 1, 0]) (Q62_0 R) (endX R) a I L
def Q62_1 (R : Ending → Imm → Own → Prop) : Exit → Act → Imm → Own → Prop := (endT Try.prog Try.f62 R)
def J62_1 (R : Ending → Imm → Own → Prop) (a : Act) (I : Imm) (L : Own) : Prop := cdT Try.prog (cdIn Try.f62 [1, 1, 1]) (Q62_1 R) (endX R) a I L
def Q62_2 (R : Ending → Imm → Own → Prop) : Exit → Act → Imm → Own → Prop := (blkT 2 (seqT (cdT Try.prog (cdIn Try.f62 [1, 1, 1, 1, 1]) (Q62_1 R) (endX R)) (Q62_1 R)))
def L62_2 (R : Ending → Imm → Own → Prop) (a : Act) (I : Imm) (L : Own) : Prop := cdT Try.prog (cdIn Try.f62 [1, 1, 1, 1, 0, 1, 0]) (Q62_2 R) (endX R) a I L
def Q62_3 (N : Act → Imm → Own → Prop) (Q : Exit → Act → Imm → Own → Prop) (X : XT) : Exit → Act → Imm → Own → Prop := (blkT 3 (seqT (cdT Try.prog (cdIn Try.f62 [1, 1, 1, 1, 0, 1, 0, 0, 1, 1]) (seqT N Q) X) (seqT N Q)))
def J62_3 (N : Act → Imm → Own → Prop) (Q : Exit → Act → Imm → Own → Prop) (X : XT) (a : Act) (I : Imm) (L : Own) : Prop := cdT Try.prog (cdIn Try.f62 [1, 1, 1, 1, 0, 1, 0, 0, 1, 0, 0, 1]) (Q62_3 N Q X) X a I L
def Q62_4 (R : Ending → Imm → Own → Prop) : Exit → Act → Imm → Own → Prop := (Q62_1 R)
def J62_4 (R : Ending → Imm → Own → Prop) (a : Act) (I : Imm) (L : Own) : Prop := cdT Try.prog (cdIn Try.f62 [1, 1, 1, 1, 1]) (Q62_4 R) (endX R) a I L
def Q62_5 (N : Act → Imm → Own → Prop) (Q : Exit → Act → Imm → Own → Prop) (X : XT) : Exit → Act → Imm → Own → Prop := (seqT N Q)
def J62_5 (N : Act → Imm → Own → Prop) (Q : Exit → Act → Imm → Own → Prop) (X : XT) (a : Act) (I : Imm) (L : Own) : Prop := cdT Try.prog (cdIn Try.f62 [1, 1, 1, 1, 0, 1, 0, 0, 1, 1]) (Q62_5 N Q X) X a I L
/-- loop 62_0: what changes: 4 5; beside: 9 10 11 12 13 14 15 16 17 18 19 20 21 -/
def B62_0 (N : Act → Imm → Own → Prop) (Q : Exit → Act → Imm → Own → Prop) (X : XT) (s0 s1 s2 s3 s4 s5 s6 s7 s8 s9 s10 s11 s12 s13 s14 s15 s16 s17 s18 s19 s20 s21 s22 s23 s24 s25 s26 s27 s28 s29 s30 s31 s32 s33 s34 s35 s36 s37 s38 : Value) (I : Imm) (L : Own) : Prop :=
 blt Try.prog .len #[9] 3 #[s0] I L fun x11 I L =>
 bin Try.prog .lss 3 s5 x11 I L fun x12 I L =>
 cnd x12
 (bin Try.prog .mul 91 s4 (.int .u32 16777619) I L fun x16 I L =>
 idx Try.prog 9 s0 s5 I L fun x19 I L =>
 cvt Try.prog 5 91 x19 I L fun x20 I L =>
 bin Try.prog .add 91 x16 x20 I L fun x21 I L =>
 bin Try.prog .add 3 s5 (.int .i64 1) I L fun x14 I L =>
N ⟨#[s0, s1, s2, s3, x21, x14, s6, s7, s8, s5, s0, x11, x12, s5, x14, s4, x16, s0, s5, x19, x20, x21, s22, s23, s24, s25, s26, s27, s28, s29, s30, s31, s32, s33, s34, s35, s36, s37, s38], []⟩ I L)
 (Q (.exit 0) ⟨#[s0, s1, s2, s3, s4, s5, s6, s7, s8, s5, s0, x11, x12, s13, s14, s15, s16, s17, s18, s19, s20, s21, s22, s23, s24, s25, s26, s27, s28, s29, s30, s31, s32, s33, s34, s35, s36, s37, s38], []⟩ I L)
theorem round62_0 {N : Act → Imm → Own → Prop} {Q : Exit → Act → Imm → Own → Prop} {X : XT} {s0 s1 s2 s3 s4 s5 s6 s7 s8 s9 s10 s11 s12 s13 s14 s15 s16 s17 s18 s19 s20 s21 s22 s23 s24 s25 s26 s27 s28 s29 s30 s31 s32 s33 s34 s35 s36 s37 s38 : Value} {I : Imm} {L : Own} (h : B62_0 N Q X s0 s1 s2 s3 s4 s5 s6 s7 s8 s9 s10 s11 s12 s13 s14 s15 s16 s17 s18 s19 s20 s21 s22 s23 s24 s25 s26 s27 s28 s29 s30 s31 s32 s33 s34 s35 s36 s37 s38 I L) : cdT Try.prog (cdIn Try.f62 [1, 1, 0, 1, 0, 0]) (seqT N Q) X ⟨#[s0, s1, s2, s3, s4, s5, s6, s7, s8, s9, s10, s11, s12, s13, s14, s15, s16, s17, s18, s19, s20, s21, s22, s23, s24, s25, s26, s27, s28, s29, s30, s31, s32, s33, s34, s35, s36, s37, s38], []⟩ I L :=
  sh_cut (fun _ => none) (O := True) (by kernel_rfl) trivial (by kernel_rfl) h
theorem loop62_0 {R : Ending → Imm → Own → Prop} {s0 s1 s2 s3 s6 s7 s8 s22 s23 s24 s25 s26 s27 s28 s29 s30 s31 s32 s33 s34 s35 s36 s37 s38 : Value} {x4 x5 u9 u10 u11 u12 u13 u14 u15 u16 u17 u18 u19 u20 u21 : Value} {I : Imm} {L : Own} (Inv : Nat → Value → Value → Imm → Own → Prop) {n : Nat} (h : Inv n x4 x5 I L)
  (round : ∀ (n : Nat) (x4 x5 : Value) (I' : Imm) (L' : Own), I.Le I' → Inv n x4 x5 I' L' → ∀ (N' : Act → Imm → Own → Prop), (∀ (m : Nat) {y4 y5 w9 w10 w11 w12 w13 w14 w15 w16 w17 w18 w19 w20 w21 : Value} {I : Imm} {L : Own}, m < n → Inv m y4 y5 I L → N' ⟨#[s0, s1, s2, s3, y4, y5, s6, s7, s8, w9, w10, w11, w12, w13, w14, w15, w16, w17, w18, w19, w20, w21, s22, s23, s24, s25, s26, s27, s28, s29, s30, s31, s32, s33, s34, s35, s36, s37, s38], []⟩ I L) → ∀ (u : Nat → Value), B62_0 N' (Q62_0 R) (endX R) s0 s1 s2 s3 x4 x5 s6 s7 s8 (u 9) (u 10) (u 11) (u 12) (u 13) (u 14) (u 15) (u 16) (u 17) (u 18) (u 19) (u 20) (u 21) s22 s23 s24 s25 s26 s27 s28 s29 s30 s31 s32 s33 s34 s35 s36 s37 s38 I' L') : L62_0 R ⟨#[s0, s1, s2, s3, x4, x5, s6, s7, s8, u9, u10, u11, u12, u13, u14, u15, u16, u17, u18, u19, u20, u21, s22, s23, s24, s25, s26, s27, s28, s29, s30, s31, s32, s33, s34, s35, s36, s37, s38], []⟩ I L :=
  loop_gen (by kernel_rfl) (fun n a I L => ∃ (x4 x5 : Value) (u : Nat → Value), a = (⟨#[s0, s1, s2, s3, x4, x5, s6, s7, s8, u 9, u 10, u 11, u 12, u 13, u 14, u 15, u 16, u 17, u 18, u 19, u 20, u 21, s22, s23, s24, s25, s26, s27, s28, s29, s30, s31, s32, s33, s34, s35, s36, s37, s38], []⟩ : Act) ∧ Inv n x4 x5 I L) ⟨x4, x5, (fun i => (Act.tmps ⟨#[s0, s1, s2, s3, x4, x5, s6, s7, s8, u9, u10, u11, u12, u13, u14, u15, u16, u17, u18, u19, u20, u21, s22, s23, s24, s25, s26, s27, s28, s29, s30, s31, s32, s33, s34, s35, s36, s37, s38], []⟩).getD i undef), (by kernel_rfl), h⟩
    (fun n a I' L' hle ⟨x4, x5, u, e, hi⟩ => e ▸ round62_0 (round n x4 x5 I' L' hle hi (fun a I L => ∃ m, m < n ∧ (fun n a I L => ∃ (x4 x5 : Value) (u : Nat → Value), a = (⟨#[s0, s1, s2, s3, x4, x5, s6, s7, s8, u 9, u 10, u 11, u 12, u 13, u 14, u 15, u 16, u 17, u 18, u 19, u 20, u 21, s22, s23, s24, s25, s26, s27, s28, s29, s30, s31, s32, s33, s34, s35, s36, s37, s38], []⟩ : Act) ∧ Inv n x4 x5 I L) m a I L) (fun m => fun {y4 y5 w9 w10 w11 w12 w13 w14 w15 w16 w17 w18 w19 w20 w21 I L} hm hi => ⟨m, hm, y4, y5, (fun i => (Act.tmps ⟨#[s0, s1, s2, s3, y4, y5, s6, s7, s8, w9, w10, w11, w12, w13, w14, w15, w16, w17, w18, w19, w20, w21, s22, s23, s24, s25, s26, s27, s28, s29, s30, s31, s32, s33, s34, s35, s36, s37, s38], []⟩).getD i undef), (by kernel_rfl), hi⟩) u))
theorem out62_0x0 {R : Ending → Imm → Own → Prop} {s0 s1 s2 s3 s4 s5 s6 s7 s8 s9 s10 s11 s12 s13 s14 s15 s16 s17 s18 s19 s20 s21 s22 s23 s24 s25 s26 s27 s28 s29 s30 s31 s32 s33 s34 s35 s36 s37 s38 : Value} {I : Imm} {L : Own} (h : J62_1 R ⟨#[s0, s1, s2, s3, s4, s5, s6, s7, s8, s9, s10, s11, s12, s13, s14, s15, s16, s17, s18, s19, s20, s21, s22, s23, s24, s25, s26, s27, s28, s29, s30, s31, s32, s33, s34, s35, s36, s37, s38], []⟩ I L) : Q62_0 R (.exit 0) ⟨#[s0, s1, s2, s3, s4, s5, s6, s7, s8, s9, s10, s11, s12, s13, s14, s15, s16, s17, s18, s19, s20, s21, s22, s23, s24, s25, s26, s27, s28, s29, s30, s31, s32, s33, s34, s35, s36, s37, s38], []⟩ I L :=
  Eq.mpr (by kernel_rfl) h
def T62_1 (R : Ending → Imm → Own → Prop) (s0 s1 s2 s3 s4 s5 s6 s7 s8 s9 s10 s11 s12 s13 s14 s15 s16 s17 s18 s19 s20 s21 s22 s23 s24 s25 s26 s27 s28 s29 s30 s31 s32 s33 s34 s35 s36 s37 s38 : Value) (I : Imm) (L : Own) : Prop :=
 blt Try.prog .len #[9] 3 #[s0] I L fun x23 I L =>
L62_2 R ⟨#[s0, s1, s2, s3, s4, s5, (.int .u32 1), (.int .u32 16777619), x23, s9, s10, s11, s12, s13, s14, s15, s16, s17, s18, s19, s20, s21, s0, x23, s24, s25, s26, s27, s28, s29, s30, s31, s32, s33, s34, s35, s36, s37, s38], []⟩ I L
theorem join62_1 {R : Ending → Imm → Own → Prop} {s0 s1 s2 s3 s4 s5 s6 s7 s8 s9 s10 s11 s12 s13 s14 s15 s16 s17 s18 s19 s20 s21 s22 s23 s24 s25 s26 s27 s28 s29 s30 s31 s32 s33 s34 s35 s36 s37 s38 : Value} {I : Imm} {L : Own} (h : T62_1 R s0 s1 s2 s3 s4 s5 s6 s7 s8 s9 s10 s11 s12 s13 s14 s15 s16 s17 s18 s19 s20 s21 s22 s23 s24 s25 s26 s27 s28 s29 s30 s31 s32 s33 s34 s35 s36 s37 s38 I L) : J62_1 R ⟨#[s0, s1, s2, s3, s4, s5, s6, s7, s8, s9, s10, s11, s12, s13, s14, s15, s16, s17, s18, s19, s20, s21, s22, s23, s24, s25, s26, s27, s28, s29, s30, s31, s32, s33, s34, s35, s36, s37, s38], []⟩ I L :=
  sh_cut (fun p => if p = [0, 1, 0, 1] then some (L62_2 R) else none) (O := (L62_2 R = L62_2 R) ∧ True) (by kernel_rfl) ⟨rfl, trivial⟩ (by kernel_rfl) h
/-- loop 62_2: what changes: 6 7 8; beside: 24 25 26 27 28 29 30 31 32 33 34 35 36 -/
def B62_2 (N : Act → Imm → Own → Prop) (Q : Exit → Act → Imm → Own → Prop) (X : XT) (s0 s1 s2 s3 s4 s5 s6 s7 s8 s9 s10 s11 s12 s13 s14 s15 s16 s17 s18 s19 s20 s21 s22 s23 s24 s25 s26 s27 s28 s29 s30 s31 s32 s33 s34 s35 s36 s37 s38 : Value) (I : Imm) (L : Own) : Prop :=
 bin Try.prog .gtr 3 s8 (.int .i64 0) I L fun x25 I L =>
 cnd x25
 (bin Try.prog .and 3 s8 (.int .i64 1) I L fun x29 I L =>
 eqn Try.prog .neq 3 false true x29 (.int .i64 0) I L fun x30 I L =>
 cnd x30
 (bin Try.prog .mul 91 s6 s7 I L fun x33 I L =>
J62_3 N Q X ⟨#[s0, s1, s2, s3, s4, s5, x33, s7, s8, s9, s10, s11, s12, s13, s14, s15, s16, s17, s18, s19, s20, s21, s22, s23, s8, x25, s26, s27, s8, x29, x30, s6, s7, x33, s34, s35, s36, s37, s38], []⟩ I L)
 (J62_3 N Q X ⟨#[s0, s1, s2, s3, s4, s5, s6, s7, s8, s9, s10, s11, s12, s13, s14, s15, s16, s17, s18, s19, s20, s21, s22, s23, s8, x25, s26, s27, s8, x29, x30, s31, s32, s33, s34, s35, s36, s37, s38], []⟩ I L))
 (Q (.exit 2) ⟨#[s0, s1, s2, s3, s4, s5, s6, s7, s8, s9, s10, s11, s12, s13, s14, s15, s16, s17, s18, s19, s20, s21, s22, s23, s8, x25, s26, s27, s28, s29, s30, s31, s32, s33, s34, s35, s36, s37, s38], []⟩ I L)
theorem round62_2 {N : Act → Imm → Own → Prop} {Q : Exit → Act → Imm → Own → Prop} {X : XT} {s0 s1 s2 s3 s4 s5 s6 s7 s8 s9 s10 s11 s12 s13 s14 s15 s16 s17 s18 s19 s20 s21 s22 s23 s24 s25 s26 s27 s28 s29 s30 s31 s32 s33 s34 s35 s36 s37 s38 : Value} {I : Imm} {L : Own} (h : B62_2 N Q X s0 s1 s2 s3 s4 s5 s6 s7 s8 s9 s10 s11 s12 s13 s14 s15 s16 s17 s18 s19 s20 s21 s22 s23 s24 s25 s26 s27 s28 s29 s30 s31 s32 s33 s34 s35 s36 s37 s38 I L) : cdT Try.prog (cdIn Try.f62 [1, 1, 1, 1, 0, 1, 0, 0]) (seqT N Q) X ⟨#[s0, s1, s2, s3, s4, s5, s6, s7, s8, s9, s10, s11, s12, s13, s14, s15, s16, s17, s18, s19, s20, s21, s22, s23, s24, s25, s26, s27, s28, s29, s30, s31, s32, s33, s34, s35, s36, s37, s38], []⟩ I L :=
  sh_cut (fun p => if p = [1, 0, 0, 1] then some (J62_3 N Q X) else none) (O := (J62_3 N Q X = J62_3 N Q X) ∧ True) (by kernel_rfl) ⟨rfl, trivial⟩ (by kernel_rfl) h
theorem loop62_2 {R : Ending → Imm → Own → Prop} {s0 s1 s2 s3 s4 s5 s9 s10 s11 s12 s13 s14 s15 s16 s17 s18 s19 s20 s21 s22 s23 s37 s38 : Value} {x6 x7 x8 u24 u25 u26 u27 u28 u29 u30 u31 u32 u33 u34 u35 u36 : Value} {I : Imm} {L : Own} (Inv : Nat → Value → Value → Value → Imm → Own → Prop) {n : Nat} (h : Inv n x6 x7 x8 I L)
  (round : ∀ (n : Nat) (x6 x7 x8 : Value) (I' : Imm) (L' : Own), I.Le I' → Inv n x6 x7 x8 I' L' → ∀ (N' : Act → Imm → Own → Prop), (∀ (m : Nat) {y6 y7 y8 w24 w25 w26 w27 w28 w29 w30 w31 w32 w33 w34 w35 w36 : Value} {I : Imm} {L : Own}, m < n → Inv m y6 y7 y8 I L → N' ⟨#[s0, s1, s2, s3, s4, s5, y6, y7, y8, s9, s10, s11, s12, s13, s14, s15, s16, s17, s18, s19, s20, s21, s22, s23, w24, w25, w26, w27, w28, w29, w30, w31, w32, w33, w34, w35, w36, s37, s38], []⟩ I L) → ∀ (u : Nat → Value), B62_2 N' (Q62_2 R) (endX R) s0 s1 s2 s3 s4 s5 x6 x7 x8 s9 s10 s11 s12 s13 s14 s15 s16 s17 s18 s19 s20 s21 s22 s23 (u 24) (u 25) (u 26) (u 27) (u 28) (u 29) (u 30) (u 31) (u 32) (u 33) (u 34) (u 35) (u 36) s37 s38 I' L') : L62_2 R ⟨#[s0, s1, s2, s3, s4, s5, x6, x7, x8, s9, s10, s11, s12, s13, s14, s15, s16, s17, s18, s19, s20, s21, s22, s23, u24, u25, u26, u27, u28, u29, u30, u31, u32, u33, u34, u35, u36, s37, s38], []⟩ I L :=
  loop_gen (by kernel_rfl) (fun n a I L => ∃ (x6 x7 x8 : Value) (u : Nat → Value), a = (⟨#[s0, s1, s2, s3, s4, s5, x6, x7, x8, s9, s10, s11, s12, s13, s14, s15, s16, s17, s18, s19, s20, s21, s22, s23, u 24, u 25, u 26, u 27, u 28, u 29, u 30, u 31, u 32, u 33, u 34, u 35, u 36, s37, s38], []⟩ : Act) ∧ Inv n x6 x7 x8 I L) ⟨x6, x7, x8, (fun i => (Act.tmps ⟨#[s0, s1, s2, s3, s4, s5, x6, x7, x8, s9, s10, s11, s12, s13, s14, s15, s16, s17, s18, s19, s20, s21, s22, s23, u24, u25, u26, u27, u28, u29, u30, u31, u32, u33, u34, u35, u36, s37, s38], []⟩).getD i undef), (by kernel_rfl), h⟩
    (fun n a I' L' hle ⟨x6, x7, x8, u, e, hi⟩ => e ▸ round62_2 (round n x6 x7 x8 I' L' hle hi (fun a I L => ∃ m, m < n ∧ (fun n a I L => ∃ (x6 x7 x8 : Value) (u : Nat → Value), a = (⟨#[s0, s1, s2, s3, s4, s5, x6, x7, x8, s9, s10, s11, s12, s13, s14, s15, s16, s17, s18, s19, s20, s21, s22, s23, u 24, u 25, u 26, u 27, u 28, u 29, u 30, u 31, u 32, u 33, u 34, u 35, u 36, s37, s38], []⟩ : Act) ∧ Inv n x6 x7 x8 I L) m a I L) (fun m => fun {y6 y7 y8 w24 w25 w26 w27 w28 w29 w30 w31 w32 w33 w34 w35 w36 I L} hm hi => ⟨m, hm, y6, y7, y8, (fun i => (Act.tmps ⟨#[s0, s1, s2, s3, s4, s5, y6, y7, y8, s9, s10, s11, s12, s13, s14, s15, s16, s17, s18, s19, s20, s21, s22, s23, w24, w25, w26, w27, w28, w29, w30, w31, w32, w33, w34, w35, w36, s37, s38], []⟩).getD i undef), (by kernel_rfl), hi⟩) u))
theorem out62_2x2 {R : Ending → Imm → Own → Prop} {s0 s1 s2 s3 s4 s5 s6 s7 s8 s9 s10 s11 s12 s13 s14 s15 s16 s17 s18 s19 s20 s21 s22 s23 s24 s25 s26 s27 s28 s29 s30 s31 s32 s33 s34 s35 s36 s37 s38 : Value} {I : Imm} {L : Own} (h : J62_4 R ⟨#[s0, s1, s2, s3, s4, s5, s6, s7, s8, s9, s10, s11, s12, s13, s14, s15, s16, s17, s18, s19, s20, s21, s22, s23, s24, s25, s26, s27, s28, s29, s30, s31, s32, s33, s34, s35, s36, s37, s38], []⟩ I L) : Q62_2 R (.exit 2) ⟨#[s0, s1, s2, s3, s4, s5, s6, s7, s8, s9, s10, s11, s12, s13, s14, s15, s16, s17, s18, s19, s20, s21, s22, s23, s24, s25, s26, s27, s28, s29, s30, s31, s32, s33, s34, s35, s36, s37, s38], []⟩ I L :=
  Eq.mpr (by kernel_rfl) h
def T62_3 (N : Act → Imm → Own → Prop) (Q : Exit → Act → Imm → Own → Prop) (X : XT) (s0 s1 s2 s3 s4 s5 s6 s7 s8 s9 s10 s11 s12 s13 s14 s15 s16 s17 s18 s19 s20 s21 s22 s23 s24 s25 s26 s27 s28 s29 s30 s31 s32 s33 s34 s35 s36 s37 s38 : Value) (I : Imm) (L : Own) : Prop :=
 bin Try.prog .mul 91 s7 s7 I L fun x36 I L =>
J62_5 N Q X ⟨#[s0, s1, s2, s3, s4, s5, s6, x36, s8, s9, s10, s11, s12, s13, s14, s15, s16, s17, s18, s19, s20, s21, s22, s23, s24, s25, s26, s27, s28, s29, s30, s31, s32, s33, s7, s7, x36, s37, s38], []⟩ I L
theorem join62_3 {N : Act → Imm → Own → Prop} {Q : Exit → Act → Imm → Own → Prop} {X : XT} {s0 s1 s2 s3 s4 s5 s6 s7 s8 s9 s10 s11 s12 s13 s14 s15 s16 s17 s18 s19 s20 s21 s22 s23 s24 s25 s26 s27 s28 s29 s30 s31 s32 s33 s34 s35 s36 s37 s38 : Value} {I : Imm} {L : Own} (h : T62_3 N Q X s0 s1 s2 s3 s4 s5 s6 s7 s8 s9 s10 s11 s12 s13 s14 s15 s16 s17 s18 s19 s20 s21 s22 s23 s24 s25 s26 s27 s28 s29 s30 s31 s32 s33 s34 s35 s36 s37 s38 I L) : J62_3 N Q X ⟨#[s0, s1, s2, s3, s4, s5, s6, s7, s8, s9, s10, s11, s12, s13, s14, s15, s16, s17, s18, s19, s20, s21, s22, s23, s24, s25, s26, s27, s28, s29, s30, s31, s32, s33, s34, s35, s36, s37, s38], []⟩ I L :=
  sh_cut (fun _ => none) (O := True) (by kernel_rfl) trivial (by kernel_rfl) h
def T62_4 (R : Ending → Imm → Own → Prop) (s0 s1 s2 s3 s4 s5 s6 s7 s8 s9 s10 s11 s12 s13 s14 s15 s16 s17 s18 s19 s20 s21 s22 s23 s24 s25 s26 s27 s28 s29 s30 s31 s32 s33 s34 s35 s36 s37 s38 : Value) (I : Imm) (L : Own) : Prop :=
R (.returned (.tuple #[s4, s6])) I L
theorem join62_4 {R : Ending → Imm → Own → Prop} {s0 s1 s2 s3 s4 s5 s6 s7 s8 s9 s10 s11 s12 s13 s14 s15 s16 s17 s18 s19 s20 s21 s22 s23 s24 s25 s26 s27 s28 s29 s30 s31 s32 s33 s34 s35 s36 s37 s38 : Value} {I : Imm} {L : Own} (h : T62_4 R s0 s1 s2 s3 s4 s5 s6 s7 s8 s9 s10 s11 s12 s13 s14 s15 s16 s17 s18 s19 s20 s21 s22 s23 s24 s25 s26 s27 s28 s29 s30 s31 s32 s33 s34 s35 s36 s37 s38 I L) : J62_4 R ⟨#[s0, s1, s2, s3, s4, s5, s6, s7, s8, s9, s10, s11, s12, s13, s14, s15, s16, s17, s18, s19, s20, s21, s22, s23, s24, s25, s26, s27, s28, s29, s30, s31, s32, s33, s34, s35, s36, s37, s38], []⟩ I L :=
  sh_cut (fun _ => none) (O := True) (by kernel_rfl) trivial (by kernel_rfl) h
def T62_5 (N : Act → Imm → Own → Prop) (Q : Exit → Act → Imm → Own → Prop) (X : XT) (s0 s1 s2 s3 s4 s5 s6 s7 s8 s9 s10 s11 s12 s13 s14 s15 s16 s17 s18 s19 s20 s21 s22 s23 s24 s25 s26 s27 s28 s29 s30 s31 s32 s33 s34 s35 s36 s37 s38 : Value) (I : Imm) (L : Own) : Prop :=
 bin Try.prog .shr 3 s8 (.int .u64 1) I L fun x27 I L =>
N ⟨#[s0, s1, s2, s3, s4, s5, s6, s7, x27, s9, s10, s11, s12, s13, s14, s15, s16, s17, s18, s19, s20, s21, s22, s23, s24, s25, s8, x27, s28, s29, s30, s31, s32, s33, s34, s35, s36, s37, s38], []⟩ I L
theorem join62_5 {N : Act → Imm → Own → Prop} {Q : Exit → Act → Imm → Own → Prop} {X : XT} {s0 s1 s2 s3 s4 s5 s6 s7 s8 s9 s10 s11 s12 s13 s14 s15 s16 s17 s18 s19 s20 s21 s22 s23 s24 s25 s26 s27 s28 s29 s30 s31 s32 s33 s34 s35 s36 s37 s38 : Value} {I : Imm} {L : Own} (h : T62_5 N Q X s0 s1 s2 s3 s4 s5 s6 s7 s8 s9 s10 s11 s12 s13 s14 s15 s16 s17 s18 s19 s20 s21 s22 s23 s24 s25 s26 s27 s28 s29 s30 s31 s32 s33 s34 s35 s36 s37 s38 I L) : J62_5 N Q X ⟨#[s0, s1, s2, s3, s4, s5, s6, s7, s8, s9, s10, s11, s12, s13, s14, s15, s16, s17, s18, s19, s20, s21, s22, s23, s24, s25, s26, s27, s28, s29, s30, s31, s32, s33, s34, s35, s36, s37, s38], []⟩ I L :=
  sh_cut (fun _ => none) (O := True) (by kernel_rfl) trivial (by kernel_rfl) h
/-- 62: internal/bytealg.hashStr[string] -/
def M62 (R : Ending → Imm → Own → Prop) (x0 : Value) (I : Imm) (L : Own) : Prop :=
L62_0 R ⟨#[x0, undef, (.int .u32 0), (.int .u32 0), (.int .u32 0), (.int .i64 0), undef, undef, undef, undef, undef, undef, undef, undef, undef, undef, undef, undef, undef, undef, undef, undef, undef, undef, undef, undef, undef, undef, undef, undef, undef, undef, undef, undef, undef, undef, undef, undef, undef], []⟩ I L
theorem go62 {R : Ending → Imm → Own → Prop} {x0 : Value} {I : Imm} {L : Own} (h : M62 R x0 I L) : wpC Try.prog 62 #[x0] I L R :=
  wpC_go (fun p => if p = [0, 1, 0, 1, 1] then some (L62_0 R) else none) Try.func62 (by kernel_rfl) (O := (L62_0 R = L62_0 R) ∧ True) (by kernel_rfl) ⟨rfl, trivial⟩ (by kernel_rfl) h

def Q63_0 (R : Ending → Imm → Own → Prop) : Exit → Act → Imm → Own → Prop := (blkT 0 (seqT (cdT Try.prog (cdIn Try.f63 [1, 1, 1, 1, 1]) (endT Try.prog Try.f63 R) (endX R)) (endT Try.prog Try.f63 R)))
def L63_0 (R : Ending → Imm → Own → Prop) (a : Act) (I : Imm) (L : Own) : Prop := cdT Try.prog (cdIn Try.f63 [1, 1, 1, 1, 0, 1, 0]) (Q63_0 R) (endX R) a I L
def Q63_1 (R : Ending → Imm → Own → Prop) : Exit → Act → Imm → Own → Prop := (endT Try.prog Try.f63 R)
def J63_1 (R : Ending → Imm → Own → Prop) (a : Act) (I : Imm) (L : Own) : Prop := cdT Try.prog (cdIn Try.f63 [1, 1, 1, 1, 1]) (Q63_1 R) (endX R) a I L
/-- loop 63_0: what changes: 6 7 8; beside: 4 5 9 10 11 12 18 19 20 21 22 23 24 25 26 27 28 29 30 31 32 33 34 35 36 37 38 39 40 41 42 43 44 45 46 47 48 49 50 51 52 53 54 -/
def B63_0 (N : Act → Imm → Own → Prop) (Q : Exit → Act → Imm → Own → Prop) (X : XT) (s0 s1 s2 s3 s4 s5 s6 s7 s8 s9 s10 s11 s12 s13 s14 s15 s16 s17 s18 s19 s20 s21 s22 s23 s24 s25 s26 s27 s28 s29 s30 s31 s32 s33 s34 s35 s36 s37 s38 s39 s40 s41 s42 s43 s44 s45 s46 s47 s48 s49 s50 s51 s52 s53 s54 s55 s56 s57 : Value) (I : Imm) (L : Own) : Prop :=
 blt Try.prog .len #[9] 3 #[s0] I L fun x20 I L =>
 bin Try.prog .lss 3 s8 x20 I L fun x21 I L =>
 cnd x21
 (idx Try.prog 9 s0 s8 I L fun x26 I L =>
 cal Try.prog 65 #[x26] I L (fun ch => X ch []) fun x27 I L =>
 bin Try.prog .sub 3 s1 (.int .i64 1) I L fun x30 I L =>
 cal Try.prog 39 #[x27, (.int .i64 0), x30] I L (fun ch => X ch []) fun x31 I L =>
 un Try.prog .not x31 I L fun x32 I L =>
 cnd x32
 (Q .ret ⟨#[s0, s1, s2, s3, (.int .u64 0), (.int .i64 3), s6, s7, s8, x27, s10, s11, s12, s13, s14, s15, s16, s17, s8, s0, x20, x21, s22, s23, s0, s8, x26, x27, x27, s1, x30, x31, x32, s33, s34, s35, s36, s37, s38, s39, s40, s41, s42, s43, s44, s45, s46, s47, s48, s49, s50, s51, s52, s53, s54, s55, s56, s57], []⟩ I L)
 (cvt Try.prog 3 94 s1 I L fun x36 I L =>
 cal Try.prog 66 #[s7, x36] I L (fun ch => X ch []) fun x37 I L =>
 ext Try.prog x37 0 I L fun x38 I L =>
 ext Try.prog x37 1 I L fun x39 I L =>
 cvt Try.prog 3 94 x27 I L fun x43 I L =>
 cal Try.prog 67 #[x39, x43, (.int .u64 0)] I L (fun ch => X ch []) fun x44 I L =>
 ext Try.prog x44 0 I L fun x45 I L =>
 ext Try.prog x44 1 I L fun x46 I L =>
 bin Try.prog .add 94 x38 x46 I L fun x49 I L =>
 bin Try.prog .gtr 94 x49 (.int .u64 0) I L fun x50 I L =>
gd (yb (some x50) false) (fun k => k s6 I L) (fun x52 I L =>
gd (yb (some x50) false) (fun k => bin Try.prog .gtr 94 x52 (.int .u64 0) I L k) (fun x53 I L =>
pck x50 (.bool true) x53 I L fun x54 I L =>
 cnd x54
 (bin Try.prog .add 3 s8 (.int .i64 1) I L fun x23 I L =>
N ⟨#[s0, s1, s2, s3, s4, s5, (.int .u64 1), x45, x23, x27, x38, x39, x46, s13, s14, s15, s16, s17, s8, s0, x20, x21, s8, x23, s0, s8, x26, x27, x27, s1, x30, x31, x32, x37, s7, s1, x36, x37, x38, x39, x44, x39, x27, x43, x44, x45, x46, x38, x46, x49, x50, x50, x52, x53, x54, s55, s56, s57], []⟩ I L)
 (bin Try.prog .add 3 s8 (.int .i64 1) I L fun x23 I L =>
N ⟨#[s0, s1, s2, s3, s4, s5, s6, x45, x23, x27, x38, x39, x46, s13, s14, s15, s16, s17, s8, s0, x20, x21, s8, x23, s0, s8, x26, x27, x27, s1, x30, x31, x32, x37, s7, s1, x36, x37, x38, x39, x44, x39, x27, x43, x44, x45, x46, x38, x46, x49, x50, x50, x52, x53, x54, s55, s56, s57], []⟩ I L)) I L) I L))
 (Q (.exit 0) ⟨#[s0, s1, s2, s3, s4, s5, s6, s7, s8, s9, s10, s11, s12, s13, s14, s15, s16, s17, s8, s0, x20, x21, s22, s23, s24, s25, s26, s27, s28, s29, s30, s31, s32, s33, s34, s35, s36, s37, s38, s39, s40, s41, s42, s43, s44, s45, s46, s47, s48, s49, s50, s51, s52, s53, s54, s55, s56, s57], []⟩ I L)
theorem round63_0 {N : Act → Imm → Own → Prop} {Q : Exit → Act → Imm → Own → Prop} {X : XT} {s0 s1 s2 s3 s4 s5 s6 s7 s8 s9 s10 s11 s12 s13 s14 s15 s16 s17 s18 s19 s20 s21 s22 s23 s24 s25 s26 s27 s28 s29 s30 s31 s32 s33 s34 s35 s36 s37 s38 s39 s40 s41 s42 s43 s44 s45 s46 s47 s48 s49 s50 s51 s52 s53 s54 s55 s56 s57 : Value} {I : Imm} {L : Own} (h : B63_0 N Q X s0 s1 s2 s3 s4 s5 s6 s7 s8 s9 s10 s11 s12 s13 s14 s15 s16 s17 s18 s19 s20 s21 s22 s23 s24 s25 s26 s27 s28 s29 s30 s31 s32 s33 s34 s35 s36 s37 s38 s39 s40 s41 s42 s43 s44 s45 s46 s47 s48 s49 s50 s51 s52 s53 s54 s55 s56 s57 I L) : cdT Try.prog (cdIn Try.f63 [1, 1, 1, 1, 0, 1, 0, 0]) (seqT N Q) X ⟨#[s0, s1, s2, s3, s4, s5, s6, s7, s8, s9, s10, s11, s12, s13, s14, s15, s16, s17, s18, s19, s20, s21, s22, s23, s24, s25, s26, s27, s28, s29, s30, s31, s32, s33, s34, s35, s36, s37, s38, s39, s40, s41, s42, s43, s44, s45, s46, s47, s48, s49, s50, s51, s52, s53, s54, s55, s56, s57], []⟩ I L :=
  sh_cut (fun _ => none) (O := True) (by kernel_rfl) trivial (by kernel_rfl) h
theorem loop63_0 {R : Ending → Imm → Own → Prop} {s0 s1 s2 s3 s13 s14 s15 s16 s17 s55 s56 s57 : Value} {x6 x7 x8 u4 u5 u9 u10 u11 u12 u18 u19 u20 u21 u22 u23 u24 u25 u26 u27 u28 u29 u30 u31 u32 u33 u34 u35 u36 u37 u38 u39 u40 u41 u42 u43 u44 u45 u46 u47 u48 u49 u50 u51 u52 u53 u54 : Value} {I : Imm} {L : Own} (Inv : Nat → Value → Value → Value → Imm → Own → Prop) {n : Nat} (h : Inv n x6 x7 x8 I L)
  (round : ∀ (n : Nat) (x6 x7 x8 : Value) (I' : Imm) (L' : Own), I.Le I' → Inv n x6 x7 x8 I' L' → ∀ (N' : Act → Imm → Own → Prop), (∀ (m : Nat) {y6 y7 y8 w4 w5 w9 w10 w11 w12 w18 w19 w20 w21 w22 w23 w24 w25 w26 w27 w28 w29 w30 w31 w32 w33 w34 w35 w36 w37 w38 w39 w40 w41 w42 w43 w44 w45 w46 w47 w48 w49 w50 w51 w52 w53 w54 : Value} {I : Imm} {L : Own}, m < n → Inv m y6 y7 y8 I L → N' ⟨#[s0, s1, s2, s3, w4, w5, y6, y7, y8, w9, w10, w11, w12, s13, s14, s15, s16, s17, w18, w19, w20, w21, w22, w23, w24, w25, w26, w27, w28, w29, w30, w31, w32, w33, w34, w35, w36, w37, w38, w39, w40, w41, w42, w43, w44, w45, w46, w47, w48, w49, w50, w51, w52, w53, w54, s55, s56, s57], []⟩ I L) → ∀ (u : Nat → Value), B63_0 N' (Q63_0 R) (endX R) s0 s1 s2 s3 (u 4) (u 5) x6 x7 x8 (u 9) (u 10) (u 11) (u 12) s13 s14 s15 s16 s17 (u 18) (u 19) (u 20) (u 21) (u 22) (u 23) (u 24) (u 25) (u 26) (u 27) (u 28) (u 29) (u 30) (u 31) (u 32) (u 33) (u 34) (u 35) (u 36) (u 37) (u 38) (u 39) (u 40) (u 41) (u 42) (u 43) (u 44) (u 45) (u 46) (u 47) (u 48) (u 49) (u 50) (u 51) (u 52) (u 53) (u 54) s55 s56 s57 I' L') : L63_0 R ⟨#[s0, s1, s2, s3, u4, u5, x6, x7, x8, u9, u10, u11, u12, s13, s14, s15, s16, s17, u18, u19, u20, u21, u22, u23, u24, u25, u26, u27, u28, u29, u30, u31, u32, u33, u34, u35, u36, u37, u38, u39, u40, u41, u42, u43, u44, u45, u46, u47, u48, u49, u50, u51, u52, u53, u54, s55, s56, s57], []⟩ I L :=
  loop_gen (by kernel_rfl) (fun n a I L => ∃ (x6 x7 x8 : Value) (u : Nat → Value), a = (⟨#[s0, s1, s2, s3, u 4, u 5, x6, x7, x8, u 9, u 10, u 11, u 12, s13, s14, s15, s16, s17, u 18, u 19, u 20, u 21, u 22, u 23, u 24, u 25, u 26, u 27, u 28, u 29, u 30, u 31, u 32, u 33, u 34, u 35, u 36, u 37, u 38, u 39, u 40, u 41, u 42, u 43, u 44, u 45, u 46, u 47, u 48, u 49, u 50, u 51, u 52, u 53, u 54, s55, s56, s57], []⟩ : Act) ∧ Inv n x6 x7 x8 I L) ⟨x6, x7, x8, (fun i => (Act.tmps ⟨#[s0, s1, s2, s3, u4, u5, x6, x7, x8, u9, u10, u11, u12, s13, s14, s15, s16, s17, u18, u19, u20, u21, u22, u23, u24, u25, u26, u27, u28, u29, u30, u31, u32, u33, u34, u35, u36, u37, u38, u39, u40, u41, u42, u43, u44, u45, u46, u47, u48, u49, u50, u51, u52, u53, u54, s55, s56, s57], []⟩).getD i undef), (by kernel_rfl), h⟩
    (fun n a I' L' hle ⟨x6, x7, x8, u, e, hi⟩ => e ▸ round63_0 (round n x6 x7 x8 I' L' hle hi (fun a I L => ∃ m, m < n ∧ (fun n a I L => ∃ (x6 x7 x8 : Value) (u : Nat → Value), a = (⟨#[s0, s1, s2, s3, u 4, u 5, x6, x7, x8, u 9, u 10, u 11, u 12, s13, s14, s15, s16, s17, u 18, u 19, u 20, u 21, u 22, u 23, u 24, u 25, u 26, u 27, u 28, u 29, u 30, u 31, u 32, u 33, u 34, u 35, u 36, u 37, u 38, u 39, u 40, u 41, u 42, u 43, u 44, u 45, u 46, u 47, u 48, u 49, u 50, u 51, u 52, u 53, u 54, s55, s56, s57], []⟩ : Act) ∧ Inv n x6 x7 x8 I L) m a I L) (fun m => fun {y6 y7 y8 w4 w5 w9 w10 w11 w12 w18 w19 w20 w21 w22 w23 w24 w25 w26 w27 w28 w29 w30 w31 w32 w33 w34 w35 w36 w37 w38 w39 w40 w41 w42 w43 w44 w45 w46 w47 w48 w49 w50 w51 w52 w53 w54 I L} hm hi => ⟨m, hm, y6, y7, y8, (fun i => (Act.tmps ⟨#[s0, s1, s2, s3, w4, w5, y6, y7, y8, w9, w10, w11, w12, s13, s14, s15, s16, s17, w18, w19, w20, w21, w22, w23, w24, w25, w26, w27, w28, w29, w30, w31, w32, w33, w34, w35, w36, w37, w38, w39, w40, w41, w42, w43, w44, w45, w46, w47, w48, w49, w50, w51, w52, w53, w54, s55, s56, s57], []⟩).getD i undef), (by kernel_rfl), hi⟩) u))
theorem out63_0x0 {R : Ending → Imm → Own → Prop} {s0 s1 s2 s3 s4 s5 s6 s7 s8 s9 s10 s11 s12 s13 s14 s15 s16 s17 s18 s19 s20 s21 s22 s23 s24 s25 s26 s27 s28 s29 s30 s31 s32 s33 s34 s35 s36 s37 s38 s39 s40 s41 s42 s43 s44 s45 s46 s47 s48 s49 s50 s51 s52 s53 s54 s55 s56 s57 : Value} {I : Imm} {L : Own} (h : J63_1 R ⟨#[s0, s1, s2, s3, s4, s5, s6, s7, s8, s9, s10, s11, s12, s13, s14, s15, s16, s17, s18, s19, s20, s21, s22, s23, s24, s25, s26, s27, s28, s29, s30, s31, s32, s33, s34, s35, s36, s37, s38, s39, s40, s41, s42, s43, s44, s45, s46, s47, s48, s49, s50, s51, s52, s53, s54, s55, s56, s57], []⟩ I L) : Q63_0 R (.exit 0) ⟨#[s0, s1, s2, s3, s4, s5, s6, s7, s8, s9, s10, s11, s12, s13, s14, s15, s16, s17, s18, s19, s20, s21, s22, s23, s24, s25, s26, s27, s28, s29, s30, s31, s32, s33, s34, s35, s36, s37, s38, s39, s40, s41, s42, s43, s44, s45, s46, s47, s48, s49, s50, s51, s52, s53, s54, s55, s56, s57], []⟩ I L :=
  Eq.mpr (by kernel_rfl) h
theorem out63_0r {R : Ending → Imm → Own → Prop} {s0 s1 s2 s3 s4 s5 s6 s7 s8 s9 s10 s11 s12 s13 s14 s15 s16 s17 s18 s19 s20 s21 s22 s23 s24 s25 s26 s27 s28 s29 s30 s31 s32 s33 s34 s35 s36 s37 s38 s39 s40 s41 s42 s43 s44 s45 s46 s47 s48 s49 s50 s51 s52 s53 s54 s55 s56 s57 : Value} {I : Imm} {L : Own} (h : R (.returned (.tuple #[s4, s5])) I L) : Q63_0 R .ret ⟨#[s0, s1, s2, s3, s4, s5, s6, s7, s8, s9, s10, s11, s12, s13, s14, s15, s16, s17, s18, s19, s20, s21, s22, s23, s24, s25, s26, s27, s28, s29, s30, s31, s32, s33, s34, s35, s36, s37, s38, s39, s40, s41, s42, s43, s44, s45, s46, s47, s48, s49, s50, s51, s52, s53, s54, s55, s56, s57], []⟩ I L :=
  Eq.mpr (by kernel_rfl) h
def T63_1 (R : Ending → Imm → Own → Prop) (s0 s1 s2 s3 s4 s5 s6 s7 s8 s9 s10 s11 s12 s13 s14 s15 s16 s17 s18 s19 s20 s21 s22 s23 s24 s25 s26 s27 s28 s29 s30 s31 s32 s33 s34 s35 s36 s37 s38 s39 s40 s41 s42 s43 s44 s45 s46 s47 s48 s49 s50 s51 s52 s53 s54 s55 s56 s57 : Value) (I : Imm) (L : Own) : Prop :=
 bin Try.prog .gtr 94 s6 (.int .u64 0) I L fun x56 I L =>
 cnd x56
 (R (.returned (.tuple #[(.int .u64 0), (.int .i64 2)])) I L)
 (R (.returned (.tuple #[s7, (.int .i64 0)])) I L)
theorem join63_1 {R : Ending → Imm → Own → Prop} {s0 s1 s2 s3 s4 s5 s6 s7 s8 s9 s10 s11 s12 s13 s14 s15 s16 s17 s18 s19 s20 s21 s22 s23 s24 s25 s26 s27 s28 s29 s30 s31 s32 s33 s34 s35 s36 s37 s38 s39 s40 s41 s42 s43 s44 s45 s46 s47 s48 s49 s50 s51 s52 s53 s54 s55 s56 s57 : Value} {I : Imm} {L : Own} (h : T63_1 R s0 s1 s2 s3 s4 s5 s6 s7 s8 s9 s10 s11 s12 s13 s14 s15 s16 s17 s18 s19 s20 s21 s22 s23 s24 s25 s26 s27 s28 s29 s30 s31 s32 s33 s34 s35 s36 s37 s38 s39 s40 s41 s42 s43 s44 s45 s46 s47 s48 s49 s50 s51 s52 s53 s54 s55 s56 s57 I L) : J63_1 R ⟨#[s0, s1, s2, s3, s4, s5, s6, s7, s8, s9, s10, s11, s12, s13, s14, s15, s16, s17, s18, s19, s20, s21, s22, s23, s24, s25, s26, s27, s28, s29, s30, s31, s32, s33, s34, s35, s36, s37, s38, s39, s40, s41, s42, s43, s44, s45, s46, s47, s48, s49, s50, s51, s52, s53, s54, s55, s56, s57], []⟩ I L :=
  sh_cut (fun _ => none) (O := True) (by kernel_rfl) trivial (by kernel_rfl) h
/-- 63: escritoire/escritoireref.DigitsParse -/
def M63 (R : Ending → Imm → Own → Prop) (x0 x1 : Value) (I : Imm) (L : Own) : Prop :=
 cal Try.prog 39 #[x1, (.int .i64 2), (.int .i64 16)] I L (fun ch => (endX R) ch []) fun x14 I L =>
 un Try.prog .not x14 I L fun x15 I L =>
 cnd x15
 (R (.returned (.tuple #[(.int .u64 0), (.int .i64 1)])) I L)
 (eqn Try.prog .eql 9 false true x0 (S []) I L fun x17 I L =>
 cnd x17
 (R (.returned (.tuple #[(.int .u64 0), (.int .i64 3)])) I L)
 (L63_0 R ⟨#[x0, x1, undef, undef, (.int .u64 0), (.int .i64 0), (.int .u64 0), (.int .u64 0), (.int .i64 0), undef, undef, undef, undef, x1, x14, x15, x0, x17, undef, undef, undef, undef, undef, undef, undef, undef, undef, undef, undef, undef, undef, undef, undef, undef, undef, undef, undef, undef, undef, undef, undef, undef, undef, undef, undef, undef, undef, undef, undef, undef, undef, undef, undef, undef, undef, undef, undef, undef], []⟩ I L))
theorem go63 {R : Ending → Imm → Own → Prop} {x0 x1 : Value} {I : Imm} {L : Own} (h : M63 R x0 x1 I L) : wpC Try.prog 63 #[x0, x1] I L R :=
  wpC_go (fun p => if p = [0, 1, 0, 1, 1, 1, 1] then some (L63_0 R) else none) Try.func63 (by kernel_rfl) (O := (L63_0 R = L63_0 R) ∧ True) (by kernel_rfl) ⟨rfl, trivial⟩ (by kernel_rfl) h

def Q64_0 (R : Ending → Imm → Own → Prop) : Exit → Act → Imm → Own → Prop := (blkT 0 (seqT (cdT Try.prog (cdIn Try.f64 [1, 1, 1]) (endT Try.prog Try.f64 R) (endX R)) (endT Try.prog Try.f64 R)))
def L64_0 (R : Ending → Imm → Own → Prop) (a : Act) (I : Imm) (L : Own) : Prop := cdT Try.prog (cdIn Try.f64 [1, 1, 0, 0]) (Q64_0 R) (endX R) a I L
def Q64_1 (R : Ending → Imm → Own → Prop) : Exit → Act → Imm → Own → Prop := (endT Try.prog Try.f64 R)
def J64_1 (R : Ending → Imm → Own → Prop) (a : Act) (I : Imm) (L : Own) : Prop := cdT Try.prog (cdIn Try.f64 [1, 1, 1]) (Q64_1 R) (endX R) a I L
/-- loop 64_0: what changes: 0 3; beside: 4 5 6 7 8 9 -/
def B64_0 (N : Act → Imm → Own → Prop) (Q : Exit → Act → Imm → Own → Prop) (X : XT) (s0 s1 s2 s3 s4 s5 s6 s7 s8 s9 s10 : Value) (I : Imm) (L : Own) : Prop :=
 bin Try.prog .gtr 3 s0 (.int .i64 0) I L fun x5 I L =>
 cnd x5
 (bin Try.prog .mul 94 s3 (.int .u64 2) I L fun x9 I L =>
 bin Try.prog .sub 3 s0 (.int .i64 1) I L fun x7 I L =>
N ⟨#[x7, s1, s2, x9, s0, x5, s0, x7, s3, x9, s10], []⟩ I L)
 (Q (.exit 0) ⟨#[s0, s1, s2, s3, s0, x5, s6, s7, s8, s9, s10], []⟩ I L)
theorem round64_0 {N : Act → Imm → Own → Prop} {Q : Exit → Act → Imm → Own → Prop} {X : XT} {s0 s1 s2 s3 s4 s5 s6 s7 s8 s9 s10 : Value} {I : Imm} {L : Own} (h : B64_0 N Q X s0 s1 s2 s3 s4 s5 s6 s7 s8 s9 s10 I L) : cdT Try.prog (cdIn Try.f64 [1, 1, 0, 0, 0]) (seqT N Q) X ⟨#[s0, s1, s2, s3, s4, s5, s6, s7, s8, s9, s10], []⟩ I L :=
  sh_cut (fun _ => none) (O := True) (by kernel_rfl) trivial (by kernel_rfl) h
theorem loop64_0 {R : Ending → Imm → Own → Prop} {s1 s2 s10 : Value} {x0 x3 u4 u5 u6 u7 u8 u9 : Value} {I : Imm} {L : Own} (Inv : Nat → Value → Value → Imm → Own → Prop) {n : Nat} (h : Inv n x0 x3 I L)
  (round : ∀ (n : Nat) (x0 x3 : Value) (I' : Imm) (L' : Own), I.Le I' → Inv n x0 x3 I' L' → ∀ (N' : Act → Imm → Own → Prop), (∀ (m : Nat) {y0 y3 w4 w5 w6 w7 w8 w9 : Value} {I : Imm} {L : Own}, m < n → Inv m y0 y3 I L → N' ⟨#[y0, s1, s2, y3, w4, w5, w6, w7, w8, w9, s10], []⟩ I L) → ∀ (u : Nat → Value), B64_0 N' (Q64_0 R) (endX R) x0 s1 s2 x3 (u 4) (u 5) (u 6) (u 7) (u 8) (u 9) s10 I' L') : L64_0 R ⟨#[x0, s1, s2, x3, u4, u5, u6, u7, u8, u9, s10], []⟩ I L :=
  loop_gen (by kernel_rfl) (fun n a I L => ∃ (x0 x3 : Value) (u : Nat → Value), a = (⟨#[x0, s1, s2, x3, u 4, u 5, u 6, u 7, u 8, u 9, s10], []⟩ : Act) ∧ Inv n x0 x3 I L) ⟨x0, x3, (fun i => (Act.tmps ⟨#[x0, s1, s2, x3, u4, u5, u6, u7, u8, u9, s10], []⟩).getD i undef), (by kernel_rfl), h⟩
    (fun n a I' L' hle ⟨x0, x3, u, e, hi⟩ => e ▸ round64_0 (round n x0 x3 I' L' hle hi (fun a I L => ∃ m, m < n ∧ (fun n a I L => ∃ (x0 x3 : Value) (u : Nat → Value), a = (⟨#[x0, s1, s2, x3, u 4, u 5, u 6, u 7, u 8, u 9, s10], []⟩ : Act) ∧ Inv n x0 x3 I L) m a I L) (fun m => fun {y0 y3 w4 w5 w6 w7 w8 w9 I L} hm hi => ⟨m, hm, y0, y3, (fun i => (Act.tmps ⟨#[y0, s1, s2, y3, w4, w5, w6, w7, w8, w9, s10], []⟩).getD i undef), (by kernel_rfl), hi⟩) u))
theorem out64_0x0 {R : Ending → Imm → Own → Prop} {s0 s1 s2 s3 s4 s5 s6 s7 s8 s9 s10 : Value} {I : Imm} {L : Own} (h : J64_1 R ⟨#[s0, s1, s2, s3, s4, s5, s6, s7, s8, s9, s10], []⟩ I L) : Q64_0 R (.exit 0) ⟨#[s0, s1, s2, s3, s4, s5, s6, s7, s8, s9, s10], []⟩ I L :=
  Eq.mpr (by kernel_rfl) h
def T64_1 (R : Ending → Imm → Own → Prop) (s0 s1 s2 s3 s4 s5 s6 s7 s8 s9 s10 : Value) (I : Imm) (L : Own) : Prop :=
R (.returned s3) I L
theorem join64_1 {R : Ending → Imm → Own → Prop} {s0 s1 s2 s3 s4 s5 s6 s7 s8 s9 s10 : Value} {I : Imm} {L : Own} (h : T64_1 R s0 s1 s2 s3 s4 s5 s6 s7 s8 s9 s10 I L) : J64_1 R ⟨#[s0, s1, s2, s3, s4, s5, s6, s7, s8, s9, s10], []⟩ I L :=
  sh_cut (fun _ => none) (O := True) (by kernel_rfl) trivial (by kernel_rfl) h
/-- 64: escritoire/escritoireref.pow2 -/
def M64 (R : Ending → Imm → Own → Prop) (x0 : Value) (I : Imm) (L : Own) : Prop :=
L64_0 R ⟨#[x0, undef, (.int .u64 0), (.int .u64 1), undef, undef, undef, undef, undef, undef, undef], []⟩ I L
theorem go64 {R : Ending → Imm → Own → Prop} {x0 : Value} {I : Imm} {L : Own} (h : M64 R x0 I L) : wpC Try.prog 64 #[x0] I L R :=
  wpC_go (fun p => if p = [0, 0, 1, 1] then some (L64_0 R) else none) Try.func64 (by kernel_rfl) (O := (L64_0 R = L64_0 R) ∧ True) (by kernel_rfl) ⟨rfl, trivial⟩ (by kernel_rfl) h

def Q65_0 (R : Ending → Imm → Own → Prop) : Exit → Act → Imm → Own → Prop := (blkT 0 (seqT (cdT Try.prog (cdIn Try.f65 [1, 1]) (endT Try.prog Try.f65 R) (endX R)) (endT Try.prog Try.f65 R)))
def L65_0 (R : Ending → Imm → Own → Prop) (a : Act) (I : Imm) (L : Own) : Prop := cdT Try.prog (cdIn Try.f65 [1, 0, 1, 0]) (Q65_0 R) (endX R) a I L
def Q65_1 (N : Act → Imm → Own → Prop) (Q : Exit → Act → Imm → Own → Prop) (X : XT) : Exit → Act → Imm → Own → Prop := (blkT 2 (blkT 1 (seqT (cdT Try.prog (cdIn Try.f65 [1, 0, 1, 0, 0, 1, 1, 1]) (seqT N Q) X) (seqT N Q))))
def L65_1 (N : Act → Imm → Own → Prop) (Q : Exit → Act → Imm → Own → Prop) (X : XT) (a : Act) (I : Imm) (L : Own) : Prop := cdT Try.prog (cdIn Try.f65 [1, 0, 1, 0, 0, 1, 1, 0, 0, 1, 1, 0]) (Q65_1 N Q X) X a I L
def Q65_2 (R : Ending → Imm → Own → Prop) : Exit → Act → Imm → Own → Prop := (endT Try.prog Try.f65 R)
def J65_2 (R : Ending → Imm → Own → Prop) (a : Act) (I : Imm) (L : Own) : Prop := cdT Try.prog (cdIn Try.f65 [1, 1]) (Q65_2 R) (endX R) a I L
def Q65_3 (N : Act → Imm → Own → Prop) (Q : Exit → Act → Imm → Own → Prop) (X : XT) : Exit → Act → Imm → Own → Prop := (seqT N Q)
def J65_3 (N : Act → Imm → Own → Prop) (Q : Exit → Act → Imm → Own → Prop) (X : XT) (a : Act) (I : Imm) (L : Own) : Prop := cdT Try.prog (cdIn Try.f65 [1, 0, 1, 0, 0, 1, 1, 1]) (Q65_3 N Q X) X a I L
/-- loop 65_0: what changes: 8; beside: 2 3 4 5 9 10 11 12 13 14 15 16 17 18 19 20 21 22 23 24 25 -/
def B65_0 (N : Act → Imm → Own → Prop) (Q : Exit → Act → Imm → Own → Prop) (X : XT) (s0 s1 s2 s3 s4 s5 s6 s7 s8 s9 s10 s11 s12 s13 s14 s15 s16 s17 s18 s19 s20 s21 s22 s23 s24 s25 : Value) (I : Imm) (L : Own) : Prop :=
 bin Try.prog .lss 3 s8 s7 I L fun x9 I L =>
 cnd x9
 (iad Try.prog 70 s6 s8 I L fun x11 I L =>
 ld Try.prog 9 x11 I L fun x12 I L =>
L65_1 N Q X ⟨#[s0, s1, s2, s8, x12, (.int .i64 0), s6, s7, s8, x9, s8, x11, x12, s13, s14, s15, s16, s17, s18, s19, s20, s21, s22, s23, s24, s25], []⟩ I L)
 (Q (.exit 0) ⟨#[s0, s1, s2, s3, s4, s5, s6, s7, s8, x9, s10, s11, s12, s13, s14, s15, s16, s17, s18, s19, s20, s21, s22, s23, s24, s25], []⟩ I L)
theorem round65_0 {N : Act → Imm → Own → Prop} {Q : Exit → Act → Imm → Own → Prop} {X : XT} {s0 s1 s2 s3 s4 s5 s6 s7 s8 s9 s10 s11 s12 s13 s14 s15 s16 s17 s18 s19 s20 s21 s22 s23 s24 s25 : Value} {I : Imm} {L : Own} (h : B65_0 N Q X s0 s1 s2 s3 s4 s5 s6 s7 s8 s9 s10 s11 s12 s13 s14 s15 s16 s17 s18 s19 s20 s21 s22 s23 s24 s25 I L) : cdT Try.prog (cdIn Try.f65 [1, 0, 1, 0, 0]) (seqT N Q) X ⟨#[s0, s1, s2, s3, s4, s5, s6, s7, s8, s9, s10, s11, s12, s13, s14, s15, s16, s17, s18, s19, s20, s21, s22, s23, s24, s25], []⟩ I L :=
  sh_cut (fun p => if p = [0, 1, 1, 0, 0, 1, 1] then some (L65_1 N Q X) else none) (O := (L65_1 N Q X = L65_1 N Q X) ∧ True) (by kernel_rfl) ⟨rfl, trivial⟩ (by kernel_rfl) h
theorem loop65_0 {R : Ending → Imm → Own → Prop} {s0 s1 s6 s7 : Value} {x8 u2 u3 u4 u5 u9 u10 u11 u12 u13 u14 u15 u16 u17 u18 u19 u20 u21 u22 u23 u24 u25 : Value} {I : Imm} {L : Own} (Inv : Nat → Value → Imm → Own → Prop) {n : Nat} (h : Inv n x8 I L)
  (round : ∀ (n : Nat) (x8 : Value) (I' : Imm) (L' : Own), I.Le I' → Inv n x8 I' L' → ∀ (N' : Act → Imm → Own → Prop), (∀ (m : Nat) {y8 w2 w3 w4 w5 w9 w10 w11 w12 w13 w14 w15 w16 w17 w18 w19 w20 w21 w22 w23 w24 w25 : Value} {I : Imm} {L : Own}, m < n → Inv m y8 I L → N' ⟨#[s0, s1, w2, w3, w4, w5, s6, s7, y8, w9, w10, w11, w12, w13, w14, w15, w16, w17, w18, w19, w20, w21, w22, w23, w24, w25], []⟩ I L) → ∀ (u : Nat → Value), B65_0 N' (Q65_0 R) (endX R) s0 s1 (u 2) (u 3) (u 4) (u 5) s6 s7 x8 (u 9) (u 10) (u 11) (u 12) (u 13) (u 14) (u 15) (u 16) (u 17) (u 18) (u 19) (u 20) (u 21) (u 22) (u 23) (u 24) (u 25) I' L') : L65_0 R ⟨#[s0, s1, u2, u3, u4, u5, s6, s7, x8, u9, u10, u11, u12, u13, u14, u15, u16, u17, u18, u19, u20, u21, u22, u23, u24, u25], []⟩ I L :=
  loop_gen (by kernel_rfl) (fun n a I L => ∃ (x8 : Value) (u : Nat → Value), a = (⟨#[s0, s1, u 2, u 3, u 4, u 5, s6, s7, x8, u 9, u 10, u 11, u 12, u 13, u 14, u 15, u 16, u 17, u 18, u 19, u 20, u 21, u 22, u 23, u 24, u 25], []⟩ : Act) ∧ Inv n x8 I L) ⟨x8, (fun i => (Act.tmps ⟨#[s0, s1, u2, u3, u4, u5, s6, s7, x8, u9, u10, u11, u12, u13, u14, u15, u16, u17, u18, u19, u20, u21, u22, u23, u24, u25], []⟩).getD i undef), (by kernel_rfl), h⟩
    (fun n a I' L' hle ⟨x8, u, e, hi⟩ => e ▸ round65_0 (round n x8 I' L' hle hi (fun a I L => ∃ m, m < n ∧ (fun n a I L => ∃ (x8 : Value) (u : Nat → Value), a = (⟨#[s0, s1, u 2, u 3, u 4, u 5, s6, s7, x8, u 9, u 10, u 11, u 12, u 13, u 14, u 15, u 16, u 17, u 18, u 19, u 20, u 21, u 22, u 23, u 24, u 25], []⟩ : Act) ∧ Inv n x8 I L) m a I L) (fun m => fun {y8 w2 w3 w4 w5 w9 w10 w11 w12 w13 w14 w15 w16 w17 w18 w19 w20 w21 w22 w23 w24 w25 I L} hm hi => ⟨m, hm, y8, (fun i => (Act.tmps ⟨#[s0, s1, w2, w3, w4, w5, s6, s7, y8, w9, w10, w11, w12, w13, w14, w15, w16, w17, w18, w19, w20, w21, w22, w23, w24, w25], []⟩).getD i undef), (by kernel_rfl), hi⟩) u))
theorem out65_0x0 {R : Ending → Imm → Own → Prop} {s0 s1 s2 s3 s4 s5 s6 s7 s8 s9 s10 s11 s12 s13 s14 s15 s16 s17 s18 s19 s20 s21 s22 s23 s24 s25 : Value} {I : Imm} {L : Own} (h : J65_2 R ⟨#[s0, s1, s2, s3, s4, s5, s6, s7, s8, s9, s10, s11, s12, s13, s14, s15, s16, s17, s18, s19, s20, s21, s22, s23, s24, s25], []⟩ I L) : Q65_0 R (.exit 0) ⟨#[s0, s1, s2, s3, s4, s5, s6, s7, s8, s9, s10, s11, s12, s13, s14, s15, s16, s17, s18, s19, s20, s21, s22, s23, s24, s25], []⟩ I L :=
  Eq.mpr (by kernel_rfl) h
theorem out65_0r {R : Ending → Imm → Own → Prop} {s0 s1 s2 s3 s4 s5 s6 s7 s8 s9 s10 s11 s12 s13 s14 s15 s16 s17 s18 s19 s20 s21 s22 s23 s24 s25 : Value} {I : Imm} {L : Own} (h : R (.returned s2) I L) : Q65_0 R .ret ⟨#[s0, s1, s2, s3, s4, s5, s6, s7, s8, s9, s10, s11, s12, s13, s14, s15, s16, s17, s18, s19, s20, s21, s22, s23, s24, s25], []⟩ I L :=
  Eq.mpr (by kernel_rfl) h
/-- loop 65_1: what changes: 5; beside: 2 13 14 15 16 17 18 19 20 21 22 23 24 -/
def B65_1 (N : Act → Imm → Own → Prop) (Q : Exit → Act → Imm → Own → Prop) (X : XT) (s0 s1 s2 s3 s4 s5 s6 s7 s8 s9 s10 s11 s12 s13 s14 s15 s16 s17 s18 s19 s20 s21 s22 s23 s24 s25 : Value) (I : Imm) (L : Own) : Prop :=
 blt Try.prog .len #[9] 3 #[s4] I L fun x15 I L =>
 bin Try.prog .lss 3 s5 x15 I L fun x16 I L =>
 cnd x16
 (idx Try.prog 9 s4 s5 I L fun x21 I L =>
 eqn Try.prog .eql 5 false false x21 s0 I L fun x23 I L =>
 cnd x23
 (Q .ret ⟨#[s0, s1, s3, s3, s4, s5, s6, s7, s8, s9, s10, s11, s12, s5, s4, x15, x16, s17, s18, s4, s5, x21, s0, x23, s3, s25], []⟩ I L)
 (bin Try.prog .add 3 s5 (.int .i64 1) I L fun x18 I L =>
N ⟨#[s0, s1, s2, s3, s4, x18, s6, s7, s8, s9, s10, s11, s12, s5, s4, x15, x16, s5, x18, s4, s5, x21, s0, x23, s24, s25], []⟩ I L))
 (Q (.exit 2) ⟨#[s0, s1, s2, s3, s4, s5, s6, s7, s8, s9, s10, s11, s12, s5, s4, x15, x16, s17, s18, s19, s20, s21, s22, s23, s24, s25], []⟩ I L)
theorem round65_1 {N : Act → Imm → Own → Prop} {Q : Exit → Act → Imm → Own → Prop} {X : XT} {s0 s1 s2 s3 s4 s5 s6 s7 s8 s9 s10 s11 s12 s13 s14 s15 s16 s17 s18 s19 s20 s21 s22 s23 s24 s25 : Value} {I : Imm} {L : Own} (h : B65_1 N Q X s0 s1 s2 s3 s4 s5 s6 s7 s8 s9 s10 s11 s12 s13 s14 s15 s16 s17 s18 s19 s20 s21 s22 s23 s24 s25 I L) : cdT Try.prog (cdIn Try.f65 [1, 0, 1, 0, 0, 1, 1, 0, 0, 1, 1, 0, 0]) (seqT N Q) X ⟨#[s0, s1, s2, s3, s4, s5, s6, s7, s8, s9, s10, s11, s12, s13, s14, s15, s16, s17, s18, s19, s20, s21, s22, s23, s24, s25], []⟩ I L :=
  sh_cut (fun _ => none) (O := True) (by kernel_rfl) trivial (by kernel_rfl) h
theorem loop65_1 {N : Act → Imm → Own → Prop} {Q : Exit → Act → Imm → Own → Prop} {X : XT} {s0 s1 s3 s4 s6 s7 s8 s9 s10 s11 s12 s25 : Value} {x5 u2 u13 u14 u15 u16 u17 u18 u19 u20 u21 u22 u23 u24 : Value} {I : Imm} {L : Own} (Inv : Nat → Value → Imm → Own → Prop) {n : Nat} (h : Inv n x5 I L)
  (round : ∀ (n : Nat) (x5 : Value) (I' : Imm) (L' : Own), I.Le I' → Inv n x5 I' L' → ∀ (N' : Act → Imm → Own → Prop), (∀ (m : Nat) {y5 w2 w13 w14 w15 w16 w17 w18 w19 w20 w21 w22 w23 w24 : Value} {I : Imm} {L : Own}, m < n → Inv m y5 I L → N' ⟨#[s0, s1, w2, s3, s4, y5, s6, s7, s8, s9, s10, s11, s12, w13, w14, w15, w16, w17, w18, w19, w20, w21, w22, w23, w24, s25], []⟩ I L) → ∀ (u : Nat → Value), B65_1 N' (Q65_1 N Q X) X s0 s1 (u 2) s3 s4 x5 s6 s7 s8 s9 s10 s11 s12 (u 13) (u 14) (u 15) (u 16) (u 17) (u 18) (u 19) (u 20) (u 21) (u 22) (u 23) (u 24) s25 I' L') : L65_1 N Q X ⟨#[s0, s1, u2, s3, s4, x5, s6, s7, s8, s9, s10, s11, s12, u13, u14, u15, u16, u17, u18, u19, u20, u21, u22, u23, u24, s25], []⟩ I L :=
  loop_gen (by kernel_rfl) (fun n a I L => ∃ (x5 : Value) (u : Nat → Value), a = (⟨#[s0, s1, u 2, s3, s4, x5, s6, s7, s8, s9, s10, s11, s12, u 13, u 14, u 15, u 16, u 17, u 18, u 19, u 20, u 21, u 22, u 23, u 24, s25], []⟩ : Act) ∧ Inv n x5 I L) ⟨x5, (fun i => (Act.tmps ⟨#[s0, s1, u2, s3, s4, x5, s6, s7, s8, s9, s10, s11, s12, u13, u14, u15, u16, u17, u18, u19, u20, u21, u22, u23, u24, s25], []⟩).getD i undef), (by kernel_rfl), h⟩
    (fun n a I' L' hle ⟨x5, u, e, hi⟩ => e ▸ round65_1 (round n x5 I' L' hle hi (fun a I L => ∃ m, m < n ∧ (fun n a I L => ∃ (x5 : Value) (u : Nat → Value), a = (⟨#[s0, s1, u 2, s3, s4, x5, s6, s7, s8, s9, s10, s11, s12, u 13, u 14, u 15, u 16, u 17, u 18, u 19, u 20, u 21, u 22, u 23, u 24, s25], []⟩ : Act) ∧ Inv n x5 I L) m a I L) (fun m => fun {y5 w2 w13 w14 w15 w16 w17 w18 w19 w20 w21 w22 w23 w24 I L} hm hi => ⟨m, hm, y5, (fun i => (Act.tmps ⟨#[s0, s1, w2, s3, s4, y5, s6, s7, s8, s9, s10, s11, s12, w13, w14, w15, w16, w17, w18, w19, w20, w21, w22, w23, w24, s25], []⟩).getD i undef), (by kernel_rfl), hi⟩) u))
theorem out65_1x2 {N : Act → Imm → Own → Prop} {Q : Exit → Act → Imm → Own → Prop} {X : XT} {s0 s1 s2 s3 s4 s5 s6 s7 s8 s9 s10 s11 s12 s13 s14 s15 s16 s17 s18 s19 s20 s21 s22 s23 s24 s25 : Value} {I : Imm} {L : Own} (h : J65_3 N Q X ⟨#[s0, s1, s2, s3, s4, s5, s6, s7, s8, s9, s10, s11, s12, s13, s14, s15, s16, s17, s18, s19, s20, s21, s22, s23, s24, s25], []⟩ I L) : Q65_1 N Q X (.exit 2) ⟨#[s0, s1, s2, s3, s4, s5, s6, s7, s8, s9, s10, s11, s12, s13, s14, s15, s16, s17, s18, s19, s20, s21, s22, s23, s24, s25], []⟩ I L :=
  Eq.mpr (by kernel_rfl) h
theorem out65_1r {N : Act → Imm → Own → Prop} {Q : Exit → Act → Imm → Own → Prop} {X : XT} {s0 s1 s2 s3 s4 s5 s6 s7 s8 s9 s10 s11 s12 s13 s14 s15 s16 s17 s18 s19 s20 s21 s22 s23 s24 s25 : Value} {I : Imm} {L : Own} (h : Q .ret ⟨#[s0, s1, s2, s3, s4, s5, s6, s7, s8, s9, s10, s11, s12, s13, s14, s15, s16, s17, s18, s19, s20, s21, s22, s23, s24, s25], []⟩ I L) : Q65_1 N Q X .ret ⟨#[s0, s1, s2, s3, s4, s5, s6, s7, s8, s9, s10, s11, s12, s13, s14, s15, s16, s17, s18, s19, s20, s21, s22, s23, s24, s25], []⟩ I L :=
  Eq.mpr (by kernel_rfl) h
def T65_2 (R : Ending → Imm → Own → Prop) (s0 s1 s2 s3 s4 s5 s6 s7 s8 s9 s10 s11 s12 s13 s14 s15 s16 s17 s18 s19 s20 s21 s22 s23 s24 s25 : Value) (I : Imm) (L : Own) : Prop :=
R (.returned (.int .i64 (-1))) I L
theorem join65_2 {R : Ending → Imm → Own → Prop} {s0 s1 s2 s3 s4 s5 s6 s7 s8 s9 s10 s11 s12 s13 s14 s15 s16 s17 s18 s19 s20 s21 s22 s23 s24 s25 : Value} {I : Imm} {L : Own} (h : T65_2 R s0 s1 s2 s3 s4 s5 s6 s7 s8 s9 s10 s11 s12 s13 s14 s15 s16 s17 s18 s19 s20 s21 s22 s23 s24 s25 I L) : J65_2 R ⟨#[s0, s1, s2, s3, s4, s5, s6, s7, s8, s9, s10, s11, s12, s13, s14, s15, s16, s17, s18, s19, s20, s21, s22, s23, s24, s25], []⟩ I L :=
  sh_cut (fun _ => none) (O := True) (by kernel_rfl) trivial (by kernel_rfl) h
def T65_3 (N : Act → Imm → Own → Prop) (Q : Exit → Act → Imm → Own → Prop) (X : XT) (s0 s1 s2 s3 s4 s5 s6 s7 s8 s9 s10 s11 s12 s13 s14 s15 s16 s17 s18 s19 s20 s21 s22 s23 s24 s25 : Value) (I : Imm) (L : Own) : Prop :=
 bin Try.prog .add 3 s8 (.int .i64 1) I L fun x25 I L =>
N ⟨#[s0, s1, s2, s3, s4, s5, s6, s7, x25, s9, s10, s11, s12, s13, s14, s15, s16, s17, s18, s19, s20, s21, s22, s23, s24, x25], []⟩ I L
theorem join65_3 {N : Act → Imm → Own → Prop} {Q : Exit → Act → Imm → Own → Prop} {X : XT} {s0 s1 s2 s3 s4 s5 s6 s7 s8 s9 s10 s11 s12 s13 s14 s15 s16 s17 s18 s19 s20 s21 s22 s23 s24 s25 : Value} {I : Imm} {L : Own} (h : T65_3 N Q X s0 s1 s2 s3 s4 s5 s6 s7 s8 s9 s10 s11 s12 s13 s14 s15 s16 s17 s18 s19 s20 s21 s22 s23 s24 s25 I L) : J65_3 N Q X ⟨#[s0, s1, s2, s3, s4, s5, s6, s7, s8, s9, s10, s11, s12, s13, s14, s15, s16, s17, s18, s19, s20, s21, s22, s23, s24, s25], []⟩ I L :=
  sh_cut (fun _ => none) (O := True) (by kernel_rfl) trivial (by kernel_rfl) h
/-- 65: escritoire/escritoireref.Digit -/
def M65 (R : Ending → Imm → Own → Prop) (x0 : Value) (I : Imm) (L : Own) : Prop :=
 bsl Try.prog 70 16 #[(0, (S [48])), (1, (S [49])), (2, (S [50])), (3, (S [51])), (4, (S [52])), (5, (S [53])), (6, (S [54])), (7, (S [55])), (8, (S [56])), (9, (S [57])), (10, (S [97, 65])), (11, (S [98, 66])), (12, (S [99, 67])), (13, (S [100, 68])), (14, (S [101, 69])), (15, (S [102, 70]))] I L fun x6 I L =>
 blt Try.prog .len #[70] 3 #[x6] I L fun x7 I L =>
L65_0 R ⟨#[x0, undef, (.int .i64 0), undef, undef, undef, x6, x7, (.int .i64 0), undef, undef, undef, undef, undef, undef, undef, undef, undef, undef, undef, undef, undef, undef, undef, undef, undef], []⟩ I L
theorem go65 {R : Ending → Imm → Own → Prop} {x0 : Value} {I : Imm} {L : Own} (h : M65 R x0 I L) : wpC Try.prog 65 #[x0] I L R :=
  wpC_go (fun p => if p = [0, 1, 0, 1] then some (L65_0 R) else none) Try.func65 (by kernel_rfl) (O := (L65_0 R = L65_0 R) ∧ True) (by kernel_rfl) ⟨rfl, trivial⟩ (by kernel_rfl) h
end Go.Proofs.Ytkclodaplbalfaa
