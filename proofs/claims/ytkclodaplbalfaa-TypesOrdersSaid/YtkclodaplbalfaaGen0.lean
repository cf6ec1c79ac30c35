/- The shallow forms of the functions, printed by a program of this claim's writer out of the loaded translation, each checked by the kernel. Conditions: none. -/
import Derived.Test.YtkclodaplbalfaaSl
import Derived.Test.YtkclodaplbalfaaProg
set_option linter.unusedVariables false
set_option maxRecDepth 100000
namespace Go.Proofs.Ytkclodaplbalfaa
open Go Sl

/-- 45: strings.HasPrefix -/
def M45 (R : Ending → Imm → Own → Prop) (x0 x1 : Value) (I : Imm) (L : Own) : Prop :=
 cal Try.prog 51 #[x0, x1] I L (fun ch => (endX R) ch []) fun x7 I L =>
R (.returned x7) I L
theorem go45 {R : Ending → Imm → Own → Prop} {x0 x1 : Value} {I : Imm} {L : Own} (h : M45 R x0 x1 I L) : wpC Try.prog 45 #[x0, x1] I L R :=
  wpC_go (fun _ => none) Try.func45 (by kernel_rfl) (O := True) (by kernel_rfl) trivial (by kernel_rfl) h

/-- 50: strings.HasSuffix -/
def M50 (R : Ending → Imm → Own → Prop) (x0 x1 : Value) (I : Imm) (L : Own) : Prop :=
 cal Try.prog 55 #[x0, x1] I L (fun ch => (endX R) ch []) fun x7 I L =>
R (.returned x7) I L
theorem go50 {R : Ending → Imm → Own → Prop} {x0 x1 : Value} {I : Imm} {L : Own} (h : M50 R x0 x1 I L) : wpC Try.prog 50 #[x0, x1] I L R :=
  wpC_go (fun _ => none) Try.func50 (by kernel_rfl) (O := True) (by kernel_rfl) trivial (by kernel_rfl) h

/-- 51: internal/stringslite.HasPrefix -/
def M51 (R : Ending → Imm → Own → Prop) (x0 x1 : Value) (I : Imm) (L : Own) : Prop :=
 blt Try.prog .len #[9] 3 #[x0] I L fun x6 I L =>
 blt Try.prog .len #[9] 3 #[x1] I L fun x8 I L =>
 bin Try.prog .geq 3 x6 x8 I L fun x9 I L =>
gd (yb (some x9) true) (fun k => k x0 I L) (fun x11 I L =>
gd (yb (some x9) true) (fun k => k x1 I L) (fun x12 I L =>
gd (yb (some x9) true) (fun k => blt Try.prog .len #[9] 3 #[x12] I L k) (fun x13 I L =>
gd (yb (some x9) true) (fun k => slc Try.prog 9 x11 none (some x13) none I L k) (fun x14 I L =>
gd (yb (some x9) true) (fun k => k x1 I L) (fun x15 I L =>
gd (yb (some x9) true) (fun k => eqn Try.prog .eql 9 false false x14 x15 I L k) (fun x16 I L =>
pck x9 x16 (.bool false) I L fun x17 I L =>
R (.returned x17) I L) I L) I L) I L) I L) I L) I L
theorem go51 {R : Ending → Imm → Own → Prop} {x0 x1 : Value} {I : Imm} {L : Own} (h : M51 R x0 x1 I L) : wpC Try.prog 51 #[x0, x1] I L R :=
  wpC_go (fun _ => none) Try.func51 (by kernel_rfl) (O := True) (by kernel_rfl) trivial (by kernel_rfl) h

/-- 55: internal/stringslite.HasSuffix -/
def M55 (R : Ending → Imm → Own → Prop) (x0 x1 : Value) (I : Imm) (L : Own) : Prop :=
 blt Try.prog .len #[9] 3 #[x0] I L fun x6 I L =>
 blt Try.prog .len #[9] 3 #[x1] I L fun x8 I L =>
 bin Try.prog .geq 3 x6 x8 I L fun x9 I L =>
gd (yb (some x9) true) (fun k => k x0 I L) (fun x11 I L =>
gd (yb (some x9) true) (fun k => k x0 I L) (fun x12 I L =>
gd (yb (some x9) true) (fun k => blt Try.prog .len #[9] 3 #[x12] I L k) (fun x13 I L =>
gd (yb (some x9) true) (fun k => k x1 I L) (fun x14 I L =>
gd (yb (some x9) true) (fun k => blt Try.prog .len #[9] 3 #[x14] I L k) (fun x15 I L =>
gd (yb (some x9) true) (fun k => bin Try.prog .sub 3 x13 x15 I L k) (fun x16 I L =>
gd (yb (some x9) true) (fun k => slc Try.prog 9 x11 (some x16) none none I L k) (fun x17 I L =>
gd (yb (some x9) true) (fun k => k x1 I L) (fun x18 I L =>
gd (yb (some x9) true) (fun k => eqn Try.prog .eql 9 false false x17 x18 I L k) (fun x19 I L =>
pck x9 x19 (.bool false) I L fun x20 I L =>
R (.returned x20) I L) I L) I L) I L) I L) I L) I L) I L) I L) I L
theorem go55 {R : Ending → Imm → Own → Prop} {x0 x1 : Value} {I : Imm} {L : Own} (h : M55 R x0 x1 I L) : wpC Try.prog 55 #[x0, x1] I L R :=
  wpC_go (fun _ => none) Try.func55 (by kernel_rfl) (O := True) (by kernel_rfl) trivial (by kernel_rfl) h

def Q3_0 (R : Ending → Imm → Own → Prop) : Exit → Act → Imm → Own → Prop := (blkT 0 (seqT (cdT Try.prog (cdIn Try.f3 [1, 1, 1]) (endT Try.prog Try.f3 R) (endX R)) (endT Try.prog Try.f3 R)))
def L3_0 (R : Ending → Imm → Own → Prop) (a : Act) (I : Imm) (L : Own) : Prop := cdT Try.prog (cdIn Try.f3 [1, 1, 0, 1, 0]) (Q3_0 R) (endX R) a I L
def Q3_1 (R : Ending → Imm → Own → Prop) : Exit → Act → Imm → Own → Prop := (endT Try.prog Try.f3 R)
def J3_1 (R : Ending → Imm → Own → Prop) (a : Act) (I : Imm) (L : Own) : Prop := cdT Try.prog (cdIn Try.f3 [1, 1, 1]) (Q3_1 R) (endX R) a I L
/-- loop 3_0: what changes: 5; beside: 2 11 12 13 14 15 16 17 18 19 20 21 22 23 24 25 26 -/
def B3_0 (N : Act → Imm → Own → Prop) (Q : Exit → Act → Imm → Own → Prop) (X : XT) (s0 s1 s2 s3 s4 s5 s6 s7 s8 s9 s10 s11 s12 s13 s14 s15 s16 s17 s18 s19 s20 s21 s22 s23 s24 s25 s26 : Value) (I : Imm) (L : Own) : Prop :=
gd (yb (some s4) true) (fun k => k s5 I L) (fun x13 I L =>
gd (yb (some s4) true) (fun k => k s3 I L) (fun x14 I L =>
gd (yb (some s4) true) (fun k => blt Try.prog .len #[22] 3 #[x14] I L k) (fun x15 I L =>
gd (yb (some s4) true) (fun k => bin Try.prog .lss 3 x13 x15 I L k) (fun x16 I L =>
pck s4 x16 (.bool false) I L fun x17 I L =>
 cnd x17
 (iad Try.prog 22 s3 s5 I L fun x22 I L =>
 fad Try.prog 28 x22 2 I L fun x23 I L =>
 ld Try.prog 26 x23 I L fun x24 I L =>
 cal Try.prog 5 #[x24] I L (fun ch => X ch []) fun x25 I L =>
 un Try.prog .not x25 I L fun x26 I L =>
 cnd x26
 (Q .ret ⟨#[s0, s1, (.bool false), s3, s4, s5, s6, s7, s8, s9, s10, s4, s4, x13, x14, x15, x16, x17, s18, s19, s3, s5, x22, x23, x24, x25, x26], []⟩ I L)
 (bin Try.prog .add 3 s5 (.int .i64 1) I L fun x19 I L =>
N ⟨#[s0, s1, s2, s3, s4, x19, s6, s7, s8, s9, s10, s4, s4, x13, x14, x15, x16, x17, s5, x19, s3, s5, x22, x23, x24, x25, x26], []⟩ I L))
 (Q (.exit 0) ⟨#[s0, s1, s2, s3, s4, s5, s6, s7, s8, s9, s10, s4, s4, x13, x14, x15, x16, x17, s18, s19, s20, s21, s22, s23, s24, s25, s26], []⟩ I L)) I L) I L) I L) I L
theorem round3_0 {N : Act → Imm → Own → Prop} {Q : Exit → Act → Imm → Own → Prop} {X : XT} {s0 s1 s2 s3 s4 s5 s6 s7 s8 s9 s10 s11 s12 s13 s14 s15 s16 s17 s18 s19 s20 s21 s22 s23 s24 s25 s26 : Value} {I : Imm} {L : Own} (h : B3_0 N Q X s0 s1 s2 s3 s4 s5 s6 s7 s8 s9 s10 s11 s12 s13 s14 s15 s16 s17 s18 s19 s20 s21 s22 s23 s24 s25 s26 I L) : cdT Try.prog (cdIn Try.f3 [1, 1, 0, 1, 0, 0]) (seqT N Q) X ⟨#[s0, s1, s2, s3, s4, s5, s6, s7, s8, s9, s10, s11, s12, s13, s14, s15, s16, s17, s18, s19, s20, s21, s22, s23, s24, s25, s26], []⟩ I L :=
  sh_cut (fun _ => none) (O := True) (by kernel_rfl) trivial (by kernel_rfl) h
theorem loop3_0 {R : Ending → Imm → Own → Prop} {s0 s1 s3 s4 s6 s7 s8 s9 s10 : Value} {x5 u2 u11 u12 u13 u14 u15 u16 u17 u18 u19 u20 u21 u22 u23 u24 u25 u26 : Value} {I : Imm} {L : Own} (Inv : Nat → Value → Imm → Own → Prop) {n : Nat} (h : Inv n x5 I L)
  (round : ∀ (n : Nat) (x5 : Value) (I' : Imm) (L' : Own), I.Le I' → Inv n x5 I' L' → ∀ (N' : Act → Imm → Own → Prop), (∀ (m : Nat) {y5 w2 w11 w12 w13 w14 w15 w16 w17 w18 w19 w20 w21 w22 w23 w24 w25 w26 : Value} {I : Imm} {L : Own}, m < n → Inv m y5 I L → N' ⟨#[s0, s1, w2, s3, s4, y5, s6, s7, s8, s9, s10, w11, w12, w13, w14, w15, w16, w17, w18, w19, w20, w21, w22, w23, w24, w25, w26], []⟩ I L) → ∀ (u : Nat → Value), B3_0 N' (Q3_0 R) (endX R) s0 s1 (u 2) s3 s4 x5 s6 s7 s8 s9 s10 (u 11) (u 12) (u 13) (u 14) (u 15) (u 16) (u 17) (u 18) (u 19) (u 20) (u 21) (u 22) (u 23) (u 24) (u 25) (u 26) I' L') : L3_0 R ⟨#[s0, s1, u2, s3, s4, x5, s6, s7, s8, s9, s10, u11, u12, u13, u14, u15, u16, u17, u18, u19, u20, u21, u22, u23, u24, u25, u26], []⟩ I L :=
  loop_gen (by kernel_rfl) (fun n a I L => ∃ (x5 : Value) (u : Nat → Value), a = (⟨#[s0, s1, u 2, s3, s4, x5, s6, s7, s8, s9, s10, u 11, u 12, u 13, u 14, u 15, u 16, u 17, u 18, u 19, u 20, u 21, u 22, u 23, u 24, u 25, u 26], []⟩ : Act) ∧ Inv n x5 I L) ⟨x5, (fun i => (Act.tmps ⟨#[s0, s1, u2, s3, s4, x5, s6, s7, s8, s9, s10, u11, u12, u13, u14, u15, u16, u17, u18, u19, u20, u21, u22, u23, u24, u25, u26], []⟩).getD i undef), (by kernel_rfl), h⟩
    (fun n a I' L' hle ⟨x5, u, e, hi⟩ => e ▸ round3_0 (round n x5 I' L' hle hi (fun a I L => ∃ m, m < n ∧ (fun n a I L => ∃ (x5 : Value) (u : Nat → Value), a = (⟨#[s0, s1, u 2, s3, s4, x5, s6, s7, s8, s9, s10, u 11, u 12, u 13, u 14, u 15, u 16, u 17, u 18, u 19, u 20, u 21, u 22, u 23, u 24, u 25, u 26], []⟩ : Act) ∧ Inv n x5 I L) m a I L) (fun m => fun {y5 w2 w11 w12 w13 w14 w15 w16 w17 w18 w19 w20 w21 w22 w23 w24 w25 w26 I L} hm hi => ⟨m, hm, y5, (fun i => (Act.tmps ⟨#[s0, s1, w2, s3, s4, y5, s6, s7, s8, s9, s10, w11, w12, w13, w14, w15, w16, w17, w18, w19, w20, w21, w22, w23, w24, w25, w26], []⟩).getD i undef), (by kernel_rfl), hi⟩) u))
theorem out3_0x0 {R : Ending → Imm → Own → Prop} {s0 s1 s2 s3 s4 s5 s6 s7 s8 s9 s10 s11 s12 s13 s14 s15 s16 s17 s18 s19 s20 s21 s22 s23 s24 s25 s26 : Value} {I : Imm} {L : Own} (h : J3_1 R ⟨#[s0, s1, s2, s3, s4, s5, s6, s7, s8, s9, s10, s11, s12, s13, s14, s15, s16, s17, s18, s19, s20, s21, s22, s23, s24, s25, s26], []⟩ I L) : Q3_0 R (.exit 0) ⟨#[s0, s1, s2, s3, s4, s5, s6, s7, s8, s9, s10, s11, s12, s13, s14, s15, s16, s17, s18, s19, s20, s21, s22, s23, s24, s25, s26], []⟩ I L :=
  Eq.mpr (by kernel_rfl) h
theorem out3_0r {R : Ending → Imm → Own → Prop} {s0 s1 s2 s3 s4 s5 s6 s7 s8 s9 s10 s11 s12 s13 s14 s15 s16 s17 s18 s19 s20 s21 s22 s23 s24 s25 s26 : Value} {I : Imm} {L : Own} (h : R (.returned s2) I L) : Q3_0 R .ret ⟨#[s0, s1, s2, s3, s4, s5, s6, s7, s8, s9, s10, s11, s12, s13, s14, s15, s16, s17, s18, s19, s20, s21, s22, s23, s24, s25, s26], []⟩ I L :=
  Eq.mpr (by kernel_rfl) h
def T3_1 (R : Ending → Imm → Own → Prop) (s0 s1 s2 s3 s4 s5 s6 s7 s8 s9 s10 s11 s12 s13 s14 s15 s16 s17 s18 s19 s20 s21 s22 s23 s24 s25 s26 : Value) (I : Imm) (L : Own) : Prop :=
R (.returned (.bool true)) I L
theorem join3_1 {R : Ending → Imm → Own → Prop} {s0 s1 s2 s3 s4 s5 s6 s7 s8 s9 s10 s11 s12 s13 s14 s15 s16 s17 s18 s19 s20 s21 s22 s23 s24 s25 s26 : Value} {I : Imm} {L : Own} (h : T3_1 R s0 s1 s2 s3 s4 s5 s6 s7 s8 s9 s10 s11 s12 s13 s14 s15 s16 s17 s18 s19 s20 s21 s22 s23 s24 s25 s26 I L) : J3_1 R ⟨#[s0, s1, s2, s3, s4, s5, s6, s7, s8, s9, s10, s11, s12, s13, s14, s15, s16, s17, s18, s19, s20, s21, s22, s23, s24, s25, s26], []⟩ I L :=
  sh_cut (fun _ => none) (O := True) (by kernel_rfl) trivial (by kernel_rfl) h
/-- 3: escritoire/escritoirelaw.TypesOrders -/
def M3 (R : Ending → Imm → Own → Prop) (x0 : Value) (I : Imm) (L : Own) : Prop :=
 cal Try.prog 4 #[x0] I L (fun ch => (endX R) ch []) fun x8 I L =>
 ext Try.prog x8 0 I L fun x9 I L =>
 ext Try.prog x8 1 I L fun x10 I L =>
L3_0 R ⟨#[x0, undef, (.bool false), x9, x10, (.int .i64 0), x8, x0, x8, x9, x10, undef, undef, undef, undef, undef, undef, undef, undef, undef, undef, undef, undef, undef, undef, undef, undef], []⟩ I L
theorem go3 {R : Ending → Imm → Own → Prop} {x0 : Value} {I : Imm} {L : Own} (h : M3 R x0 I L) : wpC Try.prog 3 #[x0] I L R :=
  wpC_go (fun p => if p = [0, 1, 0, 1, 1] then some (L3_0 R) else none) Try.func3 (by kernel_rfl) (O := (L3_0 R = L3_0 R) ∧ True) (by kernel_rfl) ⟨rfl, trivial⟩ (by kernel_rfl) h

/-- 4: escritoire/escritoirelaw.right -/
def M4 (R : Ending → Imm → Own → Prop) (x0 : Value) (I : Imm) (L : Own) : Prop :=
 cal Try.prog 6 #[x0] I L (fun ch => (endX R) ch []) fun x7 I L =>
 cnd x7
 (R (.returned (.tuple #[(.slice none 0 0), (.bool false)])) I L)
 (cal Try.prog 7 #[x0] I L (fun ch => (endX R) ch []) fun x10 I L =>
 ext Try.prog x10 0 I L fun x11 I L =>
 ext Try.prog x10 1 I L fun x12 I L =>
 al Try.prog 32 I L fun x5 I L =>
 sto Try.prog 32 x5 x12 I L fun _ I L =>
 ld Try.prog 32 x5 I L fun x14 I L =>
 cal Try.prog 8 #[x14] I L (fun ch => (endX R) ch []) fun x15 I L =>
gd (yb (some x15) true) (fun k => k x11 I L) (fun x17 I L =>
gd (yb (some x15) true) (fun k => cal Try.prog 9 #[x17] I L (fun ch => (endX R) ch []) k) (fun x18 I L =>
gd (yb (some x15) true) (fun k => cal Try.prog 8 #[x18] I L (fun ch => (endX R) ch []) k) (fun x19 I L =>
pck x15 x19 (.bool false) I L fun x20 I L =>
R (.returned (.tuple #[x11, x20])) I L) I L) I L) I L)
theorem go4 {R : Ending → Imm → Own → Prop} {x0 : Value} {I : Imm} {L : Own} (h : M4 R x0 I L) : wpC Try.prog 4 #[x0] I L R :=
  wpC_go (fun _ => none) Try.func4 (by kernel_rfl) (O := True) (by kernel_rfl) trivial (by kernel_rfl) h

def Q5_0 (R : Ending → Imm → Own → Prop) : Exit → Act → Imm → Own → Prop := (blkT 0 (seqT (cdT Try.prog (cdIn Try.f5 [1, 1, 1]) (endT Try.prog Try.f5 R) (endX R)) (endT Try.prog Try.f5 R)))
def L5_0 (R : Ending → Imm → Own → Prop) (a : Act) (I : Imm) (L : Own) : Prop := cdT Try.prog (cdIn Try.f5 [1, 1, 0, 1, 0]) (Q5_0 R) (endX R) a I L
def Q5_1 (R : Ending → Imm → Own → Prop) : Exit → Act → Imm → Own → Prop := (endT Try.prog Try.f5 R)
def J5_1 (R : Ending → Imm → Own → Prop) (a : Act) (I : Imm) (L : Own) : Prop := cdT Try.prog (cdIn Try.f5 [1, 1, 1]) (Q5_1 R) (endX R) a I L
/-- loop 5_0: what changes: 3; beside: 2 10 11 12 13 14 15 16 17 18 19 20 21 22 23 24 25 26 27 28 29 30 -/
def B5_0 (N : Act → Imm → Own → Prop) (Q : Exit → Act → Imm → Own → Prop) (X : XT) (s0 s1 s2 s3 s4 s5 s6 s7 s8 s9 s10 s11 s12 s13 s14 s15 s16 s17 s18 s19 s20 s21 s22 s23 s24 s25 s26 s27 s28 s29 s30 : Value) (I : Imm) (L : Own) : Prop :=
 blt Try.prog .len #[26] 3 #[s0] I L fun x12 I L =>
 bin Try.prog .lss 3 s3 x12 I L fun x13 I L =>
 cnd x13
 (iad Try.prog 26 s0 s3 I L fun x18 I L =>
 fad Try.prog 42 x18 0 I L fun x19 I L =>
 ld Try.prog 3 x19 I L fun x20 I L =>
 eqn Try.prog .eql 3 false true x20 (.int .i64 4) I L fun x21 I L =>
gd (yb (some x21) true) (fun k => k s0 I L) (fun x23 I L =>
gd (yb (some x21) true) (fun k => k s3 I L) (fun x24 I L =>
gd (yb (some x21) true) (fun k => iad Try.prog 26 x23 x24 I L k) (fun x25 I L =>
gd (yb (some x21) true) (fun k => fad Try.prog 42 x25 12 I L k) (fun x26 I L =>
gd (yb (some x21) true) (fun k => ld Try.prog 26 x26 I L k) (fun x27 I L =>
gd (yb (some x21) true) (fun k => cal Try.prog 5 #[x27] I L (fun ch => X ch []) k) (fun x28 I L =>
gd (yb (some x21) true) (fun k => un Try.prog .not x28 I L k) (fun x29 I L =>
pck x21 x29 (.bool false) I L fun x30 I L =>
 cnd x30
 (Q .ret ⟨#[s0, s1, (.bool false), s3, s4, s5, s6, s7, s8, s9, s3, s0, x12, x13, s14, s15, s0, s3, x18, x19, x20, x21, x21, x23, x24, x25, x26, x27, x28, x29, x30], []⟩ I L)
 (bin Try.prog .add 3 s3 (.int .i64 1) I L fun x15 I L =>
N ⟨#[s0, s1, s2, x15, s4, s5, s6, s7, s8, s9, s3, s0, x12, x13, s3, x15, s0, s3, x18, x19, x20, x21, x21, x23, x24, x25, x26, x27, x28, x29, x30], []⟩ I L)) I L) I L) I L) I L) I L) I L) I L)
 (Q (.exit 0) ⟨#[s0, s1, s2, s3, s4, s5, s6, s7, s8, s9, s3, s0, x12, x13, s14, s15, s16, s17, s18, s19, s20, s21, s22, s23, s24, s25, s26, s27, s28, s29, s30], []⟩ I L)
theorem round5_0 {N : Act → Imm → Own → Prop} {Q : Exit → Act → Imm → Own → Prop} {X : XT} {s0 s1 s2 s3 s4 s5 s6 s7 s8 s9 s10 s11 s12 s13 s14 s15 s16 s17 s18 s19 s20 s21 s22 s23 s24 s25 s26 s27 s28 s29 s30 : Value} {I : Imm} {L : Own} (h : B5_0 N Q X s0 s1 s2 s3 s4 s5 s6 s7 s8 s9 s10 s11 s12 s13 s14 s15 s16 s17 s18 s19 s20 s21 s22 s23 s24 s25 s26 s27 s28 s29 s30 I L) : cdT Try.prog (cdIn Try.f5 [1, 1, 0, 1, 0, 0]) (seqT N Q) X ⟨#[s0, s1, s2, s3, s4, s5, s6, s7, s8, s9, s10, s11, s12, s13, s14, s15, s16, s17, s18, s19, s20, s21, s22, s23, s24, s25, s26, s27, s28, s29, s30], []⟩ I L :=
  sh_cut (fun _ => none) (O := True) (by kernel_rfl) trivial (by kernel_rfl) h
theorem loop5_0 {R : Ending → Imm → Own → Prop} {s0 s1 s4 s5 s6 s7 s8 s9 : Value} {x3 u2 u10 u11 u12 u13 u14 u15 u16 u17 u18 u19 u20 u21 u22 u23 u24 u25 u26 u27 u28 u29 u30 : Value} {I : Imm} {L : Own} (Inv : Nat → Value → Imm → Own → Prop) {n : Nat} (h : Inv n x3 I L)
  (round : ∀ (n : Nat) (x3 : Value) (I' : Imm) (L' : Own), I.Le I' → Inv n x3 I' L' → ∀ (N' : Act → Imm → Own → Prop), (∀ (m : Nat) {y3 w2 w10 w11 w12 w13 w14 w15 w16 w17 w18 w19 w20 w21 w22 w23 w24 w25 w26 w27 w28 w29 w30 : Value} {I : Imm} {L : Own}, m < n → Inv m y3 I L → N' ⟨#[s0, s1, w2, y3, s4, s5, s6, s7, s8, s9, w10, w11, w12, w13, w14, w15, w16, w17, w18, w19, w20, w21, w22, w23, w24, w25, w26, w27, w28, w29, w30], []⟩ I L) → ∀ (u : Nat → Value), B5_0 N' (Q5_0 R) (endX R) s0 s1 (u 2) x3 s4 s5 s6 s7 s8 s9 (u 10) (u 11) (u 12) (u 13) (u 14) (u 15) (u 16) (u 17) (u 18) (u 19) (u 20) (u 21) (u 22) (u 23) (u 24) (u 25) (u 26) (u 27) (u 28) (u 29) (u 30) I' L') : L5_0 R ⟨#[s0, s1, u2, x3, s4, s5, s6, s7, s8, s9, u10, u11, u12, u13, u14, u15, u16, u17, u18, u19, u20, u21, u22, u23, u24, u25, u26, u27, u28, u29, u30], []⟩ I L :=
  loop_gen (by kernel_rfl) (fun n a I L => ∃ (x3 : Value) (u : Nat → Value), a = (⟨#[s0, s1, u 2, x3, s4, s5, s6, s7, s8, s9, u 10, u 11, u 12, u 13, u 14, u 15, u 16, u 17, u 18, u 19, u 20, u 21, u 22, u 23, u 24, u 25, u 26, u 27, u 28, u 29, u 30], []⟩ : Act) ∧ Inv n x3 I L) ⟨x3, (fun i => (Act.tmps ⟨#[s0, s1, u2, x3, s4, s5, s6, s7, s8, s9, u10, u11, u12, u13, u14, u15, u16, u17, u18, u19, u20, u21, u22, u23, u24, u25, u26, u27, u28, u29, u30], []⟩).getD i undef), (by kernel_rfl), h⟩
    (fun n a I' L' hle ⟨x3, u, e, hi⟩ => e ▸ round5_0 (round n x3 I' L' hle hi (fun a I L => ∃ m, m < n ∧ (fun n a I L => ∃ (x3 : Value) (u : Nat → Value), a = (⟨#[s0, s1, u 2, x3, s4, s5, s6, s7, s8, s9, u 10, u 11, u 12, u 13, u 14, u 15, u 16, u 17, u 18, u 19, u 20, u 21, u 22, u 23, u 24, u 25, u 26, u 27, u 28, u 29, u 30], []⟩ : Act) ∧ Inv n x3 I L) m a I L) (fun m => fun {y3 w2 w10 w11 w12 w13 w14 w15 w16 w17 w18 w19 w20 w21 w22 w23 w24 w25 w26 w27 w28 w29 w30 I L} hm hi => ⟨m, hm, y3, (fun i => (Act.tmps ⟨#[s0, s1, w2, y3, s4, s5, s6, s7, s8, s9, w10, w11, w12, w13, w14, w15, w16, w17, w18, w19, w20, w21, w22, w23, w24, w25, w26, w27, w28, w29, w30], []⟩).getD i undef), (by kernel_rfl), hi⟩) u))
theorem out5_0x0 {R : Ending → Imm → Own → Prop} {s0 s1 s2 s3 s4 s5 s6 s7 s8 s9 s10 s11 s12 s13 s14 s15 s16 s17 s18 s19 s20 s21 s22 s23 s24 s25 s26 s27 s28 s29 s30 : Value} {I : Imm} {L : Own} (h : J5_1 R ⟨#[s0, s1, s2, s3, s4, s5, s6, s7, s8, s9, s10, s11, s12, s13, s14, s15, s16, s17, s18, s19, s20, s21, s22, s23, s24, s25, s26, s27, s28, s29, s30], []⟩ I L) : Q5_0 R (.exit 0) ⟨#[s0, s1, s2, s3, s4, s5, s6, s7, s8, s9, s10, s11, s12, s13, s14, s15, s16, s17, s18, s19, s20, s21, s22, s23, s24, s25, s26, s27, s28, s29, s30], []⟩ I L :=
  Eq.mpr (by kernel_rfl) h
theorem out5_0r {R : Ending → Imm → Own → Prop} {s0 s1 s2 s3 s4 s5 s6 s7 s8 s9 s10 s11 s12 s13 s14 s15 s16 s17 s18 s19 s20 s21 s22 s23 s24 s25 s26 s27 s28 s29 s30 : Value} {I : Imm} {L : Own} (h : R (.returned s2) I L) : Q5_0 R .ret ⟨#[s0, s1, s2, s3, s4, s5, s6, s7, s8, s9, s10, s11, s12, s13, s14, s15, s16, s17, s18, s19, s20, s21, s22, s23, s24, s25, s26, s27, s28, s29, s30], []⟩ I L :=
  Eq.mpr (by kernel_rfl) h
def T5_1 (R : Ending → Imm → Own → Prop) (s0 s1 s2 s3 s4 s5 s6 s7 s8 s9 s10 s11 s12 s13 s14 s15 s16 s17 s18 s19 s20 s21 s22 s23 s24 s25 s26 s27 s28 s29 s30 : Value) (I : Imm) (L : Own) : Prop :=
R (.returned (.bool true)) I L
theorem join5_1 {R : Ending → Imm → Own → Prop} {s0 s1 s2 s3 s4 s5 s6 s7 s8 s9 s10 s11 s12 s13 s14 s15 s16 s17 s18 s19 s20 s21 s22 s23 s24 s25 s26 s27 s28 s29 s30 : Value} {I : Imm} {L : Own} (h : T5_1 R s0 s1 s2 s3 s4 s5 s6 s7 s8 s9 s10 s11 s12 s13 s14 s15 s16 s17 s18 s19 s20 s21 s22 s23 s24 s25 s26 s27 s28 s29 s30 I L) : J5_1 R ⟨#[s0, s1, s2, s3, s4, s5, s6, s7, s8, s9, s10, s11, s12, s13, s14, s15, s16, s17, s18, s19, s20, s21, s22, s23, s24, s25, s26, s27, s28, s29, s30], []⟩ I L :=
  sh_cut (fun _ => none) (O := True) (by kernel_rfl) trivial (by kernel_rfl) h
/-- 5: escritoire/escritoirelaw.ordered -/
def M5 (R : Ending → Imm → Own → Prop) (x0 : Value) (I : Imm) (L : Own) : Prop :=
 cal Try.prog 11 #[x0] I L (fun ch => (endX R) ch []) fun x5 I L =>
 cal Try.prog 12 #[x0] I L (fun ch => (endX R) ch []) fun x7 I L =>
 cal Try.prog 10 #[x5, x7] I L (fun ch => (endX R) ch []) fun x8 I L =>
 un Try.prog .not x8 I L fun x9 I L =>
 cnd x9
 (R (.returned (.bool false)) I L)
 (L5_0 R ⟨#[x0, undef, (.bool false), (.int .i64 0), x0, x5, x0, x7, x8, x9, undef, undef, undef, undef, undef, undef, undef, undef, undef, undef, undef, undef, undef, undef, undef, undef, undef, undef, undef, undef, undef], []⟩ I L)
theorem go5 {R : Ending → Imm → Own → Prop} {x0 : Value} {I : Imm} {L : Own} (h : M5 R x0 I L) : wpC Try.prog 5 #[x0] I L R :=
  wpC_go (fun p => if p = [0, 1, 0, 1, 1] then some (L5_0 R) else none) Try.func5 (by kernel_rfl) (O := (L5_0 R = L5_0 R) ∧ True) (by kernel_rfl) ⟨rfl, trivial⟩ (by kernel_rfl) h

/-- 6: escritoire/escritoirelaw.far -/
def M6 (R : Ending → Imm → Own → Prop) (x0 : Value) (I : Imm) (L : Own) : Prop :=
 blt Try.prog .len #[9] 3 #[x0] I L fun x4 I L =>
 bin Try.prog .gtr 3 x4 (.int .i64 900) I L fun x5 I L =>
gd (yb (some x5) true) (fun k => k x0 I L) (fun x7 I L =>
gd (yb (some x5) true) (fun k => blt Try.prog .len #[9] 3 #[x7] I L k) (fun x8 I L =>
gd (yb (some x5) true) (fun k => bin Try.prog .leq 3 x8 (.int .i64 3000) I L k) (fun x9 I L =>
pck x5 x9 (.bool false) I L fun x10 I L =>
gd (yb (some x10) false) (fun k => k x0 I L) (fun x12 I L =>
gd (yb (some x10) false) (fun k => blt Try.prog .len #[9] 3 #[x12] I L k) (fun x13 I L =>
gd (yb (some x10) false) (fun k => bin Try.prog .gtr 3 x13 (.int .i64 3009) I L k) (fun x14 I L =>
pck x10 (.bool true) x14 I L fun x15 I L =>
R (.returned x15) I L) I L) I L) I L) I L) I L) I L
theorem go6 {R : Ending → Imm → Own → Prop} {x0 : Value} {I : Imm} {L : Own} (h : M6 R x0 I L) : wpC Try.prog 6 #[x0] I L R :=
  wpC_go (fun _ => none) Try.func6 (by kernel_rfl) (O := True) (by kernel_rfl) trivial (by kernel_rfl) h

def Q7_0 (R : Ending → Imm → Own → Prop) : Exit → Act → Imm → Own → Prop := (seqT (cdT Try.prog (cdIn Try.f7 [1, 1, 0, 1, 0, 1]) (seqT (cdT Try.prog (cdIn Try.f7 [1, 1, 1]) (endT Try.prog Try.f7 R) (endX R)) (endT Try.prog Try.f7 R)) (endX R)) (seqT (cdT Try.prog (cdIn Try.f7 [1, 1, 1]) (endT Try.prog Try.f7 R) (endX R)) (endT Try.prog Try.f7 R)))
def D7_0 (R : Ending → Imm → Own → Prop) (a : Act) (I : Imm) (L : Own) : Prop := cdT Try.prog (cdIn Try.f7 [1, 1, 0, 1, 0, 0]) (Q7_0 R) (endX R) a I L
def Q7_1 (R : Ending → Imm → Own → Prop) : Exit → Act → Imm → Own → Prop := (blkT 0 (seqT (cdT Try.prog (cdIn Try.f7 [1, 1, 1, 1, 1]) (endT Try.prog Try.f7 R) (endX R)) (endT Try.prog Try.f7 R)))
def L7_1 (R : Ending → Imm → Own → Prop) (a : Act) (I : Imm) (L : Own) : Prop := cdT Try.prog (cdIn Try.f7 [1, 1, 1, 1, 0, 0]) (Q7_1 R) (endX R) a I L
def Q7_2 (R : Ending → Imm → Own → Prop) : Exit → Act → Imm → Own → Prop := (seqT (cdT Try.prog (cdIn Try.f7 [1, 1, 1]) (endT Try.prog Try.f7 R) (endX R)) (endT Try.prog Try.f7 R))
def J7_2 (R : Ending → Imm → Own → Prop) (a : Act) (I : Imm) (L : Own) : Prop := cdT Try.prog (cdIn Try.f7 [1, 1, 0, 1, 0, 1]) (Q7_2 R) (endX R) a I L
def Q7_3 (N : Act → Imm → Own → Prop) (Q : Exit → Act → Imm → Own → Prop) (X : XT) : Exit → Act → Imm → Own → Prop := (blkT 1 (seqT N Q))
def J7_3 (N : Act → Imm → Own → Prop) (Q : Exit → Act → Imm → Own → Prop) (X : XT) (a : Act) (I : Imm) (L : Own) : Prop := cdT Try.prog (cdIn Try.f7 [1, 1, 1, 1, 0, 0, 0, 1, 0, 1]) (Q7_3 N Q X) X a I L
def Q7_4 (R : Ending → Imm → Own → Prop) : Exit → Act → Imm → Own → Prop := (endT Try.prog Try.f7 R)
def J7_4 (R : Ending → Imm → Own → Prop) (a : Act) (I : Imm) (L : Own) : Prop := cdT Try.prog (cdIn Try.f7 [1, 1, 1, 1, 1]) (Q7_4 R) (endX R) a I L
def Q7_5 (R : Ending → Imm → Own → Prop) : Exit → Act → Imm → Own → Prop := (seqT (cdT Try.prog (cdIn Try.f7 [1, 1, 1, 1, 1, 0, 1, 0, 1]) (seqT (cdT Try.prog (cdIn Try.f7 [1, 1, 1, 1, 1, 1]) (Q7_4 R) (endX R)) (Q7_4 R)) (endX R)) (seqT (cdT Try.prog (cdIn Try.f7 [1, 1, 1, 1, 1, 1]) (Q7_4 R) (endX R)) (Q7_4 R)))
def D7_5 (R : Ending → Imm → Own → Prop) (a : Act) (I : Imm) (L : Own) : Prop := cdT Try.prog (cdIn Try.f7 [1, 1, 1, 1, 1, 0, 1, 0, 0]) (Q7_5 R) (endX R) a I L
def Q7_6 (R : Ending → Imm → Own → Prop) : Exit → Act → Imm → Own → Prop := (seqT (cdT Try.prog (cdIn Try.f7 [1, 1, 1, 1, 1, 1]) (Q7_4 R) (endX R)) (Q7_4 R))
def J7_6 (R : Ending → Imm → Own → Prop) (a : Act) (I : Imm) (L : Own) : Prop := cdT Try.prog (cdIn Try.f7 [1, 1, 1, 1, 1, 0, 1, 0, 1]) (Q7_6 R) (endX R) a I L
def G7_0 (R : Ending → Imm → Own → Prop) (C : Cls) (s0 s1 s2 s3 s4 s5 s6 s7 s8 s9 s10 s11 s12 s13 s14 s15 s16 s17 s18 s19 s20 s21 s22 s23 s24 s25 s26 s27 s28 s29 s30 s31 s32 s33 s34 s35 s36 s37 s38 s39 s40 s41 s42 s43 s44 s45 s46 s47 s48 s49 s50 s51 s52 s53 s54 s55 s56 s57 s58 s59 s60 s61 s62 : Value) (I : Imm) (L : Own) : Prop :=
 qld Try.prog 32 s5 C fun x16 =>
 sto Try.prog 32 s3 x16 I L fun _ I L =>
J7_2 R ⟨#[s0, s1, (.slice none 0 0), s3, s4, s5, s6, s7, s8, s9, s10, s11, s12, s13, s14, s15, x16, s17, s18, s19, s20, s21, s22, s23, s24, s25, s26, s27, s28, s29, s30, s31, s32, s33, s34, s35, s36, s37, s38, s39, s40, s41, s42, s43, s44, s45, s46, s47, s48, s49, s50, s51, s52, s53, s54, s55, s56, s57, s58, s59, s60, s61, s62], []⟩ I L
theorem draw7_0 {R : Ending → Imm → Own → Prop} {C : Cls} {s0 s1 s2 s3 s4 s5 s6 s7 s8 s9 s10 s11 s12 s13 s14 s15 s16 s17 s18 s19 s20 s21 s22 s23 s24 s25 s26 s27 s28 s29 s30 s31 s32 s33 s34 s35 s36 s37 s38 s39 s40 s41 s42 s43 s44 s45 s46 s47 s48 s49 s50 s51 s52 s53 s54 s55 s56 s57 s58 s59 s60 s61 s62 : Value} {I : Imm} {L : Own} (hC : C I L) (h : G7_0 R C s0 s1 s2 s3 s4 s5 s6 s7 s8 s9 s10 s11 s12 s13 s14 s15 s16 s17 s18 s19 s20 s21 s22 s23 s24 s25 s26 s27 s28 s29 s30 s31 s32 s33 s34 s35 s36 s37 s38 s39 s40 s41 s42 s43 s44 s45 s46 s47 s48 s49 s50 s51 s52 s53 s54 s55 s56 s57 s58 s59 s60 s61 s62 I L) : D7_0 R ⟨#[s0, s1, s2, s3, s4, s5, s6, s7, s8, s9, s10, s11, s12, s13, s14, s15, s16, s17, s18, s19, s20, s21, s22, s23, s24, s25, s26, s27, s28, s29, s30, s31, s32, s33, s34, s35, s36, s37, s38, s39, s40, s41, s42, s43, s44, s45, s46, s47, s48, s49, s50, s51, s52, s53, s54, s55, s56, s57, s58, s59, s60, s61, s62], []⟩ I L :=
  draw_plan (ops := opsIn Try.f7 [1, 1, 0, 1, 0, 0]) (id := 3) (Q := Q7_0 R) (X := (endX R)) (.take 0 (.take 1 (.all fun _ => .done))) [2] (by kernel_rfl) rfl (by kernel_rfl) (by kernel_rfl) hC h
/-- loop 7_1: what changes: 6; beside: 7 17 18 19 20 21 22 23 24 25 26 27 28 29 30 31 32 33 34 35 36 37 38 39 40 41 42 43 44 45 46 47 48 49 50 51 52 53 54 -/
def B7_1 (N : Act → Imm → Own → Prop) (Q : Exit → Act → Imm → Own → Prop) (X : XT) (s0 s1 s2 s3 s4 s5 s6 s7 s8 s9 s10 s11 s12 s13 s14 s15 s16 s17 s18 s19 s20 s21 s22 s23 s24 s25 s26 s27 s28 s29 s30 s31 s32 s33 s34 s35 s36 s37 s38 s39 s40 s41 s42 s43 s44 s45 s46 s47 s48 s49 s50 s51 s52 s53 s54 s55 s56 s57 s58 s59 s60 s61 s62 : Value) (I : Imm) (L : Own) : Prop :=
 cal Try.prog 14 #[s4] I L (fun ch => X ch []) fun x18 I L =>
 un Try.prog .not x18 I L fun x19 I L =>
gd (yb (some x19) true) (fun k => k s4 I L) (fun x21 I L =>
gd (yb (some x19) true) (fun k => nck Try.prog x21 I L k) (fun x22 I L =>
gd (yb (some x19) true) (fun k => fad Try.prog 48 x22 0 I L k) (fun x23 I L =>
gd (yb (some x19) true) (fun k => ld Try.prog 46 x23 I L k) (fun x24 I L =>
gd (yb (some x19) true) (fun k => blt Try.prog .len #[46] 3 #[x24] I L k) (fun x25 I L =>
gd (yb (some x19) true) (fun k => bin Try.prog .gtr 3 x25 (.int .i64 0) I L k) (fun x26 I L =>
pck x19 x26 (.bool false) I L fun x27 I L =>
 cnd x27
 (cal Try.prog 15 #[s4] I L (fun ch => X ch []) fun x29 I L =>
 eqn Try.prog .eql 9 false true x29 (S [115, 116, 114, 117, 99, 116]) I L fun x30 I L =>
gd (yb (some x30) true) (fun k => k s6 I L) (fun x32 I L =>
gd (yb (some x30) true) (fun k => blt Try.prog .len #[22] 3 #[x32] I L k) (fun x33 I L =>
gd (yb (some x30) true) (fun k => bin Try.prog .geq 3 x33 (.int .i64 8) I L k) (fun x34 I L =>
pck x30 x34 (.bool false) I L fun x35 I L =>
 cnd x35
 (cal Try.prog 17 #[s4] I L (fun ch => X ch []) fun x38 I L =>
 cal Try.prog 16 #[s4, (.int .i64 4), x38] I L (fun ch => X ch []) fun x39 I L =>
J7_3 N Q X ⟨#[s0, s1, s2, s3, s4, s5, s6, s7, s8, s9, s10, s11, s12, s13, s14, s15, s16, s4, x18, x19, x19, x21, x22, x23, x24, x25, x26, x27, s4, x29, x30, x30, x32, x33, x34, x35, s4, s4, x38, x39, s40, s41, s42, s43, s44, s45, s46, s47, s48, s49, s50, s51, s52, s53, s54, s55, s56, s57, s58, s59, s60, s61, s62], []⟩ I L)
 (J7_3 N Q X ⟨#[s0, s1, s2, s3, s4, s5, s6, s7, s8, s9, s10, s11, s12, s13, s14, s15, s16, s4, x18, x19, x19, x21, x22, x23, x24, x25, x26, x27, s4, x29, x30, x30, x32, x33, x34, x35, s36, s37, s38, s39, s40, s41, s42, s43, s44, s45, s46, s47, s48, s49, s50, s51, s52, s53, s54, s55, s56, s57, s58, s59, s60, s61, s62], []⟩ I L)) I L) I L) I L)
 (Q (.exit 0) ⟨#[s0, s1, s2, s3, s4, s5, s6, s7, s8, s9, s10, s11, s12, s13, s14, s15, s16, s4, x18, x19, x19, x21, x22, x23, x24, x25, x26, x27, s28, s29, s30, s31, s32, s33, s34, s35, s36, s37, s38, s39, s40, s41, s42, s43, s44, s45, s46, s47, s48, s49, s50, s51, s52, s53, s54, s55, s56, s57, s58, s59, s60, s61, s62], []⟩ I L)) I L) I L) I L) I L) I L) I L
theorem round7_1 {N : Act → Imm → Own → Prop} {Q : Exit → Act → Imm → Own → Prop} {X : XT} {s0 s1 s2 s3 s4 s5 s6 s7 s8 s9 s10 s11 s12 s13 s14 s15 s16 s17 s18 s19 s20 s21 s22 s23 s24 s25 s26 s27 s28 s29 s30 s31 s32 s33 s34 s35 s36 s37 s38 s39 s40 s41 s42 s43 s44 s45 s46 s47 s48 s49 s50 s51 s52 s53 s54 s55 s56 s57 s58 s59 s60 s61 s62 : Value} {I : Imm} {L : Own} (h : B7_1 N Q X s0 s1 s2 s3 s4 s5 s6 s7 s8 s9 s10 s11 s12 s13 s14 s15 s16 s17 s18 s19 s20 s21 s22 s23 s24 s25 s26 s27 s28 s29 s30 s31 s32 s33 s34 s35 s36 s37 s38 s39 s40 s41 s42 s43 s44 s45 s46 s47 s48 s49 s50 s51 s52 s53 s54 s55 s56 s57 s58 s59 s60 s61 s62 I L) : cdT Try.prog (cdIn Try.f7 [1, 1, 1, 1, 0, 0, 0]) (seqT N Q) X ⟨#[s0, s1, s2, s3, s4, s5, s6, s7, s8, s9, s10, s11, s12, s13, s14, s15, s16, s17, s18, s19, s20, s21, s22, s23, s24, s25, s26, s27, s28, s29, s30, s31, s32, s33, s34, s35, s36, s37, s38, s39, s40, s41, s42, s43, s44, s45, s46, s47, s48, s49, s50, s51, s52, s53, s54, s55, s56, s57, s58, s59, s60, s61, s62], []⟩ I L :=
  sh_cut (fun p => if p = [1, 0, 1] then some (J7_3 N Q X) else none) (O := (J7_3 N Q X = J7_3 N Q X) ∧ True) (by kernel_rfl) ⟨rfl, trivial⟩ (by kernel_rfl) h
theorem loop7_1 {R : Ending → Imm → Own → Prop} {s0 s1 s2 s3 s4 s5 s8 s9 s10 s11 s12 s13 s14 s15 s16 s55 s56 s57 s58 s59 s60 s61 s62 : Value} {x6 u7 u17 u18 u19 u20 u21 u22 u23 u24 u25 u26 u27 u28 u29 u30 u31 u32 u33 u34 u35 u36 u37 u38 u39 u40 u41 u42 u43 u44 u45 u46 u47 u48 u49 u50 u51 u52 u53 u54 : Value} {I : Imm} {L : Own} (Inv : Nat → Value → Imm → Own → Prop) {n : Nat} (h : Inv n x6 I L)
  (round : ∀ (n : Nat) (x6 : Value) (I' : Imm) (L' : Own), I.Le I' → Inv n x6 I' L' → ∀ (N' : Act → Imm → Own → Prop), (∀ (m : Nat) {y6 w7 w17 w18 w19 w20 w21 w22 w23 w24 w25 w26 w27 w28 w29 w30 w31 w32 w33 w34 w35 w36 w37 w38 w39 w40 w41 w42 w43 w44 w45 w46 w47 w48 w49 w50 w51 w52 w53 w54 : Value} {I : Imm} {L : Own}, m < n → Inv m y6 I L → N' ⟨#[s0, s1, s2, s3, s4, s5, y6, w7, s8, s9, s10, s11, s12, s13, s14, s15, s16, w17, w18, w19, w20, w21, w22, w23, w24, w25, w26, w27, w28, w29, w30, w31, w32, w33, w34, w35, w36, w37, w38, w39, w40, w41, w42, w43, w44, w45, w46, w47, w48, w49, w50, w51, w52, w53, w54, s55, s56, s57, s58, s59, s60, s61, s62], []⟩ I L) → ∀ (u : Nat → Value), B7_1 N' (Q7_1 R) (endX R) s0 s1 s2 s3 s4 s5 x6 (u 7) s8 s9 s10 s11 s12 s13 s14 s15 s16 (u 17) (u 18) (u 19) (u 20) (u 21) (u 22) (u 23) (u 24) (u 25) (u 26) (u 27) (u 28) (u 29) (u 30) (u 31) (u 32) (u 33) (u 34) (u 35) (u 36) (u 37) (u 38) (u 39) (u 40) (u 41) (u 42) (u 43) (u 44) (u 45) (u 46) (u 47) (u 48) (u 49) (u 50) (u 51) (u 52) (u 53) (u 54) s55 s56 s57 s58 s59 s60 s61 s62 I' L') : L7_1 R ⟨#[s0, s1, s2, s3, s4, s5, x6, u7, s8, s9, s10, s11, s12, s13, s14, s15, s16, u17, u18, u19, u20, u21, u22, u23, u24, u25, u26, u27, u28, u29, u30, u31, u32, u33, u34, u35, u36, u37, u38, u39, u40, u41, u42, u43, u44, u45, u46, u47, u48, u49, u50, u51, u52, u53, u54, s55, s56, s57, s58, s59, s60, s61, s62], []⟩ I L :=
  loop_gen (by kernel_rfl) (fun n a I L => ∃ (x6 : Value) (u : Nat → Value), a = (⟨#[s0, s1, s2, s3, s4, s5, x6, u 7, s8, s9, s10, s11, s12, s13, s14, s15, s16, u 17, u 18, u 19, u 20, u 21, u 22, u 23, u 24, u 25, u 26, u 27, u 28, u 29, u 30, u 31, u 32, u 33, u 34, u 35, u 36, u 37, u 38, u 39, u 40, u 41, u 42, u 43, u 44, u 45, u 46, u 47, u 48, u 49, u 50, u 51, u 52, u 53, u 54, s55, s56, s57, s58, s59, s60, s61, s62], []⟩ : Act) ∧ Inv n x6 I L) ⟨x6, (fun i => (Act.tmps ⟨#[s0, s1, s2, s3, s4, s5, x6, u7, s8, s9, s10, s11, s12, s13, s14, s15, s16, u17, u18, u19, u20, u21, u22, u23, u24, u25, u26, u27, u28, u29, u30, u31, u32, u33, u34, u35, u36, u37, u38, u39, u40, u41, u42, u43, u44, u45, u46, u47, u48, u49, u50, u51, u52, u53, u54, s55, s56, s57, s58, s59, s60, s61, s62], []⟩).getD i undef), (by kernel_rfl), h⟩
    (fun n a I' L' hle ⟨x6, u, e, hi⟩ => e ▸ round7_1 (round n x6 I' L' hle hi (fun a I L => ∃ m, m < n ∧ (fun n a I L => ∃ (x6 : Value) (u : Nat → Value), a = (⟨#[s0, s1, s2, s3, s4, s5, x6, u 7, s8, s9, s10, s11, s12, s13, s14, s15, s16, u 17, u 18, u 19, u 20, u 21, u 22, u 23, u 24, u 25, u 26, u 27, u 28, u 29, u 30, u 31, u 32, u 33, u 34, u 35, u 36, u 37, u 38, u 39, u 40, u 41, u 42, u 43, u 44, u 45, u 46, u 47, u 48, u 49, u 50, u 51, u 52, u 53, u 54, s55, s56, s57, s58, s59, s60, s61, s62], []⟩ : Act) ∧ Inv n x6 I L) m a I L) (fun m => fun {y6 w7 w17 w18 w19 w20 w21 w22 w23 w24 w25 w26 w27 w28 w29 w30 w31 w32 w33 w34 w35 w36 w37 w38 w39 w40 w41 w42 w43 w44 w45 w46 w47 w48 w49 w50 w51 w52 w53 w54 I L} hm hi => ⟨m, hm, y6, (fun i => (Act.tmps ⟨#[s0, s1, s2, s3, s4, s5, y6, w7, s8, s9, s10, s11, s12, s13, s14, s15, s16, w17, w18, w19, w20, w21, w22, w23, w24, w25, w26, w27, w28, w29, w30, w31, w32, w33, w34, w35, w36, w37, w38, w39, w40, w41, w42, w43, w44, w45, w46, w47, w48, w49, w50, w51, w52, w53, w54, s55, s56, s57, s58, s59, s60, s61, s62], []⟩).getD i undef), (by kernel_rfl), hi⟩) u))
theorem out7_1x0 {R : Ending → Imm → Own → Prop} {s0 s1 s2 s3 s4 s5 s6 s7 s8 s9 s10 s11 s12 s13 s14 s15 s16 s17 s18 s19 s20 s21 s22 s23 s24 s25 s26 s27 s28 s29 s30 s31 s32 s33 s34 s35 s36 s37 s38 s39 s40 s41 s42 s43 s44 s45 s46 s47 s48 s49 s50 s51 s52 s53 s54 s55 s56 s57 s58 s59 s60 s61 s62 : Value} {I : Imm} {L : Own} (h : J7_4 R ⟨#[s0, s1, s2, s3, s4, s5, s6, s7, s8, s9, s10, s11, s12, s13, s14, s15, s16, s17, s18, s19, s20, s21, s22, s23, s24, s25, s26, s27, s28, s29, s30, s31, s32, s33, s34, s35, s36, s37, s38, s39, s40, s41, s42, s43, s44, s45, s46, s47, s48, s49, s50, s51, s52, s53, s54, s55, s56, s57, s58, s59, s60, s61, s62], []⟩ I L) : Q7_1 R (.exit 0) ⟨#[s0, s1, s2, s3, s4, s5, s6, s7, s8, s9, s10, s11, s12, s13, s14, s15, s16, s17, s18, s19, s20, s21, s22, s23, s24, s25, s26, s27, s28, s29, s30, s31, s32, s33, s34, s35, s36, s37, s38, s39, s40, s41, s42, s43, s44, s45, s46, s47, s48, s49, s50, s51, s52, s53, s54, s55, s56, s57, s58, s59, s60, s61, s62], []⟩ I L :=
  Eq.mpr (by kernel_rfl) h
def T7_2 (R : Ending → Imm → Own → Prop) (s0 s1 s2 s3 s4 s5 s6 s7 s8 s9 s10 s11 s12 s13 s14 s15 s16 s17 s18 s19 s20 s21 s22 s23 s24 s25 s26 s27 s28 s29 s30 s31 s32 s33 s34 s35 s36 s37 s38 s39 s40 s41 s42 s43 s44 s45 s46 s47 s48 s49 s50 s51 s52 s53 s54 s55 s56 s57 s58 s59 s60 s61 s62 : Value) (I : Imm) (L : Own) : Prop :=
 rcl Try.prog 32 s3 I L fun r1 =>
R (.returned (.tuple #[s2, r1])) I L
theorem join7_2 {R : Ending → Imm → Own → Prop} {s0 s1 s2 s3 s4 s5 s6 s7 s8 s9 s10 s11 s12 s13 s14 s15 s16 s17 s18 s19 s20 s21 s22 s23 s24 s25 s26 s27 s28 s29 s30 s31 s32 s33 s34 s35 s36 s37 s38 s39 s40 s41 s42 s43 s44 s45 s46 s47 s48 s49 s50 s51 s52 s53 s54 s55 s56 s57 s58 s59 s60 s61 s62 : Value} {I : Imm} {L : Own} (h : T7_2 R s0 s1 s2 s3 s4 s5 s6 s7 s8 s9 s10 s11 s12 s13 s14 s15 s16 s17 s18 s19 s20 s21 s22 s23 s24 s25 s26 s27 s28 s29 s30 s31 s32 s33 s34 s35 s36 s37 s38 s39 s40 s41 s42 s43 s44 s45 s46 s47 s48 s49 s50 s51 s52 s53 s54 s55 s56 s57 s58 s59 s60 s61 s62 I L) : J7_2 R ⟨#[s0, s1, s2, s3, s4, s5, s6, s7, s8, s9, s10, s11, s12, s13, s14, s15, s16, s17, s18, s19, s20, s21, s22, s23, s24, s25, s26, s27, s28, s29, s30, s31, s32, s33, s34, s35, s36, s37, s38, s39, s40, s41, s42, s43, s44, s45, s46, s47, s48, s49, s50, s51, s52, s53, s54, s55, s56, s57, s58, s59, s60, s61, s62], []⟩ I L :=
  sh_cut (fun _ => none) (O := True) (by kernel_rfl) trivial (by kernel_rfl) h
def T7_3 (N : Act → Imm → Own → Prop) (Q : Exit → Act → Imm → Own → Prop) (X : XT) (s0 s1 s2 s3 s4 s5 s6 s7 s8 s9 s10 s11 s12 s13 s14 s15 s16 s17 s18 s19 s20 s21 s22 s23 s24 s25 s26 s27 s28 s29 s30 s31 s32 s33 s34 s35 s36 s37 s38 s39 s40 s41 s42 s43 s44 s45 s46 s47 s48 s49 s50 s51 s52 s53 s54 s55 s56 s57 s58 s59 s60 s61 s62 : Value) (I : Imm) (L : Own) : Prop :=
 cal Try.prog 18 #[s4, (S [115, 116, 114, 117, 99, 116])] I L (fun ch => X ch []) fun x41 I L =>
 cal Try.prog 17 #[s4] I L (fun ch => X ch []) fun x43 I L =>
 bld Try.prog 28 #[(1, x43)] I L fun x44 I L =>
 al Try.prog 28 I L fun x7 I L =>
 sto Try.prog 28 x7 x44 I L fun _ I L =>
 cal Try.prog 19 #[s4] I L (fun ch => X ch []) fun x46 I L =>
 fad Try.prog 28 x7 0 I L fun x47 I L =>
 sto Try.prog 9 x47 x46 I L fun _ I L =>
 cal Try.prog 20 #[s4, (.int .i64 1)] I L (fun ch => X ch []) fun x49 I L =>
 fad Try.prog 28 x7 2 I L fun x50 I L =>
 sto Try.prog 26 x50 x49 I L fun _ I L =>
 ld Try.prog 28 x7 I L fun x52 I L =>
 bsl Try.prog 22 1 #[(0, x52)] I L fun x53 I L =>
 blt Try.prog .append #[22, 22] 22 #[s6, x53] I L fun x54 I L =>
N ⟨#[s0, s1, s2, s3, s4, s5, x54, x7, s8, s9, s10, s11, s12, s13, s14, s15, s16, s17, s18, s19, s20, s21, s22, s23, s24, s25, s26, s27, s28, s29, s30, s31, s32, s33, s34, s35, s36, s37, s38, s39, s4, x41, s4, x43, x44, s4, x46, x47, s4, x49, x50, s6, x52, x53, x54, s55, s56, s57, s58, s59, s60, s61, s62], []⟩ I L
theorem join7_3 {N : Act → Imm → Own → Prop} {Q : Exit → Act → Imm → Own → Prop} {X : XT} {s0 s1 s2 s3 s4 s5 s6 s7 s8 s9 s10 s11 s12 s13 s14 s15 s16 s17 s18 s19 s20 s21 s22 s23 s24 s25 s26 s27 s28 s29 s30 s31 s32 s33 s34 s35 s36 s37 s38 s39 s40 s41 s42 s43 s44 s45 s46 s47 s48 s49 s50 s51 s52 s53 s54 s55 s56 s57 s58 s59 s60 s61 s62 : Value} {I : Imm} {L : Own} (h : T7_3 N Q X s0 s1 s2 s3 s4 s5 s6 s7 s8 s9 s10 s11 s12 s13 s14 s15 s16 s17 s18 s19 s20 s21 s22 s23 s24 s25 s26 s27 s28 s29 s30 s31 s32 s33 s34 s35 s36 s37 s38 s39 s40 s41 s42 s43 s44 s45 s46 s47 s48 s49 s50 s51 s52 s53 s54 s55 s56 s57 s58 s59 s60 s61 s62 I L) : J7_3 N Q X ⟨#[s0, s1, s2, s3, s4, s5, s6, s7, s8, s9, s10, s11, s12, s13, s14, s15, s16, s17, s18, s19, s20, s21, s22, s23, s24, s25, s26, s27, s28, s29, s30, s31, s32, s33, s34, s35, s36, s37, s38, s39, s40, s41, s42, s43, s44, s45, s46, s47, s48, s49, s50, s51, s52, s53, s54, s55, s56, s57, s58, s59, s60, s61, s62], []⟩ I L :=
  sh_cut (fun _ => none) (O := True) (by kernel_rfl) trivial (by kernel_rfl) h
def T7_4 (R : Ending → Imm → Own → Prop) (s0 s1 s2 s3 s4 s5 s6 s7 s8 s9 s10 s11 s12 s13 s14 s15 s16 s17 s18 s19 s20 s21 s22 s23 s24 s25 s26 s27 s28 s29 s30 s31 s32 s33 s34 s35 s36 s37 s38 s39 s40 s41 s42 s43 s44 s45 s46 s47 s48 s49 s50 s51 s52 s53 s54 s55 s56 s57 s58 s59 s60 s61 s62 : Value) (I : Imm) (L : Own) : Prop :=
 cal Try.prog 14 #[s4] I L (fun ch => (endX R) ch []) fun x56 I L =>
 cnd x56
 (D7_5 R ⟨#[s0, s1, s2, s3, s4, s5, s6, s7, s8, s9, s10, s11, s12, s13, s14, s15, s16, s17, s18, s19, s20, s21, s22, s23, s24, s25, s26, s27, s28, s29, s30, s31, s32, s33, s34, s35, s36, s37, s38, s39, s40, s41, s42, s43, s44, s45, s46, s47, s48, s49, s50, s51, s52, s53, s54, s4, x56, s57, s58, s59, s60, s61, s62], []⟩ I L)
 (cal Try.prog 21 #[] I L (fun ch => (endX R) ch []) fun x62 I L =>
 sto Try.prog 32 s3 x62 I L fun _ I L =>
 rcl Try.prog 32 s3 I L fun r1 =>
R (.returned (.tuple #[s6, r1])) I L)
theorem join7_4 {R : Ending → Imm → Own → Prop} {s0 s1 s2 s3 s4 s5 s6 s7 s8 s9 s10 s11 s12 s13 s14 s15 s16 s17 s18 s19 s20 s21 s22 s23 s24 s25 s26 s27 s28 s29 s30 s31 s32 s33 s34 s35 s36 s37 s38 s39 s40 s41 s42 s43 s44 s45 s46 s47 s48 s49 s50 s51 s52 s53 s54 s55 s56 s57 s58 s59 s60 s61 s62 : Value} {I : Imm} {L : Own} (h : T7_4 R s0 s1 s2 s3 s4 s5 s6 s7 s8 s9 s10 s11 s12 s13 s14 s15 s16 s17 s18 s19 s20 s21 s22 s23 s24 s25 s26 s27 s28 s29 s30 s31 s32 s33 s34 s35 s36 s37 s38 s39 s40 s41 s42 s43 s44 s45 s46 s47 s48 s49 s50 s51 s52 s53 s54 s55 s56 s57 s58 s59 s60 s61 s62 I L) : J7_4 R ⟨#[s0, s1, s2, s3, s4, s5, s6, s7, s8, s9, s10, s11, s12, s13, s14, s15, s16, s17, s18, s19, s20, s21, s22, s23, s24, s25, s26, s27, s28, s29, s30, s31, s32, s33, s34, s35, s36, s37, s38, s39, s40, s41, s42, s43, s44, s45, s46, s47, s48, s49, s50, s51, s52, s53, s54, s55, s56, s57, s58, s59, s60, s61, s62], []⟩ I L :=
  sh_cut (fun p => if p = [0, 0, 1, 0] then some (D7_5 R) else none) (O := (D7_5 R = D7_5 R) ∧ True) (by kernel_rfl) ⟨rfl, trivial⟩ (by kernel_rfl) h
def G7_5 (R : Ending → Imm → Own → Prop) (C : Cls) (s0 s1 s2 s3 s4 s5 s6 s7 s8 s9 s10 s11 s12 s13 s14 s15 s16 s17 s18 s19 s20 s21 s22 s23 s24 s25 s26 s27 s28 s29 s30 s31 s32 s33 s34 s35 s36 s37 s38 s39 s40 s41 s42 s43 s44 s45 s46 s47 s48 s49 s50 s51 s52 s53 s54 s55 s56 s57 s58 s59 s60 s61 s62 : Value) (I : Imm) (L : Own) : Prop :=
 qnck Try.prog s4 C fun x58 =>
 qfad Try.prog 48 x58 2 C fun x59 =>
 qld Try.prog 32 x59 C fun x60 =>
 sto Try.prog 32 s3 x60 I L fun _ I L =>
J7_6 R ⟨#[s0, s1, (.slice none 0 0), s3, s4, s5, s6, s7, s8, s9, s10, s11, s12, s13, s14, s15, s16, s17, s18, s19, s20, s21, s22, s23, s24, s25, s26, s27, s28, s29, s30, s31, s32, s33, s34, s35, s36, s37, s38, s39, s40, s41, s42, s43, s44, s45, s46, s47, s48, s49, s50, s51, s52, s53, s54, s55, s56, s4, x58, x59, x60, s61, s62], []⟩ I L
theorem draw7_5 {R : Ending → Imm → Own → Prop} {C : Cls} {s0 s1 s2 s3 s4 s5 s6 s7 s8 s9 s10 s11 s12 s13 s14 s15 s16 s17 s18 s19 s20 s21 s22 s23 s24 s25 s26 s27 s28 s29 s30 s31 s32 s33 s34 s35 s36 s37 s38 s39 s40 s41 s42 s43 s44 s45 s46 s47 s48 s49 s50 s51 s52 s53 s54 s55 s56 s57 s58 s59 s60 s61 s62 : Value} {I : Imm} {L : Own} (hC : C I L) (h : G7_5 R C s0 s1 s2 s3 s4 s5 s6 s7 s8 s9 s10 s11 s12 s13 s14 s15 s16 s17 s18 s19 s20 s21 s22 s23 s24 s25 s26 s27 s28 s29 s30 s31 s32 s33 s34 s35 s36 s37 s38 s39 s40 s41 s42 s43 s44 s45 s46 s47 s48 s49 s50 s51 s52 s53 s54 s55 s56 s57 s58 s59 s60 s61 s62 I L) : D7_5 R ⟨#[s0, s1, s2, s3, s4, s5, s6, s7, s8, s9, s10, s11, s12, s13, s14, s15, s16, s17, s18, s19, s20, s21, s22, s23, s24, s25, s26, s27, s28, s29, s30, s31, s32, s33, s34, s35, s36, s37, s38, s39, s40, s41, s42, s43, s44, s45, s46, s47, s48, s49, s50, s51, s52, s53, s54, s55, s56, s57, s58, s59, s60, s61, s62], []⟩ I L :=
  draw_plan (ops := opsIn Try.f7 [1, 1, 1, 1, 1, 0, 1, 0, 0]) (id := 14) (Q := Q7_5 R) (X := (endX R)) (.take 0 (.take 1 (.take 2 (.take 3 (.take 4 (.all fun _ => .done)))))) [5] (by kernel_rfl) rfl (by kernel_rfl) (by kernel_rfl) hC h
def T7_6 (R : Ending → Imm → Own → Prop) (s0 s1 s2 s3 s4 s5 s6 s7 s8 s9 s10 s11 s12 s13 s14 s15 s16 s17 s18 s19 s20 s21 s22 s23 s24 s25 s26 s27 s28 s29 s30 s31 s32 s33 s34 s35 s36 s37 s38 s39 s40 s41 s42 s43 s44 s45 s46 s47 s48 s49 s50 s51 s52 s53 s54 s55 s56 s57 s58 s59 s60 s61 s62 : Value) (I : Imm) (L : Own) : Prop :=
 rcl Try.prog 32 s3 I L fun r1 =>
R (.returned (.tuple #[s2, r1])) I L
theorem join7_6 {R : Ending → Imm → Own → Prop} {s0 s1 s2 s3 s4 s5 s6 s7 s8 s9 s10 s11 s12 s13 s14 s15 s16 s17 s18 s19 s20 s21 s22 s23 s24 s25 s26 s27 s28 s29 s30 s31 s32 s33 s34 s35 s36 s37 s38 s39 s40 s41 s42 s43 s44 s45 s46 s47 s48 s49 s50 s51 s52 s53 s54 s55 s56 s57 s58 s59 s60 s61 s62 : Value} {I : Imm} {L : Own} (h : T7_6 R s0 s1 s2 s3 s4 s5 s6 s7 s8 s9 s10 s11 s12 s13 s14 s15 s16 s17 s18 s19 s20 s21 s22 s23 s24 s25 s26 s27 s28 s29 s30 s31 s32 s33 s34 s35 s36 s37 s38 s39 s40 s41 s42 s43 s44 s45 s46 s47 s48 s49 s50 s51 s52 s53 s54 s55 s56 s57 s58 s59 s60 s61 s62 I L) : J7_6 R ⟨#[s0, s1, s2, s3, s4, s5, s6, s7, s8, s9, s10, s11, s12, s13, s14, s15, s16, s17, s18, s19, s20, s21, s22, s23, s24, s25, s26, s27, s28, s29, s30, s31, s32, s33, s34, s35, s36, s37, s38, s39, s40, s41, s42, s43, s44, s45, s46, s47, s48, s49, s50, s51, s52, s53, s54, s55, s56, s57, s58, s59, s60, s61, s62], []⟩ I L :=
  sh_cut (fun _ => none) (O := True) (by kernel_rfl) trivial (by kernel_rfl) h
/-- 7: escritoire/escritoireref.TmplParse -/
def M7 (R : Ending → Imm → Own → Prop) (x0 : Value) (I : Imm) (L : Own) : Prop :=
 al Try.prog 32 I L fun x3 I L =>
 cal Try.prog 13 #[x0] I L (fun ch => (endX R) ch []) fun x10 I L =>
 ext Try.prog x10 0 I L fun x11 I L =>
 ext Try.prog x10 1 I L fun x12 I L =>
 al Try.prog 32 I L fun x5 I L =>
 sto Try.prog 32 x5 x12 I L fun _ I L =>
 ld Try.prog 32 x5 I L fun x13 I L =>
 cal Try.prog 8 #[x13] I L (fun ch => (endX R) ch []) fun x14 I L =>
 un Try.prog .not x14 I L fun x15 I L =>
 cnd x15
 (D7_0 R ⟨#[x0, undef, (.slice none 0 0), x3, x11, x5, undef, undef, x10, x0, x10, x11, x12, x13, x14, x15, undef, undef, undef, undef, undef, undef, undef, undef, undef, undef, undef, undef, undef, undef, undef, undef, undef, undef, undef, undef, undef, undef, undef, undef, undef, undef, undef, undef, undef, undef, undef, undef, undef, undef, undef, undef, undef, undef, undef, undef, undef, undef, undef, undef, undef, undef, undef], []⟩ I L)
 (L7_1 R ⟨#[x0, undef, (.slice none 0 0), x3, x11, x5, (.slice none 0 0), undef, x10, x0, x10, x11, x12, x13, x14, x15, undef, undef, undef, undef, undef, undef, undef, undef, undef, undef, undef, undef, undef, undef, undef, undef, undef, undef, undef, undef, undef, undef, undef, undef, undef, undef, undef, undef, undef, undef, undef, undef, undef, undef, undef, undef, undef, undef, undef, undef, undef, undef, undef, undef, undef, undef, undef], []⟩ I L)
theorem go7 {R : Ending → Imm → Own → Prop} {x0 : Value} {I : Imm} {L : Own} (h : M7 R x0 I L) : wpC Try.prog 7 #[x0] I L R :=
  wpC_go (fun p => if p = [0, 0, 1, 0, 1, 1] then some (D7_0 R) else if p = [0, 0, 1, 1, 1, 1] then some (L7_1 R) else none) Try.func7 (by kernel_rfl) (O := (D7_0 R = D7_0 R) ∧ (L7_1 R = L7_1 R) ∧ True) (by kernel_rfl) ⟨rfl, rfl, trivial⟩ (by kernel_rfl) h

/-- 8: (escritoire/escritoireref.Fault).Is -/
def M8 (R : Ending → Imm → Own → Prop) (x0 : Value) (I : Imm) (L : Own) : Prop :=
 bx Try.prog 32 x0 I L fun x1 I L =>
 fad Try.prog 32 x1 0 I L fun x3 I L =>
 ld Try.prog 30 x3 I L fun x4 I L =>
 eqn Try.prog .eql 30 false true x4 (.int .i64 0) I L fun x5 I L =>
R (.returned x5) I L
theorem go8 {R : Ending → Imm → Own → Prop} {x0 : Value} {I : Imm} {L : Own} (h : M8 R x0 I L) : wpC Try.prog 8 #[x0] I L R :=
  wpC_go (fun _ => none) Try.func8 (by kernel_rfl) (O := True) (by kernel_rfl) trivial (by kernel_rfl) h

def Q9_0 (R : Ending → Imm → Own → Prop) : Exit → Act → Imm → Own → Prop := (blkT 0 (seqT (cdT Try.prog (cdIn Try.f9 [1, 1, 1]) (endT Try.prog Try.f9 R) (endX R)) (endT Try.prog Try.f9 R)))
def L9_0 (R : Ending → Imm → Own → Prop) (a : Act) (I : Imm) (L : Own) : Prop := cdT Try.prog (cdIn Try.f9 [1, 1, 0, 1, 0]) (Q9_0 R) (endX R) a I L
def Q9_1 (R : Ending → Imm → Own → Prop) : Exit → Act → Imm → Own → Prop := (endT Try.prog Try.f9 R)
def J9_1 (R : Ending → Imm → Own → Prop) (a : Act) (I : Imm) (L : Own) : Prop := cdT Try.prog (cdIn Try.f9 [1, 1, 1]) (Q9_1 R) (endX R) a I L
/-- loop 9_0: what changes: 10; beside: 5 6 11 12 13 14 15 16 17 18 19 20 21 22 23 24 25 26 27 28 29 30 31 32 33 -/
def B9_0 (N : Act → Imm → Own → Prop) (Q : Exit → Act → Imm → Own → Prop) (X : XT) (s0 s1 s2 s3 s4 s5 s6 s7 s8 s9 s10 s11 s12 s13 s14 s15 s16 s17 s18 s19 s20 s21 s22 s23 s24 s25 s26 s27 s28 s29 s30 s31 s32 s33 s34 : Value) (I : Imm) (L : Own) : Prop :=
 bin Try.prog .lss 3 s10 s9 I L fun x11 I L =>
 cnd x11
 (iad Try.prog 22 s8 s10 I L fun x12 I L =>
 ld Try.prog 28 x12 I L fun x13 I L =>
 al Try.prog 28 I L fun x5 I L =>
 sto Try.prog 28 x5 x13 I L fun _ I L =>
 fad Try.prog 28 x5 0 I L fun x15 I L =>
 ld Try.prog 9 x15 I L fun x16 I L =>
 lkp Try.prog 55 s3 x16 false I L fun x17 I L =>
 cnd x17
 (fad Try.prog 28 x5 1 I L fun x18 I L =>
 ld Try.prog 3 x18 I L fun x19 I L =>
 bld Try.prog 32 #[(0, (.int .i64 9)), (1, x19)] I L fun x20 I L =>
 sto Try.prog 32 s2 x20 I L fun _ I L =>
Q .ret ⟨#[s0, s1, s2, s3, s4, x5, s6, s7, s8, s9, s10, x11, x12, x13, s3, x15, x16, x17, x18, x19, x20, s21, s22, s23, s24, s25, s26, s27, s28, s29, s30, s31, s32, s33, s34], []⟩ I L)
 (fad Try.prog 28 x5 2 I L fun x21 I L =>
 ld Try.prog 26 x21 I L fun x22 I L =>
 mkm Try.prog 55 none I L fun x24 I L =>
 cal Try.prog 22 #[x22, s3, x24, (.slice none 0 0)] I L (fun ch => X ch []) fun x25 I L =>
 al Try.prog 32 I L fun x6 I L =>
 sto Try.prog 32 x6 x25 I L fun _ I L =>
 ld Try.prog 32 x6 I L fun x26 I L =>
 cal Try.prog 8 #[x26] I L (fun ch => X ch []) fun x27 I L =>
 un Try.prog .not x27 I L fun x28 I L =>
 cnd x28
 (ld Try.prog 32 x6 I L fun x29 I L =>
 sto Try.prog 32 s2 x29 I L fun _ I L =>
Q .ret ⟨#[s0, s1, s2, s3, s4, x5, x6, s7, s8, s9, s10, x11, x12, x13, s3, x15, x16, x17, s18, s19, s20, x21, x22, s3, x24, x25, x26, x27, x28, x29, s30, s31, s32, s33, s34], []⟩ I L)
 (fad Try.prog 28 x5 0 I L fun x31 I L =>
 ld Try.prog 9 x31 I L fun x32 I L =>
 mup Try.prog 55 s3 x32 (.bool true) I L fun _ I L =>
 bin Try.prog .add 3 s10 (.int .i64 1) I L fun x33 I L =>
N ⟨#[s0, s1, s2, s3, s4, x5, x6, s7, s8, s9, x33, x11, x12, x13, s3, x15, x16, x17, s18, s19, s20, x21, x22, s3, x24, x25, x26, x27, x28, s29, s3, x31, x32, x33, s34], []⟩ I L)))
 (Q (.exit 0) ⟨#[s0, s1, s2, s3, s4, s5, s6, s7, s8, s9, s10, x11, s12, s13, s14, s15, s16, s17, s18, s19, s20, s21, s22, s23, s24, s25, s26, s27, s28, s29, s30, s31, s32, s33, s34], []⟩ I L)
theorem round9_0 {N : Act → Imm → Own → Prop} {Q : Exit → Act → Imm → Own → Prop} {X : XT} {s0 s1 s2 s3 s4 s5 s6 s7 s8 s9 s10 s11 s12 s13 s14 s15 s16 s17 s18 s19 s20 s21 s22 s23 s24 s25 s26 s27 s28 s29 s30 s31 s32 s33 s34 : Value} {I : Imm} {L : Own} (h : B9_0 N Q X s0 s1 s2 s3 s4 s5 s6 s7 s8 s9 s10 s11 s12 s13 s14 s15 s16 s17 s18 s19 s20 s21 s22 s23 s24 s25 s26 s27 s28 s29 s30 s31 s32 s33 s34 I L) : cdT Try.prog (cdIn Try.f9 [1, 1, 0, 1, 0, 0]) (seqT N Q) X ⟨#[s0, s1, s2, s3, s4, s5, s6, s7, s8, s9, s10, s11, s12, s13, s14, s15, s16, s17, s18, s19, s20, s21, s22, s23, s24, s25, s26, s27, s28, s29, s30, s31, s32, s33, s34], []⟩ I L :=
  sh_cut (fun _ => none) (O := True) (by kernel_rfl) trivial (by kernel_rfl) h
theorem loop9_0 {R : Ending → Imm → Own → Prop} {s0 s1 s2 s3 s4 s7 s8 s9 s34 : Value} {x10 u5 u6 u11 u12 u13 u14 u15 u16 u17 u18 u19 u20 u21 u22 u23 u24 u25 u26 u27 u28 u29 u30 u31 u32 u33 : Value} {I : Imm} {L : Own} (Inv : Nat → Value → Imm → Own → Prop) {n : Nat} (h : Inv n x10 I L)
  (round : ∀ (n : Nat) (x10 : Value) (I' : Imm) (L' : Own), I.Le I' → Inv n x10 I' L' → ∀ (N' : Act → Imm → Own → Prop), (∀ (m : Nat) {y10 w5 w6 w11 w12 w13 w14 w15 w16 w17 w18 w19 w20 w21 w22 w23 w24 w25 w26 w27 w28 w29 w30 w31 w32 w33 : Value} {I : Imm} {L : Own}, m < n → Inv m y10 I L → N' ⟨#[s0, s1, s2, s3, s4, w5, w6, s7, s8, s9, y10, w11, w12, w13, w14, w15, w16, w17, w18, w19, w20, w21, w22, w23, w24, w25, w26, w27, w28, w29, w30, w31, w32, w33, s34], []⟩ I L) → ∀ (u : Nat → Value), B9_0 N' (Q9_0 R) (endX R) s0 s1 s2 s3 s4 (u 5) (u 6) s7 s8 s9 x10 (u 11) (u 12) (u 13) (u 14) (u 15) (u 16) (u 17) (u 18) (u 19) (u 20) (u 21) (u 22) (u 23) (u 24) (u 25) (u 26) (u 27) (u 28) (u 29) (u 30) (u 31) (u 32) (u 33) s34 I' L') : L9_0 R ⟨#[s0, s1, s2, s3, s4, u5, u6, s7, s8, s9, x10, u11, u12, u13, u14, u15, u16, u17, u18, u19, u20, u21, u22, u23, u24, u25, u26, u27, u28, u29, u30, u31, u32, u33, s34], []⟩ I L :=
  loop_gen (by kernel_rfl) (fun n a I L => ∃ (x10 : Value) (u : Nat → Value), a = (⟨#[s0, s1, s2, s3, s4, u 5, u 6, s7, s8, s9, x10, u 11, u 12, u 13, u 14, u 15, u 16, u 17, u 18, u 19, u 20, u 21, u 22, u 23, u 24, u 25, u 26, u 27, u 28, u 29, u 30, u 31, u 32, u 33, s34], []⟩ : Act) ∧ Inv n x10 I L) ⟨x10, (fun i => (Act.tmps ⟨#[s0, s1, s2, s3, s4, u5, u6, s7, s8, s9, x10, u11, u12, u13, u14, u15, u16, u17, u18, u19, u20, u21, u22, u23, u24, u25, u26, u27, u28, u29, u30, u31, u32, u33, s34], []⟩).getD i undef), (by kernel_rfl), h⟩
    (fun n a I' L' hle ⟨x10, u, e, hi⟩ => e ▸ round9_0 (round n x10 I' L' hle hi (fun a I L => ∃ m, m < n ∧ (fun n a I L => ∃ (x10 : Value) (u : Nat → Value), a = (⟨#[s0, s1, s2, s3, s4, u 5, u 6, s7, s8, s9, x10, u 11, u 12, u 13, u 14, u 15, u 16, u 17, u 18, u 19, u 20, u 21, u 22, u 23, u 24, u 25, u 26, u 27, u 28, u 29, u 30, u 31, u 32, u 33, s34], []⟩ : Act) ∧ Inv n x10 I L) m a I L) (fun m => fun {y10 w5 w6 w11 w12 w13 w14 w15 w16 w17 w18 w19 w20 w21 w22 w23 w24 w25 w26 w27 w28 w29 w30 w31 w32 w33 I L} hm hi => ⟨m, hm, y10, (fun i => (Act.tmps ⟨#[s0, s1, s2, s3, s4, w5, w6, s7, s8, s9, y10, w11, w12, w13, w14, w15, w16, w17, w18, w19, w20, w21, w22, w23, w24, w25, w26, w27, w28, w29, w30, w31, w32, w33, s34], []⟩).getD i undef), (by kernel_rfl), hi⟩) u))
theorem out9_0x0 {R : Ending → Imm → Own → Prop} {s0 s1 s2 s3 s4 s5 s6 s7 s8 s9 s10 s11 s12 s13 s14 s15 s16 s17 s18 s19 s20 s21 s22 s23 s24 s25 s26 s27 s28 s29 s30 s31 s32 s33 s34 : Value} {I : Imm} {L : Own} (h : J9_1 R ⟨#[s0, s1, s2, s3, s4, s5, s6, s7, s8, s9, s10, s11, s12, s13, s14, s15, s16, s17, s18, s19, s20, s21, s22, s23, s24, s25, s26, s27, s28, s29, s30, s31, s32, s33, s34], []⟩ I L) : Q9_0 R (.exit 0) ⟨#[s0, s1, s2, s3, s4, s5, s6, s7, s8, s9, s10, s11, s12, s13, s14, s15, s16, s17, s18, s19, s20, s21, s22, s23, s24, s25, s26, s27, s28, s29, s30, s31, s32, s33, s34], []⟩ I L :=
  Eq.mpr (by kernel_rfl) h
theorem out9_0r {R : Ending → Imm → Own → Prop} {s0 s1 s2 s3 s4 s5 s6 s7 s8 s9 s10 s11 s12 s13 s14 s15 s16 s17 s18 s19 s20 s21 s22 s23 s24 s25 s26 s27 s28 s29 s30 s31 s32 s33 s34 : Value} {I : Imm} {L : Own} (h : rcl Try.prog 32 s2 I L fun r0 =>
R (.returned r0) I L) : Q9_0 R .ret ⟨#[s0, s1, s2, s3, s4, s5, s6, s7, s8, s9, s10, s11, s12, s13, s14, s15, s16, s17, s18, s19, s20, s21, s22, s23, s24, s25, s26, s27, s28, s29, s30, s31, s32, s33, s34], []⟩ I L :=
  Eq.mpr (by kernel_rfl) h
def T9_1 (R : Ending → Imm → Own → Prop) (s0 s1 s2 s3 s4 s5 s6 s7 s8 s9 s10 s11 s12 s13 s14 s15 s16 s17 s18 s19 s20 s21 s22 s23 s24 s25 s26 s27 s28 s29 s30 s31 s32 s33 s34 : Value) (I : Imm) (L : Own) : Prop :=
 cal Try.prog 21 #[] I L (fun ch => (endX R) ch []) fun x34 I L =>
 sto Try.prog 32 s2 x34 I L fun _ I L =>
 rcl Try.prog 32 s2 I L fun r0 =>
R (.returned r0) I L
theorem join9_1 {R : Ending → Imm → Own → Prop} {s0 s1 s2 s3 s4 s5 s6 s7 s8 s9 s10 s11 s12 s13 s14 s15 s16 s17 s18 s19 s20 s21 s22 s23 s24 s25 s26 s27 s28 s29 s30 s31 s32 s33 s34 : Value} {I : Imm} {L : Own} (h : T9_1 R s0 s1 s2 s3 s4 s5 s6 s7 s8 s9 s10 s11 s12 s13 s14 s15 s16 s17 s18 s19 s20 s21 s22 s23 s24 s25 s26 s27 s28 s29 s30 s31 s32 s33 s34 I L) : J9_1 R ⟨#[s0, s1, s2, s3, s4, s5, s6, s7, s8, s9, s10, s11, s12, s13, s14, s15, s16, s17, s18, s19, s20, s21, s22, s23, s24, s25, s26, s27, s28, s29, s30, s31, s32, s33, s34], []⟩ I L :=
  sh_cut (fun _ => none) (O := True) (by kernel_rfl) trivial (by kernel_rfl) h
/-- 9: escritoire/escritoireref.TypesCheck -/
def M9 (R : Ending → Imm → Own → Prop) (x0 : Value) (I : Imm) (L : Own) : Prop :=
 al Try.prog 32 I L fun x2 I L =>
 mkm Try.prog 55 none I L fun x7 I L =>
 blt Try.prog .len #[22] 3 #[x0] I L fun x9 I L =>
L9_0 R ⟨#[x0, undef, x2, x7, undef, undef, undef, x7, x0, x9, (.int .i64 0), undef, undef, undef, undef, undef, undef, undef, undef, undef, undef, undef, undef, undef, undef, undef, undef, undef, undef, undef, undef, undef, undef, undef, undef], []⟩ I L
theorem go9 {R : Ending → Imm → Own → Prop} {x0 : Value} {I : Imm} {L : Own} (h : M9 R x0 I L) : wpC Try.prog 9 #[x0] I L R :=
  wpC_go (fun p => if p = [0, 1, 0, 1, 1] then some (L9_0 R) else none) Try.func9 (by kernel_rfl) (O := (L9_0 R = L9_0 R) ∧ True) (by kernel_rfl) ⟨rfl, trivial⟩ (by kernel_rfl) h

def Q10_0 (R : Ending → Imm → Own → Prop) : Exit → Act → Imm → Own → Prop := (blkT 0 (seqT (cdT Try.prog (cdIn Try.f10 [1, 1, 1]) (endT Try.prog Try.f10 R) (endX R)) (endT Try.prog Try.f10 R)))
def L10_0 (R : Ending → Imm → Own → Prop) (a : Act) (I : Imm) (L : Own) : Prop := cdT Try.prog (cdIn Try.f10 [1, 1, 0, 1, 0]) (Q10_0 R) (endX R) a I L
def Q10_1 (N : Act → Imm → Own → Prop) (Q : Exit → Act → Imm → Own → Prop) (X : XT) : Exit → Act → Imm → Own → Prop := (seqT (cdT Try.prog (cdIn Try.f10 [1, 1, 0, 1, 0, 0, 1, 0, 0, 1]) (blkT 1 (seqT (cdT Try.prog (cdIn Try.f10 [1, 1, 0, 1, 0, 0, 1, 1]) (seqT N Q) X) (seqT N Q))) X) (blkT 1 (seqT (cdT Try.prog (cdIn Try.f10 [1, 1, 0, 1, 0, 0, 1, 1]) (seqT N Q) X) (seqT N Q))))
def D10_1 (N : Act → Imm → Own → Prop) (Q : Exit → Act → Imm → Own → Prop) (X : XT) (a : Act) (I : Imm) (L : Own) : Prop := cdT Try.prog (cdIn Try.f10 [1, 1, 0, 1, 0, 0, 1, 0, 0, 0]) (Q10_1 N Q X) X a I L
def Q10_2 (R : Ending → Imm → Own → Prop) : Exit → Act → Imm → Own → Prop := (endT Try.prog Try.f10 R)
def J10_2 (R : Ending → Imm → Own → Prop) (a : Act) (I : Imm) (L : Own) : Prop := cdT Try.prog (cdIn Try.f10 [1, 1, 1]) (Q10_2 R) (endX R) a I L
def Q10_3 (N : Act → Imm → Own → Prop) (Q : Exit → Act → Imm → Own → Prop) (X : XT) : Exit → Act → Imm → Own → Prop := (blkT 1 (seqT (cdT Try.prog (cdIn Try.f10 [1, 1, 0, 1, 0, 0, 1, 1]) (seqT N Q) X) (seqT N Q)))
def J10_3 (N : Act → Imm → Own → Prop) (Q : Exit → Act → Imm → Own → Prop) (X : XT) (a : Act) (I : Imm) (L : Own) : Prop := cdT Try.prog (cdIn Try.f10 [1, 1, 0, 1, 0, 0, 1, 0, 0, 1]) (Q10_3 N Q X) X a I L
def Q10_4 (N : Act → Imm → Own → Prop) (Q : Exit → Act → Imm → Own → Prop) (X : XT) : Exit → Act → Imm → Own → Prop := (seqT N Q)
def J10_4 (N : Act → Imm → Own → Prop) (Q : Exit → Act → Imm → Own → Prop) (X : XT) (a : Act) (I : Imm) (L : Own) : Prop := cdT Try.prog (cdIn Try.f10 [1, 1, 0, 1, 0, 0, 1, 1]) (Q10_4 N Q X) X a I L
/-- loop 10_0: what changes: 5; beside: 4 11 12 13 14 15 16 17 18 19 20 21 22 23 24 25 -/
def B10_0 (N : Act → Imm → Own → Prop) (Q : Exit → Act → Imm → Own → Prop) (X : XT) (s0 s1 s2 s3 s4 s5 s6 s7 s8 s9 s10 s11 s12 s13 s14 s15 s16 s17 s18 s19 s20 s21 s22 s23 s24 s25 : Value) (I : Imm) (L : Own) : Prop :=
 blt Try.prog .len #[38] 3 #[s0] I L fun x13 I L =>
 bin Try.prog .lss 3 s5 x13 I L fun x14 I L =>
 cnd x14
 (D10_1 N Q X ⟨#[s0, s1, s2, s3, s4, s5, s6, s7, s8, s9, s10, s5, s0, x13, x14, s15, s16, s17, s18, s19, s20, s21, s22, s23, s24, s25], []⟩ I L)
 (Q (.exit 0) ⟨#[s0, s1, s2, s3, s4, s5, s6, s7, s8, s9, s10, s5, s0, x13, x14, s15, s16, s17, s18, s19, s20, s21, s22, s23, s24, s25], []⟩ I L)
theorem round10_0 {N : Act → Imm → Own → Prop} {Q : Exit → Act → Imm → Own → Prop} {X : XT} {s0 s1 s2 s3 s4 s5 s6 s7 s8 s9 s10 s11 s12 s13 s14 s15 s16 s17 s18 s19 s20 s21 s22 s23 s24 s25 : Value} {I : Imm} {L : Own} (h : B10_0 N Q X s0 s1 s2 s3 s4 s5 s6 s7 s8 s9 s10 s11 s12 s13 s14 s15 s16 s17 s18 s19 s20 s21 s22 s23 s24 s25 I L) : cdT Try.prog (cdIn Try.f10 [1, 1, 0, 1, 0, 0]) (seqT N Q) X ⟨#[s0, s1, s2, s3, s4, s5, s6, s7, s8, s9, s10, s11, s12, s13, s14, s15, s16, s17, s18, s19, s20, s21, s22, s23, s24, s25], []⟩ I L :=
  sh_cut (fun p => if p = [0, 0, 0, 1] then some (D10_1 N Q X) else none) (O := (D10_1 N Q X = D10_1 N Q X) ∧ True) (by kernel_rfl) ⟨rfl, trivial⟩ (by kernel_rfl) h
theorem loop10_0 {R : Ending → Imm → Own → Prop} {s0 s1 s2 s3 s6 s7 s8 s9 s10 : Value} {x5 u4 u11 u12 u13 u14 u15 u16 u17 u18 u19 u20 u21 u22 u23 u24 u25 : Value} {I : Imm} {L : Own} (Inv : Nat → Value → Imm → Own → Prop) {n : Nat} (h : Inv n x5 I L)
  (round : ∀ (n : Nat) (x5 : Value) (I' : Imm) (L' : Own), I.Le I' → Inv n x5 I' L' → ∀ (N' : Act → Imm → Own → Prop), (∀ (m : Nat) {y5 w4 w11 w12 w13 w14 w15 w16 w17 w18 w19 w20 w21 w22 w23 w24 w25 : Value} {I : Imm} {L : Own}, m < n → Inv m y5 I L → N' ⟨#[s0, s1, s2, s3, w4, y5, s6, s7, s8, s9, s10, w11, w12, w13, w14, w15, w16, w17, w18, w19, w20, w21, w22, w23, w24, w25], []⟩ I L) → ∀ (u : Nat → Value), B10_0 N' (Q10_0 R) (endX R) s0 s1 s2 s3 (u 4) x5 s6 s7 s8 s9 s10 (u 11) (u 12) (u 13) (u 14) (u 15) (u 16) (u 17) (u 18) (u 19) (u 20) (u 21) (u 22) (u 23) (u 24) (u 25) I' L') : L10_0 R ⟨#[s0, s1, s2, s3, u4, x5, s6, s7, s8, s9, s10, u11, u12, u13, u14, u15, u16, u17, u18, u19, u20, u21, u22, u23, u24, u25], []⟩ I L :=
  loop_gen (by kernel_rfl) (fun n a I L => ∃ (x5 : Value) (u : Nat → Value), a = (⟨#[s0, s1, s2, s3, u 4, x5, s6, s7, s8, s9, s10, u 11, u 12, u 13, u 14, u 15, u 16, u 17, u 18, u 19, u 20, u 21, u 22, u 23, u 24, u 25], []⟩ : Act) ∧ Inv n x5 I L) ⟨x5, (fun i => (Act.tmps ⟨#[s0, s1, s2, s3, u4, x5, s6, s7, s8, s9, s10, u11, u12, u13, u14, u15, u16, u17, u18, u19, u20, u21, u22, u23, u24, u25], []⟩).getD i undef), (by kernel_rfl), h⟩
    (fun n a I' L' hle ⟨x5, u, e, hi⟩ => e ▸ round10_0 (round n x5 I' L' hle hi (fun a I L => ∃ m, m < n ∧ (fun n a I L => ∃ (x5 : Value) (u : Nat → Value), a = (⟨#[s0, s1, s2, s3, u 4, x5, s6, s7, s8, s9, s10, u 11, u 12, u 13, u 14, u 15, u 16, u 17, u 18, u 19, u 20, u 21, u 22, u 23, u 24, u 25], []⟩ : Act) ∧ Inv n x5 I L) m a I L) (fun m => fun {y5 w4 w11 w12 w13 w14 w15 w16 w17 w18 w19 w20 w21 w22 w23 w24 w25 I L} hm hi => ⟨m, hm, y5, (fun i => (Act.tmps ⟨#[s0, s1, s2, s3, w4, y5, s6, s7, s8, s9, s10, w11, w12, w13, w14, w15, w16, w17, w18, w19, w20, w21, w22, w23, w24, w25], []⟩).getD i undef), (by kernel_rfl), hi⟩) u))
theorem out10_0x0 {R : Ending → Imm → Own → Prop} {s0 s1 s2 s3 s4 s5 s6 s7 s8 s9 s10 s11 s12 s13 s14 s15 s16 s17 s18 s19 s20 s21 s22 s23 s24 s25 : Value} {I : Imm} {L : Own} (h : J10_2 R ⟨#[s0, s1, s2, s3, s4, s5, s6, s7, s8, s9, s10, s11, s12, s13, s14, s15, s16, s17, s18, s19, s20, s21, s22, s23, s24, s25], []⟩ I L) : Q10_0 R (.exit 0) ⟨#[s0, s1, s2, s3, s4, s5, s6, s7, s8, s9, s10, s11, s12, s13, s14, s15, s16, s17, s18, s19, s20, s21, s22, s23, s24, s25], []⟩ I L :=
  Eq.mpr (by kernel_rfl) h
theorem out10_0r {R : Ending → Imm → Own → Prop} {s0 s1 s2 s3 s4 s5 s6 s7 s8 s9 s10 s11 s12 s13 s14 s15 s16 s17 s18 s19 s20 s21 s22 s23 s24 s25 : Value} {I : Imm} {L : Own} (h : R (.returned s4) I L) : Q10_0 R .ret ⟨#[s0, s1, s2, s3, s4, s5, s6, s7, s8, s9, s10, s11, s12, s13, s14, s15, s16, s17, s18, s19, s20, s21, s22, s23, s24, s25], []⟩ I L :=
  Eq.mpr (by kernel_rfl) h
def G10_1 (N : Act → Imm → Own → Prop) (Q : Exit → Act → Imm → Own → Prop) (X : XT) (C : Cls) (s0 s1 s2 s3 s4 s5 s6 s7 s8 s9 s10 s11 s12 s13 s14 s15 s16 s17 s18 s19 s20 s21 s22 s23 s24 s25 : Value) (I : Imm) (L : Own) : Prop :=
 qiad Try.prog 38 s0 s5 C fun x19 =>
 qld Try.prog 3 x19 C fun x20 =>
 qiad Try.prog 38 s1 s5 C fun x23 =>
 qld Try.prog 3 x23 C fun x24 =>
 qeqn Try.prog .neq 3 false false x20 x24 C fun x25 =>
J10_3 N Q X ⟨#[s0, s1, s2, s3, s4, s5, s6, s7, s8, s9, s10, s11, s12, s13, s14, s15, s16, s0, s5, x19, x20, s1, s5, x23, x24, x25], []⟩ I L
theorem draw10_1 {N : Act → Imm → Own → Prop} {Q : Exit → Act → Imm → Own → Prop} {X : XT} {C : Cls} {s0 s1 s2 s3 s4 s5 s6 s7 s8 s9 s10 s11 s12 s13 s14 s15 s16 s17 s18 s19 s20 s21 s22 s23 s24 s25 : Value} {I : Imm} {L : Own} (hC : C I L) (h : G10_1 N Q X C s0 s1 s2 s3 s4 s5 s6 s7 s8 s9 s10 s11 s12 s13 s14 s15 s16 s17 s18 s19 s20 s21 s22 s23 s24 s25 I L) : D10_1 N Q X ⟨#[s0, s1, s2, s3, s4, s5, s6, s7, s8, s9, s10, s11, s12, s13, s14, s15, s16, s17, s18, s19, s20, s21, s22, s23, s24, s25], []⟩ I L :=
  draw_plan (ops := opsIn Try.f10 [1, 1, 0, 1, 0, 0, 1, 0, 0, 0]) (id := 6) (Q := Q10_1 N Q X) (X := X) (.take 0 (.take 1 (.take 2 (.take 3 (.take 4 (.take 5 (.take 6 (.take 7 (.take 8 .done))))))))) [] (by kernel_rfl) rfl (by kernel_rfl) (by kernel_rfl) hC h
def T10_2 (R : Ending → Imm → Own → Prop) (s0 s1 s2 s3 s4 s5 s6 s7 s8 s9 s10 s11 s12 s13 s14 s15 s16 s17 s18 s19 s20 s21 s22 s23 s24 s25 : Value) (I : Imm) (L : Own) : Prop :=
R (.returned (.bool true)) I L
theorem join10_2 {R : Ending → Imm → Own → Prop} {s0 s1 s2 s3 s4 s5 s6 s7 s8 s9 s10 s11 s12 s13 s14 s15 s16 s17 s18 s19 s20 s21 s22 s23 s24 s25 : Value} {I : Imm} {L : Own} (h : T10_2 R s0 s1 s2 s3 s4 s5 s6 s7 s8 s9 s10 s11 s12 s13 s14 s15 s16 s17 s18 s19 s20 s21 s22 s23 s24 s25 I L) : J10_2 R ⟨#[s0, s1, s2, s3, s4, s5, s6, s7, s8, s9, s10, s11, s12, s13, s14, s15, s16, s17, s18, s19, s20, s21, s22, s23, s24, s25], []⟩ I L :=
  sh_cut (fun _ => none) (O := True) (by kernel_rfl) trivial (by kernel_rfl) h
def T10_3 (N : Act → Imm → Own → Prop) (Q : Exit → Act → Imm → Own → Prop) (X : XT) (s0 s1 s2 s3 s4 s5 s6 s7 s8 s9 s10 s11 s12 s13 s14 s15 s16 s17 s18 s19 s20 s21 s22 s23 s24 s25 : Value) (I : Imm) (L : Own) : Prop :=
 cnd s25
 (Q .ret ⟨#[s0, s1, s2, s3, (.bool false), s5, s6, s7, s8, s9, s10, s11, s12, s13, s14, s15, s16, s17, s18, s19, s20, s21, s22, s23, s24, s25], []⟩ I L)
 (J10_4 N Q X ⟨#[s0, s1, s2, s3, s4, s5, s6, s7, s8, s9, s10, s11, s12, s13, s14, s15, s16, s17, s18, s19, s20, s21, s22, s23, s24, s25], []⟩ I L)
theorem join10_3 {N : Act → Imm → Own → Prop} {Q : Exit → Act → Imm → Own → Prop} {X : XT} {s0 s1 s2 s3 s4 s5 s6 s7 s8 s9 s10 s11 s12 s13 s14 s15 s16 s17 s18 s19 s20 s21 s22 s23 s24 s25 : Value} {I : Imm} {L : Own} (h : T10_3 N Q X s0 s1 s2 s3 s4 s5 s6 s7 s8 s9 s10 s11 s12 s13 s14 s15 s16 s17 s18 s19 s20 s21 s22 s23 s24 s25 I L) : J10_3 N Q X ⟨#[s0, s1, s2, s3, s4, s5, s6, s7, s8, s9, s10, s11, s12, s13, s14, s15, s16, s17, s18, s19, s20, s21, s22, s23, s24, s25], []⟩ I L :=
  sh_cut (fun _ => none) (O := True) (by kernel_rfl) trivial (by kernel_rfl) h
def T10_4 (N : Act → Imm → Own → Prop) (Q : Exit → Act → Imm → Own → Prop) (X : XT) (s0 s1 s2 s3 s4 s5 s6 s7 s8 s9 s10 s11 s12 s13 s14 s15 s16 s17 s18 s19 s20 s21 s22 s23 s24 s25 : Value) (I : Imm) (L : Own) : Prop :=
 bin Try.prog .add 3 s5 (.int .i64 1) I L fun x16 I L =>
N ⟨#[s0, s1, s2, s3, s4, x16, s6, s7, s8, s9, s10, s11, s12, s13, s14, s5, x16, s17, s18, s19, s20, s21, s22, s23, s24, s25], []⟩ I L
theorem join10_4 {N : Act → Imm → Own → Prop} {Q : Exit → Act → Imm → Own → Prop} {X : XT} {s0 s1 s2 s3 s4 s5 s6 s7 s8 s9 s10 s11 s12 s13 s14 s15 s16 s17 s18 s19 s20 s21 s22 s23 s24 s25 : Value} {I : Imm} {L : Own} (h : T10_4 N Q X s0 s1 s2 s3 s4 s5 s6 s7 s8 s9 s10 s11 s12 s13 s14 s15 s16 s17 s18 s19 s20 s21 s22 s23 s24 s25 I L) : J10_4 N Q X ⟨#[s0, s1, s2, s3, s4, s5, s6, s7, s8, s9, s10, s11, s12, s13, s14, s15, s16, s17, s18, s19, s20, s21, s22, s23, s24, s25], []⟩ I L :=
  sh_cut (fun _ => none) (O := True) (by kernel_rfl) trivial (by kernel_rfl) h
/-- 10: escritoire/escritoirelaw.sameInts -/
def M10 (R : Ending → Imm → Own → Prop) (x0 x1 : Value) (I : Imm) (L : Own) : Prop :=
 blt Try.prog .len #[38] 3 #[x0] I L fun x7 I L =>
 blt Try.prog .len #[38] 3 #[x1] I L fun x9 I L =>
 eqn Try.prog .neq 3 false false x7 x9 I L fun x10 I L =>
 cnd x10
 (R (.returned (.bool false)) I L)
 (L10_0 R ⟨#[x0, x1, undef, undef, (.bool false), (.int .i64 0), x0, x7, x1, x9, x10, undef, undef, undef, undef, undef, undef, undef, undef, undef, undef, undef, undef, undef, undef, undef], []⟩ I L)
theorem go10 {R : Ending → Imm → Own → Prop} {x0 x1 : Value} {I : Imm} {L : Own} (h : M10 R x0 x1 I L) : wpC Try.prog 10 #[x0, x1] I L R :=
  wpC_go (fun p => if p = [0, 1, 0, 1, 1] then some (L10_0 R) else none) Try.func10 (by kernel_rfl) (O := (L10_0 R = L10_0 R) ∧ True) (by kernel_rfl) ⟨rfl, trivial⟩ (by kernel_rfl) h

def Q11_0 (R : Ending → Imm → Own → Prop) : Exit → Act → Imm → Own → Prop := (blkT 0 (seqT (cdT Try.prog (cdIn Try.f11 [1, 1, 1]) (endT Try.prog Try.f11 R) (endX R)) (endT Try.prog Try.f11 R)))
def L11_0 (R : Ending → Imm → Own → Prop) (a : Act) (I : Imm) (L : Own) : Prop := cdT Try.prog (cdIn Try.f11 [1, 1, 0, 1, 0]) (Q11_0 R) (endX R) a I L
def Q11_1 (R : Ending → Imm → Own → Prop) : Exit → Act → Imm → Own → Prop := (endT Try.prog Try.f11 R)
def J11_1 (R : Ending → Imm → Own → Prop) (a : Act) (I : Imm) (L : Own) : Prop := cdT Try.prog (cdIn Try.f11 [1, 1, 1]) (Q11_1 R) (endX R) a I L
def Q11_2 (R : Ending → Imm → Own → Prop) : Exit → Act → Imm → Own → Prop := (blkT 2 (Q11_1 R))
def L11_2 (R : Ending → Imm → Own → Prop) (a : Act) (I : Imm) (L : Own) : Prop := cdT Try.prog (cdIn Try.f11 [1, 1, 1, 0]) (Q11_2 R) (endX R) a I L
/-- loop 11_0: what changes: 8; beside: 4 9 10 11 12 13 14 15 16 17 18 19 20 21 22 23 24 25 26 27 28 29 -/
def B11_0 (N : Act → Imm → Own → Prop) (Q : Exit → Act → Imm → Own → Prop) (X : XT) (s0 s1 s2 s3 s4 s5 s6 s7 s8 s9 s10 s11 s12 s13 s14 s15 s16 s17 s18 s19 s20 s21 s22 s23 s24 s25 s26 s27 s28 s29 s30 s31 s32 s33 s34 s35 s36 s37 s38 s39 : Value) (I : Imm) (L : Own) : Prop :=
 bin Try.prog .lss 3 s8 s7 I L fun x9 I L =>
 cnd x9
 (ld Try.prog 26 s1 I L fun x11 I L =>
 iad Try.prog 26 x11 s8 I L fun x13 I L =>
 fad Try.prog 42 x13 9 I L fun x14 I L =>
 ld Try.prog 3 x14 I L fun x15 I L =>
 eqn Try.prog .eql 3 false true x15 (.int .i64 1) I L fun x16 I L =>
gd (yb (some x16) false) (fun k => ld Try.prog 26 s1 I L k) (fun x18 I L =>
gd (yb (some x16) false) (fun k => k s8 I L) (fun x19 I L =>
gd (yb (some x16) false) (fun k => iad Try.prog 26 x18 x19 I L k) (fun x20 I L =>
gd (yb (some x16) false) (fun k => fad Try.prog 42 x20 9 I L k) (fun x21 I L =>
gd (yb (some x16) false) (fun k => ld Try.prog 3 x21 I L k) (fun x22 I L =>
gd (yb (some x16) false) (fun k => eqn Try.prog .eql 3 false true x22 (.int .i64 2) I L k) (fun x23 I L =>
pck x16 (.bool true) x23 I L fun x24 I L =>
 cnd x24
 (ld Try.prog 38 s3 I L fun x25 I L =>
 bsl Try.prog 38 1 #[(0, s8)] I L fun x27 I L =>
 blt Try.prog .append #[38, 38] 38 #[x25, x27] I L fun x28 I L =>
 sto Try.prog 38 s3 x28 I L fun _ I L =>
 bin Try.prog .add 3 s8 (.int .i64 1) I L fun x29 I L =>
N ⟨#[s0, s1, s2, s3, s8, s5, s6, s7, x29, x9, s8, x11, s8, x13, x14, x15, x16, x16, x18, x19, x20, x21, x22, x23, x24, x25, s8, x27, x28, x29, s30, s31, s32, s33, s34, s35, s36, s37, s38, s39], []⟩ I L)
 (bin Try.prog .add 3 s8 (.int .i64 1) I L fun x29 I L =>
N ⟨#[s0, s1, s2, s3, s8, s5, s6, s7, x29, x9, s8, x11, s8, x13, x14, x15, x16, x16, x18, x19, x20, x21, x22, x23, x24, s25, s26, s27, s28, x29, s30, s31, s32, s33, s34, s35, s36, s37, s38, s39], []⟩ I L)) I L) I L) I L) I L) I L) I L)
 (Q (.exit 0) ⟨#[s0, s1, s2, s3, s4, s5, s6, s7, s8, x9, s10, s11, s12, s13, s14, s15, s16, s17, s18, s19, s20, s21, s22, s23, s24, s25, s26, s27, s28, s29, s30, s31, s32, s33, s34, s35, s36, s37, s38, s39], []⟩ I L)
theorem round11_0 {N : Act → Imm → Own → Prop} {Q : Exit → Act → Imm → Own → Prop} {X : XT} {s0 s1 s2 s3 s4 s5 s6 s7 s8 s9 s10 s11 s12 s13 s14 s15 s16 s17 s18 s19 s20 s21 s22 s23 s24 s25 s26 s27 s28 s29 s30 s31 s32 s33 s34 s35 s36 s37 s38 s39 : Value} {I : Imm} {L : Own} (h : B11_0 N Q X s0 s1 s2 s3 s4 s5 s6 s7 s8 s9 s10 s11 s12 s13 s14 s15 s16 s17 s18 s19 s20 s21 s22 s23 s24 s25 s26 s27 s28 s29 s30 s31 s32 s33 s34 s35 s36 s37 s38 s39 I L) : cdT Try.prog (cdIn Try.f11 [1, 1, 0, 1, 0, 0]) (seqT N Q) X ⟨#[s0, s1, s2, s3, s4, s5, s6, s7, s8, s9, s10, s11, s12, s13, s14, s15, s16, s17, s18, s19, s20, s21, s22, s23, s24, s25, s26, s27, s28, s29, s30, s31, s32, s33, s34, s35, s36, s37, s38, s39], []⟩ I L :=
  sh_cut (fun _ => none) (O := True) (by kernel_rfl) trivial (by kernel_rfl) h
theorem loop11_0 {R : Ending → Imm → Own → Prop} {s0 s1 s2 s3 s5 s6 s7 s30 s31 s32 s33 s34 s35 s36 s37 s38 s39 : Value} {x8 u4 u9 u10 u11 u12 u13 u14 u15 u16 u17 u18 u19 u20 u21 u22 u23 u24 u25 u26 u27 u28 u29 : Value} {I : Imm} {L : Own} (Inv : Nat → Value → Imm → Own → Prop) {n : Nat} (h : Inv n x8 I L)
  (round : ∀ (n : Nat) (x8 : Value) (I' : Imm) (L' : Own), I.Le I' → Inv n x8 I' L' → ∀ (N' : Act → Imm → Own → Prop), (∀ (m : Nat) {y8 w4 w9 w10 w11 w12 w13 w14 w15 w16 w17 w18 w19 w20 w21 w22 w23 w24 w25 w26 w27 w28 w29 : Value} {I : Imm} {L : Own}, m < n → Inv m y8 I L → N' ⟨#[s0, s1, s2, s3, w4, s5, s6, s7, y8, w9, w10, w11, w12, w13, w14, w15, w16, w17, w18, w19, w20, w21, w22, w23, w24, w25, w26, w27, w28, w29, s30, s31, s32, s33, s34, s35, s36, s37, s38, s39], []⟩ I L) → ∀ (u : Nat → Value), B11_0 N' (Q11_0 R) (endX R) s0 s1 s2 s3 (u 4) s5 s6 s7 x8 (u 9) (u 10) (u 11) (u 12) (u 13) (u 14) (u 15) (u 16) (u 17) (u 18) (u 19) (u 20) (u 21) (u 22) (u 23) (u 24) (u 25) (u 26) (u 27) (u 28) (u 29) s30 s31 s32 s33 s34 s35 s36 s37 s38 s39 I' L') : L11_0 R ⟨#[s0, s1, s2, s3, u4, s5, s6, s7, x8, u9, u10, u11, u12, u13, u14, u15, u16, u17, u18, u19, u20, u21, u22, u23, u24, u25, u26, u27, u28, u29, s30, s31, s32, s33, s34, s35, s36, s37, s38, s39], []⟩ I L :=
  loop_gen (by kernel_rfl) (fun n a I L => ∃ (x8 : Value) (u : Nat → Value), a = (⟨#[s0, s1, s2, s3, u 4, s5, s6, s7, x8, u 9, u 10, u 11, u 12, u 13, u 14, u 15, u 16, u 17, u 18, u 19, u 20, u 21, u 22, u 23, u 24, u 25, u 26, u 27, u 28, u 29, s30, s31, s32, s33, s34, s35, s36, s37, s38, s39], []⟩ : Act) ∧ Inv n x8 I L) ⟨x8, (fun i => (Act.tmps ⟨#[s0, s1, s2, s3, u4, s5, s6, s7, x8, u9, u10, u11, u12, u13, u14, u15, u16, u17, u18, u19, u20, u21, u22, u23, u24, u25, u26, u27, u28, u29, s30, s31, s32, s33, s34, s35, s36, s37, s38, s39], []⟩).getD i undef), (by kernel_rfl), h⟩
    (fun n a I' L' hle ⟨x8, u, e, hi⟩ => e ▸ round11_0 (round n x8 I' L' hle hi (fun a I L => ∃ m, m < n ∧ (fun n a I L => ∃ (x8 : Value) (u : Nat → Value), a = (⟨#[s0, s1, s2, s3, u 4, s5, s6, s7, x8, u 9, u 10, u 11, u 12, u 13, u 14, u 15, u 16, u 17, u 18, u 19, u 20, u 21, u 22, u 23, u 24, u 25, u 26, u 27, u 28, u 29, s30, s31, s32, s33, s34, s35, s36, s37, s38, s39], []⟩ : Act) ∧ Inv n x8 I L) m a I L) (fun m => fun {y8 w4 w9 w10 w11 w12 w13 w14 w15 w16 w17 w18 w19 w20 w21 w22 w23 w24 w25 w26 w27 w28 w29 I L} hm hi => ⟨m, hm, y8, (fun i => (Act.tmps ⟨#[s0, s1, s2, s3, w4, s5, s6, s7, y8, w9, w10, w11, w12, w13, w14, w15, w16, w17, w18, w19, w20, w21, w22, w23, w24, w25, w26, w27, w28, w29, s30, s31, s32, s33, s34, s35, s36, s37, s38, s39], []⟩).getD i undef), (by kernel_rfl), hi⟩) u))
theorem out11_0x0 {R : Ending → Imm → Own → Prop} {s0 s1 s2 s3 s4 s5 s6 s7 s8 s9 s10 s11 s12 s13 s14 s15 s16 s17 s18 s19 s20 s21 s22 s23 s24 s25 s26 s27 s28 s29 s30 s31 s32 s33 s34 s35 s36 s37 s38 s39 : Value} {I : Imm} {L : Own} (h : J11_1 R ⟨#[s0, s1, s2, s3, s4, s5, s6, s7, s8, s9, s10, s11, s12, s13, s14, s15, s16, s17, s18, s19, s20, s21, s22, s23, s24, s25, s26, s27, s28, s29, s30, s31, s32, s33, s34, s35, s36, s37, s38, s39], []⟩ I L) : Q11_0 R (.exit 0) ⟨#[s0, s1, s2, s3, s4, s5, s6, s7, s8, s9, s10, s11, s12, s13, s14, s15, s16, s17, s18, s19, s20, s21, s22, s23, s24, s25, s26, s27, s28, s29, s30, s31, s32, s33, s34, s35, s36, s37, s38, s39], []⟩ I L :=
  Eq.mpr (by kernel_rfl) h
def T11_1 (R : Ending → Imm → Own → Prop) (s0 s1 s2 s3 s4 s5 s6 s7 s8 s9 s10 s11 s12 s13 s14 s15 s16 s17 s18 s19 s20 s21 s22 s23 s24 s25 s26 s27 s28 s29 s30 s31 s32 s33 s34 s35 s36 s37 s38 s39 : Value) (I : Imm) (L : Own) : Prop :=
L11_2 R ⟨#[s0, s1, s2, s3, s4, s5, s6, s7, s8, s9, s10, s11, s12, s13, s14, s15, s16, s17, s18, s19, s20, s21, s22, s23, s24, s25, s26, s27, s28, s29, s30, s31, s32, s33, s34, s35, s36, s37, s38, s39], []⟩ I L
theorem join11_1 {R : Ending → Imm → Own → Prop} {s0 s1 s2 s3 s4 s5 s6 s7 s8 s9 s10 s11 s12 s13 s14 s15 s16 s17 s18 s19 s20 s21 s22 s23 s24 s25 s26 s27 s28 s29 s30 s31 s32 s33 s34 s35 s36 s37 s38 s39 : Value} {I : Imm} {L : Own} (h : T11_1 R s0 s1 s2 s3 s4 s5 s6 s7 s8 s9 s10 s11 s12 s13 s14 s15 s16 s17 s18 s19 s20 s21 s22 s23 s24 s25 s26 s27 s28 s29 s30 s31 s32 s33 s34 s35 s36 s37 s38 s39 I L) : J11_1 R ⟨#[s0, s1, s2, s3, s4, s5, s6, s7, s8, s9, s10, s11, s12, s13, s14, s15, s16, s17, s18, s19, s20, s21, s22, s23, s24, s25, s26, s27, s28, s29, s30, s31, s32, s33, s34, s35, s36, s37, s38, s39], []⟩ I L :=
  sh_cut (fun p => if p = [0] then some (L11_2 R) else none) (O := (L11_2 R = L11_2 R) ∧ True) (by kernel_rfl) ⟨rfl, trivial⟩ (by kernel_rfl) h
/-- loop 11_2: what changes: ; beside: 2 5 30 31 32 33 34 35 36 37 38 39 -/
def B11_2 (N : Act → Imm → Own → Prop) (Q : Exit → Act → Imm → Own → Prop) (X : XT) (s0 s1 s2 s3 s4 s5 s6 s7 s8 s9 s10 s11 s12 s13 s14 s15 s16 s17 s18 s19 s20 s21 s22 s23 s24 s25 s26 s27 s28 s29 s30 s31 s32 s33 s34 s35 s36 s37 s38 s39 : Value) (I : Imm) (L : Own) : Prop :=
 ld Try.prog 26 s1 I L fun x30 I L =>
 cal Try.prog 23 #[x30, (.func (.func 24) #[] #[s1, s3])] I L (fun ch => X ch []) fun x32 I L =>
 bin Try.prog .lss 3 x32 (.int .i64 0) I L fun x34 I L =>
 cnd x34
 (ld Try.prog 38 s3 I L fun x35 I L =>
Q .ret ⟨#[s0, s1, x35, s3, s4, x32, s6, s7, s8, s9, s10, s11, s12, s13, s14, s15, s16, s17, s18, s19, s20, s21, s22, s23, s24, s25, s26, s27, s28, s29, x30, (.func (.func 24) #[] #[s1, s3]), x32, x32, x34, x35, s36, s37, s38, s39], []⟩ I L)
 (ld Try.prog 38 s3 I L fun x36 I L =>
 bsl Try.prog 38 1 #[(0, x32)] I L fun x38 I L =>
 blt Try.prog .append #[38, 38] 38 #[x36, x38] I L fun x39 I L =>
 sto Try.prog 38 s3 x39 I L fun _ I L =>
N ⟨#[s0, s1, s2, s3, s4, x32, s6, s7, s8, s9, s10, s11, s12, s13, s14, s15, s16, s17, s18, s19, s20, s21, s22, s23, s24, s25, s26, s27, s28, s29, x30, (.func (.func 24) #[] #[s1, s3]), x32, x32, x34, s35, x36, x32, x38, x39], []⟩ I L)
theorem round11_2 {N : Act → Imm → Own → Prop} {Q : Exit → Act → Imm → Own → Prop} {X : XT} {s0 s1 s2 s3 s4 s5 s6 s7 s8 s9 s10 s11 s12 s13 s14 s15 s16 s17 s18 s19 s20 s21 s22 s23 s24 s25 s26 s27 s28 s29 s30 s31 s32 s33 s34 s35 s36 s37 s38 s39 : Value} {I : Imm} {L : Own} (h : B11_2 N Q X s0 s1 s2 s3 s4 s5 s6 s7 s8 s9 s10 s11 s12 s13 s14 s15 s16 s17 s18 s19 s20 s21 s22 s23 s24 s25 s26 s27 s28 s29 s30 s31 s32 s33 s34 s35 s36 s37 s38 s39 I L) : cdT Try.prog (cdIn Try.f11 [1, 1, 1, 0, 0]) (seqT N Q) X ⟨#[s0, s1, s2, s3, s4, s5, s6, s7, s8, s9, s10, s11, s12, s13, s14, s15, s16, s17, s18, s19, s20, s21, s22, s23, s24, s25, s26, s27, s28, s29, s30, s31, s32, s33, s34, s35, s36, s37, s38, s39], []⟩ I L :=
  sh_cut (fun _ => none) (O := True) (by kernel_rfl) trivial (by kernel_rfl) h
theorem loop11_2 {R : Ending → Imm → Own → Prop} {s0 s1 s3 s4 s6 s7 s8 s9 s10 s11 s12 s13 s14 s15 s16 s17 s18 s19 s20 s21 s22 s23 s24 s25 s26 s27 s28 s29 : Value} {u2 u5 u30 u31 u32 u33 u34 u35 u36 u37 u38 u39 : Value} {I : Imm} {L : Own} (Inv : Nat → Imm → Own → Prop) {n : Nat} (h : Inv n  I L)
  (round : ∀ (n : Nat) (I' : Imm) (L' : Own), I.Le I' → Inv n  I' L' → ∀ (N' : Act → Imm → Own → Prop), (∀ (m : Nat) {w2 w5 w30 w31 w32 w33 w34 w35 w36 w37 w38 w39 : Value} {I : Imm} {L : Own}, m < n → Inv m  I L → N' ⟨#[s0, s1, w2, s3, s4, w5, s6, s7, s8, s9, s10, s11, s12, s13, s14, s15, s16, s17, s18, s19, s20, s21, s22, s23, s24, s25, s26, s27, s28, s29, w30, w31, w32, w33, w34, w35, w36, w37, w38, w39], []⟩ I L) → ∀ (u : Nat → Value), B11_2 N' (Q11_2 R) (endX R) s0 s1 (u 2) s3 s4 (u 5) s6 s7 s8 s9 s10 s11 s12 s13 s14 s15 s16 s17 s18 s19 s20 s21 s22 s23 s24 s25 s26 s27 s28 s29 (u 30) (u 31) (u 32) (u 33) (u 34) (u 35) (u 36) (u 37) (u 38) (u 39) I' L') : L11_2 R ⟨#[s0, s1, u2, s3, s4, u5, s6, s7, s8, s9, s10, s11, s12, s13, s14, s15, s16, s17, s18, s19, s20, s21, s22, s23, s24, s25, s26, s27, s28, s29, u30, u31, u32, u33, u34, u35, u36, u37, u38, u39], []⟩ I L :=
  loop_gen (by kernel_rfl) (fun n a I L => ∃ (u : Nat → Value), a = (⟨#[s0, s1, u 2, s3, s4, u 5, s6, s7, s8, s9, s10, s11, s12, s13, s14, s15, s16, s17, s18, s19, s20, s21, s22, s23, s24, s25, s26, s27, s28, s29, u 30, u 31, u 32, u 33, u 34, u 35, u 36, u 37, u 38, u 39], []⟩ : Act) ∧ Inv n  I L) ⟨(fun i => (Act.tmps ⟨#[s0, s1, u2, s3, s4, u5, s6, s7, s8, s9, s10, s11, s12, s13, s14, s15, s16, s17, s18, s19, s20, s21, s22, s23, s24, s25, s26, s27, s28, s29, u30, u31, u32, u33, u34, u35, u36, u37, u38, u39], []⟩).getD i undef), (by kernel_rfl), h⟩
    (fun n a I' L' hle ⟨u, e, hi⟩ => e ▸ round11_2 (round n  I' L' hle hi (fun a I L => ∃ m, m < n ∧ (fun n a I L => ∃ (u : Nat → Value), a = (⟨#[s0, s1, u 2, s3, s4, u 5, s6, s7, s8, s9, s10, s11, s12, s13, s14, s15, s16, s17, s18, s19, s20, s21, s22, s23, s24, s25, s26, s27, s28, s29, u 30, u 31, u 32, u 33, u 34, u 35, u 36, u 37, u 38, u 39], []⟩ : Act) ∧ Inv n  I L) m a I L) (fun m => fun {w2 w5 w30 w31 w32 w33 w34 w35 w36 w37 w38 w39 I L} hm hi => ⟨m, hm, (fun i => (Act.tmps ⟨#[s0, s1, w2, s3, s4, w5, s6, s7, s8, s9, s10, s11, s12, s13, s14, s15, s16, s17, s18, s19, s20, s21, s22, s23, s24, s25, s26, s27, s28, s29, w30, w31, w32, w33, w34, w35, w36, w37, w38, w39], []⟩).getD i undef), (by kernel_rfl), hi⟩) u))
theorem out11_2r {R : Ending → Imm → Own → Prop} {s0 s1 s2 s3 s4 s5 s6 s7 s8 s9 s10 s11 s12 s13 s14 s15 s16 s17 s18 s19 s20 s21 s22 s23 s24 s25 s26 s27 s28 s29 s30 s31 s32 s33 s34 s35 s36 s37 s38 s39 : Value} {I : Imm} {L : Own} (h : R (.returned s2) I L) : Q11_2 R .ret ⟨#[s0, s1, s2, s3, s4, s5, s6, s7, s8, s9, s10, s11, s12, s13, s14, s15, s16, s17, s18, s19, s20, s21, s22, s23, s24, s25, s26, s27, s28, s29, s30, s31, s32, s33, s34, s35, s36, s37, s38, s39], []⟩ I L :=
  Eq.mpr (by kernel_rfl) h
/-- 11: escritoire/types.Order -/
def M11 (R : Ending → Imm → Own → Prop) (x0 : Value) (I : Imm) (L : Own) : Prop :=
 bx Try.prog 26 x0 I L fun x1 I L =>
 al Try.prog 38 I L fun x3 I L =>
 ld Try.prog 26 x1 I L fun x6 I L =>
 blt Try.prog .len #[26] 3 #[x6] I L fun x7 I L =>
L11_0 R ⟨#[x0, x1, (.slice none 0 0), x3, undef, undef, x6, x7, (.int .i64 0), undef, undef, undef, undef, undef, undef, undef, undef, undef, undef, undef, undef, undef, undef, undef, undef, undef, undef, undef, undef, undef, undef, undef, undef, undef, undef, undef, undef, undef, undef, undef], []⟩ I L
theorem go11 {R : Ending → Imm → Own → Prop} {x0 : Value} {I : Imm} {L : Own} (h : M11 R x0 I L) : wpC Try.prog 11 #[x0] I L R :=
  wpC_go (fun p => if p = [0, 1, 0, 1, 1] then some (L11_0 R) else none) Try.func11 (by kernel_rfl) (O := (L11_0 R = L11_0 R) ∧ True) (by kernel_rfl) ⟨rfl, trivial⟩ (by kernel_rfl) h

def Q13_0 (R : Ending → Imm → Own → Prop) : Exit → Act → Imm → Own → Prop := (seqT (cdT Try.prog (cdIn Try.f13 [1, 1, 1]) (endT Try.prog Try.f13 R) (endX R)) (endT Try.prog Try.f13 R))
def D13_0 (R : Ending → Imm → Own → Prop) (a : Act) (I : Imm) (L : Own) : Prop := cdT Try.prog (cdIn Try.f13 [1, 1, 0]) (Q13_0 R) (endX R) a I L
def Q13_1 (R : Ending → Imm → Own → Prop) : Exit → Act → Imm → Own → Prop := (endT Try.prog Try.f13 R)
def J13_1 (R : Ending → Imm → Own → Prop) (a : Act) (I : Imm) (L : Own) : Prop := cdT Try.prog (cdIn Try.f13 [1, 1, 1]) (Q13_1 R) (endX R) a I L
def G13_0 (R : Ending → Imm → Own → Prop) (C : Cls) (s0 s1 s2 s3 s4 s5 s6 s7 s8 s9 s10 s11 s12 s13 s14 s15 s16 s17 : Value) (I : Imm) (L : Own) : Prop :=
 qblt Try.prog .len #[9] 3 #[s0] C fun x13 =>
 qcal Try.prog 21 #[] C fun x14 =>
 qbld Try.prog 48 #[(0, s4), (1, x13), (2, x14)] C fun x15 =>
 qld Try.prog 32 s5 C fun x17 =>
 bx Try.prog 48 x15 I L fun x16 I L =>
 (C I L ∧
 sto Try.prog 32 s3 x17 I L fun _ I L =>
J13_1 R ⟨#[s0, s1, x16, s3, s4, s5, s6, s7, s8, s9, s10, s4, s0, x13, x14, x15, x16, x17], []⟩ I L)
theorem draw13_0 {R : Ending → Imm → Own → Prop} {C : Cls} {s0 s1 s2 s3 s4 s5 s6 s7 s8 s9 s10 s11 s12 s13 s14 s15 s16 s17 : Value} {I : Imm} {L : Own} (hC : C I L) (h : G13_0 R C s0 s1 s2 s3 s4 s5 s6 s7 s8 s9 s10 s11 s12 s13 s14 s15 s16 s17 I L) : D13_0 R ⟨#[s0, s1, s2, s3, s4, s5, s6, s7, s8, s9, s10, s11, s12, s13, s14, s15, s16, s17], []⟩ I L :=
  draw_plan (ops := opsIn Try.f13 [1, 1, 0]) (id := 2) (Q := Q13_0 R) (X := (endX R)) (.take 0 (.take 1 (.take 2 (.take 3 (.take 4 (.take 6 (.all fun _ => (.take 7 (.all fun _ => .done))))))))) [8] (by kernel_rfl) rfl (by kernel_rfl) (by kernel_rfl) hC h
def T13_1 (R : Ending → Imm → Own → Prop) (s0 s1 s2 s3 s4 s5 s6 s7 s8 s9 s10 s11 s12 s13 s14 s15 s16 s17 : Value) (I : Imm) (L : Own) : Prop :=
 rcl Try.prog 32 s3 I L fun r1 =>
R (.returned (.tuple #[s2, r1])) I L
theorem join13_1 {R : Ending → Imm → Own → Prop} {s0 s1 s2 s3 s4 s5 s6 s7 s8 s9 s10 s11 s12 s13 s14 s15 s16 s17 : Value} {I : Imm} {L : Own} (h : T13_1 R s0 s1 s2 s3 s4 s5 s6 s7 s8 s9 s10 s11 s12 s13 s14 s15 s16 s17 I L) : J13_1 R ⟨#[s0, s1, s2, s3, s4, s5, s6, s7, s8, s9, s10, s11, s12, s13, s14, s15, s16, s17], []⟩ I L :=
  sh_cut (fun _ => none) (O := True) (by kernel_rfl) trivial (by kernel_rfl) h
/-- 13: escritoire/escritoireref.newEyes -/
def M13 (R : Ending → Imm → Own → Prop) (x0 : Value) (I : Imm) (L : Own) : Prop :=
 al Try.prog 32 I L fun x3 I L =>
 cal Try.prog 29 #[x0] I L (fun ch => (endX R) ch []) fun x8 I L =>
 ext Try.prog x8 0 I L fun x9 I L =>
 ext Try.prog x8 1 I L fun x10 I L =>
 al Try.prog 32 I L fun x5 I L =>
 sto Try.prog 32 x5 x10 I L fun _ I L =>
D13_0 R ⟨#[x0, undef, (.pointer none), x3, x9, x5, x8, x0, x8, x9, x10, undef, undef, undef, undef, undef, undef, undef], []⟩ I L
theorem go13 {R : Ending → Imm → Own → Prop} {x0 : Value} {I : Imm} {L : Own} (h : M13 R x0 I L) : wpC Try.prog 13 #[x0] I L R :=
  wpC_go (fun p => if p = [0, 1, 1] then some (D13_0 R) else none) Try.func13 (by kernel_rfl) (O := (D13_0 R = D13_0 R) ∧ True) (by kernel_rfl) ⟨rfl, trivial⟩ (by kernel_rfl) h

/-- 14: (*escritoire/escritoireref.eyes).stop -/
def M14 (R : Ending → Imm → Own → Prop) (x0 : Value) (I : Imm) (L : Own) : Prop :=
 nck Try.prog x0 I L fun x4 I L =>
 fad Try.prog 48 x4 2 I L fun x5 I L =>
 ld Try.prog 32 x5 I L fun x6 I L =>
 cal Try.prog 8 #[x6] I L (fun ch => (endX R) ch []) fun x7 I L =>
 un Try.prog .not x7 I L fun x8 I L =>
R (.returned x8) I L
theorem go14 {R : Ending → Imm → Own → Prop} {x0 : Value} {I : Imm} {L : Own} (h : M14 R x0 I L) : wpC Try.prog 14 #[x0] I L R :=
  wpC_go (fun _ => none) Try.func14 (by kernel_rfl) (O := True) (by kernel_rfl) trivial (by kernel_rfl) h

/-- 15: (*escritoire/escritoireref.eyes).text -/
def M15 (R : Ending → Imm → Own → Prop) (x0 : Value) (I : Imm) (L : Own) : Prop :=
 cal Try.prog 14 #[x0] I L (fun ch => (endX R) ch []) fun x4 I L =>
gd (yb (some x4) false) (fun k => k x0 I L) (fun x6 I L =>
gd (yb (some x4) false) (fun k => nck Try.prog x6 I L k) (fun x7 I L =>
gd (yb (some x4) false) (fun k => fad Try.prog 48 x7 0 I L k) (fun x8 I L =>
gd (yb (some x4) false) (fun k => ld Try.prog 46 x8 I L k) (fun x9 I L =>
gd (yb (some x4) false) (fun k => blt Try.prog .len #[46] 3 #[x9] I L k) (fun x10 I L =>
gd (yb (some x4) false) (fun k => eqn Try.prog .eql 3 false true x10 (.int .i64 0) I L k) (fun x11 I L =>
pck x4 (.bool true) x11 I L fun x12 I L =>
 cnd x12
 (R (.returned (S [])) I L)
 (nck Try.prog x0 I L fun x14 I L =>
 fad Try.prog 48 x14 0 I L fun x15 I L =>
 ld Try.prog 46 x15 I L fun x16 I L =>
 iad Try.prog 46 x16 (.int .i64 0) I L fun x17 I L =>
 fad Try.prog 67 x17 0 I L fun x18 I L =>
 ld Try.prog 9 x18 I L fun x19 I L =>
R (.returned x19) I L)) I L) I L) I L) I L) I L) I L
theorem go15 {R : Ending → Imm → Own → Prop} {x0 : Value} {I : Imm} {L : Own} (h : M15 R x0 I L) : wpC Try.prog 15 #[x0] I L R :=
  wpC_go (fun _ => none) Try.func15 (by kernel_rfl) (O := True) (by kernel_rfl) trivial (by kernel_rfl) h

/-- 16: (*escritoire/escritoireref.eyes).wrong -/
def M16 (R : Ending → Imm → Own → Prop) (x0 x1 x2 : Value) (I : Imm) (L : Own) : Prop :=
 cal Try.prog 14 #[x0] I L (fun ch => (endX R) ch []) fun x7 I L =>
 un Try.prog .not x7 I L fun x8 I L =>
 cnd x8
 (bld Try.prog 32 #[(0, x1), (1, x2)] I L fun x12 I L =>
 nck Try.prog x0 I L fun x13 I L =>
 fad Try.prog 48 x13 2 I L fun x14 I L =>
 sto Try.prog 32 x14 x12 I L fun _ I L =>
R (.returned (.tuple #[])) I L)
 (R (.returned (.tuple #[])) I L)
theorem go16 {R : Ending → Imm → Own → Prop} {x0 x1 x2 : Value} {I : Imm} {L : Own} (h : M16 R x0 x1 x2 I L) : wpC Try.prog 16 #[x0, x1, x2] I L R :=
  wpC_go (fun _ => none) Try.func16 (by kernel_rfl) (O := True) (by kernel_rfl) trivial (by kernel_rfl) h

/-- 17: (*escritoire/escritoireref.eyes).place -/
def M17 (R : Ending → Imm → Own → Prop) (x0 : Value) (I : Imm) (L : Own) : Prop :=
 nck Try.prog x0 I L fun x4 I L =>
 fad Try.prog 48 x4 0 I L fun x5 I L =>
 ld Try.prog 46 x5 I L fun x6 I L =>
 blt Try.prog .len #[46] 3 #[x6] I L fun x7 I L =>
 eqn Try.prog .eql 3 false true x7 (.int .i64 0) I L fun x8 I L =>
 cnd x8
 (nck Try.prog x0 I L fun x10 I L =>
 fad Try.prog 48 x10 1 I L fun x11 I L =>
 ld Try.prog 3 x11 I L fun x12 I L =>
R (.returned x12) I L)
 (nck Try.prog x0 I L fun x14 I L =>
 fad Try.prog 48 x14 0 I L fun x15 I L =>
 ld Try.prog 46 x15 I L fun x16 I L =>
 iad Try.prog 46 x16 (.int .i64 0) I L fun x17 I L =>
 fad Try.prog 67 x17 1 I L fun x18 I L =>
 ld Try.prog 3 x18 I L fun x19 I L =>
R (.returned x19) I L)
theorem go17 {R : Ending → Imm → Own → Prop} {x0 : Value} {I : Imm} {L : Own} (h : M17 R x0 I L) : wpC Try.prog 17 #[x0] I L R :=
  wpC_go (fun _ => none) Try.func17 (by kernel_rfl) (O := True) (by kernel_rfl) trivial (by kernel_rfl) h

/-- 18: (*escritoire/escritoireref.eyes).must -/
def M18 (R : Ending → Imm → Own → Prop) (x0 x1 : Value) (I : Imm) (L : Own) : Prop :=
 cal Try.prog 30 #[x0, x1] I L (fun ch => (endX R) ch []) fun x6 I L =>
 un Try.prog .not x6 I L fun x7 I L =>
 cnd x7
 (cal Try.prog 17 #[x0] I L (fun ch => (endX R) ch []) fun x10 I L =>
 cal Try.prog 16 #[x0, (.int .i64 3), x10] I L (fun ch => (endX R) ch []) fun _ I L =>
R (.returned (.tuple #[])) I L)
 (R (.returned (.tuple #[])) I L)
theorem go18 {R : Ending → Imm → Own → Prop} {x0 x1 : Value} {I : Imm} {L : Own} (h : M18 R x0 x1 I L) : wpC Try.prog 18 #[x0, x1] I L R :=
  wpC_go (fun _ => none) Try.func18 (by kernel_rfl) (O := True) (by kernel_rfl) trivial (by kernel_rfl) h

def Q19_0 (R : Ending → Imm → Own → Prop) : Exit → Act → Imm → Own → Prop := (endT Try.prog Try.f19 R)
def J19_0 (R : Ending → Imm → Own → Prop) (a : Act) (I : Imm) (L : Own) : Prop := cdT Try.prog (cdIn Try.f19 [1, 1, 1]) (Q19_0 R) (endX R) a I L
def T19_0 (R : Ending → Imm → Own → Prop) (s0 s1 s2 s3 s4 s5 s6 s7 s8 s9 s10 s11 s12 s13 s14 s15 s16 s17 s18 s19 s20 s21 s22 s23 s24 s25 s26 s27 s28 s29 s30 s31 s32 s33 s34 s35 s36 s37 : Value) (I : Imm) (L : Own) : Prop :=
 cal Try.prog 14 #[s0] I L (fun ch => (endX R) ch []) fun x33 I L =>
 un Try.prog .not x33 I L fun x34 I L =>
 cnd x34
 (cal Try.prog 34 #[s0] I L (fun ch => (endX R) ch []) fun _ I L =>
R (.returned s3) I L)
 (R (.returned s3) I L)
theorem join19_0 {R : Ending → Imm → Own → Prop} {s0 s1 s2 s3 s4 s5 s6 s7 s8 s9 s10 s11 s12 s13 s14 s15 s16 s17 s18 s19 s20 s21 s22 s23 s24 s25 s26 s27 s28 s29 s30 s31 s32 s33 s34 s35 s36 s37 : Value} {I : Imm} {L : Own} (h : T19_0 R s0 s1 s2 s3 s4 s5 s6 s7 s8 s9 s10 s11 s12 s13 s14 s15 s16 s17 s18 s19 s20 s21 s22 s23 s24 s25 s26 s27 s28 s29 s30 s31 s32 s33 s34 s35 s36 s37 I L) : J19_0 R ⟨#[s0, s1, s2, s3, s4, s5, s6, s7, s8, s9, s10, s11, s12, s13, s14, s15, s16, s17, s18, s19, s20, s21, s22, s23, s24, s25, s26, s27, s28, s29, s30, s31, s32, s33, s34, s35, s36, s37], []⟩ I L :=
  sh_cut (fun _ => none) (O := True) (by kernel_rfl) trivial (by kernel_rfl) h
/-- 19: (*escritoire/escritoireref.eyes).name -/
def M19 (R : Ending → Imm → Own → Prop) (x0 : Value) (I : Imm) (L : Own) : Prop :=
 cal Try.prog 15 #[x0] I L (fun ch => (endX R) ch []) fun x5 I L =>
 cal Try.prog 31 #[x5] I L (fun ch => (endX R) ch []) fun x8 I L =>
 un Try.prog .not x8 I L fun x9 I L =>
gd (yb (some x9) false) (fun k => k x5 I L) (fun x11 I L =>
gd (yb (some x9) false) (fun k => cal Try.prog 32 #[x11] I L (fun ch => (endX R) ch []) k) (fun x12 I L =>
pck x9 (.bool true) x12 I L fun x13 I L =>
gd (yb (some x13) false) (fun k => k x5 I L) (fun x15 I L =>
gd (yb (some x13) false) (fun k => bin Try.prog .add 9 (S [32]) x15 I L k) (fun x16 I L =>
gd (yb (some x13) false) (fun k => bin Try.prog .add 9 x16 (S [32]) I L k) (fun x17 I L =>
gd (yb (some x13) false) (fun k => cal Try.prog 33 #[(S [32, 115, 116, 114, 117, 99, 116, 32, 98, 121, 116, 101, 115, 32, 119, 104, 101, 110, 32, 115, 105, 122, 101, 32, 99, 111, 117, 110, 116, 32, 99, 104, 101, 99, 107, 32]), x17] I L (fun ch => (endX R) ch []) k) (fun x18 I L =>
pck x13 (.bool true) x18 I L fun x19 I L =>
 cnd x19
 (cal Try.prog 17 #[x0] I L (fun ch => (endX R) ch []) fun x22 I L =>
 cal Try.prog 16 #[x0, (.int .i64 3), x22] I L (fun ch => (endX R) ch []) fun x23 I L =>
J19_0 R ⟨#[x0, undef, (S []), x5, x0, x5, x19, x5, x8, x9, x9, x11, x12, x13, x13, x15, x16, x17, x18, x19, x0, x0, x22, x23, undef, undef, undef, undef, undef, undef, undef, undef, undef, undef, undef, undef, undef, undef], []⟩ I L)
 (blt Try.prog .len #[9] 3 #[x5] I L fun x26 I L =>
 bin Try.prog .gtr 3 x26 (.int .i64 12) I L fun x27 I L =>
 cnd x27
 (cal Try.prog 17 #[x0] I L (fun ch => (endX R) ch []) fun x30 I L =>
 cal Try.prog 16 #[x0, (.int .i64 4), x30] I L (fun ch => (endX R) ch []) fun x31 I L =>
J19_0 R ⟨#[x0, undef, (S []), x5, x0, x5, x19, x5, x8, x9, x9, x11, x12, x13, x13, x15, x16, x17, x18, x19, undef, undef, undef, undef, x27, x5, x26, x27, x0, x0, x30, x31, undef, undef, undef, undef, undef, undef], []⟩ I L)
 (J19_0 R ⟨#[x0, undef, (S []), x5, x0, x5, x19, x5, x8, x9, x9, x11, x12, x13, x13, x15, x16, x17, x18, x19, undef, undef, undef, undef, x27, x5, x26, x27, undef, undef, undef, undef, undef, undef, undef, undef, undef, undef], []⟩ I L))) I L) I L) I L) I L) I L) I L
theorem go19 {R : Ending → Imm → Own → Prop} {x0 : Value} {I : Imm} {L : Own} (h : M19 R x0 I L) : wpC Try.prog 19 #[x0] I L R :=
  wpC_go (fun p => if p = [1, 1, 1] then some (J19_0 R) else none) Try.func19 (by kernel_rfl) (O := (J19_0 R = J19_0 R) ∧ True) (by kernel_rfl) ⟨rfl, trivial⟩ (by kernel_rfl) h
end Go.Proofs.Ytkclodaplbalfaa
