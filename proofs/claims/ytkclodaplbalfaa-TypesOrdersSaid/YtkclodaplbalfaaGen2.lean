/- The shallow forms of the functions, printed by a program of this claim's writer out of the loaded translation, each checked by the kernel. Conditions: none. -/
import Derived.Test.YtkclodaplbalfaaSl
import Derived.Test.YtkclodaplbalfaaProg
set_option linter.unusedVariables false
set_option maxRecDepth 100000
namespace Go.Proofs.Ytkclodaplbalfaa
open Go Sl

def Q12_0 (R : Ending → Imm → Own → Prop) : Exit → Act → Imm → Own → Prop := (blkT 0 (seqT (cdT Try.prog (cdIn Try.f12 [1, 1, 1, 1]) (endT Try.prog Try.f12 R) (endX R)) (endT Try.prog Try.f12 R)))
def L12_0 (R : Ending → Imm → Own → Prop) (a : Act) (I : Imm) (L : Own) : Prop := cdT Try.prog (cdIn Try.f12 [1, 1, 1, 0, 1, 0]) (Q12_0 R) (endX R) a I L
def Q12_1 (R : Ending → Imm → Own → Prop) : Exit → Act → Imm → Own → Prop := (endT Try.prog Try.f12 R)
def J12_1 (R : Ending → Imm → Own → Prop) (a : Act) (I : Imm) (L : Own) : Prop := cdT Try.prog (cdIn Try.f12 [1, 1, 1, 1]) (Q12_1 R) (endX R) a I L
def Q12_2 (R : Ending → Imm → Own → Prop) : Exit → Act → Imm → Own → Prop := (blkT 2 (seqT (cdT Try.prog (cdIn Try.f12 [1, 1, 1, 1, 1]) (Q12_1 R) (endX R)) (Q12_1 R)))
def L12_2 (R : Ending → Imm → Own → Prop) (a : Act) (I : Imm) (L : Own) : Prop := cdT Try.prog (cdIn Try.f12 [1, 1, 1, 1, 0, 1, 0]) (Q12_2 R) (endX R) a I L
def Q12_3 (N : Act → Imm → Own → Prop) (Q : Exit → Act → Imm → Own → Prop) (X : XT) : Exit → Act → Imm → Own → Prop := (blkT 4 (blkT 3 (seqT N Q)))
def L12_3 (N : Act → Imm → Own → Prop) (Q : Exit → Act → Imm → Own → Prop) (X : XT) (a : Act) (I : Imm) (L : Own) : Prop := cdT Try.prog (cdIn Try.f12 [1, 1, 1, 1, 0, 1, 0, 0, 1, 0, 1, 1, 0]) (Q12_3 N Q X) X a I L
def Q12_4 (R : Ending → Imm → Own → Prop) : Exit → Act → Imm → Own → Prop := (Q12_1 R)
def J12_4 (R : Ending → Imm → Own → Prop) (a : Act) (I : Imm) (L : Own) : Prop := cdT Try.prog (cdIn Try.f12 [1, 1, 1, 1, 1]) (Q12_4 R) (endX R) a I L
def Q12_5 (N : Act → Imm → Own → Prop) (Q : Exit → Act → Imm → Own → Prop) (X : XT) : Exit → Act → Imm → Own → Prop := (blkT 6 (seqT (cdT Try.prog (cdIn Try.f12 [1, 1, 1, 1, 0, 1, 0, 0, 1, 0, 1, 1, 0, 0, 1, 1, 0, 0, 1, 1, 1]) (blkT 5 (seqT (cdT Try.prog (cdIn Try.f12 [1, 1, 1, 1, 0, 1, 0, 0, 1, 0, 1, 1, 0, 0, 1, 1, 1]) (seqT N Q) X) (seqT N Q))) X) (blkT 5 (seqT (cdT Try.prog (cdIn Try.f12 [1, 1, 1, 1, 0, 1, 0, 0, 1, 0, 1, 1, 0, 0, 1, 1, 1]) (seqT N Q) X) (seqT N Q)))))
def L12_5 (N : Act → Imm → Own → Prop) (Q : Exit → Act → Imm → Own → Prop) (X : XT) (a : Act) (I : Imm) (L : Own) : Prop := cdT Try.prog (cdIn Try.f12 [1, 1, 1, 1, 0, 1, 0, 0, 1, 0, 1, 1, 0, 0, 1, 1, 0, 0, 1, 1, 0, 1, 0, 1, 0]) (Q12_5 N Q X) X a I L
def Q12_6 (N : Act → Imm → Own → Prop) (Q : Exit → Act → Imm → Own → Prop) (X : XT) : Exit → Act → Imm → Own → Prop := (blkT 5 (seqT (cdT Try.prog (cdIn Try.f12 [1, 1, 1, 1, 0, 1, 0, 0, 1, 0, 1, 1, 0, 0, 1, 1, 1]) (seqT N Q) X) (seqT N Q)))
def J12_6 (N : Act → Imm → Own → Prop) (Q : Exit → Act → Imm → Own → Prop) (X : XT) (a : Act) (I : Imm) (L : Own) : Prop := cdT Try.prog (cdIn Try.f12 [1, 1, 1, 1, 0, 1, 0, 0, 1, 0, 1, 1, 0, 0, 1, 1, 0, 0, 1, 1, 1]) (Q12_6 N Q X) X a I L
def Q12_7 (N : Act → Imm → Own → Prop) (Q : Exit → Act → Imm → Own → Prop) (X : XT) : Exit → Act → Imm → Own → Prop := (seqT N Q)
def J12_7 (N : Act → Imm → Own → Prop) (Q : Exit → Act → Imm → Own → Prop) (X : XT) (a : Act) (I : Imm) (L : Own) : Prop := cdT Try.prog (cdIn Try.f12 [1, 1, 1, 1, 0, 1, 0, 0, 1, 0, 1, 1, 0, 0, 1, 1, 1]) (Q12_7 N Q X) X a I L
/-- loop 12_0: what changes: 3 16; beside: 5 6 17 18 19 20 21 22 23 24 25 26 27 28 29 30 31 32 33 -/
def B12_0 (N : Act → Imm → Own → Prop) (Q : Exit → Act → Imm → Own → Prop) (X : XT) (s0 s1 s2 s3 s4 s5 s6 s7 s8 s9 s10 s11 s12 s13 s14 s15 s16 s17 s18 s19 s20 s21 s22 s23 s24 s25 s26 s27 s28 s29 s30 s31 s32 s33 s34 s35 s36 s37 s38 s39 s40 s41 s42 s43 s44 s45 s46 s47 s48 s49 s50 s51 s52 s53 s54 s55 s56 s57 s58 s59 s60 s61 s62 s63 s64 s65 s66 s67 s68 s69 s70 s71 s72 s73 s74 s75 : Value) (I : Imm) (L : Own) : Prop :=
 bin Try.prog .lss 3 s16 s15 I L fun x17 I L =>
 cnd x17
 (iad Try.prog 26 s14 s16 I L fun x19 I L =>
 ld Try.prog 42 x19 I L fun x20 I L =>
 al Try.prog 42 I L fun x6 I L =>
 sto Try.prog 42 x6 x20 I L fun _ I L =>
 fad Try.prog 42 x6 9 I L fun x21 I L =>
 ld Try.prog 3 x21 I L fun x22 I L =>
 eqn Try.prog .eql 3 false true x22 (.int .i64 1) I L fun x23 I L =>
gd (yb (some x23) false) (fun k => fad Try.prog 42 x6 9 I L k) (fun x25 I L =>
gd (yb (some x23) false) (fun k => ld Try.prog 3 x25 I L k) (fun x26 I L =>
gd (yb (some x23) false) (fun k => eqn Try.prog .eql 3 false true x26 (.int .i64 2) I L k) (fun x27 I L =>
pck x23 (.bool true) x27 I L fun x28 I L =>
 cnd x28
 (bsl Try.prog 38 1 #[(0, s16)] I L fun x31 I L =>
 blt Try.prog .append #[38, 38] 38 #[s3, x31] I L fun x32 I L =>
 bin Try.prog .add 3 s16 (.int .i64 1) I L fun x33 I L =>
N ⟨#[s0, s1, s2, x32, s4, s16, x6, s7, s8, s9, s10, s11, s12, s13, s14, s15, x33, x17, s16, x19, x20, x21, x22, x23, x23, x25, x26, x27, x28, s3, s16, x31, x32, x33, s34, s35, s36, s37, s38, s39, s40, s41, s42, s43, s44, s45, s46, s47, s48, s49, s50, s51, s52, s53, s54, s55, s56, s57, s58, s59, s60, s61, s62, s63, s64, s65, s66, s67, s68, s69, s70, s71, s72, s73, s74, s75], []⟩ I L)
 (bin Try.prog .add 3 s16 (.int .i64 1) I L fun x33 I L =>
N ⟨#[s0, s1, s2, s3, s4, s16, x6, s7, s8, s9, s10, s11, s12, s13, s14, s15, x33, x17, s16, x19, x20, x21, x22, x23, x23, x25, x26, x27, x28, s29, s30, s31, s32, x33, s34, s35, s36, s37, s38, s39, s40, s41, s42, s43, s44, s45, s46, s47, s48, s49, s50, s51, s52, s53, s54, s55, s56, s57, s58, s59, s60, s61, s62, s63, s64, s65, s66, s67, s68, s69, s70, s71, s72, s73, s74, s75], []⟩ I L)) I L) I L) I L)
 (Q (.exit 0) ⟨#[s0, s1, s2, s3, s4, s5, s6, s7, s8, s9, s10, s11, s12, s13, s14, s15, s16, x17, s18, s19, s20, s21, s22, s23, s24, s25, s26, s27, s28, s29, s30, s31, s32, s33, s34, s35, s36, s37, s38, s39, s40, s41, s42, s43, s44, s45, s46, s47, s48, s49, s50, s51, s52, s53, s54, s55, s56, s57, s58, s59, s60, s61, s62, s63, s64, s65, s66, s67, s68, s69, s70, s71, s72, s73, s74, s75], []⟩ I L)
theorem round12_0 {N : Act → Imm → Own → Prop} {Q : Exit → Act → Imm → Own → Prop} {X : XT} {s0 s1 s2 s3 s4 s5 s6 s7 s8 s9 s10 s11 s12 s13 s14 s15 s16 s17 s18 s19 s20 s21 s22 s23 s24 s25 s26 s27 s28 s29 s30 s31 s32 s33 s34 s35 s36 s37 s38 s39 s40 s41 s42 s43 s44 s45 s46 s47 s48 s49 s50 s51 s52 s53 s54 s55 s56 s57 s58 s59 s60 s61 s62 s63 s64 s65 s66 s67 s68 s69 s70 s71 s72 s73 s74 s75 : Value} {I : Imm} {L : Own} (h : B12_0 N Q X s0 s1 s2 s3 s4 s5 s6 s7 s8 s9 s10 s11 s12 s13 s14 s15 s16 s17 s18 s19 s20 s21 s22 s23 s24 s25 s26 s27 s28 s29 s30 s31 s32 s33 s34 s35 s36 s37 s38 s39 s40 s41 s42 s43 s44 s45 s46 s47 s48 s49 s50 s51 s52 s53 s54 s55 s56 s57 s58 s59 s60 s61 s62 s63 s64 s65 s66 s67 s68 s69 s70 s71 s72 s73 s74 s75 I L) : cdT Try.prog (cdIn Try.f12 [1, 1, 1, 0, 1, 0, 0]) (seqT N Q) X ⟨#[s0, s1, s2, s3, s4, s5, s6, s7, s8, s9, s10, s11, s12, s13, s14, s15, s16, s17, s18, s19, s20, s21, s22, s23, s24, s25, s26, s27, s28, s29, s30, s31, s32, s33, s34, s35, s36, s37, s38, s39, s40, s41, s42, s43, s44, s45, s46, s47, s48, s49, s50, s51, s52, s53, s54, s55, s56, s57, s58, s59, s60, s61, s62, s63, s64, s65, s66, s67, s68, s69, s70, s71, s72, s73, s74, s75], []⟩ I L :=
  sh_cut (fun _ => none) (O := True) (by kernel_rfl) trivial (by kernel_rfl) h
theorem loop12_0 {R : Ending → Imm → Own → Prop} {s0 s1 s2 s4 s7 s8 s9 s10 s11 s12 s13 s14 s15 s34 s35 s36 s37 s38 s39 s40 s41 s42 s43 s44 s45 s46 s47 s48 s49 s50 s51 s52 s53 s54 s55 s56 s57 s58 s59 s60 s61 s62 s63 s64 s65 s66 s67 s68 s69 s70 s71 s72 s73 s74 s75 : Value} {x3 x16 u5 u6 u17 u18 u19 u20 u21 u22 u23 u24 u25 u26 u27 u28 u29 u30 u31 u32 u33 : Value} {I : Imm} {L : Own} (Inv : Nat → Value → Value → Imm → Own → Prop) {n : Nat} (h : Inv n x3 x16 I L)
  (round : ∀ (n : Nat) (x3 x16 : Value) (I' : Imm) (L' : Own), I.Le I' → Inv n x3 x16 I' L' → ∀ (N' : Act → Imm → Own → Prop), (∀ (m : Nat) {y3 y16 w5 w6 w17 w18 w19 w20 w21 w22 w23 w24 w25 w26 w27 w28 w29 w30 w31 w32 w33 : Value} {I : Imm} {L : Own}, m < n → Inv m y3 y16 I L → N' ⟨#[s0, s1, s2, y3, s4, w5, w6, s7, s8, s9, s10, s11, s12, s13, s14, s15, y16, w17, w18, w19, w20, w21, w22, w23, w24, w25, w26, w27, w28, w29, w30, w31, w32, w33, s34, s35, s36, s37, s38, s39, s40, s41, s42, s43, s44, s45, s46, s47, s48, s49, s50, s51, s52, s53, s54, s55, s56, s57, s58, s59, s60, s61, s62, s63, s64, s65, s66, s67, s68, s69, s70, s71, s72, s73, s74, s75], []⟩ I L) → ∀ (u : Nat → Value), B12_0 N' (Q12_0 R) (endX R) s0 s1 s2 x3 s4 (u 5) (u 6) s7 s8 s9 s10 s11 s12 s13 s14 s15 x16 (u 17) (u 18) (u 19) (u 20) (u 21) (u 22) (u 23) (u 24) (u 25) (u 26) (u 27) (u 28) (u 29) (u 30) (u 31) (u 32) (u 33) s34 s35 s36 s37 s38 s39 s40 s41 s42 s43 s44 s45 s46 s47 s48 s49 s50 s51 s52 s53 s54 s55 s56 s57 s58 s59 s60 s61 s62 s63 s64 s65 s66 s67 s68 s69 s70 s71 s72 s73 s74 s75 I' L') : L12_0 R ⟨#[s0, s1, s2, x3, s4, u5, u6, s7, s8, s9, s10, s11, s12, s13, s14, s15, x16, u17, u18, u19, u20, u21, u22, u23, u24, u25, u26, u27, u28, u29, u30, u31, u32, u33, s34, s35, s36, s37, s38, s39, s40, s41, s42, s43, s44, s45, s46, s47, s48, s49, s50, s51, s52, s53, s54, s55, s56, s57, s58, s59, s60, s61, s62, s63, s64, s65, s66, s67, s68, s69, s70, s71, s72, s73, s74, s75], []⟩ I L :=
  loop_gen (by kernel_rfl) (fun n a I L => ∃ (x3 x16 : Value) (u : Nat → Value), a = (⟨#[s0, s1, s2, x3, s4, u 5, u 6, s7, s8, s9, s10, s11, s12, s13, s14, s15, x16, u 17, u 18, u 19, u 20, u 21, u 22, u 23, u 24, u 25, u 26, u 27, u 28, u 29, u 30, u 31, u 32, u 33, s34, s35, s36, s37, s38, s39, s40, s41, s42, s43, s44, s45, s46, s47, s48, s49, s50, s51, s52, s53, s54, s55, s56, s57, s58, s59, s60, s61, s62, s63, s64, s65, s66, s67, s68, s69, s70, s71, s72, s73, s74, s75], []⟩ : Act) ∧ Inv n x3 x16 I L) ⟨x3, x16, (fun i => (Act.tmps ⟨#[s0, s1, s2, x3, s4, u5, u6, s7, s8, s9, s10, s11, s12, s13, s14, s15, x16, u17, u18, u19, u20, u21, u22, u23, u24, u25, u26, u27, u28, u29, u30, u31, u32, u33, s34, s35, s36, s37, s38, s39, s40, s41, s42, s43, s44, s45, s46, s47, s48, s49, s50, s51, s52, s53, s54, s55, s56, s57, s58, s59, s60, s61, s62, s63, s64, s65, s66, s67, s68, s69, s70, s71, s72, s73, s74, s75], []⟩).getD i undef), (by kernel_rfl), h⟩
    (fun n a I' L' hle ⟨x3, x16, u, e, hi⟩ => e ▸ round12_0 (round n x3 x16 I' L' hle hi (fun a I L => ∃ m, m < n ∧ (fun n a I L => ∃ (x3 x16 : Value) (u : Nat → Value), a = (⟨#[s0, s1, s2, x3, s4, u 5, u 6, s7, s8, s9, s10, s11, s12, s13, s14, s15, x16, u 17, u 18, u 19, u 20, u 21, u 22, u 23, u 24, u 25, u 26, u 27, u 28, u 29, u 30, u 31, u 32, u 33, s34, s35, s36, s37, s38, s39, s40, s41, s42, s43, s44, s45, s46, s47, s48, s49, s50, s51, s52, s53, s54, s55, s56, s57, s58, s59, s60, s61, s62, s63, s64, s65, s66, s67, s68, s69, s70, s71, s72, s73, s74, s75], []⟩ : Act) ∧ Inv n x3 x16 I L) m a I L) (fun m => fun {y3 y16 w5 w6 w17 w18 w19 w20 w21 w22 w23 w24 w25 w26 w27 w28 w29 w30 w31 w32 w33 I L} hm hi => ⟨m, hm, y3, y16, (fun i => (Act.tmps ⟨#[s0, s1, s2, y3, s4, w5, w6, s7, s8, s9, s10, s11, s12, s13, s14, s15, y16, w17, w18, w19, w20, w21, w22, w23, w24, w25, w26, w27, w28, w29, w30, w31, w32, w33, s34, s35, s36, s37, s38, s39, s40, s41, s42, s43, s44, s45, s46, s47, s48, s49, s50, s51, s52, s53, s54, s55, s56, s57, s58, s59, s60, s61, s62, s63, s64, s65, s66, s67, s68, s69, s70, s71, s72, s73, s74, s75], []⟩).getD i undef), (by kernel_rfl), hi⟩) u))
theorem out12_0x0 {R : Ending → Imm → Own → Prop} {s0 s1 s2 s3 s4 s5 s6 s7 s8 s9 s10 s11 s12 s13 s14 s15 s16 s17 s18 s19 s20 s21 s22 s23 s24 s25 s26 s27 s28 s29 s30 s31 s32 s33 s34 s35 s36 s37 s38 s39 s40 s41 s42 s43 s44 s45 s46 s47 s48 s49 s50 s51 s52 s53 s54 s55 s56 s57 s58 s59 s60 s61 s62 s63 s64 s65 s66 s67 s68 s69 s70 s71 s72 s73 s74 s75 : Value} {I : Imm} {L : Own} (h : J12_1 R ⟨#[s0, s1, s2, s3, s4, s5, s6, s7, s8, s9, s10, s11, s12, s13, s14, s15, s16, s17, s18, s19, s20, s21, s22, s23, s24, s25, s26, s27, s28, s29, s30, s31, s32, s33, s34, s35, s36, s37, s38, s39, s40, s41, s42, s43, s44, s45, s46, s47, s48, s49, s50, s51, s52, s53, s54, s55, s56, s57, s58, s59, s60, s61, s62, s63, s64, s65, s66, s67, s68, s69, s70, s71, s72, s73, s74, s75], []⟩ I L) : Q12_0 R (.exit 0) ⟨#[s0, s1, s2, s3, s4, s5, s6, s7, s8, s9, s10, s11, s12, s13, s14, s15, s16, s17, s18, s19, s20, s21, s22, s23, s24, s25, s26, s27, s28, s29, s30, s31, s32, s33, s34, s35, s36, s37, s38, s39, s40, s41, s42, s43, s44, s45, s46, s47, s48, s49, s50, s51, s52, s53, s54, s55, s56, s57, s58, s59, s60, s61, s62, s63, s64, s65, s66, s67, s68, s69, s70, s71, s72, s73, s74, s75], []⟩ I L :=
  Eq.mpr (by kernel_rfl) h
def T12_1 (R : Ending → Imm → Own → Prop) (s0 s1 s2 s3 s4 s5 s6 s7 s8 s9 s10 s11 s12 s13 s14 s15 s16 s17 s18 s19 s20 s21 s22 s23 s24 s25 s26 s27 s28 s29 s30 s31 s32 s33 s34 s35 s36 s37 s38 s39 s40 s41 s42 s43 s44 s45 s46 s47 s48 s49 s50 s51 s52 s53 s54 s55 s56 s57 s58 s59 s60 s61 s62 s63 s64 s65 s66 s67 s68 s69 s70 s71 s72 s73 s74 s75 : Value) (I : Imm) (L : Own) : Prop :=
L12_2 R ⟨#[s0, s1, s2, s3, s4, s5, s6, (.bool true), s8, s9, s10, s11, s12, s13, s14, s15, s16, s17, s18, s19, s20, s21, s22, s23, s24, s25, s26, s27, s28, s29, s30, s31, s32, s33, s34, s35, s36, s37, s38, s39, s40, s41, s42, s43, s44, s45, s46, s47, s48, s49, s50, s51, s52, s53, s54, s55, s56, s57, s58, s59, s60, s61, s62, s63, s64, s65, s66, s67, s68, s69, s70, s71, s72, s73, s74, s75], []⟩ I L
theorem join12_1 {R : Ending → Imm → Own → Prop} {s0 s1 s2 s3 s4 s5 s6 s7 s8 s9 s10 s11 s12 s13 s14 s15 s16 s17 s18 s19 s20 s21 s22 s23 s24 s25 s26 s27 s28 s29 s30 s31 s32 s33 s34 s35 s36 s37 s38 s39 s40 s41 s42 s43 s44 s45 s46 s47 s48 s49 s50 s51 s52 s53 s54 s55 s56 s57 s58 s59 s60 s61 s62 s63 s64 s65 s66 s67 s68 s69 s70 s71 s72 s73 s74 s75 : Value} {I : Imm} {L : Own} (h : T12_1 R s0 s1 s2 s3 s4 s5 s6 s7 s8 s9 s10 s11 s12 s13 s14 s15 s16 s17 s18 s19 s20 s21 s22 s23 s24 s25 s26 s27 s28 s29 s30 s31 s32 s33 s34 s35 s36 s37 s38 s39 s40 s41 s42 s43 s44 s45 s46 s47 s48 s49 s50 s51 s52 s53 s54 s55 s56 s57 s58 s59 s60 s61 s62 s63 s64 s65 s66 s67 s68 s69 s70 s71 s72 s73 s74 s75 I L) : J12_1 R ⟨#[s0, s1, s2, s3, s4, s5, s6, s7, s8, s9, s10, s11, s12, s13, s14, s15, s16, s17, s18, s19, s20, s21, s22, s23, s24, s25, s26, s27, s28, s29, s30, s31, s32, s33, s34, s35, s36, s37, s38, s39, s40, s41, s42, s43, s44, s45, s46, s47, s48, s49, s50, s51, s52, s53, s54, s55, s56, s57, s58, s59, s60, s61, s62, s63, s64, s65, s66, s67, s68, s69, s70, s71, s72, s73, s74, s75], []⟩ I L :=
  sh_cut (fun p => if p = [0, 1, 0] then some (L12_2 R) else none) (O := (L12_2 R = L12_2 R) ∧ True) (by kernel_rfl) ⟨rfl, trivial⟩ (by kernel_rfl) h
/-- loop 12_2: what changes: 3 7; beside: 8 9 10 12 34 35 36 37 38 39 40 41 42 43 44 45 46 47 48 49 50 51 52 53 54 55 56 57 58 59 60 61 62 63 64 65 66 67 68 69 70 71 72 73 74 -/
def B12_2 (N : Act → Imm → Own → Prop) (Q : Exit → Act → Imm → Own → Prop) (X : XT) (s0 s1 s2 s3 s4 s5 s6 s7 s8 s9 s10 s11 s12 s13 s14 s15 s16 s17 s18 s19 s20 s21 s22 s23 s24 s25 s26 s27 s28 s29 s30 s31 s32 s33 s34 s35 s36 s37 s38 s39 s40 s41 s42 s43 s44 s45 s46 s47 s48 s49 s50 s51 s52 s53 s54 s55 s56 s57 s58 s59 s60 s61 s62 s63 s64 s65 s66 s67 s68 s69 s70 s71 s72 s73 s74 s75 : Value) (I : Imm) (L : Own) : Prop :=
 cnd s7
 (blt Try.prog .len #[26] 3 #[s0] I L fun x36 I L =>
L12_3 N Q X ⟨#[s0, s1, s2, s3, s4, s5, s6, (.bool false), s8, s9, s10, s11, s12, s13, s14, s15, s16, s17, s18, s19, s20, s21, s22, s23, s24, s25, s26, s27, s28, s29, s30, s31, s32, s33, s7, s0, x36, (.int .i64 0), s38, s39, s40, s41, s42, s43, s44, s45, s46, s47, s48, s49, s50, s51, s52, s53, s54, s55, s56, s57, s58, s59, s60, s61, s62, s63, s64, s65, s66, s67, s68, s69, s70, s71, s72, s73, s74, s75], []⟩ I L)
 (Q (.exit 2) ⟨#[s0, s1, s2, s3, s4, s5, s6, s7, s8, s9, s10, s11, s12, s13, s14, s15, s16, s17, s18, s19, s20, s21, s22, s23, s24, s25, s26, s27, s28, s29, s30, s31, s32, s33, s7, s35, s36, s37, s38, s39, s40, s41, s42, s43, s44, s45, s46, s47, s48, s49, s50, s51, s52, s53, s54, s55, s56, s57, s58, s59, s60, s61, s62, s63, s64, s65, s66, s67, s68, s69, s70, s71, s72, s73, s74, s75], []⟩ I L)
theorem round12_2 {N : Act → Imm → Own → Prop} {Q : Exit → Act → Imm → Own → Prop} {X : XT} {s0 s1 s2 s3 s4 s5 s6 s7 s8 s9 s10 s11 s12 s13 s14 s15 s16 s17 s18 s19 s20 s21 s22 s23 s24 s25 s26 s27 s28 s29 s30 s31 s32 s33 s34 s35 s36 s37 s38 s39 s40 s41 s42 s43 s44 s45 s46 s47 s48 s49 s50 s51 s52 s53 s54 s55 s56 s57 s58 s59 s60 s61 s62 s63 s64 s65 s66 s67 s68 s69 s70 s71 s72 s73 s74 s75 : Value} {I : Imm} {L : Own} (h : B12_2 N Q X s0 s1 s2 s3 s4 s5 s6 s7 s8 s9 s10 s11 s12 s13 s14 s15 s16 s17 s18 s19 s20 s21 s22 s23 s24 s25 s26 s27 s28 s29 s30 s31 s32 s33 s34 s35 s36 s37 s38 s39 s40 s41 s42 s43 s44 s45 s46 s47 s48 s49 s50 s51 s52 s53 s54 s55 s56 s57 s58 s59 s60 s61 s62 s63 s64 s65 s66 s67 s68 s69 s70 s71 s72 s73 s74 s75 I L) : cdT Try.prog (cdIn Try.f12 [1, 1, 1, 1, 0, 1, 0, 0]) (seqT N Q) X ⟨#[s0, s1, s2, s3, s4, s5, s6, s7, s8, s9, s10, s11, s12, s13, s14, s15, s16, s17, s18, s19, s20, s21, s22, s23, s24, s25, s26, s27, s28, s29, s30, s31, s32, s33, s34, s35, s36, s37, s38, s39, s40, s41, s42, s43, s44, s45, s46, s47, s48, s49, s50, s51, s52, s53, s54, s55, s56, s57, s58, s59, s60, s61, s62, s63, s64, s65, s66, s67, s68, s69, s70, s71, s72, s73, s74, s75], []⟩ I L :=
  sh_cut (fun p => if p = [0, 1, 1, 0, 1] then some (L12_3 N Q X) else none) (O := (L12_3 N Q X = L12_3 N Q X) ∧ True) (by kernel_rfl) ⟨rfl, trivial⟩ (by kernel_rfl) h
theorem loop12_2 {R : Ending → Imm → Own → Prop} {s0 s1 s2 s4 s5 s6 s11 s13 s14 s15 s16 s17 s18 s19 s20 s21 s22 s23 s24 s25 s26 s27 s28 s29 s30 s31 s32 s33 s75 : Value} {x3 x7 u8 u9 u10 u12 u34 u35 u36 u37 u38 u39 u40 u41 u42 u43 u44 u45 u46 u47 u48 u49 u50 u51 u52 u53 u54 u55 u56 u57 u58 u59 u60 u61 u62 u63 u64 u65 u66 u67 u68 u69 u70 u71 u72 u73 u74 : Value} {I : Imm} {L : Own} (Inv : Nat → Value → Value → Imm → Own → Prop) {n : Nat} (h : Inv n x3 x7 I L)
  (round : ∀ (n : Nat) (x3 x7 : Value) (I' : Imm) (L' : Own), I.Le I' → Inv n x3 x7 I' L' → ∀ (N' : Act → Imm → Own → Prop), (∀ (m : Nat) {y3 y7 w8 w9 w10 w12 w34 w35 w36 w37 w38 w39 w40 w41 w42 w43 w44 w45 w46 w47 w48 w49 w50 w51 w52 w53 w54 w55 w56 w57 w58 w59 w60 w61 w62 w63 w64 w65 w66 w67 w68 w69 w70 w71 w72 w73 w74 : Value} {I : Imm} {L : Own}, m < n → Inv m y3 y7 I L → N' ⟨#[s0, s1, s2, y3, s4, s5, s6, y7, w8, w9, w10, s11, w12, s13, s14, s15, s16, s17, s18, s19, s20, s21, s22, s23, s24, s25, s26, s27, s28, s29, s30, s31, s32, s33, w34, w35, w36, w37, w38, w39, w40, w41, w42, w43, w44, w45, w46, w47, w48, w49, w50, w51, w52, w53, w54, w55, w56, w57, w58, w59, w60, w61, w62, w63, w64, w65, w66, w67, w68, w69, w70, w71, w72, w73, w74, s75], []⟩ I L) → ∀ (u : Nat → Value), B12_2 N' (Q12_2 R) (endX R) s0 s1 s2 x3 s4 s5 s6 x7 (u 8) (u 9) (u 10) s11 (u 12) s13 s14 s15 s16 s17 s18 s19 s20 s21 s22 s23 s24 s25 s26 s27 s28 s29 s30 s31 s32 s33 (u 34) (u 35) (u 36) (u 37) (u 38) (u 39) (u 40) (u 41) (u 42) (u 43) (u 44) (u 45) (u 46) (u 47) (u 48) (u 49) (u 50) (u 51) (u 52) (u 53) (u 54) (u 55) (u 56) (u 57) (u 58) (u 59) (u 60) (u 61) (u 62) (u 63) (u 64) (u 65) (u 66) (u 67) (u 68) (u 69) (u 70) (u 71) (u 72) (u 73) (u 74) s75 I' L') : L12_2 R ⟨#[s0, s1, s2, x3, s4, s5, s6, x7, u8, u9, u10, s11, u12, s13, s14, s15, s16, s17, s18, s19, s20, s21, s22, s23, s24, s25, s26, s27, s28, s29, s30, s31, s32, s33, u34, u35, u36, u37, u38, u39, u40, u41, u42, u43, u44, u45, u46, u47, u48, u49, u50, u51, u52, u53, u54, u55, u56, u57, u58, u59, u60, u61, u62, u63, u64, u65, u66, u67, u68, u69, u70, u71, u72, u73, u74, s75], []⟩ I L :=
  loop_gen (by kernel_rfl) (fun n a I L => ∃ (x3 x7 : Value) (u : Nat → Value), a = (⟨#[s0, s1, s2, x3, s4, s5, s6, x7, u 8, u 9, u 10, s11, u 12, s13, s14, s15, s16, s17, s18, s19, s20, s21, s22, s23, s24, s25, s26, s27, s28, s29, s30, s31, s32, s33, u 34, u 35, u 36, u 37, u 38, u 39, u 40, u 41, u 42, u 43, u 44, u 45, u 46, u 47, u 48, u 49, u 50, u 51, u 52, u 53, u 54, u 55, u 56, u 57, u 58, u 59, u 60, u 61, u 62, u 63, u 64, u 65, u 66, u 67, u 68, u 69, u 70, u 71, u 72, u 73, u 74, s75], []⟩ : Act) ∧ Inv n x3 x7 I L) ⟨x3, x7, (fun i => (Act.tmps ⟨#[s0, s1, s2, x3, s4, s5, s6, x7, u8, u9, u10, s11, u12, s13, s14, s15, s16, s17, s18, s19, s20, s21, s22, s23, s24, s25, s26, s27, s28, s29, s30, s31, s32, s33, u34, u35, u36, u37, u38, u39, u40, u41, u42, u43, u44, u45, u46, u47, u48, u49, u50, u51, u52, u53, u54, u55, u56, u57, u58, u59, u60, u61, u62, u63, u64, u65, u66, u67, u68, u69, u70, u71, u72, u73, u74, s75], []⟩).getD i undef), (by kernel_rfl), h⟩
    (fun n a I' L' hle ⟨x3, x7, u, e, hi⟩ => e ▸ round12_2 (round n x3 x7 I' L' hle hi (fun a I L => ∃ m, m < n ∧ (fun n a I L => ∃ (x3 x7 : Value) (u : Nat → Value), a = (⟨#[s0, s1, s2, x3, s4, s5, s6, x7, u 8, u 9, u 10, s11, u 12, s13, s14, s15, s16, s17, s18, s19, s20, s21, s22, s23, s24, s25, s26, s27, s28, s29, s30, s31, s32, s33, u 34, u 35, u 36, u 37, u 38, u 39, u 40, u 41, u 42, u 43, u 44, u 45, u 46, u 47, u 48, u 49, u 50, u 51, u 52, u 53, u 54, u 55, u 56, u 57, u 58, u 59, u 60, u 61, u 62, u 63, u 64, u 65, u 66, u 67, u 68, u 69, u 70, u 71, u 72, u 73, u 74, s75], []⟩ : Act) ∧ Inv n x3 x7 I L) m a I L) (fun m => fun {y3 y7 w8 w9 w10 w12 w34 w35 w36 w37 w38 w39 w40 w41 w42 w43 w44 w45 w46 w47 w48 w49 w50 w51 w52 w53 w54 w55 w56 w57 w58 w59 w60 w61 w62 w63 w64 w65 w66 w67 w68 w69 w70 w71 w72 w73 w74 I L} hm hi => ⟨m, hm, y3, y7, (fun i => (Act.tmps ⟨#[s0, s1, s2, y3, s4, s5, s6, y7, w8, w9, w10, s11, w12, s13, s14, s15, s16, s17, s18, s19, s20, s21, s22, s23, s24, s25, s26, s27, s28, s29, s30, s31, s32, s33, w34, w35, w36, w37, w38, w39, w40, w41, w42, w43, w44, w45, w46, w47, w48, w49, w50, w51, w52, w53, w54, w55, w56, w57, w58, w59, w60, w61, w62, w63, w64, w65, w66, w67, w68, w69, w70, w71, w72, w73, w74, s75], []⟩).getD i undef), (by kernel_rfl), hi⟩) u))
theorem out12_2x2 {R : Ending → Imm → Own → Prop} {s0 s1 s2 s3 s4 s5 s6 s7 s8 s9 s10 s11 s12 s13 s14 s15 s16 s17 s18 s19 s20 s21 s22 s23 s24 s25 s26 s27 s28 s29 s30 s31 s32 s33 s34 s35 s36 s37 s38 s39 s40 s41 s42 s43 s44 s45 s46 s47 s48 s49 s50 s51 s52 s53 s54 s55 s56 s57 s58 s59 s60 s61 s62 s63 s64 s65 s66 s67 s68 s69 s70 s71 s72 s73 s74 s75 : Value} {I : Imm} {L : Own} (h : J12_4 R ⟨#[s0, s1, s2, s3, s4, s5, s6, s7, s8, s9, s10, s11, s12, s13, s14, s15, s16, s17, s18, s19, s20, s21, s22, s23, s24, s25, s26, s27, s28, s29, s30, s31, s32, s33, s34, s35, s36, s37, s38, s39, s40, s41, s42, s43, s44, s45, s46, s47, s48, s49, s50, s51, s52, s53, s54, s55, s56, s57, s58, s59, s60, s61, s62, s63, s64, s65, s66, s67, s68, s69, s70, s71, s72, s73, s74, s75], []⟩ I L) : Q12_2 R (.exit 2) ⟨#[s0, s1, s2, s3, s4, s5, s6, s7, s8, s9, s10, s11, s12, s13, s14, s15, s16, s17, s18, s19, s20, s21, s22, s23, s24, s25, s26, s27, s28, s29, s30, s31, s32, s33, s34, s35, s36, s37, s38, s39, s40, s41, s42, s43, s44, s45, s46, s47, s48, s49, s50, s51, s52, s53, s54, s55, s56, s57, s58, s59, s60, s61, s62, s63, s64, s65, s66, s67, s68, s69, s70, s71, s72, s73, s74, s75], []⟩ I L :=
  Eq.mpr (by kernel_rfl) h
/-- loop 12_3: what changes: 3 7 37; beside: 8 9 10 12 38 39 40 41 42 43 44 45 46 47 48 49 50 51 52 53 54 55 56 57 58 59 60 61 62 63 64 65 66 67 68 69 70 71 72 73 74 -/
def B12_3 (N : Act → Imm → Own → Prop) (Q : Exit → Act → Imm → Own → Prop) (X : XT) (s0 s1 s2 s3 s4 s5 s6 s7 s8 s9 s10 s11 s12 s13 s14 s15 s16 s17 s18 s19 s20 s21 s22 s23 s24 s25 s26 s27 s28 s29 s30 s31 s32 s33 s34 s35 s36 s37 s38 s39 s40 s41 s42 s43 s44 s45 s46 s47 s48 s49 s50 s51 s52 s53 s54 s55 s56 s57 s58 s59 s60 s61 s62 s63 s64 s65 s66 s67 s68 s69 s70 s71 s72 s73 s74 s75 : Value) (I : Imm) (L : Own) : Prop :=
 bin Try.prog .lss 3 s37 s36 I L fun x38 I L =>
 cnd x38
 (iad Try.prog 26 s35 s37 I L fun x40 I L =>
 ld Try.prog 42 x40 I L fun x41 I L =>
 al Try.prog 42 I L fun x9 I L =>
 sto Try.prog 42 x9 x41 I L fun _ I L =>
 fad Try.prog 42 x9 9 I L fun x42 I L =>
 ld Try.prog 3 x42 I L fun x43 I L =>
 eqn Try.prog .eql 3 false true x43 (.int .i64 3) I L fun x44 I L =>
gd (yb (some x44) true) (fun k => k s4 I L) (fun x46 I L =>
gd (yb (some x44) true) (fun k => k s37 I L) (fun x47 I L =>
gd (yb (some x44) true) (fun k => lkp Try.prog 62 x46 x47 false I L k) (fun x48 I L =>
gd (yb (some x44) true) (fun k => un Try.prog .not x48 I L k) (fun x49 I L =>
pck x44 x49 (.bool false) I L fun x50 I L =>
 cnd x50
 (cal Try.prog 28 #[s0, s37] I L (fun ch => X ch []) fun x54 I L =>
 blt Try.prog .len #[38] 3 #[x54] I L fun x55 I L =>
L12_5 N Q X ⟨#[s0, s1, s2, s3, s4, s5, s6, s7, s37, x9, x50, s11, s12, s13, s14, s15, s16, s17, s18, s19, s20, s21, s22, s23, s24, s25, s26, s27, s28, s29, s30, s31, s32, s33, s34, s35, s36, s37, x38, s37, x40, x41, x42, x43, x44, x44, x46, x47, x48, x49, x50, x50, s0, s37, x54, x55, (.int .i64 0), s57, s58, s59, s60, s61, s62, s63, s64, s65, s66, s67, s68, s69, s70, s71, s72, s73, s74, s75], []⟩ I L)
 (J12_6 N Q X ⟨#[s0, s1, s2, s3, s4, s5, s6, s7, s37, x9, x50, s11, s12, s13, s14, s15, s16, s17, s18, s19, s20, s21, s22, s23, s24, s25, s26, s27, s28, s29, s30, s31, s32, s33, s34, s35, s36, s37, x38, s37, x40, x41, x42, x43, x44, x44, x46, x47, x48, x49, x50, x50, s52, s53, s54, s55, s56, s57, s58, s59, s60, s61, s62, s63, s64, s65, s66, s67, s68, s69, s70, s71, s72, s73, s74, s75], []⟩ I L)) I L) I L) I L) I L)
 (Q (.exit 4) ⟨#[s0, s1, s2, s3, s4, s5, s6, s7, s8, s9, s10, s11, s12, s13, s14, s15, s16, s17, s18, s19, s20, s21, s22, s23, s24, s25, s26, s27, s28, s29, s30, s31, s32, s33, s34, s35, s36, s37, x38, s39, s40, s41, s42, s43, s44, s45, s46, s47, s48, s49, s50, s51, s52, s53, s54, s55, s56, s57, s58, s59, s60, s61, s62, s63, s64, s65, s66, s67, s68, s69, s70, s71, s72, s73, s74, s75], []⟩ I L)
theorem round12_3 {N : Act → Imm → Own → Prop} {Q : Exit → Act → Imm → Own → Prop} {X : XT} {s0 s1 s2 s3 s4 s5 s6 s7 s8 s9 s10 s11 s12 s13 s14 s15 s16 s17 s18 s19 s20 s21 s22 s23 s24 s25 s26 s27 s28 s29 s30 s31 s32 s33 s34 s35 s36 s37 s38 s39 s40 s41 s42 s43 s44 s45 s46 s47 s48 s49 s50 s51 s52 s53 s54 s55 s56 s57 s58 s59 s60 s61 s62 s63 s64 s65 s66 s67 s68 s69 s70 s71 s72 s73 s74 s75 : Value} {I : Imm} {L : Own} (h : B12_3 N Q X s0 s1 s2 s3 s4 s5 s6 s7 s8 s9 s10 s11 s12 s13 s14 s15 s16 s17 s18 s19 s20 s21 s22 s23 s24 s25 s26 s27 s28 s29 s30 s31 s32 s33 s34 s35 s36 s37 s38 s39 s40 s41 s42 s43 s44 s45 s46 s47 s48 s49 s50 s51 s52 s53 s54 s55 s56 s57 s58 s59 s60 s61 s62 s63 s64 s65 s66 s67 s68 s69 s70 s71 s72 s73 s74 s75 I L) : cdT Try.prog (cdIn Try.f12 [1, 1, 1, 1, 0, 1, 0, 0, 1, 0, 1, 1, 0, 0]) (seqT N Q) X ⟨#[s0, s1, s2, s3, s4, s5, s6, s7, s8, s9, s10, s11, s12, s13, s14, s15, s16, s17, s18, s19, s20, s21, s22, s23, s24, s25, s26, s27, s28, s29, s30, s31, s32, s33, s34, s35, s36, s37, s38, s39, s40, s41, s42, s43, s44, s45, s46, s47, s48, s49, s50, s51, s52, s53, s54, s55, s56, s57, s58, s59, s60, s61, s62, s63, s64, s65, s66, s67, s68, s69, s70, s71, s72, s73, s74, s75], []⟩ I L :=
  sh_cut (fun p => if p = [0, 1, 0, 1, 0, 1, 1, 0, 0, 1, 1] then some (L12_5 N Q X) else if p = [1, 1, 1, 0, 0, 1, 1] then some (J12_6 N Q X) else none) (O := (L12_5 N Q X = L12_5 N Q X) ∧ (J12_6 N Q X = J12_6 N Q X) ∧ True) (by kernel_rfl) ⟨rfl, rfl, trivial⟩ (by kernel_rfl) h
theorem loop12_3 {N : Act → Imm → Own → Prop} {Q : Exit → Act → Imm → Own → Prop} {X : XT} {s0 s1 s2 s4 s5 s6 s11 s13 s14 s15 s16 s17 s18 s19 s20 s21 s22 s23 s24 s25 s26 s27 s28 s29 s30 s31 s32 s33 s34 s35 s36 s75 : Value} {x3 x7 x37 u8 u9 u10 u12 u38 u39 u40 u41 u42 u43 u44 u45 u46 u47 u48 u49 u50 u51 u52 u53 u54 u55 u56 u57 u58 u59 u60 u61 u62 u63 u64 u65 u66 u67 u68 u69 u70 u71 u72 u73 u74 : Value} {I : Imm} {L : Own} (Inv : Nat → Value → Value → Value → Imm → Own → Prop) {n : Nat} (h : Inv n x3 x7 x37 I L)
  (round : ∀ (n : Nat) (x3 x7 x37 : Value) (I' : Imm) (L' : Own), I.Le I' → Inv n x3 x7 x37 I' L' → ∀ (N' : Act → Imm → Own → Prop), (∀ (m : Nat) {y3 y7 y37 w8 w9 w10 w12 w38 w39 w40 w41 w42 w43 w44 w45 w46 w47 w48 w49 w50 w51 w52 w53 w54 w55 w56 w57 w58 w59 w60 w61 w62 w63 w64 w65 w66 w67 w68 w69 w70 w71 w72 w73 w74 : Value} {I : Imm} {L : Own}, m < n → Inv m y3 y7 y37 I L → N' ⟨#[s0, s1, s2, y3, s4, s5, s6, y7, w8, w9, w10, s11, w12, s13, s14, s15, s16, s17, s18, s19, s20, s21, s22, s23, s24, s25, s26, s27, s28, s29, s30, s31, s32, s33, s34, s35, s36, y37, w38, w39, w40, w41, w42, w43, w44, w45, w46, w47, w48, w49, w50, w51, w52, w53, w54, w55, w56, w57, w58, w59, w60, w61, w62, w63, w64, w65, w66, w67, w68, w69, w70, w71, w72, w73, w74, s75], []⟩ I L) → ∀ (u : Nat → Value), B12_3 N' (Q12_3 N Q X) X s0 s1 s2 x3 s4 s5 s6 x7 (u 8) (u 9) (u 10) s11 (u 12) s13 s14 s15 s16 s17 s18 s19 s20 s21 s22 s23 s24 s25 s26 s27 s28 s29 s30 s31 s32 s33 s34 s35 s36 x37 (u 38) (u 39) (u 40) (u 41) (u 42) (u 43) (u 44) (u 45) (u 46) (u 47) (u 48) (u 49) (u 50) (u 51) (u 52) (u 53) (u 54) (u 55) (u 56) (u 57) (u 58) (u 59) (u 60) (u 61) (u 62) (u 63) (u 64) (u 65) (u 66) (u 67) (u 68) (u 69) (u 70) (u 71) (u 72) (u 73) (u 74) s75 I' L') : L12_3 N Q X ⟨#[s0, s1, s2, x3, s4, s5, s6, x7, u8, u9, u10, s11, u12, s13, s14, s15, s16, s17, s18, s19, s20, s21, s22, s23, s24, s25, s26, s27, s28, s29, s30, s31, s32, s33, s34, s35, s36, x37, u38, u39, u40, u41, u42, u43, u44, u45, u46, u47, u48, u49, u50, u51, u52, u53, u54, u55, u56, u57, u58, u59, u60, u61, u62, u63, u64, u65, u66, u67, u68, u69, u70, u71, u72, u73, u74, s75], []⟩ I L :=
  loop_gen (by kernel_rfl) (fun n a I L => ∃ (x3 x7 x37 : Value) (u : Nat → Value), a = (⟨#[s0, s1, s2, x3, s4, s5, s6, x7, u 8, u 9, u 10, s11, u 12, s13, s14, s15, s16, s17, s18, s19, s20, s21, s22, s23, s24, s25, s26, s27, s28, s29, s30, s31, s32, s33, s34, s35, s36, x37, u 38, u 39, u 40, u 41, u 42, u 43, u 44, u 45, u 46, u 47, u 48, u 49, u 50, u 51, u 52, u 53, u 54, u 55, u 56, u 57, u 58, u 59, u 60, u 61, u 62, u 63, u 64, u 65, u 66, u 67, u 68, u 69, u 70, u 71, u 72, u 73, u 74, s75], []⟩ : Act) ∧ Inv n x3 x7 x37 I L) ⟨x3, x7, x37, (fun i => (Act.tmps ⟨#[s0, s1, s2, x3, s4, s5, s6, x7, u8, u9, u10, s11, u12, s13, s14, s15, s16, s17, s18, s19, s20, s21, s22, s23, s24, s25, s26, s27, s28, s29, s30, s31, s32, s33, s34, s35, s36, x37, u38, u39, u40, u41, u42, u43, u44, u45, u46, u47, u48, u49, u50, u51, u52, u53, u54, u55, u56, u57, u58, u59, u60, u61, u62, u63, u64, u65, u66, u67, u68, u69, u70, u71, u72, u73, u74, s75], []⟩).getD i undef), (by kernel_rfl), h⟩
    (fun n a I' L' hle ⟨x3, x7, x37, u, e, hi⟩ => e ▸ round12_3 (round n x3 x7 x37 I' L' hle hi (fun a I L => ∃ m, m < n ∧ (fun n a I L => ∃ (x3 x7 x37 : Value) (u : Nat → Value), a = (⟨#[s0, s1, s2, x3, s4, s5, s6, x7, u 8, u 9, u 10, s11, u 12, s13, s14, s15, s16, s17, s18, s19, s20, s21, s22, s23, s24, s25, s26, s27, s28, s29, s30, s31, s32, s33, s34, s35, s36, x37, u 38, u 39, u 40, u 41, u 42, u 43, u 44, u 45, u 46, u 47, u 48, u 49, u 50, u 51, u 52, u 53, u 54, u 55, u 56, u 57, u 58, u 59, u 60, u 61, u 62, u 63, u 64, u 65, u 66, u 67, u 68, u 69, u 70, u 71, u 72, u 73, u 74, s75], []⟩ : Act) ∧ Inv n x3 x7 x37 I L) m a I L) (fun m => fun {y3 y7 y37 w8 w9 w10 w12 w38 w39 w40 w41 w42 w43 w44 w45 w46 w47 w48 w49 w50 w51 w52 w53 w54 w55 w56 w57 w58 w59 w60 w61 w62 w63 w64 w65 w66 w67 w68 w69 w70 w71 w72 w73 w74 I L} hm hi => ⟨m, hm, y3, y7, y37, (fun i => (Act.tmps ⟨#[s0, s1, s2, y3, s4, s5, s6, y7, w8, w9, w10, s11, w12, s13, s14, s15, s16, s17, s18, s19, s20, s21, s22, s23, s24, s25, s26, s27, s28, s29, s30, s31, s32, s33, s34, s35, s36, y37, w38, w39, w40, w41, w42, w43, w44, w45, w46, w47, w48, w49, w50, w51, w52, w53, w54, w55, w56, w57, w58, w59, w60, w61, w62, w63, w64, w65, w66, w67, w68, w69, w70, w71, w72, w73, w74, s75], []⟩).getD i undef), (by kernel_rfl), hi⟩) u))
theorem out12_3x4 {N : Act → Imm → Own → Prop} {Q : Exit → Act → Imm → Own → Prop} {X : XT} {s0 s1 s2 s3 s4 s5 s6 s7 s8 s9 s10 s11 s12 s13 s14 s15 s16 s17 s18 s19 s20 s21 s22 s23 s24 s25 s26 s27 s28 s29 s30 s31 s32 s33 s34 s35 s36 s37 s38 s39 s40 s41 s42 s43 s44 s45 s46 s47 s48 s49 s50 s51 s52 s53 s54 s55 s56 s57 s58 s59 s60 s61 s62 s63 s64 s65 s66 s67 s68 s69 s70 s71 s72 s73 s74 s75 : Value} {I : Imm} {L : Own} (h : N ⟨#[s0, s1, s2, s3, s4, s5, s6, s7, s8, s9, s10, s11, s12, s13, s14, s15, s16, s17, s18, s19, s20, s21, s22, s23, s24, s25, s26, s27, s28, s29, s30, s31, s32, s33, s34, s35, s36, s37, s38, s39, s40, s41, s42, s43, s44, s45, s46, s47, s48, s49, s50, s51, s52, s53, s54, s55, s56, s57, s58, s59, s60, s61, s62, s63, s64, s65, s66, s67, s68, s69, s70, s71, s72, s73, s74, s75], []⟩ I L) : Q12_3 N Q X (.exit 4) ⟨#[s0, s1, s2, s3, s4, s5, s6, s7, s8, s9, s10, s11, s12, s13, s14, s15, s16, s17, s18, s19, s20, s21, s22, s23, s24, s25, s26, s27, s28, s29, s30, s31, s32, s33, s34, s35, s36, s37, s38, s39, s40, s41, s42, s43, s44, s45, s46, s47, s48, s49, s50, s51, s52, s53, s54, s55, s56, s57, s58, s59, s60, s61, s62, s63, s64, s65, s66, s67, s68, s69, s70, s71, s72, s73, s74, s75], []⟩ I L :=
  Eq.mpr (by kernel_rfl) h
def T12_4 (R : Ending → Imm → Own → Prop) (s0 s1 s2 s3 s4 s5 s6 s7 s8 s9 s10 s11 s12 s13 s14 s15 s16 s17 s18 s19 s20 s21 s22 s23 s24 s25 s26 s27 s28 s29 s30 s31 s32 s33 s34 s35 s36 s37 s38 s39 s40 s41 s42 s43 s44 s45 s46 s47 s48 s49 s50 s51 s52 s53 s54 s55 s56 s57 s58 s59 s60 s61 s62 s63 s64 s65 s66 s67 s68 s69 s70 s71 s72 s73 s74 s75 : Value) (I : Imm) (L : Own) : Prop :=
R (.returned s3) I L
theorem join12_4 {R : Ending → Imm → Own → Prop} {s0 s1 s2 s3 s4 s5 s6 s7 s8 s9 s10 s11 s12 s13 s14 s15 s16 s17 s18 s19 s20 s21 s22 s23 s24 s25 s26 s27 s28 s29 s30 s31 s32 s33 s34 s35 s36 s37 s38 s39 s40 s41 s42 s43 s44 s45 s46 s47 s48 s49 s50 s51 s52 s53 s54 s55 s56 s57 s58 s59 s60 s61 s62 s63 s64 s65 s66 s67 s68 s69 s70 s71 s72 s73 s74 s75 : Value} {I : Imm} {L : Own} (h : T12_4 R s0 s1 s2 s3 s4 s5 s6 s7 s8 s9 s10 s11 s12 s13 s14 s15 s16 s17 s18 s19 s20 s21 s22 s23 s24 s25 s26 s27 s28 s29 s30 s31 s32 s33 s34 s35 s36 s37 s38 s39 s40 s41 s42 s43 s44 s45 s46 s47 s48 s49 s50 s51 s52 s53 s54 s55 s56 s57 s58 s59 s60 s61 s62 s63 s64 s65 s66 s67 s68 s69 s70 s71 s72 s73 s74 s75 I L) : J12_4 R ⟨#[s0, s1, s2, s3, s4, s5, s6, s7, s8, s9, s10, s11, s12, s13, s14, s15, s16, s17, s18, s19, s20, s21, s22, s23, s24, s25, s26, s27, s28, s29, s30, s31, s32, s33, s34, s35, s36, s37, s38, s39, s40, s41, s42, s43, s44, s45, s46, s47, s48, s49, s50, s51, s52, s53, s54, s55, s56, s57, s58, s59, s60, s61, s62, s63, s64, s65, s66, s67, s68, s69, s70, s71, s72, s73, s74, s75], []⟩ I L :=
  sh_cut (fun _ => none) (O := True) (by kernel_rfl) trivial (by kernel_rfl) h
/-- loop 12_5: what changes: 10 56; beside: 12 57 58 59 60 61 62 63 64 65 66 -/
def B12_5 (N : Act → Imm → Own → Prop) (Q : Exit → Act → Imm → Own → Prop) (X : XT) (s0 s1 s2 s3 s4 s5 s6 s7 s8 s9 s10 s11 s12 s13 s14 s15 s16 s17 s18 s19 s20 s21 s22 s23 s24 s25 s26 s27 s28 s29 s30 s31 s32 s33 s34 s35 s36 s37 s38 s39 s40 s41 s42 s43 s44 s45 s46 s47 s48 s49 s50 s51 s52 s53 s54 s55 s56 s57 s58 s59 s60 s61 s62 s63 s64 s65 s66 s67 s68 s69 s70 s71 s72 s73 s74 s75 : Value) (I : Imm) (L : Own) : Prop :=
 bin Try.prog .lss 3 s56 s55 I L fun x57 I L =>
 cnd x57
 (iad Try.prog 38 s54 s56 I L fun x58 I L =>
 ld Try.prog 3 x58 I L fun x59 I L =>
gd (yb (some s10) true) (fun k => k s4 I L) (fun x62 I L =>
gd (yb (some s10) true) (fun k => k x59 I L) (fun x63 I L =>
gd (yb (some s10) true) (fun k => lkp Try.prog 62 x62 x63 false I L k) (fun x64 I L =>
pck s10 x64 (.bool false) I L fun x65 I L =>
 bin Try.prog .add 3 s56 (.int .i64 1) I L fun x66 I L =>
N ⟨#[s0, s1, s2, s3, s4, s5, s6, s7, s8, s9, x65, s11, x59, s13, s14, s15, s16, s17, s18, s19, s20, s21, s22, s23, s24, s25, s26, s27, s28, s29, s30, s31, s32, s33, s34, s35, s36, s37, s38, s39, s40, s41, s42, s43, s44, s45, s46, s47, s48, s49, s50, s51, s52, s53, s54, s55, x66, x57, x58, x59, s10, s10, x62, x63, x64, x65, x66, s67, s68, s69, s70, s71, s72, s73, s74, s75], []⟩ I L) I L) I L) I L)
 (Q (.exit 6) ⟨#[s0, s1, s2, s3, s4, s5, s6, s7, s8, s9, s10, s11, s12, s13, s14, s15, s16, s17, s18, s19, s20, s21, s22, s23, s24, s25, s26, s27, s28, s29, s30, s31, s32, s33, s34, s35, s36, s37, s38, s39, s40, s41, s42, s43, s44, s45, s46, s47, s48, s49, s50, s51, s52, s53, s54, s55, s56, x57, s58, s59, s60, s61, s62, s63, s64, s65, s66, s67, s68, s69, s70, s71, s72, s73, s74, s75], []⟩ I L)
theorem round12_5 {N : Act → Imm → Own → Prop} {Q : Exit → Act → Imm → Own → Prop} {X : XT} {s0 s1 s2 s3 s4 s5 s6 s7 s8 s9 s10 s11 s12 s13 s14 s15 s16 s17 s18 s19 s20 s21 s22 s23 s24 s25 s26 s27 s28 s29 s30 s31 s32 s33 s34 s35 s36 s37 s38 s39 s40 s41 s42 s43 s44 s45 s46 s47 s48 s49 s50 s51 s52 s53 s54 s55 s56 s57 s58 s59 s60 s61 s62 s63 s64 s65 s66 s67 s68 s69 s70 s71 s72 s73 s74 s75 : Value} {I : Imm} {L : Own} (h : B12_5 N Q X s0 s1 s2 s3 s4 s5 s6 s7 s8 s9 s10 s11 s12 s13 s14 s15 s16 s17 s18 s19 s20 s21 s22 s23 s24 s25 s26 s27 s28 s29 s30 s31 s32 s33 s34 s35 s36 s37 s38 s39 s40 s41 s42 s43 s44 s45 s46 s47 s48 s49 s50 s51 s52 s53 s54 s55 s56 s57 s58 s59 s60 s61 s62 s63 s64 s65 s66 s67 s68 s69 s70 s71 s72 s73 s74 s75 I L) : cdT Try.prog (cdIn Try.f12 [1, 1, 1, 1, 0, 1, 0, 0, 1, 0, 1, 1, 0, 0, 1, 1, 0, 0, 1, 1, 0, 1, 0, 1, 0, 0]) (seqT N Q) X ⟨#[s0, s1, s2, s3, s4, s5, s6, s7, s8, s9, s10, s11, s12, s13, s14, s15, s16, s17, s18, s19, s20, s21, s22, s23, s24, s25, s26, s27, s28, s29, s30, s31, s32, s33, s34, s35, s36, s37, s38, s39, s40, s41, s42, s43, s44, s45, s46, s47, s48, s49, s50, s51, s52, s53, s54, s55, s56, s57, s58, s59, s60, s61, s62, s63, s64, s65, s66, s67, s68, s69, s70, s71, s72, s73, s74, s75], []⟩ I L :=
  sh_cut (fun _ => none) (O := True) (by kernel_rfl) trivial (by kernel_rfl) h
theorem loop12_5 {N : Act → Imm → Own → Prop} {Q : Exit → Act → Imm → Own → Prop} {X : XT} {s0 s1 s2 s3 s4 s5 s6 s7 s8 s9 s11 s13 s14 s15 s16 s17 s18 s19 s20 s21 s22 s23 s24 s25 s26 s27 s28 s29 s30 s31 s32 s33 s34 s35 s36 s37 s38 s39 s40 s41 s42 s43 s44 s45 s46 s47 s48 s49 s50 s51 s52 s53 s54 s55 s67 s68 s69 s70 s71 s72 s73 s74 s75 : Value} {x10 x56 u12 u57 u58 u59 u60 u61 u62 u63 u64 u65 u66 : Value} {I : Imm} {L : Own} (Inv : Nat → Value → Value → Imm → Own → Prop) {n : Nat} (h : Inv n x10 x56 I L)
  (round : ∀ (n : Nat) (x10 x56 : Value) (I' : Imm) (L' : Own), I.Le I' → Inv n x10 x56 I' L' → ∀ (N' : Act → Imm → Own → Prop), (∀ (m : Nat) {y10 y56 w12 w57 w58 w59 w60 w61 w62 w63 w64 w65 w66 : Value} {I : Imm} {L : Own}, m < n → Inv m y10 y56 I L → N' ⟨#[s0, s1, s2, s3, s4, s5, s6, s7, s8, s9, y10, s11, w12, s13, s14, s15, s16, s17, s18, s19, s20, s21, s22, s23, s24, s25, s26, s27, s28, s29, s30, s31, s32, s33, s34, s35, s36, s37, s38, s39, s40, s41, s42, s43, s44, s45, s46, s47, s48, s49, s50, s51, s52, s53, s54, s55, y56, w57, w58, w59, w60, w61, w62, w63, w64, w65, w66, s67, s68, s69, s70, s71, s72, s73, s74, s75], []⟩ I L) → ∀ (u : Nat → Value), B12_5 N' (Q12_5 N Q X) X s0 s1 s2 s3 s4 s5 s6 s7 s8 s9 x10 s11 (u 12) s13 s14 s15 s16 s17 s18 s19 s20 s21 s22 s23 s24 s25 s26 s27 s28 s29 s30 s31 s32 s33 s34 s35 s36 s37 s38 s39 s40 s41 s42 s43 s44 s45 s46 s47 s48 s49 s50 s51 s52 s53 s54 s55 x56 (u 57) (u 58) (u 59) (u 60) (u 61) (u 62) (u 63) (u 64) (u 65) (u 66) s67 s68 s69 s70 s71 s72 s73 s74 s75 I' L') : L12_5 N Q X ⟨#[s0, s1, s2, s3, s4, s5, s6, s7, s8, s9, x10, s11, u12, s13, s14, s15, s16, s17, s18, s19, s20, s21, s22, s23, s24, s25, s26, s27, s28, s29, s30, s31, s32, s33, s34, s35, s36, s37, s38, s39, s40, s41, s42, s43, s44, s45, s46, s47, s48, s49, s50, s51, s52, s53, s54, s55, x56, u57, u58, u59, u60, u61, u62, u63, u64, u65, u66, s67, s68, s69, s70, s71, s72, s73, s74, s75], []⟩ I L :=
  loop_gen (by kernel_rfl) (fun n a I L => ∃ (x10 x56 : Value) (u : Nat → Value), a = (⟨#[s0, s1, s2, s3, s4, s5, s6, s7, s8, s9, x10, s11, u 12, s13, s14, s15, s16, s17, s18, s19, s20, s21, s22, s23, s24, s25, s26, s27, s28, s29, s30, s31, s32, s33, s34, s35, s36, s37, s38, s39, s40, s41, s42, s43, s44, s45, s46, s47, s48, s49, s50, s51, s52, s53, s54, s55, x56, u 57, u 58, u 59, u 60, u 61, u 62, u 63, u 64, u 65, u 66, s67, s68, s69, s70, s71, s72, s73, s74, s75], []⟩ : Act) ∧ Inv n x10 x56 I L) ⟨x10, x56, (fun i => (Act.tmps ⟨#[s0, s1, s2, s3, s4, s5, s6, s7, s8, s9, x10, s11, u12, s13, s14, s15, s16, s17, s18, s19, s20, s21, s22, s23, s24, s25, s26, s27, s28, s29, s30, s31, s32, s33, s34, s35, s36, s37, s38, s39, s40, s41, s42, s43, s44, s45, s46, s47, s48, s49, s50, s51, s52, s53, s54, s55, x56, u57, u58, u59, u60, u61, u62, u63, u64, u65, u66, s67, s68, s69, s70, s71, s72, s73, s74, s75], []⟩).getD i undef), (by kernel_rfl), h⟩
    (fun n a I' L' hle ⟨x10, x56, u, e, hi⟩ => e ▸ round12_5 (round n x10 x56 I' L' hle hi (fun a I L => ∃ m, m < n ∧ (fun n a I L => ∃ (x10 x56 : Value) (u : Nat → Value), a = (⟨#[s0, s1, s2, s3, s4, s5, s6, s7, s8, s9, x10, s11, u 12, s13, s14, s15, s16, s17, s18, s19, s20, s21, s22, s23, s24, s25, s26, s27, s28, s29, s30, s31, s32, s33, s34, s35, s36, s37, s38, s39, s40, s41, s42, s43, s44, s45, s46, s47, s48, s49, s50, s51, s52, s53, s54, s55, x56, u 57, u 58, u 59, u 60, u 61, u 62, u 63, u 64, u 65, u 66, s67, s68, s69, s70, s71, s72, s73, s74, s75], []⟩ : Act) ∧ Inv n x10 x56 I L) m a I L) (fun m => fun {y10 y56 w12 w57 w58 w59 w60 w61 w62 w63 w64 w65 w66 I L} hm hi => ⟨m, hm, y10, y56, (fun i => (Act.tmps ⟨#[s0, s1, s2, s3, s4, s5, s6, s7, s8, s9, y10, s11, w12, s13, s14, s15, s16, s17, s18, s19, s20, s21, s22, s23, s24, s25, s26, s27, s28, s29, s30, s31, s32, s33, s34, s35, s36, s37, s38, s39, s40, s41, s42, s43, s44, s45, s46, s47, s48, s49, s50, s51, s52, s53, s54, s55, y56, w57, w58, w59, w60, w61, w62, w63, w64, w65, w66, s67, s68, s69, s70, s71, s72, s73, s74, s75], []⟩).getD i undef), (by kernel_rfl), hi⟩) u))
theorem out12_5x6 {N : Act → Imm → Own → Prop} {Q : Exit → Act → Imm → Own → Prop} {X : XT} {s0 s1 s2 s3 s4 s5 s6 s7 s8 s9 s10 s11 s12 s13 s14 s15 s16 s17 s18 s19 s20 s21 s22 s23 s24 s25 s26 s27 s28 s29 s30 s31 s32 s33 s34 s35 s36 s37 s38 s39 s40 s41 s42 s43 s44 s45 s46 s47 s48 s49 s50 s51 s52 s53 s54 s55 s56 s57 s58 s59 s60 s61 s62 s63 s64 s65 s66 s67 s68 s69 s70 s71 s72 s73 s74 s75 : Value} {I : Imm} {L : Own} (h : J12_6 N Q X ⟨#[s0, s1, s2, s3, s4, s5, s6, s7, s8, s9, s10, s11, s12, s13, s14, s15, s16, s17, s18, s19, s20, s21, s22, s23, s24, s25, s26, s27, s28, s29, s30, s31, s32, s33, s34, s35, s36, s37, s38, s39, s40, s41, s42, s43, s44, s45, s46, s47, s48, s49, s50, s51, s52, s53, s54, s55, s56, s57, s58, s59, s60, s61, s62, s63, s64, s65, s66, s67, s68, s69, s70, s71, s72, s73, s74, s75], []⟩ I L) : Q12_5 N Q X (.exit 6) ⟨#[s0, s1, s2, s3, s4, s5, s6, s7, s8, s9, s10, s11, s12, s13, s14, s15, s16, s17, s18, s19, s20, s21, s22, s23, s24, s25, s26, s27, s28, s29, s30, s31, s32, s33, s34, s35, s36, s37, s38, s39, s40, s41, s42, s43, s44, s45, s46, s47, s48, s49, s50, s51, s52, s53, s54, s55, s56, s57, s58, s59, s60, s61, s62, s63, s64, s65, s66, s67, s68, s69, s70, s71, s72, s73, s74, s75], []⟩ I L :=
  Eq.mpr (by kernel_rfl) h
def T12_6 (N : Act → Imm → Own → Prop) (Q : Exit → Act → Imm → Own → Prop) (X : XT) (s0 s1 s2 s3 s4 s5 s6 s7 s8 s9 s10 s11 s12 s13 s14 s15 s16 s17 s18 s19 s20 s21 s22 s23 s24 s25 s26 s27 s28 s29 s30 s31 s32 s33 s34 s35 s36 s37 s38 s39 s40 s41 s42 s43 s44 s45 s46 s47 s48 s49 s50 s51 s52 s53 s54 s55 s56 s57 s58 s59 s60 s61 s62 s63 s64 s65 s66 s67 s68 s69 s70 s71 s72 s73 s74 s75 : Value) (I : Imm) (L : Own) : Prop :=
 cnd s10
 (bsl Try.prog 38 1 #[(0, s8)] I L fun x72 I L =>
 blt Try.prog .append #[38, 38] 38 #[s3, x72] I L fun x73 I L =>
 mup Try.prog 62 s4 s8 (.bool true) I L fun _ I L =>
Q (.exit 4) ⟨#[s0, s1, s2, x73, s4, s5, s6, (.bool true), s8, s9, s10, s11, s12, s13, s14, s15, s16, s17, s18, s19, s20, s21, s22, s23, s24, s25, s26, s27, s28, s29, s30, s31, s32, s33, s34, s35, s36, s37, s38, s39, s40, s41, s42, s43, s44, s45, s46, s47, s48, s49, s50, s51, s52, s53, s54, s55, s56, s57, s58, s59, s60, s61, s62, s63, s64, s65, s66, s10, s4, s8, s3, s8, x72, x73, s74, s75], []⟩ I L)
 (J12_7 N Q X ⟨#[s0, s1, s2, s3, s4, s5, s6, s7, s8, s9, s10, s11, s12, s13, s14, s15, s16, s17, s18, s19, s20, s21, s22, s23, s24, s25, s26, s27, s28, s29, s30, s31, s32, s33, s34, s35, s36, s37, s38, s39, s40, s41, s42, s43, s44, s45, s46, s47, s48, s49, s50, s51, s52, s53, s54, s55, s56, s57, s58, s59, s60, s61, s62, s63, s64, s65, s66, s10, s68, s69, s70, s71, s72, s73, s74, s75], []⟩ I L)
theorem join12_6 {N : Act → Imm → Own → Prop} {Q : Exit → Act → Imm → Own → Prop} {X : XT} {s0 s1 s2 s3 s4 s5 s6 s7 s8 s9 s10 s11 s12 s13 s14 s15 s16 s17 s18 s19 s20 s21 s22 s23 s24 s25 s26 s27 s28 s29 s30 s31 s32 s33 s34 s35 s36 s37 s38 s39 s40 s41 s42 s43 s44 s45 s46 s47 s48 s49 s50 s51 s52 s53 s54 s55 s56 s57 s58 s59 s60 s61 s62 s63 s64 s65 s66 s67 s68 s69 s70 s71 s72 s73 s74 s75 : Value} {I : Imm} {L : Own} (h : T12_6 N Q X s0 s1 s2 s3 s4 s5 s6 s7 s8 s9 s10 s11 s12 s13 s14 s15 s16 s17 s18 s19 s20 s21 s22 s23 s24 s25 s26 s27 s28 s29 s30 s31 s32 s33 s34 s35 s36 s37 s38 s39 s40 s41 s42 s43 s44 s45 s46 s47 s48 s49 s50 s51 s52 s53 s54 s55 s56 s57 s58 s59 s60 s61 s62 s63 s64 s65 s66 s67 s68 s69 s70 s71 s72 s73 s74 s75 I L) : J12_6 N Q X ⟨#[s0, s1, s2, s3, s4, s5, s6, s7, s8, s9, s10, s11, s12, s13, s14, s15, s16, s17, s18, s19, s20, s21, s22, s23, s24, s25, s26, s27, s28, s29, s30, s31, s32, s33, s34, s35, s36, s37, s38, s39, s40, s41, s42, s43, s44, s45, s46, s47, s48, s49, s50, s51, s52, s53, s54, s55, s56, s57, s58, s59, s60, s61, s62, s63, s64, s65, s66, s67, s68, s69, s70, s71, s72, s73, s74, s75], []⟩ I L :=
  sh_cut (fun _ => none) (O := True) (by kernel_rfl) trivial (by kernel_rfl) h
def T12_7 (N : Act → Imm → Own → Prop) (Q : Exit → Act → Imm → Own → Prop) (X : XT) (s0 s1 s2 s3 s4 s5 s6 s7 s8 s9 s10 s11 s12 s13 s14 s15 s16 s17 s18 s19 s20 s21 s22 s23 s24 s25 s26 s27 s28 s29 s30 s31 s32 s33 s34 s35 s36 s37 s38 s39 s40 s41 s42 s43 s44 s45 s46 s47 s48 s49 s50 s51 s52 s53 s54 s55 s56 s57 s58 s59 s60 s61 s62 s63 s64 s65 s66 s67 s68 s69 s70 s71 s72 s73 s74 s75 : Value) (I : Imm) (L : Own) : Prop :=
 bin Try.prog .add 3 s37 (.int .i64 1) I L fun x74 I L =>
N ⟨#[s0, s1, s2, s3, s4, s5, s6, s7, s8, s9, s10, s11, s12, s13, s14, s15, s16, s17, s18, s19, s20, s21, s22, s23, s24, s25, s26, s27, s28, s29, s30, s31, s32, s33, s34, s35, s36, x74, s38, s39, s40, s41, s42, s43, s44, s45, s46, s47, s48, s49, s50, s51, s52, s53, s54, s55, s56, s57, s58, s59, s60, s61, s62, s63, s64, s65, s66, s67, s68, s69, s70, s71, s72, s73, x74, s75], []⟩ I L
theorem join12_7 {N : Act → Imm → Own → Prop} {Q : Exit → Act → Imm → Own → Prop} {X : XT} {s0 s1 s2 s3 s4 s5 s6 s7 s8 s9 s10 s11 s12 s13 s14 s15 s16 s17 s18 s19 s20 s21 s22 s23 s24 s25 s26 s27 s28 s29 s30 s31 s32 s33 s34 s35 s36 s37 s38 s39 s40 s41 s42 s43 s44 s45 s46 s47 s48 s49 s50 s51 s52 s53 s54 s55 s56 s57 s58 s59 s60 s61 s62 s63 s64 s65 s66 s67 s68 s69 s70 s71 s72 s73 s74 s75 : Value} {I : Imm} {L : Own} (h : T12_7 N Q X s0 s1 s2 s3 s4 s5 s6 s7 s8 s9 s10 s11 s12 s13 s14 s15 s16 s17 s18 s19 s20 s21 s22 s23 s24 s25 s26 s27 s28 s29 s30 s31 s32 s33 s34 s35 s36 s37 s38 s39 s40 s41 s42 s43 s44 s45 s46 s47 s48 s49 s50 s51 s52 s53 s54 s55 s56 s57 s58 s59 s60 s61 s62 s63 s64 s65 s66 s67 s68 s69 s70 s71 s72 s73 s74 s75 I L) : J12_7 N Q X ⟨#[s0, s1, s2, s3, s4, s5, s6, s7, s8, s9, s10, s11, s12, s13, s14, s15, s16, s17, s18, s19, s20, s21, s22, s23, s24, s25, s26, s27, s28, s29, s30, s31, s32, s33, s34, s35, s36, s37, s38, s39, s40, s41, s42, s43, s44, s45, s46, s47, s48, s49, s50, s51, s52, s53, s54, s55, s56, s57, s58, s59, s60, s61, s62, s63, s64, s65, s66, s67, s68, s69, s70, s71, s72, s73, s74, s75], []⟩ I L :=
  sh_cut (fun _ => none) (O := True) (by kernel_rfl) trivial (by kernel_rfl) h
/-- 12: escritoire/escritoireref.TypesOrder -/
def M12 (R : Ending → Imm → Own → Prop) (x0 : Value) (I : Imm) (L : Own) : Prop :=
 mkm Try.prog 62 none I L fun x13 I L =>
 blt Try.prog .len #[26] 3 #[x0] I L fun x15 I L =>
L12_0 R ⟨#[x0, undef, (.slice none 0 0), (.slice none 0 0), x13, undef, undef, undef, undef, undef, undef, undef, undef, x13, x0, x15, (.int .i64 0), undef, undef, undef, undef, undef, undef, undef, undef, undef, undef, undef, undef, undef, undef, undef, undef, undef, undef, undef, undef, undef, undef, undef, undef, undef, undef, undef, undef, undef, undef, undef, undef, undef, undef, undef, undef, undef, undef, undef, undef, undef, undef, undef, undef, undef, undef, undef, undef, undef, undef, undef, undef, undef, undef, undef, undef, undef, undef, undef], []⟩ I L
theorem go12 {R : Ending → Imm → Own → Prop} {x0 : Value} {I : Imm} {L : Own} (h : M12 R x0 I L) : wpC Try.prog 12 #[x0] I L R :=
  wpC_go (fun p => if p = [0, 1, 0, 1, 1, 1] then some (L12_0 R) else none) Try.func12 (by kernel_rfl) (O := (L12_0 R = L12_0 R) ∧ True) (by kernel_rfl) ⟨rfl, trivial⟩ (by kernel_rfl) h

/-- 25: escritoire/types.find -/
def M25 (R : Ending → Imm → Own → Prop) (x0 x1 : Value) (I : Imm) (L : Own) : Prop :=
 bx Try.prog 9 x1 I L fun x3 I L =>
 cal Try.prog 23 #[x0, (.func (.func 41) #[] #[x3])] I L (fun ch => (endX R) ch []) fun x7 I L =>
R (.returned x7) I L
theorem go25 {R : Ending → Imm → Own → Prop} {x0 x1 : Value} {I : Imm} {L : Own} (h : M25 R x0 x1 I L) : wpC Try.prog 25 #[x0, x1] I L R :=
  wpC_go (fun _ => none) Try.func25 (by kernel_rfl) (O := True) (by kernel_rfl) trivial (by kernel_rfl) h

/-- 26: slices.Contains[[]int,int] -/
def M26 (R : Ending → Imm → Own → Prop) (x0 x1 : Value) (I : Imm) (L : Own) : Prop :=
 cal Try.prog 42 #[x0, x1] I L (fun ch => (endX R) ch []) fun x7 I L =>
 bin Try.prog .geq 3 x7 (.int .i64 0) I L fun x8 I L =>
R (.returned x8) I L
theorem go26 {R : Ending → Imm → Own → Prop} {x0 x1 : Value} {I : Imm} {L : Own} (h : M26 R x0 x1 I L) : wpC Try.prog 26 #[x0, x1] I L R :=
  wpC_go (fun _ => none) Try.func26 (by kernel_rfl) (O := True) (by kernel_rfl) trivial (by kernel_rfl) h

/-- 27: escritoire/types.over -/
def M27 (R : Ending → Imm → Own → Prop) (x0 x1 x2 : Value) (I : Imm) (L : Own) : Prop :=
 iad Try.prog 26 x0 x1 I L fun x9 I L =>
 fad Try.prog 42 x9 9 I L fun x10 I L =>
 ld Try.prog 3 x10 I L fun x11 I L =>
 eqn Try.prog .eql 3 false true x11 (.int .i64 3) I L fun x12 I L =>
gd (yb (some x12) true) (fun k => k x0 I L) (fun x14 I L =>
gd (yb (some x12) true) (fun k => k x0 I L) (fun x15 I L =>
gd (yb (some x12) true) (fun k => k x1 I L) (fun x16 I L =>
gd (yb (some x12) true) (fun k => iad Try.prog 26 x15 x16 I L k) (fun x17 I L =>
gd (yb (some x12) true) (fun k => fad Try.prog 42 x17 10 I L k) (fun x18 I L =>
gd (yb (some x12) true) (fun k => ld Try.prog 9 x18 I L k) (fun x19 I L =>
gd (yb (some x12) true) (fun k => cal Try.prog 25 #[x14, x19] I L (fun ch => (endX R) ch []) k) (fun x20 I L =>
gd (yb (some x12) true) (fun k => k x2 I L) (fun x21 I L =>
gd (yb (some x12) true) (fun k => bin Try.prog .leq 3 x20 x21 I L k) (fun x22 I L =>
pck x12 x22 (.bool false) I L fun x23 I L =>
gd (yb (some x23) true) (fun k => k x2 I L) (fun x25 I L =>
gd (yb (some x23) true) (fun k => k x0 I L) (fun x26 I L =>
gd (yb (some x23) true) (fun k => k x0 I L) (fun x27 I L =>
gd (yb (some x23) true) (fun k => k x1 I L) (fun x28 I L =>
gd (yb (some x23) true) (fun k => iad Try.prog 26 x27 x28 I L k) (fun x29 I L =>
gd (yb (some x23) true) (fun k => fad Try.prog 42 x29 11 I L k) (fun x30 I L =>
gd (yb (some x23) true) (fun k => ld Try.prog 9 x30 I L k) (fun x31 I L =>
gd (yb (some x23) true) (fun k => cal Try.prog 25 #[x26, x31] I L (fun ch => (endX R) ch []) k) (fun x32 I L =>
gd (yb (some x23) true) (fun k => bin Try.prog .leq 3 x25 x32 I L k) (fun x33 I L =>
pck x23 x33 (.bool false) I L fun x34 I L =>
R (.returned x34) I L) I L) I L) I L) I L) I L) I L) I L) I L) I L) I L) I L) I L) I L) I L) I L) I L) I L) I L
theorem go27 {R : Ending → Imm → Own → Prop} {x0 x1 x2 : Value} {I : Imm} {L : Own} (h : M27 R x0 x1 x2 I L) : wpC Try.prog 27 #[x0, x1, x2] I L R :=
  wpC_go (fun _ => none) Try.func27 (by kernel_rfl) (O := True) (by kernel_rfl) trivial (by kernel_rfl) h

def Q28_0 (R : Ending → Imm → Own → Prop) : Exit → Act → Imm → Own → Prop := (blkT 0 (seqT (cdT Try.prog (cdIn Try.f28 [1, 1, 1]) (endT Try.prog Try.f28 R) (endX R)) (endT Try.prog Try.f28 R)))
def L28_0 (R : Ending → Imm → Own → Prop) (a : Act) (I : Imm) (L : Own) : Prop := cdT Try.prog (cdIn Try.f28 [1, 1, 0, 1, 0]) (Q28_0 R) (endX R) a I L
def Q28_1 (R : Ending → Imm → Own → Prop) : Exit → Act → Imm → Own → Prop := (endT Try.prog Try.f28 R)
def J28_1 (R : Ending → Imm → Own → Prop) (a : Act) (I : Imm) (L : Own) : Prop := cdT Try.prog (cdIn Try.f28 [1, 1, 1]) (Q28_1 R) (endX R) a I L
/-- loop 28_0: what changes: 5 6; beside: 14 15 16 17 18 19 20 21 22 23 24 25 26 27 28 29 30 31 32 33 34 35 36 37 38 -/
def B28_0 (N : Act → Imm → Own → Prop) (Q : Exit → Act → Imm → Own → Prop) (X : XT) (s0 s1 s2 s3 s4 s5 s6 s7 s8 s9 s10 s11 s12 s13 s14 s15 s16 s17 s18 s19 s20 s21 s22 s23 s24 s25 s26 s27 s28 s29 s30 s31 s32 s33 s34 s35 s36 s37 s38 s39 : Value) (I : Imm) (L : Own) : Prop :=
 bin Try.prog .geq 3 s6 (.int .i64 0) I L fun x15 I L =>
gd (yb (some x15) true) (fun k => k s6 I L) (fun x17 I L =>
gd (yb (some x15) true) (fun k => k s0 I L) (fun x18 I L =>
gd (yb (some x15) true) (fun k => k s0 I L) (fun x19 I L =>
gd (yb (some x15) true) (fun k => k s1 I L) (fun x20 I L =>
gd (yb (some x15) true) (fun k => iad Try.prog 26 x19 x20 I L k) (fun x21 I L =>
gd (yb (some x15) true) (fun k => fad Try.prog 42 x21 11 I L k) (fun x22 I L =>
gd (yb (some x15) true) (fun k => ld Try.prog 9 x22 I L k) (fun x23 I L =>
gd (yb (some x15) true) (fun k => cal Try.prog 38 #[x18, x23] I L (fun ch => X ch []) k) (fun x24 I L =>
gd (yb (some x15) true) (fun k => bin Try.prog .leq 3 x17 x24 I L k) (fun x25 I L =>
pck x15 x25 (.bool false) I L fun x26 I L =>
 cnd x26
 (iad Try.prog 26 s0 s6 I L fun x31 I L =>
 fad Try.prog 42 x31 9 I L fun x32 I L =>
 ld Try.prog 3 x32 I L fun x33 I L =>
 eqn Try.prog .eql 3 false true x33 (.int .i64 3) I L fun x34 I L =>
 cnd x34
 (bsl Try.prog 38 1 #[(0, s6)] I L fun x37 I L =>
 blt Try.prog .append #[38, 38] 38 #[s5, x37] I L fun x38 I L =>
 bin Try.prog .add 3 s6 (.int .i64 1) I L fun x28 I L =>
N ⟨#[s0, s1, s2, s3, s4, x38, x28, s7, s8, s9, s10, s11, s12, s13, s6, x15, x15, x17, x18, x19, x20, x21, x22, x23, x24, x25, x26, s6, x28, s0, s6, x31, x32, x33, x34, s5, s6, x37, x38, s39], []⟩ I L)
 (bin Try.prog .add 3 s6 (.int .i64 1) I L fun x28 I L =>
N ⟨#[s0, s1, s2, s3, s4, s5, x28, s7, s8, s9, s10, s11, s12, s13, s6, x15, x15, x17, x18, x19, x20, x21, x22, x23, x24, x25, x26, s6, x28, s0, s6, x31, x32, x33, x34, s35, s36, s37, s38, s39], []⟩ I L))
 (Q (.exit 0) ⟨#[s0, s1, s2, s3, s4, s5, s6, s7, s8, s9, s10, s11, s12, s13, s6, x15, x15, x17, x18, x19, x20, x21, x22, x23, x24, x25, x26, s27, s28, s29, s30, s31, s32, s33, s34, s35, s36, s37, s38, s39], []⟩ I L)) I L) I L) I L) I L) I L) I L) I L) I L) I L
theorem round28_0 {N : Act → Imm → Own → Prop} {Q : Exit → Act → Imm → Own → Prop} {X : XT} {s0 s1 s2 s3 s4 s5 s6 s7 s8 s9 s10 s11 s12 s13 s14 s15 s16 s17 s18 s19 s20 s21 s22 s23 s24 s25 s26 s27 s28 s29 s30 s31 s32 s33 s34 s35 s36 s37 s38 s39 : Value} {I : Imm} {L : Own} (h : B28_0 N Q X s0 s1 s2 s3 s4 s5 s6 s7 s8 s9 s10 s11 s12 s13 s14 s15 s16 s17 s18 s19 s20 s21 s22 s23 s24 s25 s26 s27 s28 s29 s30 s31 s32 s33 s34 s35 s36 s37 s38 s39 I L) : cdT Try.prog (cdIn Try.f28 [1, 1, 0, 1, 0, 0]) (seqT N Q) X ⟨#[s0, s1, s2, s3, s4, s5, s6, s7, s8, s9, s10, s11, s12, s13, s14, s15, s16, s17, s18, s19, s20, s21, s22, s23, s24, s25, s26, s27, s28, s29, s30, s31, s32, s33, s34, s35, s36, s37, s38, s39], []⟩ I L :=
  sh_cut (fun _ => none) (O := True) (by kernel_rfl) trivial (by kernel_rfl) h
theorem loop28_0 {R : Ending → Imm → Own → Prop} {s0 s1 s2 s3 s4 s7 s8 s9 s10 s11 s12 s13 s39 : Value} {x5 x6 u14 u15 u16 u17 u18 u19 u20 u21 u22 u23 u24 u25 u26 u27 u28 u29 u30 u31 u32 u33 u34 u35 u36 u37 u38 : Value} {I : Imm} {L : Own} (Inv : Nat → Value → Value → Imm → Own → Prop) {n : Nat} (h : Inv n x5 x6 I L)
  (round : ∀ (n : Nat) (x5 x6 : Value) (I' : Imm) (L' : Own), I.Le I' → Inv n x5 x6 I' L' → ∀ (N' : Act → Imm → Own → Prop), (∀ (m : Nat) {y5 y6 w14 w15 w16 w17 w18 w19 w20 w21 w22 w23 w24 w25 w26 w27 w28 w29 w30 w31 w32 w33 w34 w35 w36 w37 w38 : Value} {I : Imm} {L : Own}, m < n → Inv m y5 y6 I L → N' ⟨#[s0, s1, s2, s3, s4, y5, y6, s7, s8, s9, s10, s11, s12, s13, w14, w15, w16, w17, w18, w19, w20, w21, w22, w23, w24, w25, w26, w27, w28, w29, w30, w31, w32, w33, w34, w35, w36, w37, w38, s39], []⟩ I L) → ∀ (u : Nat → Value), B28_0 N' (Q28_0 R) (endX R) s0 s1 s2 s3 s4 x5 x6 s7 s8 s9 s10 s11 s12 s13 (u 14) (u 15) (u 16) (u 17) (u 18) (u 19) (u 20) (u 21) (u 22) (u 23) (u 24) (u 25) (u 26) (u 27) (u 28) (u 29) (u 30) (u 31) (u 32) (u 33) (u 34) (u 35) (u 36) (u 37) (u 38) s39 I' L') : L28_0 R ⟨#[s0, s1, s2, s3, s4, x5, x6, s7, s8, s9, s10, s11, s12, s13, u14, u15, u16, u17, u18, u19, u20, u21, u22, u23, u24, u25, u26, u27, u28, u29, u30, u31, u32, u33, u34, u35, u36, u37, u38, s39], []⟩ I L :=
  loop_gen (by kernel_rfl) (fun n a I L => ∃ (x5 x6 : Value) (u : Nat → Value), a = (⟨#[s0, s1, s2, s3, s4, x5, x6, s7, s8, s9, s10, s11, s12, s13, u 14, u 15, u 16, u 17, u 18, u 19, u 20, u 21, u 22, u 23, u 24, u 25, u 26, u 27, u 28, u 29, u 30, u 31, u 32, u 33, u 34, u 35, u 36, u 37, u 38, s39], []⟩ : Act) ∧ Inv n x5 x6 I L) ⟨x5, x6, (fun i => (Act.tmps ⟨#[s0, s1, s2, s3, s4, x5, x6, s7, s8, s9, s10, s11, s12, s13, u14, u15, u16, u17, u18, u19, u20, u21, u22, u23, u24, u25, u26, u27, u28, u29, u30, u31, u32, u33, u34, u35, u36, u37, u38, s39], []⟩).getD i undef), (by kernel_rfl), h⟩
    (fun n a I' L' hle ⟨x5, x6, u, e, hi⟩ => e ▸ round28_0 (round n x5 x6 I' L' hle hi (fun a I L => ∃ m, m < n ∧ (fun n a I L => ∃ (x5 x6 : Value) (u : Nat → Value), a = (⟨#[s0, s1, s2, s3, s4, x5, x6, s7, s8, s9, s10, s11, s12, s13, u 14, u 15, u 16, u 17, u 18, u 19, u 20, u 21, u 22, u 23, u 24, u 25, u 26, u 27, u 28, u 29, u 30, u 31, u 32, u 33, u 34, u 35, u 36, u 37, u 38, s39], []⟩ : Act) ∧ Inv n x5 x6 I L) m a I L) (fun m => fun {y5 y6 w14 w15 w16 w17 w18 w19 w20 w21 w22 w23 w24 w25 w26 w27 w28 w29 w30 w31 w32 w33 w34 w35 w36 w37 w38 I L} hm hi => ⟨m, hm, y5, y6, (fun i => (Act.tmps ⟨#[s0, s1, s2, s3, s4, y5, y6, s7, s8, s9, s10, s11, s12, s13, w14, w15, w16, w17, w18, w19, w20, w21, w22, w23, w24, w25, w26, w27, w28, w29, w30, w31, w32, w33, w34, w35, w36, w37, w38, s39], []⟩).getD i undef), (by kernel_rfl), hi⟩) u))
theorem out28_0x0 {R : Ending → Imm → Own → Prop} {s0 s1 s2 s3 s4 s5 s6 s7 s8 s9 s10 s11 s12 s13 s14 s15 s16 s17 s18 s19 s20 s21 s22 s23 s24 s25 s26 s27 s28 s29 s30 s31 s32 s33 s34 s35 s36 s37 s38 s39 : Value} {I : Imm} {L : Own} (h : J28_1 R ⟨#[s0, s1, s2, s3, s4, s5, s6, s7, s8, s9, s10, s11, s12, s13, s14, s15, s16, s17, s18, s19, s20, s21, s22, s23, s24, s25, s26, s27, s28, s29, s30, s31, s32, s33, s34, s35, s36, s37, s38, s39], []⟩ I L) : Q28_0 R (.exit 0) ⟨#[s0, s1, s2, s3, s4, s5, s6, s7, s8, s9, s10, s11, s12, s13, s14, s15, s16, s17, s18, s19, s20, s21, s22, s23, s24, s25, s26, s27, s28, s29, s30, s31, s32, s33, s34, s35, s36, s37, s38, s39], []⟩ I L :=
  Eq.mpr (by kernel_rfl) h
def T28_1 (R : Ending → Imm → Own → Prop) (s0 s1 s2 s3 s4 s5 s6 s7 s8 s9 s10 s11 s12 s13 s14 s15 s16 s17 s18 s19 s20 s21 s22 s23 s24 s25 s26 s27 s28 s29 s30 s31 s32 s33 s34 s35 s36 s37 s38 s39 : Value) (I : Imm) (L : Own) : Prop :=
R (.returned s5) I L
theorem join28_1 {R : Ending → Imm → Own → Prop} {s0 s1 s2 s3 s4 s5 s6 s7 s8 s9 s10 s11 s12 s13 s14 s15 s16 s17 s18 s19 s20 s21 s22 s23 s24 s25 s26 s27 s28 s29 s30 s31 s32 s33 s34 s35 s36 s37 s38 s39 : Value} {I : Imm} {L : Own} (h : T28_1 R s0 s1 s2 s3 s4 s5 s6 s7 s8 s9 s10 s11 s12 s13 s14 s15 s16 s17 s18 s19 s20 s21 s22 s23 s24 s25 s26 s27 s28 s29 s30 s31 s32 s33 s34 s35 s36 s37 s38 s39 I L) : J28_1 R ⟨#[s0, s1, s2, s3, s4, s5, s6, s7, s8, s9, s10, s11, s12, s13, s14, s15, s16, s17, s18, s19, s20, s21, s22, s23, s24, s25, s26, s27, s28, s29, s30, s31, s32, s33, s34, s35, s36, s37, s38, s39], []⟩ I L :=
  sh_cut (fun _ => none) (O := True) (by kernel_rfl) trivial (by kernel_rfl) h
/-- 28: escritoire/escritoireref.covers -/
def M28 (R : Ending → Imm → Own → Prop) (x0 x1 : Value) (I : Imm) (L : Own) : Prop :=
 iad Try.prog 26 x0 x1 I L fun x10 I L =>
 fad Try.prog 42 x10 10 I L fun x11 I L =>
 ld Try.prog 9 x11 I L fun x12 I L =>
 cal Try.prog 38 #[x0, x12] I L (fun ch => (endX R) ch []) fun x13 I L =>
L28_0 R ⟨#[x0, x1, undef, undef, (.slice none 0 0), (.slice none 0 0), x13, x0, x0, x1, x10, x11, x12, x13, undef, undef, undef, undef, undef, undef, undef, undef, undef, undef, undef, undef, undef, undef, undef, undef, undef, undef, undef, undef, undef, undef, undef, undef, undef, undef], []⟩ I L
theorem go28 {R : Ending → Imm → Own → Prop} {x0 x1 : Value} {I : Imm} {L : Own} (h : M28 R x0 x1 I L) : wpC Try.prog 28 #[x0, x1] I L R :=
  wpC_go (fun p => if p = [0, 1, 0, 1, 1] then some (L28_0 R) else none) Try.func28 (by kernel_rfl) (O := (L28_0 R = L28_0 R) ∧ True) (by kernel_rfl) ⟨rfl, trivial⟩ (by kernel_rfl) h

/-- 30: (*escritoire/escritoireref.eyes).take -/
def M30 (R : Ending → Imm → Own → Prop) (x0 x1 : Value) (I : Imm) (L : Own) : Prop :=
 cal Try.prog 15 #[x0] I L (fun ch => (endX R) ch []) fun x6 I L =>
 eqn Try.prog .neq 9 false false x6 x1 I L fun x8 I L =>
 cnd x8
 (R (.returned (.bool false)) I L)
 (cal Try.prog 34 #[x0] I L (fun ch => (endX R) ch []) fun _ I L =>
R (.returned (.bool true)) I L)
theorem go30 {R : Ending → Imm → Own → Prop} {x0 x1 : Value} {I : Imm} {L : Own} (h : M30 R x0 x1 I L) : wpC Try.prog 30 #[x0, x1] I L R :=
  wpC_go (fun _ => none) Try.func30 (by kernel_rfl) (O := True) (by kernel_rfl) trivial (by kernel_rfl) h

/-- 31: escritoire/escritoireref.IsName -/
def M31 (R : Ending → Imm → Own → Prop) (x0 : Value) (I : Imm) (L : Own) : Prop :=
 eqn Try.prog .neq 9 false true x0 (S []) I L fun x4 I L =>
gd (yb (some x4) true) (fun k => k x0 I L) (fun x6 I L =>
gd (yb (some x4) true) (fun k => idx Try.prog 9 x6 (.int .i64 0) I L k) (fun x7 I L =>
gd (yb (some x4) true) (fun k => cal Try.prog 43 #[x7] I L (fun ch => (endX R) ch []) k) (fun x8 I L =>
pck x4 x8 (.bool false) I L fun x9 I L =>
R (.returned x9) I L) I L) I L) I L
theorem go31 {R : Ending → Imm → Own → Prop} {x0 : Value} {I : Imm} {L : Own} (h : M31 R x0 I L) : wpC Try.prog 31 #[x0] I L R :=
  wpC_go (fun _ => none) Try.func31 (by kernel_rfl) (O := True) (by kernel_rfl) trivial (by kernel_rfl) h

/-- 32: escritoire/escritoireref.isNum -/
def M32 (R : Ending → Imm → Own → Prop) (x0 : Value) (I : Imm) (L : Own) : Prop :=
 eqn Try.prog .neq 9 false true x0 (S []) I L fun x4 I L =>
gd (yb (some x4) true) (fun k => k x0 I L) (fun x6 I L =>
gd (yb (some x4) true) (fun k => bin Try.prog .add 9 (S [32]) x6 I L k) (fun x7 I L =>
gd (yb (some x4) true) (fun k => bin Try.prog .add 9 x7 (S [32]) I L k) (fun x8 I L =>
gd (yb (some x4) true) (fun k => cal Try.prog 33 #[(S [32, 117, 56, 32, 105, 56, 32, 117, 49, 54, 108, 101, 32, 117, 49, 54, 98, 101, 32, 105, 49, 54, 108, 101, 32, 105, 49, 54, 98, 101, 32, 117, 51, 50, 108, 101, 32, 117, 51, 50, 98, 101, 32, 105, 51, 50, 108, 101, 32, 105, 51, 50, 98, 101, 32, 105, 54, 52, 108, 101, 32, 105, 54, 52, 98, 101, 32]), x8] I L (fun ch => (endX R) ch []) k) (fun x9 I L =>
pck x4 x9 (.bool false) I L fun x10 I L =>
R (.returned x10) I L) I L) I L) I L) I L
theorem go32 {R : Ending → Imm → Own → Prop} {x0 : Value} {I : Imm} {L : Own} (h : M32 R x0 I L) : wpC Try.prog 32 #[x0] I L R :=
  wpC_go (fun _ => none) Try.func32 (by kernel_rfl) (O := True) (by kernel_rfl) trivial (by kernel_rfl) h

/-- 33: strings.Contains -/
def M33 (R : Ending → Imm → Own → Prop) (x0 x1 : Value) (I : Imm) (L : Own) : Prop :=
 cal Try.prog 46 #[x0, x1] I L (fun ch => (endX R) ch []) fun x7 I L =>
 bin Try.prog .geq 3 x7 (.int .i64 0) I L fun x8 I L =>
R (.returned x8) I L
theorem go33 {R : Ending → Imm → Own → Prop} {x0 x1 : Value} {I : Imm} {L : Own} (h : M33 R x0 x1 I L) : wpC Try.prog 33 #[x0, x1] I L R :=
  wpC_go (fun _ => none) Try.func33 (by kernel_rfl) (O := True) (by kernel_rfl) trivial (by kernel_rfl) h

/-- 34: (*escritoire/escritoireref.eyes).pass -/
def M34 (R : Ending → Imm → Own → Prop) (x0 : Value) (I : Imm) (L : Own) : Prop :=
 cal Try.prog 15 #[x0] I L (fun ch => (endX R) ch []) fun x5 I L =>
 eqn Try.prog .eql 9 false true x5 (S []) I L fun x7 I L =>
 cnd x7
 (cal Try.prog 17 #[x0] I L (fun ch => (endX R) ch []) fun x10 I L =>
 cal Try.prog 16 #[x0, (.int .i64 3), x10] I L (fun ch => (endX R) ch []) fun _ I L =>
R (.returned (S [])) I L)
 (nck Try.prog x0 I L fun x14 I L =>
 fad Try.prog 48 x14 0 I L fun x15 I L =>
 ld Try.prog 46 x15 I L fun x16 I L =>
 slc Try.prog 46 x16 (some (.int .i64 1)) none none I L fun x17 I L =>
 nck Try.prog x0 I L fun x18 I L =>
 fad Try.prog 48 x18 0 I L fun x19 I L =>
 sto Try.prog 46 x19 x17 I L fun _ I L =>
R (.returned x5) I L)
theorem go34 {R : Ending → Imm → Own → Prop} {x0 : Value} {I : Imm} {L : Own} (h : M34 R x0 I L) : wpC Try.prog 34 #[x0] I L R :=
  wpC_go (fun _ => none) Try.func34 (by kernel_rfl) (O := True) (by kernel_rfl) trivial (by kernel_rfl) h

def Q35_0 (R : Ending → Imm → Own → Prop) : Exit → Act → Imm → Own → Prop := (endT Try.prog Try.f35 R)
def J35_0 (R : Ending → Imm → Own → Prop) (a : Act) (I : Imm) (L : Own) : Prop := cdT Try.prog (cdIn Try.f35 [1, 1, 1, 1]) (Q35_0 R) (endX R) a I L
def Q35_1 (R : Ending → Imm → Own → Prop) : Exit → Act → Imm → Own → Prop := (seqT (cdT Try.prog (cdIn Try.f35 [1, 1, 1, 0, 0, 1, 1, 1, 1, 1, 0, 1, 1]) (blkT 0 (seqT (cdT Try.prog (cdIn Try.f35 [1, 1, 1, 1]) (endT Try.prog Try.f35 R) (endX R)) (endT Try.prog Try.f35 R))) (endX R)) (blkT 0 (seqT (cdT Try.prog (cdIn Try.f35 [1, 1, 1, 1]) (endT Try.prog Try.f35 R) (endX R)) (endT Try.prog Try.f35 R))))
def D35_1 (R : Ending → Imm → Own → Prop) (a : Act) (I : Imm) (L : Own) : Prop := cdT Try.prog (cdIn Try.f35 [1, 1, 1, 0, 0, 1, 1, 1, 1, 1, 0, 1, 0]) (Q35_1 R) (endX R) a I L
def Q35_2 (R : Ending → Imm → Own → Prop) : Exit → Act → Imm → Own → Prop := (seqT (cdT Try.prog (cdIn Try.f35 [1, 1, 1, 1, 1]) (Q35_0 R) (endX R)) (Q35_0 R))
def J35_2 (R : Ending → Imm → Own → Prop) (a : Act) (I : Imm) (L : Own) : Prop := cdT Try.prog (cdIn Try.f35 [1, 1, 1, 1, 0, 1, 1, 1, 0, 1, 1]) (Q35_2 R) (endX R) a I L
def Q35_3 (R : Ending → Imm → Own → Prop) : Exit → Act → Imm → Own → Prop := (blkT 0 (seqT (cdT Try.prog (cdIn Try.f35 [1, 1, 1, 1]) (endT Try.prog Try.f35 R) (endX R)) (endT Try.prog Try.f35 R)))
def J35_3 (R : Ending → Imm → Own → Prop) (a : Act) (I : Imm) (L : Own) : Prop := cdT Try.prog (cdIn Try.f35 [1, 1, 1, 0, 0, 1, 1, 1, 1, 1, 0, 1, 1]) (Q35_3 R) (endX R) a I L
def Q35_4 (R : Ending → Imm → Own → Prop) : Exit → Act → Imm → Own → Prop := (Q35_0 R)
def J35_4 (R : Ending → Imm → Own → Prop) (a : Act) (I : Imm) (L : Own) : Prop := cdT Try.prog (cdIn Try.f35 [1, 1, 1, 1, 1]) (Q35_4 R) (endX R) a I L
def T35_0 (R : Ending → Imm → Own → Prop) (s0 s1 s2 s3 s4 s5 s6 s7 s8 s9 s10 s11 s12 s13 s14 s15 s16 s17 s18 s19 s20 s21 s22 s23 s24 s25 s26 s27 s28 s29 s30 s31 s32 s33 s34 s35 s36 s37 s38 s39 s40 s41 s42 s43 s44 s45 s46 s47 s48 s49 s50 s51 s52 s53 s54 s55 s56 s57 s58 s59 s60 s61 s62 s63 s64 s65 s66 s67 s68 s69 s70 s71 s72 s73 s74 s75 s76 s77 s78 s79 s80 s81 s82 s83 s84 s85 s86 s87 s88 s89 s90 s91 s92 s93 s94 s95 s96 s97 s98 s99 s100 s101 s102 s103 s104 s105 s106 s107 s108 s109 s110 s111 s112 s113 s114 s115 s116 s117 s118 s119 s120 s121 s122 : Value) (I : Imm) (L : Own) : Prop :=
 fad Try.prog 42 s5 0 I L fun x70 I L =>
 ld Try.prog 3 x70 I L fun x71 I L =>
 eqn Try.prog .neq 3 false true x71 (.int .i64 2) I L fun x72 I L =>
gd (yb (some x72) true) (fun k => k s0 I L) (fun x74 I L =>
gd (yb (some x72) true) (fun k => cal Try.prog 15 #[x74] I L (fun ch => (endX R) ch []) k) (fun x75 I L =>
gd (yb (some x72) true) (fun k => eqn Try.prog .eql 9 false true x75 (S [91]) I L k) (fun x76 I L =>
pck x72 x76 (.bool false) I L fun x77 I L =>
 cnd x77
 (cal Try.prog 48 #[s0] I L (fun ch => (endX R) ch []) fun x79 I L =>
 fad Try.prog 42 s5 7 I L fun x80 I L =>
 sto Try.prog 4 x80 (.bool true) I L fun _ I L =>
 fad Try.prog 42 s5 8 I L fun x81 I L =>
 sto Try.prog 40 x81 x79 I L fun _ I L =>
 cal Try.prog 18 #[s0, (S [59])] I L (fun ch => (endX R) ch []) fun _ I L =>
 ld Try.prog 42 s5 I L fun x122 I L =>
 sto Try.prog 42 s4 x122 I L fun _ I L =>
 rcl Try.prog 42 s4 I L fun r0 =>
R (.returned r0) I L)
 (fad Try.prog 42 s5 0 I L fun x82 I L =>
 ld Try.prog 3 x82 I L fun x83 I L =>
 eqn Try.prog .eql 3 false true x83 (.int .i64 1) I L fun x84 I L =>
gd (yb (some x84) true) (fun k => k s0 I L) (fun x86 I L =>
gd (yb (some x84) true) (fun k => cal Try.prog 30 #[x86, (S [61])] I L (fun ch => (endX R) ch []) k) (fun x87 I L =>
pck x84 x87 (.bool false) I L fun x88 I L =>
 cnd x88
 (cal Try.prog 17 #[s0] I L (fun ch => (endX R) ch []) fun x90 I L =>
 cal Try.prog 34 #[s0] I L (fun ch => (endX R) ch []) fun x92 I L =>
 eqn Try.prog .eql 9 false true x92 (S [115, 105, 122, 101]) I L fun x97 I L =>
 cnd x97
 (fad Try.prog 42 s5 9 I L fun x98 I L =>
 sto Try.prog 3 x98 (.int .i64 1) I L fun _ I L =>
J35_2 R ⟨#[s0, s1, s2, s3, s4, s5, s6, x90, s8, s9, s10, s11, s12, s13, s14, s15, s16, s17, s18, s19, s20, s21, s22, s23, s24, s25, s26, s27, s28, s29, s30, s31, s32, s33, s34, s35, s36, s37, s38, s39, s40, s41, s42, s43, s44, s45, s46, s47, s48, s49, s50, s51, s52, s53, s54, s55, s56, s57, s58, s59, s60, s61, s62, s63, s64, s65, s66, s67, s68, s69, x70, x71, x72, x72, x74, x75, x76, x77, s78, s79, s80, s81, x82, x83, x84, x84, x86, x87, x88, s0, x90, s0, x92, s93, s94, s95, x97, x97, x98, s99, s100, s101, s102, s103, s104, s105, s106, s107, s108, s109, s110, s111, s112, s113, s114, s115, s116, s117, s118, s119, s120, s121, s122], []⟩ I L)
 (eqn Try.prog .eql 9 false true x92 (S [99, 111, 117, 110, 116]) I L fun x100 I L =>
 cnd x100
 (fad Try.prog 42 s5 9 I L fun x101 I L =>
 sto Try.prog 3 x101 (.int .i64 2) I L fun _ I L =>
J35_2 R ⟨#[s0, s1, s2, s3, s4, s5, s6, x90, s8, s9, s10, s11, s12, s13, s14, s15, s16, s17, s18, s19, s20, s21, s22, s23, s24, s25, s26, s27, s28, s29, s30, s31, s32, s33, s34, s35, s36, s37, s38, s39, s40, s41, s42, s43, s44, s45, s46, s47, s48, s49, s50, s51, s52, s53, s54, s55, s56, s57, s58, s59, s60, s61, s62, s63, s64, s65, s66, s67, s68, s69, x70, x71, x72, x72, x74, x75, x76, x77, s78, s79, s80, s81, x82, x83, x84, x84, x86, x87, x88, s0, x90, s0, x92, s93, s94, s95, x97, x97, s98, x100, x100, x101, s102, s103, s104, s105, s106, s107, s108, s109, s110, s111, s112, s113, s114, s115, s116, s117, s118, s119, s120, s121, s122], []⟩ I L)
 (eqn Try.prog .eql 9 false true x92 (S [99, 104, 101, 99, 107]) I L fun x103 I L =>
 cnd x103
 (fad Try.prog 42 s5 9 I L fun x104 I L =>
 sto Try.prog 3 x104 (.int .i64 3) I L fun _ I L =>
J35_2 R ⟨#[s0, s1, s2, s3, s4, s5, s6, x90, s8, s9, s10, s11, s12, s13, s14, s15, s16, s17, s18, s19, s20, s21, s22, s23, s24, s25, s26, s27, s28, s29, s30, s31, s32, s33, s34, s35, s36, s37, s38, s39, s40, s41, s42, s43, s44, s45, s46, s47, s48, s49, s50, s51, s52, s53, s54, s55, s56, s57, s58, s59, s60, s61, s62, s63, s64, s65, s66, s67, s68, s69, x70, x71, x72, x72, x74, x75, x76, x77, s78, s79, s80, s81, x82, x83, x84, x84, x86, x87, x88, s0, x90, s0, x92, s93, s94, s95, x97, x97, s98, x100, x100, s101, x103, x103, x104, s105, s106, s107, s108, s109, s110, s111, s112, s113, s114, s115, s116, s117, s118, s119, s120, s121, s122], []⟩ I L)
 (cal Try.prog 16 #[s0, (.int .i64 3), x90] I L (fun ch => (endX R) ch []) fun x95 I L =>
J35_2 R ⟨#[s0, s1, s2, s3, s4, s5, s6, x90, s8, s9, s10, s11, s12, s13, s14, s15, s16, s17, s18, s19, s20, s21, s22, s23, s24, s25, s26, s27, s28, s29, s30, s31, s32, s33, s34, s35, s36, s37, s38, s39, s40, s41, s42, s43, s44, s45, s46, s47, s48, s49, s50, s51, s52, s53, s54, s55, s56, s57, s58, s59, s60, s61, s62, s63, s64, s65, s66, s67, s68, s69, x70, x71, x72, x72, x74, x75, x76, x77, s78, s79, s80, s81, x82, x83, x84, x84, x86, x87, x88, s0, x90, s0, x92, s0, x90, x95, x97, x97, s98, x100, x100, s101, x103, x103, s104, s105, s106, s107, s108, s109, s110, s111, s112, s113, s114, s115, s116, s117, s118, s119, s120, s121, s122], []⟩ I L))))
 (cal Try.prog 18 #[s0, (S [59])] I L (fun ch => (endX R) ch []) fun _ I L =>
 ld Try.prog 42 s5 I L fun x122 I L =>
 sto Try.prog 42 s4 x122 I L fun _ I L =>
 rcl Try.prog 42 s4 I L fun r0 =>
R (.returned r0) I L)) I L) I L)) I L) I L) I L
theorem join35_0 {R : Ending → Imm → Own → Prop} {s0 s1 s2 s3 s4 s5 s6 s7 s8 s9 s10 s11 s12 s13 s14 s15 s16 s17 s18 s19 s20 s21 s22 s23 s24 s25 s26 s27 s28 s29 s30 s31 s32 s33 s34 s35 s36 s37 s38 s39 s40 s41 s42 s43 s44 s45 s46 s47 s48 s49 s50 s51 s52 s53 s54 s55 s56 s57 s58 s59 s60 s61 s62 s63 s64 s65 s66 s67 s68 s69 s70 s71 s72 s73 s74 s75 s76 s77 s78 s79 s80 s81 s82 s83 s84 s85 s86 s87 s88 s89 s90 s91 s92 s93 s94 s95 s96 s97 s98 s99 s100 s101 s102 s103 s104 s105 s106 s107 s108 s109 s110 s111 s112 s113 s114 s115 s116 s117 s118 s119 s120 s121 s122 : Value} {I : Imm} {L : Own} (h : T35_0 R s0 s1 s2 s3 s4 s5 s6 s7 s8 s9 s10 s11 s12 s13 s14 s15 s16 s17 s18 s19 s20 s21 s22 s23 s24 s25 s26 s27 s28 s29 s30 s31 s32 s33 s34 s35 s36 s37 s38 s39 s40 s41 s42 s43 s44 s45 s46 s47 s48 s49 s50 s51 s52 s53 s54 s55 s56 s57 s58 s59 s60 s61 s62 s63 s64 s65 s66 s67 s68 s69 s70 s71 s72 s73 s74 s75 s76 s77 s78 s79 s80 s81 s82 s83 s84 s85 s86 s87 s88 s89 s90 s91 s92 s93 s94 s95 s96 s97 s98 s99 s100 s101 s102 s103 s104 s105 s106 s107 s108 s109 s110 s111 s112 s113 s114 s115 s116 s117 s118 s119 s120 s121 s122 I L) : J35_0 R ⟨#[s0, s1, s2, s3, s4, s5, s6, s7, s8, s9, s10, s11, s12, s13, s14, s15, s16, s17, s18, s19, s20, s21, s22, s23, s24, s25, s26, s27, s28, s29, s30, s31, s32, s33, s34, s35, s36, s37, s38, s39, s40, s41, s42, s43, s44, s45, s46, s47, s48, s49, s50, s51, s52, s53, s54, s55, s56, s57, s58, s59, s60, s61, s62, s63, s64, s65, s66, s67, s68, s69, s70, s71, s72, s73, s74, s75, s76, s77, s78, s79, s80, s81, s82, s83, s84, s85, s86, s87, s88, s89, s90, s91, s92, s93, s94, s95, s96, s97, s98, s99, s100, s101, s102, s103, s104, s105, s106, s107, s108, s109, s110, s111, s112, s113, s114, s115, s116, s117, s118, s119, s120, s121, s122], []⟩ I L :=
  sh_cut (fun p => if p = [1, 1, 0, 1, 1, 1, 0] then some (J35_2 R) else none) (O := (J35_2 R = J35_2 R) ∧ True) (by kernel_rfl) ⟨rfl, trivial⟩ (by kernel_rfl) h
def G35_1 (R : Ending → Imm → Own → Prop) (C : Cls) (s0 s1 s2 s3 s4 s5 s6 s7 s8 s9 s10 s11 s12 s13 s14 s15 s16 s17 s18 s19 s20 s21 s22 s23 s24 s25 s26 s27 s28 s29 s30 s31 s32 s33 s34 s35 s36 s37 s38 s39 s40 s41 s42 s43 s44 s45 s46 s47 s48 s49 s50 s51 s52 s53 s54 s55 s56 s57 s58 s59 s60 s61 s62 s63 s64 s65 s66 s67 s68 s69 s70 s71 s72 s73 s74 s75 s76 s77 s78 s79 s80 s81 s82 s83 s84 s85 s86 s87 s88 s89 s90 s91 s92 s93 s94 s95 s96 s97 s98 s99 s100 s101 s102 s103 s104 s105 s106 s107 s108 s109 s110 s111 s112 s113 s114 s115 s116 s117 s118 s119 s120 s121 s122 : Value) (I : Imm) (L : Own) : Prop :=
 qidx Try.prog 9 s6 (.int .i64 0) C fun x53 =>
 qeqn Try.prog .eql 5 false true x53 (.int .u8 105) C fun x54 =>
 qfad Try.prog 42 s5 0 C fun x55 =>
 sto Try.prog 3 x55 (.int .i64 1) I L fun _ I L =>
 (C I L ∧
 qfad Try.prog 42 s5 6 C fun x56 =>
 sto Try.prog 4 x56 x54 I L fun _ I L =>
J35_3 R ⟨#[s0, s1, s2, s3, s4, s5, s6, s7, s8, s9, s10, s11, s12, s13, s14, s15, s16, s17, s18, s19, s20, s21, s22, s23, s24, s25, s26, s27, s28, s29, s30, s31, s32, s33, s34, s35, s36, s37, s38, s39, s40, s41, s42, s43, s44, s45, s46, s47, s48, s49, s50, s51, s6, x53, x54, x55, x56, s57, s58, s59, s60, s61, s62, s63, s64, s65, s66, s67, s68, s69, s70, s71, s72, s73, s74, s75, s76, s77, s78, s79, s80, s81, s82, s83, s84, s85, s86, s87, s88, s89, s90, s91, s92, s93, s94, s95, s96, s97, s98, s99, s100, s101, s102, s103, s104, s105, s106, s107, s108, s109, s110, s111, s112, s113, s114, s115, s116, s117, s118, s119, s120, s121, s122], []⟩ I L)
theorem draw35_1 {R : Ending → Imm → Own → Prop} {C : Cls} {s0 s1 s2 s3 s4 s5 s6 s7 s8 s9 s10 s11 s12 s13 s14 s15 s16 s17 s18 s19 s20 s21 s22 s23 s24 s25 s26 s27 s28 s29 s30 s31 s32 s33 s34 s35 s36 s37 s38 s39 s40 s41 s42 s43 s44 s45 s46 s47 s48 s49 s50 s51 s52 s53 s54 s55 s56 s57 s58 s59 s60 s61 s62 s63 s64 s65 s66 s67 s68 s69 s70 s71 s72 s73 s74 s75 s76 s77 s78 s79 s80 s81 s82 s83 s84 s85 s86 s87 s88 s89 s90 s91 s92 s93 s94 s95 s96 s97 s98 s99 s100 s101 s102 s103 s104 s105 s106 s107 s108 s109 s110 s111 s112 s113 s114 s115 s116 s117 s118 s119 s120 s121 s122 : Value} {I : Imm} {L : Own} (hC : C I L) (h : G35_1 R C s0 s1 s2 s3 s4 s5 s6 s7 s8 s9 s10 s11 s12 s13 s14 s15 s16 s17 s18 s19 s20 s21 s22 s23 s24 s25 s26 s27 s28 s29 s30 s31 s32 s33 s34 s35 s36 s37 s38 s39 s40 s41 s42 s43 s44 s45 s46 s47 s48 s49 s50 s51 s52 s53 s54 s55 s56 s57 s58 s59 s60 s61 s62 s63 s64 s65 s66 s67 s68 s69 s70 s71 s72 s73 s74 s75 s76 s77 s78 s79 s80 s81 s82 s83 s84 s85 s86 s87 s88 s89 s90 s91 s92 s93 s94 s95 s96 s97 s98 s99 s100 s101 s102 s103 s104 s105 s106 s107 s108 s109 s110 s111 s112 s113 s114 s115 s116 s117 s118 s119 s120 s121 s122 I L) : D35_1 R ⟨#[s0, s1, s2, s3, s4, s5, s6, s7, s8, s9, s10, s11, s12, s13, s14, s15, s16, s17, s18, s19, s20, s21, s22, s23, s24, s25, s26, s27, s28, s29, s30, s31, s32, s33, s34, s35, s36, s37, s38, s39, s40, s41, s42, s43, s44, s45, s46, s47, s48, s49, s50, s51, s52, s53, s54, s55, s56, s57, s58, s59, s60, s61, s62, s63, s64, s65, s66, s67, s68, s69, s70, s71, s72, s73, s74, s75, s76, s77, s78, s79, s80, s81, s82, s83, s84, s85, s86, s87, s88, s89, s90, s91, s92, s93, s94, s95, s96, s97, s98, s99, s100, s101, s102, s103, s104, s105, s106, s107, s108, s109, s110, s111, s112, s113, s114, s115, s116, s117, s118, s119, s120, s121, s122], []⟩ I L :=
  draw_plan (ops := opsIn Try.f35 [1, 1, 1, 0, 0, 1, 1, 1, 1, 1, 0, 1, 0]) (id := 16) (Q := Q35_1 R) (X := (endX R)) (.take 0 (.take 1 (.take 2 (.take 3 (.all fun _ => (.take 5 (.all fun _ => .done))))))) [6] (by kernel_rfl) rfl (by kernel_rfl) (by kernel_rfl) hC h
def T35_2 (R : Ending → Imm → Own → Prop) (s0 s1 s2 s3 s4 s5 s6 s7 s8 s9 s10 s11 s12 s13 s14 s15 s16 s17 s18 s19 s20 s21 s22 s23 s24 s25 s26 s27 s28 s29 s30 s31 s32 s33 s34 s35 s36 s37 s38 s39 s40 s41 s42 s43 s44 s45 s46 s47 s48 s49 s50 s51 s52 s53 s54 s55 s56 s57 s58 s59 s60 s61 s62 s63 s64 s65 s66 s67 s68 s69 s70 s71 s72 s73 s74 s75 s76 s77 s78 s79 s80 s81 s82 s83 s84 s85 s86 s87 s88 s89 s90 s91 s92 s93 s94 s95 s96 s97 s98 s99 s100 s101 s102 s103 s104 s105 s106 s107 s108 s109 s110 s111 s112 s113 s114 s115 s116 s117 s118 s119 s120 s121 s122 : Value) (I : Imm) (L : Own) : Prop :=
 cal Try.prog 19 #[s0] I L (fun ch => (endX R) ch []) fun x106 I L =>
 fad Try.prog 42 s5 10 I L fun x107 I L =>
 sto Try.prog 9 x107 x106 I L fun _ I L =>
 fad Try.prog 42 s5 9 I L fun x108 I L =>
 ld Try.prog 3 x108 I L fun x109 I L =>
 eqn Try.prog .eql 3 false true x109 (.int .i64 3) I L fun x110 I L =>
 cnd x110
 (fad Try.prog 42 s5 10 I L fun x111 I L =>
 ld Try.prog 9 x111 I L fun x112 I L =>
 fad Try.prog 42 s5 11 I L fun x113 I L =>
 sto Try.prog 9 x113 x112 I L fun _ I L =>
 cal Try.prog 15 #[s0] I L (fun ch => (endX R) ch []) fun x115 I L =>
 eqn Try.prog .neq 9 false true x115 (S [59]) I L fun x116 I L =>
 cnd x116
 (cal Try.prog 19 #[s0] I L (fun ch => (endX R) ch []) fun x118 I L =>
 fad Try.prog 42 s5 11 I L fun x119 I L =>
 sto Try.prog 9 x119 x118 I L fun _ I L =>
J35_4 R ⟨#[s0, s1, s2, s3, s4, s5, s6, s7, s8, s9, s10, s11, s12, s13, s14, s15, s16, s17, s18, s19, s20, s21, s22, s23, s24, s25, s26, s27, s28, s29, s30, s31, s32, s33, s34, s35, s36, s37, s38, s39, s40, s41, s42, s43, s44, s45, s46, s47, s48, s49, s50, s51, s52, s53, s54, s55, s56, s57, s58, s59, s60, s61, s62, s63, s64, s65, s66, s67, s68, s69, s70, s71, s72, s73, s74, s75, s76, s77, s78, s79, s80, s81, s82, s83, s84, s85, s86, s87, s88, s89, s90, s91, s92, s93, s94, s95, s96, s97, s98, s99, s100, s101, s102, s103, s104, s0, x106, x107, x108, x109, x110, x111, x112, x113, s0, x115, x116, s0, x118, x119, s120, s121, s122], []⟩ I L)
 (J35_4 R ⟨#[s0, s1, s2, s3, s4, s5, s6, s7, s8, s9, s10, s11, s12, s13, s14, s15, s16, s17, s18, s19, s20, s21, s22, s23, s24, s25, s26, s27, s28, s29, s30, s31, s32, s33, s34, s35, s36, s37, s38, s39, s40, s41, s42, s43, s44, s45, s46, s47, s48, s49, s50, s51, s52, s53, s54, s55, s56, s57, s58, s59, s60, s61, s62, s63, s64, s65, s66, s67, s68, s69, s70, s71, s72, s73, s74, s75, s76, s77, s78, s79, s80, s81, s82, s83, s84, s85, s86, s87, s88, s89, s90, s91, s92, s93, s94, s95, s96, s97, s98, s99, s100, s101, s102, s103, s104, s0, x106, x107, x108, x109, x110, x111, x112, x113, s0, x115, x116, s117, s118, s119, s120, s121, s122], []⟩ I L))
 (J35_4 R ⟨#[s0, s1, s2, s3, s4, s5, s6, s7, s8, s9, s10, s11, s12, s13, s14, s15, s16, s17, s18, s19, s20, s21, s22, s23, s24, s25, s26, s27, s28, s29, s30, s31, s32, s33, s34, s35, s36, s37, s38, s39, s40, s41, s42, s43, s44, s45, s46, s47, s48, s49, s50, s51, s52, s53, s54, s55, s56, s57, s58, s59, s60, s61, s62, s63, s64, s65, s66, s67, s68, s69, s70, s71, s72, s73, s74, s75, s76, s77, s78, s79, s80, s81, s82, s83, s84, s85, s86, s87, s88, s89, s90, s91, s92, s93, s94, s95, s96, s97, s98, s99, s100, s101, s102, s103, s104, s0, x106, x107, x108, x109, x110, s111, s112, s113, s114, s115, s116, s117, s118, s119, s120, s121, s122], []⟩ I L)
theorem join35_2 {R : Ending → Imm → Own → Prop} {s0 s1 s2 s3 s4 s5 s6 s7 s8 s9 s10 s11 s12 s13 s14 s15 s16 s17 s18 s19 s20 s21 s22 s23 s24 s25 s26 s27 s28 s29 s30 s31 s32 s33 s34 s35 s36 s37 s38 s39 s40 s41 s42 s43 s44 s45 s46 s47 s48 s49 s50 s51 s52 s53 s54 s55 s56 s57 s58 s59 s60 s61 s62 s63 s64 s65 s66 s67 s68 s69 s70 s71 s72 s73 s74 s75 s76 s77 s78 s79 s80 s81 s82 s83 s84 s85 s86 s87 s88 s89 s90 s91 s92 s93 s94 s95 s96 s97 s98 s99 s100 s101 s102 s103 s104 s105 s106 s107 s108 s109 s110 s111 s112 s113 s114 s115 s116 s117 s118 s119 s120 s121 s122 : Value} {I : Imm} {L : Own} (h : T35_2 R s0 s1 s2 s3 s4 s5 s6 s7 s8 s9 s10 s11 s12 s13 s14 s15 s16 s17 s18 s19 s20 s21 s22 s23 s24 s25 s26 s27 s28 s29 s30 s31 s32 s33 s34 s35 s36 s37 s38 s39 s40 s41 s42 s43 s44 s45 s46 s47 s48 s49 s50 s51 s52 s53 s54 s55 s56 s57 s58 s59 s60 s61 s62 s63 s64 s65 s66 s67 s68 s69 s70 s71 s72 s73 s74 s75 s76 s77 s78 s79 s80 s81 s82 s83 s84 s85 s86 s87 s88 s89 s90 s91 s92 s93 s94 s95 s96 s97 s98 s99 s100 s101 s102 s103 s104 s105 s106 s107 s108 s109 s110 s111 s112 s113 s114 s115 s116 s117 s118 s119 s120 s121 s122 I L) : J35_2 R ⟨#[s0, s1, s2, s3, s4, s5, s6, s7, s8, s9, s10, s11, s12, s13, s14, s15, s16, s17, s18, s19, s20, s21, s22, s23, s24, s25, s26, s27, s28, s29, s30, s31, s32, s33, s34, s35, s36, s37, s38, s39, s40, s41, s42, s43, s44, s45, s46, s47, s48, s49, s50, s51, s52, s53, s54, s55, s56, s57, s58, s59, s60, s61, s62, s63, s64, s65, s66, s67, s68, s69, s70, s71, s72, s73, s74, s75, s76, s77, s78, s79, s80, s81, s82, s83, s84, s85, s86, s87, s88, s89, s90, s91, s92, s93, s94, s95, s96, s97, s98, s99, s100, s101, s102, s103, s104, s105, s106, s107, s108, s109, s110, s111, s112, s113, s114, s115, s116, s117, s118, s119, s120, s121, s122], []⟩ I L :=
  sh_cut (fun _ => none) (O := True) (by kernel_rfl) trivial (by kernel_rfl) h
def T35_3 (R : Ending → Imm → Own → Prop) (s0 s1 s2 s3 s4 s5 s6 s7 s8 s9 s10 s11 s12 s13 s14 s15 s16 s17 s18 s19 s20 s21 s22 s23 s24 s25 s26 s27 s28 s29 s30 s31 s32 s33 s34 s35 s36 s37 s38 s39 s40 s41 s42 s43 s44 s45 s46 s47 s48 s49 s50 s51 s52 s53 s54 s55 s56 s57 s58 s59 s60 s61 s62 s63 s64 s65 s66 s67 s68 s69 s70 s71 s72 s73 s74 s75 s76 s77 s78 s79 s80 s81 s82 s83 s84 s85 s86 s87 s88 s89 s90 s91 s92 s93 s94 s95 s96 s97 s98 s99 s100 s101 s102 s103 s104 s105 s106 s107 s108 s109 s110 s111 s112 s113 s114 s115 s116 s117 s118 s119 s120 s121 s122 : Value) (I : Imm) (L : Own) : Prop :=
 mkm Try.prog 82 none I L fun x57 I L =>
 mup Try.prog 82 x57 (.int .u8 56) (.int .i64 1) I L fun _ I L =>
 mup Try.prog 82 x57 (.int .u8 49) (.int .i64 2) I L fun _ I L =>
 mup Try.prog 82 x57 (.int .u8 51) (.int .i64 4) I L fun _ I L =>
 mup Try.prog 82 x57 (.int .u8 54) (.int .i64 8) I L fun _ I L =>
 idx Try.prog 9 s6 (.int .i64 1) I L fun x60 I L =>
 lkp Try.prog 82 x57 x60 false I L fun x61 I L =>
 fad Try.prog 42 s5 4 I L fun x62 I L =>
 sto Try.prog 3 x62 x61 I L fun _ I L =>
 cal Try.prog 50 #[s6, (S [98, 101])] I L (fun ch => (endX R) ch []) fun x64 I L =>
 cal Try.prog 49 #[x64] I L (fun ch => (endX R) ch []) fun x65 I L =>
 fad Try.prog 42 s5 5 I L fun x66 I L =>
 sto Try.prog 3 x66 x65 I L fun _ I L =>
 cal Try.prog 19 #[s0] I L (fun ch => (endX R) ch []) fun x68 I L =>
 fad Try.prog 42 s5 2 I L fun x69 I L =>
 sto Try.prog 9 x69 x68 I L fun _ I L =>
J35_0 R ⟨#[s0, s1, s2, s3, s4, s5, s6, s7, s8, s9, s10, s11, s12, s13, s14, s15, s16, s17, s18, s19, s20, s21, s22, s23, s24, s25, s26, s27, s28, s29, s30, s31, s32, s33, s34, s35, s36, s37, s38, s39, s40, s41, s42, s43, s44, s45, s46, s47, s48, s49, s50, s51, s52, s53, s54, s55, s56, x57, x57, s6, x60, x61, x62, s6, x64, x65, x66, s0, x68, x69, s70, s71, s72, s73, s74, s75, s76, s77, s78, s79, s80, s81, s82, s83, s84, s85, s86, s87, s88, s89, s90, s91, s92, s93, s94, s95, s96, s97, s98, s99, s100, s101, s102, s103, s104, s105, s106, s107, s108, s109, s110, s111, s112, s113, s114, s115, s116, s117, s118, s119, s120, s121, s122], []⟩ I L
theorem join35_3 {R : Ending → Imm → Own → Prop} {s0 s1 s2 s3 s4 s5 s6 s7 s8 s9 s10 s11 s12 s13 s14 s15 s16 s17 s18 s19 s20 s21 s22 s23 s24 s25 s26 s27 s28 s29 s30 s31 s32 s33 s34 s35 s36 s37 s38 s39 s40 s41 s42 s43 s44 s45 s46 s47 s48 s49 s50 s51 s52 s53 s54 s55 s56 s57 s58 s59 s60 s61 s62 s63 s64 s65 s66 s67 s68 s69 s70 s71 s72 s73 s74 s75 s76 s77 s78 s79 s80 s81 s82 s83 s84 s85 s86 s87 s88 s89 s90 s91 s92 s93 s94 s95 s96 s97 s98 s99 s100 s101 s102 s103 s104 s105 s106 s107 s108 s109 s110 s111 s112 s113 s114 s115 s116 s117 s118 s119 s120 s121 s122 : Value} {I : Imm} {L : Own} (h : T35_3 R s0 s1 s2 s3 s4 s5 s6 s7 s8 s9 s10 s11 s12 s13 s14 s15 s16 s17 s18 s19 s20 s21 s22 s23 s24 s25 s26 s27 s28 s29 s30 s31 s32 s33 s34 s35 s36 s37 s38 s39 s40 s41 s42 s43 s44 s45 s46 s47 s48 s49 s50 s51 s52 s53 s54 s55 s56 s57 s58 s59 s60 s61 s62 s63 s64 s65 s66 s67 s68 s69 s70 s71 s72 s73 s74 s75 s76 s77 s78 s79 s80 s81 s82 s83 s84 s85 s86 s87 s88 s89 s90 s91 s92 s93 s94 s95 s96 s97 s98 s99 s100 s101 s102 s103 s104 s105 s106 s107 s108 s109 s110 s111 s112 s113 s114 s115 s116 s117 s118 s119 s120 s121 s122 I L) : J35_3 R ⟨#[s0, s1, s2, s3, s4, s5, s6, s7, s8, s9, s10, s11, s12, s13, s14, s15, s16, s17, s18, s19, s20, s21, s22, s23, s24, s25, s26, s27, s28, s29, s30, s31, s32, s33, s34, s35, s36, s37, s38, s39, s40, s41, s42, s43, s44, s45, s46, s47, s48, s49, s50, s51, s52, s53, s54, s55, s56, s57, s58, s59, s60, s61, s62, s63, s64, s65, s66, s67, s68, s69, s70, s71, s72, s73, s74, s75, s76, s77, s78, s79, s80, s81, s82, s83, s84, s85, s86, s87, s88, s89, s90, s91, s92, s93, s94, s95, s96, s97, s98, s99, s100, s101, s102, s103, s104, s105, s106, s107, s108, s109, s110, s111, s112, s113, s114, s115, s116, s117, s118, s119, s120, s121, s122], []⟩ I L :=
  sh_cut (fun _ => none) (O := True) (by kernel_rfl) trivial (by kernel_rfl) h
def T35_4 (R : Ending → Imm → Own → Prop) (s0 s1 s2 s3 s4 s5 s6 s7 s8 s9 s10 s11 s12 s13 s14 s15 s16 s17 s18 s19 s20 s21 s22 s23 s24 s25 s26 s27 s28 s29 s30 s31 s32 s33 s34 s35 s36 s37 s38 s39 s40 s41 s42 s43 s44 s45 s46 s47 s48 s49 s50 s51 s52 s53 s54 s55 s56 s57 s58 s59 s60 s61 s62 s63 s64 s65 s66 s67 s68 s69 s70 s71 s72 s73 s74 s75 s76 s77 s78 s79 s80 s81 s82 s83 s84 s85 s86 s87 s88 s89 s90 s91 s92 s93 s94 s95 s96 s97 s98 s99 s100 s101 s102 s103 s104 s105 s106 s107 s108 s109 s110 s111 s112 s113 s114 s115 s116 s117 s118 s119 s120 s121 s122 : Value) (I : Imm) (L : Own) : Prop :=
 cal Try.prog 18 #[s0, (S [59])] I L (fun ch => (endX R) ch []) fun _ I L =>
 ld Try.prog 42 s5 I L fun x122 I L =>
 sto Try.prog 42 s4 x122 I L fun _ I L =>
 rcl Try.prog 42 s4 I L fun r0 =>
R (.returned r0) I L
theorem join35_4 {R : Ending → Imm → Own → Prop} {s0 s1 s2 s3 s4 s5 s6 s7 s8 s9 s10 s11 s12 s13 s14 s15 s16 s17 s18 s19 s20 s21 s22 s23 s24 s25 s26 s27 s28 s29 s30 s31 s32 s33 s34 s35 s36 s37 s38 s39 s40 s41 s42 s43 s44 s45 s46 s47 s48 s49 s50 s51 s52 s53 s54 s55 s56 s57 s58 s59 s60 s61 s62 s63 s64 s65 s66 s67 s68 s69 s70 s71 s72 s73 s74 s75 s76 s77 s78 s79 s80 s81 s82 s83 s84 s85 s86 s87 s88 s89 s90 s91 s92 s93 s94 s95 s96 s97 s98 s99 s100 s101 s102 s103 s104 s105 s106 s107 s108 s109 s110 s111 s112 s113 s114 s115 s116 s117 s118 s119 s120 s121 s122 : Value} {I : Imm} {L : Own} (h : T35_4 R s0 s1 s2 s3 s4 s5 s6 s7 s8 s9 s10 s11 s12 s13 s14 s15 s16 s17 s18 s19 s20 s21 s22 s23 s24 s25 s26 s27 s28 s29 s30 s31 s32 s33 s34 s35 s36 s37 s38 s39 s40 s41 s42 s43 s44 s45 s46 s47 s48 s49 s50 s51 s52 s53 s54 s55 s56 s57 s58 s59 s60 s61 s62 s63 s64 s65 s66 s67 s68 s69 s70 s71 s72 s73 s74 s75 s76 s77 s78 s79 s80 s81 s82 s83 s84 s85 s86 s87 s88 s89 s90 s91 s92 s93 s94 s95 s96 s97 s98 s99 s100 s101 s102 s103 s104 s105 s106 s107 s108 s109 s110 s111 s112 s113 s114 s115 s116 s117 s118 s119 s120 s121 s122 I L) : J35_4 R ⟨#[s0, s1, s2, s3, s4, s5, s6, s7, s8, s9, s10, s11, s12, s13, s14, s15, s16, s17, s18, s19, s20, s21, s22, s23, s24, s25, s26, s27, s28, s29, s30, s31, s32, s33, s34, s35, s36, s37, s38, s39, s40, s41, s42, s43, s44, s45, s46, s47, s48, s49, s50, s51, s52, s53, s54, s55, s56, s57, s58, s59, s60, s61, s62, s63, s64, s65, s66, s67, s68, s69, s70, s71, s72, s73, s74, s75, s76, s77, s78, s79, s80, s81, s82, s83, s84, s85, s86, s87, s88, s89, s90, s91, s92, s93, s94, s95, s96, s97, s98, s99, s100, s101, s102, s103, s104, s105, s106, s107, s108, s109, s110, s111, s112, s113, s114, s115, s116, s117, s118, s119, s120, s121, s122], []⟩ I L :=
  sh_cut (fun _ => none) (O := True) (by kernel_rfl) trivial (by kernel_rfl) h
/-- 35: (*escritoire/escritoireref.eyes).item -/
def M35 (R : Ending → Imm → Own → Prop) (x0 x1 : Value) (I : Imm) (L : Own) : Prop :=
 al Try.prog 42 I L fun x4 I L =>
 cal Try.prog 17 #[x0] I L (fun ch => (endX R) ch []) fun x9 I L =>
 bld Try.prog 42 #[(1, x9)] I L fun x10 I L =>
 al Try.prog 42 I L fun x5 I L =>
 sto Try.prog 42 x5 x10 I L fun _ I L =>
 cal Try.prog 15 #[x0] I L (fun ch => (endX R) ch []) fun x12 I L =>
 eqn Try.prog .eql 9 false true x12 (S [119, 104, 101, 110]) I L fun x22 I L =>
 cnd x22
 (cal Try.prog 34 #[x0] I L (fun ch => (endX R) ch []) fun _ I L =>
 cal Try.prog 47 #[x0, (.int .i64 1), (.int .i64 0)] I L (fun ch => (endX R) ch []) fun x26 I L =>
 fad Try.prog 42 x5 0 I L fun x27 I L =>
 sto Try.prog 3 x27 (.int .i64 4) I L fun _ I L =>
 fad Try.prog 42 x5 8 I L fun x28 I L =>
 sto Try.prog 40 x28 x26 I L fun _ I L =>
 bin Try.prog .add 3 x1 (.int .i64 1) I L fun x31 I L =>
 cal Try.prog 20 #[x0, x31] I L (fun ch => (endX R) ch []) fun x32 I L =>
 fad Try.prog 42 x5 12 I L fun x33 I L =>
 sto Try.prog 26 x33 x32 I L fun _ I L =>
 ld Try.prog 42 x5 I L fun x34 I L =>
 sto Try.prog 42 x4 x34 I L fun _ I L =>
 rcl Try.prog 42 x4 I L fun r0 =>
R (.returned r0) I L)
 (eqn Try.prog .eql 9 false true x12 (S [98, 121, 116, 101, 115]) I L fun x37 I L =>
 cnd x37
 (cal Try.prog 34 #[x0] I L (fun ch => (endX R) ch []) fun x39 I L =>
 cal Try.prog 19 #[x0] I L (fun ch => (endX R) ch []) fun x41 I L =>
 fad Try.prog 42 x5 0 I L fun x42 I L =>
 sto Try.prog 3 x42 (.int .i64 2) I L fun _ I L =>
 fad Try.prog 42 x5 2 I L fun x43 I L =>
 sto Try.prog 9 x43 x41 I L fun _ I L =>
 cal Try.prog 48 #[x0] I L (fun ch => (endX R) ch []) fun x45 I L =>
 fad Try.prog 42 x5 8 I L fun x46 I L =>
 sto Try.prog 40 x46 x45 I L fun _ I L =>
J35_0 R ⟨#[x0, x1, undef, undef, x4, x5, x12, undef, x0, x9, x10, x0, x12, undef, undef, undef, undef, undef, undef, undef, x22, x12, x22, undef, undef, undef, undef, undef, undef, undef, undef, undef, undef, undef, undef, x37, x12, x37, x0, x39, x0, x41, x42, x43, x0, x45, x46, undef, undef, undef, undef, undef, undef, undef, undef, undef, undef, undef, undef, undef, undef, undef, undef, undef, undef, undef, undef, undef, undef, undef, undef, undef, undef, undef, undef, undef, undef, undef, undef, undef, undef, undef, undef, undef, undef, undef, undef, undef, undef, undef, undef, undef, undef, undef, undef, undef, undef, undef, undef, undef, undef, undef, undef, undef, undef, undef, undef, undef, undef, undef, undef, undef, undef, undef, undef, undef, undef, undef, undef, undef, undef, undef, undef], []⟩ I L)
 (cal Try.prog 32 #[x12] I L (fun ch => (endX R) ch []) fun x49 I L =>
 cnd x49
 (cal Try.prog 34 #[x0] I L (fun ch => (endX R) ch []) fun x51 I L =>
D35_1 R ⟨#[x0, x1, undef, undef, x4, x5, x12, undef, x0, x9, x10, x0, x12, undef, undef, undef, undef, undef, undef, undef, x22, x12, x22, undef, undef, undef, undef, undef, undef, undef, undef, undef, undef, undef, undef, x37, x12, x37, undef, undef, undef, undef, undef, undef, undef, undef, undef, x49, x12, x49, x0, x51, undef, undef, undef, undef, undef, undef, undef, undef, undef, undef, undef, undef, undef, undef, undef, undef, undef, undef, undef, undef, undef, undef, undef, undef, undef, undef, undef, undef, undef, undef, undef, undef, undef, undef, undef, undef, undef, undef, undef, undef, undef, undef, undef, undef, undef, undef, undef, undef, undef, undef, undef, undef, undef, undef, undef, undef, undef, undef, undef, undef, undef, undef, undef, undef, undef, undef, undef, undef, undef, undef, undef], []⟩ I L)
 (cal Try.prog 19 #[x0] I L (fun ch => (endX R) ch []) fun x14 I L =>
 fad Try.prog 42 x5 0 I L fun x15 I L =>
 sto Try.prog 3 x15 (.int .i64 3) I L fun _ I L =>
 fad Try.prog 42 x5 3 I L fun x16 I L =>
 sto Try.prog 9 x16 x14 I L fun _ I L =>
 cal Try.prog 19 #[x0] I L (fun ch => (endX R) ch []) fun x18 I L =>
 fad Try.prog 42 x5 2 I L fun x19 I L =>
 sto Try.prog 9 x19 x18 I L fun _ I L =>
J35_0 R ⟨#[x0, x1, undef, undef, x4, x5, x12, undef, x0, x9, x10, x0, x12, x0, x14, x15, x16, x0, x18, x19, x22, x12, x22, undef, undef, undef, undef, undef, undef, undef, undef, undef, undef, undef, undef, x37, x12, x37, undef, undef, undef, undef, undef, undef, undef, undef, undef, x49, x12, x49, undef, undef, undef, undef, undef, undef, undef, undef, undef, undef, undef, undef, undef, undef, undef, undef, undef, undef, undef, undef, undef, undef, undef, undef, undef, undef, undef, undef, undef, undef, undef, undef, undef, undef, undef, undef, undef, undef, undef, undef, undef, undef, undef, undef, undef, undef, undef, undef, undef, undef, undef, undef, undef, undef, undef, undef, undef, undef, undef, undef, undef, undef, undef, undef, undef, undef, undef, undef, undef, undef, undef, undef, undef], []⟩ I L)))
theorem go35 {R : Ending → Imm → Own → Prop} {x0 x1 : Value} {I : Imm} {L : Own} (h : M35 R x0 x1 I L) : wpC Try.prog 35 #[x0, x1] I L R :=
  wpC_go (fun p => if p = [0, 1, 0, 1, 1, 1, 1, 1, 0, 0, 1, 1, 1] then some (D35_1 R) else if p = [1, 1, 1, 1] then some (J35_0 R) else none) Try.func35 (by kernel_rfl) (O := (D35_1 R = D35_1 R) ∧ (J35_0 R = J35_0 R) ∧ True) (by kernel_rfl) ⟨rfl, rfl, trivial⟩ (by kernel_rfl) h
end Go.Proofs.Ytkclodaplbalfaa
