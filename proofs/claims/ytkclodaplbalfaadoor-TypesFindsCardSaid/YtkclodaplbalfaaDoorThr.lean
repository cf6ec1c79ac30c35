/- What is thrown; the names of an expression that the program asks for. Conditions: none. -/
import Derived.Test.YtkclodaplbalfaaDoorErr
import Derived.Test.YtkclodaplbalfaaDoorAsk
import Derived.Test.YtkclodaplbalfaaDoorShelf
set_option linter.unusedVariables false
set_option linter.unusedSimpArgs false
set_option maxRecDepth 100000
set_option maxHeartbeats 2000000
namespace Go.Proofs.YtkclodaplbalfaaDoor
open Go Sl
abbrev chW (b : Nat) : List PanicEntry := [{ v := .iface 53 (.agg #[atV b]), recovered := false }]
/-- How a call ends that throws a fault, if there is one. -/
def ThrR (fl : Flt) (Rv : Imm → Own → Prop) : Ending → Imm → Own → Prop := fun e I' L' =>
  (fl.1 = 0 ∧ e = .returned (.tuple #[]) ∧ Rv I' L') ∨ (fl.1 ≠ 0 ∧ ∃ b, e = .panicked (chW b) ∧ RdAt I' b 0 [i64 fl.1, i64 fl.2])
def ThrowC (f : FuncId) (args : Array Value) (I : Imm) (L : Own) (fl : Flt) (Rv : Imm → Own → Prop) : Prop := wpC Tryd.prog f args I L (ThrR fl Rv)
section
variable {I : Imm} {L : Own} {k : KV} {X : List PanicEntry → Imm → Own → Prop} {fl : Flt} {Rv : Imm → Own → Prop}
theorem ThrowC.of {f : FuncId} {args : Array Value} (h : wpC Tryd.prog f args I L (Fin (ThrR fl Rv))) : ThrowC f args I L fl Rv := wpC_fin h
theorem fin_ok {L1 r : Own} [hf : Foc L L1 r] (h0 : fl.1 = 0) (h : ∀ J, I.Le J → Rv J L1) : Fin (ThrR fl Rv) (.returned (.tuple #[])) I L :=
  ⟨[], L1, r, hf.h, fun J hJ _ => .inl ⟨h0, rfl, h J hJ⟩⟩
theorem fin_bad {b : Nat} {g : Flt} (e : fl = g) (h0 : g.1 ≠ 0) (hr : RdAt I b 0 [i64 g.1, i64 g.2]) : Fin (ThrR fl Rv) (.panicked (chW b)) I L :=
  ⟨[], [], L, by simp, fun J hJ _ => .inr ⟨e ▸ h0, b, rfl, e ▸ hr.up hJ⟩⟩
theorem cal_thr {f : FuncId} {args : Array Value} {L1 r : Own} [hc : HasCode Tryd.prog f] [hf : Foc L L1 r] (h : ThrowC f args I L1 fl Rv) (ok : ∀ I' L', I.Le I' → fl.1 = 0 → Rv I' L' → k (.tuple #[]) I' (L' ++ r))
    (bad : ∀ I' b, I.Le I' → fl.1 ≠ 0 → RdAt I' b 0 [i64 fl.1, i64 fl.2] → X (chW b) I' r) : cal Tryd.prog f args I L X k := fun F W hs => by
  rw [run_callFunc]
  have hp : (L ++ F).Perm (L1 ++ (r ++ F)) := by rw [← List.append_assoc]; exact hf.h.append_right F
  refine ((show wpC Tryd.prog f args I L1 _ from h) (r ++ F) W (hs.perm hp)).mono fun e W' ⟨I', L', h1, h2, h3⟩ => ?_
  rcases h3 with ⟨h4, rfl, h5⟩ | ⟨h4, b, rfl, h5⟩
  · exact ⟨I', L' ++ r, h1, by rw [List.append_assoc]; exact h2, ok I' L' h1 h4 h5⟩
  · exact ⟨I', r, h1, h2.drop, bad I' b h1 h4 h5⟩
end
theorem fail_thr {I : Imm} (e a : Int) (he : e ≠ 0) : ThrowC 21 #[i64 e, i64 a] I [] (e, a) (fun _ _ => False) := by
  refine .of (go21 ?_)
  unfold M21
  refine bld_ (v := .agg #[i64 e, i64 a]) (fun W => by kernel_rfl) ?_
  refine bxf_ fun b J hJ hb => ?_
  refine mki_ (w := atV b) (fun W => by kernel_rfl) ?_
  refine bld_ (v := .agg #[atV b]) (fun W => by kernel_rfl) ?_
  refine mki_ (w := .iface 53 (.agg #[atV b])) (fun W => by kernel_rfl) ?_
  exact fin_bad rfl he (RdAt.of hb rfl)
theorem cal_fail {I : Imm} {L : Own} {k : KV} {X : List PanicEntry → Imm → Own → Prop} {e a : Int} (he : e ≠ 0) (bad : ∀ J b, I.Le J → RdAt J b 0 [i64 e, i64 a] → X (chW b) J L) : cal Tryd.prog 21 #[i64 e, i64 a] I L X k :=
  cal_thr (L1 := []) (fail_thr e a he) (fun _ _ _ _ h => h.elim) fun J b hJ _ hr => bad J b hJ hr
theorem qcal_ro {P : Program} {C : Cls} {f : FuncId} {args : Array Value} {v : Value} {k : Value → Prop} [hc : HasCode P f] (h : ∀ I L, C I L → ∃ L1 r, L.Perm (L1 ++ r) ∧ RoC P f args I L1 v) (k' : k v) : qcal P f args C k :=
  ⟨v, run_callFunc args, fun I L hC F W hs => by
    obtain ⟨L1, r, hp, hro⟩ := h I L hC
    have hp2 : (L ++ F).Perm (L1 ++ (r ++ F)) := by rw [← List.append_assoc]; exact hp.append_right F
    refine ((show wpC P f args I L1 _ from hro) (r ++ F) W (hs.perm hp2)).mono fun e W' ⟨I', L', h1, h2, h3, h4⟩ => ?_
    clear hro
    subst h3 h4
    exact ⟨rfl, (h2.weaken h1).perm hp2.symm⟩, k'⟩
/-! ### names -/
def PnR (ns : List (Int × Nm)) (w : Value) (J : Imm) (L : Own) : Prop := ∃ vs, NmsR J ns vs ∧ OSl 68 1 w ns.length vs L
theorem pnames_nil {I : Imm} : RetC Tryd.prog 48 #[.pointer none] I [] (PnR []) := by
  refine .of (go48 ?_)
  unfold M48
  (repeat with_reducible first | refine StG.h ?_ | refine StY.h ‹_› ?_ | refine StN.h ‹_› ?_ | refine StW.h ?_ | refine ld_ ?_ | refine lda_ ?_)
  exact fin_ret (L1 := []) fun J hJ => ⟨[], rfl, .nil⟩
theorem pnames_two {I : Imm} {b : Nat} {kd a m : Int} {s op : Nm} {ua wa : Option Addr} {nl nr : List (Int × Nm)} (hk : kd ≠ 2) (hr : RdAt I b 0 [i64 kd, i64 a, i64 m, S s, S op, .pointer ua, .pointer wa])
    (ihl : ∀ {J : Imm}, I.Le J → RetC Tryd.prog 48 #[.pointer ua] J [] (PnR nl)) (ihr : ∀ {J : Imm}, I.Le J → RetC Tryd.prog 48 #[.pointer wa] J [] (PnR nr)) (hn : nl.length + nr.length ≤ 100000000) :
    RetC Tryd.prog 48 #[ptr b 0] I [] (PnR (nl ++ nr)) := by
  refine .of (go48 ?_)
  unfold M48
  (repeat with_reducible first | refine StG.h ?_ | refine StY.h ‹_› ?_ | refine StN.h ‹_› ?_ | refine StW.h ?_ | refine ld_ ?_ | refine lda_ ?_)
  refine ldi_ (j := 0) hr rfl rfl ?_
  (repeat with_reducible first | refine StG.h ?_ | refine StY.h ‹_› ?_ | refine StN.h ‹_› ?_ | refine StW.h ?_ | refine ld_ ?_ | refine lda_ ?_)
  refine draw48_0 (C := fun I _ => RdAt I b 0 [i64 kd, i64 a, i64 m, S s, S op, .pointer ua, .pointer wa]) hr ?_
  unfold G48_0
  refine qS_of (v := ptr b 0) (fun I L _ => .of_run fun W => rfl) ?_
  refine qS_of (fun I L _ => rd_fad) ?_
  refine qS_of (fun I L h => rd_ld (h.cel (j := 5) rfl rfl)) ?_
  refine qS_of (v := ptr b 0) (fun I L _ => .of_run fun W => rfl) ?_
  refine qS_of (fun I L _ => rd_fad) ?_
  refine qS_of (fun I L h => rd_ld (h.cel (j := 6) rfl rfl)) ?_
  refine cal_ret (L1 := []) (ihl (.refl _)) fun v1 I1 L1 hI1 ⟨vs1, hv1, ho1⟩ => ?_
  refine ⟨hr.up hI1, ?_⟩
  refine cal_ret (L1 := []) (ihr hI1) fun v2 I2 L2 hI2 ⟨vs2, hv2, ho2⟩ => ?_
  refine ⟨(hr.up hI1).up hI2, ?_⟩
  refine wpS.freeze L2 fun J hJ hz => ?_
  obtain ⟨A, c, rfl, hA, hc⟩ := osl_rsl ho2 hz
  refine appS_ ho1 hA (by rw [hv2.length, Nat.mul_one]) hv2.plain (fun v' L1' ho' => ?_) (by omega) (by omega)
  refine ⟨((hr.up hI1).up hI2).up hJ, join48_1 ?_⟩
  unfold T48_1
  refine fin_ret (L1 := L1') fun K hK => ⟨vs1 ++ vs2, (hv1.up (hI2.trans (hJ.trans hK))).append (hv2.up (hJ.trans hK)), ?_⟩
  simpa using ho'
theorem pnames_ret : ∀ (x : Ex) {I : Imm} {v : Value}, ExR I x v → x.names.length ≤ 100000000 → RetC Tryd.prog 48 #[v] I [] (PnR x.names) := by
  intro x
  induction x with
  | nil =>
    intro I v hx hn
    obtain rfl : v = .pointer none := hx
    exact pnames_nil
  | num a m =>
    intro I v hx hn
    obtain ⟨b, rfl, hr⟩ := hx
    exact pnames_two (nl := []) (nr := []) (by decide) hr (fun _ => pnames_nil) (fun _ => pnames_nil) (by simp)
  | name a s =>
    intro I v hx hn
    obtain ⟨b, rfl, hr⟩ := hx
    refine .of (go48 ?_)
    unfold M48
    (repeat with_reducible first | refine StG.h ?_ | refine StY.h ‹_› ?_ | refine StN.h ‹_› ?_ | refine StW.h ?_ | refine ld_ ?_ | refine lda_ ?_)
    refine ldi_ (j := 0) hr rfl rfl ?_
    (repeat with_reducible first | refine StG.h ?_ | refine StY.h ‹_› ?_ | refine StN.h ‹_› ?_ | refine StW.h ?_ | refine ld_ ?_ | refine lda_ ?_)
    refine cnd_yes rfl ?_
    refine bsl_ (cells := #[ptr b 0]) (by kernel_rfl) fun b2 => ?_
    refine fin_ret (L1 := [(b2, .cells #[ptr b 0] 68)]) fun J hJ => ⟨[ptr b 0], ⟨_, [], rfl, ⟨b, rfl, hr.up hJ⟩, rfl⟩, rfl, .inr ⟨b2, 0, 1, _, rfl, rfl, Nat.le_refl _, Nat.le_refl _, rfl⟩⟩
  | bin a op l r ihl ihr =>
    intro I v hx hn
    obtain ⟨b, u, w, rfl, hr, hl, hrr⟩ := hx
    obtain ⟨ua, rfl⟩ := hl.ptr
    obtain ⟨wa, rfl⟩ := hrr.ptr
    simp only [Ex.names, List.length_append] at hn
    exact pnames_two (by decide) hr (fun hJ => ihl (hl.up hJ) (by omega)) (fun hJ => ihr (hrr.up hJ) (by omega)) hn
/-! ### one of some names -/
theorem has_str_ro {I : Imm} {A : Option Addr} {c : Nat} {l : List Nm} {L1 : Own} (h : OSl 9 1 (.slice A l.length c) l.length (strC l) L1) (hl : l.length ≤ 1000000) (x : Nm) : RoC Tryd.prog 49 #[.slice A l.length c, S x] I L1 (.bool (decide (x ∈ l))) := fun F W hs => by
  obtain ⟨hx, ⟨e1, h0, rfl⟩ | ⟨g, o, cap, cur, e1, rfl, hn, hsz, hc⟩⟩ := h
  · obtain rfl := List.eq_nil_of_length_eq_zero h0
    refine (Tryd.slices_Contains_string_empty A c ⟨x.toArray⟩ W).mono fun e W' ⟨he, hw⟩ => ?_
    subst hw
    exact ⟨I, [], .refl I, hs, by simpa using he, rfl⟩
  · simp only [Value.slice.injEq, true_and] at e1
    obtain ⟨rfl, rfl⟩ := e1
    have hcell : ∀ j, j < (l.map fun s : Nm => (⟨s.toArray⟩ : ByteArray)).length → W.cell? ⟨g, o + j, none⟩ = some (.string ((l.map fun s : Nm => (⟨s.toArray⟩ : ByteArray)).getD j ByteArray.empty)) := fun j hj => by
      have hj' : j < l.length := by simpa using hj
      rw [cell_of (hs.has (b := g) (o := .cells cur 9) (by simp))]
      have := getElem?_drop_take hc (j := j) (u := S l[j]) (by simp [strC, hj'])
      rw [List.getD_eq_getElem?_getD, List.getElem?_map, List.getElem?_eq_getElem hj']
      simpa using this
    refine (Tryd.slices_Contains_string g o l.length c (l.map fun s : Nm => (⟨s.toArray⟩ : ByteArray)) ⟨x.toArray⟩ W (by simp) (by omega) hcell).mono fun e W' ⟨he, hw⟩ => ?_
    subst hw
    refine ⟨I, _, .refl I, hs, ?_, rfl⟩
    rw [he]
    congr 2
    rw [List.take_of_length_le (by simp), Bool.eq_iff_iff, Lib.containsS_iff]
    simp only [List.mem_map, decide_eq_true_eq]
    exact ⟨fun ⟨a, ha, e⟩ => by
      have : a.toArray = x.toArray := congrArg ByteArray.data e
      have : a = x := by simpa using this
      exact this ▸ ha, fun h => ⟨x, h, rfl⟩⟩
/-! ### asks -/
/-- What looks at a struct. -/
abbrev chkO (bt bn : Nat) (v : Value) : Obj := .cells #[.map (some bt), .map (some bn), v] 59
theorem pasks_thr {I : Imm} {x : Ex} {v : Value} {seen : List Nm} {A : Option Addr} {cs bc bt bn : Nat} {Ls : Own} (hx : ExR I x v) (hn : x.names.length ≤ 100000000) (ho : OSl 9 1 (.slice A seen.length cs) seen.length (strC seen) Ls) (hsl : seen.length ≤ 1000000) :
    ThrowC 32 #[ptr bc 0, v] I (Ls ++ [(bc, chkO bt bn (.slice A seen.length cs))]) (asksW seen x) (fun J L => L = Ls ++ [(bc, chkO bt bn (.slice A seen.length cs))]) := by
  refine .of (go32 ?_)
  unfold M32
  refine cal_ret (L1 := []) (pnames_ret x hx hn) fun v1 I1 L1 hI1 ⟨vs, hv, ho1⟩ => ?_
  refine len_freeze L1 fun J hJ hz => ?_
  obtain ⟨A1, c, rfl, hA, hc⟩ := osl_rsl ho1 hz
  refine vlen_ ?_
  refine loop32_0 (n := x.names.length) (fun n x9 I L => ∃ i : Nat, n + i = x.names.length ∧ x9 = i64 i ∧ RSl I A1 vs ∧ NmsR I x.names vs ∧ (∀ j (hj : j < i) (h : j < x.names.length), x.names[j].2 ∈ seen) ∧ L = Ls ++ [(bc, chkO bt bn (.slice A seen.length cs))])
    ⟨0, rfl, rfl, hA, hv.up hJ, fun j hj => absurd hj (by omega), rfl⟩ ?_
  rintro n x9 I2 L2 hle ⟨i, hi, rfl, hA2, hv2, hbef, rfl⟩ N hN u
  unfold B32_0
  refine lss_ ?_
  by_cases hlt : i < x.names.length
  · refine cnd_yes (by omega) ?_
    obtain ⟨w, hw, b5, rfl, hrn⟩ := hv2.at hlt
    have hvl := hv2.length
    obtain ⟨bA, oA, rfl, hrA⟩ := hA2.some (j := i) (by omega)
    refine iad_ ?_ (by omega) (by omega)
    refine ldi_ (j := i) hrA (by simp) hw ?_
    refine draw32_1 (C := fun K L => RdAt K b5 0 [i64 2, i64 x.names[i].1, i64 0, S x.names[i].2, S [], .pointer none, .pointer none] ∧ L = Ls ++ [(bc, chkO bt bn (.slice A seen.length cs))]) ⟨hrn, rfl⟩ ?_
    unfold G32_1
    refine qS_of (v := ptr bc 0) (fun I L _ => .of_run fun W => rfl) ?_
    refine qS_of (fun I L _ => rd_fad) ?_
    refine qS_of (v := .slice A seen.length cs) (fun I L h => h.2 ▸ rd_ld (cel_own rfl)) ?_
    refine qS_of (v := ptr b5 0) (fun I L _ => .of_run fun W => rfl) ?_
    refine qS_of (fun I L _ => rd_fad) ?_
    refine qS_of (fun I L h => rd_ld (h.1.cel (j := 3) rfl rfl)) ?_
    refine qcal_ro (fun K L h => ⟨Ls, [(bc, chkO bt bn (.slice A seen.length cs))], by rw [h.2], has_str_ro ho hsl x.names[i].2⟩) ?_
    refine qS_of (v := .bool (decide (x.names[i].2 ∉ seen))) (fun I L _ => .of_run fun W => by simp [Op.unary]) ?_
    refine join32_2 ?_
    unfold T32_2
    refine cnd_ (fun hno => ?_) (fun hyes => ?_)
    · (repeat with_reducible first | refine StG.h ?_ | refine StY.h ‹_› ?_ | refine StN.h ‹_› ?_ | refine StW.h ?_ | refine ld_ ?_ | refine lda_ ?_)
      refine ldi_ (j := 1) hrn (by simp) rfl ?_
      exact cal_fail (by decide) fun J b hJ hr => fin_bad (g := (5, x.names[i].1)) (asksW_at hlt (fun j hj => hbef j hj (by omega)) hno) (by simp) hr
    · refine join32_3 ?_
      unfold T32_3
      refine add64 ?_
      refine hN (n - 1) (by omega) ⟨i + 1, by omega, rfl, hA2, hv2, fun j hj h => ?_, rfl⟩
      by_cases hji : j = i
      · subst hji
        simpa using hyes
      · exact hbef j (by omega) h
  · refine cnd_no (by omega) ?_
    refine out32_0x0 ?_
    rw [asksW_ok fun j hj => hbef j (by omega) hj]
    exact fin_ok (L1 := Ls ++ [(bc, chkO bt bn (.slice A seen.length cs))]) rfl fun K hK => rfl
end Go.Proofs.YtkclodaplbalfaaDoor
