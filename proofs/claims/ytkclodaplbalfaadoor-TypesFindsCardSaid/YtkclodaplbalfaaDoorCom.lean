/- The names of an expression; from a check to another one by covers. Conditions: none. -/
import Derived.Test.YtkclodaplbalfaaDoorChk
import Derived.Test.YtkclodaplbalfaaDoorOps4
set_option linter.unusedVariables false
set_option linter.unusedSimpArgs false
set_option maxRecDepth 100000
namespace Go.Proofs.YtkclodaplbalfaaDoor
open Go Sl
/-- A name of an expression, lying for good. -/
def NmV (I : Imm) (n : Int × Nm) (v : Value) : Prop := ∃ b, v = ptr b 0 ∧ RdAt I b 0 [i64 2, i64 n.1, i64 0, S n.2, S [], .pointer none, .pointer none]
def NmsR (I : Imm) : List (Int × Nm) → List Value → Prop
  | [], vs => vs = []
  | n :: l, vs => ∃ v r, vs = v :: r ∧ NmV I n v ∧ NmsR I l r
theorem NmsR.up {I J : Imm} (hle : I.Le J) : ∀ {l : List (Int × Nm)} {vs : List Value}, NmsR I l vs → NmsR J l vs
  | [], vs, h => h
  | n :: l, vs, ⟨v, r, e, ⟨b, e2, h2⟩, h3⟩ => ⟨v, r, e, ⟨b, e2, h2.up hle⟩, h3.up hle⟩
theorem NmsR.append {I : Imm} : ∀ {l m : List (Int × Nm)} {vs ws : List Value}, NmsR I l vs → NmsR I m ws → NmsR I (l ++ m) (vs ++ ws)
  | [], m, vs, ws, h, k => by
    simp only [NmsR] at h
    subst h
    exact k
  | n :: l, m, vs, ws, ⟨v, r, e, h2, h3⟩, k => ⟨v, r ++ ws, by rw [e, List.cons_append], h2, h3.append k⟩
theorem NmsR.length {I : Imm} : ∀ {l : List (Int × Nm)} {vs : List Value}, NmsR I l vs → vs.length = l.length
  | [], vs, h => by
    simp only [NmsR] at h
    subst h
    rfl
  | n :: l, vs, ⟨v, r, e, h2, h3⟩ => by rw [e, List.length_cons, List.length_cons, h3.length]
theorem NmsR.plain {I : Imm} : ∀ {l : List (Int × Nm)} {vs : List Value}, NmsR I l vs → ∀ u ∈ vs, plainV u = true
  | [], vs, h, u, hu => by
    simp only [NmsR] at h
    subst h
    cases hu
  | n :: l, vs, ⟨v, r, e, ⟨b, e2, h2⟩, h3⟩, u, hu => by
    subst e
    rcases List.mem_cons.1 hu with rfl | hu
    · rw [e2]; rfl
    · exact h3.plain u hu
theorem NmsR.at {I : Imm} : ∀ {l : List (Int × Nm)} {vs : List Value}, NmsR I l vs → ∀ {i : Nat} (hi : i < l.length), ∃ v, vs[i]? = some v ∧ NmV I l[i] v
  | [], vs, h, i, hi => absurd hi (by simp)
  | n :: l, vs, ⟨v, r, e, h2, h3⟩, i, hi => by
    subst e
    cases i with
    | zero => exact ⟨v, rfl, h2⟩
    | succ i =>
      obtain ⟨w, h4, h5⟩ := h3.at (i := i) (by simpa using hi)
      exact ⟨w, by simpa using h4, h5⟩
def NamesR (x : Ex) (w : Value) (J : Imm) (L : Own) : Prop := ∃ vs, NmsR J x.names vs ∧ OSl 68 1 w x.names.length vs L
theorem names_ret : ∀ (x : Ex) {I : Imm} {v : Value}, ExR I x v → x.names.length ≤ 100000000 → RetC Tryd.prog 35 #[v] I [] (NamesR x) := by
  intro x
  induction x with
  | nil =>
    intro I v hx hn
    obtain rfl : v = .pointer none := hx
    refine .of (go35 ?_)
    unfold M35
    (repeat with_reducible first | refine StG.h ?_ | refine StY.h ‹_› ?_ | refine StN.h ‹_› ?_ | refine StW.h ?_ | refine ld_ ?_ | refine lda_ ?_)
    exact fin_ret (L1 := []) fun J hJ => ⟨[], rfl, .nil⟩
  | num a m =>
    intro I v hx hn
    obtain ⟨b, rfl, hr⟩ := hx
    refine .of (go35 ?_)
    unfold M35
    (repeat with_reducible first | refine StG.h ?_ | refine StY.h ‹_› ?_ | refine StN.h ‹_› ?_ | refine StW.h ?_ | refine ld_ ?_ | refine lda_ ?_)
    refine ldi_ (j := 0) hr rfl rfl ?_
    (repeat with_reducible first | refine StG.h ?_ | refine StY.h ‹_› ?_ | refine StN.h ‹_› ?_ | refine StW.h ?_ | refine ld_ ?_ | refine lda_ ?_)
    refine cnd_yes rfl ?_
    exact fin_ret (L1 := []) fun J hJ => ⟨[], rfl, .nil⟩
  | name a s =>
    intro I v hx hn
    obtain ⟨b, rfl, hr⟩ := hx
    refine .of (go35 ?_)
    unfold M35
    (repeat with_reducible first | refine StG.h ?_ | refine StY.h ‹_› ?_ | refine StN.h ‹_› ?_ | refine StW.h ?_ | refine ld_ ?_ | refine lda_ ?_)
    refine ldi_ (j := 0) hr rfl rfl ?_
    (repeat with_reducible first | refine StG.h ?_ | refine StY.h ‹_› ?_ | refine StN.h ‹_› ?_ | refine StW.h ?_ | refine ld_ ?_ | refine lda_ ?_)
    refine cnd_no (by decide) ?_
    (repeat with_reducible first | refine StG.h ?_ | refine StY.h ‹_› ?_ | refine StN.h ‹_› ?_ | refine StW.h ?_ | refine ld_ ?_ | refine lda_ ?_)
    refine ldi_ (j := 0) hr rfl rfl ?_
    (repeat with_reducible first | refine StG.h ?_ | refine StY.h ‹_› ?_ | refine StN.h ‹_› ?_ | refine StW.h ?_ | refine ld_ ?_ | refine lda_ ?_)
    refine cnd_yes rfl ?_
    refine bsl_ (cells := #[ptr b 0]) (by kernel_rfl) fun b2 => ?_
    refine fin_ret (L1 := [(b2, .cells #[ptr b 0] 68)]) fun J hJ => ⟨[ptr b 0], ⟨_, [], rfl, ⟨b, rfl, hr.up hJ⟩, rfl⟩, rfl, .inr ⟨b2, 0, 1, _, rfl, rfl, Nat.le_refl _, Nat.le_refl _, rfl⟩⟩
  | bin a op l r ihl ihr =>
    intro I v hx hn
    obtain ⟨b, u, w, rfl, hr, hl, hrr⟩ := hx
    obtain ⟨ua, rfl⟩ := hl.ptr
    obtain ⟨wa, rfl⟩ := hrr.ptr
    simp only [Ex.names, List.length_append] at hn
    refine .of (go35 ?_)
    unfold M35
    (repeat with_reducible first | refine StG.h ?_ | refine StY.h ‹_› ?_ | refine StN.h ‹_› ?_ | refine StW.h ?_ | refine ld_ ?_ | refine lda_ ?_)
    refine ldi_ (j := 0) hr rfl rfl ?_
    (repeat with_reducible first | refine StG.h ?_ | refine StY.h ‹_› ?_ | refine StN.h ‹_› ?_ | refine StW.h ?_ | refine ld_ ?_ | refine lda_ ?_)
    refine cnd_no (by decide) ?_
    (repeat with_reducible first | refine StG.h ?_ | refine StY.h ‹_› ?_ | refine StN.h ‹_› ?_ | refine StW.h ?_ | refine ld_ ?_ | refine lda_ ?_)
    refine ldi_ (j := 0) hr rfl rfl ?_
    (repeat with_reducible first | refine StG.h ?_ | refine StY.h ‹_› ?_ | refine StN.h ‹_› ?_ | refine StW.h ?_ | refine ld_ ?_ | refine lda_ ?_)
    refine cnd_no (by decide) ?_
    refine draw35_0 (C := fun I _ => RdAt I b 0 [i64 3, i64 a, i64 0, S [], S op, .pointer ua, .pointer wa]) hr ?_
    unfold G35_0
    refine qS_of (v := ptr b 0) (fun I L _ => .of_run fun W => rfl) ?_
    refine qS_of (fun I L _ => rd_fad) ?_
    refine qS_of (fun I L h => rd_ld (h.cel (j := 5) rfl rfl)) ?_
    refine qS_of (v := ptr b 0) (fun I L _ => .of_run fun W => rfl) ?_
    refine qS_of (fun I L _ => rd_fad) ?_
    refine qS_of (fun I L h => rd_ld (h.cel (j := 6) rfl rfl)) ?_
    refine cal_ret (L1 := []) (ihl hl (by omega)) fun v1 I1 L1 hI1 ⟨vs1, hv1, ho1⟩ => ?_
    refine ⟨hr.up hI1, ?_⟩
    refine cal_ret (L1 := []) (ihr (hrr.up hI1) (by omega)) fun v2 I2 L2 hI2 ⟨vs2, hv2, ho2⟩ => ?_
    refine ⟨(hr.up hI1).up hI2, ?_⟩
    refine wpS.freeze L2 fun J hJ hz => ?_
    obtain ⟨A, c, rfl, hA, hc⟩ := osl_rsl ho2 hz
    refine appS_ ho1 hA (by rw [hv2.length, Nat.mul_one]) hv2.plain (fun v' L1' ho' => ?_) (by omega) (by omega)
    refine ⟨((hr.up hI1).up hI2).up hJ, join35_1 ?_⟩
    unfold T35_1
    refine fin_ret (L1 := L1') fun K hK => ⟨vs1 ++ vs2, (hv1.up (hI2.trans (hJ.trans hK))).append (hv2.up (hJ.trans hK)), ?_⟩
    simpa [Ex.names] using ho'
theorem comes_ret {I : Imm} {A : Option Addr} {c : Nat} {l : List It} (h : BlkR I A c l) (hl : l.length ≤ 16) (a d : Nat) (ha : a < l.length) :
    RetC Tryd.prog 38 #[.slice A l.length c, i64 a, i64 d] I [] (fun v J L => (∃ b, v = .bool b ∧ (b = true ↔ Reach l a d)) ∧ L = []) := by
  refine .of (go38 ?_)
  unfold M38
  refine mkm_ (K := fun a : Int => i64 a) fun bm om hm => ?_
  refine cal_ret (L1 := []) (covers_ret h (by omega) a ha) fun v1 I1 L1 hI1 ho => ?_
  have hcl := covL_length l a
  refine loop38_0 (n := l.length * (l.length + 1) + (covL l a).length) (fun n x8 I L => n ≤ 288 ∧ BlkR I A c l ∧ ∃ (todo seen : List Nat) (L1 : Own) (om : Obj), OSl 3 1 x8 todo.length (intsC todo) L1 ∧ MapO (fun a : Int => i64 a) (setM (seen.map fun k : Nat => (k : Int))) om ∧ ComSt l a d todo seen ∧ L = L1 ++ [(bm, om)] ∧ n = (l.length - seen.length) * (l.length + 1) + todo.length) ?_ ?_
  · refine ⟨?_, h.up hI1, covL l a, [], L1, om, ho, hm, .start l a d, rfl, by simp⟩
    have : l.length * (l.length + 1) ≤ 16 * 17 := Nat.mul_le_mul hl (by omega)
    omega
  rintro n x8 I2 L2 hle ⟨hn, hb, todo, seen, L1, om, ho, hm, hst, rfl, rfl⟩ N hN u
  unfold B38_0
  obtain ⟨A8, c8, rfl⟩ := osl_slice ho
  refine vlen_ (gtr_ ?_)
  cases todo with
  | nil =>
    refine cnd_no (by simp) ?_
    refine out38_0x0 (join38_1 ?_)
    unfold T38_1
    exact fin_ret (L1 := []) fun J hJ => ⟨⟨false, rfl, by simp [hst.done]⟩, rfl⟩
  | cons k todo =>
    refine cnd_yes (by simp only [List.length_cons]; omega) ?_
    obtain ⟨g, o, cur, rfl, rfl, hc⟩ := osl_cell ho (j := 0) (by simp [intsC])
    refine iad_ ?_ (by omega) (by simp only [List.length_cons]; omega)
    refine ld_ (v := i64 k) ?_ (by simpa [intsC] using hc)
    refine oslcut_ ho (fun A' ho' => ?_) (by omega) (by simp only [List.length_cons]; omega)
    refine eqi_ (cnd_ (fun hkd => ?_) (fun hkd => ?_))
    · refine out38_0r ?_
      have hkd' : k = d := by omega
      subst hkd'
      exact fin_ret (L1 := []) fun J hJ => ⟨⟨true, rfl, by simp [hst.r k (by simp)]⟩, rfl⟩
    · refine lkp_ hm ?_
      rw [mget_setM]
      have hkl : k < l.length := (hst.r k (by simp)).lt
      have e1 : ((k + todo.length : Nat)) = k + todo.length := rfl
      have e2 : (k :: todo).length - (1 : Int).toNat = todo.length := by simp
      have e3 : (intsC (k :: todo)).drop ((1 : Int).toNat * 1) = intsC todo := by simp [intsC]
      rw [e2, e3] at ho'
      rw [e2]
      have hmem : ((k : Int) ∈ seen.map fun k : Nat => (k : Int)) ↔ k ∈ seen := by
        rw [List.mem_map]
        exact ⟨fun ⟨j, hj, e⟩ => by
          have : j = k := by omega
          exact this ▸ hj, fun h => ⟨k, h, rfl⟩⟩
      refine not_ (cnd_ (fun hs => ?_) (fun hs => ?_))
      · have hns : k ∉ seen := fun h => hs (hmem.2 h)
        refine mup_ hm fun om' hm' => ?_
        rw [mput_setM _ _ hs] at hm'
        refine cal_ret (L1 := []) (covers_ret hb (by omega) k hkl) fun v3 I3 L3 hI3 ho3 => ?_
        refine wpS.freeze L3 fun J hJ hz => ?_
        obtain ⟨A3, c3, rfl, hA3, hc3⟩ := osl_rsl ho3 hz
        have hck := covL_length l k
        have hns2 := hst.add hns (by omega) hkl
        have hsl := nodup_lt_length hns2.u hns2.b
        simp only [List.length_append, List.length_singleton] at hsl
        have e4 : (l.length - seen.length) * (l.length + 1) = (l.length - (seen.length + 1)) * (l.length + 1) + (l.length + 1) := by
          have : l.length - seen.length = (l.length - (seen.length + 1)) + 1 := by omega
          rw [this, Nat.add_mul, Nat.one_mul]
        simp only [List.length_cons] at hn
        refine appS_ ho' hA3 (intsC_length _) (intsC_plain _) (fun v' L1' ho2 => ?_) (by omega) (by omega)
        have hlt : (l.length - (seen ++ [k]).length) * (l.length + 1) + (todo ++ covL l k).length < (l.length - seen.length) * (l.length + 1) + (k :: todo).length := by
          simp only [List.length_append, List.length_cons, List.length_nil, Nat.zero_add]
          omega
        refine hN _ hlt ⟨by simp only [List.length_append, List.length_cons, List.length_nil, Nat.zero_add] at hlt ⊢; omega, hb.up (hI3.trans hJ), todo ++ covL l k, seen ++ [k], L1', om', ?_, ?_, hns2, ?_, rfl⟩
        · rw [intsC_append, List.length_append]
          exact ho2
        · simpa using hm'
        · simp
      · have hns : k ∈ seen := hmem.1 (by simpa using hs)
        refine hN ((l.length - seen.length) * (l.length + 1) + todo.length) (by simp only [List.length_cons]; omega) ⟨by simp only [List.length_cons] at hn; omega, hb, todo, seen, _, om, ho', hm, hst.skip hns, rfl, rfl⟩
end Go.Proofs.YtkclodaplbalfaaDoor
