/- In which order rules are done: what it is; the program's. Conditions: none. -/
import Derived.Test.YtkclodaplbalfaaOrd2
set_option linter.unusedVariables false
set_option linter.unusedSimpArgs false
set_option maxRecDepth 100000
set_option maxHeartbeats 2000000
namespace Go.Proofs.Ytkclodaplbalfaa
open Go Sl
def isSize (l : List It) (i : Nat) : Bool := match l[i]? with | some x => decide (x.rule = 1) || decide (x.rule = 2) | none => false
theorem isSize_at {l : List It} {i : Nat} (hi : i < l.length) : isSize l i = (decide (l[i].rule = 1) || decide (l[i].rule = 2)) := by
  unfold isSize
  rw [List.getElem?_eq_getElem hi]
def sizesTo (l : List It) (i : Nat) : List Nat := (List.range i).filter (isSize l)
theorem sizesTo_succ (l : List It) (i : Nat) : sizesTo l (i + 1) = sizesTo l i ++ (if isSize l i then [i] else []) := by
  unfold sizesTo
  rw [List.range_succ, List.filter_append]
  congr 1
  cases h : isSize l i <;> simp [h]
theorem sizesTo_le (l : List It) (i : Nat) : (sizesTo l i).length ≤ i := by
  have := List.length_filter_le (isSize l) (List.range i)
  simpa [sizesTo] using this
def nextC (l : List It) (d : List Nat) (i : Nat) : Bool := rule3 l i && decide (i ∉ d) && (covL l i).all fun k => decide (k ∈ d)
/-- So many steps. -/
def ordG (l : List It) : Nat → List Nat → List Nat
  | 0, d => d
  | n + 1, d => if firstN l.length (nextC l d) < 0 then d else ordG l n (d ++ [(firstN l.length (nextC l d)).toNat])
def orderL (l : List It) : List Nat := sizesTo l l.length ++ ordG l l.length []
/-- What a block has that is right. -/
structure OkB (l : List It) : Prop where
  u : UniqN l
  f : ∀ i (hi : i < l.length), l[i].rule = 3 → 0 ≤ whichZ l l[i].first
  w : ∀ i (hi : i < l.length), l[i].kind = 4 → l[i].rule = 0
  n : l.length ≤ 16
/-- What is done already. -/
structure DoneS (l : List It) (d : List Nat) : Prop where
  u : d.Nodup
  r : ∀ k ∈ d, k < l.length ∧ rule3 l k = true
  e : ordG l l.length [] = ordG l (l.length - d.length) d
theorem DoneS.nil (l : List It) : DoneS l [] := ⟨by simp, by simp, rfl⟩
theorem DoneS.len {l : List It} {d : List Nat} (h : DoneS l d) : d.length ≤ l.length := nodup_lt_length h.u fun k hk => (h.r k hk).1
theorem rule3_lt {l : List It} {i : Nat} (h : rule3 l i = true) : i < l.length := by
  unfold rule3 at h
  rcases Nat.lt_or_ge i l.length with h1 | h1
  · exact h1
  · rw [List.getElem?_eq_none h1] at h
    cases h
theorem DoneS.add {l : List It} {d : List Nat} (h : DoneS l d) {i : Nat} (hn : nextC l d i = true) (hb : ∀ j, j < i → nextC l d j = false) : DoneS l (d ++ [i]) := by
  have hn' := hn
  unfold nextC at hn
  simp only [Bool.and_eq_true, decide_eq_true_eq] at hn
  have hi := rule3_lt hn.1.1
  have hu : (d ++ [i]).Nodup := by
    rw [List.nodup_append]
    exact ⟨h.u, by simp, fun x hx y hy => by simp at hy; subst hy; exact fun e => hn.1.2 (e ▸ hx)⟩
  have hr : ∀ k ∈ d ++ [i], k < l.length ∧ rule3 l k = true := fun k hk => by
    rcases List.mem_append.1 hk with hk | hk
    · exact h.r k hk
    · simp at hk
      subst hk
      exact ⟨hi, hn.1.1⟩
  refine ⟨hu, hr, ?_⟩
  have hlen := nodup_lt_length hu fun k hk => (hr k hk).1
  simp only [List.length_append, List.length_singleton] at hlen ⊢
  have e : l.length - d.length = (l.length - (d.length + 1)) + 1 := by omega
  rw [h.e, e, ordG, firstN_at hi hn' hb, if_neg (by omega)]
  simp
theorem DoneS.end {l : List It} {d : List Nat} (h : DoneS l d) (hb : ∀ j, j < l.length → nextC l d j = false) : ordG l l.length [] = d := by
  rw [h.e]
  cases hn : l.length - d.length with
  | zero => rfl
  | succ n => rw [ordG, firstN_none hb, if_pos (by omega)]
theorem mem_out {l : List It} {d : List Nat} (hd : ∀ k ∈ d, k < l.length ∧ rule3 l k = true) {k : Nat} (hk : rule3 l k = true) : k ∈ sizesTo l l.length ++ d ↔ k ∈ d := by
  rw [List.mem_append]
  refine ⟨fun h => h.resolve_left fun hs => ?_, .inr⟩
  have hkl := rule3_lt hk
  have hs2 := (List.mem_filter.1 hs).2
  rw [rule3_at hkl] at hk
  rw [isSize_at hkl] at hs2
  simp only [decide_eq_true_eq, Bool.or_eq_true] at hk hs2
  omega
theorem next_eq {l : List It} (ok : OkB l) {d : List Nat} (hd : ∀ k ∈ d, k < l.length ∧ rule3 l k = true) (i : Nat) (hi : i < l.length) : nextB l (sizesTo l l.length ++ d) i = nextC l d i := by
  rw [nextB_at hi]
  unfold nextC
  rw [rule3_at hi]
  by_cases h3 : l[i].rule = 3
  · have hk : l[i].kind ≠ 4 := fun h => by have := ok.w i hi h; omega
    have hr : rule3 l i = true := by rw [rule3_at hi]; simpa using h3
    have e1 : decide (i ∉ sizesTo l l.length ++ d) = decide (i ∉ d) := by rw [decide_eq_decide]; exact not_congr (mem_out hd hr)
    have e2 : (List.range l.length).all (freeB l (sizesTo l l.length ++ d) i) = (covL l i).all fun k => decide (k ∈ d) := by
      rw [Bool.eq_iff_iff, List.all_eq_true, List.all_eq_true]
      have hcov : ∀ k, k < l.length → covB l i k = (overB l i k && rule3 l k) := fun k hkl => by
        unfold covB
        rw [List.getElem?_eq_getElem hi, List.getElem?_eq_getElem hkl, overB_at hi, rule3_at hkl]
        have := ok.f i hi h3
        simp [h3, this, Bool.and_assoc]
      constructor
      · intro h k hk'
        have hck := mem_covL.1 hk'
        have hkl := (covB_lt hck).2
        have h5 := h k (List.mem_range.2 hkl)
        unfold freeB at h5
        rw [← hcov k hkl, hck] at h5
        rw [hcov k hkl, Bool.and_eq_true] at hck
        simp only [Bool.not_true, Bool.false_or, decide_eq_true_eq] at h5 ⊢
        exact (mem_out hd hck.2).1 h5
      · intro h k hk'
        have hkl := List.mem_range.1 hk'
        unfold freeB
        rw [← hcov k hkl]
        cases hck : covB l i k with
        | false => rfl
        | true =>
          have h5 := h k (mem_covL.2 hck)
          rw [hcov k hkl, Bool.and_eq_true] at hck
          simp only [Bool.not_true, Bool.false_or, decide_eq_true_eq] at h5 ⊢
          exact (mem_out hd hck.2).2 h5
    simp only [hk, h3, e1, e2, ne_eq, not_false_eq_true, decide_true, Bool.true_and]
  · simp [h3]
theorem order_ret {I : Imm} {A : Option Addr} {c : Nat} {l : List It} (h : BlkR I A c l) (ok : OkB l) :
    RetC Try.prog 11 #[.slice A l.length c] I [] (fun v K L' => OSl 3 1 v (orderL l).length (intsC (orderL l)) L') := by
  have hl := ok.n
  refine .of (go11 ?_)
  unfold M11
  refine bxf_ fun b1 J hJ hb1 => ?_
  have hr1 : RdAt J b1 0 [.slice A l.length c] := RdAt.of hb1 rfl
  refine al_ fun b3 => ?_
  (repeat first | (with_reducible refine cndnn_ (by assumption) ?_) | (with_reducible refine cndbt_ (by assumption) ?_) | (with_reducible refine cndbf_ (by assumption) ?_) | (with_reducible refine gdbtt_ (by assumption) ?_) | (with_reducible refine gdbtf_ (by assumption) ?_) | (with_reducible refine gdbff_ (by assumption) ?_) | (with_reducible refine gdbft_ (by assumption) ?_) | (with_reducible refine pckbt_ (by assumption) ?_) | (with_reducible refine pckbf_ (by assumption) ?_) | (with_reducible refine notbt_ (by assumption) ?_) | (with_reducible refine notbf_ (by assumption) ?_) | (with_reducible refine gdtt_ ?_) | (with_reducible refine gdtf_ ?_) | (with_reducible refine gdff_ ?_) | (with_reducible refine gdft_ ?_) | (with_reducible refine pckt_ ?_) | (with_reducible refine pckf_ ?_) | (with_reducible refine cndt_ ?_) | (with_reducible refine cndf_ ?_) | (with_reducible refine cnd_yes (by assumption) ?_) | (with_reducible refine cnd_no (by assumption) ?_) | (with_reducible refine gd_yes (by assumption) ?_) | (with_reducible refine gd_no (by assumption) ?_) | (with_reducible refine gdn_yes (by assumption) ?_) | (with_reducible refine gdn_no (by assumption) ?_) | (with_reducible refine gdu_ ?_) | (with_reducible refine pck_yes (by assumption) ?_) | (with_reducible refine pck_no (by assumption) ?_) | (with_reducible refine leq_ ?_) | (with_reducible refine lss_ ?_) | (with_reducible refine geq_ ?_) | (with_reducible refine gtr_ ?_) | (with_reducible refine eqi_ ?_) | (with_reducible refine nei_ ?_) | (with_reducible refine seq_ ?_) | (with_reducible refine sne_ ?_) | (with_reducible refine not_ ?_) | (with_reducible refine nott_ ?_) | (with_reducible refine notf_ ?_) | (with_reducible refine notb_ ?_) | (with_reducible refine slen_ ?_) | (with_reducible refine vlen_ ?_) | (with_reducible refine nck_ ?_) | (with_reducible refine fad_ ?_) | (with_reducible refine ld_ ?_) | (with_reducible refine lda_ ?_) | (with_reducible refine pnilt_ ?_) | (with_reducible refine pnilf_ ?_) | (with_reducible refine pnint_ ?_) | (with_reducible refine pninf_ ?_) | (with_reducible refine ldi_ (by assumption) (by with_unfolding_all rfl) (by with_unfolding_all rfl) ?_) | (with_reducible refine ldi0_ (by assumption) (by with_unfolding_all rfl) ?_) | (with_reducible refine ld_ ?_ (by with_unfolding_all rfl)))
  refine loop11_0 (n := l.length) (fun n x8 K L => ∃ (i : Nat) (v : Value) (Lr : Own), n + i = l.length ∧ x8 = i64 i ∧ J.Le K ∧ OSl 3 1 v (sizesTo l i).length (intsC (sizesTo l i)) Lr ∧ L = Lr ++ [(b3, .cells #[v] 38)])
    ⟨0, .slice none 0 0, [], by omega, rfl, .refl _, .nil, rfl⟩ ?_
  rintro n x8 I2 L2 hle ⟨i, v, Lr, hi, rfl, hI2, ho, rfl⟩ N hN u
  obtain ⟨A8, c8, rfl⟩ := osl_slice ho
  have hb := h.up (hJ.trans hI2)
  have hr2 := hr1.up hI2
  have hsl := sizesTo_le l i
  unfold B11_0
  refine lss_ ?_
  by_cases hlt : i < l.length
  · refine cnd_yes (by omega) ?_
    obtain ⟨b, o, cp, A2, c2, rfl, hr, hcp, hbk⟩ := hb.at hlt
    have keep : isSize l i = false → sizesTo l i = sizesTo l (i + 1) := fun hs => by rw [sizesTo_succ, hs]; simp
    (repeat first | (with_reducible refine cndnn_ (by assumption) ?_) | (with_reducible refine cndbt_ (by assumption) ?_) | (with_reducible refine cndbf_ (by assumption) ?_) | (with_reducible refine gdbtt_ (by assumption) ?_) | (with_reducible refine gdbtf_ (by assumption) ?_) | (with_reducible refine gdbff_ (by assumption) ?_) | (with_reducible refine gdbft_ (by assumption) ?_) | (with_reducible refine pckbt_ (by assumption) ?_) | (with_reducible refine pckbf_ (by assumption) ?_) | (with_reducible refine notbt_ (by assumption) ?_) | (with_reducible refine notbf_ (by assumption) ?_) | (with_reducible refine gdtt_ ?_) | (with_reducible refine gdtf_ ?_) | (with_reducible refine gdff_ ?_) | (with_reducible refine gdft_ ?_) | (with_reducible refine pckt_ ?_) | (with_reducible refine pckf_ ?_) | (with_reducible refine cndt_ ?_) | (with_reducible refine cndf_ ?_) | (with_reducible refine cnd_yes (by assumption) ?_) | (with_reducible refine cnd_no (by assumption) ?_) | (with_reducible refine gd_yes (by assumption) ?_) | (with_reducible refine gd_no (by assumption) ?_) | (with_reducible refine gdn_yes (by assumption) ?_) | (with_reducible refine gdn_no (by assumption) ?_) | (with_reducible refine gdu_ ?_) | (with_reducible refine pck_yes (by assumption) ?_) | (with_reducible refine pck_no (by assumption) ?_) | (with_reducible refine leq_ ?_) | (with_reducible refine lss_ ?_) | (with_reducible refine geq_ ?_) | (with_reducible refine gtr_ ?_) | (with_reducible refine eqi_ ?_) | (with_reducible refine nei_ ?_) | (with_reducible refine seq_ ?_) | (with_reducible refine sne_ ?_) | (with_reducible refine not_ ?_) | (with_reducible refine nott_ ?_) | (with_reducible refine notf_ ?_) | (with_reducible refine notb_ ?_) | (with_reducible refine slen_ ?_) | (with_reducible refine vlen_ ?_) | (with_reducible refine nck_ ?_) | (with_reducible refine fad_ ?_) | (with_reducible refine ld_ ?_) | (with_reducible refine lda_ ?_) | (with_reducible refine pnilt_ ?_) | (with_reducible refine pnilf_ ?_) | (with_reducible refine pnint_ ?_) | (with_reducible refine pninf_ ?_) | (with_reducible refine ldi_ (by assumption) (by with_unfolding_all rfl) (by with_unfolding_all rfl) ?_) | (with_reducible refine ldi0_ (by assumption) (by with_unfolding_all rfl) ?_) | (with_reducible refine ld_ ?_ (by with_unfolding_all rfl)))
    refine iad_ ?_ (by omega) (by omega)
    simp only [Int.toNat_natCast]
    by_cases h1 : l[i].rule = 1
    · have hs : isSize l i = true := by rw [isSize_at hlt]; simp [h1]
      (repeat first | (with_reducible refine cndnn_ (by assumption) ?_) | (with_reducible refine cndbt_ (by assumption) ?_) | (with_reducible refine cndbf_ (by assumption) ?_) | (with_reducible refine gdbtt_ (by assumption) ?_) | (with_reducible refine gdbtf_ (by assumption) ?_) | (with_reducible refine gdbff_ (by assumption) ?_) | (with_reducible refine gdbft_ (by assumption) ?_) | (with_reducible refine pckbt_ (by assumption) ?_) | (with_reducible refine pckbf_ (by assumption) ?_) | (with_reducible refine notbt_ (by assumption) ?_) | (with_reducible refine notbf_ (by assumption) ?_) | (with_reducible refine gdtt_ ?_) | (with_reducible refine gdtf_ ?_) | (with_reducible refine gdff_ ?_) | (with_reducible refine gdft_ ?_) | (with_reducible refine pckt_ ?_) | (with_reducible refine pckf_ ?_) | (with_reducible refine cndt_ ?_) | (with_reducible refine cndf_ ?_) | (with_reducible refine cnd_yes (by assumption) ?_) | (with_reducible refine cnd_no (by assumption) ?_) | (with_reducible refine gd_yes (by assumption) ?_) | (with_reducible refine gd_no (by assumption) ?_) | (with_reducible refine gdn_yes (by assumption) ?_) | (with_reducible refine gdn_no (by assumption) ?_) | (with_reducible refine gdu_ ?_) | (with_reducible refine pck_yes (by assumption) ?_) | (with_reducible refine pck_no (by assumption) ?_) | (with_reducible refine leq_ ?_) | (with_reducible refine lss_ ?_) | (with_reducible refine geq_ ?_) | (with_reducible refine gtr_ ?_) | (with_reducible refine eqi_ ?_) | (with_reducible refine nei_ ?_) | (with_reducible refine seq_ ?_) | (with_reducible refine sne_ ?_) | (with_reducible refine not_ ?_) | (with_reducible refine nott_ ?_) | (with_reducible refine notf_ ?_) | (with_reducible refine notb_ ?_) | (with_reducible refine slen_ ?_) | (with_reducible refine vlen_ ?_) | (with_reducible refine nck_ ?_) | (with_reducible refine fad_ ?_) | (with_reducible refine ld_ ?_) | (with_reducible refine lda_ ?_) | (with_reducible refine pnilt_ ?_) | (with_reducible refine pnilf_ ?_) | (with_reducible refine pnint_ ?_) | (with_reducible refine pninf_ ?_) | (with_reducible refine ldi_ (by assumption) (by with_unfolding_all rfl) (by with_unfolding_all rfl) ?_) | (with_reducible refine ldi0_ (by assumption) (by with_unfolding_all rfl) ?_) | (with_reducible refine ld_ ?_ (by with_unfolding_all rfl)))
      refine bslf_ (cells := #[i64 i]) (by kernel_rfl) fun b5 J5 hJ5 hr5 => ?_
      refine app_ ho (m := 1) (.imm hr5) (by rfl) (by simp [plainV]) (fun v' L1' ho' _ => ?_) (by omega) (by omega)
      obtain ⟨A9, c9, rfl⟩ := osl_slice ho'
      refine sto_ ?_
      refine add64 ?_
      have e : sizesTo l (i + 1) = sizesTo l i ++ [i] := by rw [sizesTo_succ, hs]; simp
      refine hN (n - 1) (by omega) ⟨i + 1, _, L1', by omega, rfl, hI2.trans hJ5, ?_, rfl⟩
      rw [e, intsC_append, List.length_append]
      exact ho'
    (repeat first | (with_reducible refine cndnn_ (by assumption) ?_) | (with_reducible refine cndbt_ (by assumption) ?_) | (with_reducible refine cndbf_ (by assumption) ?_) | (with_reducible refine gdbtt_ (by assumption) ?_) | (with_reducible refine gdbtf_ (by assumption) ?_) | (with_reducible refine gdbff_ (by assumption) ?_) | (with_reducible refine gdbft_ (by assumption) ?_) | (with_reducible refine pckbt_ (by assumption) ?_) | (with_reducible refine pckbf_ (by assumption) ?_) | (with_reducible refine notbt_ (by assumption) ?_) | (with_reducible refine notbf_ (by assumption) ?_) | (with_reducible refine gdtt_ ?_) | (with_reducible refine gdtf_ ?_) | (with_reducible refine gdff_ ?_) | (with_reducible refine gdft_ ?_) | (with_reducible refine pckt_ ?_) | (with_reducible refine pckf_ ?_) | (with_reducible refine cndt_ ?_) | (with_reducible refine cndf_ ?_) | (with_reducible refine cnd_yes (by assumption) ?_) | (with_reducible refine cnd_no (by assumption) ?_) | (with_reducible refine gd_yes (by assumption) ?_) | (with_reducible refine gd_no (by assumption) ?_) | (with_reducible refine gdn_yes (by assumption) ?_) | (with_reducible refine gdn_no (by assumption) ?_) | (with_reducible refine gdu_ ?_) | (with_reducible refine pck_yes (by assumption) ?_) | (with_reducible refine pck_no (by assumption) ?_) | (with_reducible refine leq_ ?_) | (with_reducible refine lss_ ?_) | (with_reducible refine geq_ ?_) | (with_reducible refine gtr_ ?_) | (with_reducible refine eqi_ ?_) | (with_reducible refine nei_ ?_) | (with_reducible refine seq_ ?_) | (with_reducible refine sne_ ?_) | (with_reducible refine not_ ?_) | (with_reducible refine nott_ ?_) | (with_reducible refine notf_ ?_) | (with_reducible refine notb_ ?_) | (with_reducible refine slen_ ?_) | (with_reducible refine vlen_ ?_) | (with_reducible refine nck_ ?_) | (with_reducible refine fad_ ?_) | (with_reducible refine ld_ ?_) | (with_reducible refine lda_ ?_) | (with_reducible refine pnilt_ ?_) | (with_reducible refine pnilf_ ?_) | (with_reducible refine pnint_ ?_) | (with_reducible refine pninf_ ?_) | (with_reducible refine ldi_ (by assumption) (by with_unfolding_all rfl) (by with_unfolding_all rfl) ?_) | (with_reducible refine ldi0_ (by assumption) (by with_unfolding_all rfl) ?_) | (with_reducible refine ld_ ?_ (by with_unfolding_all rfl)))
    refine iad_ ?_ (by omega) (by omega)
    simp only [Int.toNat_natCast]
    by_cases h2 : l[i].rule = 2
    · have hs : isSize l i = true := by rw [isSize_at hlt]; simp [h2]
      (repeat first | (with_reducible refine cndnn_ (by assumption) ?_) | (with_reducible refine cndbt_ (by assumption) ?_) | (with_reducible refine cndbf_ (by assumption) ?_) | (with_reducible refine gdbtt_ (by assumption) ?_) | (with_reducible refine gdbtf_ (by assumption) ?_) | (with_reducible refine gdbff_ (by assumption) ?_) | (with_reducible refine gdbft_ (by assumption) ?_) | (with_reducible refine pckbt_ (by assumption) ?_) | (with_reducible refine pckbf_ (by assumption) ?_) | (with_reducible refine notbt_ (by assumption) ?_) | (with_reducible refine notbf_ (by assumption) ?_) | (with_reducible refine gdtt_ ?_) | (with_reducible refine gdtf_ ?_) | (with_reducible refine gdff_ ?_) | (with_reducible refine gdft_ ?_) | (with_reducible refine pckt_ ?_) | (with_reducible refine pckf_ ?_) | (with_reducible refine cndt_ ?_) | (with_reducible refine cndf_ ?_) | (with_reducible refine cnd_yes (by assumption) ?_) | (with_reducible refine cnd_no (by assumption) ?_) | (with_reducible refine gd_yes (by assumption) ?_) | (with_reducible refine gd_no (by assumption) ?_) | (with_reducible refine gdn_yes (by assumption) ?_) | (with_reducible refine gdn_no (by assumption) ?_) | (with_reducible refine gdu_ ?_) | (with_reducible refine pck_yes (by assumption) ?_) | (with_reducible refine pck_no (by assumption) ?_) | (with_reducible refine leq_ ?_) | (with_reducible refine lss_ ?_) | (with_reducible refine geq_ ?_) | (with_reducible refine gtr_ ?_) | (with_reducible refine eqi_ ?_) | (with_reducible refine nei_ ?_) | (with_reducible refine seq_ ?_) | (with_reducible refine sne_ ?_) | (with_reducible refine not_ ?_) | (with_reducible refine nott_ ?_) | (with_reducible refine notf_ ?_) | (with_reducible refine notb_ ?_) | (with_reducible refine slen_ ?_) | (with_reducible refine vlen_ ?_) | (with_reducible refine nck_ ?_) | (with_reducible refine fad_ ?_) | (with_reducible refine ld_ ?_) | (with_reducible refine lda_ ?_) | (with_reducible refine pnilt_ ?_) | (with_reducible refine pnilf_ ?_) | (with_reducible refine pnint_ ?_) | (with_reducible refine pninf_ ?_) | (with_reducible refine ldi_ (by assumption) (by with_unfolding_all rfl) (by with_unfolding_all rfl) ?_) | (with_reducible refine ldi0_ (by assumption) (by with_unfolding_all rfl) ?_) | (with_reducible refine ld_ ?_ (by with_unfolding_all rfl)))
      refine bslf_ (cells := #[i64 i]) (by kernel_rfl) fun b5 J5 hJ5 hr5 => ?_
      refine app_ ho (m := 1) (.imm hr5) (by rfl) (by simp [plainV]) (fun v' L1' ho' _ => ?_) (by omega) (by omega)
      obtain ⟨A9, c9, rfl⟩ := osl_slice ho'
      refine sto_ ?_
      refine add64 ?_
      have e : sizesTo l (i + 1) = sizesTo l i ++ [i] := by rw [sizesTo_succ, hs]; simp
      refine hN (n - 1) (by omega) ⟨i + 1, _, L1', by omega, rfl, hI2.trans hJ5, ?_, rfl⟩
      rw [e, intsC_append, List.length_append]
      exact ho'
    (repeat first | (with_reducible refine cndnn_ (by assumption) ?_) | (with_reducible refine cndbt_ (by assumption) ?_) | (with_reducible refine cndbf_ (by assumption) ?_) | (with_reducible refine gdbtt_ (by assumption) ?_) | (with_reducible refine gdbtf_ (by assumption) ?_) | (with_reducible refine gdbff_ (by assumption) ?_) | (with_reducible refine gdbft_ (by assumption) ?_) | (with_reducible refine pckbt_ (by assumption) ?_) | (with_reducible refine pckbf_ (by assumption) ?_) | (with_reducible refine notbt_ (by assumption) ?_) | (with_reducible refine notbf_ (by assumption) ?_) | (with_reducible refine gdtt_ ?_) | (with_reducible refine gdtf_ ?_) | (with_reducible refine gdff_ ?_) | (with_reducible refine gdft_ ?_) | (with_reducible refine pckt_ ?_) | (with_reducible refine pckf_ ?_) | (with_reducible refine cndt_ ?_) | (with_reducible refine cndf_ ?_) | (with_reducible refine cnd_yes (by assumption) ?_) | (with_reducible refine cnd_no (by assumption) ?_) | (with_reducible refine gd_yes (by assumption) ?_) | (with_reducible refine gd_no (by assumption) ?_) | (with_reducible refine gdn_yes (by assumption) ?_) | (with_reducible refine gdn_no (by assumption) ?_) | (with_reducible refine gdu_ ?_) | (with_reducible refine pck_yes (by assumption) ?_) | (with_reducible refine pck_no (by assumption) ?_) | (with_reducible refine leq_ ?_) | (with_reducible refine lss_ ?_) | (with_reducible refine geq_ ?_) | (with_reducible refine gtr_ ?_) | (with_reducible refine eqi_ ?_) | (with_reducible refine nei_ ?_) | (with_reducible refine seq_ ?_) | (with_reducible refine sne_ ?_) | (with_reducible refine not_ ?_) | (with_reducible refine nott_ ?_) | (with_reducible refine notf_ ?_) | (with_reducible refine notb_ ?_) | (with_reducible refine slen_ ?_) | (with_reducible refine vlen_ ?_) | (with_reducible refine nck_ ?_) | (with_reducible refine fad_ ?_) | (with_reducible refine ld_ ?_) | (with_reducible refine lda_ ?_) | (with_reducible refine pnilt_ ?_) | (with_reducible refine pnilf_ ?_) | (with_reducible refine pnint_ ?_) | (with_reducible refine pninf_ ?_) | (with_reducible refine ldi_ (by assumption) (by with_unfolding_all rfl) (by with_unfolding_all rfl) ?_) | (with_reducible refine ldi0_ (by assumption) (by with_unfolding_all rfl) ?_) | (with_reducible refine ld_ ?_ (by with_unfolding_all rfl)))
    refine add64 ?_
    rw [keep (by rw [isSize_at hlt]; simp [h1, h2])] at ho
    refine hN (n - 1) (by omega) ⟨i + 1, _, Lr, by omega, rfl, hI2, ?_, rfl⟩
    rw [keep (by rw [isSize_at hlt]; simp [h1, h2])]
    exact ho
  refine cnd_no (by omega) ?_
  refine out11_0x0 (join11_1 ?_)
  unfold T11_1
  obtain rfl : i = l.length := by omega
  refine loop11_2 (n := l.length) (fun n K L => ∃ (d : List Nat) (v : Value) (Lr : Own), n = l.length - d.length ∧ J.Le K ∧ DoneS l d ∧ OSl 3 1 v (sizesTo l l.length ++ d).length (intsC (sizesTo l l.length ++ d)) Lr ∧ L = Lr ++ [(b3, .cells #[v] 38)])
    ⟨[], _, Lr, rfl, hI2, .nil l, by simpa using ho, rfl⟩ ?_
  rintro n I3 L3 hle3 ⟨d, v, Lr, rfl, hI3, hd, ho, rfl⟩ N hN u
  obtain ⟨A8, c8, rfl⟩ := osl_slice ho
  have hb := h.up (hJ.trans hI3)
  have hr3 := hr1.up hI3
  have hdl := hd.len
  unfold B11_2
  (repeat first | (with_reducible refine cndnn_ (by assumption) ?_) | (with_reducible refine cndbt_ (by assumption) ?_) | (with_reducible refine cndbf_ (by assumption) ?_) | (with_reducible refine gdbtt_ (by assumption) ?_) | (with_reducible refine gdbtf_ (by assumption) ?_) | (with_reducible refine gdbff_ (by assumption) ?_) | (with_reducible refine gdbft_ (by assumption) ?_) | (with_reducible refine pckbt_ (by assumption) ?_) | (with_reducible refine pckbf_ (by assumption) ?_) | (with_reducible refine notbt_ (by assumption) ?_) | (with_reducible refine notbf_ (by assumption) ?_) | (with_reducible refine gdtt_ ?_) | (with_reducible refine gdtf_ ?_) | (with_reducible refine gdff_ ?_) | (with_reducible refine gdft_ ?_) | (with_reducible refine pckt_ ?_) | (with_reducible refine pckf_ ?_) | (with_reducible refine cndt_ ?_) | (with_reducible refine cndf_ ?_) | (with_reducible refine cnd_yes (by assumption) ?_) | (with_reducible refine cnd_no (by assumption) ?_) | (with_reducible refine gd_yes (by assumption) ?_) | (with_reducible refine gd_no (by assumption) ?_) | (with_reducible refine gdn_yes (by assumption) ?_) | (with_reducible refine gdn_no (by assumption) ?_) | (with_reducible refine gdu_ ?_) | (with_reducible refine pck_yes (by assumption) ?_) | (with_reducible refine pck_no (by assumption) ?_) | (with_reducible refine leq_ ?_) | (with_reducible refine lss_ ?_) | (with_reducible refine geq_ ?_) | (with_reducible refine gtr_ ?_) | (with_reducible refine eqi_ ?_) | (with_reducible refine nei_ ?_) | (with_reducible refine seq_ ?_) | (with_reducible refine sne_ ?_) | (with_reducible refine not_ ?_) | (with_reducible refine nott_ ?_) | (with_reducible refine notf_ ?_) | (with_reducible refine notb_ ?_) | (with_reducible refine slen_ ?_) | (with_reducible refine vlen_ ?_) | (with_reducible refine nck_ ?_) | (with_reducible refine fad_ ?_) | (with_reducible refine ld_ ?_) | (with_reducible refine lda_ ?_) | (with_reducible refine pnilt_ ?_) | (with_reducible refine pnilf_ ?_) | (with_reducible refine pnint_ ?_) | (with_reducible refine pninf_ ?_) | (with_reducible refine ldi_ (by assumption) (by with_unfolding_all rfl) (by with_unfolding_all rfl) ?_) | (with_reducible refine ldi0_ (by assumption) (by with_unfolding_all rfl) ?_) | (with_reducible refine ld_ ?_ (by with_unfolding_all rfl)))
  refine cal_keep (L1 := (b3, .cells #[.slice A8 (sizesTo l l.length ++ d).length c8] 38) :: Lr) (indexFunc_ret hb (by omega) (nextB l (sizesTo l l.length ++ d)) fun i hi K cp A2 c2 hK hbk hcp => ?_) fun v K hK hv => ?_
  · show RetC Try.prog 24 #[_, ptr b1 0, ptr b3 0] K _ _
    exact next_ret hbk (by omega) ok.u (hr3.up hK) ho (by simp; omega) i hi hcp
  subst hv
  have e : firstN l.length (nextB l (sizesTo l l.length ++ d)) = firstN l.length (nextC l d) := by
    unfold firstN
    have : ∀ (m : List Nat), (∀ i ∈ m, i < l.length) → m.find? (nextB l (sizesTo l l.length ++ d)) = m.find? (nextC l d) := fun m => by
      induction m with
      | nil => exact fun _ => rfl
      | cons x m ih =>
        intro hm
        simp only [List.find?_cons, next_eq ok hd.r x (hm x (by simp)), ih fun i hi => hm i (by simp [hi])]
    rw [this _ fun i hi => List.mem_range.1 hi]
  rw [e]
  rcases firstN_cases l.length (nextC l d) with ⟨h1, h2⟩ | ⟨j, hj, h1, h2, h3⟩
  · rw [h1]
    refine lss_ ?_
    refine cnd_yes (by decide) ?_
    (repeat first | (with_reducible refine cndnn_ (by assumption) ?_) | (with_reducible refine cndbt_ (by assumption) ?_) | (with_reducible refine cndbf_ (by assumption) ?_) | (with_reducible refine gdbtt_ (by assumption) ?_) | (with_reducible refine gdbtf_ (by assumption) ?_) | (with_reducible refine gdbff_ (by assumption) ?_) | (with_reducible refine gdbft_ (by assumption) ?_) | (with_reducible refine pckbt_ (by assumption) ?_) | (with_reducible refine pckbf_ (by assumption) ?_) | (with_reducible refine notbt_ (by assumption) ?_) | (with_reducible refine notbf_ (by assumption) ?_) | (with_reducible refine gdtt_ ?_) | (with_reducible refine gdtf_ ?_) | (with_reducible refine gdff_ ?_) | (with_reducible refine gdft_ ?_) | (with_reducible refine pckt_ ?_) | (with_reducible refine pckf_ ?_) | (with_reducible refine cndt_ ?_) | (with_reducible refine cndf_ ?_) | (with_reducible refine cnd_yes (by assumption) ?_) | (with_reducible refine cnd_no (by assumption) ?_) | (with_reducible refine gd_yes (by assumption) ?_) | (with_reducible refine gd_no (by assumption) ?_) | (with_reducible refine gdn_yes (by assumption) ?_) | (with_reducible refine gdn_no (by assumption) ?_) | (with_reducible refine gdu_ ?_) | (with_reducible refine pck_yes (by assumption) ?_) | (with_reducible refine pck_no (by assumption) ?_) | (with_reducible refine leq_ ?_) | (with_reducible refine lss_ ?_) | (with_reducible refine geq_ ?_) | (with_reducible refine gtr_ ?_) | (with_reducible refine eqi_ ?_) | (with_reducible refine nei_ ?_) | (with_reducible refine seq_ ?_) | (with_reducible refine sne_ ?_) | (with_reducible refine not_ ?_) | (with_reducible refine nott_ ?_) | (with_reducible refine notf_ ?_) | (with_reducible refine notb_ ?_) | (with_reducible refine slen_ ?_) | (with_reducible refine vlen_ ?_) | (with_reducible refine nck_ ?_) | (with_reducible refine fad_ ?_) | (with_reducible refine ld_ ?_) | (with_reducible refine lda_ ?_) | (with_reducible refine pnilt_ ?_) | (with_reducible refine pnilf_ ?_) | (with_reducible refine pnint_ ?_) | (with_reducible refine pninf_ ?_) | (with_reducible refine ldi_ (by assumption) (by with_unfolding_all rfl) (by with_unfolding_all rfl) ?_) | (with_reducible refine ldi0_ (by assumption) (by with_unfolding_all rfl) ?_) | (with_reducible refine ld_ ?_ (by with_unfolding_all rfl)))
    refine out11_2r ?_
    refine fin_ret (L1 := Lr) fun _ _ => ?_
    unfold orderL
    rw [hd.end h2]
    exact ho
  · rw [h1]
    refine lss_ ?_
    refine cnd_no (by omega) ?_
    (repeat first | (with_reducible refine cndnn_ (by assumption) ?_) | (with_reducible refine cndbt_ (by assumption) ?_) | (with_reducible refine cndbf_ (by assumption) ?_) | (with_reducible refine gdbtt_ (by assumption) ?_) | (with_reducible refine gdbtf_ (by assumption) ?_) | (with_reducible refine gdbff_ (by assumption) ?_) | (with_reducible refine gdbft_ (by assumption) ?_) | (with_reducible refine pckbt_ (by assumption) ?_) | (with_reducible refine pckbf_ (by assumption) ?_) | (with_reducible refine notbt_ (by assumption) ?_) | (with_reducible refine notbf_ (by assumption) ?_) | (with_reducible refine gdtt_ ?_) | (with_reducible refine gdtf_ ?_) | (with_reducible refine gdff_ ?_) | (with_reducible refine gdft_ ?_) | (with_reducible refine pckt_ ?_) | (with_reducible refine pckf_ ?_) | (with_reducible refine cndt_ ?_) | (with_reducible refine cndf_ ?_) | (with_reducible refine cnd_yes (by assumption) ?_) | (with_reducible refine cnd_no (by assumption) ?_) | (with_reducible refine gd_yes (by assumption) ?_) | (with_reducible refine gd_no (by assumption) ?_) | (with_reducible refine gdn_yes (by assumption) ?_) | (with_reducible refine gdn_no (by assumption) ?_) | (with_reducible refine gdu_ ?_) | (with_reducible refine pck_yes (by assumption) ?_) | (with_reducible refine pck_no (by assumption) ?_) | (with_reducible refine leq_ ?_) | (with_reducible refine lss_ ?_) | (with_reducible refine geq_ ?_) | (with_reducible refine gtr_ ?_) | (with_reducible refine eqi_ ?_) | (with_reducible refine nei_ ?_) | (with_reducible refine seq_ ?_) | (with_reducible refine sne_ ?_) | (with_reducible refine not_ ?_) | (with_reducible refine nott_ ?_) | (with_reducible refine notf_ ?_) | (with_reducible refine notb_ ?_) | (with_reducible refine slen_ ?_) | (with_reducible refine vlen_ ?_) | (with_reducible refine nck_ ?_) | (with_reducible refine fad_ ?_) | (with_reducible refine ld_ ?_) | (with_reducible refine lda_ ?_) | (with_reducible refine pnilt_ ?_) | (with_reducible refine pnilf_ ?_) | (with_reducible refine pnint_ ?_) | (with_reducible refine pninf_ ?_) | (with_reducible refine ldi_ (by assumption) (by with_unfolding_all rfl) (by with_unfolding_all rfl) ?_) | (with_reducible refine ldi0_ (by assumption) (by with_unfolding_all rfl) ?_) | (with_reducible refine ld_ ?_ (by with_unfolding_all rfl)))
    refine bslf_ (cells := #[i64 j]) (by kernel_rfl) fun b5 J5 hJ5 hr5 => ?_
    have hadd := hd.add h2 h3
    have hal := hadd.len
    simp only [List.length_append, List.length_singleton] at hal
    refine app_ ho (m := 1) (.imm hr5) (by rfl) (by simp [plainV]) (fun v' L1' ho' _ => ?_) (by simp; omega) (by simp; omega)
    obtain ⟨A9, c9, rfl⟩ := osl_slice ho'
    refine sto_ ?_
    refine hN (l.length - (d ++ [j]).length) (by simp; omega) ⟨d ++ [j], _, L1', rfl, hI3.trans (hK.trans hJ5), hadd, ?_, rfl⟩
    have el : (sizesTo l l.length ++ d ++ [j]).length = (sizesTo l l.length ++ d).length + 1 := by simp; omega
    rw [← List.append_assoc, intsC_append, el]
    exact ho'
end Go.Proofs.Ytkclodaplbalfaa
