/- Templates that are right: what that gives; the law TypesOrders, walked. Conditions: none. -/
import Derived.Test.YtkclodaplbalfaaOrd4
set_option linter.unusedVariables false
set_option linter.unusedSimpArgs false
set_option maxRecDepth 100000
set_option maxHeartbeats 2000000
namespace Go.Proofs.Ytkclodaplbalfaa
open Go Sl
mutual
theorem itW_sup (ty : List Nm) : ∀ (x : It) (names seen : List Nm) (a : Nm), a ∈ names → a ∈ (itW ty x names seen).2
  | ⟨k, at_, nm, t, w, o, sg, mn, ct, rl, f, l, its⟩, names, seen, a, h => by
    rw [itW]
    split
    · split
      · exact h
      · split <;> simp [h]
    · split
      · exact h
      · split
        · exact itsW_sup ty its names seen a h
        · exact itsW_sup ty its names seen a h
theorem itsW_sup (ty : List Nm) : ∀ (l : List It) (names seen : List Nm) (a : Nm), a ∈ names → a ∈ (itsW ty l names seen).2
  | [], names, seen, a, h => by rw [itsW]; exact h
  | x :: l, names, seen, a, h => by
    rw [itsW]
    split
    · exact itW_sup ty x names seen a h
    · exact itsW_sup ty l _ _ a (itW_sup ty x names seen a h)
end
theorem itW_new {ty : List Nm} {x : It} {names seen : List Nm} (h : (itW ty x names seen).1.1 = 0) (hk : x.kind ≠ 4) : x.name ∉ names ∧ x.name ∈ (itW ty x names seen).2 := by
  rw [itW_eq, if_pos hk] at h ⊢
  split at h
  · simp at h
  · rename_i h1
    refine ⟨h1, ?_⟩
    rw [if_neg h1]
    split <;> simp
theorem itsW_new (ty : List Nm) : ∀ (l : List It) (names seen : List Nm), (itsW ty l names seen).1.1 = 0 → (∀ i (hi : i < l.length), l[i].kind ≠ 4 → l[i].name ∉ names) ∧ ∀ i j (hj : j < l.length) (hij : i < j), l[i].kind ≠ 4 → l[j].kind ≠ 4 → l[i].name ≠ l[j].name
  | [], names, seen, h => ⟨fun i hi => absurd hi (by simp), fun i j hj => absurd hj (by simp)⟩
  | x :: l, names, seen, h => by
    rw [itsW_cons] at h
    split at h
    · contradiction
    · rename_i h1
      have h1' : (itW ty x names seen).1.1 = 0 := by simpa using h1
      obtain ⟨g1, g2⟩ := itsW_new ty l _ _ h
      refine ⟨fun i hi hk => ?_, fun i j hj hij hki hkj => ?_⟩
      · cases i with
        | zero => exact (itW_new h1' hk).1
        | succ i => exact fun hm => g1 i (by simpa using hi) hk (itW_sup ty x names seen _ hm)
      · cases j with
        | zero => omega
        | succ j =>
          have hj' : j < l.length := by simpa using hj
          cases i with
          | zero => exact fun e => g1 j hj' hkj (by simp only [List.getElem_cons_succ] at e ⊢; rw [← e]; exact (itW_new h1' hki).2)
          | succ i => exact g2 i j hj' (by omega) hki hkj
theorem itsW_mem (ty : List Nm) : ∀ (l : List It) (names seen : List Nm), (itsW ty l names seen).1.1 = 0 → ∀ x ∈ l, ∃ names' seen', (itW ty x names' seen').1.1 = 0
  | [], names, seen, h, x, hx => by cases hx
  | y :: l, names, seen, h, x, hx => by
    rw [itsW_cons] at h
    split at h
    · contradiction
    · rename_i h1
      rcases List.mem_cons.1 hx with rfl | hx
      · exact ⟨names, seen, by simpa using h1⟩
      · exact itsW_mem ty l _ _ h x hx
theorem firstF_ok {f : Nat → Flt} : ∀ (n i : Nat), (firstF n i f).1 = 0 → ∀ j, i ≤ j → j < i + n → (f j).1 = 0
  | 0, i, h, j, h1, h2 => by omega
  | n + 1, i, h, j, h1, h2 => by
    rw [firstF] at h
    split at h
    · contradiction
    · rename_i h3
      by_cases hji : j = i
      · subst hji; simpa using h3
      · exact firstF_ok n (i + 1) h j (by omega) (by omega)
/-- A block that is right, and all within. -/
inductive OkT : List It → Prop where
  | mk (l : List It) (h : OkB l) (hs : ∀ x ∈ l, x.kind = 4 → OkT x.items) : OkT l
theorem okT_of (m : Nat) : ∀ {l : List It} {ty names seen : List Nm}, (∀ x ∈ l, Wf m x) → l.length ≤ 16 → (blkW ty l names seen).1.1 = 0 → OkT l := by
  induction m with
  | zero =>
    intro l ty names seen hw hl h
    have hl0 : l = [] := by
      cases l with
      | nil => rfl
      | cons x l => exact absurd (hw x (by simp)) (fun h => by cases h)
    subst hl0
    exact .mk [] ⟨fun i hi => absurd hi (by simp), fun i hi => absurd hi (by simp), fun i hi => absurd hi (by simp), by simp⟩ (fun x hx => by cases hx)
  | succ m ih =>
    intro l ty names seen hw hl h
    unfold blkW at h
    split at h
    · contradiction
    · rename_i h1
      have h1' : (itsW ty l names seen).1.1 = 0 := by simpa using h1
      obtain ⟨g1, g2⟩ := itsW_new ty l names seen h1'
      refine .mk l ⟨fun i hi hk => ?_, fun i hi h3 => ?_, fun i hi hk => ?_, hl⟩ fun x hx hk => ?_
      · rw [whichZ_eq]
        refine firstN_at hi (by rw [named_at hi]; simp [hk]) fun j hj => ?_
        rw [named_at (by omega)]
        by_cases hkj : l[j].kind ≠ 4
        · have := g2 j i hi hj hkj hk
          simp [this]
        · simp at hkj
          simp [hkj]
      · simp only at h
        rw [rulesW_eq] at h
        split at h
        · contradiction
        · rename_i h5
          have h6 := firstF_ok _ _ (by simpa using h5) i (by omega) (by omega)
          rw [rulF_at hi] at h6
          unfold ruleW at h6
          rw [if_neg (by omega)] at h6
          simp only at h6
          by_cases hneg : whichZ l l[i].first < 0
          · rw [if_pos (.inl hneg)] at h6
            simp at h6
          · omega
      · obtain ⟨_, _, w1, w2, w3, w4⟩ := hw _ (List.getElem_mem hi)
        exact w1 hk
      · obtain ⟨_, _, w1, w2, w3, w4⟩ := hw x hx
        obtain ⟨names', seen', h8⟩ := itsW_mem ty l names seen h1' x hx
        rw [itW_eq, if_neg (by simpa using hk)] at h8
        split at h8
        · contradiction
        · refine ih (ty := ty) (names := names') (seen := seen') w2 w3 ?_
          unfold blkW
          exact h8
theorem typesW_ok : ∀ {l : List Ty} {ty : List Nm}, (∀ t ∈ l, ∀ x ∈ t.items, Wf 8 x) → (∀ t ∈ l, t.items.length ≤ 16) → (typesW l ty).1 = 0 → ∀ t ∈ l, OkT t.items
  | [], ty, hw, hl, h, t, ht => by cases ht
  | u :: l, ty, hw, hl, h, t, ht => by
    rw [typesW_cons] at h
    split at h
    · simp at h
    · split at h
      · contradiction
      · rename_i h1
        rcases List.mem_cons.1 ht with rfl | ht
        · exact okT_of 8 (hw _ (by simp)) (hl _ (by simp)) (by simpa using h1)
        · exact typesW_ok (fun t ht => hw t (by simp [ht])) (fun t ht => hl t (by simp [ht])) h t ht
/-! ### the statement's own functions -/
def farB (n : Nat) : Bool := (decide (900 < n) && decide (n ≤ 3000)) || decide (3009 < n)
theorem far_pure (s : List UInt8) : PureC Try.prog 6 #[S s] (.bool (farB s.length)) := by
  intro I
  refine go6 ?_
  unfold M6
  by_cases h1 : (900 : Int) < s.length <;> by_cases h2 : (s.length : Int) ≤ 3000 <;> (repeat first | (with_reducible refine gdtt_ ?_) | (with_reducible refine gdtf_ ?_) | (with_reducible refine gdff_ ?_) | (with_reducible refine gdft_ ?_) | (with_reducible refine pckt_ ?_) | (with_reducible refine pckf_ ?_) | (with_reducible refine cndt_ ?_) | (with_reducible refine cndf_ ?_) | (with_reducible refine cnd_yes (by assumption) ?_) | (with_reducible refine cnd_no (by assumption) ?_) | (with_reducible refine gd_yes (by assumption) ?_) | (with_reducible refine gd_no (by assumption) ?_) | (with_reducible refine gdn_yes (by assumption) ?_) | (with_reducible refine gdn_no (by assumption) ?_) | (with_reducible refine gdu_ ?_) | (with_reducible refine pck_yes (by assumption) ?_) | (with_reducible refine pck_no (by assumption) ?_) | (with_reducible refine leq_ ?_) | (with_reducible refine lss_ ?_) | (with_reducible refine geq_ ?_) | (with_reducible refine gtr_ ?_) | (with_reducible refine eqi_ ?_) | (with_reducible refine nei_ ?_) | (with_reducible refine seq_ ?_) | (with_reducible refine sne_ ?_) | (with_reducible refine not_ ?_) | (with_reducible refine nott_ ?_) | (with_reducible refine notf_ ?_) | (with_reducible refine notb_ ?_) | (with_reducible refine slen_ ?_) | (with_reducible refine vlen_ ?_) | (with_reducible refine nck_ ?_) | (with_reducible refine fad_ ?_) | (with_reducible refine ld_ ?_) | (with_reducible refine lda_ ?_) | (with_reducible refine pnilt_ ?_) | (with_reducible refine pnilf_ ?_) | (with_reducible refine pnint_ ?_) | (with_reducible refine pninf_ ?_)) <;> exact ret_bool (by rw [Bool.eq_iff_iff]; simp [farB]; omega)
theorem farB_no {n : Nat} (h : farB n = false) : n ≤ 3009 := by
  unfold farB at h
  simp at h
  omega
def intC (l : List Int) : List Value := l.map fun k => i64 k
theorem sameInts_ro {I : Imm} {A B : Option Addr} {c d : Nat} {l : List Int} (hA : RSl I A (intC l)) (hB : RSl I B (intC l)) (hl : l.length ≤ 1000000) : RetC Try.prog 10 #[.slice A l.length c, .slice B l.length d] I [] (fun v J L => v = .bool true ∧ L = []) := by
  refine .of (go10 ?_)
  unfold M10
  (repeat first | (with_reducible refine cndnn_ (by assumption) ?_) | (with_reducible refine cndbt_ (by assumption) ?_) | (with_reducible refine cndbf_ (by assumption) ?_) | (with_reducible refine gdbtt_ (by assumption) ?_) | (with_reducible refine gdbtf_ (by assumption) ?_) | (with_reducible refine gdbff_ (by assumption) ?_) | (with_reducible refine gdbft_ (by assumption) ?_) | (with_reducible refine pckbt_ (by assumption) ?_) | (with_reducible refine pckbf_ (by assumption) ?_) | (with_reducible refine notbt_ (by assumption) ?_) | (with_reducible refine notbf_ (by assumption) ?_) | (with_reducible refine gdtt_ ?_) | (with_reducible refine gdtf_ ?_) | (with_reducible refine gdff_ ?_) | (with_reducible refine gdft_ ?_) | (with_reducible refine pckt_ ?_) | (with_reducible refine pckf_ ?_) | (with_reducible refine cndt_ ?_) | (with_reducible refine cndf_ ?_) | (with_reducible refine cnd_yes (by assumption) ?_) | (with_reducible refine cnd_no (by assumption) ?_) | (with_reducible refine gd_yes (by assumption) ?_) | (with_reducible refine gd_no (by assumption) ?_) | (with_reducible refine gdn_yes (by assumption) ?_) | (with_reducible refine gdn_no (by assumption) ?_) | (with_reducible refine gdu_ ?_) | (with_reducible refine pck_yes (by assumption) ?_) | (with_reducible refine pck_no (by assumption) ?_) | (with_reducible refine leq_ ?_) | (with_reducible refine lss_ ?_) | (with_reducible refine geq_ ?_) | (with_reducible refine gtr_ ?_) | (with_reducible refine eqi_ ?_) | (with_reducible refine nei_ ?_) | (with_reducible refine seq_ ?_) | (with_reducible refine sne_ ?_) | (with_reducible refine not_ ?_) | (with_reducible refine nott_ ?_) | (with_reducible refine notf_ ?_) | (with_reducible refine notb_ ?_) | (with_reducible refine slen_ ?_) | (with_reducible refine vlen_ ?_) | (with_reducible refine nck_ ?_) | (with_reducible refine fad_ ?_) | (with_reducible refine ld_ ?_) | (with_reducible refine lda_ ?_) | (with_reducible refine pnilt_ ?_) | (with_reducible refine pnilf_ ?_) | (with_reducible refine pnint_ ?_) | (with_reducible refine pninf_ ?_) | (with_reducible refine ldi_ (by assumption) (by with_unfolding_all rfl) (by with_unfolding_all rfl) ?_) | (with_reducible refine ldi0_ (by assumption) (by with_unfolding_all rfl) ?_) | (with_reducible refine ld_ ?_ (by with_unfolding_all rfl)))
  refine cnd_no (by simp) ?_
  refine loop10_0 (n := l.length) (fun n x K L => ∃ i : Nat, n + i = l.length ∧ x = i64 i ∧ I.Le K ∧ L = []) ⟨0, by omega, rfl, .refl _, rfl⟩ ?_
  rintro n x I2 L2 hle ⟨i, hi, rfl, hI2, rfl⟩ N hN u
  have hA2 := hA.up hI2
  have hB2 := hB.up hI2
  unfold B10_0
  (repeat first | (with_reducible refine cndnn_ (by assumption) ?_) | (with_reducible refine cndbt_ (by assumption) ?_) | (with_reducible refine cndbf_ (by assumption) ?_) | (with_reducible refine gdbtt_ (by assumption) ?_) | (with_reducible refine gdbtf_ (by assumption) ?_) | (with_reducible refine gdbff_ (by assumption) ?_) | (with_reducible refine gdbft_ (by assumption) ?_) | (with_reducible refine pckbt_ (by assumption) ?_) | (with_reducible refine pckbf_ (by assumption) ?_) | (with_reducible refine notbt_ (by assumption) ?_) | (with_reducible refine notbf_ (by assumption) ?_) | (with_reducible refine gdtt_ ?_) | (with_reducible refine gdtf_ ?_) | (with_reducible refine gdff_ ?_) | (with_reducible refine gdft_ ?_) | (with_reducible refine pckt_ ?_) | (with_reducible refine pckf_ ?_) | (with_reducible refine cndt_ ?_) | (with_reducible refine cndf_ ?_) | (with_reducible refine cnd_yes (by assumption) ?_) | (with_reducible refine cnd_no (by assumption) ?_) | (with_reducible refine gd_yes (by assumption) ?_) | (with_reducible refine gd_no (by assumption) ?_) | (with_reducible refine gdn_yes (by assumption) ?_) | (with_reducible refine gdn_no (by assumption) ?_) | (with_reducible refine gdu_ ?_) | (with_reducible refine pck_yes (by assumption) ?_) | (with_reducible refine pck_no (by assumption) ?_) | (with_reducible refine leq_ ?_) | (with_reducible refine lss_ ?_) | (with_reducible refine geq_ ?_) | (with_reducible refine gtr_ ?_) | (with_reducible refine eqi_ ?_) | (with_reducible refine nei_ ?_) | (with_reducible refine seq_ ?_) | (with_reducible refine sne_ ?_) | (with_reducible refine not_ ?_) | (with_reducible refine nott_ ?_) | (with_reducible refine notf_ ?_) | (with_reducible refine notb_ ?_) | (with_reducible refine slen_ ?_) | (with_reducible refine vlen_ ?_) | (with_reducible refine nck_ ?_) | (with_reducible refine fad_ ?_) | (with_reducible refine ld_ ?_) | (with_reducible refine lda_ ?_) | (with_reducible refine pnilt_ ?_) | (with_reducible refine pnilf_ ?_) | (with_reducible refine pnint_ ?_) | (with_reducible refine pninf_ ?_) | (with_reducible refine ldi_ (by assumption) (by with_unfolding_all rfl) (by with_unfolding_all rfl) ?_) | (with_reducible refine ldi0_ (by assumption) (by with_unfolding_all rfl) ?_) | (with_reducible refine ld_ ?_ (by with_unfolding_all rfl)))
  by_cases hlt : i < l.length
  · refine cnd_yes (by omega) ?_
    obtain ⟨bA, oA, rfl, hrA⟩ := hA2.some (j := i) (by simpa [intC] using hlt)
    obtain ⟨bB, oB, rfl, hrB⟩ := hB2.some (j := i) (by simpa [intC] using hlt)
    refine draw10_1 (C := Eqs I2 []) ⟨rfl, rfl⟩ ?_
    unfold G10_1
    have hc : (intC l)[i]? = some (i64 l[i]) := by simp [intC, hlt]
    refine qS_of (fun I L _ => rd_iad (by omega) (by omega)) ?_
    refine qS_of (fun I L h => by obtain ⟨rfl, rfl⟩ := h; exact rd_ld (hrA.cel (j := i) (by simp) hc)) ?_
    refine qS_of (fun I L _ => rd_iad (by omega) (by omega)) ?_
    refine qS_of (fun I L h => by obtain ⟨rfl, rfl⟩ := h; exact rd_ld (hrB.cel (j := i) (by simp) hc)) ?_
    refine qS_of (fun I L _ => rd_nei) ?_
    refine join10_3 ?_
    unfold T10_3
    refine cnd_no (by simp) ?_
    refine join10_4 ?_
    unfold T10_4
    refine add64 ?_
    exact hN (n - 1) (by omega) ⟨i + 1, by omega, rfl, hI2, rfl⟩
  · refine cnd_no (by omega) ?_
    refine out10_0x0 (join10_2 ?_)
    unfold T10_2
    exact fin_ret (L1 := []) fun _ _ => ⟨rfl, rfl⟩
theorem intsC_eq (l : List Nat) : intsC l = intC (castL l) := by simp [intsC, intC, castL]
theorem ordered_ret {l : List It} (ok : OkT l) : ∀ {I : Imm} {A : Option Addr} {c : Nat}, BlkR I A c l → RetC Try.prog 5 #[.slice A l.length c] I [] (fun v J L => v = .bool true ∧ L = []) := by
  induction ok with
  | mk l ok hs ih =>
  intro I A c h
  have hl := ok.n
  refine .of (go5 ?_)
  unfold M5
  refine cal_ret (L1 := []) (order_ret h ok) fun v1 J1 L1 hJ1 h1 => ?_
  refine cal_ret (L1 := []) (typesOrder_ret (h.up hJ1) hl) fun v2 J2 L2 hJ2 h2 => ?_
  refine cal_freeze (L2 ++ L1) fun J3 hJ3 hz => ?_
  obtain ⟨A1, c1, rfl, hA1, hc1⟩ := osl_rsl h1 (fun p hp => hz p (by simp [hp]))
  obtain ⟨A2, c2, rfl, hA2, hc2⟩ := osl_rsl h2 (fun p hp => hz p (by simp [hp]))
  have hol : (castL (orderL l)).length = (orderL l).length := by simp [castL]
  rw [intsC_eq] at hA1 hA2
  rw [← hol]
  have hle : (castL (orderL l)).length ≤ 1000000 := by
    rw [hol]
    unfold orderL
    rw [List.length_append]
    have e1 := sizesTo_le l l.length
    have e2 : ∀ n d, (ordG l n d).length ≤ n + d.length := fun n => by
      induction n with
      | zero => exact fun d => by simp [ordG]
      | succ n ihn =>
        intro d
        rw [ordG]
        split
        · omega
        · have := ihn (d ++ [(firstN l.length (nextC l d)).toNat])
          simp only [List.length_append, List.length_singleton] at this
          omega
    have := e2 l.length []
    simp only [List.length_nil] at this
    omega
  refine cal_keep (L1 := []) (sameInts_ro hA1 hA2 hle) fun v4 J4 hJ4 hv4 => ?_
  subst hv4
  (repeat first | (with_reducible refine cndnn_ (by assumption) ?_) | (with_reducible refine cndbt_ (by assumption) ?_) | (with_reducible refine cndbf_ (by assumption) ?_) | (with_reducible refine gdbtt_ (by assumption) ?_) | (with_reducible refine gdbtf_ (by assumption) ?_) | (with_reducible refine gdbff_ (by assumption) ?_) | (with_reducible refine gdbft_ (by assumption) ?_) | (with_reducible refine pckbt_ (by assumption) ?_) | (with_reducible refine pckbf_ (by assumption) ?_) | (with_reducible refine notbt_ (by assumption) ?_) | (with_reducible refine notbf_ (by assumption) ?_) | (with_reducible refine gdtt_ ?_) | (with_reducible refine gdtf_ ?_) | (with_reducible refine gdff_ ?_) | (with_reducible refine gdft_ ?_) | (with_reducible refine pckt_ ?_) | (with_reducible refine pckf_ ?_) | (with_reducible refine cndt_ ?_) | (with_reducible refine cndf_ ?_) | (with_reducible refine cnd_yes (by assumption) ?_) | (with_reducible refine cnd_no (by assumption) ?_) | (with_reducible refine gd_yes (by assumption) ?_) | (with_reducible refine gd_no (by assumption) ?_) | (with_reducible refine gdn_yes (by assumption) ?_) | (with_reducible refine gdn_no (by assumption) ?_) | (with_reducible refine gdu_ ?_) | (with_reducible refine pck_yes (by assumption) ?_) | (with_reducible refine pck_no (by assumption) ?_) | (with_reducible refine leq_ ?_) | (with_reducible refine lss_ ?_) | (with_reducible refine geq_ ?_) | (with_reducible refine gtr_ ?_) | (with_reducible refine eqi_ ?_) | (with_reducible refine nei_ ?_) | (with_reducible refine seq_ ?_) | (with_reducible refine sne_ ?_) | (with_reducible refine not_ ?_) | (with_reducible refine nott_ ?_) | (with_reducible refine notf_ ?_) | (with_reducible refine notb_ ?_) | (with_reducible refine slen_ ?_) | (with_reducible refine vlen_ ?_) | (with_reducible refine nck_ ?_) | (with_reducible refine fad_ ?_) | (with_reducible refine ld_ ?_) | (with_reducible refine lda_ ?_) | (with_reducible refine pnilt_ ?_) | (with_reducible refine pnilf_ ?_) | (with_reducible refine pnint_ ?_) | (with_reducible refine pninf_ ?_) | (with_reducible refine ldi_ (by assumption) (by with_unfolding_all rfl) (by with_unfolding_all rfl) ?_) | (with_reducible refine ldi0_ (by assumption) (by with_unfolding_all rfl) ?_) | (with_reducible refine ld_ ?_ (by with_unfolding_all rfl)))
  refine loop5_0 (n := l.length) (fun n x K L => ∃ i : Nat, n + i = l.length ∧ x = i64 i ∧ J4.Le K ∧ L = []) ⟨0, by omega, rfl, .refl _, rfl⟩ ?_
  rintro n x I2 L2 hle ⟨i, hi, rfl, hI2, rfl⟩ N hN u
  have hb := h.up (hJ1.trans (hJ2.trans (hJ3.trans (hJ4.trans hI2))))
  unfold B5_0
  (repeat first | (with_reducible refine cndnn_ (by assumption) ?_) | (with_reducible refine cndbt_ (by assumption) ?_) | (with_reducible refine cndbf_ (by assumption) ?_) | (with_reducible refine gdbtt_ (by assumption) ?_) | (with_reducible refine gdbtf_ (by assumption) ?_) | (with_reducible refine gdbff_ (by assumption) ?_) | (with_reducible refine gdbft_ (by assumption) ?_) | (with_reducible refine pckbt_ (by assumption) ?_) | (with_reducible refine pckbf_ (by assumption) ?_) | (with_reducible refine notbt_ (by assumption) ?_) | (with_reducible refine notbf_ (by assumption) ?_) | (with_reducible refine gdtt_ ?_) | (with_reducible refine gdtf_ ?_) | (with_reducible refine gdff_ ?_) | (with_reducible refine gdft_ ?_) | (with_reducible refine pckt_ ?_) | (with_reducible refine pckf_ ?_) | (with_reducible refine cndt_ ?_) | (with_reducible refine cndf_ ?_) | (with_reducible refine cnd_yes (by assumption) ?_) | (with_reducible refine cnd_no (by assumption) ?_) | (with_reducible refine gd_yes (by assumption) ?_) | (with_reducible refine gd_no (by assumption) ?_) | (with_reducible refine gdn_yes (by assumption) ?_) | (with_reducible refine gdn_no (by assumption) ?_) | (with_reducible refine gdu_ ?_) | (with_reducible refine pck_yes (by assumption) ?_) | (with_reducible refine pck_no (by assumption) ?_) | (with_reducible refine leq_ ?_) | (with_reducible refine lss_ ?_) | (with_reducible refine geq_ ?_) | (with_reducible refine gtr_ ?_) | (with_reducible refine eqi_ ?_) | (with_reducible refine nei_ ?_) | (with_reducible refine seq_ ?_) | (with_reducible refine sne_ ?_) | (with_reducible refine not_ ?_) | (with_reducible refine nott_ ?_) | (with_reducible refine notf_ ?_) | (with_reducible refine notb_ ?_) | (with_reducible refine slen_ ?_) | (with_reducible refine vlen_ ?_) | (with_reducible refine nck_ ?_) | (with_reducible refine fad_ ?_) | (with_reducible refine ld_ ?_) | (with_reducible refine lda_ ?_) | (with_reducible refine pnilt_ ?_) | (with_reducible refine pnilf_ ?_) | (with_reducible refine pnint_ ?_) | (with_reducible refine pninf_ ?_) | (with_reducible refine ldi_ (by assumption) (by with_unfolding_all rfl) (by with_unfolding_all rfl) ?_) | (with_reducible refine ldi0_ (by assumption) (by with_unfolding_all rfl) ?_) | (with_reducible refine ld_ ?_ (by with_unfolding_all rfl)))
  by_cases hlt : i < l.length
  · refine cnd_yes (by omega) ?_
    obtain ⟨b, o, cp, A2, c2, rfl, hr, hcp, hbk⟩ := hb.at hlt
    refine iad_ ?_ (by omega) (by omega)
    simp only [Int.toNat_natCast]
    by_cases hk : l[i].kind = 4
    · (repeat first | (with_reducible refine cndnn_ (by assumption) ?_) | (with_reducible refine cndbt_ (by assumption) ?_) | (with_reducible refine cndbf_ (by assumption) ?_) | (with_reducible refine gdbtt_ (by assumption) ?_) | (with_reducible refine gdbtf_ (by assumption) ?_) | (with_reducible refine gdbff_ (by assumption) ?_) | (with_reducible refine gdbft_ (by assumption) ?_) | (with_reducible refine pckbt_ (by assumption) ?_) | (with_reducible refine pckbf_ (by assumption) ?_) | (with_reducible refine notbt_ (by assumption) ?_) | (with_reducible refine notbf_ (by assumption) ?_) | (with_reducible refine gdtt_ ?_) | (with_reducible refine gdtf_ ?_) | (with_reducible refine gdff_ ?_) | (with_reducible refine gdft_ ?_) | (with_reducible refine pckt_ ?_) | (with_reducible refine pckf_ ?_) | (with_reducible refine cndt_ ?_) | (with_reducible refine cndf_ ?_) | (with_reducible refine cnd_yes (by assumption) ?_) | (with_reducible refine cnd_no (by assumption) ?_) | (with_reducible refine gd_yes (by assumption) ?_) | (with_reducible refine gd_no (by assumption) ?_) | (with_reducible refine gdn_yes (by assumption) ?_) | (with_reducible refine gdn_no (by assumption) ?_) | (with_reducible refine gdu_ ?_) | (with_reducible refine pck_yes (by assumption) ?_) | (with_reducible refine pck_no (by assumption) ?_) | (with_reducible refine leq_ ?_) | (with_reducible refine lss_ ?_) | (with_reducible refine geq_ ?_) | (with_reducible refine gtr_ ?_) | (with_reducible refine eqi_ ?_) | (with_reducible refine nei_ ?_) | (with_reducible refine seq_ ?_) | (with_reducible refine sne_ ?_) | (with_reducible refine not_ ?_) | (with_reducible refine nott_ ?_) | (with_reducible refine notf_ ?_) | (with_reducible refine notb_ ?_) | (with_reducible refine slen_ ?_) | (with_reducible refine vlen_ ?_) | (with_reducible refine nck_ ?_) | (with_reducible refine fad_ ?_) | (with_reducible refine ld_ ?_) | (with_reducible refine lda_ ?_) | (with_reducible refine pnilt_ ?_) | (with_reducible refine pnilf_ ?_) | (with_reducible refine pnint_ ?_) | (with_reducible refine pninf_ ?_) | (with_reducible refine ldi_ (by assumption) (by with_unfolding_all rfl) (by with_unfolding_all rfl) ?_) | (with_reducible refine ldi0_ (by assumption) (by with_unfolding_all rfl) ?_) | (with_reducible refine ld_ ?_ (by with_unfolding_all rfl)))
      refine iad_ ?_ (by omega) (by omega)
      simp only [Int.toNat_natCast]
      (repeat first | (with_reducible refine cndnn_ (by assumption) ?_) | (with_reducible refine cndbt_ (by assumption) ?_) | (with_reducible refine cndbf_ (by assumption) ?_) | (with_reducible refine gdbtt_ (by assumption) ?_) | (with_reducible refine gdbtf_ (by assumption) ?_) | (with_reducible refine gdbff_ (by assumption) ?_) | (with_reducible refine gdbft_ (by assumption) ?_) | (with_reducible refine pckbt_ (by assumption) ?_) | (with_reducible refine pckbf_ (by assumption) ?_) | (with_reducible refine notbt_ (by assumption) ?_) | (with_reducible refine notbf_ (by assumption) ?_) | (with_reducible refine gdtt_ ?_) | (with_reducible refine gdtf_ ?_) | (with_reducible refine gdff_ ?_) | (with_reducible refine gdft_ ?_) | (with_reducible refine pckt_ ?_) | (with_reducible refine pckf_ ?_) | (with_reducible refine cndt_ ?_) | (with_reducible refine cndf_ ?_) | (with_reducible refine cnd_yes (by assumption) ?_) | (with_reducible refine cnd_no (by assumption) ?_) | (with_reducible refine gd_yes (by assumption) ?_) | (with_reducible refine gd_no (by assumption) ?_) | (with_reducible refine gdn_yes (by assumption) ?_) | (with_reducible refine gdn_no (by assumption) ?_) | (with_reducible refine gdu_ ?_) | (with_reducible refine pck_yes (by assumption) ?_) | (with_reducible refine pck_no (by assumption) ?_) | (with_reducible refine leq_ ?_) | (with_reducible refine lss_ ?_) | (with_reducible refine geq_ ?_) | (with_reducible refine gtr_ ?_) | (with_reducible refine eqi_ ?_) | (with_reducible refine nei_ ?_) | (with_reducible refine seq_ ?_) | (with_reducible refine sne_ ?_) | (with_reducible refine not_ ?_) | (with_reducible refine nott_ ?_) | (with_reducible refine notf_ ?_) | (with_reducible refine notb_ ?_) | (with_reducible refine slen_ ?_) | (with_reducible refine vlen_ ?_) | (with_reducible refine nck_ ?_) | (with_reducible refine fad_ ?_) | (with_reducible refine ld_ ?_) | (with_reducible refine lda_ ?_) | (with_reducible refine pnilt_ ?_) | (with_reducible refine pnilf_ ?_) | (with_reducible refine pnint_ ?_) | (with_reducible refine pninf_ ?_) | (with_reducible refine ldi_ (by assumption) (by with_unfolding_all rfl) (by with_unfolding_all rfl) ?_) | (with_reducible refine ldi0_ (by assumption) (by with_unfolding_all rfl) ?_) | (with_reducible refine ld_ ?_ (by with_unfolding_all rfl)))
      refine cal_keep (L1 := []) (ih l[i] (List.getElem_mem hlt) hk hbk) fun v5 J5 hJ5 hv5 => ?_
      subst hv5
      (repeat first | (with_reducible refine cndnn_ (by assumption) ?_) | (with_reducible refine cndbt_ (by assumption) ?_) | (with_reducible refine cndbf_ (by assumption) ?_) | (with_reducible refine gdbtt_ (by assumption) ?_) | (with_reducible refine gdbtf_ (by assumption) ?_) | (with_reducible refine gdbff_ (by assumption) ?_) | (with_reducible refine gdbft_ (by assumption) ?_) | (with_reducible refine pckbt_ (by assumption) ?_) | (with_reducible refine pckbf_ (by assumption) ?_) | (with_reducible refine notbt_ (by assumption) ?_) | (with_reducible refine notbf_ (by assumption) ?_) | (with_reducible refine gdtt_ ?_) | (with_reducible refine gdtf_ ?_) | (with_reducible refine gdff_ ?_) | (with_reducible refine gdft_ ?_) | (with_reducible refine pckt_ ?_) | (with_reducible refine pckf_ ?_) | (with_reducible refine cndt_ ?_) | (with_reducible refine cndf_ ?_) | (with_reducible refine cnd_yes (by assumption) ?_) | (with_reducible refine cnd_no (by assumption) ?_) | (with_reducible refine gd_yes (by assumption) ?_) | (with_reducible refine gd_no (by assumption) ?_) | (with_reducible refine gdn_yes (by assumption) ?_) | (with_reducible refine gdn_no (by assumption) ?_) | (with_reducible refine gdu_ ?_) | (with_reducible refine pck_yes (by assumption) ?_) | (with_reducible refine pck_no (by assumption) ?_) | (with_reducible refine leq_ ?_) | (with_reducible refine lss_ ?_) | (with_reducible refine geq_ ?_) | (with_reducible refine gtr_ ?_) | (with_reducible refine eqi_ ?_) | (with_reducible refine nei_ ?_) | (with_reducible refine seq_ ?_) | (with_reducible refine sne_ ?_) | (with_reducible refine not_ ?_) | (with_reducible refine nott_ ?_) | (with_reducible refine notf_ ?_) | (with_reducible refine notb_ ?_) | (with_reducible refine slen_ ?_) | (with_reducible refine vlen_ ?_) | (with_reducible refine nck_ ?_) | (with_reducible refine fad_ ?_) | (with_reducible refine ld_ ?_) | (with_reducible refine lda_ ?_) | (with_reducible refine pnilt_ ?_) | (with_reducible refine pnilf_ ?_) | (with_reducible refine pnint_ ?_) | (with_reducible refine pninf_ ?_) | (with_reducible refine ldi_ (by assumption) (by with_unfolding_all rfl) (by with_unfolding_all rfl) ?_) | (with_reducible refine ldi0_ (by assumption) (by with_unfolding_all rfl) ?_) | (with_reducible refine ld_ ?_ (by with_unfolding_all rfl)))
      refine add64 ?_
      exact hN (n - 1) (by omega) ⟨i + 1, by omega, rfl, hI2.trans hJ5, rfl⟩
    · (repeat first | (with_reducible refine cndnn_ (by assumption) ?_) | (with_reducible refine cndbt_ (by assumption) ?_) | (with_reducible refine cndbf_ (by assumption) ?_) | (with_reducible refine gdbtt_ (by assumption) ?_) | (with_reducible refine gdbtf_ (by assumption) ?_) | (with_reducible refine gdbff_ (by assumption) ?_) | (with_reducible refine gdbft_ (by assumption) ?_) | (with_reducible refine pckbt_ (by assumption) ?_) | (with_reducible refine pckbf_ (by assumption) ?_) | (with_reducible refine notbt_ (by assumption) ?_) | (with_reducible refine notbf_ (by assumption) ?_) | (with_reducible refine gdtt_ ?_) | (with_reducible refine gdtf_ ?_) | (with_reducible refine gdff_ ?_) | (with_reducible refine gdft_ ?_) | (with_reducible refine pckt_ ?_) | (with_reducible refine pckf_ ?_) | (with_reducible refine cndt_ ?_) | (with_reducible refine cndf_ ?_) | (with_reducible refine cnd_yes (by assumption) ?_) | (with_reducible refine cnd_no (by assumption) ?_) | (with_reducible refine gd_yes (by assumption) ?_) | (with_reducible refine gd_no (by assumption) ?_) | (with_reducible refine gdn_yes (by assumption) ?_) | (with_reducible refine gdn_no (by assumption) ?_) | (with_reducible refine gdu_ ?_) | (with_reducible refine pck_yes (by assumption) ?_) | (with_reducible refine pck_no (by assumption) ?_) | (with_reducible refine leq_ ?_) | (with_reducible refine lss_ ?_) | (with_reducible refine geq_ ?_) | (with_reducible refine gtr_ ?_) | (with_reducible refine eqi_ ?_) | (with_reducible refine nei_ ?_) | (with_reducible refine seq_ ?_) | (with_reducible refine sne_ ?_) | (with_reducible refine not_ ?_) | (with_reducible refine nott_ ?_) | (with_reducible refine notf_ ?_) | (with_reducible refine notb_ ?_) | (with_reducible refine slen_ ?_) | (with_reducible refine vlen_ ?_) | (with_reducible refine nck_ ?_) | (with_reducible refine fad_ ?_) | (with_reducible refine ld_ ?_) | (with_reducible refine lda_ ?_) | (with_reducible refine pnilt_ ?_) | (with_reducible refine pnilf_ ?_) | (with_reducible refine pnint_ ?_) | (with_reducible refine pninf_ ?_) | (with_reducible refine ldi_ (by assumption) (by with_unfolding_all rfl) (by with_unfolding_all rfl) ?_) | (with_reducible refine ldi0_ (by assumption) (by with_unfolding_all rfl) ?_) | (with_reducible refine ld_ ?_ (by with_unfolding_all rfl)))
      refine add64 ?_
      exact hN (n - 1) (by omega) ⟨i + 1, by omega, rfl, hI2, rfl⟩
  · refine cnd_no (by omega) ?_
    refine out5_0x0 (join5_1 ?_)
    unfold T5_1
    exact fin_ret (L1 := []) fun _ _ => ⟨rfl, rfl⟩
/-- Templates that are right, as they are handed on. -/
structure GoodT (J : Imm) (A : Option Addr) (c : Nat) (l : List Ty) : Prop where
  r : TmsR J A c l
  w : ∀ t ∈ l, ∀ x ∈ t.items, Wf 8 x
  i : ∀ t ∈ l, t.items.length ≤ 16
  n : l.length ≤ 8
  g : ∀ t ∈ l, ∀ x ∈ t.items, WfG x
  k : (typesW l []).1 = 0
theorem GoodT.up {I J : Imm} {A : Option Addr} {c : Nat} {l : List Ty} (h : GoodT I A c l) (hle : I.Le J) : GoodT J A c l := ⟨h.r.up hle, h.w, h.i, h.n, h.g, h.k⟩
def RightR (v : Value) (J : Imm) (L : Own) : Prop := ∃ A c l b, v = .tuple #[.slice A (l : List Ty).length c, .bool b] ∧ L = [] ∧ (b = true → GoodT J A c l)
theorem right_ret {I : Imm} (hM : MaxL I) (s : List UInt8) : RetC Try.prog 4 #[S s] I [] RightR := by
  refine .of (go4 ?_)
  unfold M4
  refine cal_pure (far_pure s) (cndb_ (fun hf => ?_) (fun hf => ?_))
  · exact fin_ret (L1 := []) fun _ _ => ⟨none, 0, [], false, rfl, rfl, by simp⟩
  have hs := farB_no hf
  refine cal_ret (L1 := []) (tmplParse_ret hM s (by omega)) ?_
  rintro v1 J1 L1 hJ1 ⟨l, A, c, e, a, vs, rfl, hr, hA, hc, hw, hi, hn, hg, rfl⟩
  refine ext_ (ext_ ?_)
  refine alsf_ (vs := [i64 e, i64 a]) fun b5 J2 hJ2 hr5 => ?_
  refine ldai_ (j := 0) hr5 rfl (us := [i64 e, i64 a]) rfl rfl ?_
  refine cal_pure (Is_pure _ _) ?_
  by_cases he : e = 0
  · (repeat first | (with_reducible refine cndnn_ (by assumption) ?_) | (with_reducible refine cndbt_ (by assumption) ?_) | (with_reducible refine cndbf_ (by assumption) ?_) | (with_reducible refine gdbtt_ (by assumption) ?_) | (with_reducible refine gdbtf_ (by assumption) ?_) | (with_reducible refine gdbff_ (by assumption) ?_) | (with_reducible refine gdbft_ (by assumption) ?_) | (with_reducible refine pckbt_ (by assumption) ?_) | (with_reducible refine pckbf_ (by assumption) ?_) | (with_reducible refine notbt_ (by assumption) ?_) | (with_reducible refine notbf_ (by assumption) ?_) | (with_reducible refine gdtt_ ?_) | (with_reducible refine gdtf_ ?_) | (with_reducible refine gdff_ ?_) | (with_reducible refine gdft_ ?_) | (with_reducible refine pckt_ ?_) | (with_reducible refine pckf_ ?_) | (with_reducible refine cndt_ ?_) | (with_reducible refine cndf_ ?_) | (with_reducible refine cnd_yes (by assumption) ?_) | (with_reducible refine cnd_no (by assumption) ?_) | (with_reducible refine gd_yes (by assumption) ?_) | (with_reducible refine gd_no (by assumption) ?_) | (with_reducible refine gdn_yes (by assumption) ?_) | (with_reducible refine gdn_no (by assumption) ?_) | (with_reducible refine gdu_ ?_) | (with_reducible refine pck_yes (by assumption) ?_) | (with_reducible refine pck_no (by assumption) ?_) | (with_reducible refine leq_ ?_) | (with_reducible refine lss_ ?_) | (with_reducible refine geq_ ?_) | (with_reducible refine gtr_ ?_) | (with_reducible refine eqi_ ?_) | (with_reducible refine nei_ ?_) | (with_reducible refine seq_ ?_) | (with_reducible refine sne_ ?_) | (with_reducible refine not_ ?_) | (with_reducible refine nott_ ?_) | (with_reducible refine notf_ ?_) | (with_reducible refine notb_ ?_) | (with_reducible refine slen_ ?_) | (with_reducible refine vlen_ ?_) | (with_reducible refine nck_ ?_) | (with_reducible refine fad_ ?_) | (with_reducible refine ld_ ?_) | (with_reducible refine lda_ ?_) | (with_reducible refine pnilt_ ?_) | (with_reducible refine pnilf_ ?_) | (with_reducible refine pnint_ ?_) | (with_reducible refine pninf_ ?_) | (with_reducible refine ldi_ (by assumption) (by with_unfolding_all rfl) (by with_unfolding_all rfl) ?_) | (with_reducible refine ldi0_ (by assumption) (by with_unfolding_all rfl) ?_) | (with_reducible refine ld_ ?_ (by with_unfolding_all rfl)))
    have hT : TmsR J2 A c l := ⟨vs, hr.up hJ2, hA.up hJ2, hc⟩
    refine cal_keep (L1 := []) (typesCheck_ret hT hw hi hn) fun v3 J3 hJ3 hv3 => ?_
    subst hv3
    (repeat first | (with_reducible refine cndnn_ (by assumption) ?_) | (with_reducible refine cndbt_ (by assumption) ?_) | (with_reducible refine cndbf_ (by assumption) ?_) | (with_reducible refine gdbtt_ (by assumption) ?_) | (with_reducible refine gdbtf_ (by assumption) ?_) | (with_reducible refine gdbff_ (by assumption) ?_) | (with_reducible refine gdbft_ (by assumption) ?_) | (with_reducible refine pckbt_ (by assumption) ?_) | (with_reducible refine pckbf_ (by assumption) ?_) | (with_reducible refine notbt_ (by assumption) ?_) | (with_reducible refine notbf_ (by assumption) ?_) | (with_reducible refine gdtt_ ?_) | (with_reducible refine gdtf_ ?_) | (with_reducible refine gdff_ ?_) | (with_reducible refine gdft_ ?_) | (with_reducible refine pckt_ ?_) | (with_reducible refine pckf_ ?_) | (with_reducible refine cndt_ ?_) | (with_reducible refine cndf_ ?_) | (with_reducible refine cnd_yes (by assumption) ?_) | (with_reducible refine cnd_no (by assumption) ?_) | (with_reducible refine gd_yes (by assumption) ?_) | (with_reducible refine gd_no (by assumption) ?_) | (with_reducible refine gdn_yes (by assumption) ?_) | (with_reducible refine gdn_no (by assumption) ?_) | (with_reducible refine gdu_ ?_) | (with_reducible refine pck_yes (by assumption) ?_) | (with_reducible refine pck_no (by assumption) ?_) | (with_reducible refine leq_ ?_) | (with_reducible refine lss_ ?_) | (with_reducible refine geq_ ?_) | (with_reducible refine gtr_ ?_) | (with_reducible refine eqi_ ?_) | (with_reducible refine nei_ ?_) | (with_reducible refine seq_ ?_) | (with_reducible refine sne_ ?_) | (with_reducible refine not_ ?_) | (with_reducible refine nott_ ?_) | (with_reducible refine notf_ ?_) | (with_reducible refine notb_ ?_) | (with_reducible refine slen_ ?_) | (with_reducible refine vlen_ ?_) | (with_reducible refine nck_ ?_) | (with_reducible refine fad_ ?_) | (with_reducible refine ld_ ?_) | (with_reducible refine lda_ ?_) | (with_reducible refine pnilt_ ?_) | (with_reducible refine pnilf_ ?_) | (with_reducible refine pnint_ ?_) | (with_reducible refine pninf_ ?_) | (with_reducible refine ldi_ (by assumption) (by with_unfolding_all rfl) (by with_unfolding_all rfl) ?_) | (with_reducible refine ldi0_ (by assumption) (by with_unfolding_all rfl) ?_) | (with_reducible refine ld_ ?_ (by with_unfolding_all rfl)))
    refine cal_pure (Is_pure _ _) ?_
    (repeat first | (with_reducible refine cndnn_ (by assumption) ?_) | (with_reducible refine cndbt_ (by assumption) ?_) | (with_reducible refine cndbf_ (by assumption) ?_) | (with_reducible refine gdbtt_ (by assumption) ?_) | (with_reducible refine gdbtf_ (by assumption) ?_) | (with_reducible refine gdbff_ (by assumption) ?_) | (with_reducible refine gdbft_ (by assumption) ?_) | (with_reducible refine pckbt_ (by assumption) ?_) | (with_reducible refine pckbf_ (by assumption) ?_) | (with_reducible refine notbt_ (by assumption) ?_) | (with_reducible refine notbf_ (by assumption) ?_) | (with_reducible refine gdtt_ ?_) | (with_reducible refine gdtf_ ?_) | (with_reducible refine gdff_ ?_) | (with_reducible refine gdft_ ?_) | (with_reducible refine pckt_ ?_) | (with_reducible refine pckf_ ?_) | (with_reducible refine cndt_ ?_) | (with_reducible refine cndf_ ?_) | (with_reducible refine cnd_yes (by assumption) ?_) | (with_reducible refine cnd_no (by assumption) ?_) | (with_reducible refine gd_yes (by assumption) ?_) | (with_reducible refine gd_no (by assumption) ?_) | (with_reducible refine gdn_yes (by assumption) ?_) | (with_reducible refine gdn_no (by assumption) ?_) | (with_reducible refine gdu_ ?_) | (with_reducible refine pck_yes (by assumption) ?_) | (with_reducible refine pck_no (by assumption) ?_) | (with_reducible refine leq_ ?_) | (with_reducible refine lss_ ?_) | (with_reducible refine geq_ ?_) | (with_reducible refine gtr_ ?_) | (with_reducible refine eqi_ ?_) | (with_reducible refine nei_ ?_) | (with_reducible refine seq_ ?_) | (with_reducible refine sne_ ?_) | (with_reducible refine not_ ?_) | (with_reducible refine nott_ ?_) | (with_reducible refine notf_ ?_) | (with_reducible refine notb_ ?_) | (with_reducible refine slen_ ?_) | (with_reducible refine vlen_ ?_) | (with_reducible refine nck_ ?_) | (with_reducible refine fad_ ?_) | (with_reducible refine ld_ ?_) | (with_reducible refine lda_ ?_) | (with_reducible refine pnilt_ ?_) | (with_reducible refine pnilf_ ?_) | (with_reducible refine pnint_ ?_) | (with_reducible refine pninf_ ?_) | (with_reducible refine ldi_ (by assumption) (by with_unfolding_all rfl) (by with_unfolding_all rfl) ?_) | (with_reducible refine ldi0_ (by assumption) (by with_unfolding_all rfl) ?_) | (with_reducible refine ld_ ?_ (by with_unfolding_all rfl)))
    exact fin_ret (L1 := []) fun K hK => ⟨A, c, l, _, rfl, rfl, fun hb => ⟨hT.up (hJ3.trans hK), hw, hi, (hg he).1, (hg he).2, by simpa using hb⟩⟩
  · (repeat first | (with_reducible refine cndnn_ (by assumption) ?_) | (with_reducible refine cndbt_ (by assumption) ?_) | (with_reducible refine cndbf_ (by assumption) ?_) | (with_reducible refine gdbtt_ (by assumption) ?_) | (with_reducible refine gdbtf_ (by assumption) ?_) | (with_reducible refine gdbff_ (by assumption) ?_) | (with_reducible refine gdbft_ (by assumption) ?_) | (with_reducible refine pckbt_ (by assumption) ?_) | (with_reducible refine pckbf_ (by assumption) ?_) | (with_reducible refine notbt_ (by assumption) ?_) | (with_reducible refine notbf_ (by assumption) ?_) | (with_reducible refine gdtt_ ?_) | (with_reducible refine gdtf_ ?_) | (with_reducible refine gdff_ ?_) | (with_reducible refine gdft_ ?_) | (with_reducible refine pckt_ ?_) | (with_reducible refine pckf_ ?_) | (with_reducible refine cndt_ ?_) | (with_reducible refine cndf_ ?_) | (with_reducible refine cnd_yes (by assumption) ?_) | (with_reducible refine cnd_no (by assumption) ?_) | (with_reducible refine gd_yes (by assumption) ?_) | (with_reducible refine gd_no (by assumption) ?_) | (with_reducible refine gdn_yes (by assumption) ?_) | (with_reducible refine gdn_no (by assumption) ?_) | (with_reducible refine gdu_ ?_) | (with_reducible refine pck_yes (by assumption) ?_) | (with_reducible refine pck_no (by assumption) ?_) | (with_reducible refine leq_ ?_) | (with_reducible refine lss_ ?_) | (with_reducible refine geq_ ?_) | (with_reducible refine gtr_ ?_) | (with_reducible refine eqi_ ?_) | (with_reducible refine nei_ ?_) | (with_reducible refine seq_ ?_) | (with_reducible refine sne_ ?_) | (with_reducible refine not_ ?_) | (with_reducible refine nott_ ?_) | (with_reducible refine notf_ ?_) | (with_reducible refine notb_ ?_) | (with_reducible refine slen_ ?_) | (with_reducible refine vlen_ ?_) | (with_reducible refine nck_ ?_) | (with_reducible refine fad_ ?_) | (with_reducible refine ld_ ?_) | (with_reducible refine lda_ ?_) | (with_reducible refine pnilt_ ?_) | (with_reducible refine pnilf_ ?_) | (with_reducible refine pnint_ ?_) | (with_reducible refine pninf_ ?_) | (with_reducible refine ldi_ (by assumption) (by with_unfolding_all rfl) (by with_unfolding_all rfl) ?_) | (with_reducible refine ldi0_ (by assumption) (by with_unfolding_all rfl) ?_) | (with_reducible refine ld_ ?_ (by with_unfolding_all rfl)))
    exact fin_ret (L1 := []) fun K hK => ⟨A, c, l, false, rfl, rfl, by simp⟩
theorem law_ret {I : Imm} (hM : MaxL I) (s : List UInt8) : RetC Try.prog 3 #[S s] I [] (fun v J L => v = .bool true ∧ L = []) := by
  refine .of (go3 ?_)
  unfold M3
  refine cal_ret (L1 := []) (right_ret hM s) ?_
  rintro v1 J1 L1 hJ1 ⟨A, c, l, b, rfl, rfl, hg⟩
  refine ext_ (ext_ ?_)
  refine loop3_0 (n := l.length) (fun n x K L => ∃ i : Nat, (b = true → n + i = l.length) ∧ x = i64 i ∧ J1.Le K ∧ L = []) ⟨0, fun _ => by omega, rfl, .refl _, rfl⟩ ?_
  rintro n x I2 L2 hle ⟨i, hi, rfl, hI2, rfl⟩ N hN u
  unfold B3_0
  have out : ∀ {J : Imm}, Fin (fun e I' L' => ∃ v, e = .returned v ∧ v = .bool true ∧ L' = []) (.returned (.bool true)) J [] := fin_ret (L1 := []) fun _ _ => ⟨rfl, rfl⟩
  cases b
  · (repeat first | (with_reducible refine cndnn_ (by assumption) ?_) | (with_reducible refine cndbt_ (by assumption) ?_) | (with_reducible refine cndbf_ (by assumption) ?_) | (with_reducible refine gdbtt_ (by assumption) ?_) | (with_reducible refine gdbtf_ (by assumption) ?_) | (with_reducible refine gdbff_ (by assumption) ?_) | (with_reducible refine gdbft_ (by assumption) ?_) | (with_reducible refine pckbt_ (by assumption) ?_) | (with_reducible refine pckbf_ (by assumption) ?_) | (with_reducible refine notbt_ (by assumption) ?_) | (with_reducible refine notbf_ (by assumption) ?_) | (with_reducible refine gdtt_ ?_) | (with_reducible refine gdtf_ ?_) | (with_reducible refine gdff_ ?_) | (with_reducible refine gdft_ ?_) | (with_reducible refine pckt_ ?_) | (with_reducible refine pckf_ ?_) | (with_reducible refine cndt_ ?_) | (with_reducible refine cndf_ ?_) | (with_reducible refine cnd_yes (by assumption) ?_) | (with_reducible refine cnd_no (by assumption) ?_) | (with_reducible refine gd_yes (by assumption) ?_) | (with_reducible refine gd_no (by assumption) ?_) | (with_reducible refine gdn_yes (by assumption) ?_) | (with_reducible refine gdn_no (by assumption) ?_) | (with_reducible refine gdu_ ?_) | (with_reducible refine pck_yes (by assumption) ?_) | (with_reducible refine pck_no (by assumption) ?_) | (with_reducible refine leq_ ?_) | (with_reducible refine lss_ ?_) | (with_reducible refine geq_ ?_) | (with_reducible refine gtr_ ?_) | (with_reducible refine eqi_ ?_) | (with_reducible refine nei_ ?_) | (with_reducible refine seq_ ?_) | (with_reducible refine sne_ ?_) | (with_reducible refine not_ ?_) | (with_reducible refine nott_ ?_) | (with_reducible refine notf_ ?_) | (with_reducible refine notb_ ?_) | (with_reducible refine slen_ ?_) | (with_reducible refine vlen_ ?_) | (with_reducible refine nck_ ?_) | (with_reducible refine fad_ ?_) | (with_reducible refine ld_ ?_) | (with_reducible refine lda_ ?_) | (with_reducible refine pnilt_ ?_) | (with_reducible refine pnilf_ ?_) | (with_reducible refine pnint_ ?_) | (with_reducible refine pninf_ ?_) | (with_reducible refine ldi_ (by assumption) (by with_unfolding_all rfl) (by with_unfolding_all rfl) ?_) | (with_reducible refine ldi0_ (by assumption) (by with_unfolding_all rfl) ?_) | (with_reducible refine ld_ ?_ (by with_unfolding_all rfl)))
    refine out3_0x0 (join3_1 ?_)
    unfold T3_1
    exact out
  have hG := (hg rfl).up hI2
  have hln := hG.n
  have hin := hi rfl
  (repeat first | (with_reducible refine cndnn_ (by assumption) ?_) | (with_reducible refine cndbt_ (by assumption) ?_) | (with_reducible refine cndbf_ (by assumption) ?_) | (with_reducible refine gdbtt_ (by assumption) ?_) | (with_reducible refine gdbtf_ (by assumption) ?_) | (with_reducible refine gdbff_ (by assumption) ?_) | (with_reducible refine gdbft_ (by assumption) ?_) | (with_reducible refine pckbt_ (by assumption) ?_) | (with_reducible refine pckbf_ (by assumption) ?_) | (with_reducible refine notbt_ (by assumption) ?_) | (with_reducible refine notbf_ (by assumption) ?_) | (with_reducible refine gdtt_ ?_) | (with_reducible refine gdtf_ ?_) | (with_reducible refine gdff_ ?_) | (with_reducible refine gdft_ ?_) | (with_reducible refine pckt_ ?_) | (with_reducible refine pckf_ ?_) | (with_reducible refine cndt_ ?_) | (with_reducible refine cndf_ ?_) | (with_reducible refine cnd_yes (by assumption) ?_) | (with_reducible refine cnd_no (by assumption) ?_) | (with_reducible refine gd_yes (by assumption) ?_) | (with_reducible refine gd_no (by assumption) ?_) | (with_reducible refine gdn_yes (by assumption) ?_) | (with_reducible refine gdn_no (by assumption) ?_) | (with_reducible refine gdu_ ?_) | (with_reducible refine pck_yes (by assumption) ?_) | (with_reducible refine pck_no (by assumption) ?_) | (with_reducible refine leq_ ?_) | (with_reducible refine lss_ ?_) | (with_reducible refine geq_ ?_) | (with_reducible refine gtr_ ?_) | (with_reducible refine eqi_ ?_) | (with_reducible refine nei_ ?_) | (with_reducible refine seq_ ?_) | (with_reducible refine sne_ ?_) | (with_reducible refine not_ ?_) | (with_reducible refine nott_ ?_) | (with_reducible refine notf_ ?_) | (with_reducible refine notb_ ?_) | (with_reducible refine slen_ ?_) | (with_reducible refine vlen_ ?_) | (with_reducible refine nck_ ?_) | (with_reducible refine fad_ ?_) | (with_reducible refine ld_ ?_) | (with_reducible refine lda_ ?_) | (with_reducible refine pnilt_ ?_) | (with_reducible refine pnilf_ ?_) | (with_reducible refine pnint_ ?_) | (with_reducible refine pninf_ ?_) | (with_reducible refine ldi_ (by assumption) (by with_unfolding_all rfl) (by with_unfolding_all rfl) ?_) | (with_reducible refine ldi0_ (by assumption) (by with_unfolding_all rfl) ?_) | (with_reducible refine ld_ ?_ (by with_unfolding_all rfl)))
  by_cases hlt : i < l.length
  · refine cnd_yes (by omega) ?_
    obtain ⟨b, o, A2, c2, rfl, hr, hbk⟩ := hG.r.at hlt
    refine iad_ ?_ (by omega) (by omega)
    simp only [Int.toNat_natCast]
    (repeat first | (with_reducible refine cndnn_ (by assumption) ?_) | (with_reducible refine cndbt_ (by assumption) ?_) | (with_reducible refine cndbf_ (by assumption) ?_) | (with_reducible refine gdbtt_ (by assumption) ?_) | (with_reducible refine gdbtf_ (by assumption) ?_) | (with_reducible refine gdbff_ (by assumption) ?_) | (with_reducible refine gdbft_ (by assumption) ?_) | (with_reducible refine pckbt_ (by assumption) ?_) | (with_reducible refine pckbf_ (by assumption) ?_) | (with_reducible refine notbt_ (by assumption) ?_) | (with_reducible refine notbf_ (by assumption) ?_) | (with_reducible refine gdtt_ ?_) | (with_reducible refine gdtf_ ?_) | (with_reducible refine gdff_ ?_) | (with_reducible refine gdft_ ?_) | (with_reducible refine pckt_ ?_) | (with_reducible refine pckf_ ?_) | (with_reducible refine cndt_ ?_) | (with_reducible refine cndf_ ?_) | (with_reducible refine cnd_yes (by assumption) ?_) | (with_reducible refine cnd_no (by assumption) ?_) | (with_reducible refine gd_yes (by assumption) ?_) | (with_reducible refine gd_no (by assumption) ?_) | (with_reducible refine gdn_yes (by assumption) ?_) | (with_reducible refine gdn_no (by assumption) ?_) | (with_reducible refine gdu_ ?_) | (with_reducible refine pck_yes (by assumption) ?_) | (with_reducible refine pck_no (by assumption) ?_) | (with_reducible refine leq_ ?_) | (with_reducible refine lss_ ?_) | (with_reducible refine geq_ ?_) | (with_reducible refine gtr_ ?_) | (with_reducible refine eqi_ ?_) | (with_reducible refine nei_ ?_) | (with_reducible refine seq_ ?_) | (with_reducible refine sne_ ?_) | (with_reducible refine not_ ?_) | (with_reducible refine nott_ ?_) | (with_reducible refine notf_ ?_) | (with_reducible refine notb_ ?_) | (with_reducible refine slen_ ?_) | (with_reducible refine vlen_ ?_) | (with_reducible refine nck_ ?_) | (with_reducible refine fad_ ?_) | (with_reducible refine ld_ ?_) | (with_reducible refine lda_ ?_) | (with_reducible refine pnilt_ ?_) | (with_reducible refine pnilf_ ?_) | (with_reducible refine pnint_ ?_) | (with_reducible refine pninf_ ?_) | (with_reducible refine ldi_ (by assumption) (by with_unfolding_all rfl) (by with_unfolding_all rfl) ?_) | (with_reducible refine ldi0_ (by assumption) (by with_unfolding_all rfl) ?_) | (with_reducible refine ld_ ?_ (by with_unfolding_all rfl)))
    have hok := typesW_ok hG.w hG.i hG.k l[i] (List.getElem_mem hlt)
    refine cal_keep (L1 := []) (ordered_ret hok hbk) fun v5 J5 hJ5 hv5 => ?_
    subst hv5
    (repeat first | (with_reducible refine cndnn_ (by assumption) ?_) | (with_reducible refine cndbt_ (by assumption) ?_) | (with_reducible refine cndbf_ (by assumption) ?_) | (with_reducible refine gdbtt_ (by assumption) ?_) | (with_reducible refine gdbtf_ (by assumption) ?_) | (with_reducible refine gdbff_ (by assumption) ?_) | (with_reducible refine gdbft_ (by assumption) ?_) | (with_reducible refine pckbt_ (by assumption) ?_) | (with_reducible refine pckbf_ (by assumption) ?_) | (with_reducible refine notbt_ (by assumption) ?_) | (with_reducible refine notbf_ (by assumption) ?_) | (with_reducible refine gdtt_ ?_) | (with_reducible refine gdtf_ ?_) | (with_reducible refine gdff_ ?_) | (with_reducible refine gdft_ ?_) | (with_reducible refine pckt_ ?_) | (with_reducible refine pckf_ ?_) | (with_reducible refine cndt_ ?_) | (with_reducible refine cndf_ ?_) | (with_reducible refine cnd_yes (by assumption) ?_) | (with_reducible refine cnd_no (by assumption) ?_) | (with_reducible refine gd_yes (by assumption) ?_) | (with_reducible refine gd_no (by assumption) ?_) | (with_reducible refine gdn_yes (by assumption) ?_) | (with_reducible refine gdn_no (by assumption) ?_) | (with_reducible refine gdu_ ?_) | (with_reducible refine pck_yes (by assumption) ?_) | (with_reducible refine pck_no (by assumption) ?_) | (with_reducible refine leq_ ?_) | (with_reducible refine lss_ ?_) | (with_reducible refine geq_ ?_) | (with_reducible refine gtr_ ?_) | (with_reducible refine eqi_ ?_) | (with_reducible refine nei_ ?_) | (with_reducible refine seq_ ?_) | (with_reducible refine sne_ ?_) | (with_reducible refine not_ ?_) | (with_reducible refine nott_ ?_) | (with_reducible refine notf_ ?_) | (with_reducible refine notb_ ?_) | (with_reducible refine slen_ ?_) | (with_reducible refine vlen_ ?_) | (with_reducible refine nck_ ?_) | (with_reducible refine fad_ ?_) | (with_reducible refine ld_ ?_) | (with_reducible refine lda_ ?_) | (with_reducible refine pnilt_ ?_) | (with_reducible refine pnilf_ ?_) | (with_reducible refine pnint_ ?_) | (with_reducible refine pninf_ ?_) | (with_reducible refine ldi_ (by assumption) (by with_unfolding_all rfl) (by with_unfolding_all rfl) ?_) | (with_reducible refine ldi0_ (by assumption) (by with_unfolding_all rfl) ?_) | (with_reducible refine ld_ ?_ (by with_unfolding_all rfl)))
    refine add64 ?_
    exact hN (n - 1) (by omega) ⟨i + 1, fun _ => by omega, rfl, hI2.trans hJ5, rfl⟩
  · refine cnd_no (by omega) ?_
    refine out3_0x0 (join3_1 ?_)
    unfold T3_1
    exact out
end Go.Proofs.Ytkclodaplbalfaa
