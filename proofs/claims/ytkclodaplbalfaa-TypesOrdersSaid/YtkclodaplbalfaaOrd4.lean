/- In which order rules are done: the document's. Conditions: none. -/
import Derived.Test.YtkclodaplbalfaaOrd3
set_option linter.unusedVariables false
set_option linter.unusedSimpArgs false
set_option maxRecDepth 100000
set_option maxHeartbeats 2000000
namespace Go.Proofs.Ytkclodaplbalfaa
open Go Sl
def castL (d : List Nat) : List Int := d.map fun k : Nat => (k : Int)
theorem mem_castL {d : List Nat} {k : Nat} : (k : Int) ∈ castL d ↔ k ∈ d := by
  unfold castL
  rw [List.mem_map]
  exact ⟨fun ⟨a, ha, e⟩ => by
    have : a = k := by omega
    exact this ▸ ha, fun h => ⟨k, h, rfl⟩⟩
def allTo (d : List Nat) (cs : List Nat) (j : Nat) : Bool := (cs.take j).all fun k => decide (k ∈ d)
theorem allTo_succ {d cs : List Nat} {j : Nat} (hj : j < cs.length) : allTo d cs (j + 1) = (allTo d cs j && decide (cs[j] ∈ d)) := by
  unfold allTo
  rw [List.take_succ_eq_append_getElem hj, List.all_append]
  simp
theorem nextC_at {l : List It} {i : Nat} (hi : i < l.length) (d : List Nat) : nextC l d i = (decide (l[i].rule = 3) && decide (i ∉ d) && (covL l i).all fun k => decide (k ∈ d)) := by
  unfold nextC
  rw [rule3_at hi]
theorem typesOrder_ret {I : Imm} {A : Option Addr} {c : Nat} {l : List It} (h : BlkR I A c l) (hl : l.length ≤ 16) :
    RetC Try.prog 12 #[.slice A l.length c] I [] (fun v K L' => OSl 3 1 v (orderL l).length (intsC (orderL l)) L') := by
  refine .of (go12 ?_)
  unfold M12
  refine mkm_ (K := fun a : Int => i64 a) fun bm om hm => ?_
  refine vlen_ ?_
  refine loop12_0 (n := l.length) (fun n x3 x16 K L => ∃ (i : Nat) (Lr : Own), n + i = l.length ∧ x16 = i64 i ∧ I.Le K ∧ OSl 3 1 x3 (sizesTo l i).length (intsC (sizesTo l i)) Lr ∧ L = Lr ++ [(bm, om)])
    ⟨0, [], by omega, rfl, .refl _, .nil, rfl⟩ ?_
  rintro n x3 x16 I2 L2 hle ⟨i, Lr, hi, rfl, hI2, ho, rfl⟩ N hN u
  have hb := h.up hI2
  have hsl := sizesTo_le l i
  unfold B12_0
  refine lss_ ?_
  by_cases hlt : i < l.length
  · refine cnd_yes (by omega) ?_
    obtain ⟨b, o, cp, A2, c2, rfl, hr, hcp, hbk⟩ := hb.at hlt
    obtain ⟨ca, rfl⟩ := hcp.ptr
    refine iad_ ?_ (by omega) (by omega)
    refine ld_item (by simpa using hr) ?_
    refine alsf_ fun bx J hJ hx => ?_
    have keep : isSize l i = false → sizesTo l i = sizesTo l (i + 1) := fun hs => by rw [sizesTo_succ, hs]; simp
    by_cases h1 : l[i].rule = 1
    · have hs : isSize l i = true := by rw [isSize_at hlt]; simp [h1]
      (repeat first | (with_reducible refine cndnn_ (by assumption) ?_) | (with_reducible refine cndbt_ (by assumption) ?_) | (with_reducible refine cndbf_ (by assumption) ?_) | (with_reducible refine gdbtt_ (by assumption) ?_) | (with_reducible refine gdbtf_ (by assumption) ?_) | (with_reducible refine gdbff_ (by assumption) ?_) | (with_reducible refine gdbft_ (by assumption) ?_) | (with_reducible refine pckbt_ (by assumption) ?_) | (with_reducible refine pckbf_ (by assumption) ?_) | (with_reducible refine notbt_ (by assumption) ?_) | (with_reducible refine notbf_ (by assumption) ?_) | (with_reducible refine gdtt_ ?_) | (with_reducible refine gdtf_ ?_) | (with_reducible refine gdff_ ?_) | (with_reducible refine gdft_ ?_) | (with_reducible refine pckt_ ?_) | (with_reducible refine pckf_ ?_) | (with_reducible refine cndt_ ?_) | (with_reducible refine cndf_ ?_) | (with_reducible refine cnd_yes (by assumption) ?_) | (with_reducible refine cnd_no (by assumption) ?_) | (with_reducible refine gd_yes (by assumption) ?_) | (with_reducible refine gd_no (by assumption) ?_) | (with_reducible refine gdn_yes (by assumption) ?_) | (with_reducible refine gdn_no (by assumption) ?_) | (with_reducible refine gdu_ ?_) | (with_reducible refine pck_yes (by assumption) ?_) | (with_reducible refine pck_no (by assumption) ?_) | (with_reducible refine leq_ ?_) | (with_reducible refine lss_ ?_) | (with_reducible refine geq_ ?_) | (with_reducible refine gtr_ ?_) | (with_reducible refine eqi_ ?_) | (with_reducible refine nei_ ?_) | (with_reducible refine seq_ ?_) | (with_reducible refine sne_ ?_) | (with_reducible refine not_ ?_) | (with_reducible refine nott_ ?_) | (with_reducible refine notf_ ?_) | (with_reducible refine notb_ ?_) | (with_reducible refine slen_ ?_) | (with_reducible refine vlen_ ?_) | (with_reducible refine nck_ ?_) | (with_reducible refine fad_ ?_) | (with_reducible refine ld_ ?_) | (with_reducible refine lda_ ?_) | (with_reducible refine pnilt_ ?_) | (with_reducible refine pnilf_ ?_) | (with_reducible refine pnint_ ?_) | (with_reducible refine pninf_ ?_) | (with_reducible refine ldi_ (by assumption) (by with_unfolding_all rfl) (by with_unfolding_all rfl) ?_) | (with_reducible refine ldi0_ (by assumption) (by with_unfolding_all rfl) ?_) | (with_reducible refine ld_ ?_ (by with_unfolding_all rfl)))
      refine bslf_ (cells := #[i64 i]) (by kernel_rfl) fun b5 J5 hJ5 hr5 => ?_
      refine app_ ho (m := 1) (.imm hr5) (by rfl) (by simp [plainV]) (fun v' L1' ho' _ => ?_) (by omega) (by omega)
      refine add64 ?_
      have e : sizesTo l (i + 1) = sizesTo l i ++ [i] := by rw [sizesTo_succ, hs]; simp
      refine hN (n - 1) (by omega) ⟨i + 1, L1', by omega, rfl, hI2.trans (hJ.trans hJ5), ?_, rfl⟩
      rw [e, intsC_append, List.length_append]
      exact ho'
    by_cases h2 : l[i].rule = 2
    · have hs : isSize l i = true := by rw [isSize_at hlt]; simp [h2]
      (repeat first | (with_reducible refine cndnn_ (by assumption) ?_) | (with_reducible refine cndbt_ (by assumption) ?_) | (with_reducible refine cndbf_ (by assumption) ?_) | (with_reducible refine gdbtt_ (by assumption) ?_) | (with_reducible refine gdbtf_ (by assumption) ?_) | (with_reducible refine gdbff_ (by assumption) ?_) | (with_reducible refine gdbft_ (by assumption) ?_) | (with_reducible refine pckbt_ (by assumption) ?_) | (with_reducible refine pckbf_ (by assumption) ?_) | (with_reducible refine notbt_ (by assumption) ?_) | (with_reducible refine notbf_ (by assumption) ?_) | (with_reducible refine gdtt_ ?_) | (with_reducible refine gdtf_ ?_) | (with_reducible refine gdff_ ?_) | (with_reducible refine gdft_ ?_) | (with_reducible refine pckt_ ?_) | (with_reducible refine pckf_ ?_) | (with_reducible refine cndt_ ?_) | (with_reducible refine cndf_ ?_) | (with_reducible refine cnd_yes (by assumption) ?_) | (with_reducible refine cnd_no (by assumption) ?_) | (with_reducible refine gd_yes (by assumption) ?_) | (with_reducible refine gd_no (by assumption) ?_) | (with_reducible refine gdn_yes (by assumption) ?_) | (with_reducible refine gdn_no (by assumption) ?_) | (with_reducible refine gdu_ ?_) | (with_reducible refine pck_yes (by assumption) ?_) | (with_reducible refine pck_no (by assumption) ?_) | (with_reducible refine leq_ ?_) | (with_reducible refine lss_ ?_) | (with_reducible refine geq_ ?_) | (with_reducible refine gtr_ ?_) | (with_reducible refine eqi_ ?_) | (with_reducible refine nei_ ?_) | (with_reducible refine seq_ ?_) | (with_reducible refine sne_ ?_) | (with_reducible refine not_ ?_) | (with_reducible refine nott_ ?_) | (with_reducible refine notf_ ?_) | (with_reducible refine notb_ ?_) | (with_reducible refine slen_ ?_) | (with_reducible refine vlen_ ?_) | (with_reducible refine nck_ ?_) | (with_reducible refine fad_ ?_) | (with_reducible refine ld_ ?_) | (with_reducible refine lda_ ?_) | (with_reducible refine pnilt_ ?_) | (with_reducible refine pnilf_ ?_) | (with_reducible refine pnint_ ?_) | (with_reducible refine pninf_ ?_) | (with_reducible refine ldi_ (by assumption) (by with_unfolding_all rfl) (by with_unfolding_all rfl) ?_) | (with_reducible refine ldi0_ (by assumption) (by with_unfolding_all rfl) ?_) | (with_reducible refine ld_ ?_ (by with_unfolding_all rfl)))
      refine bslf_ (cells := #[i64 i]) (by kernel_rfl) fun b5 J5 hJ5 hr5 => ?_
      refine app_ ho (m := 1) (.imm hr5) (by rfl) (by simp [plainV]) (fun v' L1' ho' _ => ?_) (by omega) (by omega)
      refine add64 ?_
      have e : sizesTo l (i + 1) = sizesTo l i ++ [i] := by rw [sizesTo_succ, hs]; simp
      refine hN (n - 1) (by omega) ⟨i + 1, L1', by omega, rfl, hI2.trans (hJ.trans hJ5), ?_, rfl⟩
      rw [e, intsC_append, List.length_append]
      exact ho'
    (repeat first | (with_reducible refine cndnn_ (by assumption) ?_) | (with_reducible refine cndbt_ (by assumption) ?_) | (with_reducible refine cndbf_ (by assumption) ?_) | (with_reducible refine gdbtt_ (by assumption) ?_) | (with_reducible refine gdbtf_ (by assumption) ?_) | (with_reducible refine gdbff_ (by assumption) ?_) | (with_reducible refine gdbft_ (by assumption) ?_) | (with_reducible refine pckbt_ (by assumption) ?_) | (with_reducible refine pckbf_ (by assumption) ?_) | (with_reducible refine notbt_ (by assumption) ?_) | (with_reducible refine notbf_ (by assumption) ?_) | (with_reducible refine gdtt_ ?_) | (with_reducible refine gdtf_ ?_) | (with_reducible refine gdff_ ?_) | (with_reducible refine gdft_ ?_) | (with_reducible refine pckt_ ?_) | (with_reducible refine pckf_ ?_) | (with_reducible refine cndt_ ?_) | (with_reducible refine cndf_ ?_) | (with_reducible refine cnd_yes (by assumption) ?_) | (with_reducible refine cnd_no (by assumption) ?_) | (with_reducible refine gd_yes (by assumption) ?_) | (with_reducible refine gd_no (by assumption) ?_) | (with_reducible refine gdn_yes (by assumption) ?_) | (with_reducible refine gdn_no (by assumption) ?_) | (with_reducible refine gdu_ ?_) | (with_reducible refine pck_yes (by assumption) ?_) | (with_reducible refine pck_no (by assumption) ?_) | (with_reducible refine leq_ ?_) | (with_reducible refine lss_ ?_) | (with_reducible refine geq_ ?_) | (with_reducible refine gtr_ ?_) | (with_reducible refine eqi_ ?_) | (with_reducible refine nei_ ?_) | (with_reducible refine seq_ ?_) | (with_reducible refine sne_ ?_) | (with_reducible refine not_ ?_) | (with_reducible refine nott_ ?_) | (with_reducible refine notf_ ?_) | (with_reducible refine notb_ ?_) | (with_reducible refine slen_ ?_) | (with_reducible refine vlen_ ?_) | (with_reducible refine nck_ ?_) | (with_reducible refine fad_ ?_) | (with_reducible refine ld_ ?_) | (with_reducible refine lda_ ?_) | (with_reducible refine pnilt_ ?_) | (with_reducible refine pnilf_ ?_) | (with_reducible refine pnint_ ?_) | (with_reducible refine pninf_ ?_) | (with_reducible refine ldi_ (by assumption) (by with_unfolding_all rfl) (by with_unfolding_all rfl) ?_) | (with_reducible refine ldi0_ (by assumption) (by with_unfolding_all rfl) ?_) | (with_reducible refine ld_ ?_ (by with_unfolding_all rfl)))
    refine add64 ?_
    rw [keep (by rw [isSize_at hlt]; simp [h1, h2])] at ho
    exact hN (n - 1) (by omega) ⟨i + 1, Lr, by omega, rfl, hI2.trans hJ, ho, rfl⟩
  refine cnd_no (by omega) ?_
  refine out12_0x0 (join12_1 ?_)
  unfold T12_1
  obtain rfl : i = l.length := by omega
  refine loop12_2 (n := l.length + 1) (fun n x3 x7 K L => ∃ (d : List Nat) (Lr : Own) (om : Obj), I.Le K ∧ DoneS l d ∧ OSl 3 1 x3 (sizesTo l l.length ++ d).length (intsC (sizesTo l l.length ++ d)) Lr ∧ MapO (fun a : Int => i64 a) (setM (castL d)) om ∧ L = Lr ++ [(bm, om)] ∧ ((x7 = .bool true ∧ n = l.length - d.length + 1) ∨ (x7 = .bool false ∧ ordG l l.length [] = d)))
    ⟨[], Lr, om, hI2, .nil l, by simpa using ho, hm, rfl, .inl ⟨rfl, rfl⟩⟩ ?_
  rintro n x3 x7 I3 L3 hle3 ⟨d, Lr, om3, hI3, hd, ho3, hm3, rfl, hcase⟩ N hN u
  unfold B12_2
  have hdl := hd.len
  have hsl3 := sizesTo_le l l.length
  rcases hcase with ⟨rfl, rfl⟩ | ⟨rfl, hend⟩
  case inr =>
    refine cndf_ ?_
    refine out12_2x2 (join12_4 ?_)
    unfold T12_4
    refine fin_ret (L1 := Lr) fun _ _ => ?_
    unfold orderL
    rw [hend]
    exact ho3
  refine cndt_ ?_
  refine vlen_ ?_
  refine loop12_3 (n := l.length) (fun n y3 y7 y37 K L => ∃ i : Nat, n + i = l.length ∧ y3 = x3 ∧ y7 = .bool false ∧ y37 = i64 i ∧ I3.Le K ∧ (∀ j, j < i → nextC l d j = false) ∧ L = Lr ++ [(bm, om3)])
    ⟨0, by omega, rfl, rfl, rfl, .refl _, fun j hj => by omega, rfl⟩ ?_
  rintro n y3 y7 y37 I4 L4 hle4 ⟨i, hi, rfl, rfl, rfl, hI4, hbef, rfl⟩ N2 hN2 u2
  have hb4 := h.up (hI3.trans hI4)
  unfold B12_3
  refine lss_ ?_
  by_cases hlt : i < l.length
  case neg =>
    refine cnd_no (by omega) ?_
    refine out12_3x4 ?_
    exact hN 0 (by omega) ⟨d, Lr, om3, hI3.trans hI4, hd, ho3, hm3, rfl, .inr ⟨rfl, hd.end fun j hj => hbef j (by omega)⟩⟩
  refine cnd_yes (by omega) ?_
  obtain ⟨b, o, cp, A2, c2, rfl, hr, hcp, hbk⟩ := hb4.at hlt
  obtain ⟨ca, rfl⟩ := hcp.ptr
  refine iad_ ?_ (by omega) (by omega)
  refine ld_item (by simpa using hr) ?_
  refine alsf_ fun bx J hJ hx => ?_
  have hnc := nextC_at hlt d
  have step : nextC l d i = false → ∀ j, j < i + 1 → nextC l d j = false := fun hf j hj => by
    by_cases hji : j = i
    · rw [hji]; exact hf
    · exact hbef j (by omega)
  by_cases h3 : l[i].rule = 3
  case neg =>
    have hf : nextC l d i = false := by rw [hnc]; simp [h3]
    have hJ6 := hJ
    (repeat first | (with_reducible refine cndnn_ (by assumption) ?_) | (with_reducible refine cndbt_ (by assumption) ?_) | (with_reducible refine cndbf_ (by assumption) ?_) | (with_reducible refine gdbtt_ (by assumption) ?_) | (with_reducible refine gdbtf_ (by assumption) ?_) | (with_reducible refine gdbff_ (by assumption) ?_) | (with_reducible refine gdbft_ (by assumption) ?_) | (with_reducible refine pckbt_ (by assumption) ?_) | (with_reducible refine pckbf_ (by assumption) ?_) | (with_reducible refine notbt_ (by assumption) ?_) | (with_reducible refine notbf_ (by assumption) ?_) | (with_reducible refine gdtt_ ?_) | (with_reducible refine gdtf_ ?_) | (with_reducible refine gdff_ ?_) | (with_reducible refine gdft_ ?_) | (with_reducible refine pckt_ ?_) | (with_reducible refine pckf_ ?_) | (with_reducible refine cndt_ ?_) | (with_reducible refine cndf_ ?_) | (with_reducible refine cnd_yes (by assumption) ?_) | (with_reducible refine cnd_no (by assumption) ?_) | (with_reducible refine gd_yes (by assumption) ?_) | (with_reducible refine gd_no (by assumption) ?_) | (with_reducible refine gdn_yes (by assumption) ?_) | (with_reducible refine gdn_no (by assumption) ?_) | (with_reducible refine gdu_ ?_) | (with_reducible refine pck_yes (by assumption) ?_) | (with_reducible refine pck_no (by assumption) ?_) | (with_reducible refine leq_ ?_) | (with_reducible refine lss_ ?_) | (with_reducible refine geq_ ?_) | (with_reducible refine gtr_ ?_) | (with_reducible refine eqi_ ?_) | (with_reducible refine nei_ ?_) | (with_reducible refine seq_ ?_) | (with_reducible refine sne_ ?_) | (with_reducible refine not_ ?_) | (with_reducible refine nott_ ?_) | (with_reducible refine notf_ ?_) | (with_reducible refine notb_ ?_) | (with_reducible refine slen_ ?_) | (with_reducible refine vlen_ ?_) | (with_reducible refine nck_ ?_) | (with_reducible refine fad_ ?_) | (with_reducible refine ld_ ?_) | (with_reducible refine lda_ ?_) | (with_reducible refine pnilt_ ?_) | (with_reducible refine pnilf_ ?_) | (with_reducible refine pnint_ ?_) | (with_reducible refine pninf_ ?_) | (with_reducible refine ldi_ (by assumption) (by with_unfolding_all rfl) (by with_unfolding_all rfl) ?_) | (with_reducible refine ldi0_ (by assumption) (by with_unfolding_all rfl) ?_) | (with_reducible refine ld_ ?_ (by with_unfolding_all rfl)))
    refine join12_6 ?_
    unfold T12_6
    (repeat first | (with_reducible refine cndnn_ (by assumption) ?_) | (with_reducible refine cndbt_ (by assumption) ?_) | (with_reducible refine cndbf_ (by assumption) ?_) | (with_reducible refine gdbtt_ (by assumption) ?_) | (with_reducible refine gdbtf_ (by assumption) ?_) | (with_reducible refine gdbff_ (by assumption) ?_) | (with_reducible refine gdbft_ (by assumption) ?_) | (with_reducible refine pckbt_ (by assumption) ?_) | (with_reducible refine pckbf_ (by assumption) ?_) | (with_reducible refine notbt_ (by assumption) ?_) | (with_reducible refine notbf_ (by assumption) ?_) | (with_reducible refine gdtt_ ?_) | (with_reducible refine gdtf_ ?_) | (with_reducible refine gdff_ ?_) | (with_reducible refine gdft_ ?_) | (with_reducible refine pckt_ ?_) | (with_reducible refine pckf_ ?_) | (with_reducible refine cndt_ ?_) | (with_reducible refine cndf_ ?_) | (with_reducible refine cnd_yes (by assumption) ?_) | (with_reducible refine cnd_no (by assumption) ?_) | (with_reducible refine gd_yes (by assumption) ?_) | (with_reducible refine gd_no (by assumption) ?_) | (with_reducible refine gdn_yes (by assumption) ?_) | (with_reducible refine gdn_no (by assumption) ?_) | (with_reducible refine gdu_ ?_) | (with_reducible refine pck_yes (by assumption) ?_) | (with_reducible refine pck_no (by assumption) ?_) | (with_reducible refine leq_ ?_) | (with_reducible refine lss_ ?_) | (with_reducible refine geq_ ?_) | (with_reducible refine gtr_ ?_) | (with_reducible refine eqi_ ?_) | (with_reducible refine nei_ ?_) | (with_reducible refine seq_ ?_) | (with_reducible refine sne_ ?_) | (with_reducible refine not_ ?_) | (with_reducible refine nott_ ?_) | (with_reducible refine notf_ ?_) | (with_reducible refine notb_ ?_) | (with_reducible refine slen_ ?_) | (with_reducible refine vlen_ ?_) | (with_reducible refine nck_ ?_) | (with_reducible refine fad_ ?_) | (with_reducible refine ld_ ?_) | (with_reducible refine lda_ ?_) | (with_reducible refine pnilt_ ?_) | (with_reducible refine pnilf_ ?_) | (with_reducible refine pnint_ ?_) | (with_reducible refine pninf_ ?_) | (with_reducible refine ldi_ (by assumption) (by with_unfolding_all rfl) (by with_unfolding_all rfl) ?_) | (with_reducible refine ldi0_ (by assumption) (by with_unfolding_all rfl) ?_) | (with_reducible refine ld_ ?_ (by with_unfolding_all rfl)))
    refine join12_7 ?_
    unfold T12_7
    refine add64 ?_
    exact hN2 (n - 1) (by omega) ⟨i + 1, by omega, rfl, rfl, rfl, hI4.trans hJ6, step hf, rfl⟩
  (repeat first | (with_reducible refine cndnn_ (by assumption) ?_) | (with_reducible refine cndbt_ (by assumption) ?_) | (with_reducible refine cndbf_ (by assumption) ?_) | (with_reducible refine gdbtt_ (by assumption) ?_) | (with_reducible refine gdbtf_ (by assumption) ?_) | (with_reducible refine gdbff_ (by assumption) ?_) | (with_reducible refine gdbft_ (by assumption) ?_) | (with_reducible refine pckbt_ (by assumption) ?_) | (with_reducible refine pckbf_ (by assumption) ?_) | (with_reducible refine notbt_ (by assumption) ?_) | (with_reducible refine notbf_ (by assumption) ?_) | (with_reducible refine gdtt_ ?_) | (with_reducible refine gdtf_ ?_) | (with_reducible refine gdff_ ?_) | (with_reducible refine gdft_ ?_) | (with_reducible refine pckt_ ?_) | (with_reducible refine pckf_ ?_) | (with_reducible refine cndt_ ?_) | (with_reducible refine cndf_ ?_) | (with_reducible refine cnd_yes (by assumption) ?_) | (with_reducible refine cnd_no (by assumption) ?_) | (with_reducible refine gd_yes (by assumption) ?_) | (with_reducible refine gd_no (by assumption) ?_) | (with_reducible refine gdn_yes (by assumption) ?_) | (with_reducible refine gdn_no (by assumption) ?_) | (with_reducible refine gdu_ ?_) | (with_reducible refine pck_yes (by assumption) ?_) | (with_reducible refine pck_no (by assumption) ?_) | (with_reducible refine leq_ ?_) | (with_reducible refine lss_ ?_) | (with_reducible refine geq_ ?_) | (with_reducible refine gtr_ ?_) | (with_reducible refine eqi_ ?_) | (with_reducible refine nei_ ?_) | (with_reducible refine seq_ ?_) | (with_reducible refine sne_ ?_) | (with_reducible refine not_ ?_) | (with_reducible refine nott_ ?_) | (with_reducible refine notf_ ?_) | (with_reducible refine notb_ ?_) | (with_reducible refine slen_ ?_) | (with_reducible refine vlen_ ?_) | (with_reducible refine nck_ ?_) | (with_reducible refine fad_ ?_) | (with_reducible refine ld_ ?_) | (with_reducible refine lda_ ?_) | (with_reducible refine pnilt_ ?_) | (with_reducible refine pnilf_ ?_) | (with_reducible refine pnint_ ?_) | (with_reducible refine pninf_ ?_) | (with_reducible refine ldi_ (by assumption) (by with_unfolding_all rfl) (by with_unfolding_all rfl) ?_) | (with_reducible refine ldi0_ (by assumption) (by with_unfolding_all rfl) ?_) | (with_reducible refine ld_ ?_ (by with_unfolding_all rfl)))
  refine lkps_ hm3 ?_
  by_cases hid : (i : Int) ∈ castL d
  · have hf : nextC l d i = false := by rw [hnc]; simp [mem_castL.1 hid]
    have hJ6 := hJ
    (repeat first | (with_reducible refine cndnn_ (by assumption) ?_) | (with_reducible refine cndbt_ (by assumption) ?_) | (with_reducible refine cndbf_ (by assumption) ?_) | (with_reducible refine gdbtt_ (by assumption) ?_) | (with_reducible refine gdbtf_ (by assumption) ?_) | (with_reducible refine gdbff_ (by assumption) ?_) | (with_reducible refine gdbft_ (by assumption) ?_) | (with_reducible refine pckbt_ (by assumption) ?_) | (with_reducible refine pckbf_ (by assumption) ?_) | (with_reducible refine notbt_ (by assumption) ?_) | (with_reducible refine notbf_ (by assumption) ?_) | (with_reducible refine gdtt_ ?_) | (with_reducible refine gdtf_ ?_) | (with_reducible refine gdff_ ?_) | (with_reducible refine gdft_ ?_) | (with_reducible refine pckt_ ?_) | (with_reducible refine pckf_ ?_) | (with_reducible refine cndt_ ?_) | (with_reducible refine cndf_ ?_) | (with_reducible refine cnd_yes (by assumption) ?_) | (with_reducible refine cnd_no (by assumption) ?_) | (with_reducible refine gd_yes (by assumption) ?_) | (with_reducible refine gd_no (by assumption) ?_) | (with_reducible refine gdn_yes (by assumption) ?_) | (with_reducible refine gdn_no (by assumption) ?_) | (with_reducible refine gdu_ ?_) | (with_reducible refine pck_yes (by assumption) ?_) | (with_reducible refine pck_no (by assumption) ?_) | (with_reducible refine leq_ ?_) | (with_reducible refine lss_ ?_) | (with_reducible refine geq_ ?_) | (with_reducible refine gtr_ ?_) | (with_reducible refine eqi_ ?_) | (with_reducible refine nei_ ?_) | (with_reducible refine seq_ ?_) | (with_reducible refine sne_ ?_) | (with_reducible refine not_ ?_) | (with_reducible refine nott_ ?_) | (with_reducible refine notf_ ?_) | (with_reducible refine notb_ ?_) | (with_reducible refine slen_ ?_) | (with_reducible refine vlen_ ?_) | (with_reducible refine nck_ ?_) | (with_reducible refine fad_ ?_) | (with_reducible refine ld_ ?_) | (with_reducible refine lda_ ?_) | (with_reducible refine pnilt_ ?_) | (with_reducible refine pnilf_ ?_) | (with_reducible refine pnint_ ?_) | (with_reducible refine pninf_ ?_) | (with_reducible refine ldi_ (by assumption) (by with_unfolding_all rfl) (by with_unfolding_all rfl) ?_) | (with_reducible refine ldi0_ (by assumption) (by with_unfolding_all rfl) ?_) | (with_reducible refine ld_ ?_ (by with_unfolding_all rfl)))
    refine join12_6 ?_
    unfold T12_6
    (repeat first | (with_reducible refine cndnn_ (by assumption) ?_) | (with_reducible refine cndbt_ (by assumption) ?_) | (with_reducible refine cndbf_ (by assumption) ?_) | (with_reducible refine gdbtt_ (by assumption) ?_) | (with_reducible refine gdbtf_ (by assumption) ?_) | (with_reducible refine gdbff_ (by assumption) ?_) | (with_reducible refine gdbft_ (by assumption) ?_) | (with_reducible refine pckbt_ (by assumption) ?_) | (with_reducible refine pckbf_ (by assumption) ?_) | (with_reducible refine notbt_ (by assumption) ?_) | (with_reducible refine notbf_ (by assumption) ?_) | (with_reducible refine gdtt_ ?_) | (with_reducible refine gdtf_ ?_) | (with_reducible refine gdff_ ?_) | (with_reducible refine gdft_ ?_) | (with_reducible refine pckt_ ?_) | (with_reducible refine pckf_ ?_) | (with_reducible refine cndt_ ?_) | (with_reducible refine cndf_ ?_) | (with_reducible refine cnd_yes (by assumption) ?_) | (with_reducible refine cnd_no (by assumption) ?_) | (with_reducible refine gd_yes (by assumption) ?_) | (with_reducible refine gd_no (by assumption) ?_) | (with_reducible refine gdn_yes (by assumption) ?_) | (with_reducible refine gdn_no (by assumption) ?_) | (with_reducible refine gdu_ ?_) | (with_reducible refine pck_yes (by assumption) ?_) | (with_reducible refine pck_no (by assumption) ?_) | (with_reducible refine leq_ ?_) | (with_reducible refine lss_ ?_) | (with_reducible refine geq_ ?_) | (with_reducible refine gtr_ ?_) | (with_reducible refine eqi_ ?_) | (with_reducible refine nei_ ?_) | (with_reducible refine seq_ ?_) | (with_reducible refine sne_ ?_) | (with_reducible refine not_ ?_) | (with_reducible refine nott_ ?_) | (with_reducible refine notf_ ?_) | (with_reducible refine notb_ ?_) | (with_reducible refine slen_ ?_) | (with_reducible refine vlen_ ?_) | (with_reducible refine nck_ ?_) | (with_reducible refine fad_ ?_) | (with_reducible refine ld_ ?_) | (with_reducible refine lda_ ?_) | (with_reducible refine pnilt_ ?_) | (with_reducible refine pnilf_ ?_) | (with_reducible refine pnint_ ?_) | (with_reducible refine pninf_ ?_) | (with_reducible refine ldi_ (by assumption) (by with_unfolding_all rfl) (by with_unfolding_all rfl) ?_) | (with_reducible refine ldi0_ (by assumption) (by with_unfolding_all rfl) ?_) | (with_reducible refine ld_ ?_ (by with_unfolding_all rfl)))
    refine join12_7 ?_
    unfold T12_7
    refine add64 ?_
    exact hN2 (n - 1) (by omega) ⟨i + 1, by omega, rfl, rfl, rfl, hI4.trans hJ6, step hf, rfl⟩
  have hid' : i ∉ d := fun h => hid (mem_castL.2 h)
  (repeat first | (with_reducible refine cndnn_ (by assumption) ?_) | (with_reducible refine cndbt_ (by assumption) ?_) | (with_reducible refine cndbf_ (by assumption) ?_) | (with_reducible refine gdbtt_ (by assumption) ?_) | (with_reducible refine gdbtf_ (by assumption) ?_) | (with_reducible refine gdbff_ (by assumption) ?_) | (with_reducible refine gdbft_ (by assumption) ?_) | (with_reducible refine pckbt_ (by assumption) ?_) | (with_reducible refine pckbf_ (by assumption) ?_) | (with_reducible refine notbt_ (by assumption) ?_) | (with_reducible refine notbf_ (by assumption) ?_) | (with_reducible refine gdtt_ ?_) | (with_reducible refine gdtf_ ?_) | (with_reducible refine gdff_ ?_) | (with_reducible refine gdft_ ?_) | (with_reducible refine pckt_ ?_) | (with_reducible refine pckf_ ?_) | (with_reducible refine cndt_ ?_) | (with_reducible refine cndf_ ?_) | (with_reducible refine cnd_yes (by assumption) ?_) | (with_reducible refine cnd_no (by assumption) ?_) | (with_reducible refine gd_yes (by assumption) ?_) | (with_reducible refine gd_no (by assumption) ?_) | (with_reducible refine gdn_yes (by assumption) ?_) | (with_reducible refine gdn_no (by assumption) ?_) | (with_reducible refine gdu_ ?_) | (with_reducible refine pck_yes (by assumption) ?_) | (with_reducible refine pck_no (by assumption) ?_) | (with_reducible refine leq_ ?_) | (with_reducible refine lss_ ?_) | (with_reducible refine geq_ ?_) | (with_reducible refine gtr_ ?_) | (with_reducible refine eqi_ ?_) | (with_reducible refine nei_ ?_) | (with_reducible refine seq_ ?_) | (with_reducible refine sne_ ?_) | (with_reducible refine not_ ?_) | (with_reducible refine nott_ ?_) | (with_reducible refine notf_ ?_) | (with_reducible refine notb_ ?_) | (with_reducible refine slen_ ?_) | (with_reducible refine vlen_ ?_) | (with_reducible refine nck_ ?_) | (with_reducible refine fad_ ?_) | (with_reducible refine ld_ ?_) | (with_reducible refine lda_ ?_) | (with_reducible refine pnilt_ ?_) | (with_reducible refine pnilf_ ?_) | (with_reducible refine pnint_ ?_) | (with_reducible refine pninf_ ?_) | (with_reducible refine ldi_ (by assumption) (by with_unfolding_all rfl) (by with_unfolding_all rfl) ?_) | (with_reducible refine ldi0_ (by assumption) (by with_unfolding_all rfl) ?_) | (with_reducible refine ld_ ?_ (by with_unfolding_all rfl)))
  refine cal_ret (L1 := []) (covers_ret (hb4.up hJ) (by omega) i hlt) fun v5 J5 L5 hJ5 ho5 => ?_
  refine len_freeze L5 fun J6 hJ56 hz => ?_
  obtain ⟨A5, c5, rfl, hA5, hc5⟩ := osl_rsl ho5 hz
  have hJ6 := hJ.trans (hJ5.trans hJ56)
  have hcl := covL_length l i
  refine vlen_ ?_
  refine loop12_5 (n := (covL l i).length) (fun n y10 y56 K L => ∃ j : Nat, n + j = (covL l i).length ∧ y56 = i64 j ∧ y10 = .bool (allTo d (covL l i) j) ∧ J6.Le K ∧ L = Lr ++ [(bm, om3)])
    ⟨0, by omega, rfl, by simp [allTo, hid], .refl _, rfl⟩ ?_
  rintro m y10 y56 I7 L7 hle7 ⟨j, hj, rfl, rfl, hI7, rfl⟩ N3 hN3 u3
  have hA7 := hA5.up hI7
  unfold B12_5
  refine lss_ ?_
  by_cases hjl : j < (covL l i).length
  · refine cnd_yes (by omega) ?_
    obtain ⟨b7, o7, rfl, hr7⟩ := hA7.some (j := j) (by simpa [intsC] using hjl)
    refine iad_ ?_ (by omega) (by omega)
    refine ldi_ (j := j) hr7 (by simp) (v := i64 ((covL l i)[j] : Nat)) (by simp [intsC, hjl]) ?_
    cases ha : allTo d (covL l i) j
    · (repeat first | (with_reducible refine cndnn_ (by assumption) ?_) | (with_reducible refine cndbt_ (by assumption) ?_) | (with_reducible refine cndbf_ (by assumption) ?_) | (with_reducible refine gdbtt_ (by assumption) ?_) | (with_reducible refine gdbtf_ (by assumption) ?_) | (with_reducible refine gdbff_ (by assumption) ?_) | (with_reducible refine gdbft_ (by assumption) ?_) | (with_reducible refine pckbt_ (by assumption) ?_) | (with_reducible refine pckbf_ (by assumption) ?_) | (with_reducible refine notbt_ (by assumption) ?_) | (with_reducible refine notbf_ (by assumption) ?_) | (with_reducible refine gdtt_ ?_) | (with_reducible refine gdtf_ ?_) | (with_reducible refine gdff_ ?_) | (with_reducible refine gdft_ ?_) | (with_reducible refine pckt_ ?_) | (with_reducible refine pckf_ ?_) | (with_reducible refine cndt_ ?_) | (with_reducible refine cndf_ ?_) | (with_reducible refine cnd_yes (by assumption) ?_) | (with_reducible refine cnd_no (by assumption) ?_) | (with_reducible refine gd_yes (by assumption) ?_) | (with_reducible refine gd_no (by assumption) ?_) | (with_reducible refine gdn_yes (by assumption) ?_) | (with_reducible refine gdn_no (by assumption) ?_) | (with_reducible refine gdu_ ?_) | (with_reducible refine pck_yes (by assumption) ?_) | (with_reducible refine pck_no (by assumption) ?_) | (with_reducible refine leq_ ?_) | (with_reducible refine lss_ ?_) | (with_reducible refine geq_ ?_) | (with_reducible refine gtr_ ?_) | (with_reducible refine eqi_ ?_) | (with_reducible refine nei_ ?_) | (with_reducible refine seq_ ?_) | (with_reducible refine sne_ ?_) | (with_reducible refine not_ ?_) | (with_reducible refine nott_ ?_) | (with_reducible refine notf_ ?_) | (with_reducible refine notb_ ?_) | (with_reducible refine slen_ ?_) | (with_reducible refine vlen_ ?_) | (with_reducible refine nck_ ?_) | (with_reducible refine fad_ ?_) | (with_reducible refine ld_ ?_) | (with_reducible refine lda_ ?_) | (with_reducible refine pnilt_ ?_) | (with_reducible refine pnilf_ ?_) | (with_reducible refine pnint_ ?_) | (with_reducible refine pninf_ ?_) | (with_reducible refine ldi_ (by assumption) (by with_unfolding_all rfl) (by with_unfolding_all rfl) ?_) | (with_reducible refine ldi0_ (by assumption) (by with_unfolding_all rfl) ?_) | (with_reducible refine ld_ ?_ (by with_unfolding_all rfl)))
      refine add64 ?_
      exact hN3 (m - 1) (by omega) ⟨j + 1, by omega, rfl, by rw [allTo_succ hjl, ha]; rfl, hI7, rfl⟩
    · (repeat first | (with_reducible refine cndnn_ (by assumption) ?_) | (with_reducible refine cndbt_ (by assumption) ?_) | (with_reducible refine cndbf_ (by assumption) ?_) | (with_reducible refine gdbtt_ (by assumption) ?_) | (with_reducible refine gdbtf_ (by assumption) ?_) | (with_reducible refine gdbff_ (by assumption) ?_) | (with_reducible refine gdbft_ (by assumption) ?_) | (with_reducible refine pckbt_ (by assumption) ?_) | (with_reducible refine pckbf_ (by assumption) ?_) | (with_reducible refine notbt_ (by assumption) ?_) | (with_reducible refine notbf_ (by assumption) ?_) | (with_reducible refine gdtt_ ?_) | (with_reducible refine gdtf_ ?_) | (with_reducible refine gdff_ ?_) | (with_reducible refine gdft_ ?_) | (with_reducible refine pckt_ ?_) | (with_reducible refine pckf_ ?_) | (with_reducible refine cndt_ ?_) | (with_reducible refine cndf_ ?_) | (with_reducible refine cnd_yes (by assumption) ?_) | (with_reducible refine cnd_no (by assumption) ?_) | (with_reducible refine gd_yes (by assumption) ?_) | (with_reducible refine gd_no (by assumption) ?_) | (with_reducible refine gdn_yes (by assumption) ?_) | (with_reducible refine gdn_no (by assumption) ?_) | (with_reducible refine gdu_ ?_) | (with_reducible refine pck_yes (by assumption) ?_) | (with_reducible refine pck_no (by assumption) ?_) | (with_reducible refine leq_ ?_) | (with_reducible refine lss_ ?_) | (with_reducible refine geq_ ?_) | (with_reducible refine gtr_ ?_) | (with_reducible refine eqi_ ?_) | (with_reducible refine nei_ ?_) | (with_reducible refine seq_ ?_) | (with_reducible refine sne_ ?_) | (with_reducible refine not_ ?_) | (with_reducible refine nott_ ?_) | (with_reducible refine notf_ ?_) | (with_reducible refine notb_ ?_) | (with_reducible refine slen_ ?_) | (with_reducible refine vlen_ ?_) | (with_reducible refine nck_ ?_) | (with_reducible refine fad_ ?_) | (with_reducible refine ld_ ?_) | (with_reducible refine lda_ ?_) | (with_reducible refine pnilt_ ?_) | (with_reducible refine pnilf_ ?_) | (with_reducible refine pnint_ ?_) | (with_reducible refine pninf_ ?_) | (with_reducible refine ldi_ (by assumption) (by with_unfolding_all rfl) (by with_unfolding_all rfl) ?_) | (with_reducible refine ldi0_ (by assumption) (by with_unfolding_all rfl) ?_) | (with_reducible refine ld_ ?_ (by with_unfolding_all rfl)))
      refine lkps_ hm3 ?_
      (repeat first | (with_reducible refine cndnn_ (by assumption) ?_) | (with_reducible refine cndbt_ (by assumption) ?_) | (with_reducible refine cndbf_ (by assumption) ?_) | (with_reducible refine gdbtt_ (by assumption) ?_) | (with_reducible refine gdbtf_ (by assumption) ?_) | (with_reducible refine gdbff_ (by assumption) ?_) | (with_reducible refine gdbft_ (by assumption) ?_) | (with_reducible refine pckbt_ (by assumption) ?_) | (with_reducible refine pckbf_ (by assumption) ?_) | (with_reducible refine notbt_ (by assumption) ?_) | (with_reducible refine notbf_ (by assumption) ?_) | (with_reducible refine gdtt_ ?_) | (with_reducible refine gdtf_ ?_) | (with_reducible refine gdff_ ?_) | (with_reducible refine gdft_ ?_) | (with_reducible refine pckt_ ?_) | (with_reducible refine pckf_ ?_) | (with_reducible refine cndt_ ?_) | (with_reducible refine cndf_ ?_) | (with_reducible refine cnd_yes (by assumption) ?_) | (with_reducible refine cnd_no (by assumption) ?_) | (with_reducible refine gd_yes (by assumption) ?_) | (with_reducible refine gd_no (by assumption) ?_) | (with_reducible refine gdn_yes (by assumption) ?_) | (with_reducible refine gdn_no (by assumption) ?_) | (with_reducible refine gdu_ ?_) | (with_reducible refine pck_yes (by assumption) ?_) | (with_reducible refine pck_no (by assumption) ?_) | (with_reducible refine leq_ ?_) | (with_reducible refine lss_ ?_) | (with_reducible refine geq_ ?_) | (with_reducible refine gtr_ ?_) | (with_reducible refine eqi_ ?_) | (with_reducible refine nei_ ?_) | (with_reducible refine seq_ ?_) | (with_reducible refine sne_ ?_) | (with_reducible refine not_ ?_) | (with_reducible refine nott_ ?_) | (with_reducible refine notf_ ?_) | (with_reducible refine notb_ ?_) | (with_reducible refine slen_ ?_) | (with_reducible refine vlen_ ?_) | (with_reducible refine nck_ ?_) | (with_reducible refine fad_ ?_) | (with_reducible refine ld_ ?_) | (with_reducible refine lda_ ?_) | (with_reducible refine pnilt_ ?_) | (with_reducible refine pnilf_ ?_) | (with_reducible refine pnint_ ?_) | (with_reducible refine pninf_ ?_) | (with_reducible refine ldi_ (by assumption) (by with_unfolding_all rfl) (by with_unfolding_all rfl) ?_) | (with_reducible refine ldi0_ (by assumption) (by with_unfolding_all rfl) ?_) | (with_reducible refine ld_ ?_ (by with_unfolding_all rfl)))
      refine add64 ?_
      refine hN3 (m - 1) (by omega) ⟨j + 1, by omega, rfl, ?_, hI7, rfl⟩
      rw [allTo_succ hjl, ha, Bool.true_and]
      congr 1
      rw [decide_eq_decide]
      exact mem_castL
  · refine cnd_no (by omega) ?_
    refine out12_5x6 (join12_6 ?_)
    unfold T12_6
    have e : allTo d (covL l i) j = (covL l i).all fun k => decide (k ∈ d) := by
      unfold allTo
      rw [List.take_of_length_le (by omega)]
    have hJ6 := hJ6.trans hI7
    have hnc2 : nextC l d i = allTo d (covL l i) j := by rw [hnc, e]; simp [h3, hid']
    refine cndb_ (fun ha => ?_) (fun ha => ?_)
    · have hadd := hd.add (hnc2.trans ha) hbef
      have hal := hadd.len
      simp only [List.length_append, List.length_singleton] at hal
      refine bslf_ (cells := #[i64 i]) (by kernel_rfl) fun b8 J8 hJ8 hr8 => ?_
      refine app_ ho3 (m := 1) (.imm hr8) (by rfl) (by simp [plainV]) (fun v' L1' ho' _ => ?_) (by simp; omega) (by simp; omega)
      refine mups_ hm3 hid fun om9 hm9 => ?_
      refine out12_3x4 ?_
      refine hN (l.length - (d ++ [i]).length + 1) (by simp; omega) ⟨d ++ [i], L1', om9, hI3.trans (hI4.trans (hJ6.trans hJ8)), hadd, ?_, ?_, rfl, .inl ⟨rfl, rfl⟩⟩
      · have el : (sizesTo l l.length ++ d ++ [i]).length = (sizesTo l l.length ++ d).length + 1 := by simp; omega
        rw [← List.append_assoc, intsC_append, el]
        exact ho'
      · simpa [castL] using hm9
    · have hf : nextC l d i = false := hnc2.trans ha
      refine join12_7 ?_
      unfold T12_7
      refine add64 ?_
      exact hN2 (n - 1) (by omega) ⟨i + 1, by omega, rfl, rfl, rfl, hI4.trans hJ6, step hf, rfl⟩
end Go.Proofs.Ytkclodaplbalfaa
