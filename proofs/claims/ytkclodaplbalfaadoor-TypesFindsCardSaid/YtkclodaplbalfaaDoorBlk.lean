/- Blocks of items: which one has a name. Conditions: none. -/
import Derived.Test.YtkclodaplbalfaaDoorTmpl4
set_option linter.unusedVariables false
set_option linter.unusedSimpArgs false
set_option maxRecDepth 100000
namespace Go.Proofs.YtkclodaplbalfaaDoor
open Go Sl
/-- An item's cells. -/
def itL (x : It) (cp : Value) (A : Option Addr) (c : Nat) : List Value := [i64 x.kind, i64 x.at_, S x.name, S x.type, i64 x.width, i64 x.order, .bool x.signed, .bool x.many, cp, i64 x.rule, S x.first, S x.last, .slice A x.items.length c]
theorem ItR.open {I : Imm} {x : It} {vs : List Value} (h : ItR I x vs) : ∃ cp A c ws, vs = itL x cp A c ∧ ExR I x.count cp ∧ ItsR I x.items ws ∧ RSl I A ws ∧ x.items.length ≤ c := by
  obtain ⟨k, a, nm, ty, w, o, sg, mn, ct, rl, f, l, its⟩ := x
  simp only [ItR] at h
  exact h
theorem ItsR.length {I : Imm} : ∀ {l : List It} {vs : List Value}, ItsR I l vs → vs.length = l.length * 13
  | [], vs, h => by
    simp only [ItsR] at h
    subst h
    rfl
  | x :: l, vs, h => by
    simp only [ItsR] at h
    obtain ⟨v1, v2, rfl, h2, h3⟩ := h
    rw [List.length_append, h2.length, h3.length, List.length_cons]
    omega
theorem ItsR.at {I : Imm} : ∀ {l : List It} {vs : List Value}, ItsR I l vs → ∀ {i : Nat} (hi : i < l.length), ∃ w, ItR I l[i] w ∧ (vs.drop (i * 13)).take 13 = w
  | [], vs, h, i, hi => absurd hi (by simp)
  | x :: l, vs, h, i, hi => by
    simp only [ItsR] at h
    obtain ⟨v1, v2, rfl, h2, h3⟩ := h
    have hl := h2.length
    cases i with
    | zero => exact ⟨v1, h2, by rw [Nat.zero_mul, List.drop_zero]; exact List.take_left' hl⟩
    | succ i =>
      obtain ⟨w, h4, h5⟩ := h3.at (i := i) (by simpa using hi)
      refine ⟨w, h4, ?_⟩
      rw [← h5]
      have e : (i + 1) * 13 = v1.length + i * 13 := by omega
      rw [e, List.drop_append, List.drop_eq_nil_of_le (Nat.le_add_right _ _), List.nil_append, Nat.add_sub_cancel_left]
/-- A block, lying for good. -/
def BlkR (I : Imm) (A : Option Addr) (c : Nat) (l : List It) : Prop := ∃ vs, ItsR I l vs ∧ RSl I A vs ∧ l.length ≤ c
theorem BlkR.up {I J : Imm} {A : Option Addr} {c : Nat} {l : List It} (h : BlkR I A c l) (hle : I.Le J) : BlkR J A c l := by
  obtain ⟨vs, h1, h2, h3⟩ := h
  exact ⟨vs, h1.up hle, h2.up hle, h3⟩
/-- The i-th item's cells. -/
theorem BlkR.at {I : Imm} {A : Option Addr} {c : Nat} {l : List It} (h : BlkR I A c l) {i : Nat} (hi : i < l.length) : ∃ b o cp A2 c2, A = some ⟨b, o, none⟩ ∧ RdAt I b (o + i * 13) (itL l[i] cp A2 c2) ∧ ExR I l[i].count cp ∧ BlkR I A2 c2 l[i].items := by
  obtain ⟨vs, h1, h2, h3⟩ := h
  obtain ⟨w, h4, h5⟩ := h1.at hi
  obtain ⟨cp, A2, c2, ws, rfl, h7, h8, h9, h10⟩ := h4.open
  have hne : vs ≠ [] := fun e => by
    subst e
    simp [itL] at h5
  rcases h2 with h2 | ⟨b, o, rfl, h2⟩
  · exact absurd h2 hne
  · refine ⟨b, o, cp, A2, c2, rfl, ?_, h7, ws, h8, h9, h10⟩
    have := (h2.drop (n := i * 13)).take (n := 13)
    rw [h5] at this
    exact this
theorem ld_item {I : Imm} {L : Own} {k : KV} {b o : Nat} {x : It} {cp : Value} {A2 : Option Addr} {c2 : Nat} (h : RdAt I b o (itL x cp A2 c2)) (k' : k (.agg (itL x cp A2 c2).toArray) I L) : ld Tryd.prog 70 (ptr b o) I L k :=
  ldai_ (j := 0) h rfl (us := itL x cp A2 c2) rfl rfl k'
def whichZ (l : List It) (nm : List UInt8) : Int := match l.findIdx? (fun x => decide (x.kind ≠ 4) && decide (x.name = nm)) with | some i => i | none => -1
theorem which_ro {I : Imm} {A : Option Addr} {c : Nat} {l : List It} (h : BlkR I A c l) (nm : List UInt8) (hl : l.length ≤ 1000000) : RoC Tryd.prog 36 #[.slice A l.length c, S nm] I [] (i64 (whichZ l nm)) := by
  refine .of (go36 ?_)
  unfold M36
  refine vlen_ ?_
  refine loop36_0 (n := l.length) (fun n x9 I L => ∃ i : Nat, n + i = l.length ∧ x9 = i64 i ∧ BlkR I A c l ∧ ∀ j (hj : j < i) (hjl : j < l.length), (decide (l[j].kind ≠ 4) && decide (l[j].name = nm)) = false) ⟨0, by omega, rfl, h, fun j hj => by omega⟩ ?_
  rintro n x9 I2 L2 hle ⟨i, hi, rfl, hb, hno⟩ N hN u
  unfold B36_0
  refine lss_ ?_
  by_cases hlt : i < l.length
  · refine cnd_yes (by omega) ?_
    obtain ⟨b, o, cp, A2, c2, rfl, hr, hc, hb2⟩ := hb.at hlt
    refine iad_ ?_ (by omega) (by omega)
    refine ld_item (by simpa using hr) ?_
    refine al_ fun b6 => ?_
    obtain ⟨ca, rfl⟩ := hc.ptr
    refine stoa_ ?_
    refine fad_ ?_
    refine ld_ ?_
    refine nei_ ?_
    have step : (decide (l[i].kind ≠ 4) && decide (l[i].name = nm)) = false → ∀ j (hj : j < i + 1) (hjl : j < l.length), (decide (l[j].kind ≠ 4) && decide (l[j].name = nm)) = false := fun h j hj hjl => by
      by_cases hji : j = i
      · subst hji; exact h
      · exact hno j (by omega) hjl
    by_cases hk : l[i].kind ≠ 4
    · (repeat with_reducible first | refine StG.h ?_ | refine StY.h ‹_› ?_ | refine StN.h ‹_› ?_ | refine StW.h ?_ | refine ld_ ?_ | refine lda_ ?_)
      refine ld_ ?_
      (repeat with_reducible first | refine StG.h ?_ | refine StY.h ‹_› ?_ | refine StN.h ‹_› ?_ | refine StW.h ?_ | refine ld_ ?_ | refine lda_ ?_)
      refine cnd_ (fun hn => ?_) (fun hn => ?_)
      · refine out36_0r ?_
        have e : whichZ l nm = i := by
          unfold whichZ
          have : l.findIdx? (fun x => decide (x.kind ≠ 4) && decide (x.name = nm)) = some i := by
            rw [List.findIdx?_eq_some_iff_getElem]
            exact ⟨hlt, by simp [hk, hn], fun j hj => by simpa using hno j hj (by omega)⟩
          rw [this]
        rw [e]
        exact fin_ro
      · refine add64 ?_
        exact hN (n - 1) (by omega) ⟨i + 1, by omega, rfl, hb, step (by simp [hn])⟩
    · (repeat with_reducible first | refine StG.h ?_ | refine StY.h ‹_› ?_ | refine StN.h ‹_› ?_ | refine StW.h ?_ | refine ld_ ?_ | refine lda_ ?_)
      refine add64 ?_
      exact hN (n - 1) (by omega) ⟨i + 1, by omega, rfl, hb, step (by simp [hk])⟩
  · refine cnd_no (by omega) ?_
    refine out36_0x0 (join36_1 ?_)
    unfold T36_1
    have e : whichZ l nm = -1 := by
      unfold whichZ
      have : l.findIdx? (fun x => decide (x.kind ≠ 4) && decide (x.name = nm)) = none := by
        rw [List.findIdx?_eq_none_iff]
        intro x hx
        obtain ⟨j, hj, rfl⟩ := List.getElem_of_mem hx
        exact hno j (by omega) hj
      rw [this]
    rw [e]
    exact fin_ro
end Go.Proofs.YtkclodaplbalfaaDoor
