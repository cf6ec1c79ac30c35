/- The reader of templates: blocks, and whole texts. Conditions: none. -/
import Derived.Test.YtkclodaplbalfaaDoorTmpl2
set_option linter.unusedVariables false
set_option linter.unusedSimpArgs false
set_option maxRecDepth 100000
namespace Go.Proofs.YtkclodaplbalfaaDoor
open Go Sl
theorem osl_slice {e sz n : Nat} {v : Value} {xs : List Value} {L1 : Own} (h : OSl e sz v n xs L1) : ∃ A c, v = .slice A n c := by
  obtain ⟨hl, ⟨rfl, rfl, rfl⟩ | ⟨g, o, cap, cur, rfl, rfl, hn, hs, hx⟩⟩ := h
  · exact ⟨none, 0, rfl⟩
  · exact ⟨_, cap, rfl⟩
theorem ItR.cells {I : Imm} {x : It} {vs : List Value} (h : ItR I x vs) : ∃ a b c d e f g h i j k l m, vs = [a, b, c, d, e, f, g, h, i, j, k, l, m] ∧ (∀ u ∈ vs, u.cells = #[u]) := by
  have hp := h.plain
  obtain ⟨k, a, nm, ty, w, o, sg, mn, ct, rl, f, l, its⟩ := x
  simp only [ItR] at h
  obtain ⟨cp, A, c, ws, rfl, _⟩ := h
  exact ⟨_, _, _, _, _, _, _, _, _, _, _, _, _, rfl, fun u hu => plain_cells (hp u hu)⟩
/-- What block holds on its way. -/
structure BlkSt (I : Imm) (v : Value) (l : List It) (vs : List Value) (L1 : Own) (p q : Eye) (o : Obj) (deep : Int) : Prop where
  s : OSl 70 13 v l.length vs L1
  r : ItsR I l vs
  w : ∀ x ∈ l, Wf (9 - deep).toNat x
  g : ¬ q.stop → ∀ x ∈ l, WfG x
  n : l.length ≤ 16
  o : EyeAt I o q
  le : q.Le p
  d : q.stop ∨ deep ≤ 8
theorem block_mut (n : Nat) : BlockC n := by
  induction n using Nat.strongRecOn with
  | _ n ih =>
  intro I b o p deep hM hp hok hd0 hd hm
  refine .ofF (go17 ?_)
  unfold M17
  have j0 : ∀ {zz : Env} {I : Imm} {o : Obj} {q : Eye}, MaxL I → EyeAt I o q → q.Le p → ((q.must [123]).stop ∨ deep ≤ 8) →
      T17_0 (Fin fun e I' L' => ∃ v o', e = .returned v ∧ L' = [(b, o')] ∧ BlockPost deep p v I' o') zz (ptr b 0) (i64 deep) I [(b, o)] := by
    intros
    rename_i I o q hM hq hle hdq
    unfold T17_0
    refine cal_mut (eyes_must hq _) fun v I2 o2 hI2 ⟨hv, ho2⟩ => ?_
    refine loop17_1 (n := (q.must [123]).meas) (fun m x5 I L => MaxL I ∧ ∃ l vs L1 r o', BlkSt I x5 l vs L1 p r o' deep ∧ m = r.meas ∧ L = L1 ++ [(b, o')])
      ⟨hM.up hI2, [], [], [], _, o2, ⟨.nil, rfl, by simp, by simp, by simp, ho2, (q.must_le _).trans hle, hdq⟩, rfl, rfl⟩ ?_
    rintro m x5 I3 L3 hI3 ⟨hM3, l, vs, L1, r, o3, hst, rfl, rfl⟩ N hN u
    have out : ∀ {I : Imm} {o4 : Obj} {r' : Eye} {L : Own}, I3.Le I → EyeAt I o4 r' → r'.Le r → L = L1 ++ [(b, o4)] → (Fin fun e I' L' => ∃ v o', e = .returned v ∧ L' = [(b, o')] ∧ BlockPost deep p v I' o') (.returned x5) I L := by
      intro I o4 r' L hle2 ho4 hr4 e
      subst e
      refine fin_mutZ L1 (r := [(b, o4)]) fun J hJ hz => ?_
      obtain ⟨A, c, e, hr, hc⟩ := osl_rsl hst.s hz
      exact ⟨l, A, c, r', vs, e, (hst.r.up (hle2.trans hJ)), hr, hc, hst.w, fun hs => hst.g fun h => hs (hr4.s h), hst.n, ho4.up hJ, hr4.trans hst.le⟩
    unfold B17_1
    refine cal_ro (L1 := [(b, o3)]) (eyes_stop hst.o) (not_ ?_)
    by_cases hs : ¬ r.stop
    · (repeat with_reducible first | refine StG.h ?_ | refine StY.h ‹_› ?_ | refine StN.h ‹_› ?_ | refine StW.h ?_ | refine ld_ ?_ | refine lda_ ?_)
      refine cal_mut (eyes_take hst.o _) fun v I4 o4 hI4 ⟨hv, ho4⟩ => ?_
      subst hv
      cases htk : r.takes [125]
      · have e4 : r.take [125] = r := if_neg (by simpa [Eye.takes] using htk)
        rw [e4] at ho4
        (repeat with_reducible first | refine StG.h ?_ | refine StY.h ‹_› ?_ | refine StN.h ‹_› ?_ | refine StW.h ?_ | refine ld_ ?_ | refine lda_ ?_)
        obtain ⟨A, c, rfl⟩ := osl_slice hst.s
        refine vlen_ ?_
        refine geq_ (cnd_ (fun hge => ?_) (fun hge => ?_))
        · refine cal_ro (L1 := [(b, o4)]) (eyes_place ho4) ?_
          refine cal_mut (eyes_wrong ho4 4 _) fun v I5 o5 hI5 ⟨hv, ho5⟩ => ?_
          exact out17_1x0 (join17_2 (out (hI4.trans hI5) ho5 (r.bad_le _ _ (by decide)) rfl))
        · have hrm := hst.le.meas
          have hn16 := hst.n
          refine cal_mut (item_mut r.meas (fun m hm' => ih m (by omega)) I4 b o4 r deep (hM3.up hI4) ho4 (hst.le.ok hok) hs hd0 (hst.d.resolve_left hs) (Nat.le_refl _)) fun v I5 o5 hI5 ⟨x, q5, vs5, hv, hx, hwf, hwg, hq5, hle5, hlt5⟩ => ?_
          subst hv
          have hxl := hx.length
          have hpl := hx.plain
          refine bslf_ (cells := vs5.toArray) (by
            obtain ⟨a, b, c, d, e, f, g, h, i, j, k, l, m, rfl, _⟩ := hx.cells
            kernel_rfl) fun b2 J hJ hr2 => ?_
          refine app_ hst.s (m := 1) (.imm hr2) (by simpa using hxl) (by simpa using hpl) (fun v' L1' ho' _ => ?_) (by omega) (by omega)
          refine hN q5.meas hlt5 ⟨(hM3.up hI4).up (hI5.trans hJ), l ++ [x], vs ++ vs5, L1', q5, o5, ⟨by simpa using ho', ?_, ?_, ?_, by simp; omega, hq5.up hJ, hle5.trans hst.le, .inr (hst.d.resolve_left hs)⟩, rfl, rfl⟩
          · refine ItsR.append (hst.r.up (hI4.trans (hI5.trans hJ))) ?_
            simp only [ItsR]
            exact ⟨vs5, [], by simp, hx.up hJ, rfl⟩
          · intro y hy
            rcases List.mem_append.1 hy with hy | hy
            · exact hst.w y hy
            · rw [List.mem_singleton] at hy
              subst hy
              exact hwf
          · intro hs5 y hy
            rcases List.mem_append.1 hy with hy | hy
            · exact hst.g hs y hy
            · rw [List.mem_singleton] at hy
              subst hy
              exact hwg hs5
      · (repeat with_reducible first | refine StG.h ?_ | refine StY.h ‹_› ?_ | refine StN.h ‹_› ?_ | refine StW.h ?_ | refine ld_ ?_ | refine lda_ ?_)
        exact out17_1x0 (join17_2 (out hI4 ho4 (r.take_le _) rfl))
    · (repeat with_reducible first | refine StG.h ?_ | refine StY.h ‹_› ?_ | refine StN.h ‹_› ?_ | refine StW.h ?_ | refine ld_ ?_ | refine lda_ ?_)
      exact out17_1x0 (join17_2 (out (.refl _) hst.o (.refl r) rfl))
  have hmust : ∀ q : Eye, q.text ≠ [123] → (q.must [123]).stop := fun q h => by
    have h1 : q.takes [123] = false := decide_eq_false h
    have e : q.must [123] = (q.take [123]).bad 3 (q.take [123]).place := if_neg (by simp [h1])
    rw [e]
    exact Eye.bad_stop _ _ _ (by decide)
  refine cal_ro (eyes_text hp) (seq_ ?_)
  by_cases ht : p.text = [123]
  · (repeat with_reducible first | refine StG.h ?_ | refine StY.h ‹_› ?_ | refine StN.h ‹_› ?_ | refine StW.h ?_ | refine ld_ ?_ | refine lda_ ?_)
    refine cnd_ (fun hg => ?_) (fun hg => ?_)
    · refine cal_ro (eyes_place hp) ?_
      refine cal_mut (eyes_wrong hp 4 _) fun v I2 o2 hI2 ⟨hv, ho2⟩ => ?_
      exact join17_0 (j0 (hM.up hI2) ho2 (p.bad_le _ _ (by decide)) (.inl ((Eye.must_le _ _).s (p.bad_stop _ _ (by decide)))))
    · exact join17_0 (j0 hM hp (.refl p) (.inr (by omega)))
  · (repeat with_reducible first | refine StG.h ?_ | refine StY.h ‹_› ?_ | refine StN.h ‹_› ?_ | refine StW.h ?_ | refine ld_ ?_ | refine lda_ ?_)
    exact join17_0 (j0 hM hp (.refl p) (.inl (hmust p ht)))
end Go.Proofs.YtkclodaplbalfaaDoor
