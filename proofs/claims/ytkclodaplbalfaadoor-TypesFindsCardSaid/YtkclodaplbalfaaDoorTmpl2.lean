/- The reader of templates: items and blocks. Conditions: none. -/
import Derived.Test.YtkclodaplbalfaaDoorKeys
set_option linter.unusedVariables false
set_option linter.unusedSimpArgs false
set_option maxRecDepth 100000
namespace Go.Proofs.YtkclodaplbalfaaDoor
open Go Sl
variable {I : Imm} {b : Nat} {o : Obj} {p : Eye}
theorem eyes_bracket (h : EyeAt I o p) (hok : EyeOk p) : MutC Tryd.prog 44 #[ptr b 0] I b o (ExprPost p) := by
  refine .ofF (go44 ?_)
  unfold M44
  refine cal_mut (eyes_must h _) fun v I2 o2 hI2 ⟨hv, ho2⟩ => ?_
  refine cal_mut (expr_mut _ I2 b o2 _ 1 0 ho2 ((p.must_le _).ok hok) (.inr (by omega)) (by omega) (Nat.le_refl _)) fun v I3 o3 hI3 ⟨x, q, hx, hq, hle, hxn, hxk⟩ => ?_
  refine cal_mut (eyes_must hq _) fun v4 I4 o4 hI4 ⟨hv, ho4⟩ => ?_
  exact fin_mutF fun J hJ => ⟨x, _, hx.up (hI4.trans hJ), ho4.up hJ, (q.must_le _).trans (hle.trans (p.must_le _)), by
    have h1 := (q.must_le [93]).rem
    have h2 := (p.must_le [91]).rem
    omega, fun h => hxk fun hs => h ((q.must_le _).s hs)⟩
def ItemPost (deep : Int) (p : Eye) (v : Value) (I : Imm) (o : Obj) : Prop := ∃ x q vs, v = .agg vs.toArray ∧ ItR I x vs ∧ Wf (9 - deep).toNat x ∧ (¬ q.stop → WfG x) ∧ EyeAt I o q ∧ q.Le p ∧ q.meas < p.meas
/-- What is known of an item on its way. -/
structure ItPre (q : Eye) (kd : Int) (mn : Bool) (ct : Ex) (rl : Int) : Prop where
  k : kd ≠ 4
  n : ct.names.length ≤ 3000001
  g : ¬ q.stop → ItGood kd mn ct rl
theorem ItPre.le {q r : Eye} {k : Int} {mn : Bool} {ct : Ex} {rl : Int} (h : ItPre q k mn ct rl) (hle : r.Le q) : ItPre r k mn ct rl := ⟨h.k, h.n, fun hs => h.g fun hq => hs (hle.s hq)⟩
theorem ItPre.rule {q : Eye} {mn : Bool} {ct : Ex} {rl rl' : Int} (h : ItPre q 1 mn ct rl) (hm : mn = false) : ItPre q 1 mn ct rl' := ⟨h.k, h.n, fun hs => ⟨(h.g hs).k, (h.g hs).c, (h.g hs).m, (h.g hs).n, fun _ => ⟨rfl, hm⟩⟩⟩
def BlockPost (deep : Int) (p : Eye) (v : Value) (I : Imm) (o : Obj) : Prop := ∃ l : List It, ∃ A c q vs, v = .slice A l.length c ∧ ItsR I l vs ∧ RSl I A vs ∧ l.length ≤ c ∧ (∀ x ∈ l, Wf (9 - deep).toNat x) ∧ (¬ q.stop → ∀ x ∈ l, WfG x) ∧ l.length ≤ 16 ∧ EyeAt I o q ∧ q.Le p
def BlockC (n : Nat) : Prop := ∀ (I : Imm) (b : Nat) (o : Obj) (p : Eye) (deep : Int), MaxL I → EyeAt I o p → EyeOk p → 0 ≤ deep → deep ≤ 9 → p.meas ≤ n → MutC Tryd.prog 17 #[ptr b 0, i64 deep] I b o (BlockPost deep p)
theorem isNum_two {s : List UInt8} (h : IsNumB s = true) : 2 ≤ s.length := by
  match s with
  | [] => simp [IsNumB] at h
  | [c] =>
    exfalso
    have key : ∀ n : Fin 256, Lib.contains numsL ([32] ++ [UInt8.ofNat n.val] ++ [32]) = false := by decide +kernel
    have h1 := key ⟨c.toNat, c.toNat_lt⟩
    have e : UInt8.ofNat c.toNat = c := by simp
    simp only [e] at h1
    unfold IsNumB at h
    rw [h1] at h
    simp at h
  | a :: c :: s => simp only [List.length_cons]; omega
theorem width_ (a : Int) : ∃ w : Int, (mget (mput (mput (mput (mput ([] : List (Int × Value)) 56 (i64 1)) 49 (i64 2)) 51 (i64 4)) 54 (i64 8)) a).getD (i64 0) = i64 w := by
  have e : mput (mput (mput (mput ([] : List (Int × Value)) 56 (i64 1)) 49 (i64 2)) 51 (i64 4)) 54 (i64 8) = [(56, i64 1), (49, i64 2), (51, i64 4), (54, i64 8)] := by
    simp [mput]
  rw [e]
  unfold mget
  simp only [List.find?]
  by_cases h1 : a = 56
  · exact ⟨1, by simp [h1]⟩
  by_cases h2 : a = 49
  · exact ⟨2, by simp [h2]⟩
  by_cases h3 : a = 51
  · exact ⟨4, by simp [h3]⟩
  by_cases h4 : a = 54
  · exact ⟨8, by simp [h4]⟩
  exact ⟨0, by simp [h1, h2, h3, h4]⟩
theorem item_mut (n : Nat) (ih : ∀ m < n, BlockC m) : ∀ (I : Imm) (b : Nat) (o : Obj) (p : Eye) (deep : Int), MaxL I → EyeAt I o p → EyeOk p → ¬ p.stop → 0 ≤ deep → deep ≤ 8 → p.meas ≤ n → MutC Tryd.prog 30 #[ptr b 0, i64 deep] I b o (ItemPost deep p) := by
  intro I b o p deep hM hp hok hs hd0 hd hm
  have hpos := Eye.meas_pos hs
  have e9 : (8 - deep).toNat + 1 = (9 - deep).toNat := by omega
  have e8 : (9 - (deep + 1)).toNat = (8 - deep).toNat := by omega
  refine .ofF (go30 ?_)
  unfold M30
  refine al_ fun b4 => ?_
  refine cal_ro (eyes_place hp) ?_
  refine bld_ (v := .agg #[i64 0, i64 p.place, S [], S [], i64 0, i64 0, .bool false, .bool false, .pointer none, i64 0, S [], S [], .slice none 0 0]) (fun W => by kernel_rfl) ?_
  refine al_ fun b5 => ?_
  refine stoa_ ?_
  have tail : ∀ {I : Imm} {o : Obj} {q : Eye} {k a w od rl : Int} {nm ty f l : List UInt8} {sg mn : Bool} {cp : Value} {ct : Ex}, EyeAt I o q → q.Le p → q.meas < p.meas → ExR I ct cp → ItPre q k mn ct rl →
      cal Tryd.prog 15 #[ptr b 0, S [59]] I [(b5, .cells #[i64 k, i64 a, S nm, S ty, i64 w, i64 od, .bool sg, .bool mn, cp, i64 rl, S f, S l, .slice none 0 0] 70), (b4, .cells #[i64 0, i64 0, S [], S [], i64 0, i64 0, .bool false, .bool false, .pointer none, i64 0, S [], S [], .slice none 0 0] 70), (b, o)] (xR (Fin fun e I' L' => ∃ v o', e = .returned v ∧ L' = [(b, o')] ∧ ItemPost deep p v I' o')) fun _ I L =>
        ld Tryd.prog 70 (ptr b5 0) I L fun x I L => sto Tryd.prog 70 (ptr b4 0) x I L fun _ I L => rcl Tryd.prog 70 (ptr b4 0) I L fun r0 => (Fin fun e I' L' => ∃ v o', e = .returned v ∧ L' = [(b, o')] ∧ ItemPost deep p v I' o') (.returned r0) I L := by
    intro I o q k a w od rl nm ty f l sg mn cp ct hq hle hlt hct hk
    refine cal_mut (eyes_must hq _) fun v I2 o2 hI2 ⟨hv, ho2⟩ => ?_
    refine lda_ (vs := [i64 k, i64 a, S nm, S ty, i64 w, i64 od, .bool sg, .bool mn, cp, i64 rl, S f, S l, .slice none 0 0]) ?_ rfl rfl
    obtain ⟨ca, rfl⟩ := hct.ptr
    refine stoa_ ?_
    refine rcla_ (vs := [i64 k, i64 a, S nm, S ty, i64 w, i64 od, .bool sg, .bool mn, .pointer ca, i64 rl, S f, S l, .slice none 0 0]) ?_ rfl rfl
    have hml := (q.must_le [59]).meas
    refine fin_mutF fun J hJ => ⟨⟨k, a, nm, ty, w, od, sg, mn, ct, rl, f, l, []⟩, _, _, rfl, ?_, e9 ▸ .mk _ _ (fun e => absurd e hk.k) (by simp) (by simp) hk.n, fun hs => .mk _ (hk.g fun hq => hs ((q.must_le _).s hq)) (by simp), ho2.up hJ, (q.must_le _).trans hle, by omega⟩
    simp only [ItR]
    exact ⟨_, none, 0, [], rfl, hct.up (hI2.trans hJ), rfl, .inl rfl, Nat.le_refl _⟩
  have j4 : ∀ {zz : Env} {I : Imm} {o : Obj} {q : Eye} {k a w od rl : Int} {nm ty f l : List UInt8} {sg mn : Bool} {cp : Value} {ct : Ex}, EyeAt I o q → q.Le p → q.meas < p.meas → ExR I ct cp → ItPre q k mn ct rl →
      T30_4 (Fin fun e I' L' => ∃ v o', e = .returned v ∧ L' = [(b, o')] ∧ ItemPost deep p v I' o') zz (ptr b 0) (ptr b4 0) (ptr b5 0) I [(b5, .cells #[i64 k, i64 a, S nm, S ty, i64 w, i64 od, .bool sg, .bool mn, cp, i64 rl, S f, S l, .slice none 0 0] 70), (b4, .cells #[i64 0, i64 0, S [], S [], i64 0, i64 0, .bool false, .bool false, .pointer none, i64 0, S [], S [], .slice none 0 0] 70), (b, o)] := by
    intros
    rename_i I o q k a w od rl nm ty f l sg mn cp ct hq hle hlt hct hk
    unfold T30_4
    exact tail hq hle hlt hct hk
  have j2 : ∀ {zz : Env} {I : Imm} {o : Obj} {q : Eye} {k a w od rl : Int} {nm ty f l : List UInt8} {sg mn : Bool} {cp : Value} {ct : Ex}, MaxL I → EyeAt I o q → q.Le p → q.meas < p.meas → ExR I ct cp → ItPre q k mn ct rl →
      T30_2 (Fin fun e I' L' => ∃ v o', e = .returned v ∧ L' = [(b, o')] ∧ ItemPost deep p v I' o') zz (ptr b 0) (ptr b4 0) (ptr b5 0) I [(b5, .cells #[i64 k, i64 a, S nm, S ty, i64 w, i64 od, .bool sg, .bool mn, cp, i64 rl, S f, S l, .slice none 0 0] 70), (b4, .cells #[i64 0, i64 0, S [], S [], i64 0, i64 0, .bool false, .bool false, .pointer none, i64 0, S [], S [], .slice none 0 0] 70), (b, o)] := by
    intros
    rename_i I o q k a w od rl nm ty f l sg mn cp ct hM hq hle hlt hct hk
    unfold T30_2
    refine cal_mut (eyes_name hM hq (hle.ok hok)) fun v I2 o2 hI2 ⟨hv, ho2⟩ => ?_
    subst hv
    have hle2 := q.name_le.trans hle
    have hm2 := q.name_le.meas
    refine fad_ ?_
    refine sto_ ?_
    refine fad_ ?_
    refine ld_ ?_
    refine eqi_ (cnd_ (fun hr => ?_) (fun hr => ?_))
    · refine fad_ ?_
      refine ld_ ?_
      refine fad_ ?_
      refine sto_ ?_
      refine cal_ro (eyes_text ho2) ?_
      refine sne_ (cnd_ (fun ht => ?_) (fun ht => ?_))
      · refine cal_mut (eyes_name (hM.up hI2) ho2 (hle2.ok hok)) fun v I3 o3 hI3 ⟨hv, ho3⟩ => ?_
        subst hv
        refine fad_ ?_
        refine sto_ ?_
        have hm3 := q.name.name_le.meas
        exact join30_4 (j4 ho3 (q.name.name_le.trans hle2) (by omega) (hct.up (hI2.trans hI3)) (hk.le (q.name.name_le.trans q.name_le)))
      · exact join30_4 (j4 ho2 hle2 (by omega) (hct.up hI2) (hk.le q.name_le))
    · exact join30_4 (j4 ho2 hle2 (by omega) (hct.up hI2) (hk.le q.name_le))
  have j0 : ∀ {zz : Env} {I : Imm} {o : Obj} {q : Eye} {k a w od rl : Int} {nm ty f l : List UInt8} {sg mn : Bool} {cp : Value} {ct : Ex}, MaxL I → EyeAt I o q → q.Le p → q.meas < p.meas → ExR I ct cp → ItPre q k mn ct rl → mn = false → rl = 0 →
      T30_0 (Fin fun e I' L' => ∃ v o', e = .returned v ∧ L' = [(b, o')] ∧ ItemPost deep p v I' o') zz (ptr b 0) (ptr b4 0) (ptr b5 0) I [(b5, .cells #[i64 k, i64 a, S nm, S ty, i64 w, i64 od, .bool sg, .bool mn, cp, i64 rl, S f, S l, .slice none 0 0] 70), (b4, .cells #[i64 0, i64 0, S [], S [], i64 0, i64 0, .bool false, .bool false, .pointer none, i64 0, S [], S [], .slice none 0 0] 70), (b, o)] := by
    intros
    rename_i I o q k a w od rl nm ty f l sg mn cp ct hM hq hle hlt hct hk hmn hrl
    unfold T30_0
    refine fad_ ?_
    refine ld_ ?_
    refine nei_ ?_
    by_cases hk2 : k ≠ 2
    · (repeat with_reducible first | refine StG.h ?_ | refine StY.h ‹_› ?_ | refine StN.h ‹_› ?_ | refine StW.h ?_ | refine ld_ ?_ | refine lda_ ?_)
      refine cal_ro (eyes_text hq) ?_
      (repeat with_reducible first | refine StG.h ?_ | refine StY.h ‹_› ?_ | refine StN.h ‹_› ?_ | refine StW.h ?_ | refine ld_ ?_ | refine lda_ ?_)
      refine cnd_ (fun ht => ?_) (fun ht => ?_)
      · refine cal_mut (eyes_bracket hq (hle.ok hok)) fun v I2 o2 hI2 ⟨x, r, hx, hr, hrle, hxn, hxk⟩ => ?_
        obtain ⟨xa, rfl⟩ := hx.ptr
        have hm2 := hrle.meas
        have hqr := (hle.ok hok).rem
        refine fad_ ?_
        refine sto_ ?_
        refine fad_ ?_
        refine sto_ ?_
        exact tail hr (hrle.trans hle) (by omega) hx ⟨hk.k, by omega, fun hs => ⟨(hk.g fun h => hs (hrle.s h)).k, fun _ => hxk hs, fun h => h.elim (fun h => absurd h hk2) (fun h => absurd h hk.k), fun _ _ h => Bool.noConfusion h, fun h => absurd hrl h⟩⟩
      · refine fad_ ?_
        refine ld_ ?_
        refine eqi_ ?_
        by_cases hk1 : k = 1
        · (repeat with_reducible first | refine StG.h ?_ | refine StY.h ‹_› ?_ | refine StN.h ‹_› ?_ | refine StW.h ?_ | refine ld_ ?_ | refine lda_ ?_)
          refine cal_mut (eyes_take hq _) fun v I2 o2 hI2 ⟨hv, ho2⟩ => ?_
          subst hv
          have hle2 := (q.take_le [61]).trans hle
          have hm2 := (q.take_le [61]).meas
          (repeat with_reducible first | refine StG.h ?_ | refine StY.h ‹_› ?_ | refine StN.h ‹_› ?_ | refine StW.h ?_ | refine ld_ ?_ | refine lda_ ?_)
          refine cndb_ (fun _ => ?_) (fun _ => tail ho2 hle2 (by omega) (hct.up hI2) (hk.le (q.take_le _)))
          refine cal_ro (eyes_place ho2) ?_
          refine cal_mut (eyes_pass ho2) fun v I3 o3 hI3 ⟨hv, ho3⟩ => ?_
          subst hv
          have hM3 := (hM.up hI2).up hI3
          have hct3 := (hct.up hI2).up hI3
          have hle3 := (q.take [61]).pass_le.trans hle2
          have hm3 := (q.take [61]).pass_le.meas
          have hk3 : ∀ {rl' : Int}, ItPre (q.take [61]).pass k mn ct rl' := fun {rl'} => by
            subst hk1
            exact (hk.le ((q.take [61]).pass_le.trans (q.take_le _))).rule hmn
          refine seq_ (cnd_ (fun _ => ?_) (fun _ => ?_))
          · refine fad_ ?_
            refine sto_ ?_
            exact join30_2 (j2 hM3 ho3 hle3 (by omega) hct3 hk3)
          refine seq_ (cnd_ (fun _ => ?_) (fun _ => ?_))
          · refine fad_ ?_
            refine sto_ ?_
            exact join30_2 (j2 hM3 ho3 hle3 (by omega) hct3 hk3)
          refine seq_ (cnd_ (fun _ => ?_) (fun _ => ?_))
          · refine fad_ ?_
            refine sto_ ?_
            exact join30_2 (j2 hM3 ho3 hle3 (by omega) hct3 hk3)
          refine cal_mut (eyes_wrong ho3 3 _) fun v I4 o4 hI4 ⟨hv, ho4⟩ => ?_
          have hle4 := ((q.take [61]).pass.bad_le 3 (q.take [61]).place (by decide))
          have hm4 := hle4.meas
          exact join30_2 (j2 (hM3.up hI4) ho4 (hle4.trans hle3) (by omega) (hct3.up hI4) (hk3.le hle4))
        · (repeat with_reducible first | refine StG.h ?_ | refine StY.h ‹_› ?_ | refine StN.h ‹_› ?_ | refine StW.h ?_ | refine ld_ ?_ | refine lda_ ?_)
          exact tail hq hle (by omega) hct hk
    · (repeat with_reducible first | refine StG.h ?_ | refine StY.h ‹_› ?_ | refine StN.h ‹_› ?_)
      refine fad_ ?_
      refine ld_ ?_
      refine eqi_ ?_
      by_cases hk1 : k = 1
      · (repeat with_reducible first | refine StG.h ?_ | refine StY.h ‹_› ?_ | refine StN.h ‹_› ?_ | refine StW.h ?_ | refine ld_ ?_ | refine lda_ ?_)
        refine cal_mut (eyes_take hq _) fun v I2 o2 hI2 ⟨hv, ho2⟩ => ?_
        subst hv
        have hle2 := (q.take_le [61]).trans hle
        have hm2 := (q.take_le [61]).meas
        (repeat with_reducible first | refine StG.h ?_ | refine StY.h ‹_› ?_ | refine StN.h ‹_› ?_ | refine StW.h ?_ | refine ld_ ?_ | refine lda_ ?_)
        refine cndb_ (fun _ => ?_) (fun _ => tail ho2 hle2 (by omega) (hct.up hI2) (hk.le (q.take_le _)))
        refine cal_ro (eyes_place ho2) ?_
        refine cal_mut (eyes_pass ho2) fun v I3 o3 hI3 ⟨hv, ho3⟩ => ?_
        subst hv
        have hM3 := (hM.up hI2).up hI3
        have hct3 := (hct.up hI2).up hI3
        have hle3 := (q.take [61]).pass_le.trans hle2
        have hm3 := (q.take [61]).pass_le.meas
        have hk3 : ∀ {rl' : Int}, ItPre (q.take [61]).pass k mn ct rl' := fun {rl'} => by
          subst hk1
          exact (hk.le ((q.take [61]).pass_le.trans (q.take_le _))).rule hmn
        refine seq_ (cnd_ (fun _ => ?_) (fun _ => ?_))
        · refine fad_ ?_
          refine sto_ ?_
          exact join30_2 (j2 hM3 ho3 hle3 (by omega) hct3 hk3)
        refine seq_ (cnd_ (fun _ => ?_) (fun _ => ?_))
        · refine fad_ ?_
          refine sto_ ?_
          exact join30_2 (j2 hM3 ho3 hle3 (by omega) hct3 hk3)
        refine seq_ (cnd_ (fun _ => ?_) (fun _ => ?_))
        · refine fad_ ?_
          refine sto_ ?_
          exact join30_2 (j2 hM3 ho3 hle3 (by omega) hct3 hk3)
        refine cal_mut (eyes_wrong ho3 3 _) fun v I4 o4 hI4 ⟨hv, ho4⟩ => ?_
        have hle4 := ((q.take [61]).pass.bad_le 3 (q.take [61]).place (by decide))
        have hm4 := hle4.meas
        exact join30_2 (j2 (hM3.up hI4) ho4 (hle4.trans hle3) (by omega) (hct3.up hI4) (hk3.le hle4))
      · (repeat with_reducible first | refine StG.h ?_ | refine StY.h ‹_› ?_ | refine StN.h ‹_› ?_ | refine StW.h ?_ | refine ld_ ?_ | refine lda_ ?_)
        exact tail hq hle (by omega) hct hk
  have hitl := hok.text
  refine cal_ro (eyes_text hp) ?_
  refine seq_ (cnd_ (fun ht => ?_) (fun ht => ?_))
  · -- when
    have hlt := p.pass_lt (by rw [ht]; simp)
    refine cal_mut (eyes_pass hp) fun v I2 o2 hI2 ⟨hv, ho2⟩ => ?_
    refine cal_mut (expr_mut _ I2 b o2 _ 1 0 ho2 (p.pass_le.ok hok) (.inr (by omega)) (by omega) (Nat.le_refl _)) fun v I3 o3 hI3 ⟨x, q, hx, hq, hle, hxn, hxk⟩ => ?_
    obtain ⟨xa, rfl⟩ := hx.ptr
    refine fad_ ?_
    refine sto_ ?_
    refine fad_ ?_
    refine sto_ ?_
    refine add64 ?_
    have hle' := hle.trans p.pass_le
    have hm3 := hle.meas
    refine cal_mut (ih q.meas (by omega) I3 b o3 q (deep + 1) (hM.up (hI2.trans hI3)) hq (hle'.ok hok) (by omega) (by omega) (Nat.le_refl _)) fun v I4 o4 hI4 ⟨l, A, c, r, vs, hv, hl, hA, hc, hw, hwg, hn16, hr, hrle⟩ => ?_
    have hqr := (p.pass_le.ok hok).rem
    subst hv
    refine fad_ ?_
    refine sto_ ?_
    refine lda_ (vs := [i64 4, i64 p.place, S [], S [], i64 0, i64 0, .bool false, .bool false, .pointer xa, i64 0, S [], S [], .slice A l.length c]) ?_ rfl rfl
    refine stoa_ ?_
    refine rcla_ (vs := [i64 4, i64 p.place, S [], S [], i64 0, i64 0, .bool false, .bool false, .pointer xa, i64 0, S [], S [], .slice A l.length c]) ?_ rfl rfl
    have hm4 := hrle.meas
    refine fin_mutF fun J hJ => ⟨⟨4, p.place, [], [], 0, 0, false, false, x, 0, [], [], l⟩, _, _, rfl, ?_, e9 ▸ .mk _ _ (fun _ => rfl) (e8 ▸ hw) hn16 (by show x.names.length ≤ _; omega), fun hs => .mk _ ⟨by simp, fun _ => hxk fun h => hs (hrle.s h), fun _ => rfl, fun _ h => absurd rfl h, fun h => absurd rfl h⟩ (hwg hs), hr.up hJ, hrle.trans hle', by omega⟩
    simp only [ItR]
    exact ⟨_, A, c, vs, rfl, hx.up (hI4.trans hJ), hl.up hJ, hA.up hJ, hc⟩
  refine seq_ (cnd_ (fun ht => ?_) (fun ht => ?_))
  · -- bytes
    have hlt := p.pass_lt (by rw [ht]; simp)
    refine cal_mut (eyes_pass hp) fun v I2 o2 hI2 ⟨hv, ho2⟩ => ?_
    refine cal_mut (eyes_name (hM.up hI2) ho2 (p.pass_le.ok hok)) fun v I3 o3 hI3 ⟨hv, ho3⟩ => ?_
    subst hv
    refine fad_ ?_
    refine sto_ ?_
    refine fad_ ?_
    refine sto_ ?_
    have hle := p.pass.name_le.trans p.pass_le
    have hm2 := p.pass.name_le.meas
    refine cal_mut (eyes_bracket ho3 (hle.ok hok)) fun v I4 o4 hI4 ⟨x, r, hx, hr, hrle, hxn, hxk⟩ => ?_
    have hqr := (hle.ok hok).rem
    obtain ⟨xa, rfl⟩ := hx.ptr
    have hm3 := hrle.meas
    refine fad_ ?_
    refine sto_ ?_
    exact join30_0 (j0 (hM.up (hI2.trans (hI3.trans hI4))) hr (hrle.trans hle) (by omega) hx ⟨by decide, by omega, fun hs => ⟨by simp, fun _ => hxk hs, fun _ => rfl, fun h => absurd rfl h, fun h => absurd rfl h⟩⟩ rfl rfl)
  refine cal_ro (L1 := []) (isNum_ro hM _ hitl) (cndb_ (fun hn => ?_) (fun hn => ?_))
  · -- a number
    have h2 := isNum_two hn
    have hlt := p.pass_lt (fun e => by rw [e] at h2; simp at h2)
    refine cal_mut (eyes_pass hp) fun v I2 o2 hI2 ⟨hv, ho2⟩ => ?_
    refine draw30_1 (C := fun _ _ => True) trivial ?_
    unfold G30_1
    refine qS_of (fun I L _ => rd_sidx (by omega) (by omega)) ?_
    refine qS_of (fun I L _ => rd_eqi) ?_
    refine qS_of (fun I L _ => rd_fad) ?_
    refine sto_ ?_
    refine ⟨trivial, ?_⟩
    refine qS_of (fun I L _ => rd_fad) ?_
    refine sto_ ?_
    refine join30_3 ?_
    unfold T30_3
    refine mkm_ (K := fun a : Int => u8 a) fun bm om hm => ?_
    refine mup_ (a := (56 : Int)) hm fun om hm => ?_
    refine mup_ (a := (49 : Int)) hm fun om hm => ?_
    refine mup_ (a := (51 : Int)) hm fun om hm => ?_
    refine mup_ (a := (54 : Int)) hm fun om hm => ?_
    refine sidx_ ?_ (by omega) (by omega)
    refine lkp_ hm ?_
    obtain ⟨w, hw⟩ := width_ (((p.text.getD (1 : Int).toNat 0).toNat : Int))
    rw [hw]
    refine wpS.forget [(bm, om)] ?_
    refine fad_ ?_
    refine sto_ ?_
    refine cal_pure (hasSuffix_pure _ _ (by omega)) ?_
    refine cal_pure (one_pure _) ?_
    refine fad_ ?_
    refine sto_ ?_
    refine cal_mut (eyes_name (hM.up hI2) ho2 (p.pass_le.ok hok)) fun v I3 o3 hI3 ⟨hv, ho3⟩ => ?_
    subst hv
    have hm2 := p.pass.name_le.meas
    refine fad_ ?_
    refine sto_ ?_
    exact join30_0 (j0 (ct := .nil) (hM.up (hI2.trans hI3)) ho3 (p.pass.name_le.trans p.pass_le) (by omega) rfl ⟨by decide, by simp [Ex.names], fun hs => ⟨by simp, by simp, by simp, fun _ _ _ => rfl, by simp⟩⟩ rfl rfl)
  · -- a struct
    refine cal_mut (eyes_name hM hp hok) fun v I2 o2 hI2 ⟨hv, ho2⟩ => ?_
    subst hv
    have hlt := p.name_lt hs
    refine fad_ ?_
    refine sto_ ?_
    refine fad_ ?_
    refine sto_ ?_
    refine cal_mut (eyes_name (hM.up hI2) ho2 (p.name_le.ok hok)) fun v I3 o3 hI3 ⟨hv, ho3⟩ => ?_
    subst hv
    have hm2 := p.name.name_le.meas
    refine fad_ ?_
    refine sto_ ?_
    exact join30_0 (j0 (ct := .nil) (hM.up (hI2.trans hI3)) ho3 (p.name.name_le.trans p.name_le) (by omega) rfl ⟨by decide, by simp [Ex.names], fun hs => ⟨by simp, by simp, by simp, fun _ _ _ => rfl, by simp⟩⟩ rfl rfl)
end Go.Proofs.YtkclodaplbalfaaDoor
