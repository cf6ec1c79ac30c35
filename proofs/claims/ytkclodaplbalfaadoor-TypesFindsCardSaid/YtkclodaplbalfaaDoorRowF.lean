/- TypesFinds: of any text's templates, what is wrong first, and where, is the document's. Conditions: none (the card ties the one variable that is listed). -/
import Derived.Test.YtkclodaplbalfaaDoorRows
import Derived.Test.YtkclodaplbalfaaDoorCards
import Derived.Test.YtkclodaplbalfaaDoorTie
import Derived.Test.YtkclodaplbalfaaDoorFnd
import Derived.HandedShaped
import Derived.ProofKit
import Derived.ChangeSame
import Derived.ChangeVars
import Derived.JoinedOf
import Derived.LaidLaws
import Derived.LaidHandle
import Derived.SevenTiedAt
namespace Go.Proofs.YtkclodaplbalfaaDoor
open Go.ChangeShapes Go.WideShapes Go.ChangeAt Go.RowKit
open Go.ChangeMaps (open_string shut_string)
namespace Sl
open Go
/-- All that is there, for good. -/
def worldImm (W : World) : Imm := ⟨fun b => W.heap[b]?, W.os, W.tape, W.output⟩
theorem St.world (W : World) : St W (worldImm W) ([] ++ []) :=
  ⟨rfl, rfl, rfl, fun _ _ h => h, fun p hp => by simp at hp, by simp, fun p hp => by simp at hp⟩
/-- A call that hands back a bool: what was there stays. -/
theorem calls_of_ret {P : Program} {f : FuncId} {args : Array Value} {W : World} {Rv : Value → Imm → Own → Prop} (h : RetC P f args (worldImm W) [] Rv) :
    Calls P f args W fun e W' => (∃ v J L, e = .returned v ∧ Rv v J L) ∧ Below W.heap.size W W' :=
  (h [] W (St.world W)).mono fun e W' ⟨I', L', h1, h2, v, h3, h4⟩ => ⟨⟨v, I', L', h3, h4⟩, by
    have keep : ∀ b o, W.heap[b]? = some o → W'.heap[b]? = some o := fun b o hb => h2.imm b o (h1.mem b o hb)
    have keep2 : ∀ k, k < W.heap.size → W'.heap[k]? = W.heap[k]? := fun k hk => by
      rw [keep k W.heap[k] (by simp [hk])]
      simp [hk]
    refine ⟨h2.os.trans h1.os, h2.tape.trans h1.tape, h2.output.trans h1.output, ?_, keep2⟩
    rcases Nat.lt_or_ge W'.heap.size W.heap.size with hlt | hge
    · have := keep2 W'.heap.size hlt
      simp [hlt] at this
    · exact hge⟩
theorem rdAt_of_cell {W : World} {b : Nat} {v : Value} (h : W.cell? ⟨b, 0, none⟩ = some v) : RdAt (worldImm W) b 0 [v] := by
  simp only [World.cell?] at h
  split at h
  · rename_i c e fr hb
    refine ⟨c, e, fr, hb, ?_⟩
    have h0 : c[0]? = some v := by simpa using h
    have h1 : c.toList[0]? = some v := by simpa using h0
    rw [List.drop_zero]
    cases hc : c.toList with
    | nil => rw [hc] at h1; simp at h1
    | cons x l => rw [hc] at h1; simp at h1; simp [h1]
  · cases h
end Sl
open Sl
theorem Tryd.own : ownKnob Tryd.prog.godebug = none := by kernel_rfl
theorem MaxL_of {W : World} (h : W.ShapedOpen Tryd.prog) : MaxL (worldImm W) := by
  obtain ⟨m, hm⟩ := Tryd.laysM144.s1_3 W h
  exact ⟨m, rdAt_of_cell hm⟩
theorem Tryd.et : Tryd.prog.globalNamed "errors.errorType" = some 0 := by kernel_rfl
theorem Tryd.rt : (Tryd.prog.cutTypes.find? (·.1 == "internal/reflectlite.rtype")).map (·.2) = some 126 := by kernel_rfl
theorem Tryd.oneRow : ((List.range 175).filter fun t => Tryd.prog.rowNamed t [101, 114, 114, 111, 114]) = [32] := by kernel_rfl
theorem Tryd.tsize : Tryd.prog.types.size = 175 := by kernel_rfl
abbrev laidRows : List (String × DataW Unit) := [("errors.errorType", Rows.laid_errors_errorType)]
theorem ErrL_of {W : World} (h : laidMetH Tryd.prog laidRows W) : ErrL (worldImm W) := by
  have h' : laidMet Tryd.prog [] W ∧ handlesMet Tryd.prog laidRows W := h
  obtain ⟨name, u, ty, e1, e2, e3, e4, e5⟩ := h'.2 _ (List.mem_singleton.2 rfl)
  have en : name = [101, 114, 114, 111, 114] := (Option.some.inj e1).symm
  subst en
  obtain rfl := Option.some.inj (Tryd.rt.symm.trans e2)
  have hm : ty ∈ (List.range 175).filter fun t => Tryd.prog.rowNamed t [101, 114, 114, 111, 114] := List.mem_filter.2 ⟨List.mem_range.2 (by rw [← Tryd.tsize]; exact e3), e4⟩
  rw [Tryd.oneRow] at hm
  obtain rfl := List.mem_singleton.1 hm
  have hh : typeHandle Tryd.prog 32 = ptr 2 32 := by kernel_rfl
  rw [hh] at e5
  exact rdAt_of_cell (by simpa using World.var?_cell Tryd.et e5 0)
/-- A world that meets the condition. -/
noncomputable def laidWorld (os : Os) : World :=
  let w0 := World.holding Tryd.prog os ⟨#[], #[], []⟩
  { w0 with heap := w0.heap.modify 0 fun
      | .cells _ t frozen => .cells #[.iface 126 (.agg #[ptr 2 32])] t frozen
      | o => o }
theorem laidWorld_met (os : Os) (args : Array Value) : laidMetH Tryd.prog laidRows ((laidWorld os).forCall (fun _ _ => 0) ⟨#[], args, []⟩).memory :=
  laidMetH_of_parts (laidMet_nil _ _) (by kernel_rfl)
/-- A law's row, out of its contract, where the world is well shaped and more is known of it. -/
theorem handed_shaped_and {H : Type} {enc : TypeId × Value → H} {a : Assume} {C : Checked} {os : Os} {f : FuncId} {fn : Func} {s : ChangeSpec} {conds : List PathCond} {apart fresh handsOn again : Bool} {X : World → Array Value → Prop}
    (hX : ∀ (w w' : World) (args : Array Value), w.heap = w'.heap → X w args → X w' args)
    (own : ownKnob C.prog.godebug = none) (started : os.Started) (noInit : C.prog.inits.idxOf? f = none) (hfn : C.prog.funcs[f]? = some fn)
    (witness : ∃ (w : World) (tape : Tape) (i : Input), w.os = os ∧ (w.forCall tape i).Shaped C.prog ∧ i.vars = [] ∧ Input.okWide C.prog (w.forCall tape i) .any w.heap.size f i ∧
      ((s.pre enc C.prog fn conds apart (w.forCall tape i).memory i.args ∧ X (w.forCall tape i).memory i.args) ∧ sizedMet enc C.prog fn (OpenSpec.ofChange s) apart (w.forCall tape i).memory i.args) ∧ a.holds C.prog (lone (Frame.enter C.prog f i.args .normal) [] (w.forCall tape i)))
    (contract : ∀ (W : World) (base : Nat) (args : Array Value) (ds gs : List (DataW H)) (before : List MemPlace),
      (∀ (j : Nat) t v, fn.params[j]? = some t → args[j]? = some v → Value.okWide C.prog W .any base t v) →
      DataW.Whole enc C.prog fn.params.toList s.vars apart W args.toList ds gs before → X W args → W.ShapedOpen C.prog →
      Calls C.prog f args W fun e W' => ∃ v, e = .returned v ∧ s.post enc C.prog fn apart fresh handsOn again W args v W') :
    ReturnsInHanded a C os f .any (fun w args => (s.pre enc C.prog fn conds apart w args ∧ X w args) ∧ sizedMet enc C.prog fn (OpenSpec.ofChange s) apart w args) (s.post enc C.prog fn apart fresh handsOn again) := by
  refine returnsInHanded_of_calls own started noInit witness ?_
  intro w tape i _ hsh _ hok hpre hholds
  obtain ⟨_, _, _, fn', hfn', _, _, _, _, hval⟩ := hok
  have e : fn' = fn := Option.some.inj (hfn'.symm.trans hfn)
  subst e
  obtain ⟨⟨⟨ds, gs, before, hw, hc⟩, hx⟩, hz⟩ := hpre
  have hw' := DataW.Whole.of_heap (w' := w.forCall tape i) (by rfl) hw
  refine (contract (w.forCall tape i) w.heap.size i.args ds gs before hval hw' (hX _ _ _ (by rfl) hx) hsh).mono fun e W' ⟨v, he, hp⟩ => ?_
  subst he
  exact ChangeSpec.post_blind hp
set_option maxRecDepth 100000 in
theorem law_lifted (os : Os) (started : os.Started) (H : Type) (enc : TypeId × Value → H) :
    ReturnsInHanded {} Tryd.checked os 3 .any (fun w args => (Rows.typesFindsSpec.pre enc Tryd.prog Tryd.f3 [] false w args ∧ laidMetH Tryd.prog laidRows w) ∧ sizedMet enc Tryd.prog Tryd.f3 (OpenSpec.ofChange Rows.typesFindsSpec) false w args)
      (Rows.typesFindsSpec.post enc Tryd.prog Tryd.f3 false true false false) := by
  refine handed_shaped_and (C := Tryd.checked) (X := fun w _ => laidMetH Tryd.prog laidRows w) (fun _ _ _ hh h => h.of_heap hh) Tryd.own started (by kernel_rfl) Tryd.func3
    (ChangeSpec.witness_at (enc := enc) (C := Tryd.checked) (os := os) (X := fun w _ => laidMetH Tryd.prog laidRows w) false (laidWorld os) #[.string ⟨#[]⟩] 8 rfl (by kernel_rfl) (by kernel_rfl) (by kernel_rfl) (by kernel_rfl) (by kernel_rfl) (laidWorld_met os _)) ?_
  intro W base args ds gs before hval0 hW hL hsh
  have hval : ∀ (j : Nat) t v, Tryd.f3.params[j]? = some t → args[j]? = some v → Value.okWide Tryd.prog W .any base t v := hval0
  have hW' := hW
  obtain ⟨p, q, hA0, hV, rfl, hfz, hnd⟩ := hW
  have hA : DataW.TrodAll enc Tryd.prog W 0 (fun _ => true) true Tryd.f3.params.toList args.toList ds p := hA0
  rw [Tryd.params3] at hA hval
  obtain ⟨v0, d0, rfl, rfl, h0⟩ := trodAll_one hA
  obtain ⟨rfl, rfl⟩ := trodVars_none hV
  obtain ⟨s, rfl, rfl, rfl, ws⟩ := open_string Tryd.underlying9 (hval 0 9 v0 rfl rfl) h0
  clear hA0 hval0
  simp only [List.append_nil] at hW'
  have hsh' : W.ShapedOpen Tryd.prog := hsh
  obtain ⟨⟨sl⟩⟩ := s
  refine (calls_of_ret (finds_ret (MaxL_of hsh') (ErrL_of hL) sl)).mono fun e W' ⟨⟨v, J, L, he, hv, _⟩, hb⟩ => ?_
  subst he hv
  exact ⟨_, rfl, _, _, _, [], [], [], hW', trodAll_mk1 (shut_bool Tryd.underlying4 _), trodAll_mk1 (shut_string Tryd.underlying9 ws), rfl, hb.frame _, fun h => by cases h⟩
theorem typesFinds_row : Rows.TypesFindsSaid :=
  OpenClaim.holds_of_wide 3 Tryd.f3 rfl rfl rfl rfl rfl rfl rfl ⟨rfl, rfl, rfl, rfl, rfl⟩ rfl rfl rfl rfl rfl (by kernel_rfl) Tryd.func3 (by kernel_rfl)
    (of_decide_eq_true (by kernel_rfl)) (by unfold Func.isWrapper; first | (rw [if_pos (by decide +kernel)]; kernel_rfl) | (rw [if_neg (by decide +kernel)]; exact ⟨rfl, rfl⟩))
    (fun os started H enc _ => law_lifted os started H enc)
theorem typesFinds_card : Rows.TypesFindsCardSaid :=
  Claim7.holds_tied_plain_at .later [] [.handle] true (true, "86066062c16b2f111d35d08e063edb240f1cf6d83ef6077ee9563094d173628f") true
    typesFinds_row (fun _ h => by cases h) (by kernel_rfl) (fun _ h => by cases h) typesFinds_row_tie rfl ⟨rfl, rfl⟩ (by kernel_rfl) rfl
    (fun f fn hf hfn => by
      obtain rfl : f = 3 := Option.some.inj ((show Tryd.prog.funcNamed "escritoire/escritoirelaw.TypesFinds" = some 3 by kernel_rfl).symm.trans hf) |>.symm
      obtain rfl : fn = Tryd.f3 := (Option.some.inj (Tryd.func3.symm.trans hfn)).symm
      exact ⟨by kernel_rfl, fun j t ht => by
        rw [Tryd.params3] at ht
        have h3 : t = 9 := by
          rcases j with _ | j
          · simpa using ht.symm
          · simp at ht
        subst h3
        exact (show Tryd.prog.wantsStandIn 9 = false by kernel_rfl)⟩)
    (by kernel_rfl)
end Go.Proofs.YtkclodaplbalfaaDoor
