/- TypesOrders: of any text's templates that are right, the order of rules is the document's, in every block. Conditions: none. -/
import Derived.Test.YtkclodaplbalfaaRows
import Derived.Test.YtkclodaplbalfaaLaw
import Derived.HandedShaped
import Derived.ProofKit
namespace Go.Proofs.Ytkclodaplbalfaa
open Go.ChangeShapes Go.WideShapes Go.ChangeAt Go.RowKit
open Go.ChangeMaps (open_string shut_string)
namespace Sl
open Go
/-- All that is there, for good. -/
def worldImm (W : World) : Imm := ⟨fun b => W.heap[b]?, W.os, W.tape, W.output⟩
theorem St.world (W : World) : St W (worldImm W) ([] ++ []) :=
  ⟨rfl, rfl, rfl, fun _ _ h => h, fun p hp => by simp at hp, by simp, fun p hp => by simp at hp⟩
/-- A call that hands back a bool: what was there stays. -/
theorem calls_of_ret {P : Program} {f : FuncId} {args : Array Value} {W : World} {Rv : Value → Imm → Own → Prop} (h : RetC P f args (worldImm W) [] Rv) :
    Calls P f args W fun e W' => (∃ v J L, e = .returned v ∧ Rv v J L) ∧ Below W.heap.size W W' :=
  (h [] W (St.world W)).mono fun e W' ⟨I', L', h1, h2, v, h3, h4⟩ => ⟨⟨v, I', L', h3, h4⟩, by
    have keep : ∀ b o, W.heap[b]? = some o → W'.heap[b]? = some o := fun b o hb => h2.imm b o (h1.mem b o hb)
    have keep2 : ∀ k, k < W.heap.size → W'.heap[k]? = W.heap[k]? := fun k hk => by
      rw [keep k W.heap[k] (by simp [hk])]
      simp [hk]
    refine ⟨h2.os.trans h1.os, h2.tape.trans h1.tape, h2.output.trans h1.output, ?_, keep2⟩
    rcases Nat.lt_or_ge W'.heap.size W.heap.size with hlt | hge
    · have := keep2 W'.heap.size hlt
      simp [hlt] at this
    · exact hge⟩
end Sl
open Sl
theorem Try.own : ownKnob Try.prog.godebug = none := by kernel_rfl
theorem MaxL_of {W : World} (h : W.ShapedOpen Try.prog) : MaxL (worldImm W) := by
  obtain ⟨m, hm⟩ := Try.laysM144.s1_3 W h
  have hm' : W.cell? ⟨0, 0, none⟩ = some (.int .i64 m) := hm
  refine ⟨m, ?_⟩
  simp only [World.cell?] at hm'
  split at hm'
  · rename_i c e fr hb
    refine ⟨c, e, fr, hb, ?_⟩
    have h0 : c[0]? = some (i64 m) := by simpa using hm'
    have h1 : c.toList[0]? = some (i64 m) := by simpa using h0
    rw [List.drop_zero]
    cases hc : c.toList with
    | nil => rw [hc] at h1; simp at h1
    | cons x l => rw [hc] at h1; simp at h1; simp [h1]
  · cases hm'
set_option maxRecDepth 100000 in
theorem law_lifted (os : Os) (started : os.Started) (H : Type) (enc : TypeId × Value → H) :
    ReturnsInHanded {} Try.checked os 3 .any (Rows.typesOrdersSpec.pre6 enc Try.prog Try.f3 Rows.typesOrdersRow.domain false) (Rows.typesOrdersSpec.post enc Try.prog Try.f3 false true false false) := by
  refine returnsInHanded_of_change_shaped (C := Try.checked) Try.own started (by kernel_rfl) Try.func3
    (ChangeSpec.witness6 (enc := enc) (C := Try.checked) false ⟨#[], #[.string ⟨#[]⟩], []⟩ 8 (by kernel_rfl) (by kernel_rfl) (by kernel_rfl) (by kernel_rfl)) ?_
  intro W base args ds gs before hval0 hW _ _ hsh _
  have hval : ∀ (j : Nat) t v, Try.f3.params[j]? = some t → args[j]? = some v → Value.okWide Try.prog W .any base t v := hval0
  have hW' := hW
  obtain ⟨p, q, hA0, hV, rfl, hfz, hnd⟩ := hW
  have hA : DataW.TrodAll enc Try.prog W 0 (fun _ => true) true Try.f3.params.toList args.toList ds p := hA0
  rw [Try.params3] at hA hval
  obtain ⟨v0, d0, rfl, rfl, h0⟩ := trodAll_one hA
  obtain ⟨rfl, rfl⟩ := trodVars_none hV
  obtain ⟨s, rfl, rfl, rfl, ws⟩ := open_string Try.underlying9 (hval 0 9 v0 rfl rfl) h0
  clear hA0 hval0
  simp only [List.append_nil] at hW'
  have hsh' : W.ShapedOpen Try.prog := hsh
  obtain ⟨⟨sl⟩⟩ := s
  refine (calls_of_ret (law_ret (MaxL_of hsh') sl)).mono fun e W' ⟨⟨v, J, L, he, hv, _⟩, hb⟩ => ?_
  subst he hv
  exact ⟨_, rfl, _, _, _, [], [], [], hW', trodAll_mk1 (shut_bool Try.underlying4 _), trodAll_mk1 (shut_string Try.underlying9 ws), rfl, hb.frame _, fun h => by cases h⟩
theorem typesOrders_holds : Rows.TypesOrdersSaid :=
  OpenClaim.holds_of_wide 3 Try.f3 rfl rfl rfl rfl rfl rfl rfl ⟨rfl, rfl, rfl, rfl, rfl⟩ rfl rfl rfl rfl rfl (by kernel_rfl) Try.func3 (by kernel_rfl)
    (of_decide_eq_true (by kernel_rfl)) (by unfold Func.isWrapper; first | (rw [if_pos (by decide +kernel)]; kernel_rfl) | (rw [if_neg (by decide +kernel)]; exact ⟨rfl, rfl⟩))
    (fun os started H enc _ => law_lifted os started H enc)
end Go.Proofs.Ytkclodaplbalfaa
