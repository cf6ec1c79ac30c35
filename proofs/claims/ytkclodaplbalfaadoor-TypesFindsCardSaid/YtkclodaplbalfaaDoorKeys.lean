/- Keys of maps. Conditions: none. -/
import Derived.Test.YtkclodaplbalfaaDoorTmpl
set_option linter.unusedVariables false
set_option linter.unusedSimpArgs false
set_option maxRecDepth 100000
namespace Go.Proofs.YtkclodaplbalfaaDoor
open Go Sl
theorem beq_S (a b : List UInt8) : ((⟨a.toArray⟩ : ByteArray) == ⟨b.toArray⟩) = decide (a = b) := by
  show (a.toArray == b.toArray) = _
  rw [Bool.eq_iff_iff]
  simp
theorem sameBits_S (a : List UInt8) : Instr.sameBits 10000 (S a) (S a) = true := by simp [Instr.sameBits, beq_S]
theorem sameBits_i (q : IntKind) (a : Int) : Instr.sameBits 10000 (.int q a) (.int q a) = true := by simp [Instr.sameBits]
instance : KeyT Tryd.prog 9 (List UInt8) (fun a => S a) := ⟨⟨.string, by kernel_rfl, fun a b => by simp [Instr.sameNow, beq_S], rfl, sameBits_S⟩⟩
instance : KeyT Tryd.prog 3 Int (fun a => i64 a) := ⟨⟨.int .i64, by kernel_rfl, fun a b => by
  have : (a == b) = decide (a = b) := by by_cases h : a = b <;> simp [h]
  simp [Instr.sameNow, this], rfl, sameBits_i _⟩⟩
instance : KeyT Tryd.prog 5 Int (fun a => u8 a) := ⟨⟨.int .u8, by kernel_rfl, fun a b => by
  have : (a == b) = decide (a = b) := by by_cases h : a = b <;> simp [h]
  simp [Instr.sameNow, this], rfl, sameBits_i _⟩⟩
end Go.Proofs.YtkclodaplbalfaaDoor
