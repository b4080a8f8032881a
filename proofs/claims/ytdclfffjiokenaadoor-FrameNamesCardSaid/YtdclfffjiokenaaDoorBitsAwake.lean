/- The examples that each statement of chapter 1 asks. -/
import Derived.Test.YtdclfffjiokenaaDoorBitsTwo
import Derived.Test.YtdclfffjiokenaaDoorBitsRead
namespace Go.Proofs.YtdclfffjiokenaaDoor
open Go.RowKit
set_option linter.unusedVariables false

theorem bytes_toList (s : ByteArray) : s.toList = s.data.toList := by
  obtain ⟨⟨l⟩⟩ := s
  show (⟨l.toArray⟩ : ByteArray).toList = l
  simp
theorem ret_bool {a b : Bool} (h : a = b) : Ending.returned (.bool a) = .returned (.bool b) := by rw [h]
theorem vb300 : Var.vb 300 = [172, 2] := by rw [Var.vb_ge (by decide), Var.vb_lt (by decide)]; decide
theorem u64_nat {a : Int} (h : (Lit.int .u64 a).wf = true) : ∃ n : Nat, a = n ∧ n < 18446744073709551616 := by
  have h' : 0 ≤ a ∧ a < 18446744073709551616 := by
    simp [Lit.wf, IntKind.min, IntKind.max, IntKind.signed, IntKind.bits] at h
    omega
  exact ⟨a.toNat, by omega, by omega⟩
theorem u8_nat {a : Int} (h : (Lit.int .u8 a).wf = true) : ∃ n : Nat, a = n ∧ n < 256 := by
  have h' : 0 ≤ a ∧ a < 256 := by
    simp [Lit.wf, IntKind.min, IntKind.max, IntKind.signed, IntKind.bits] at h
    omega
  exact ⟨a.toNat, by omega, by omega⟩
theorem i64_int {a : Int} (h : (Lit.int .i64 a).wf = true) : -9223372036854775808 ≤ a ∧ a ≤ 9223372036854775807 := by
  simp [Lit.wf, IntKind.min, IntKind.max, IntKind.signed, IntKind.bits] at h
  omega
def B (l : List UInt8) : ByteArray := ⟨l.toArray⟩
theorem B_list (l : List UInt8) : (B l).data.toList = l := by simp [B]
theorem B_size (l : List UInt8) : (B l).size = l.length := by simp [B, ByteArray.size]
theorem B_append (l m : List UInt8) : B l ++ B m = B (l ++ m) := by
  simp [B, ByteArray.ext_iff]
end Go.Proofs.YtdclfffjiokenaaDoor
