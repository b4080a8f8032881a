/- The walks of the reference of chapter 1. -/
import Derived.Test.YtdclfffjiokenaaDoorBitsAwake
import Derived.Deep.RegionWith
namespace Go.Proofs.YtdclfffjiokenaaDoor
open Go.RowKit
set_option linter.unusedVariables false

/-- A new row of one byte is that text. -/
theorem one_text (w : World) (b : UInt8) : (convert 39 9 (.slice (some ⟨w.heap.size, 0, none⟩) 1 1)).run Tryd.prog (w.alloc (.cells #[.int .u8 (b.toNat : Int)] 5 (0, 0))) = .ok (.string ⟨#[b]⟩) (w.alloc (.cells #[.int .u8 (b.toNat : Int)] 5 (0, 0))) := by
  rw [run_convert_bytes_arg _ 39 5 Tryd.underlying39 Tryd.underlying5 w.heap.size 0 1 1 [(b.toNat : Int)] rfl (fun i hi => by
    have hi : i < 1 := by simpa using hi
    obtain rfl : i = 0 := by omega
    simp) 9 Tryd.underlying9]
  rw [show [(b.toNat : Int)] = ([b].map fun b => (b.toNat : Int)) from rfl, str_of_nums]
theorem one_text_drew (w : World) (b : UInt8) : (convert 39 9 (.slice (some ⟨w.heap.size, 0, none⟩) 1 1)).run Tryd.prog (w.alloc (.cells #[.int .u8 (b.toNat : Int)] 5 (0, 0))).drew = .ok (.string ⟨#[b]⟩) (w.alloc (.cells #[.int .u8 (b.toNat : Int)] 5 (0, 0))).drew := one_text w.drew b
theorem one_text_kept {w w1 : World} (b : UInt8) (hb : Below (w.alloc (.cells #[.int .u8 (b.toNat : Int)] 5 (0, 0))).heap.size (w.alloc (.cells #[.int .u8 (b.toNat : Int)] 5 (0, 0))) w1) : (convert 39 9 (.slice (some ⟨w.heap.size, 0, none⟩) 1 1)).run Tryd.prog w1 = .ok (.string ⟨#[b]⟩) w1 := by
  rw [run_convert_bytes_arg _ 39 5 Tryd.underlying39 Tryd.underlying5 w.heap.size 0 1 1 [(b.toNat : Int)] rfl (fun i hi => by
    have hi : i < 1 := by simpa using hi
    obtain rfl : i = 0 := by omega
    rw [hb.cell (p := ⟨w.heap.size, 0 + 0, none⟩) (by simp)]
    simp) 9 Tryd.underlying9]
  rw [show [(b.toNat : Int)] = ([b].map fun b => (b.toNat : Int)) from rfl, str_of_nums]
set_option maxRecDepth 20000 in
theorem refFixed_any (n0 size : Nat) (w : World) (h : n0 < 18446744073709551616) (hs : size ≤ 8) :
    Calls Tryd.prog 38 #[.int .u64 n0, .int .i64 size] w fun e w' => e = .returned (.string (B (Var.fb size n0))) ∧ Below w.heap.size w w' := by
  go_enter Tryd.func38, Tryd.ntmps38
  go_wp2
  go_loopw [0, 5, 6] (fun n s i wr => ∃ (l : List UInt8) (n' k : Nat), n' < 18446744073709551616 ∧ k ≤ size ∧ i = .int .i64 k ∧ n = .int .u64 n' ∧ s = .string (B l) ∧ l.length = k ∧ l ++ Var.fb (size - k) n' = Var.fb size n0 ∧ Below w.heap.size w wr) (fun _ _ i _ => size - (intOf i).toNat)
  case atStart => exact ⟨[], n0, 0, h, by omega, rfl, rfl, rfl, rfl, rfl, Below.refl _ _⟩
  case round =>
    obtain ⟨l, n', k, hn, hk, rfl, rfl, rfl, hlen, hval, hbel⟩ := hrel
    have HBel := Kp.mk hbel
    have HVal := Kp.mk hval
    clear hbel hval
    by_cases hlt : k < size
    · have hc := one_text wr (UInt8.ofNat (n' % 256))
      have HV : Kp (B l ++ ⟨#[UInt8.ofNat (n' % 256)]⟩ = B (l ++ [UInt8.ofNat (n' % 256)])) := ⟨by rw [← B_append]; rfl⟩
      have hb : ((UInt8.ofNat (n' % 256)).toNat : Int) = (n' : Int) % 256 := (u8_low n').symm
      rw [hb] at hc
      have HF : Kp (Var.fb (size - k) n' = UInt8.ofNat (n' % 256) :: Var.fb (size - (k + 1)) (n' / 256)) := ⟨by rw [show size - k = size - (k + 1) + 1 from by omega, Var.fb]⟩
      have hX : (B l).size = k := by rw [B_size]; exact hlen
      have hC : (⟨#[UInt8.ofNat (n' % 256)]⟩ : ByteArray).size = 1 := rfl
      generalize hCe : (⟨#[UInt8.ofNat (n' % 256)]⟩ : ByteArray) = C at hc HV hC
      clear hb hCe
      go_wp2
      go_roundw
      case rel => exact ⟨l ++ [UInt8.ofNat (n' % 256)], n' / 256, k + 1, by omega, by omega, by go_num, by go_num, by rw [HV.out], by simp [hlen], by rw [← HVal.out, HF.out]; simp, HBel.out.alloc HBel.out.size _⟩
      case measure => simp [intOf]; omega
    · obtain rfl : k = size := by omega
      have HL : Kp (l = Var.fb k n0) := ⟨by have := HVal.out; rw [Nat.sub_self] at this; simpa [Var.fb] using this⟩
      go_wp2
      go_ret
      exact ⟨by rw [HL.out]; rfl, HBel.out⟩
end Go.Proofs.YtdclfffjiokenaaDoor
