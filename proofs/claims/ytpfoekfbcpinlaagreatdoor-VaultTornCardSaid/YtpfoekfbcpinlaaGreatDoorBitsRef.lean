/- The walks of the reference of chapter 1. -/
import Derived.Test.YtpfoekfbcpinlaaGreatDoorBitsAwake
import Derived.Deep.RegionWith
namespace Go.Proofs.YtpfoekfbcpinlaaGreatDoor
open Go.RowKit
set_option linter.unusedVariables false

/-- A new row of one byte is that text. -/
theorem one_text (w : World) (b : UInt8) : (convert 109 9 (.slice (some ⟨w.heap.size, 0, none⟩) 1 1)).run Tryz.prog (w.alloc (.cells #[.int .u8 (b.toNat : Int)] 5 (0, 0))) = .ok (.string ⟨#[b]⟩) (w.alloc (.cells #[.int .u8 (b.toNat : Int)] 5 (0, 0))) := by
  rw [run_convert_bytes_arg _ 109 5 Tryz.underlying109 Tryz.underlying5 w.heap.size 0 1 1 [(b.toNat : Int)] rfl (fun i hi => by
    have hi : i < 1 := by simpa using hi
    obtain rfl : i = 0 := by omega
    simp) 9 Tryz.underlying9]
  rw [show [(b.toNat : Int)] = ([b].map fun b => (b.toNat : Int)) from rfl, str_of_nums]
theorem one_text_drew (w : World) (b : UInt8) : (convert 109 9 (.slice (some ⟨w.heap.size, 0, none⟩) 1 1)).run Tryz.prog (w.alloc (.cells #[.int .u8 (b.toNat : Int)] 5 (0, 0))).drew = .ok (.string ⟨#[b]⟩) (w.alloc (.cells #[.int .u8 (b.toNat : Int)] 5 (0, 0))).drew := one_text w.drew b
theorem one_text_kept {w w1 : World} (b : UInt8) (hb : Below (w.alloc (.cells #[.int .u8 (b.toNat : Int)] 5 (0, 0))).heap.size (w.alloc (.cells #[.int .u8 (b.toNat : Int)] 5 (0, 0))) w1) : (convert 109 9 (.slice (some ⟨w.heap.size, 0, none⟩) 1 1)).run Tryz.prog w1 = .ok (.string ⟨#[b]⟩) w1 := by
  rw [run_convert_bytes_arg _ 109 5 Tryz.underlying109 Tryz.underlying5 w.heap.size 0 1 1 [(b.toNat : Int)] rfl (fun i hi => by
    have hi : i < 1 := by simpa using hi
    obtain rfl : i = 0 := by omega
    rw [hb.cell (p := ⟨w.heap.size, 0 + 0, none⟩) (by simp)]
    simp) 9 Tryz.underlying9]
  rw [show [(b.toNat : Int)] = ([b].map fun b => (b.toNat : Int)) from rfl, str_of_nums]
set_option maxRecDepth 20000 in
theorem refVarint_any (n : Nat) : ∀ (w : World), n < 18446744073709551616 →
    Calls Tryz.prog 107 #[.int .u64 n] w fun e w' => e = .returned (.string (B (Var.vb n))) ∧ Below w.heap.size w w' := by
  induction n using Nat.strongRecOn with
  | ind n ih =>
    intro w h
    by_cases h128 : n < 128
    · have HV : Kp (B (Var.vb n) = ⟨#[UInt8.ofNat n]⟩) := ⟨by rw [Var.vb_lt h128]; rfl⟩
      have hb : ((UInt8.ofNat n).toNat : Int) = n := by rw [Var.toNat_ofNat (by omega)]
      have hc := one_text w (UInt8.ofNat n)
      rw [hb] at hc
      clear ih hb
      go_enter Tryz.func107, Tryz.ntmps107
      go_wp2
      go_ret
      exact ⟨by rw [HV.out]; rfl, (Below.refl _ _).alloc (Nat.le_refl _) _⟩
    · have HV : B (Var.vb n) = ⟨#[UInt8.ofNat (n % 128 + 128)]⟩ ++ B (Var.vb (n / 128)) := by
        rw [Var.vb_ge (by omega), show (⟨#[UInt8.ofNat (n % 128 + 128)]⟩ : ByteArray) = B [UInt8.ofNat (n % 128 + 128)] from rfl, B_append]; rfl
      have hb : ((UInt8.ofNat (n % 128 + 128)).toNat : Int) = IntKind.u8.wrap (IntKind.u8.wrap ((n : Int).tmod 128) + 128) := by
        rw [Var.toNat_ofNat (by omega), IntKind.wrap_u8', IntKind.wrap_u8', Int.tmod_eq_emod_of_nonneg (by omega)]; omega
      have hc : ∀ w, _ := fun w => one_text w (UInt8.ofNat (n % 128 + 128))
      have hcd : ∀ w, _ := fun w => one_text_drew w (UInt8.ofNat (n % 128 + 128))
      have hk : ∀ w1, Below (w.alloc (.cells #[.int .u8 ((UInt8.ofNat (n % 128 + 128)).toNat : Int)] 5 (0, 0))).drew.heap.size (w.alloc (.cells #[.int .u8 ((UInt8.ofNat (n % 128 + 128)).toNat : Int)] 5 (0, 0))).drew w1 →
          (convert 109 9 (.slice (some ⟨w.heap.size, 0, none⟩) 1 1)).run Tryz.prog w1 = .ok (.string ⟨#[UInt8.ofNat (n % 128 + 128)]⟩) w1 := fun w1 => @one_text_kept w.drew w1 (UInt8.ofNat (n % 128 + 128))
      rw [hb] at hc hcd hk
      have IH : ∀ w, _ := fun w => ih (n / 128) (by omega) w (by omega)
      have hX : (B (Var.vb (n / 128))).size ≤ 10 := by rw [B_size]; exact Var.vb_len10 (by omega)
      have hC : (⟨#[UInt8.ofNat (n % 128 + 128)]⟩ : ByteArray).size = 1 := rfl
      generalize (⟨#[UInt8.ofNat (n % 128 + 128)]⟩ : ByteArray) = C at hc hcd hk HV hC
      generalize B (Var.vb (n / 128)) = X at IH hX HV
      have HK := Kp.mk hk
      have HV := Kp.mk HV
      have IH := Kp.mk IH
      have hw : Kp (IntKind.u64.wrap ((n : Int) / 128) = ((n / 128 : Nat) : Int)) := ⟨by rw [IntKind.wrap_u64]; omega⟩
      clear ih hb hk
      go_enter Tryz.func107, Tryz.ntmps107
      go_wp2_with fail
      go_region_with (go_at_call 107; go_loud (rw [hw.out]; refine (IH.out _).mono ?_; rintro e w1 ⟨rfl, hb1⟩; try have hc2 := HK.out _ hb1))
      all_goals (go_wp2; go_ret)
      · exact ⟨by rw [HV.out]; rfl, ((Below.refl _ _).alloc (Nat.le_refl _) _).drew.trans (hb1.mono (by simp))⟩
      · exact ⟨by rw [HV.out]; rfl, ((Below.refl _ _).alloc (Nat.le_refl _) _).drew.trans (hb1.mono (by simp))⟩
      · exact ⟨by rw [HV.out]; rfl, ((Below.refl _ _).drew.trans hb1).alloc (by have := hb1.size; simpa using this) _⟩
set_option maxRecDepth 20000 in
theorem refFixed_any (n0 size : Nat) (w : World) (h : n0 < 18446744073709551616) (hs : size ≤ 8) :
    Calls Tryz.prog 123 #[.int .u64 n0, .int .i64 size] w fun e w' => e = .returned (.string (B (Var.fb size n0))) ∧ Below w.heap.size w w' := by
  go_enter Tryz.func123, Tryz.ntmps123
  go_wp2
  go_loopw [0, 5, 6] (fun n s i wr => ∃ (l : List UInt8) (n' k : Nat), n' < 18446744073709551616 ∧ k ≤ size ∧ i = .int .i64 k ∧ n = .int .u64 n' ∧ s = .string (B l) ∧ l.length = k ∧ l ++ Var.fb (size - k) n' = Var.fb size n0 ∧ Below w.heap.size w wr) (fun _ _ i _ => size - (intOf i).toNat)
  case atStart => exact ⟨[], n0, 0, h, by omega, rfl, rfl, rfl, rfl, rfl, Below.refl _ _⟩
  case round =>
    obtain ⟨l, n', k, hn, hk, rfl, rfl, rfl, hlen, hval, hbel⟩ := hrel
    have HBel := Kp.mk hbel
    have HVal := Kp.mk hval
    clear hbel hval
    by_cases hlt : k < size
    · have hc := one_text wr (UInt8.ofNat (n' % 256))
      have HV : Kp (B l ++ ⟨#[UInt8.ofNat (n' % 256)]⟩ = B (l ++ [UInt8.ofNat (n' % 256)])) := ⟨by rw [← B_append]; rfl⟩
      have hb : ((UInt8.ofNat (n' % 256)).toNat : Int) = (n' : Int) % 256 := (u8_low n').symm
      rw [hb] at hc
      have HF : Kp (Var.fb (size - k) n' = UInt8.ofNat (n' % 256) :: Var.fb (size - (k + 1)) (n' / 256)) := ⟨by rw [show size - k = size - (k + 1) + 1 from by omega, Var.fb]⟩
      have hX : (B l).size = k := by rw [B_size]; exact hlen
      have hC : (⟨#[UInt8.ofNat (n' % 256)]⟩ : ByteArray).size = 1 := rfl
      generalize hCe : (⟨#[UInt8.ofNat (n' % 256)]⟩ : ByteArray) = C at hc HV hC
      clear hb hCe
      go_wp2
      go_roundw
      case rel => exact ⟨l ++ [UInt8.ofNat (n' % 256)], n' / 256, k + 1, by omega, by omega, by go_num, by go_num, by rw [HV.out], by simp [hlen], by rw [← HVal.out, HF.out]; simp, HBel.out.alloc HBel.out.size _⟩
      case measure => simp [intOf]; omega
    · obtain rfl : k = size := by omega
      have HL : Kp (l = Var.fb k n0) := ⟨by have := HVal.out; rw [Nat.sub_self] at this; simpa [Var.fb] using this⟩
      go_wp2
      go_ret
      exact ⟨by rw [HL.out]; rfl, HBel.out⟩
end Go.Proofs.YtpfoekfbcpinlaaGreatDoor
