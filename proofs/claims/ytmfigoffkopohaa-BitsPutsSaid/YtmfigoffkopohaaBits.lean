/- The walks of package bits, part 1: Len, Zig, Zag, PutUvarint. -/
import Derived.Test.YtmfigoffkopohaaBRow
import Derived.Test.YtmfigoffkopohaaVar
import Derived.Test.YtmfigoffkopohaaShelf
import Derived.WalkKit
import Derived.WalkLawsBesides
import Derived.WalkSpells
import Derived.Outline
import Derived.OwnWalk
import Derived.Lib.Hide
import Derived.LoopTactic
import Derived.Deep.LoopGhost
import Derived.Laws.BitsAllLaws
import Derived.Laws.Shifts
import Derived.Laws.ShiftsVarLaws
import Derived.Lib.Zigzag
namespace Go.Proofs.Ytmfigoffkopohaa
open Go.RowKit
set_option linter.unusedVariables false

theorem ret_k {k : IntKind} {a b : Int} (h : a = b) : Ending.returned (.int k a) = .returned (.int k b) := by rw [h]
theorem or_lt {n : Nat} (h : n < 18446744073709551616) : n ||| 1 < 18446744073709551616 := by rw [Var.or_one]; omega
theorem Len_any (n : Nat) (w : World) (h : n < 18446744073709551616) :
    Calls Try.prog 13 #[.int .u64 n] w fun e w' => e = .returned (.int .i64 ((Var.vb n).length : Nat)) ∧ w = w' := by
  have hl := or_lt h
  have HO : Kp (bits .or .u64 (n : Int) 1 = ((n ||| 1 : Nat) : Int)) := ⟨u64_or_nat n 1 h (by decide)⟩
  have HL : Kp ((Lib.bitLen (n ||| 1) + 6) / 7 = (Var.vb n).length) := ⟨Var.len_vb h⟩
  have hb : Lib.bitLen (n ||| 1) ≤ 64 := Lib.bitLen_le _ 64 (by decide) hl
  generalize n ||| 1 = m at *
  go_enter Try.func13, Try.ntmps13
  go_wp2_with fail
  rw [HO.out]
  refine (Try.bits_Len64 _ _ (by omega) (by omega)).mono ?_
  rw [Int.toNat_natCast]
  rintro e w' ⟨rfl, rfl⟩
  go_wp2
  go_ret
  exact ⟨ret_k (by rw [← HL.out]; omega), rfl⟩
theorem zig_val {n : Int} (h1 : -9223372036854775808 ≤ n) (h2 : n ≤ 9223372036854775807) : bits BinOp.xor IntKind.u64 (IntKind.u64.wrap (IntKind.u64.wrap n * 2)) (IntKind.u64.wrap (n / 9223372036854775808)) = ((Var.zig n : Nat) : Int) := by
  by_cases h : 0 ≤ n
  · have e1 : IntKind.u64.wrap (IntKind.u64.wrap n * 2) = ((n.toNat * 2 : Nat) : Int) := by rw [IntKind.wrap_u64, IntKind.wrap_u64]; omega
    have e2 : IntKind.u64.wrap (n / 9223372036854775808) = ((0 : Nat) : Int) := by rw [IntKind.wrap_u64]; omega
    rw [e1, e2, u64_xor_nat _ _ (by omega) (by decide), Nat.xor_zero, Var.zig, if_pos h]; omega
  · have e1 : IntKind.u64.wrap (IntKind.u64.wrap n * 2) = (((2 * n + 18446744073709551616).toNat : Nat) : Int) := by rw [IntKind.wrap_u64, IntKind.wrap_u64]; omega
    have e2 : IntKind.u64.wrap (n / 9223372036854775808) = ((2 ^ 64 - 1 : Nat) : Int) := by rw [IntKind.wrap_u64]; omega
    rw [e1, e2, u64_xor_nat _ _ (by omega) (by omega), Nat.xor_comm, Lib.xor_ones64 _ (by omega), Var.zig, if_neg h]; omega
theorem Zig_any (n : Int) (w : World) (h1 : -9223372036854775808 ≤ n) (h2 : n ≤ 9223372036854775807) :
    Calls Try.prog 16 #[.int .i64 n] w fun e w' => e = .returned (.int .u64 (Var.zig n : Nat)) ∧ w = w' := by
  go_enter Try.func16, Try.ntmps16
  go_wp2
  go_ret
  exact ⟨ret_k (zig_val h1 h2), rfl⟩
theorem i64_xor_zero (x : Nat) (hx : x < 9223372036854775808) : bits .xor .i64 (x : Int) 0 = (x : Int) := by
  show IntKind.i64.wrap ((BitVec.ofInt 64 (x : Int) ^^^ BitVec.ofInt 64 0).toNat : Int) = _
  have h2 : (BitVec.ofInt 64 (x : Int)).toNat = x := by
    rw [BitVec.ofInt_natCast, BitVec.toNat_ofNat]; exact Nat.mod_eq_of_lt (by omega)
  have h1 : (BitVec.ofInt 64 0).toNat = 0 := by decide
  rw [BitVec.toNat_xor, h1, h2, Nat.xor_zero, IntKind.wrap_i64]
  omega
theorem i64_xor_ones (x : Nat) (hx : x < 9223372036854775808) : bits .xor .i64 (x : Int) (-1) = -(x : Int) - 1 := by
  rw [← Lib.i64_not x hx]
  show IntKind.i64.wrap ((BitVec.ofInt 64 (x : Int) ^^^ BitVec.ofInt 64 (-1)).toNat : Int) = IntKind.i64.wrap ((BitVec.ofInt 64 (-1) ^^^ BitVec.ofInt 64 (x : Int)).toNat : Int)
  rw [BitVec.xor_comm]
theorem zag_val {n : Nat} (h : n < 18446744073709551616) : bits BinOp.xor IntKind.i64 ((n : Int) / 2) (wrap64 (-wrap64 (bits BinOp.and IntKind.u64 (n : Int) 1))) = Var.zag n := by
  have e1 : ((n : Int) / 2) = ((n / 2 : Nat) : Int) := by omega
  rw [Lib.u64_and1 _ (by omega) (by omega), e1]
  rcases Nat.mod_two_eq_zero_or_one n with h0 | h0
  · have e2 : wrap64 (-wrap64 ((n : Int) % 2)) = 0 := by rw [show (n : Int) % 2 = 0 from by omega]; decide +kernel
    rw [e2, i64_xor_zero _ (by omega), Var.zag, if_pos h0]
  · have e2 : wrap64 (-wrap64 ((n : Int) % 2)) = -1 := by rw [show (n : Int) % 2 = 1 from by omega]; decide +kernel
    rw [e2, i64_xor_ones _ (by omega), Var.zag, if_neg (by omega)]
theorem Zag_any (n : Nat) (w : World) (h : n < 18446744073709551616) :
    Calls Try.prog 17 #[.int .u64 n] w fun e w' => e = .returned (.int .i64 (Var.zag n)) ∧ w = w' := by
  go_enter Try.func17, Try.ntmps17
  go_wp2
  go_ret
  exact ⟨ret_k (zag_val h), rfl⟩
theorem or128 : ∀ k, k < 256 → k ||| 128 = k % 128 + 128 := by decide +kernel
theorem u8_or128 (n : Nat) : bits .or .u8 ((n : Int) % 256) 128 = ((UInt8.ofNat (n % 128 + 128)).toNat : Int) := by
  rw [show (n : Int) % 256 = ((n % 256 : Nat) : Int) from by omega, show (128 : Int) = ((128 : Nat) : Int) from rfl, u8_or_nat _ _ (by omega) (by decide), or128 _ (by omega), Var.toNat_ofNat (by omega)]
  congr 1; omega
set_option maxRecDepth 20000 in
theorem PutUvarint_any (v : Value) (base : Nat) (l : List UInt8) (n0 : Nat) (w : World) (hb : BRow w base v l) (hbase : base ≤ w.heap.size) (hl : l.length ≤ 140737488355000) (h : n0 < 18446744073709551616) :
    Calls Try.prog 19 #[v, .int .u64 n0] w fun e w' => ∃ v', e = .returned v' ∧ BRow w' base v' (l ++ Var.vb n0) ∧ w.grownBy w' v.ownBlock ∧ NewOr w v v' := by
  have HB : Kp (BRow w base v l) := ⟨hb⟩
  have HG : Kp (w.grownBy w v.ownBlock) := ⟨World.grownBy.refl _ _⟩
  clear hb
  go_enter Try.func19, Try.ntmps19
  go_wp2
  go_loopw [0, 1] (fun b n wr => ∃ (l' : List UInt8) (n' : Nat), n' < 18446744073709551616 ∧ n = .int .u64 n' ∧ BRow wr base b l' ∧ l'.length + (Var.vb n').length ≤ 140737488355000 + 10 ∧ l' ++ Var.vb n' = l ++ Var.vb n0 ∧ w.grownBy wr v.ownBlock ∧ NewOr w v b) (fun _ n _ => (intOf n).toNat)
  case atStart => exact ⟨l, n0, h, rfl, HB.out, by have := Var.vb_len10 h; omega, rfl, HG.out, NewOr.refl _ _⟩
  case round =>
    obtain ⟨l', n', hn, rfl, hrow, hlen, hval, hg, hno⟩ := hrel
    have hbs : base ≤ wr.heap.size := Nat.le_trans hbase hg.size
    clear hl
    have hvp := Var.vb_pos n'
    by_cases h128 : 128 ≤ n'
    · have HO : Kp (bits .or .u8 ((n' : Int) % 256) 128 = ((UInt8.ofNat (n' % 128 + 128)).toNat : Int)) := ⟨u8_or128 n'⟩
      have HV : Kp (Var.vb n' = UInt8.ofNat (n' % 128 + 128) :: Var.vb (n' / 128)) := ⟨Var.vb_ge h128⟩
      have HL : Kp (l'.length + 1 ≤ 140737488355328) := ⟨by omega⟩
      have HR : Kp (BRow wr base u0 l') := ⟨hrow⟩
      have HVal : Kp (l' ++ Var.vb n' = l ++ Var.vb n0) := ⟨hval⟩
      have HLen : Kp (l'.length + (Var.vb n').length ≤ 140737488355000 + 10) := ⟨hlen⟩
      have HG : Kp (w.grownBy wr v.ownBlock) := ⟨hg⟩
      have HN : Kp (NewOr w v u0) := ⟨hno⟩
      clear hrow hval hlen hg hno hvp
      go_wp2_with (at_builtin; go_loud (refine wpList_append_byte _ rfl _ _ rfl base u0 l' HR.out hbs _ (UInt8.ofNat (n' % 128 + 128)) rfl rfl rfl HO.out HL.out ?_; intro v' w' h1 h2 h3))
      go_roundw
      case rel => exact ⟨l' ++ [UInt8.ofNat (n' % 128 + 128)], n' / 128, by omega, by go_num, h1, by have := HLen.out; rw [HV.out] at this; simp at this ⊢; omega, by rw [← HVal.out, HV.out]; simp, grown_trans HG.out HN.out h2, HN.out.trans h3 HG.out⟩
      case measure => simp [intOf]; omega
    · have HV : Kp (Var.vb n' = [UInt8.ofNat n']) := ⟨Var.vb_lt (by omega)⟩
      have HO : Kp ((n' : Int) = ((UInt8.ofNat n').toNat : Int)) := ⟨by rw [Var.toNat_ofNat (by omega)]⟩
      have HL : Kp (l'.length + 1 ≤ 140737488355328) := ⟨by omega⟩
      have HR : Kp (BRow wr base u0 l') := ⟨hrow⟩
      have HVal : Kp (l' ++ Var.vb n' = l ++ Var.vb n0) := ⟨hval⟩
      have HG : Kp (w.grownBy wr v.ownBlock) := ⟨hg⟩
      have HN : Kp (NewOr w v u0) := ⟨hno⟩
      clear hrow hval hlen hg hno hvp
      go_wp2_with (at_builtin; go_loud (refine wpList_append_byte _ rfl _ _ rfl base u0 l' HR.out hbs _ (UInt8.ofNat n') rfl rfl rfl HO.out HL.out ?_; intro v' w' h1 h2 h3))
      go_ret
      exact ⟨v', rfl, by rw [← HVal.out, HV.out]; exact h1, grown_trans HG.out HN.out h2, HN.out.trans h3 HG.out⟩
end Go.Proofs.Ytmfigoffkopohaa
