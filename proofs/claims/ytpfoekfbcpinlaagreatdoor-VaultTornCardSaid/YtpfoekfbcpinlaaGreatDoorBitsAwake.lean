/- The walks of package bits, part 1: Len, Zig, Zag, PutUvarint. -/
import Derived.Test.YtpfoekfbcpinlaaGreatDoorBRow
import Derived.Test.YtpfoekfbcpinlaaGreatDoorVar
import Derived.WalkKit
import Derived.WalkLawsBesides
import Derived.WalkSpells
import Derived.Outline
import Derived.OwnWalk
import Derived.Lib.Hide
import Derived.LoopTactic
import Derived.Deep.LoopGhost
import Derived.Laws.BitsAllLaws
import Derived.Laws.Shifts
import Derived.Laws.ShiftsVarLaws
import Derived.Lib.Zigzag
namespace Go.Proofs.YtpfoekfbcpinlaaGreatDoor
open Go.RowKit
set_option linter.unusedVariables false

theorem ret_k {k : IntKind} {a b : Int} (h : a = b) : Ending.returned (.int k a) = .returned (.int k b) := by rw [h]
theorem or_lt {n : Nat} (h : n < 18446744073709551616) : n ||| 1 < 18446744073709551616 := by rw [Var.or_one]; omega
theorem zig_val {n : Int} (h1 : -9223372036854775808 ≤ n) (h2 : n ≤ 9223372036854775807) : bits BinOp.xor IntKind.u64 (IntKind.u64.wrap (IntKind.u64.wrap n * 2)) (IntKind.u64.wrap (n / 9223372036854775808)) = ((Var.zig n : Nat) : Int) := by
  by_cases h : 0 ≤ n
  · have e1 : IntKind.u64.wrap (IntKind.u64.wrap n * 2) = ((n.toNat * 2 : Nat) : Int) := by rw [IntKind.wrap_u64, IntKind.wrap_u64]; omega
    have e2 : IntKind.u64.wrap (n / 9223372036854775808) = ((0 : Nat) : Int) := by rw [IntKind.wrap_u64]; omega
    rw [e1, e2, u64_xor_nat _ _ (by omega) (by decide), Nat.xor_zero, Var.zig, if_pos h]; omega
  · have e1 : IntKind.u64.wrap (IntKind.u64.wrap n * 2) = (((2 * n + 18446744073709551616).toNat : Nat) : Int) := by rw [IntKind.wrap_u64, IntKind.wrap_u64]; omega
    have e2 : IntKind.u64.wrap (n / 9223372036854775808) = ((2 ^ 64 - 1 : Nat) : Int) := by rw [IntKind.wrap_u64]; omega
    rw [e1, e2, u64_xor_nat _ _ (by omega) (by omega), Nat.xor_comm, Lib.xor_ones64 _ (by omega), Var.zig, if_neg h]; omega
theorem i64_xor_zero (x : Nat) (hx : x < 9223372036854775808) : bits .xor .i64 (x : Int) 0 = (x : Int) := by
  show IntKind.i64.wrap ((BitVec.ofInt 64 (x : Int) ^^^ BitVec.ofInt 64 0).toNat : Int) = _
  have h2 : (BitVec.ofInt 64 (x : Int)).toNat = x := by
    rw [BitVec.ofInt_natCast, BitVec.toNat_ofNat]; exact Nat.mod_eq_of_lt (by omega)
  have h1 : (BitVec.ofInt 64 0).toNat = 0 := by decide
  rw [BitVec.toNat_xor, h1, h2, Nat.xor_zero, IntKind.wrap_i64]
  omega
theorem i64_xor_ones (x : Nat) (hx : x < 9223372036854775808) : bits .xor .i64 (x : Int) (-1) = -(x : Int) - 1 := by
  rw [← Lib.i64_not x hx]
  show IntKind.i64.wrap ((BitVec.ofInt 64 (x : Int) ^^^ BitVec.ofInt 64 (-1)).toNat : Int) = IntKind.i64.wrap ((BitVec.ofInt 64 (-1) ^^^ BitVec.ofInt 64 (x : Int)).toNat : Int)
  rw [BitVec.xor_comm]
theorem zag_val {n : Nat} (h : n < 18446744073709551616) : bits BinOp.xor IntKind.i64 ((n : Int) / 2) (wrap64 (-wrap64 (bits BinOp.and IntKind.u64 (n : Int) 1))) = Var.zag n := by
  have e1 : ((n : Int) / 2) = ((n / 2 : Nat) : Int) := by omega
  rw [Lib.u64_and1 _ (by omega) (by omega), e1]
  rcases Nat.mod_two_eq_zero_or_one n with h0 | h0
  · have e2 : wrap64 (-wrap64 ((n : Int) % 2)) = 0 := by rw [show (n : Int) % 2 = 0 from by omega]; decide +kernel
    rw [e2, i64_xor_zero _ (by omega), Var.zag, if_pos h0]
  · have e2 : wrap64 (-wrap64 ((n : Int) % 2)) = -1 := by rw [show (n : Int) % 2 = 1 from by omega]; decide +kernel
    rw [e2, i64_xor_ones _ (by omega), Var.zag, if_neg (by omega)]
theorem or128 : ∀ k, k < 256 → k ||| 128 = k % 128 + 128 := by decide +kernel
theorem u8_or128 (n : Nat) : bits .or .u8 ((n : Int) % 256) 128 = ((UInt8.ofNat (n % 128 + 128)).toNat : Int) := by
  rw [show (n : Int) % 256 = ((n % 256 : Nat) : Int) from by omega, show (128 : Int) = ((128 : Nat) : Int) from rfl, u8_or_nat _ _ (by omega) (by decide), or128 _ (by omega), Var.toNat_ofNat (by omega)]
  congr 1; omega
set_option maxRecDepth 20000 in
theorem PutUvarint_any (v : Value) (base : Nat) (l : List UInt8) (n0 : Nat) (w : World) (hb : BRow w base v l) (hbase : base ≤ w.heap.size) (hl : l.length ≤ 140737488355000) (h : n0 < 18446744073709551616) :
    Calls Tryz.prog 121 #[v, .int .u64 n0] w fun e w' => ∃ v', e = .returned v' ∧ BRow w' base v' (l ++ Var.vb n0) ∧ w.grownBy w' v.ownBlock ∧ NewOr w v v' := by
  have HB : Kp (BRow w base v l) := ⟨hb⟩
  have HG : Kp (w.grownBy w v.ownBlock) := ⟨World.grownBy.refl _ _⟩
  clear hb
  go_enter Tryz.func121, Tryz.ntmps121
  go_wp2
  go_loopw [0, 1] (fun b n wr => ∃ (l' : List UInt8) (n' : Nat), n' < 18446744073709551616 ∧ n = .int .u64 n' ∧ BRow wr base b l' ∧ l'.length + (Var.vb n').length ≤ 140737488355000 + 10 ∧ l' ++ Var.vb n' = l ++ Var.vb n0 ∧ w.grownBy wr v.ownBlock ∧ NewOr w v b) (fun _ n _ => (intOf n).toNat)
  case atStart => exact ⟨l, n0, h, rfl, HB.out, by have := Var.vb_len10 h; omega, rfl, HG.out, NewOr.refl _ _⟩
  case round =>
    obtain ⟨l', n', hn, rfl, hrow, hlen, hval, hg, hno⟩ := hrel
    have hbs : base ≤ wr.heap.size := Nat.le_trans hbase hg.size
    clear hl
    have hvp := Var.vb_pos n'
    by_cases h128 : 128 ≤ n'
    · have HO : Kp (bits .or .u8 ((n' : Int) % 256) 128 = ((UInt8.ofNat (n' % 128 + 128)).toNat : Int)) := ⟨u8_or128 n'⟩
      have HV : Kp (Var.vb n' = UInt8.ofNat (n' % 128 + 128) :: Var.vb (n' / 128)) := ⟨Var.vb_ge h128⟩
      have HL : Kp (l'.length + 1 ≤ 140737488355328) := ⟨by omega⟩
      have HR : Kp (BRow wr base u0 l') := ⟨hrow⟩
      have HVal : Kp (l' ++ Var.vb n' = l ++ Var.vb n0) := ⟨hval⟩
      have HLen : Kp (l'.length + (Var.vb n').length ≤ 140737488355000 + 10) := ⟨hlen⟩
      have HG : Kp (w.grownBy wr v.ownBlock) := ⟨hg⟩
      have HN : Kp (NewOr w v u0) := ⟨hno⟩
      clear hrow hval hlen hg hno hvp
      go_wp2_with (at_builtin; go_loud (refine wpList_append_byte _ rfl _ _ rfl base u0 l' HR.out hbs _ (UInt8.ofNat (n' % 128 + 128)) rfl rfl rfl HO.out HL.out ?_; intro v' w' h1 h2 h3))
      go_roundw
      case rel => exact ⟨l' ++ [UInt8.ofNat (n' % 128 + 128)], n' / 128, by omega, by go_num, h1, by have := HLen.out; rw [HV.out] at this; simp at this ⊢; omega, by rw [← HVal.out, HV.out]; simp, grown_trans HG.out HN.out h2, HN.out.trans h3 HG.out⟩
      case measure => simp [intOf]; omega
    · have HV : Kp (Var.vb n' = [UInt8.ofNat n']) := ⟨Var.vb_lt (by omega)⟩
      have HO : Kp ((n' : Int) = ((UInt8.ofNat n').toNat : Int)) := ⟨by rw [Var.toNat_ofNat (by omega)]⟩
      have HL : Kp (l'.length + 1 ≤ 140737488355328) := ⟨by omega⟩
      have HR : Kp (BRow wr base u0 l') := ⟨hrow⟩
      have HVal : Kp (l' ++ Var.vb n' = l ++ Var.vb n0) := ⟨hval⟩
      have HG : Kp (w.grownBy wr v.ownBlock) := ⟨hg⟩
      have HN : Kp (NewOr w v u0) := ⟨hno⟩
      clear hrow hval hlen hg hno hvp
      go_wp2_with (at_builtin; go_loud (refine wpList_append_byte _ rfl _ _ rfl base u0 l' HR.out hbs _ (UInt8.ofNat n') rfl rfl rfl HO.out HL.out ?_; intro v' w' h1 h2 h3))
      go_ret
      exact ⟨v', rfl, by rw [← HVal.out, HV.out]; exact h1, grown_trans HG.out HN.out h2, HN.out.trans h3 HG.out⟩
end Go.Proofs.YtpfoekfbcpinlaaGreatDoor
/- The walks of package bits, part 2: fixed numbers and texts that are put. -/
namespace Go.Proofs.YtpfoekfbcpinlaaGreatDoor
open Go.RowKit
set_option linter.unusedVariables false

theorem u8_low (n : Nat) : (n : Int) % 256 = ((UInt8.ofNat (n % 256)).toNat : Int) := by
  rw [Var.toNat_ofNat (by omega)]; omega
set_option maxRecDepth 20000 in
theorem putu32_any (v : Value) (base : Nat) (l : List UInt8) (n0 size : Nat) (w : World) (hb : BRow w base v l) (hbase : base ≤ w.heap.size) (hl : l.length ≤ 140737488355000) (h : n0 < 4294967296) (hs : size ≤ 8) :
    Calls Tryz.prog 109 #[v, .int .u32 n0, .int .i64 size] w fun e w' => ∃ v', e = .returned v' ∧ BRow w' base v' (l ++ Var.fb size n0) ∧ w.grownBy w' v.ownBlock ∧ NewOr w v v' := by
  have HB : Kp (BRow w base v l) := ⟨hb⟩
  have HG : Kp (w.grownBy w v.ownBlock) := ⟨World.grownBy.refl _ _⟩
  clear hb
  go_enter Tryz.func109, Tryz.ntmps109
  go_wp2
  go_loopw [0, 1, 8] (fun b n i wr => ∃ (l' : List UInt8) (n' k : Nat), n' < 4294967296 ∧ k ≤ size ∧ i = .int .i64 k ∧ n = .int .u32 n' ∧ BRow wr base b l' ∧ l'.length + (size - k) ≤ 140737488355000 + 8 ∧ l' ++ Var.fb (size - k) n' = l ++ Var.fb size n0 ∧ w.grownBy wr v.ownBlock ∧ NewOr w v b) (fun _ _ i _ => size - (intOf i).toNat)
  case atStart => exact ⟨l, n0, 0, h, by omega, rfl, rfl, HB.out, by omega, rfl, HG.out, NewOr.refl _ _⟩
  case round =>
    obtain ⟨l', n', k, hn, hk, rfl, rfl, hrow, hlen, hval, hg, hno⟩ := hrel
    have hbs : base ≤ wr.heap.size := Nat.le_trans hbase hg.size
    clear hl
    by_cases hlt : k < size
    · have HO : Kp ((n' : Int) % 256 = ((UInt8.ofNat (n' % 256)).toNat : Int)) := ⟨u8_low n'⟩
      have HV : Kp (Var.fb (size - k) n' = UInt8.ofNat (n' % 256) :: Var.fb (size - (k + 1)) (n' / 256)) := ⟨by rw [show size - k = size - (k + 1) + 1 from by omega, Var.fb]⟩
      have HL : Kp (l'.length + 1 ≤ 140737488355328) := ⟨by omega⟩
      have HR : Kp (BRow wr base u0 l') := ⟨hrow⟩
      have HVal : Kp (l' ++ Var.fb (size - k) n' = l ++ Var.fb size n0) := ⟨hval⟩
      have HLen : Kp (l'.length + (size - k) ≤ 140737488355000 + 8) := ⟨hlen⟩
      have HG : Kp (w.grownBy wr v.ownBlock) := ⟨hg⟩
      have HN : Kp (NewOr w v u0) := ⟨hno⟩
      clear hrow hval hlen hg hno
      go_wp2_with (at_builtin; go_loud (refine wpList_append_byte _ rfl _ _ rfl base u0 l' HR.out hbs _ (UInt8.ofNat (n' % 256)) rfl rfl rfl HO.out HL.out ?_; intro v' w' h1 h2 h3))
      go_roundw
      case rel => exact ⟨l' ++ [UInt8.ofNat (n' % 256)], n' / 256, k + 1, by omega, by omega, by go_num, by go_num, h1, by have := HLen.out; simp; omega, by rw [← HVal.out, HV.out]; simp, grown_trans HG.out HN.out h2, HN.out.trans h3 HG.out⟩
      case measure => simp [intOf]; omega
    · obtain rfl : k = size := by omega
      have HR : Kp (BRow wr base u0 (l ++ Var.fb k n0)) := ⟨by rw [← hval, Nat.sub_self]; simpa [Var.fb] using hrow⟩
      have HG : Kp (w.grownBy wr v.ownBlock) := ⟨hg⟩
      have HN : Kp (NewOr w v u0) := ⟨hno⟩
      clear hrow hval hlen hg hno
      go_wp2
      go_ret
      exact ⟨_, rfl, HR.out, HG.out, HN.out⟩
set_option maxRecDepth 20000 in
theorem putu64_any (v : Value) (base : Nat) (l : List UInt8) (n0 size : Nat) (w : World) (hb : BRow w base v l) (hbase : base ≤ w.heap.size) (hl : l.length ≤ 140737488355000) (h : n0 < 18446744073709551616) (hs : size ≤ 8) :
    Calls Tryz.prog 110 #[v, .int .u64 n0, .int .i64 size] w fun e w' => ∃ v', e = .returned v' ∧ BRow w' base v' (l ++ Var.fb size n0) ∧ w.grownBy w' v.ownBlock ∧ NewOr w v v' := by
  have HB : Kp (BRow w base v l) := ⟨hb⟩
  have HG : Kp (w.grownBy w v.ownBlock) := ⟨World.grownBy.refl _ _⟩
  clear hb
  go_enter Tryz.func110, Tryz.ntmps110
  go_wp2
  go_loopw [0, 1, 8] (fun b n i wr => ∃ (l' : List UInt8) (n' k : Nat), n' < 18446744073709551616 ∧ k ≤ size ∧ i = .int .i64 k ∧ n = .int .u64 n' ∧ BRow wr base b l' ∧ l'.length + (size - k) ≤ 140737488355000 + 8 ∧ l' ++ Var.fb (size - k) n' = l ++ Var.fb size n0 ∧ w.grownBy wr v.ownBlock ∧ NewOr w v b) (fun _ _ i _ => size - (intOf i).toNat)
  case atStart => exact ⟨l, n0, 0, h, by omega, rfl, rfl, HB.out, by omega, rfl, HG.out, NewOr.refl _ _⟩
  case round =>
    obtain ⟨l', n', k, hn, hk, rfl, rfl, hrow, hlen, hval, hg, hno⟩ := hrel
    have hbs : base ≤ wr.heap.size := Nat.le_trans hbase hg.size
    clear hl
    by_cases hlt : k < size
    · have HO : Kp ((n' : Int) % 256 = ((UInt8.ofNat (n' % 256)).toNat : Int)) := ⟨u8_low n'⟩
      have HV : Kp (Var.fb (size - k) n' = UInt8.ofNat (n' % 256) :: Var.fb (size - (k + 1)) (n' / 256)) := ⟨by rw [show size - k = size - (k + 1) + 1 from by omega, Var.fb]⟩
      have HL : Kp (l'.length + 1 ≤ 140737488355328) := ⟨by omega⟩
      have HR : Kp (BRow wr base u0 l') := ⟨hrow⟩
      have HVal : Kp (l' ++ Var.fb (size - k) n' = l ++ Var.fb size n0) := ⟨hval⟩
      have HLen : Kp (l'.length + (size - k) ≤ 140737488355000 + 8) := ⟨hlen⟩
      have HG : Kp (w.grownBy wr v.ownBlock) := ⟨hg⟩
      have HN : Kp (NewOr w v u0) := ⟨hno⟩
      clear hrow hval hlen hg hno
      go_wp2_with (at_builtin; go_loud (refine wpList_append_byte _ rfl _ _ rfl base u0 l' HR.out hbs _ (UInt8.ofNat (n' % 256)) rfl rfl rfl HO.out HL.out ?_; intro v' w' h1 h2 h3))
      go_roundw
      case rel => exact ⟨l' ++ [UInt8.ofNat (n' % 256)], n' / 256, k + 1, by omega, by omega, by go_num, by go_num, h1, by have := HLen.out; simp; omega, by rw [← HVal.out, HV.out]; simp, grown_trans HG.out HN.out h2, HN.out.trans h3 HG.out⟩
      case measure => simp [intOf]; omega
    · obtain rfl : k = size := by omega
      have HR : Kp (BRow wr base u0 (l ++ Var.fb k n0)) := ⟨by rw [← hval, Nat.sub_self]; simpa [Var.fb] using hrow⟩
      have HG : Kp (w.grownBy wr v.ownBlock) := ⟨hg⟩
      have HN : Kp (NewOr w v u0) := ⟨hno⟩
      clear hrow hval hlen hg hno
      go_wp2
      go_ret
      exact ⟨_, rfl, HR.out, HG.out, HN.out⟩
/-- What PutFixed puts. -/
def fixedOf (n : Nat) (size : Int) : List UInt8 := if size = 4 then Var.fb 4 n else if size = 8 then Var.fb 8 n else []
theorem PutFixed_any (v : Value) (base : Nat) (l : List UInt8) (n : Nat) (size : Int) (w : World) (hb : BRow w base v l) (hbase : base ≤ w.heap.size) (hl : l.length ≤ 140737488355000) (h : n < 18446744073709551616) :
    Calls Tryz.prog 88 #[v, .int .u64 n, .int .i64 size] w fun e w' => ∃ v', e = .returned v' ∧ BRow w' base v' (l ++ fixedOf n size) ∧ w.grownBy w' v.ownBlock ∧ NewOr w v v' := by
  have HB : Kp (BRow w base v l) := ⟨hb⟩
  have HL : Kp (l.length ≤ 140737488355000) := ⟨hl⟩
  clear hb hl
  by_cases h4 : size = 4
  · subst h4
    have HF : Kp (fixedOf n 4 = Var.fb 4 n) := ⟨rfl⟩
    have HM : Kp (Var.fb 4 (n % 4294967296) = Var.fb 4 n) := ⟨Var.fb_mod 4 n⟩
    go_enter Tryz.func88, Tryz.ntmps88
    go_wp2_with fail
    rw [show ((n : Int) % 4294967296) = ((n % 4294967296 : Nat) : Int) from by omega]
    refine (putu32_any v base l (n % 4294967296) 4 w HB.out hbase HL.out (Nat.mod_lt _ (by decide)) (by decide)).mono ?_
    rintro e w' ⟨v', rfl, h1, h2, h3⟩
    go_wp2
    go_ret
    exact ⟨v', rfl, by rw [HF.out, ← HM.out]; exact h1, h2, h3⟩
  · by_cases h8 : size = 8
    · subst h8
      have HF : Kp (fixedOf n 8 = Var.fb 8 n) := ⟨rfl⟩
      go_enter Tryz.func88, Tryz.ntmps88
      go_wp2_with fail
      refine (putu64_any v base l n 8 w HB.out hbase HL.out h (by decide)).mono ?_
      rintro e w' ⟨v', rfl, h1, h2, h3⟩
      go_wp2
      go_ret
      exact ⟨v', rfl, by rw [HF.out]; exact h1, h2, h3⟩
    · have HF : Kp (fixedOf n size = []) := ⟨by simp [fixedOf, h4, h8]⟩
      go_enter Tryz.func88, Tryz.ntmps88
      go_wp2
      go_ret
      exact ⟨v, rfl, by rw [HF.out, List.append_nil]; exact HB.out, World.grownBy.refl _ _, NewOr.refl _ _⟩
/-- At the walk: append of a string's bytes. -/
theorem wpList_append_text {w : World} {ops : Array Oper} {rest : List Oper} {o : Oper} {a : Act} {Q : Exit → Act → World → Prop} (hgd : o.guard = none) (s x : Operand)
    (ho : o.op = .call { callee := .builtin .append, args := #[s, x], argTypes := #[109, 9] }) (base : Nat) (v : Value) (l : List UInt8) (h : BRow w base v l) (hbase : base ≤ w.heap.size)
    (t : ByteArray) (hs : a.eval s = v) (hx : a.eval x = .string t) (hlen : l.length + t.size ≤ 140737488355328)
    (K : ∀ v' w', BRow w' base v' (l ++ t.data.toList) → w.grownBy w' v.ownBlock → NewOr w v v' → wpList Tryz.prog ops Q rest (a.put o.dst v') w') : wpList Tryz.prog ops Q (o :: rest) a w := by
  refine wpList_plain hgd fun K' hK => ?_
  obtain ⟨v', w', hr, h2, h3, h4⟩ := run_append_brow_string h hbase t hlen o.type
  unfold Oper.wp execOp
  simp only [ho, resolve, invoke, builtin, Sem.run_bind, Sem.run_pure, Result.andThen_ok, List.map_toArray, List.map_cons, List.map_nil, hs, hx, hr]
  exact hK _ _ (K v' w' h2 h3 h4)
end Go.Proofs.YtpfoekfbcpinlaaGreatDoor
/- The walks of package bits, part 3: what reads numbers. -/
namespace Go.Proofs.YtpfoekfbcpinlaaGreatDoor
open Go.RowKit
set_option linter.unusedVariables false

theorem data_len (s : ByteArray) : s.data.toList.length = s.size := by simp
namespace Var
/-- The varint at any place: number, place behind it, error. -/
def uvI (l : List UInt8) (at' : Int) : Nat × Nat × Nat := if at' < 0 ∨ (l.length : Int) < at' then (0, 0, 1) else uv l at'.toNat
theorem go_short (l : List UInt8) (p k acc : Nat) (h : l.length ≤ p) : go (l.drop p) k acc = (0, 0, 8) := by rw [List.drop_eq_nil_of_le h]; rfl
theorem go_cons (l : List UInt8) (p k acc : Nat) (h : p < l.length) : go (l.drop p) k acc = if k = 9 ∧ 1 < l[p].toNat then (0, 0, 4) else if l[p].toNat < 128 then (acc + l[p].toNat * 2 ^ (7 * k), k + 1, 0) else go (l.drop (p + 1)) (k + 1) (acc + (l[p].toNat - 128) * 2 ^ (7 * k)) := by
  rw [List.drop_eq_getElem_cons h, go]
theorem andNot128 : ∀ k, 128 ≤ k → k < 256 → k &&& (18446744073709551615 - 128) = k - 128 := by
  have h : ∀ k : Fin 256, 128 ≤ k.val → k.val &&& (18446744073709551615 - 128) = k.val - 128 := by decide +kernel
  exact fun k h1 h2 => h ⟨k, h2⟩ h1
theorem or_join {acc b k : Nat} (h : acc < 2 ^ (7 * k)) : acc ||| b * 2 ^ (7 * k) = acc + b * 2 ^ (7 * k) := by
  rw [Nat.or_comm, nat_join (7 * k) _ _ (Nat.mul_mod_left _ _) h, Nat.add_comm]
theorem pow_le9 {k : Nat} (h : k ≤ 8) : 2 ^ (7 * k) ≤ 72057594037927936 := by have := Nat.pow_le_pow_right (show 0 < 2 by decide) (show 7 * k ≤ 56 by omega); simpa using this
theorem go_fits {k b acc : Nat} (hk : k ≤ 9) (h9 : k = 9 → b ≤ 1) (hb : b < 128) (ha : acc < 2 ^ (7 * k)) : b * 2 ^ (7 * k) < 18446744073709551616 ∧ acc < 18446744073709551616 ∧ acc + b * 2 ^ (7 * k) < 18446744073709551616 := by
  by_cases h : k = 9
  · subst h
    have := h9 rfl
    have e : (2 : Nat) ^ (7 * 9) = 9223372036854775808 := rfl
    rw [e] at ha ⊢
    omega
  · have h1 := pow_le9 (k := k) (by omega)
    have h2 : b * 2 ^ (7 * k) ≤ 127 * 2 ^ (7 * k) := Nat.mul_le_mul_right _ (by omega)
    omega
theorem go_next {k b acc : Nat} (hb : b < 128) (ha : acc < 2 ^ (7 * k)) : acc + b * 2 ^ (7 * k) < 2 ^ (7 * (k + 1)) := by
  have e : 2 ^ (7 * (k + 1)) = 128 * 2 ^ (7 * k) := by rw [Nat.mul_add, Nat.pow_add, Nat.mul_comm]
  have h2 : b * 2 ^ (7 * k) ≤ 127 * 2 ^ (7 * k) := Nat.mul_le_mul_right _ (by omega)
  omega
end Var
theorem or_val {k b acc : Nat} (hk : k ≤ 9) (h9 : k = 9 → b ≤ 1) (hb : b < 128) (ha : acc < 2 ^ (7 * k)) : bits .or .u64 (acc : Int) (IntKind.u64.wrap ((b : Int) * 2 ^ (7 * k))) = ((acc + b * 2 ^ (7 * k) : Nat) : Int) := by
  obtain ⟨h1, h2, h3⟩ := Var.go_fits hk h9 hb ha
  have e : ((b : Int) * 2 ^ (7 * k)) = ((b * 2 ^ (7 * k) : Nat) : Int) := by simp
  rw [e, IntKind.wrap_u64, Int.emod_eq_of_lt (by omega) (by omega), u64_or_nat _ _ h2 h1, Var.or_join ha]
theorem andNot_val {b : Nat} (h1 : 128 ≤ b) (h2 : b < 256) : bits .andNot .u64 (b : Int) 128 = ((b - 128 : Nat) : Int) := by
  rw [show (128 : Int) = ((128 : Nat) : Int) from rfl, u64_andNot_nat _ _ (by omega) (by decide), Var.andNot128 b h1 h2]
def tup3 (r : Nat × Nat × Nat) : Ending := .returned (.tuple #[.int .u64 r.1, .int .i64 r.2.1, .int .i64 r.2.2])
set_option maxRecDepth 20000 in
theorem Uvarint_any (s : ByteArray) (p : Int) (w : World) (hs : s.size ≤ 140737488351232) (h1 : -9223372036854775808 ≤ p) (h2 : p ≤ 9223372036854775807) :
    Calls Tryz.prog 141 #[.string s, .int .i64 p] w fun e w' => e = tup3 (Var.uvI s.data.toList p) ∧ w = w' := by
  by_cases h0 : p < 0
  · have HV : Kp (Var.uvI s.data.toList p = (0, 0, 1)) := ⟨by simp [Var.uvI, h0]⟩
    go_enter Tryz.func141, Tryz.ntmps141
    go_wp2
    go_step3
    go_wp2
    try rw [Exit.noGoto_ret]
    go_ret3
    exact ⟨by rw [HV.out]; rfl, rfl⟩
  by_cases hp : (s.size : Int) < p
  · have HV : Kp (Var.uvI s.data.toList p = (0, 0, 1)) := ⟨by simp [Var.uvI, hp]⟩
    go_enter Tryz.func141, Tryz.ntmps141
    go_wp2
    go_step3
    go_wp2
    try rw [Exit.noGoto_ret]
    go_ret3
    exact ⟨by rw [HV.out]; rfl, rfl⟩
  obtain ⟨a, rfl⟩ := Int.eq_ofNat_of_zero_le (show 0 ≤ p by omega)
  have ha : a ≤ s.size := by omega
  have HV : Kp (Var.uvI s.data.toList a = Var.uv s.data.toList a) := ⟨by simp [Var.uvI]; omega⟩
  have t4 : decide ((a : Int) < 0) = false := by rw [decide_eq_false_iff_not]; omega
  have t5 : decide (s.size < a) = false := by rw [decide_eq_false_iff_not]; omega
  clear h0 hp h1 h2
  go_enter Tryz.func141, Tryz.ntmps141
  go_wp2
  go_step3
  go_wp2
  go_step3
  go_wp2
  go_loop [4, 7] (fun n i => ∃ k acc : Nat, k ≤ 9 ∧ a + k ≤ s.size ∧ acc < 2 ^ (7 * k) ∧ n = .int .u64 acc ∧ i = .int .i64 k ∧ Var.go (s.data.toList.drop a) 0 0 = Var.go (s.data.toList.drop (a + k)) k acc) (fun _ i => 10 - (intOf i).toNat)
  case atStart => exact ⟨0, 0, by omega, by omega, by simp, rfl, rfl, rfl⟩
  case round =>
    obtain ⟨k, acc, hk, hak, hacc, rfl, rfl, hgo⟩ := hrel
    have HG : Kp (Var.go (s.data.toList.drop a) 0 0 = Var.go (s.data.toList.drop (a + k)) k acc) := ⟨hgo⟩
    have HAcc : Kp (acc < 2 ^ (7 * k)) := ⟨hacc⟩
    clear hgo hacc
    by_cases hend : a + k = s.size
    · have HS : Kp (Var.uv s.data.toList a = (0, 0, 8)) := ⟨by unfold Var.uv; rw [HG.out, Var.go_short _ _ _ _ (by simp; omega)]; rfl⟩
      go_wp2
      try rw [Exit.noGoto_ret]
      go_ret3
      exact ⟨by rw [HV.out, HS.out]; rfl, rfl⟩
    have hlt : a + k < s.size := by omega
    have HC := Var.go_cons s.data.toList (a + k) k acc (by simpa using hlt)
    have e : s.data.toList[a + k]'(by simpa using hlt) = s[a + k] := rfl
    rw [e] at HC
    have HC := Kp.mk HC
    have hb := UInt8.toNat_lt s[a + k]
    by_cases hf : k = 9 ∧ 1 < s[a + k].toNat
    · have HS : Kp (Var.uv s.data.toList a = (0, 0, 4)) := ⟨by unfold Var.uv; rw [HG.out, HC.out, if_pos hf]; rfl⟩
      obtain ⟨hk9, hb1⟩ := hf
      subst hk9
      clear HC e
      go_wp2
      try rw [Exit.noGoto_ret]
      go_ret3
      exact ⟨by rw [HV.out, HS.out]; rfl, rfl⟩
    by_cases h128 : s[a + k].toNat < 128
    · have HS : Kp (Var.uv s.data.toList a = (acc + s[a + k].toNat * 2 ^ (7 * k), a + (k + 1), 0)) := ⟨by unfold Var.uv; rw [HG.out, HC.out, if_neg hf, if_pos h128]; rfl⟩
      clear HC e
      by_cases hk9 : k = 9
      · subst hk9
        have hb1 : s[a + 9].toNat ≤ 1 := by omega
        have HO : Kp (bits .or .u64 (acc : Int) ((s[a + 9].toNat : Int) * 9223372036854775808) = ((acc + s[a + 9].toNat * 2 ^ (7 * 9) : Nat) : Int)) := ⟨by
          rw [← or_val (by decide) (fun _ => hb1) h128 HAcc.out, IntKind.wrap_u64]
          congr 1
          rw [show (2 : Int) ^ (7 * 9) = 9223372036854775808 from rfl]
          omega⟩
        clear hf
        go_wp2
        try rw [Exit.noGoto_ret]
        go_ret3
        refine ⟨?_, rfl⟩
        rw [HV.out, HS.out]
        unfold tup3
        simp only [Array.getD_eq_getD_getElem?]
        simp [HO.out]
        omega
      · clear hf
        have HO := Kp.mk (or_val (b := s[a + k].toNat) hk (fun h => absurd h hk9) h128 HAcc.out)
        go_wp2
        try rw [Exit.noGoto_ret]
        go_ret3
        refine ⟨?_, rfl⟩
        rw [HV.out, HS.out]
        unfold tup3
        simp only [Array.getD_eq_getD_getElem?]
        simp [HO.out]
        omega
    · have hk9 : k ≠ 9 := fun h => hf ⟨h, by omega⟩
      clear hf
      have HS : Kp (Var.go (s.data.toList.drop a) 0 0 = Var.go (s.data.toList.drop (a + (k + 1))) (k + 1) (acc + (s[a + k].toNat - 128) * 2 ^ (7 * k))) := ⟨by rw [HG.out, HC.out, if_neg (by omega), if_neg h128]; rfl⟩
      have HO := Kp.mk (or_val (b := s[a + k].toNat - 128) hk (fun h => absurd h hk9) (by omega) HAcc.out)
      have HM := Kp.mk (andNot_val (b := s[a + k].toNat) (by omega) hb)
      have t1 : ((k : Int) == 9) = false := by rw [beq_eq_false_iff_ne]; omega
      have t2 : decide ((s[a + k].toNat : Int) < 128) = false := by rw [decide_eq_false_iff_not]; omega
      have t3 : ((a : Int) + (k : Int) == (s.size : Int)) = false := by rw [beq_eq_false_iff_ne]; omega
      clear HC e h128 hend
      go_wp2
      go_round
      case rel =>
        refine ⟨k + 1, acc + (s[a + k].toNat - 128) * 2 ^ (7 * k), by omega, by omega, Var.go_next (by omega) HAcc.out, ?_, by go_num, HS.out⟩
        rw [HM.out, HO.out]
      case measure => simp [intOf]; omega
set_option maxRecDepth 20000 in
theorem fixedu32_any (s : ByteArray) (w : World) (hs : s.size = 4) :
    Calls Tryz.prog 143 #[.string s] w fun e w' => e = .returned (.int .u32 (Var.fv s.data.toList : Nat)) ∧ w = w' := by
  have hle : s.size ≤ 140737488351232 := by omega
  go_enter Tryz.func143, Tryz.ntmps143
  go_wp2
  go_loop [3, 4] (fun n i => ∃ k : Nat, k ≤ s.size ∧ i = .int .i64 ((k : Int) - 1) ∧ n = .int .u32 (Var.fv (s.data.toList.drop k) : Nat)) (fun _ i => (intOf i + 1).toNat)
  case atStart => exact ⟨s.size, by omega, by go_num, by rw [List.drop_eq_nil_of_le (by simp)]; rfl⟩
  case round =>
    obtain ⟨k, hk, rfl, rfl⟩ := hrel
    cases k with
    | zero =>
      go_wp2
      go_ret
      exact ⟨rfl, rfl⟩
    | succ k =>
      have hcast : ((k + 1 : Nat) : Int) - 1 = (k : Int) := by omega
      have hf := Var.fv_lt (s.data.toList.drop (k + 1))
      have HV : Kp (Var.fv (s.data.toList.drop k) = s[k].toNat + 256 * Var.fv (s.data.toList.drop (k + 1))) := ⟨by
        rw [List.drop_eq_getElem_cons (show k < s.data.toList.length by rw [data_len]; omega), Var.fv]; rfl⟩
      have hlen : (s.data.toList.drop (k + 1)).length ≤ 3 := by simp; omega
      have hb : Var.fv (s.data.toList.drop (k + 1)) * 256 < 4294967296 := by
        have := Nat.pow_le_pow_right (show 0 < 256 by decide) hlen
        omega
      generalize Var.fv (s.data.toList.drop (k + 1)) = f at hf hb HV
      have hc := UInt8.toNat_lt s[k]
      have HO : Kp (bits .or .u32 ((f : Int) * 256) (s[k].toNat : Int) = ((Var.fv (s.data.toList.drop k) : Nat) : Int)) := ⟨by
        rw [show (f : Int) * 256 = ((f * 256 : Nat) : Int) from by omega, u32_or_nat _ _ hb (by omega), HV.out, nat_join 8 _ _ (by omega) (by omega)]
        omega⟩
      clear hf HV hlen
      rw [hcast]
      go_wp2
      exact ⟨⟨k, by omega, rfl, by rw [HO.out]⟩, by simp [intOf]⟩
set_option maxRecDepth 20000 in
theorem fixedu64_any (s : ByteArray) (w : World) (hs : s.size = 8) :
    Calls Tryz.prog 144 #[.string s] w fun e w' => e = .returned (.int .u64 (Var.fv s.data.toList : Nat)) ∧ w = w' := by
  have hle : s.size ≤ 140737488351232 := by omega
  go_enter Tryz.func144, Tryz.ntmps144
  go_wp2
  go_loop [3, 4] (fun n i => ∃ k : Nat, k ≤ s.size ∧ i = .int .i64 ((k : Int) - 1) ∧ n = .int .u64 (Var.fv (s.data.toList.drop k) : Nat)) (fun _ i => (intOf i + 1).toNat)
  case atStart => exact ⟨s.size, by omega, by go_num, by rw [List.drop_eq_nil_of_le (by simp)]; rfl⟩
  case round =>
    obtain ⟨k, hk, rfl, rfl⟩ := hrel
    cases k with
    | zero =>
      go_wp2
      go_ret
      exact ⟨rfl, rfl⟩
    | succ k =>
      have hcast : ((k + 1 : Nat) : Int) - 1 = (k : Int) := by omega
      have hf := Var.fv_lt (s.data.toList.drop (k + 1))
      have HV : Kp (Var.fv (s.data.toList.drop k) = s[k].toNat + 256 * Var.fv (s.data.toList.drop (k + 1))) := ⟨by
        rw [List.drop_eq_getElem_cons (show k < s.data.toList.length by rw [data_len]; omega), Var.fv]; rfl⟩
      have hlen : (s.data.toList.drop (k + 1)).length ≤ 7 := by simp; omega
      have hb : Var.fv (s.data.toList.drop (k + 1)) * 256 < 18446744073709551616 := by
        have := Nat.pow_le_pow_right (show 0 < 256 by decide) hlen
        omega
      generalize Var.fv (s.data.toList.drop (k + 1)) = f at hf hb HV
      have hc := UInt8.toNat_lt s[k]
      have HO : Kp (bits .or .u64 ((f : Int) * 256) (s[k].toNat : Int) = ((Var.fv (s.data.toList.drop k) : Nat) : Int)) := ⟨by
        rw [show (f : Int) * 256 = ((f * 256 : Nat) : Int) from by omega, u64_or_nat _ _ hb (by omega), HV.out, nat_join 8 _ _ (by omega) (by omega)]
        omega⟩
      clear hf HV hlen
      rw [hcast]
      go_wp2
      exact ⟨⟨k, by omega, rfl, by rw [HO.out]⟩, by simp [intOf]⟩
theorem extract_list (s : ByteArray) (a n : Nat) : (s.extract a (a + n)).data.toList = (s.data.toList.drop a).take n := by
  rw [ByteArray.data_extract, Array.toList_extract, List.extract_eq_take_drop, Nat.add_sub_cancel_left]
/-- The fixed number at any place. -/
def Var.fixI (l : List UInt8) (p size : Int) : Nat × Nat × Nat := if size ≠ 4 ∧ size ≠ 8 ∨ p < 0 ∨ (l.length : Int) < p then (0, 0, 1) else if (l.length : Int) - p < size then (0, 0, 8) else (Var.fv ((l.drop p.toNat).take size.toNat), p.toNat + size.toNat, 0)
set_option maxRecDepth 20000 in
theorem Fixed_any (s : ByteArray) (p size : Int) (w : World) (hs : s.size ≤ 140737488351232) (h1 : -9223372036854775808 ≤ p) (h2 : p ≤ 9223372036854775807) :
    Calls Tryz.prog 138 #[.string s, .int .i64 p, .int .i64 size] w fun e w' => e = tup3 (Var.fixI s.data.toList p size) ∧ w = w' := by
  by_cases hz : size ≠ 4 ∧ size ≠ 8
  · have HV : Kp (Var.fixI s.data.toList p size = (0, 0, 1)) := ⟨by simp [Var.fixI, hz]⟩
    have t4 : (size != 4) = true := by rw [bne_iff_ne]; omega
    have t8 : (size != 8) = true := by rw [bne_iff_ne]; omega
    clear hz
    go_enter Tryz.func138, Tryz.ntmps138
    go_wp2
    go_ret3
    exact ⟨by rw [HV.out]; rfl, rfl⟩
  by_cases h0 : p < 0
  · have HV : Kp (Var.fixI s.data.toList p size = (0, 0, 1)) := ⟨by simp [Var.fixI, h0]⟩
    have t1 : decide (p < 0) = true := by rw [decide_eq_true_eq]; omega
    rcases (show size = 4 ∨ size = 8 by omega) with rfl | rfl
    all_goals
      go_enter Tryz.func138, Tryz.ntmps138
      go_wp2
      go_ret3
      exact ⟨by rw [HV.out]; rfl, rfl⟩
  by_cases hp : (s.size : Int) < p
  · have HV : Kp (Var.fixI s.data.toList p size = (0, 0, 1)) := ⟨by simp [Var.fixI, hp]⟩
    have t1 : decide (p < 0) = false := by rw [decide_eq_false_iff_not]; omega
    have t2 : decide ((s.size : Int) < p) = true := by rw [decide_eq_true_eq]; omega
    rcases (show size = 4 ∨ size = 8 by omega) with rfl | rfl
    all_goals
      go_enter Tryz.func138, Tryz.ntmps138
      go_wp2
      go_ret3
      exact ⟨by rw [HV.out]; rfl, rfl⟩
  obtain ⟨a, rfl⟩ := Int.eq_ofNat_of_zero_le (show 0 ≤ p by omega)
  have ha : a ≤ s.size := by omega
  have t1 : decide ((a : Int) < 0) = false := by rw [decide_eq_false_iff_not]; omega
  have t2 : decide (s.size < a) = false := by rw [decide_eq_false_iff_not]; omega
  by_cases hsh : (s.size : Int) - a < size
  · have HV : Kp (Var.fixI s.data.toList a size = (0, 0, 8)) := ⟨by unfold Var.fixI; rw [if_neg (by simp; omega), if_pos (by simpa using hsh)]⟩
    rcases (show size = 4 ∨ size = 8 by omega) with rfl | rfl
    all_goals
      go_enter Tryz.func138, Tryz.ntmps138
      go_wp2
      go_ret3
      exact ⟨by rw [HV.out]; rfl, rfl⟩
  have HV : Kp (Var.fixI s.data.toList a size = (Var.fv ((s.data.toList.drop a).take size.toNat), a + size.toNat, 0)) := ⟨by unfold Var.fixI; rw [if_neg (by simp; omega), if_neg (by simpa using hsh)]; rfl⟩
  rcases (show size = 4 ∨ size = 8 by omega) with rfl | rfl
  · have HV' : Kp (Var.fixI s.data.toList a 4 = (Var.fv ((s.data.toList.drop a).take 4), a + 4, 0)) := ⟨HV.out⟩
    have hf := Var.fv_lt ((s.data.toList.drop a).take 4)
    have hl : ((s.data.toList.drop a).take 4).length = 4 := by simp; omega
    rw [hl] at hf
    have hf : Var.fv ((s.data.toList.drop a).take 4) < 4294967296 := hf
    clear HV hl
    go_enter Tryz.func138, Tryz.ntmps138
    go_wp2_with fail
    refine (fixedu32_any _ w (by rw [ByteArray.size_extract]; omega)).mono ?_
    rw [extract_list]
    generalize Var.fv ((s.data.toList.drop a).take 4) = f at hf HV'
    rintro e w' ⟨rfl, rfl⟩
    go_wp2
    go_ret3
    exact ⟨by rw [HV'.out]; rfl, rfl⟩
  · go_enter Tryz.func138, Tryz.ntmps138
    go_wp2_with fail
    refine (fixedu64_any _ w (by rw [ByteArray.size_extract]; omega)).mono ?_
    rw [extract_list]
    rintro e w' ⟨rfl, rfl⟩
    go_wp2
    go_ret3
    exact ⟨by rw [HV.out]; rfl, rfl⟩
end Go.Proofs.YtpfoekfbcpinlaaGreatDoor
/- The examples that each statement of chapter 1 asks. -/
namespace Go.Proofs.YtpfoekfbcpinlaaGreatDoor
open Go.RowKit
set_option linter.unusedVariables false

theorem bytes_toList (s : ByteArray) : s.toList = s.data.toList := by
  obtain ⟨⟨l⟩⟩ := s
  show (⟨l.toArray⟩ : ByteArray).toList = l
  simp
theorem ret_bool {a b : Bool} (h : a = b) : Ending.returned (.bool a) = .returned (.bool b) := by rw [h]
theorem Uvarint_at (s : ByteArray) (p : Int) (w : World) (a b c : Int) (hs : s.size ≤ 140737488351232) (h1 : -9223372036854775808 ≤ p) (h2 : p ≤ 9223372036854775807) (r : Nat × Nat × Nat) (hr : Var.uvI s.data.toList p = r) (ha : (r.1 : Int) = a) (hb : (r.2.1 : Int) = b) (hc : (r.2.2 : Int) = c) :
    Calls Tryz.prog 141 #[.string s, .int .i64 p] w fun e w' => e = .returned (.tuple #[.int .u64 a, .int .i64 b, .int .i64 c]) ∧ w = w' :=
  (Uvarint_any s p w hs h1 h2).mono fun e w' ⟨he, hw⟩ => ⟨by rw [he, hr, ← ha, ← hb, ← hc]; rfl, hw⟩
theorem vb300 : Var.vb 300 = [172, 2] := by rw [Var.vb_ge (by decide), Var.vb_lt (by decide)]; decide
theorem u64_nat {a : Int} (h : (Lit.int .u64 a).wf = true) : ∃ n : Nat, a = n ∧ n < 18446744073709551616 := by
  have h' : 0 ≤ a ∧ a < 18446744073709551616 := by
    simp [Lit.wf, IntKind.min, IntKind.max, IntKind.signed, IntKind.bits] at h
    omega
  exact ⟨a.toNat, by omega, by omega⟩
theorem u8_nat {a : Int} (h : (Lit.int .u8 a).wf = true) : ∃ n : Nat, a = n ∧ n < 256 := by
  have h' : 0 ≤ a ∧ a < 256 := by
    simp [Lit.wf, IntKind.min, IntKind.max, IntKind.signed, IntKind.bits] at h
    omega
  exact ⟨a.toNat, by omega, by omega⟩
theorem i64_int {a : Int} (h : (Lit.int .i64 a).wf = true) : -9223372036854775808 ≤ a ∧ a ≤ 9223372036854775807 := by
  simp [Lit.wf, IntKind.min, IntKind.max, IntKind.signed, IntKind.bits] at h
  omega
def B (l : List UInt8) : ByteArray := ⟨l.toArray⟩
theorem B_list (l : List UInt8) : (B l).data.toList = l := by simp [B]
theorem B_size (l : List UInt8) : (B l).size = l.length := by simp [B, ByteArray.size]
theorem B_append (l m : List UInt8) : B l ++ B m = B (l ++ m) := by
  simp [B, ByteArray.ext_iff]
end Go.Proofs.YtpfoekfbcpinlaaGreatDoor
