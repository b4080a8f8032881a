/- The walks of package bits, part 2: fixed numbers and texts that are put. -/
import Derived.Test.YtdclfffjiokenaaDoorBits
namespace Go.Proofs.YtdclfffjiokenaaDoor
open Go.RowKit
set_option linter.unusedVariables false

theorem u8_low (n : Nat) : (n : Int) % 256 = ((UInt8.ofNat (n % 256)).toNat : Int) := by
  rw [Var.toNat_ofNat (by omega)]; omega
set_option maxRecDepth 20000 in
theorem putu32_any (v : Value) (base : Nat) (l : List UInt8) (n0 size : Nat) (w : World) (hb : BRow w base v l) (hbase : base ≤ w.heap.size) (hl : l.length ≤ 140737488355000) (h : n0 < 4294967296) (hs : size ≤ 8) :
    Calls Tryd.prog 46 #[v, .int .u32 n0, .int .i64 size] w fun e w' => ∃ v', e = .returned v' ∧ BRow w' base v' (l ++ Var.fb size n0) ∧ w.grownBy w' v.ownBlock ∧ NewOr w v v' := by
  have HB : Kp (BRow w base v l) := ⟨hb⟩
  have HG : Kp (w.grownBy w v.ownBlock) := ⟨World.grownBy.refl _ _⟩
  clear hb
  go_enter Tryd.func46, Tryd.ntmps46
  go_wp2
  go_loopw [0, 1, 8] (fun b n i wr => ∃ (l' : List UInt8) (n' k : Nat), n' < 4294967296 ∧ k ≤ size ∧ i = .int .i64 k ∧ n = .int .u32 n' ∧ BRow wr base b l' ∧ l'.length + (size - k) ≤ 140737488355000 + 8 ∧ l' ++ Var.fb (size - k) n' = l ++ Var.fb size n0 ∧ w.grownBy wr v.ownBlock ∧ NewOr w v b) (fun _ _ i _ => size - (intOf i).toNat)
  case atStart => exact ⟨l, n0, 0, h, by omega, rfl, rfl, HB.out, by omega, rfl, HG.out, NewOr.refl _ _⟩
  case round =>
    obtain ⟨l', n', k, hn, hk, rfl, rfl, hrow, hlen, hval, hg, hno⟩ := hrel
    have hbs : base ≤ wr.heap.size := Nat.le_trans hbase hg.size
    clear hl
    by_cases hlt : k < size
    · have HO : Kp ((n' : Int) % 256 = ((UInt8.ofNat (n' % 256)).toNat : Int)) := ⟨u8_low n'⟩
      have HV : Kp (Var.fb (size - k) n' = UInt8.ofNat (n' % 256) :: Var.fb (size - (k + 1)) (n' / 256)) := ⟨by rw [show size - k = size - (k + 1) + 1 from by omega, Var.fb]⟩
      have HL : Kp (l'.length + 1 ≤ 140737488355328) := ⟨by omega⟩
      have HR : Kp (BRow wr base u0 l') := ⟨hrow⟩
      have HVal : Kp (l' ++ Var.fb (size - k) n' = l ++ Var.fb size n0) := ⟨hval⟩
      have HLen : Kp (l'.length + (size - k) ≤ 140737488355000 + 8) := ⟨hlen⟩
      have HG : Kp (w.grownBy wr v.ownBlock) := ⟨hg⟩
      have HN : Kp (NewOr w v u0) := ⟨hno⟩
      clear hrow hval hlen hg hno
      go_wp2_with (at_builtin; go_loud (refine wpList_append_byte _ rfl _ _ rfl base u0 l' HR.out hbs _ (UInt8.ofNat (n' % 256)) rfl rfl rfl HO.out HL.out ?_; intro v' w' h1 h2 h3))
      go_roundw
      case rel => exact ⟨l' ++ [UInt8.ofNat (n' % 256)], n' / 256, k + 1, by omega, by omega, by go_num, by go_num, h1, by have := HLen.out; simp; omega, by rw [← HVal.out, HV.out]; simp, grown_trans HG.out HN.out h2, HN.out.trans h3 HG.out⟩
      case measure => simp [intOf]; omega
    · obtain rfl : k = size := by omega
      have HR : Kp (BRow wr base u0 (l ++ Var.fb k n0)) := ⟨by rw [← hval, Nat.sub_self]; simpa [Var.fb] using hrow⟩
      have HG : Kp (w.grownBy wr v.ownBlock) := ⟨hg⟩
      have HN : Kp (NewOr w v u0) := ⟨hno⟩
      clear hrow hval hlen hg hno
      go_wp2
      go_ret
      exact ⟨_, rfl, HR.out, HG.out, HN.out⟩
set_option maxRecDepth 20000 in
theorem putu64_any (v : Value) (base : Nat) (l : List UInt8) (n0 size : Nat) (w : World) (hb : BRow w base v l) (hbase : base ≤ w.heap.size) (hl : l.length ≤ 140737488355000) (h : n0 < 18446744073709551616) (hs : size ≤ 8) :
    Calls Tryd.prog 47 #[v, .int .u64 n0, .int .i64 size] w fun e w' => ∃ v', e = .returned v' ∧ BRow w' base v' (l ++ Var.fb size n0) ∧ w.grownBy w' v.ownBlock ∧ NewOr w v v' := by
  have HB : Kp (BRow w base v l) := ⟨hb⟩
  have HG : Kp (w.grownBy w v.ownBlock) := ⟨World.grownBy.refl _ _⟩
  clear hb
  go_enter Tryd.func47, Tryd.ntmps47
  go_wp2
  go_loopw [0, 1, 8] (fun b n i wr => ∃ (l' : List UInt8) (n' k : Nat), n' < 18446744073709551616 ∧ k ≤ size ∧ i = .int .i64 k ∧ n = .int .u64 n' ∧ BRow wr base b l' ∧ l'.length + (size - k) ≤ 140737488355000 + 8 ∧ l' ++ Var.fb (size - k) n' = l ++ Var.fb size n0 ∧ w.grownBy wr v.ownBlock ∧ NewOr w v b) (fun _ _ i _ => size - (intOf i).toNat)
  case atStart => exact ⟨l, n0, 0, h, by omega, rfl, rfl, HB.out, by omega, rfl, HG.out, NewOr.refl _ _⟩
  case round =>
    obtain ⟨l', n', k, hn, hk, rfl, rfl, hrow, hlen, hval, hg, hno⟩ := hrel
    have hbs : base ≤ wr.heap.size := Nat.le_trans hbase hg.size
    clear hl
    by_cases hlt : k < size
    · have HO : Kp ((n' : Int) % 256 = ((UInt8.ofNat (n' % 256)).toNat : Int)) := ⟨u8_low n'⟩
      have HV : Kp (Var.fb (size - k) n' = UInt8.ofNat (n' % 256) :: Var.fb (size - (k + 1)) (n' / 256)) := ⟨by rw [show size - k = size - (k + 1) + 1 from by omega, Var.fb]⟩
      have HL : Kp (l'.length + 1 ≤ 140737488355328) := ⟨by omega⟩
      have HR : Kp (BRow wr base u0 l') := ⟨hrow⟩
      have HVal : Kp (l' ++ Var.fb (size - k) n' = l ++ Var.fb size n0) := ⟨hval⟩
      have HLen : Kp (l'.length + (size - k) ≤ 140737488355000 + 8) := ⟨hlen⟩
      have HG : Kp (w.grownBy wr v.ownBlock) := ⟨hg⟩
      have HN : Kp (NewOr w v u0) := ⟨hno⟩
      clear hrow hval hlen hg hno
      go_wp2_with (at_builtin; go_loud (refine wpList_append_byte _ rfl _ _ rfl base u0 l' HR.out hbs _ (UInt8.ofNat (n' % 256)) rfl rfl rfl HO.out HL.out ?_; intro v' w' h1 h2 h3))
      go_roundw
      case rel => exact ⟨l' ++ [UInt8.ofNat (n' % 256)], n' / 256, k + 1, by omega, by omega, by go_num, by go_num, h1, by have := HLen.out; simp; omega, by rw [← HVal.out, HV.out]; simp, grown_trans HG.out HN.out h2, HN.out.trans h3 HG.out⟩
      case measure => simp [intOf]; omega
    · obtain rfl : k = size := by omega
      have HR : Kp (BRow wr base u0 (l ++ Var.fb k n0)) := ⟨by rw [← hval, Nat.sub_self]; simpa [Var.fb] using hrow⟩
      have HG : Kp (w.grownBy wr v.ownBlock) := ⟨hg⟩
      have HN : Kp (NewOr w v u0) := ⟨hno⟩
      clear hrow hval hlen hg hno
      go_wp2
      go_ret
      exact ⟨_, rfl, HR.out, HG.out, HN.out⟩
/-- What PutFixed puts. -/
def fixedOf (n : Nat) (size : Int) : List UInt8 := if size = 4 then Var.fb 4 n else if size = 8 then Var.fb 8 n else []
theorem PutFixed_any (v : Value) (base : Nat) (l : List UInt8) (n : Nat) (size : Int) (w : World) (hb : BRow w base v l) (hbase : base ≤ w.heap.size) (hl : l.length ≤ 140737488355000) (h : n < 18446744073709551616) :
    Calls Tryd.prog 35 #[v, .int .u64 n, .int .i64 size] w fun e w' => ∃ v', e = .returned v' ∧ BRow w' base v' (l ++ fixedOf n size) ∧ w.grownBy w' v.ownBlock ∧ NewOr w v v' := by
  have HB : Kp (BRow w base v l) := ⟨hb⟩
  have HL : Kp (l.length ≤ 140737488355000) := ⟨hl⟩
  clear hb hl
  by_cases h4 : size = 4
  · subst h4
    have HF : Kp (fixedOf n 4 = Var.fb 4 n) := ⟨rfl⟩
    have HM : Kp (Var.fb 4 (n % 4294967296) = Var.fb 4 n) := ⟨Var.fb_mod 4 n⟩
    go_enter Tryd.func35, Tryd.ntmps35
    go_wp2_with fail
    rw [show ((n : Int) % 4294967296) = ((n % 4294967296 : Nat) : Int) from by omega]
    refine (putu32_any v base l (n % 4294967296) 4 w HB.out hbase HL.out (Nat.mod_lt _ (by decide)) (by decide)).mono ?_
    rintro e w' ⟨v', rfl, h1, h2, h3⟩
    go_wp2
    go_ret
    exact ⟨v', rfl, by rw [HF.out, ← HM.out]; exact h1, h2, h3⟩
  · by_cases h8 : size = 8
    · subst h8
      have HF : Kp (fixedOf n 8 = Var.fb 8 n) := ⟨rfl⟩
      go_enter Tryd.func35, Tryd.ntmps35
      go_wp2_with fail
      refine (putu64_any v base l n 8 w HB.out hbase HL.out h (by decide)).mono ?_
      rintro e w' ⟨v', rfl, h1, h2, h3⟩
      go_wp2
      go_ret
      exact ⟨v', rfl, by rw [HF.out]; exact h1, h2, h3⟩
    · have HF : Kp (fixedOf n size = []) := ⟨by simp [fixedOf, h4, h8]⟩
      go_enter Tryd.func35, Tryd.ntmps35
      go_wp2
      go_ret
      exact ⟨v, rfl, by rw [HF.out, List.append_nil]; exact HB.out, World.grownBy.refl _ _, NewOr.refl _ _⟩
/-- At the walk: append of a string's bytes. -/
theorem wpList_append_text {w : World} {ops : Array Oper} {rest : List Oper} {o : Oper} {a : Act} {Q : Exit → Act → World → Prop} (hgd : o.guard = none) (s x : Operand)
    (ho : o.op = .call { callee := .builtin .append, args := #[s, x], argTypes := #[39, 9] }) (base : Nat) (v : Value) (l : List UInt8) (h : BRow w base v l) (hbase : base ≤ w.heap.size)
    (t : ByteArray) (hs : a.eval s = v) (hx : a.eval x = .string t) (hlen : l.length + t.size ≤ 140737488355328)
    (K : ∀ v' w', BRow w' base v' (l ++ t.data.toList) → w.grownBy w' v.ownBlock → NewOr w v v' → wpList Tryd.prog ops Q rest (a.put o.dst v') w') : wpList Tryd.prog ops Q (o :: rest) a w := by
  refine wpList_plain hgd fun K' hK => ?_
  obtain ⟨v', w', hr, h2, h3, h4⟩ := run_append_brow_string h hbase t hlen o.type
  unfold Oper.wp execOp
  simp only [ho, resolve, invoke, builtin, Sem.run_bind, Sem.run_pure, Result.andThen_ok, List.map_toArray, List.map_cons, List.map_nil, hs, hx, hr]
  exact hK _ _ (K v' w' h2 h3 h4)
end Go.Proofs.YtdclfffjiokenaaDoor
