/- The walks of package bits, part 3: what reads numbers. -/
import Derived.Test.YtdclfffjiokenaaDoorBits
namespace Go.Proofs.YtdclfffjiokenaaDoor
open Go.RowKit
set_option linter.unusedVariables false

theorem data_len (s : ByteArray) : s.data.toList.length = s.size := by simp
namespace Var
/-- The varint at any place: number, place behind it, error. -/
def uvI (l : List UInt8) (at' : Int) : Nat × Nat × Nat := if at' < 0 ∨ (l.length : Int) < at' then (0, 0, 1) else uv l at'.toNat
theorem go_short (l : List UInt8) (p k acc : Nat) (h : l.length ≤ p) : go (l.drop p) k acc = (0, 0, 8) := by rw [List.drop_eq_nil_of_le h]; rfl
theorem go_cons (l : List UInt8) (p k acc : Nat) (h : p < l.length) : go (l.drop p) k acc = if k = 9 ∧ 1 < l[p].toNat then (0, 0, 4) else if l[p].toNat < 128 then (acc + l[p].toNat * 2 ^ (7 * k), k + 1, 0) else go (l.drop (p + 1)) (k + 1) (acc + (l[p].toNat - 128) * 2 ^ (7 * k)) := by
  rw [List.drop_eq_getElem_cons h, go]
theorem andNot128 : ∀ k, 128 ≤ k → k < 256 → k &&& (18446744073709551615 - 128) = k - 128 := by
  have h : ∀ k : Fin 256, 128 ≤ k.val → k.val &&& (18446744073709551615 - 128) = k.val - 128 := by decide +kernel
  exact fun k h1 h2 => h ⟨k, h2⟩ h1
theorem or_join {acc b k : Nat} (h : acc < 2 ^ (7 * k)) : acc ||| b * 2 ^ (7 * k) = acc + b * 2 ^ (7 * k) := by
  rw [Nat.or_comm, nat_join (7 * k) _ _ (Nat.mul_mod_left _ _) h, Nat.add_comm]
theorem pow_le9 {k : Nat} (h : k ≤ 8) : 2 ^ (7 * k) ≤ 72057594037927936 := by have := Nat.pow_le_pow_right (show 0 < 2 by decide) (show 7 * k ≤ 56 by omega); simpa using this
theorem go_fits {k b acc : Nat} (hk : k ≤ 9) (h9 : k = 9 → b ≤ 1) (hb : b < 128) (ha : acc < 2 ^ (7 * k)) : b * 2 ^ (7 * k) < 18446744073709551616 ∧ acc < 18446744073709551616 ∧ acc + b * 2 ^ (7 * k) < 18446744073709551616 := by
  by_cases h : k = 9
  · subst h
    have := h9 rfl
    have e : (2 : Nat) ^ (7 * 9) = 9223372036854775808 := rfl
    rw [e] at ha ⊢
    omega
  · have h1 := pow_le9 (k := k) (by omega)
    have h2 : b * 2 ^ (7 * k) ≤ 127 * 2 ^ (7 * k) := Nat.mul_le_mul_right _ (by omega)
    omega
theorem go_next {k b acc : Nat} (hb : b < 128) (ha : acc < 2 ^ (7 * k)) : acc + b * 2 ^ (7 * k) < 2 ^ (7 * (k + 1)) := by
  have e : 2 ^ (7 * (k + 1)) = 128 * 2 ^ (7 * k) := by rw [Nat.mul_add, Nat.pow_add, Nat.mul_comm]
  have h2 : b * 2 ^ (7 * k) ≤ 127 * 2 ^ (7 * k) := Nat.mul_le_mul_right _ (by omega)
  omega
end Var
theorem or_val {k b acc : Nat} (hk : k ≤ 9) (h9 : k = 9 → b ≤ 1) (hb : b < 128) (ha : acc < 2 ^ (7 * k)) : bits .or .u64 (acc : Int) (IntKind.u64.wrap ((b : Int) * 2 ^ (7 * k))) = ((acc + b * 2 ^ (7 * k) : Nat) : Int) := by
  obtain ⟨h1, h2, h3⟩ := Var.go_fits hk h9 hb ha
  have e : ((b : Int) * 2 ^ (7 * k)) = ((b * 2 ^ (7 * k) : Nat) : Int) := by simp
  rw [e, IntKind.wrap_u64, Int.emod_eq_of_lt (by omega) (by omega), u64_or_nat _ _ h2 h1, Var.or_join ha]
theorem andNot_val {b : Nat} (h1 : 128 ≤ b) (h2 : b < 256) : bits .andNot .u64 (b : Int) 128 = ((b - 128 : Nat) : Int) := by
  rw [show (128 : Int) = ((128 : Nat) : Int) from rfl, u64_andNot_nat _ _ (by omega) (by decide), Var.andNot128 b h1 h2]
def tup3 (r : Nat × Nat × Nat) : Ending := .returned (.tuple #[.int .u64 r.1, .int .i64 r.2.1, .int .i64 r.2.2])
set_option maxRecDepth 20000 in
theorem fixedu32_any (s : ByteArray) (w : World) (hs : s.size = 4) :
    Calls Tryd.prog 51 #[.string s] w fun e w' => e = .returned (.int .u32 (Var.fv s.data.toList : Nat)) ∧ w = w' := by
  have hle : s.size ≤ 140737488351232 := by omega
  go_enter Tryd.func51, Tryd.ntmps51
  go_wp2
  go_loop [3, 4] (fun n i => ∃ k : Nat, k ≤ s.size ∧ i = .int .i64 ((k : Int) - 1) ∧ n = .int .u32 (Var.fv (s.data.toList.drop k) : Nat)) (fun _ i => (intOf i + 1).toNat)
  case atStart => exact ⟨s.size, by omega, by go_num, by rw [List.drop_eq_nil_of_le (by simp)]; rfl⟩
  case round =>
    obtain ⟨k, hk, rfl, rfl⟩ := hrel
    cases k with
    | zero =>
      go_wp2
      go_ret
      exact ⟨rfl, rfl⟩
    | succ k =>
      have hcast : ((k + 1 : Nat) : Int) - 1 = (k : Int) := by omega
      have hf := Var.fv_lt (s.data.toList.drop (k + 1))
      have HV : Kp (Var.fv (s.data.toList.drop k) = s[k].toNat + 256 * Var.fv (s.data.toList.drop (k + 1))) := ⟨by
        rw [List.drop_eq_getElem_cons (show k < s.data.toList.length by rw [data_len]; omega), Var.fv]; rfl⟩
      have hlen : (s.data.toList.drop (k + 1)).length ≤ 3 := by simp; omega
      have hb : Var.fv (s.data.toList.drop (k + 1)) * 256 < 4294967296 := by
        have := Nat.pow_le_pow_right (show 0 < 256 by decide) hlen
        omega
      generalize Var.fv (s.data.toList.drop (k + 1)) = f at hf hb HV
      have hc := UInt8.toNat_lt s[k]
      have HO : Kp (bits .or .u32 ((f : Int) * 256) (s[k].toNat : Int) = ((Var.fv (s.data.toList.drop k) : Nat) : Int)) := ⟨by
        rw [show (f : Int) * 256 = ((f * 256 : Nat) : Int) from by omega, u32_or_nat _ _ hb (by omega), HV.out, nat_join 8 _ _ (by omega) (by omega)]
        omega⟩
      clear hf HV hlen
      rw [hcast]
      go_wp2
      exact ⟨⟨k, by omega, rfl, by rw [HO.out]⟩, by simp [intOf]⟩
set_option maxRecDepth 20000 in
theorem fixedu64_any (s : ByteArray) (w : World) (hs : s.size = 8) :
    Calls Tryd.prog 52 #[.string s] w fun e w' => e = .returned (.int .u64 (Var.fv s.data.toList : Nat)) ∧ w = w' := by
  have hle : s.size ≤ 140737488351232 := by omega
  go_enter Tryd.func52, Tryd.ntmps52
  go_wp2
  go_loop [3, 4] (fun n i => ∃ k : Nat, k ≤ s.size ∧ i = .int .i64 ((k : Int) - 1) ∧ n = .int .u64 (Var.fv (s.data.toList.drop k) : Nat)) (fun _ i => (intOf i + 1).toNat)
  case atStart => exact ⟨s.size, by omega, by go_num, by rw [List.drop_eq_nil_of_le (by simp)]; rfl⟩
  case round =>
    obtain ⟨k, hk, rfl, rfl⟩ := hrel
    cases k with
    | zero =>
      go_wp2
      go_ret
      exact ⟨rfl, rfl⟩
    | succ k =>
      have hcast : ((k + 1 : Nat) : Int) - 1 = (k : Int) := by omega
      have hf := Var.fv_lt (s.data.toList.drop (k + 1))
      have HV : Kp (Var.fv (s.data.toList.drop k) = s[k].toNat + 256 * Var.fv (s.data.toList.drop (k + 1))) := ⟨by
        rw [List.drop_eq_getElem_cons (show k < s.data.toList.length by rw [data_len]; omega), Var.fv]; rfl⟩
      have hlen : (s.data.toList.drop (k + 1)).length ≤ 7 := by simp; omega
      have hb : Var.fv (s.data.toList.drop (k + 1)) * 256 < 18446744073709551616 := by
        have := Nat.pow_le_pow_right (show 0 < 256 by decide) hlen
        omega
      generalize Var.fv (s.data.toList.drop (k + 1)) = f at hf hb HV
      have hc := UInt8.toNat_lt s[k]
      have HO : Kp (bits .or .u64 ((f : Int) * 256) (s[k].toNat : Int) = ((Var.fv (s.data.toList.drop k) : Nat) : Int)) := ⟨by
        rw [show (f : Int) * 256 = ((f * 256 : Nat) : Int) from by omega, u64_or_nat _ _ hb (by omega), HV.out, nat_join 8 _ _ (by omega) (by omega)]
        omega⟩
      clear hf HV hlen
      rw [hcast]
      go_wp2
      exact ⟨⟨k, by omega, rfl, by rw [HO.out]⟩, by simp [intOf]⟩
theorem extract_list (s : ByteArray) (a n : Nat) : (s.extract a (a + n)).data.toList = (s.data.toList.drop a).take n := by
  rw [ByteArray.data_extract, Array.toList_extract, List.extract_eq_take_drop, Nat.add_sub_cancel_left]
/-- The fixed number at any place. -/
def Var.fixI (l : List UInt8) (p size : Int) : Nat × Nat × Nat := if size ≠ 4 ∧ size ≠ 8 ∨ p < 0 ∨ (l.length : Int) < p then (0, 0, 1) else if (l.length : Int) - p < size then (0, 0, 8) else (Var.fv ((l.drop p.toNat).take size.toNat), p.toNat + size.toNat, 0)
set_option maxRecDepth 20000 in
theorem Fixed_any (s : ByteArray) (p size : Int) (w : World) (hs : s.size ≤ 140737488351232) (h1 : -9223372036854775808 ≤ p) (h2 : p ≤ 9223372036854775807) :
    Calls Tryd.prog 43 #[.string s, .int .i64 p, .int .i64 size] w fun e w' => e = tup3 (Var.fixI s.data.toList p size) ∧ w = w' := by
  by_cases hz : size ≠ 4 ∧ size ≠ 8
  · have HV : Kp (Var.fixI s.data.toList p size = (0, 0, 1)) := ⟨by simp [Var.fixI, hz]⟩
    have t4 : (size != 4) = true := by rw [bne_iff_ne]; omega
    have t8 : (size != 8) = true := by rw [bne_iff_ne]; omega
    clear hz
    go_enter Tryd.func43, Tryd.ntmps43
    go_wp2
    go_ret3
    exact ⟨by rw [HV.out]; rfl, rfl⟩
  by_cases h0 : p < 0
  · have HV : Kp (Var.fixI s.data.toList p size = (0, 0, 1)) := ⟨by simp [Var.fixI, h0]⟩
    have t1 : decide (p < 0) = true := by rw [decide_eq_true_eq]; omega
    rcases (show size = 4 ∨ size = 8 by omega) with rfl | rfl
    all_goals
      go_enter Tryd.func43, Tryd.ntmps43
      go_wp2
      go_ret3
      exact ⟨by rw [HV.out]; rfl, rfl⟩
  by_cases hp : (s.size : Int) < p
  · have HV : Kp (Var.fixI s.data.toList p size = (0, 0, 1)) := ⟨by simp [Var.fixI, hp]⟩
    have t1 : decide (p < 0) = false := by rw [decide_eq_false_iff_not]; omega
    have t2 : decide ((s.size : Int) < p) = true := by rw [decide_eq_true_eq]; omega
    rcases (show size = 4 ∨ size = 8 by omega) with rfl | rfl
    all_goals
      go_enter Tryd.func43, Tryd.ntmps43
      go_wp2
      go_ret3
      exact ⟨by rw [HV.out]; rfl, rfl⟩
  obtain ⟨a, rfl⟩ := Int.eq_ofNat_of_zero_le (show 0 ≤ p by omega)
  have ha : a ≤ s.size := by omega
  have t1 : decide ((a : Int) < 0) = false := by rw [decide_eq_false_iff_not]; omega
  have t2 : decide (s.size < a) = false := by rw [decide_eq_false_iff_not]; omega
  by_cases hsh : (s.size : Int) - a < size
  · have HV : Kp (Var.fixI s.data.toList a size = (0, 0, 8)) := ⟨by unfold Var.fixI; rw [if_neg (by simp; omega), if_pos (by simpa using hsh)]⟩
    rcases (show size = 4 ∨ size = 8 by omega) with rfl | rfl
    all_goals
      go_enter Tryd.func43, Tryd.ntmps43
      go_wp2
      go_ret3
      exact ⟨by rw [HV.out]; rfl, rfl⟩
  have HV : Kp (Var.fixI s.data.toList a size = (Var.fv ((s.data.toList.drop a).take size.toNat), a + size.toNat, 0)) := ⟨by unfold Var.fixI; rw [if_neg (by simp; omega), if_neg (by simpa using hsh)]; rfl⟩
  rcases (show size = 4 ∨ size = 8 by omega) with rfl | rfl
  · have HV' : Kp (Var.fixI s.data.toList a 4 = (Var.fv ((s.data.toList.drop a).take 4), a + 4, 0)) := ⟨HV.out⟩
    have hf := Var.fv_lt ((s.data.toList.drop a).take 4)
    have hl : ((s.data.toList.drop a).take 4).length = 4 := by simp; omega
    rw [hl] at hf
    have hf : Var.fv ((s.data.toList.drop a).take 4) < 4294967296 := hf
    clear HV hl
    go_enter Tryd.func43, Tryd.ntmps43
    go_wp2_with fail
    refine (fixedu32_any _ w (by rw [ByteArray.size_extract]; omega)).mono ?_
    rw [extract_list]
    generalize Var.fv ((s.data.toList.drop a).take 4) = f at hf HV'
    rintro e w' ⟨rfl, rfl⟩
    go_wp2
    go_ret3
    exact ⟨by rw [HV'.out]; rfl, rfl⟩
  · go_enter Tryd.func43, Tryd.ntmps43
    go_wp2_with fail
    refine (fixedu64_any _ w (by rw [ByteArray.size_extract]; omega)).mono ?_
    rw [extract_list]
    rintro e w' ⟨rfl, rfl⟩
    go_wp2
    go_ret3
    exact ⟨by rw [HV.out]; rfl, rfl⟩
end Go.Proofs.YtdclfffjiokenaaDoor
