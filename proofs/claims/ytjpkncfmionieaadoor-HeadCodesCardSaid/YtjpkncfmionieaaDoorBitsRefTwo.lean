/- The walks of the reference of chapter 1, part 2: what reads. -/
import Derived.Test.YtjpkncfmionieaaDoorBitsRef
namespace Go.Proofs.YtjpkncfmionieaaDoor
open Go.RowKit
set_option linter.unusedVariables false

/-- Where an error comes there is no number; else there are no more bytes read than there are. -/
theorem Var.go_ends (l : List UInt8) : ∀ (i acc : Nat), ((Var.go l i acc).2.2 ≠ 0 → (Var.go l i acc).1 = 0) ∧ ((Var.go l i acc).2.2 = 0 → (Var.go l i acc).2.1 ≤ i + l.length) := by
  induction l with
  | nil => intro i acc; simp [Var.go]
  | cons b r ih =>
    intro i acc
    rw [Var.go]
    split
    · simp
    · split
      · simp
      · have := ih (i + 1) (acc + (b.toNat - 128) * 2 ^ (7 * i))
        refine ⟨this.1, fun h => ?_⟩
        have := this.2 h
        simp; omega
theorem mod128 {b : Nat} (h : b < 256) : (128 ≤ b → b % 128 = b - 128) ∧ (b < 128 → b % 128 = b) := by omega
theorem ref_val {k b acc : Nat} (hk : k ≤ 9) (h9 : k = 9 → b % 128 ≤ 1) (ha : acc < 2 ^ (7 * k)) : IntKind.u64.wrap ((acc : Int) + IntKind.u64.wrap (((2 ^ (7 * k) : Nat) : Int) * ((b : Int) % 128))) = ((acc + b % 128 * 2 ^ (7 * k) : Nat) : Int) := by
  obtain ⟨h1, h2, h3⟩ := Var.go_fits (b := b % 128) hk h9 (Nat.mod_lt _ (by decide)) ha
  have e : (((2 ^ (7 * k) : Nat) : Int) * ((b : Int) % 128)) = ((b % 128 * 2 ^ (7 * k) : Nat) : Int) := by
    rw [show (b : Int) % 128 = ((b % 128 : Nat) : Int) from by omega, ← Int.natCast_mul, Nat.mul_comm]
  rw [e, IntKind.wrap_u64, IntKind.wrap_u64, Int.emod_eq_of_lt (a := ((b % 128 * 2 ^ (7 * k) : Nat) : Int)) (by omega) (by omega)]
  rw [← Int.natCast_add, Int.emod_eq_of_lt (by omega) (by omega)]
theorem times_next {k : Nat} (hk : k ≤ 8) : 2 ^ (7 * k) * 128 = 2 ^ (7 * (k + 1)) ∧ 2 ^ (7 * k) * 128 < 18446744073709551616 := by
  have e : 2 ^ (7 * (k + 1)) = 2 ^ (7 * k) * 128 := by rw [Nat.mul_add, Nat.pow_add]
  have := Var.pow_le9 hk
  exact ⟨e.symm, by omega⟩
set_option maxRecDepth 20000 in
theorem refRead_any (s : ByteArray) (w : World) (hs : s.size ≤ 140737488351232) :
    Calls Tryd.prog 86 #[.string s] w fun e w' => e = tup3 (Var.go s.data.toList 0 0) ∧ w = w' := by
  go_enter Tryd.func86, Tryd.ntmps86
  go_wp2
  go_loop [5, 6, 7] (fun n t i => ∃ k acc : Nat, k ≤ 9 ∧ k ≤ s.size ∧ acc < 2 ^ (7 * k) ∧ n = .int .u64 acc ∧ t = .int .u64 (2 ^ (7 * k) : Nat) ∧ i = .int .i64 k ∧ Var.go s.data.toList 0 0 = Var.go (s.data.toList.drop k) k acc) (fun _ _ i => 10 - (intOf i).toNat)
  case atStart => exact ⟨0, 0, by omega, by omega, by simp, rfl, rfl, rfl, rfl⟩
  case round =>
    obtain ⟨k, acc, hk, hak, hacc, rfl, rfl, rfl, hgo⟩ := hrel
    have HG := Kp.mk hgo
    have HAcc := Kp.mk hacc
    clear hgo hacc
    by_cases hend : k = s.size
    · have HS : Kp (Var.go s.data.toList 0 0 = (0, 0, 8)) := ⟨by rw [HG.out, Var.go_short _ _ _ _ (by simp; omega)]⟩
      generalize 2 ^ (7 * k) = T
      go_wp2
      go_ret3
      exact ⟨by rw [HS.out]; rfl, rfl⟩
    have hlt : k < s.size := by omega
    have HC := Var.go_cons s.data.toList k k acc (by simpa using hlt)
    have e : s.data.toList[k]'(by simpa using hlt) = s[k] := rfl
    rw [e] at HC
    have HC := Kp.mk HC
    have hb := UInt8.toNat_lt s[k]
    by_cases hf : k = 9 ∧ 1 < s[k].toNat
    · have HS : Kp (Var.go s.data.toList 0 0 = (0, 0, 4)) := ⟨by rw [HG.out, HC.out, if_pos hf]⟩
      obtain ⟨hk9, hb1⟩ := hf
      subst hk9
      clear HC e
      go_wp2
      go_ret3
      exact ⟨by rw [HS.out]; rfl, rfl⟩
    by_cases h128 : s[k].toNat < 128
    · have HS : Kp (Var.go s.data.toList 0 0 = (acc + s[k].toNat % 128 * 2 ^ (7 * k), k + 1, 0)) := ⟨by rw [HG.out, HC.out, if_neg hf, if_pos h128, Nat.mod_eq_of_lt h128]⟩
      have HO := Kp.mk (ref_val (b := s[k].toNat) hk (by omega) HAcc.out)
      have t2 : decide ((s[k].toNat : Int) < 128) = true := by rw [decide_eq_true_eq]; omega
      clear HC e
      by_cases hk9 : k = 9
      · subst hk9
        have t1 : decide (1 < (s[9].toNat : Int)) = false := by rw [decide_eq_false_iff_not]; omega
        generalize 2 ^ (7 * 9) = T at HO HS ⊢
        go_wp2
        go_ret3
        refine ⟨?_, rfl⟩
        rw [HS.out]
        unfold tup3
        simp only [Array.getD_eq_getD_getElem?]
        simp [HO.out]
      · have t1 : ((k : Int) == 9) = false := by rw [beq_eq_false_iff_ne]; omega
        generalize 2 ^ (7 * k) = T at HO HS ⊢
        go_wp2
        go_ret3
        refine ⟨?_, rfl⟩
        rw [HS.out]
        unfold tup3
        simp only [Array.getD_eq_getD_getElem?]
        simp [HO.out]
    · have hk9 : k ≠ 9 := fun h => hf ⟨h, by omega⟩
      have HS : Kp (Var.go s.data.toList 0 0 = Var.go (s.data.toList.drop (k + 1)) (k + 1) (acc + s[k].toNat % 128 * 2 ^ (7 * k))) := ⟨by rw [HG.out, HC.out, if_neg hf, if_neg h128, (mod128 hb).1 (by omega)]⟩
      have HO := Kp.mk (ref_val (b := s[k].toNat) hk (by omega) HAcc.out)
      have HN := Kp.mk (Var.go_next (b := s[k].toNat % 128) (Nat.mod_lt _ (by decide)) HAcc.out)
      have HT := Kp.mk (times_next (k := k) (by omega)).1
      have hT := (times_next (k := k) (by omega)).2
      have t1 : ((k : Int) == 9) = false := by rw [beq_eq_false_iff_ne]; omega
      have t2 : decide ((s[k].toNat : Int) < 128) = false := by rw [decide_eq_false_iff_not]; omega
      clear HC e hf h128 hend
      generalize 2 ^ (7 * k) = T at HO HS HN HT hT ⊢
      go_wp2
      go_round
      case rel =>
        refine ⟨k + 1, acc + s[k].toNat % 128 * T, by omega, by omega, HN.out, ?_, ?_, by go_num, HS.out⟩
        · rw [HO.out]
        · rw [← HT.out]; go_num
      case measure => simp [intOf]; omega
set_option maxRecDepth 20000 in
theorem refUvarint_any (s : ByteArray) (p : Int) (w : World) (hs : s.size ≤ 140737488351232) (h1 : -9223372036854775808 ≤ p) (h2 : p ≤ 9223372036854775807) :
    Calls Tryd.prog 78 #[.string s, .int .i64 p] w fun e w' => e = tup3 (Var.uvI s.data.toList p) ∧ w = w' := by
  by_cases h0 : p < 0
  · have HV : Kp (Var.uvI s.data.toList p = (0, 0, 1)) := ⟨by simp [Var.uvI, h0]⟩
    go_enter Tryd.func78, Tryd.ntmps78
    go_wp2
    go_ret3
    exact ⟨by rw [HV.out]; rfl, rfl⟩
  by_cases hp : (s.size : Int) < p
  · have HV : Kp (Var.uvI s.data.toList p = (0, 0, 1)) := ⟨by simp [Var.uvI, hp]⟩
    go_enter Tryd.func78, Tryd.ntmps78
    go_wp2
    go_ret3
    exact ⟨by rw [HV.out]; rfl, rfl⟩
  obtain ⟨a, rfl⟩ := Int.eq_ofNat_of_zero_le (show 0 ≤ p by omega)
  have ha : a ≤ s.size := by omega
  have t4 : decide ((a : Int) < 0) = false := by rw [decide_eq_false_iff_not]; omega
  have t5 : decide (s.size < a) = false := by rw [decide_eq_false_iff_not]; omega
  have t6 : decide ((s.size : Int) < (a : Int)) = false := by rw [decide_eq_false_iff_not]; omega
  clear h0 hp h1 h2
  have hx : (s.extract a s.size).data.toList = s.data.toList.drop a := by
    have := extract_list s a (s.size - a)
    rw [show a + (s.size - a) = s.size from by omega] at this
    rw [this, List.take_of_length_le (by simp)]
  have hxs : (s.extract a s.size).size ≤ 140737488351232 := by rw [ByteArray.size_extract]; omega
  have HV : Kp (Var.uvI s.data.toList a = Var.uv s.data.toList a) := ⟨by simp [Var.uvI]; omega⟩
  have HR : Kp (∀ w, Calls Tryd.prog 86 #[.string (s.extract a s.size)] w fun e w' => e = tup3 (Var.go (s.data.toList.drop a) 0 0) ∧ w = w') := ⟨fun w => by
    have := refRead_any (s.extract a s.size) w hxs
    rwa [hx] at this⟩
  clear hx hxs
  have HU : Kp (Var.uv s.data.toList a = ((Var.go (s.data.toList.drop a) 0 0).1, if (Var.go (s.data.toList.drop a) 0 0).2.2 = 0 then a + (Var.go (s.data.toList.drop a) 0 0).2.1 else 0, (Var.go (s.data.toList.drop a) 0 0).2.2)) := ⟨rfl⟩
  have hg := Var.go_ends (s.data.toList.drop a) 0 0
  generalize Var.go (s.data.toList.drop a) 0 0 = r at HR HU hg
  obtain ⟨n, k, e⟩ := r
  obtain ⟨hg1, hg2⟩ := hg
  simp only [] at hg1 hg2 HU
  by_cases he : e = 0
  · subst he
    have hk : k ≤ s.size := by have := hg2 rfl; simp at this; omega
    have HU2 : Kp (Var.uvI s.data.toList a = (n, a + k, 0)) := ⟨by rw [HV.out, HU.out]; rfl⟩
    clear hg1 hg2
    go_enter Tryd.func78, Tryd.ntmps78
    go_wp2_with fail
    refine (HR.out _).mono ?_
    rintro e w' ⟨rfl, rfl⟩
    unfold tup3
    go_wp2
    go_ret3
    exact ⟨by rw [HU2.out]; rfl, rfl⟩
  · obtain rfl := hg1 he
    have t7 : ((e : Int) != 0) = true := by rw [bne_iff_ne]; omega
    have HU2 : Kp (Var.uvI s.data.toList a = (0, 0, e)) := ⟨by rw [HV.out, HU.out, if_neg he]⟩
    clear hg1 hg2
    go_enter Tryd.func78, Tryd.ntmps78
    go_wp2_with fail
    refine (HR.out _).mono ?_
    rintro e w' ⟨rfl, rfl⟩
    unfold tup3
    go_wp2
    go_ret3
    exact ⟨by rw [HU2.out]; rfl, rfl⟩
end Go.Proofs.YtjpkncfmionieaaDoor
