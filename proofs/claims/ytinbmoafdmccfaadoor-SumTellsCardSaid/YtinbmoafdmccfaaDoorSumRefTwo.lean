/- The walks of the reference's Carry and Join. -/
import Derived.Test.YtinbmoafdmccfaaDoorSumRef
namespace Go.Proofs.YtinbmoafdmccfaaDoor
open Go.RowKit

structure Kp (p : Prop) : Prop where
  out : p
/-- A carrier over so many steps: its cells. -/
def carr (n k : Nat) : List Value := (List.range k).map fun j => .int .u32 (Crc.steps n (2 ^ j) : Nat)
theorem carr_len (n k : Nat) : (carr n k).length = k := by simp [carr]
theorem carr_get (n k j : Nat) (h : j < k) : (carr n k)[j]? = some (.int .u32 (Crc.steps n (2 ^ j) : Nat)) := by
  simp [carr, List.getElem?_range h]
theorem carr_succ (n k : Nat) : carr n (k + 1) = carr n k ++ [.int .u32 (Crc.steps n (2 ^ k) : Nat)] := by
  simp [carr, List.range_succ]
/-- The loop of apply. -/
def applied (n c i : Nat) : Nat := Crc.steps n (c % 2 ^ i)
theorem applied_lt (n c i : Nat) (hc : c < 4294967296) : applied n c i < 4294967296 := Crc.steps_lt n (Nat.lt_of_le_of_lt (Nat.mod_le _ _) hc)
theorem applied_zero (n c : Nat) : applied n c 0 = 0 := by unfold applied; rw [Nat.pow_zero, Nat.mod_one, Crc.steps_zero]
theorem applied_one (n c i : Nat) (h : c / 2 ^ i % 2 = 1) : applied n c (i + 1) = applied n c i ^^^ Crc.steps n (2 ^ i) := by
  unfold applied
  rw [Crc.mod_succ_bit, Crc.testBit_div, Crc.steps_xor, Nat.xor_comm]
  simp [h]
theorem applied_none (n c i : Nat) (h : ¬ c / 2 ^ i % 2 = 1) : applied n c (i + 1) = applied n c i := by
  unfold applied
  rw [Crc.mod_succ_bit, Crc.testBit_div, Crc.steps_xor]
  simp [h, Crc.steps_zero]
theorem applied_32 (n c : Nat) (hc : c < 4294967296) : applied n c 32 = Crc.steps n c := by
  unfold applied; rw [Nat.mod_eq_of_lt hc]
theorem pow2_lt {i : Nat} (h : i < 32) : 2 ^ i < 4294967296 := by
  have := Nat.pow_le_pow_right (show 0 < 2 by decide) (show i ≤ 31 by omega)
  omega
theorem apply_any (g cap n c : Nat) (w : World) (hc : c < 4294967296) (hcell : ∀ j : Nat, j < 32 → w.cell? ⟨g, j, none⟩ = some (.int .u32 (Crc.steps n (2 ^ j) : Nat))) :
    Calls Tryd.prog 30 #[.slice (some ⟨g, 0, none⟩) 32 cap, .int .u32 c] w fun e w' => e = .returned (.int .u32 (Crc.steps n c : Nat)) ∧ w = w' := by
  have HC : Kp (∀ j : Nat, j < 32 → w.cell? ⟨g, j, none⟩ = some (.int .u32 (Crc.steps n (2 ^ j) : Nat))) := ⟨hcell⟩
  clear hcell
  go_enter Tryd.func30, Tryd.ntmps30
  go_wp2
  go_loop [5, 6] (fun x i => ∃ k : Nat, k ≤ 32 ∧ i = .int .i64 k ∧ x = .int .u32 (applied n c k : Nat)) (fun _ i => 32 - (intOf i).toNat)
  case atStart => exact ⟨0, by omega, rfl, by rw [applied_zero]; rfl⟩
  case round =>
    obtain ⟨k, hk, rfl, rfl⟩ := hrel
    have hx := applied_lt n c k hc
    by_cases h32 : k < 32
    · have hcl := HC.out k h32
      have hs : Crc.steps n (2 ^ k) < 4294967296 := Crc.steps_lt n (pow2_lt h32)
      have hq : ((c : Int) / 2 ^ k) = ((c / 2 ^ k : Nat) : Int) := by simp
      by_cases hb : c / 2 ^ k % 2 = 1
      · have HN : Kp (applied n c (k + 1) = applied n c k ^^^ Crc.steps n (2 ^ k)) := ⟨applied_one n c k hb⟩
        have hx32 := x32 hx hs
        generalize c / 2 ^ k = q at hb hq
        have ht : ((q : Int) % 2 == 1) = true := by rw [beq_iff_eq]; omega
        clear hb
        generalize applied n c k = x at hx HN hx32
        generalize Crc.steps n (2 ^ k) = y at hcl hs HN hx32
        go_wp2
        go_round
        case rel => exact ⟨k + 1, by omega, by go_num, by rw [HN.out]⟩
        case measure => simp [intOf]; omega
      · have HN : Kp (applied n c (k + 1) = applied n c k) := ⟨applied_none n c k hb⟩
        generalize c / 2 ^ k = q at hb hq
        have ht : ((q : Int) % 2 == 1) = false := by rw [beq_eq_false_iff_ne]; omega
        clear hb hcl
        generalize applied n c k = x at hx HN
        go_wp2
        go_round
        case rel => exact ⟨k + 1, by omega, by go_num, by rw [HN.out]⟩
        case measure => simp [intOf]; omega
    · obtain rfl : k = 32 := by omega
      rw [applied_32 n c hc] at hx ⊢
      go_wp2
      go_ret
      exact ⟨rfl, rfl⟩

theorem infoNum : (Tryd.prog.info? 23).map (fun i => (i.zero, i.size, i.bytes)) = some (some (.int .u32 0), 1, 4) := by kernel_rfl
theorem one_one (x : Int) : ∀ u ∈ [Value.int .u32 x], u.oneCell' = true := by
  intro u hu
  rw [List.mem_singleton] at hu
  subst hu; rfl
set_option maxHeartbeats 400000 in
theorem twice_any (g cap n : Nat) (w : World) (hcell : ∀ j : Nat, j < 32 → w.cell? ⟨g, j, none⟩ = some (.int .u32 (Crc.steps n (2 ^ j) : Nat))) :
    Calls Tryd.prog 31 #[.slice (some ⟨g, 0, none⟩) 32 cap] w fun e w' => ∃ v, e = .returned v ∧ w'.ownsRow w.heap.size 23 1 v 32 (carr (n + n) 32) ∧ Below w.heap.size w w' := by
  obtain ⟨i0, hi, hz0, hz1, hz2⟩ := info_parts infoNum
  have hg : g < w.heap.size := World.block_lt_of_cell? w _ (hcell 0 (by decide))
  have HC : Kp (∀ j : Nat, j < 32 → w.cell? ⟨g, j, none⟩ = some (.int .u32 (Crc.steps n (2 ^ j) : Nat))) := ⟨hcell⟩
  clear hcell
  go_enter Tryd.func31, Tryd.ntmps31
  go_wp2
  go_loopw [3, 4] (fun v i wr => ∃ k : Nat, k ≤ 32 ∧ i = .int .i64 k ∧ wr.ownsRow w.heap.size 23 1 v k (carr (n + n) k) ∧ Below w.heap.size w wr) (fun _ i _ => 32 - (intOf i).toNat)
  case atStart => exact ⟨0, by omega, rfl, World.ownsRow_nil _ _ _ _, Below.refl _ _⟩
  case round =>
    obtain ⟨k, hk, rfl, hown, hbel⟩ := hrel
    by_cases h32 : k < 32
    · have HCr : Kp (∀ j : Nat, j < 32 → wr.cell? ⟨g, j, none⟩ = some (.int .u32 (Crc.steps n (2 ^ j) : Nat))) := ⟨fun j hj => (hbel.cell (p := ⟨g, j, none⟩) hg).trans (HC.out j hj)⟩
      have hcl := HCr.out k h32
      have hs : Crc.steps n (2 ^ k) < 4294967296 := Crc.steps_lt n (pow2_lt h32)
      have HS : Kp (Crc.steps n (Crc.steps n (2 ^ k)) = Crc.steps (n + n) (2 ^ k)) := ⟨(Crc.steps_add n n _).symm⟩
      generalize Crc.steps n (2 ^ k) = y at hcl hs HS
      go_wp2_with fail
      refine (apply_any g cap n y _ hs HCr.out).mono ?_
      rw [HS.out]
      rintro e w' ⟨rfl, rfl⟩
      have hsz : w.heap.size ≤ (wr.alloc (.cells #[.int .u32 (Crc.steps (n + n) (2 ^ k) : Nat)] 23 (0, 0))).heap.size := by have := hbel.size; simp; omega
      go_wp2_with (at_builtin; go_loud (refine wpList_append_own _ rfl _ _ 45 rfl w.heap.size 23 i0 (.int .u32 0) 1 4 Tryd.underlying45 hi hz0 hz1 hz2 rfl (by decide) _ _ _ rfl (hown.alloc _) ⟨wr.heap.size, 0, none⟩ 1 1 [.int .u32 (Crc.steps (n + n) (2 ^ k) : Nat)] rfl rfl (cell_one_new _ _ _) (one_one _) (by unfold maxLen; omega) (by omega) hsz ?_; intro v' w1 hown' hgrow _))
      have HO : Kp (w1.ownsRow w.heap.size 23 1 v' (k + 1) (carr (n + n) (k + 1))) := ⟨by rw [carr_succ]; exact hown'⟩
      have HB : Kp (Below w.heap.size w w1) := ⟨(hbel.alloc hbel.size _).grown hgrow (by have := hbel.size; simp; omega) (fun j hj => (hown.lt j hj).1)⟩
      clear hown' hgrow hown hbel
      go_wp2
      go_roundw
      case rel => exact ⟨k + 1, by omega, by go_num, HO.out, HB.out⟩
      case measure => simp [intOf]; omega
    · obtain rfl : k = 32 := by omega
      go_wp2
      go_ret
      exact ⟨_, rfl, hown, hbel⟩
end Go.Proofs.YtinbmoafdmccfaaDoor
