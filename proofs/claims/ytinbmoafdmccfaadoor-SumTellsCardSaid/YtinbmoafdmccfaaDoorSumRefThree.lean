/- The walks of the reference's Carry and Join. -/
import Derived.Test.YtinbmoafdmccfaaDoorSumRefTwo
namespace Go.Proofs.YtinbmoafdmccfaaDoor
open Go.RowKit

theorem rbit_zero (x : Nat) : Crc.rbit x 0 = Crc.step x := by rw [Crc.rbit_eq x (by decide), Nat.xor_zero]
theorem _root_.Go.World.ownsRow.lower {w : World} {base base' : Nat} {e : TypeId} {size : Nat} {v : Value} {n : Nat} {xs : List Value} (h : w.ownsRow base e size v n xs) (hb : base' ≤ base) : w.ownsRow base' e size v n xs := by
  refine ⟨h.1, ?_⟩
  rcases h.2 with h2 | ⟨g, cap, cur, h1, h2, h3⟩
  · exact .inl h2
  · exact .inr ⟨g, cap, cur, h1, Nat.le_trans hb h2, h3⟩
theorem carr_cells {w : World} {base : Nat} {v : Value} {n : Nat} (h : w.ownsRow base 23 1 v 32 (carr n 32)) :
    ∃ g cap, v = .slice (some ⟨g, 0, none⟩) 32 cap ∧ ∀ j : Nat, j < 32 → w.cell? ⟨g, j, none⟩ = some (.int .u32 (Crc.steps n (2 ^ j) : Nat)) := by
  rcases h.2 with h2 | ⟨g, cap, cur, h1, h2, h3⟩
  · exact absurd h2.2 (by decide)
  · subst h1
    exact ⟨g, cap, rfl, fun j hj => (h.cellAt j (by omega)).trans (carr_get n 32 j hj)⟩
set_option maxHeartbeats 800000 in
theorem carry_any (c0 : Nat) (n0 : Int) (w : World) (hc0 : c0 < 4294967296) (hn0 : n0 ≤ 9223372036854775807) :
    Calls Tryd.prog 27 #[.int .u32 c0, .int .i64 n0] w fun e w' => e = .returned (.int .u32 (Crc.carry n0.toNat c0 : Nat)) ∧ Below w.heap.size w w' := by
  obtain ⟨i0, hi, hz0, hz1, hz2⟩ := info_parts infoNum
  go_enter Tryd.func27, Tryd.ntmps27
  go_wp2
  go_loopw [5, 6, 7, 8] (fun v i _ _ wr => ∃ k : Nat, k ≤ 32 ∧ i = .int .i64 k ∧ wr.ownsRow w.heap.size 23 1 v k (carr 8 k) ∧ Below w.heap.size w wr) (fun _ i _ _ _ => 32 - (intOf i).toNat)
  case atStart => exact ⟨0, by omega, rfl, World.ownsRow_nil _ _ _ _, Below.refl _ _⟩
  case round =>
    obtain ⟨k, hk, rfl, hown, hbel⟩ := hrel
    by_cases h32 : k < 32
    · have hp := pow2_lt h32
      have hpi : ((2 : Int) ^ k) = ((2 ^ k : Nat) : Int) := by simp
      have HP : Kp (Crc.steps 0 (2 ^ k) = 2 ^ k) := ⟨rfl⟩
      have HO : Kp (wr.ownsRow w.heap.size 23 1 u5 k (carr 8 k)) := ⟨hown⟩
      have HB : Kp (Below w.heap.size w wr) := ⟨hbel⟩
      clear hown hbel
      generalize hx0 : 2 ^ k = x0 at hp hpi HP
      have HX : Kp (x0 = 2 ^ k) := ⟨hx0.symm⟩
      clear hx0
      obtain ⟨wo, rfl⟩ : ∃ wo : World, wo = wr := ⟨_, rfl⟩
      have hd32 : decide ((k : Int) < 32) = true := by simp; omega
      go_wp2
      go_loop [7, 8] (fun x i => ∃ j : Nat, j ≤ 8 ∧ i = .int .i64 j ∧ x = .int .u32 (Crc.steps j x0 : Nat)) (fun _ i => 8 - (intOf i).toNat)
      case atStart => exact ⟨0, by omega, rfl, rfl⟩
      case round =>
        clear hpi
        obtain ⟨j, hj, rfl, rfl⟩ := hrel
        have hx := Crc.steps_lt j hp
        by_cases h8 : j < 8
        · have HS : Kp (Crc.rbit (Crc.steps j x0) 0 = Crc.steps (j + 1) x0) := ⟨by rw [rbit_zero, Crc.steps_succ]⟩
          generalize Crc.steps j x0 = x at hx HS
          go_wp2_with fail
          refine (bit_any x 0 _ hx (by decide)).mono ?_
          rw [HS.out]
          rintro e w' ⟨rfl, rfl⟩
          go_wp2_with fail
          go_round
          case rel => exact ⟨j + 1, by omega, by go_num, rfl⟩
          case measure => simp [intOf]; omega
        · obtain rfl : j = 8 := by omega
          have HE : Kp (carr 8 (k + 1) = carr 8 k ++ [.int .u32 (Crc.steps 8 x0 : Nat)]) := ⟨by rw [carr_succ, HX.out]⟩
          generalize Crc.steps 8 x0 = y at hx HE
          have hsz : w.heap.size ≤ (wo.alloc (.cells #[.int .u32 (y : Nat)] 23 (0, 0))).heap.size := by have := HB.out.size; simp; omega
          go_wp2_with (at_builtin; refine wpList_append_own _ rfl _ _ 45 rfl w.heap.size 23 i0 (.int .u32 0) 1 4 Tryd.underlying45 hi hz0 hz1 hz2 rfl (by decide) _ _ _ rfl (HO.out.alloc _) ⟨wo.heap.size, 0, none⟩ 1 1 [.int .u32 (y : Nat)] rfl rfl (cell_one_new _ _ _) (one_one _) (by unfold maxLen; omega) (by omega) hsz ?_; intro v' w1 hown' hgrow _)
          have HO' : Kp (w1.ownsRow w.heap.size 23 1 v' (k + 1) (carr 8 (k + 1))) := ⟨by rw [HE.out]; exact hown'⟩
          have HB' : Kp (Below w.heap.size w w1) := ⟨(HB.out.alloc HB.out.size _).grown hgrow hsz (fun j hj => (HO.out.lt j hj).1)⟩
          clear hown' hgrow
          go_wp2
          go_roundw
          case rel => exact ⟨k + 1, by omega, by go_num, HO'.out, HB'.out⟩
          case measure => simp [intOf]; omega
    · have hown32 : wr.ownsRow w.heap.size 23 1 u5 32 (carr 8 32) := by
        have e : k = 32 := by omega
        rw [e] at hown; exact hown
      have HO32 : Kp (wr.ownsRow w.heap.size 23 1 u5 32 (carr 8 32)) := ⟨hown32⟩
      have HB32 : Kp (Below w.heap.size w wr) := ⟨hbel⟩
      have hd32 : decide ((k : Int) < 32) = false := by simp; omega
      clear hown hown32 hbel
      obtain ⟨wo, rfl⟩ : ∃ wo : World, wo = wr := ⟨_, rfl⟩
      go_wp2
      go_loopw [0, 1, 5] (fun c n v wr => ∃ (c' i : Nat) (n' : Int), Crc.JoinInv n0.toNat c0 n'.toNat c' i ∧ n' ≤ 9223372036854775807 ∧ c = .int .u32 c' ∧ n = .int .i64 n' ∧ wr.ownsRow w.heap.size 23 1 v 32 (carr (8 * 2 ^ i) 32) ∧ Below w.heap.size w wr) (fun _ n _ _ => (intOf n).toNat)
      case atStart => exact ⟨c0, 0, n0, Crc.JoinInv.start hc0, hn0, rfl, rfl, HO32.out, HB32.out⟩
      case round =>
        obtain ⟨c, i, n, hinv, hn, rfl, rfl, hown, hbel⟩ := hrel
        have hc := hinv.1
        by_cases h0 : 0 < n
        · obtain ⟨g, cap, rfl, hcell⟩ := carr_cells hown
          rcases (show n % 2 = 0 ∨ n % 2 = 1 from by omega) with ho | ho
          · have HN : Kp (Crc.JoinInv n0.toNat c0 (n / 2).toNat c (i + 1)) := ⟨by
              rw [show (n / 2).toNat = n.toNat / 2 from by omega]; exact hinv.even (by omega)⟩
            have HB : Kp (Below w.heap.size w wr) := ⟨hbel⟩
            have ht : (n % 2 == 1) = false := by rw [ho]; decide
            clear hinv ho hown hbel
            go_wp2_with fail
            refine (twice_any g cap (8 * 2 ^ i) _ hcell).mono ?_
            rintro e w1 ⟨v, rfl, hown1, hbel1⟩
            have HO : Kp (w1.ownsRow w.heap.size 23 1 v 32 (carr (8 * 2 ^ (i + 1)) 32)) := ⟨by
              have := hown1.lower HB.out.size
              rw [show 8 * 2 ^ (i + 1) = 8 * 2 ^ i + 8 * 2 ^ i from by rw [Nat.pow_succ]; omega]; exact this⟩
            have HB1 : Kp (Below w.heap.size w w1) := ⟨HB.out.trans (hbel1.mono HB.out.size)⟩
            clear hown1 hbel1
            go_wp2_with fail
            go_roundw
            case rel => exact ⟨c, i + 1, n / 2, HN.out, by omega, rfl, rfl, HO.out, HB1.out⟩
            case measure => simp [intOf]; omega
          · have HN : Kp (Crc.JoinInv n0.toNat c0 (n / 2).toNat (Crc.steps (8 * 2 ^ i) c) (i + 1)) := ⟨by
              rw [show (n / 2).toNat = n.toNat / 2 from by omega, ← Crc.act_far i hc]; exact hinv.odd (by omega)⟩
            have HB : Kp (Below w.heap.size w wr) := ⟨hbel⟩
            have ht : (n % 2 == 1) = true := by rw [ho]; decide
            clear hinv ho hown hbel
            go_wp2_with fail
            refine (apply_any g cap (8 * 2 ^ i) c _ hc hcell).mono ?_
            rintro e w' ⟨rfl, rfl⟩
            go_wp2_with fail
            refine (twice_any g cap (8 * 2 ^ i) _ hcell).mono ?_
            rintro e w1 ⟨v, rfl, hown1, hbel1⟩
            have HO : Kp (w1.ownsRow w.heap.size 23 1 v 32 (carr (8 * 2 ^ (i + 1)) 32)) := ⟨by
              have := hown1.lower HB.out.size
              rw [show 8 * 2 ^ (i + 1) = 8 * 2 ^ i + 8 * 2 ^ i from by rw [Nat.pow_succ]; omega]; exact this⟩
            have HB1 : Kp (Below w.heap.size w w1) := ⟨HB.out.trans (hbel1.mono HB.out.size)⟩
            clear hown1 hbel1
            go_wp2_with fail
            go_roundw
            case rel => exact ⟨_, i + 1, n / 2, HN.out, by omega, rfl, rfl, HO.out, HB1.out⟩
            case measure => simp [intOf]; omega
        · have HD : Kp (c = Crc.carry n0.toNat c0) := ⟨by
            have h := hinv
            rw [show n.toNat = 0 from by omega] at h
            exact h.done⟩
          clear hinv hown
          go_wp2
          go_ret
          exact ⟨ret_u32 HD.out, hbel⟩
theorem refJoin_any (a b : Nat) (n : Int) (w : World) (ha : a < 4294967296) (hb : b < 4294967296) (hn : n ≤ 9223372036854775807) :
    Calls Tryd.prog 21 #[.int .u32 a, .int .u32 b, .int .i64 n] w fun e w' => e = .returned (.int .u32 (Crc.join a b n : Nat)) ∧ Below w.heap.size w w' := by
  have hc := Crc.carry_lt n.toNat ha
  have HX : Kp (bits .xor .u32 ((Crc.carry n.toNat a : Nat) : Int) (b : Int) = ((Crc.join a b n : Nat) : Int)) := ⟨x32 hc hb⟩
  go_enter Tryd.func21, Tryd.ntmps21
  go_wp2_with fail
  refine (carry_any a n w ha hn).mono ?_
  rintro e w1 ⟨rfl, hb1⟩
  have HB : Kp (Below w.heap.size w w1) := ⟨hb1⟩
  clear hb1
  go_wp2_with fail
  go_ret
  exact ⟨ret_u32' HX.out, HB.out⟩
end Go.Proofs.YtinbmoafdmccfaaDoor
