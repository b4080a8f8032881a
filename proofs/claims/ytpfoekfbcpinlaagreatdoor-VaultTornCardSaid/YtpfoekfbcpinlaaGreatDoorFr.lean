/- The tapes that are none of a head's. -/
import Derived.Test.YtpfoekfbcpinlaaGreatDoorHeadMay
import Derived.Test.YtpfoekfbcpinlaaGreatDoorSum
import Derived.Laws.AppendOwn
import Derived.Laws.OwnMore
import Derived.Maps.AppendAt
import Derived.Laws.Shifts
import Derived.Laws.ShiftsVarLaws
namespace Go.Proofs.YtpfoekfbcpinlaaGreatDoor
open Go.RowKit
set_option linter.unusedVariables false

/-- The first k of the tapes from 2 on, but those that are used. -/
def FK (U : Int → Bool) (k : Nat) : List Int := ((List.range k).map fun (j : Nat) => (j : Int) + 2).filter fun t => !U t
theorem FK_succ (U : Int → Bool) (k : Nat) : FK U (k + 1) = FK U k ++ if U ((k : Int) + 2) = true then [] else [(k : Int) + 2] := by
  unfold FK
  rw [List.range_succ, List.map_append, List.filter_append]
  congr 1
  cases h : U ((k : Int) + 2) <;> simp [h]
theorem FK_len (U : Int → Bool) (k : Nat) : (FK U k).length ≤ k := by
  unfold FK
  exact Nat.le_trans (List.length_filter_le _ _) (by simp)
theorem RK.row {W : World} {ao : Option Addr} {n cap : Nat} {l : List Int} (hr : RK 1 W (.slice ao n cap) n (l.map fun x => Value.int .i64 x)) : ∃ g, rowI g n = l ∧ IntsAt W ao n g := by
  have hn : l.length = n := by simpa using hr.1
  subst hn
  refine ⟨fun j => l.getD j 0, ?_, ?_⟩
  · apply List.ext_getElem (by rw [rowI_len])
    intro i h1 h2
    simp [rowI, h2]
  · intro W' hb j hj
    obtain ⟨g, cp, he, _⟩ := hr.at_ (by omega)
    simp only [Value.slice.injEq] at he
    obtain ⟨rfl, _, rfl⟩ := he
    refine ⟨_, rfl, ?_⟩
    rw [Addr.add_lit, Nat.zero_add]
    exact (hr.below hb).cell j _ (by simp [hj])
theorem cells4 {W : World} {b : Nat} {c0 c1 c2 c3 : Value} {T : TypeId} (h : W.heap[b]? = some (.cells #[c0, c1, c2, c3] T (0, 0))) : W.cell? ⟨b, 0, none⟩ = some c0 ∧ W.cell? ⟨b, 1, none⟩ = some c1 ∧ W.cell? ⟨b, 2, none⟩ = some c2 ∧ W.cell? ⟨b, 3, none⟩ = some c3 := by
  refine ⟨?_, ?_, ?_, ?_⟩ <;> simp [World.cell?, h]
set_option maxRecDepth 20000 in
set_option maxHeartbeats 2000000 in
theorem Free_any (q : HdV) (w : World) (hl : q.ll ≤ maxLen) (hf : IntsAt w q.lo q.ll q.lf) :
    Calls Tryz.prog 69 #[q.v] w fun e w' => ∃ ao n cap g, e = .returned (.slice ao n cap) ∧ rowI g n = q.hv.free ∧ IntsAt w' ao n g ∧ Below w.heap.size w w' := by
  have HU := Kp.mk (fun W (hW : Below w.heap.size w W) (t : Int) => Uses_any q t W hl (hf.below hW))
  obtain ⟨gen, base, snap, lo, ll, lc, lf⟩ := q
  unfold Hd.HV.free
  generalize (HdV.hv ⟨gen, base, snap, lo, ll, lc, lf⟩).uses = U at HU ⊢
  have HFK : Kp (Hd.R.filter (fun t => !U t) = FK U 30) := ⟨rfl⟩
  rw [HFK.out]
  unfold HdV.v at HU ⊢
  clear hf hl HFK
  simp only [] at HU ⊢
  have hbx := heap_alloc_new w (.cells #[.int .i64 gen, .int .i64 base, .int .i64 snap, .slice lo ll lc] 38)
  have hb1 : Below w.heap.size w (w.alloc (.cells #[.int .i64 gen, .int .i64 base, .int .i64 snap, .slice lo ll lc] 38)) := (Below.refl _ _).alloc (Nat.le_refl _) _
  have hz1 : (w.alloc (.cells #[.int .i64 gen, .int .i64 base, .int .i64 snap, .slice lo ll lc] 38)).heap.size = w.heap.size + 1 := by simp
  obtain ⟨i0, hi0, hi1, hi2, hi3⟩ := info_parts infoInt
  have HI := Kp.mk (And.intro hi0 (And.intro hi1 (And.intro hi2 hi3)))
  clear hi0 hi1 hi2 hi3
  go_enter Tryz.func69, Tryz.ntmps69
  go_wp2
  obtain ⟨w1, hw1⟩ : ∃ w1, w.alloc (.cells #[.int .i64 gen, .int .i64 base, .int .i64 snap, .slice lo ll lc] 38) = w1 := ⟨_, rfl⟩
  rw [hw1] at hbx hb1 hz1 ⊢
  have B1 := Kp.mk hb1
  have HKeep : Kp (∀ W, Below w1.heap.size w1 W → W.cell? ⟨w.heap.size, 0, none⟩ = some (.int .i64 gen) ∧ W.cell? ⟨w.heap.size, 1, none⟩ = some (.int .i64 base) ∧ W.cell? ⟨w.heap.size, 2, none⟩ = some (.int .i64 snap) ∧ W.cell? ⟨w.heap.size, 3, none⟩ = some (.slice lo ll lc)) := ⟨fun W hW => cells4 ((hW.block _ (by omega)).trans hbx)⟩
  clear hbx hb1 hz1 hw1
  generalize hbb : w.heap.size = b at HKeep ⊢
  go_loopw [3, 4] (fun o i wr => ∃ k : Nat, k ≤ 30 ∧ i = .int .i64 ((k : Int) + 2) ∧ RK 1 wr o (FK U k).length ((FK U k).map fun x => Value.int .i64 x) ∧ (∀ j, blk o = some j → w1.heap.size ≤ j) ∧ Below w1.heap.size w1 wr) (fun _ i _ => 32 - (intOf i).toNat)
  case atStart => exact ⟨0, by omega, rfl, RK.nil 1 _, fun j h => by simp [blk] at h, Below.refl _ _⟩
  case round =>
    obtain ⟨k, hk, rfl, hr, hnew, hb⟩ := hrel
    obtain ⟨ao, cp, rfl, _, _⟩ := hr.len
    have HR := Kp.mk hr
    have HN := Kp.mk hnew
    have HB := Kp.mk hb
    clear hr hnew hb
    by_cases hk2 : k < 30
    · obtain ⟨k0, k1, k2, k3⟩ := HKeep.out _ HB.out
      have i1 : decide ((k : Int) + 2 < 32) = true := by rw [decide_eq_true_eq]; omega
      have n1 : IntKind.i64.wrap ((k : Int) + 2 + 1) = (k : Int) + 2 + 1 := by rw [IntKind.wrap_i64]; omega
      have HUk := Kp.mk (HU.out _ (B1.out.trans (HB.out.mono B1.out.size)) ((k : Int) + 2))
      have HFS := Kp.mk (FK_succ U k)
      have HFL := Kp.mk (FK_len U k)
      cases hu : U ((k : Int) + 2)
      · rw [hu] at HUk HFS
        clear hu
        go_wp2_with fail
        refine HUk.out.mono ?_
        rintro e w5 ⟨rfl, b5⟩
        have B5 := Kp.mk (HB.out.trans (b5.mono HB.out.size))
        have R5 := Kp.mk ((HR.out.below b5).alloc (.cells #[.int .i64 ((k : Int) + 2)] 3))
        clear b5 k0 k1 k2 k3
        have HIN := Kp.mk (src_one (heap_alloc_new w5 (.cells #[.int .i64 ((k : Int) + 2)] 3)) rfl)
        have HLM : Kp ((FK U k).length + 1 ≤ maxLen ∧ ((FK U k).length + 1) * 8 ≤ 140737488355328) := ⟨by have := HFL.out; unfold maxLen; omega⟩
        go_wp2_with (at_builtin; go_loud (refine wpList_append_src rfl _ _ 36 rfl R5.out HIN.out 3 i0 _ 8 Tryz.underlying36 HI.out.1 HI.out.2.1 HI.out.2.2.1 HI.out.2.2.2 rfl (by decide) rfl rfl (by simp [Value.oneCell']) HLM.out.1 HLM.out.2 _ _ rfl rfl ?_; intro ao2 cap2 w6 k1 k2 k3; have K1 := Kp.mk k1; have K2 := Kp.mk ((B5.out.alloc B5.out.size _).grown k2 (by simp; have := B5.out.size; omega) (fun j e => HN.out j e)); have K3 : Kp (∀ j, blk (.slice ao2 ((FK U k).length + 1) cap2) = some j → w1.heap.size ≤ j) := ⟨fun j e => (k3 j e).elim (fun h => HN.out j h) (fun h => by simp at h; have := B5.out.size; omega)⟩; clear k1 k2 k3))
        go_roundw
        case rel => exact ⟨k + 1, by omega, by go_num, by rw [HFS.out]; simpa using K1.out, K3.out, K2.out⟩
        case measure => simp [intOf]; omega
      · rw [hu] at HUk HFS
        clear hu
        go_wp2_with fail
        refine HUk.out.mono ?_
        rintro e w5 ⟨rfl, b5⟩
        have B5 := Kp.mk (HB.out.trans (b5.mono HB.out.size))
        have R5 := Kp.mk (HR.out.below b5)
        clear b5 k0 k1 k2 k3
        go_wp2
        go_roundw
        case rel => exact ⟨k + 1, by omega, by go_num, by rw [HFS.out]; simpa using R5.out, HN.out, B5.out⟩
        case measure => simp [intOf]; omega
    · obtain rfl : k = 30 := by omega
      obtain ⟨g, hg, hia⟩ := HR.out.row
      have HG := Kp.mk hg
      have HIA := Kp.mk hia
      clear hg hia
      go_wp2
      go_ret
      exact ⟨ao, _, cp, g, by trivial, HG.out, HIA.out, B1.out.trans (HB.out.mono B1.out.size)⟩
end Go.Proofs.YtpfoekfbcpinlaaGreatDoor
/- The walks of package sum, behind Add and Join: Of, Mask, Plain, Same; and the examples. -/
namespace Go.Proofs.YtpfoekfbcpinlaaGreatDoor
open Go.RowKit

private theorem ret_boolP {a b : Bool} (h : a = b) : Ending.returned (.bool a) = .returned (.bool b) := by rw [h]
theorem beq_nat (a b : Nat) : ((a : Int) == (b : Int)) = decide (a = b) := by
  by_cases h : a = b
  · rw [h]; simp
  · rw [decide_eq_false h]; exact beq_eq_false_iff_ne.2 (by omega)
theorem of_any (s : ByteArray) (w : World) (hs : s.size ≤ 140737488351232) (ht : Tab w) :
    Calls Tryz.prog 90 #[.string s] w fun e w' => e = .returned (.int .u32 (Crc.crc s.data.toList : Nat)) ∧ w = w' := by
  go_enter Tryz.func90, Tryz.ntmps90
  go_wp2_with (refine (add_any 0 s w (by decide) hs ht).mono ?_; rintro e w' ⟨rfl, rfl⟩)
  go_ret
  exact ⟨rfl, rfl⟩
theorem or32_rot (x s t : Nat) (hs : s ≤ 32) (ht : t = 32 - s) (hx : x < 4294967296) :
    bits .or .u32 (((x * 2 ^ s % 4294967296 : Nat) : Int)) ((x / 2 ^ t : Nat) : Int) = ((x * 2 ^ s % 4294967296 + x / 2 ^ t : Nat) : Int) := by
  rw [u32_or_nat _ _ (Nat.mod_lt _ (by decide)) (Nat.lt_of_le_of_lt (Nat.div_le_self _ _) hx), Crc.rot_or x s t hs ht hx]
theorem rotr_val {c : Nat} (hc : c < 4294967296) : bits BinOp.or IntKind.u32 ((c : Int) * 131072 % 4294967296) ((c : Int) / 32768) = ((Crc.rotr c : Nat) : Int) := by
  have h := or32_rot c 17 15 (by decide) rfl hc
  rw [show ((c : Int) * 131072 % 4294967296) = ((c * 2 ^ 17 % 4294967296 : Nat) : Int) from by omega, show ((c : Int) / 32768) = ((c / 2 ^ 15 : Nat) : Int) from by omega, h]
  unfold Crc.rotr
  omega
theorem rotl_val {c : Nat} (hc : c < 4294967296) : bits BinOp.or IntKind.u32 ((c : Int) * 32768 % 4294967296) ((c : Int) / 131072) = ((Crc.rotl c : Nat) : Int) := by
  have h := or32_rot c 15 17 (by decide) rfl hc
  rw [show ((c : Int) * 32768 % 4294967296) = ((c * 2 ^ 15 % 4294967296 : Nat) : Int) from by omega, show ((c : Int) / 131072) = ((c / 2 ^ 17 : Nat) : Int) from by omega, h]
  unfold Crc.rotl
  omega
theorem rotr_any (c : Nat) (w : World) (hc : c < 4294967296) :
    Calls Tryz.prog 111 #[.int .u32 c, .int .i64 (-15)] w fun e w' => e = .returned (.int .u32 (Crc.rotr c : Nat)) ∧ w = w' := by
  have ha : bits BinOp.and IntKind.u64 (IntKind.u64.wrap (-15)) 31 = 17 := by decide
  have hr := Lib.hid (rotr_val hc)
  go_enter Tryz.func111, Tryz.ntmps111
  go_wp2
  go_ret
  exact ⟨ret_u32' hr.out, rfl⟩
theorem rotl_any (c : Nat) (w : World) (hc : c < 4294967296) :
    Calls Tryz.prog 111 #[.int .u32 c, .int .i64 15] w fun e w' => e = .returned (.int .u32 (Crc.rotl c : Nat)) ∧ w = w' := by
  have ha : bits BinOp.and IntKind.u64 15 31 = 15 := by decide
  have hr := Lib.hid (rotl_val hc)
  go_enter Tryz.func111, Tryz.ntmps111
  go_wp2
  go_ret
  exact ⟨ret_u32' hr.out, rfl⟩
theorem mask_any (c : Nat) (w : World) (hc : c < 4294967296) :
    Calls Tryz.prog 89 #[.int .u32 c] w fun e w' => e = .returned (.int .u32 (Crc.mask c : Nat)) ∧ w = w' := by
  have hr := Crc.rotr_lt hc
  go_enter Tryz.func89, Tryz.ntmps89
  go_wp2_with (refine (rotr_any c w hc).mono ?_; rintro e w' ⟨rfl, rfl⟩)
  go_ret
  exact ⟨ret_u32' (by unfold Crc.mask; omega), rfl⟩
theorem same_any (s : ByteArray) (m : Nat) (w : World) (hs : s.size ≤ 140737488351232) (ht : Tab w) :
    Calls Tryz.prog 129 #[.string s, .int .u32 m] w fun e w' => e = .returned (.bool (decide (Crc.mask (Crc.crc s.data.toList) = m))) ∧ w = w' := by
  have hc := Crc.crc_lt s.data.toList
  go_enter Tryz.func129, Tryz.ntmps129
  go_wp2_with (first | (refine (of_any s w hs ht).mono ?_; rintro e w' ⟨rfl, rfl⟩) | (refine (mask_any _ w hc).mono ?_; rintro e w' ⟨rfl, rfl⟩))
  go_ret
  exact ⟨ret_boolP (beq_nat _ _), rfl⟩
end Go.Proofs.YtpfoekfbcpinlaaGreatDoor
/- The walks of the reference of chapter 2. -/
namespace Go.Proofs.YtpfoekfbcpinlaaGreatDoor
open Go.RowKit

theorem bit_any (c b : Nat) (w : World) (hc : c < 4294967296) (_hb : b < 2) :
    Calls Tryz.prog 108 #[.int .u32 c, .int .u32 b] w fun e w' => e = .returned (.int .u32 (Crc.rbit c b : Nat)) ∧ w = w' := by
  by_cases h : c % 2 = b
  · have HV : Hid (Crc.rbit c b = c / 2) := Lib.hid (by unfold Crc.rbit; simp [h])
    have ht : (((c : Int) % 2) != (b : Int)) = false := by rw [bne_eq_false_iff_eq]; omega
    clear h
    go_enter Tryz.func108, Tryz.ntmps108
    go_wp2
    go_ret
    exact ⟨ret_u32' (by rw [HV.out]; omega), rfl⟩
  · have HV : Hid (Crc.rbit c b = (c / 2) ^^^ Crc.poly) := Lib.hid (by unfold Crc.rbit; simp [h])
    have ht : (((c : Int) % 2) != (b : Int)) = true := by rw [bne_iff_ne]; omega
    have hx : Hid (bits .xor .u32 ((c : Int) / 2) 2197175160 = ((c / 2 ^^^ Crc.poly : Nat) : Int)) := Lib.hid (by
      have := x32 (a := c / 2) (b := Crc.poly) (by omega) (by decide)
      rw [← this]; rfl)
    clear h
    go_enter Tryz.func108, Tryz.ntmps108
    go_wp2
    go_ret
    exact ⟨ret_u32' (by rw [HV.out, hx.out]), rfl⟩

/-- The loop of the reference's Mask: k turns by one bit. -/
def turnR (c k : Nat) : Nat := c / 2 ^ k + c % 2 ^ k * 2 ^ (32 - k)
def turnL (c k : Nat) : Nat := c / 2 ^ (32 - k) + c % 2 ^ (32 - k) * 2 ^ k
theorem turnR_lt {c k : Nat} (h : c < 4294967296) (hk : k ≤ 32) : turnR c k < 4294967296 := by
  unfold turnR
  have h1 : c / 2 ^ k < 2 ^ (32 - k) := by
    rw [Nat.div_lt_iff_lt_mul (Nat.two_pow_pos _), ← Nat.pow_add, show 32 - k + k = 32 from by omega]; exact h
  have h2 := Nat.mod_lt c (Nat.two_pow_pos k)
  have h3 : c % 2 ^ k * 2 ^ (32 - k) ≤ (2 ^ k - 1) * 2 ^ (32 - k) := Nat.mul_le_mul_right _ (by omega)
  have h4 : (2 ^ k - 1) * 2 ^ (32 - k) = 4294967296 - 2 ^ (32 - k) := by
    rw [Nat.sub_mul, ← Nat.pow_add, show k + (32 - k) = 32 from by omega, Nat.one_mul]
  have h5 : 2 ^ (32 - k) ≤ 4294967296 := by
    have := Nat.pow_le_pow_right (show 0 < 2 by decide) (show 32 - k ≤ 32 by omega)
    simpa using this
  omega
theorem turnR_succ {c k : Nat} (hk : k < 32) : turnR c (k + 1) = turnR c k / 2 + turnR c k % 2 * 2147483648 := by
  have e1 : c / 2 ^ (k + 1) = c / 2 ^ k / 2 := by rw [Nat.pow_succ, Nat.div_div_eq_div_mul]
  have e2 : c % 2 ^ (k + 1) = c % 2 ^ k + 2 ^ k * (c / 2 ^ k % 2) := by rw [Nat.pow_succ, Nat.mod_mul]
  have e3 : 2 ^ (32 - k) = 2 * 2 ^ (31 - k) := by rw [show 32 - k = 31 - k + 1 from by omega, Nat.pow_succ, Nat.mul_comm]
  have e4 : 2 ^ k * 2 ^ (31 - k) = 2147483648 := by rw [← Nat.pow_add, show k + (31 - k) = 31 from by omega]
  unfold turnR
  rw [e1, e2, e3, show 32 - (k + 1) = 31 - k from by omega, Nat.add_mul]
  have e5 : 2 ^ k * (c / 2 ^ k % 2) * 2 ^ (31 - k) = c / 2 ^ k % 2 * 2147483648 := by
    rw [Nat.mul_comm (2 ^ k), Nat.mul_assoc, e4]
  have e6 : c % 2 ^ k * (2 * 2 ^ (31 - k)) = 2 * (c % 2 ^ k * 2 ^ (31 - k)) := by
    rw [Nat.mul_left_comm]
  rw [e5, e6]
  omega
theorem turnR_15 (c : Nat) : turnR c 15 = Crc.rotr c := rfl
theorem refMask_any (c0 : Nat) (w : World) (hc : c0 < 4294967296) :
    Calls Tryz.prog 42 #[.int .u32 c0] w fun e w' => e = .returned (.int .u32 (Crc.mask c0 : Nat)) ∧ w = w' := by
  go_enter Tryz.func42, Tryz.ntmps42
  go_wp2
  go_loop [0, 3] (fun c i => ∃ k : Nat, k ≤ 15 ∧ i = .int .i64 k ∧ c = .int .u32 (turnR c0 k : Nat)) (fun _ i => 15 - (intOf i).toNat)
  case atStart => exact ⟨0, by omega, rfl, by simp [turnR, Nat.mod_one]⟩
  case round =>
    obtain ⟨k, hk, rfl, rfl⟩ := hrel
    have hlt := turnR_lt hc (show k ≤ 32 by omega)
    by_cases h15 : k < 15
    · have HS := Lib.hid (turnR_succ (c := c0) (show k < 32 by omega))
      have hlt2 := turnR_lt hc (show k + 1 ≤ 32 by omega)
      generalize turnR c0 k = t at hlt HS
      go_wp2
      go_round
      case rel => exact ⟨k + 1, by omega, by go_num, by rw [HS.out] at hlt2 ⊢; go_num⟩
      case measure => simp [intOf]; omega
    · obtain rfl : k = 15 := by omega
      rw [turnR_15] at hlt ⊢
      go_wp2
      go_ret
      exact ⟨ret_u32' (by unfold Crc.mask; omega), rfl⟩

theorem turnL_15 (c : Nat) : turnL c 15 = Crc.rotl c := rfl
theorem turnL_lt {c k : Nat} (h : c < 4294967296) (hk : k ≤ 32) : turnL c k < 4294967296 := by
  have e : turnL c k = turnR c (32 - k) := by unfold turnL turnR; rw [show 32 - (32 - k) = k from by omega]
  rw [e]; exact turnR_lt h (by omega)
theorem turnL_succ {c k : Nat} (h : c < 4294967296) (hk : k < 32) : turnL c (k + 1) = turnL c k % 2147483648 * 2 + turnL c k / 2147483648 := by
  have e : ∀ j, j ≤ 32 → turnL c j = turnR c (32 - j) := by
    intro j hj; unfold turnL turnR; rw [show 32 - (32 - j) = j from by omega]
  have hs := turnR_succ (c := c) (k := 32 - (k + 1)) (by omega)
  rw [show 32 - (k + 1) + 1 = 32 - k from by omega, ← e k (by omega), ← e (k + 1) (by omega)] at hs
  have hl := turnL_lt h (show k + 1 ≤ 32 by omega)
  omega
/-- The bits of a byte, so far. -/
def someBits (c b k : Nat) : Nat := Crc.steps k (c ^^^ b % 2 ^ k)
theorem someBits_lt {c b k : Nat} (hc : c < 4294967296) (hb : b < 256) : someBits c b k < 4294967296 :=
  Crc.steps_lt k (Nat.xor_lt_two_pow (n := 32) hc (Nat.lt_of_le_of_lt (Nat.mod_le _ _) (by omega)))
theorem someBits_zero (c b : Nat) : someBits c b 0 = c := by unfold someBits Crc.steps; rw [Nat.pow_zero, Nat.mod_one, Nat.xor_zero]
theorem someBits_8 (c : Nat) (b : UInt8) : someBits c b.toNat 8 = Crc.byte c b := by
  unfold someBits Crc.byte
  rw [Nat.mod_eq_of_lt (UInt8.toNat_lt b)]
theorem someBits_succ (c b k : Nat) : someBits c b (k + 1) = Crc.rbit (someBits c b k) (b / 2 ^ k % 2) := by
  rw [Crc.rbit_eq _ (Nat.mod_lt _ (by decide))]
  exact Crc.bits_step c b k
theorem refAdd_any (c0 : Nat) (s : ByteArray) (w : World) (hc0 : c0 < 4294967296) (hs : s.size ≤ 140737488351232) :
    Calls Tryz.prog 86 #[.int .u32 c0, .string s] w fun e w' => e = .returned (.int .u32 (Crc.add c0 s.data.toList : Nat)) ∧ w = w' := by
  have h1 : bits .xor .u32 (c0 : Int) 4294967295 = ((c0 ^^^ Crc.ones : Nat) : Int) := x32 hc0 Crc.ones_lt
  have hlt : c0 ^^^ Crc.ones < 4294967296 := Nat.xor_lt_two_pow (n := 32) hc0 Crc.ones_lt
  have H0 : Hid (Crc.add c0 s.data.toList = Crc.upd (c0 ^^^ Crc.ones) s.data.toList ^^^ Crc.ones) := Lib.hid rfl
  generalize c0 ^^^ Crc.ones = c1 at h1 hlt H0
  go_enter Tryz.func86, Tryz.ntmps86
  go_wp2
  go_loop [0, 5, 6] (fun c i _ => ∃ k : Nat, k ≤ s.size ∧ i = .int .i64 k ∧ c = .int .u32 (Crc.upd c1 (s.data.toList.take k) : Nat)) (fun _ i _ => s.size - (intOf i).toNat)
  case atStart => exact ⟨0, Nat.zero_le _, rfl, rfl⟩
  case round =>
    obtain ⟨k, hk, rfl, rfl⟩ := hrel
    clear h1
    have hb := Crc.upd_lt hlt (s.data.toList.take k)
    by_cases hklt : k < s.size
    · have HN : Hid (Crc.upd c1 (s.data.toList.take (k + 1)) = Crc.byte (Crc.upd c1 (s.data.toList.take k)) s[k]) := Lib.hid (by rw [take_snoc s k hklt, Crc.upd_append]; rfl)
      generalize Crc.upd c1 (s.data.toList.take k) = c at hb HN
      have hb8 : s[k].toNat < 256 := UInt8.toNat_lt _
      go_wp2
      go_loop [0, 6] (fun x i => ∃ j : Nat, j ≤ 8 ∧ i = .int .i64 j ∧ x = .int .u32 (someBits c s[k].toNat j : Nat)) (fun _ i => 8 - (intOf i).toNat)
      case atStart => exact ⟨0, by omega, rfl, by rw [someBits_zero]⟩
      case round =>
        obtain ⟨j, hj, rfl, rfl⟩ := hrel
        have hx := someBits_lt (k := j) hb hb8
        by_cases hj8 : j < 8
        · have HB := Lib.hid (someBits_succ c s[k].toNat j)
          generalize someBits c s[k].toNat j = x at hx HB
          have hbit : s[k].toNat / 2 ^ j % 2 < 2 := Nat.mod_lt _ (by decide)
          go_wp2_with fail
          rw [show ((s[k].toNat : Int) / 2 ^ j % 2) = ((s[k].toNat / 2 ^ j % 2 : Nat) : Int) from by simp]
          refine (bit_any _ _ _ hx hbit).mono ?_
          rw [← HB.out]
          rintro e w' ⟨rfl, rfl⟩
          go_wp2_with fail
          go_round
          case rel => exact ⟨j + 1, by omega, by go_num, rfl⟩
          case measure => simp [intOf]; omega
        · obtain rfl : j = 8 := by omega
          rw [someBits_8] at hx ⊢
          go_wp2
          go_round
          case rel => exact ⟨k + 1, by omega, by go_num, by rw [HN.out]⟩
          case measure => simp [intOf]; omega
    · obtain rfl : k = s.size := by omega
      rw [List.take_of_length_le (by simp)] at hb ⊢
      have HE : Hid (bits .xor .u32 ((Crc.upd c1 s.data.toList : Nat) : Int) 4294967295 = ((Crc.upd c1 s.data.toList ^^^ Crc.ones : Nat) : Int)) := Lib.hid (x32 hb Crc.ones_lt)
      go_wp2
      go_ret
      exact ⟨ret_u32' (by rw [HE.out, H0.out]), rfl⟩
theorem refOf_any (s : ByteArray) (w : World) (hs : s.size ≤ 140737488351232) :
    Calls Tryz.prog 43 #[.string s] w fun e w' => e = .returned (.int .u32 (Crc.crc s.data.toList : Nat)) ∧ w = w' := by
  go_enter Tryz.func43, Tryz.ntmps43
  go_wp2_with (refine (refAdd_any 0 s w (by decide) hs).mono ?_; rintro e w' ⟨rfl, rfl⟩)
  go_ret
  exact ⟨rfl, rfl⟩
end Go.Proofs.YtpfoekfbcpinlaaGreatDoor
/- Frames, plainly: what a frame's bytes are, what stands at a place, what is read there. -/
namespace Go.Proofs.YtpfoekfbcpinlaaGreatDoor
open Go.RowKit
set_option linter.unusedVariables false

namespace Fr
def sumL (l : List UInt8) : Nat := Crc.mask (Crc.crc l)
theorem sumL_lt (l : List UInt8) : sumL l < 4294967296 := Crc.mask_lt _
/-- The bytes of a frame. -/
def fr (k : UInt8) (l : List UInt8) : List UInt8 := Var.fb 4 l.length ++ (Var.fb 4 (sumL (k :: l)) ++ k :: l)
theorem fr_length (k : UInt8) (l : List UInt8) : (fr k l).length = l.length + 9 := by
  simp [fr, Var.fb_length]; omega
/-- The number ahead, the number behind it, kind and payload. -/
def num (l : List UInt8) : Nat := Var.fv (l.take 4)
def msk (l : List UInt8) : Nat := Var.fv ((l.drop 4).take 4)
def body (l : List UInt8) : List UInt8 := (l.drop 8).take (num l + 1)
def kind (l : List UInt8) : UInt8 := (l.drop 8).headD 0
theorem num_lt (l : List UInt8) : num l < 4294967296 := by
  have := Var.fv_lt (l.take 4)
  have h : 256 ^ (l.take 4).length ≤ 256 ^ 4 := Nat.pow_le_pow_right (by decide) (by simp; omega)
  unfold num
  omega
theorem msk_lt (l : List UInt8) : msk l < 4294967296 := by
  have := Var.fv_lt ((l.drop 4).take 4)
  have h : 256 ^ ((l.drop 4).take 4).length ≤ 256 ^ 4 := Nat.pow_le_pow_right (by decide) (by simp; omega)
  unfold msk
  omega
/-- What is read: the error, the kind, the payload. -/
def readL (l : List UInt8) : Nat × Nat × List UInt8 :=
  if l.length < 9 then (8, 0, [])
  else if 262144 < num l then (40, 0, [])
  else if l.length ≤ num l + 8 then (8, 0, [])
  else if sumL (body l) ≠ msk l then (42, 0, [])
  else if (kind l).toNat < 1 ∨ 3 < (kind l).toNat then (4, 0, [])
  else (0, (kind l).toNat, (l.drop 9).take (num l))
theorem body_eq {l : List UInt8} (h : ¬ l.length ≤ num l + 8) : body l = kind l :: (l.drop 9).take (num l) := by
  unfold body kind
  have e : l.drop 9 = (l.drop 8).drop 1 := by rw [List.drop_drop]
  cases hd : l.drop 8 with
  | nil => have := List.drop_eq_nil_iff.1 hd; omega
  | cons b r => rw [e, hd]; simp
/-- A frame stands at the beginning. -/
structure Is (l : List UInt8) (k : Nat) (p : List UInt8) : Prop where
  lo : 1 ≤ k
  hi : k ≤ 3
  small : p.length ≤ 262144
  at' : ∃ m, l = fr (UInt8.ofNat k) p ++ m
theorem toNat_ofNat' {n : Nat} (h : n < 256) : (UInt8.ofNat n).toNat = n := Var.toNat_ofNat h
theorem readL_fr {k : Nat} {p : List UInt8} (m : List UInt8) (h1 : 1 ≤ k) (h3 : k ≤ 3) (hp : p.length ≤ 262144) : readL (fr (UInt8.ofNat k) p ++ m) = (0, k, p) := by
  have hk : (UInt8.ofNat k).toNat = k := toNat_ofNat' (by omega)
  generalize UInt8.ofNat k = b at hk
  have e0 : fr b p ++ m = Var.fb 4 p.length ++ (Var.fb 4 (sumL (b :: p)) ++ (b :: (p ++ m))) := by simp [fr]
  have hl : (fr b p ++ m).length = p.length + 9 + m.length := by rw [List.length_append, fr_length]
  have l4 : (Var.fb 4 p.length).length = 4 := Var.fb_length 4 _
  have l4' : (Var.fb 4 (sumL (b :: p))).length = 4 := Var.fb_length 4 _
  have hn : num (fr b p ++ m) = p.length := by
    unfold num
    rw [e0, List.take_left' l4, Var.fv_fb]
    exact Nat.mod_eq_of_lt (by omega)
  have hd4 : (fr b p ++ m).drop 4 = Var.fb 4 (sumL (b :: p)) ++ (b :: (p ++ m)) := by rw [e0, List.drop_left' l4]
  have hm : msk (fr b p ++ m) = sumL (b :: p) := by
    unfold msk
    rw [hd4, List.take_left' l4', Var.fv_fb]
    exact Nat.mod_eq_of_lt (sumL_lt _)
  have hd8 : (fr b p ++ m).drop 8 = b :: (p ++ m) := by
    rw [show 8 = 4 + 4 from rfl, ← List.drop_drop, hd4, List.drop_left' l4']
  have hd9 : (fr b p ++ m).drop 9 = p ++ m := by
    rw [show 9 = 8 + 1 from rfl, ← List.drop_drop, hd8]; rfl
  have hb : body (fr b p ++ m) = b :: p := by
    unfold body
    rw [hd8, hn, List.take_succ_cons, List.take_left' rfl]
  have hkk : kind (fr b p ++ m) = b := by unfold kind; rw [hd8]; rfl
  unfold readL
  rw [hl, hn, hb, hm, hkk, hk, hd9, if_neg (by omega), if_neg (by omega), if_neg (by omega), if_neg (fun h => h rfl), if_neg (by omega), List.take_left' rfl]
theorem readL_ok {l : List UInt8} (h : (readL l).1 = 0) : ¬ l.length < 9 ∧ ¬ 262144 < num l ∧ ¬ l.length ≤ num l + 8 ∧ sumL (body l) = msk l ∧ ¬ ((kind l).toNat < 1 ∨ 3 < (kind l).toNat) ∧ readL l = (0, (kind l).toNat, (l.drop 9).take (num l)) := by
  unfold readL at h ⊢
  repeat' (split at h; · simp at h)
  rename_i h1 h2 h3 h4 h5
  have h4' : sumL (body l) = msk l := Classical.not_not.1 h4
  rw [if_neg h1, if_neg h2, if_neg h3, if_neg h4, if_neg h5]
  exact ⟨h1, h2, h3, h4', h5, rfl⟩
theorem readL_is {l : List UInt8} (h : (readL l).1 = 0) : Is l (readL l).2.1 (readL l).2.2 := by
  obtain ⟨h1, h2, h3, h4, h5, e⟩ := readL_ok h
  rw [e]
  have hpl : ((l.drop 9).take (num l)).length = num l := by rw [List.length_take, List.length_drop]; omega
  refine ⟨by simp only []; omega, by simp only []; omega, by simp only []; omega, l.drop (9 + num l), ?_⟩
  simp only []
  have hk : UInt8.ofNat (kind l).toNat = kind l := UInt8.toNat_inj.1 (toNat_ofNat' (UInt8.toNat_lt _))
  rw [hk]
  unfold fr
  rw [hpl, ← body_eq h3, h4]
  have e4 : Var.fb 4 (num l) = l.take 4 := by
    have := Var.fb_fv (l.take 4)
    rwa [show (l.take 4).length = 4 from by rw [List.length_take]; omega] at this
  have e8 : Var.fb 4 (msk l) = (l.drop 4).take 4 := by
    have := Var.fb_fv ((l.drop 4).take 4)
    rwa [show ((l.drop 4).take 4).length = 4 from by rw [List.length_take, List.length_drop]; omega] at this
  rw [e4, e8]
  unfold body
  have hd : l.drop (9 + num l) = ((l.drop 8).drop (num l + 1)) := by rw [List.drop_drop, show 8 + (num l + 1) = 9 + num l from by omega]
  rw [hd, List.append_assoc, List.append_assoc, List.take_append_drop, show l.drop 8 = (l.drop 4).drop 4 from by rw [List.drop_drop], List.take_append_drop, List.take_append_drop]
theorem readL_bad {l : List UInt8} (h : (readL l).1 ≠ 0) : (readL l).2 = (0, []) := by
  unfold readL at h ⊢
  repeat' (split; · rfl)
  rename_i h1 h2 h3 h4 h5
  rw [if_neg h1, if_neg h2, if_neg h3, if_neg h4, if_neg h5] at h
  exact absurd rfl h
theorem readL_is_iff {l : List UInt8} {k : Nat} {p : List UInt8} : Is l k p ↔ readL l = (0, k, p) := by
  constructor
  · rintro ⟨h1, h2, h3, m, rfl⟩
    exact readL_fr m h1 h2 h3
  · intro h
    have := readL_is (l := l) (by rw [h])
    rw [h] at this
    exact this
theorem Is.len {l : List UInt8} {k : Nat} {p : List UInt8} (h : Is l k p) : p.length + 9 ≤ l.length := by
  obtain ⟨_, _, _, m, rfl⟩ := h
  rw [List.length_append, fr_length]; omega
theorem readL_len {l : List UInt8} (h : (readL l).1 = 0) : (readL l).2.2.length + 9 ≤ l.length := (readL_is h).len
theorem readL_err (l : List UInt8) : (readL l).1 ≤ 42 := by
  unfold readL
  repeat' (split; · simp)
  simp
theorem readL_kind (l : List UInt8) : (readL l).2.1 < 256 := by
  unfold readL
  repeat' (split; · simp)
  exact UInt8.toNat_lt _
/-- What stands at a place of a text. -/
def readV (s : ByteArray) (a : Int) : Nat × Nat × List UInt8 := if a < 0 ∨ (s.size : Int) < a then (1, 0, []) else readL (s.data.toList.drop a.toNat)
def frv (r : Nat × Nat × List UInt8) (a : Int) : Value := .agg #[.int .u8 r.2.1, .string (B r.2.2), .int .i64 (if r.1 = 0 then a else 0)]
def nxt (r : Nat × Nat × List UInt8) (a : Int) : Int := if r.1 = 0 then a + (9 + r.2.2.length : Nat) else 0
def readE (s : ByteArray) (a : Int) : Ending := .returned (.tuple #[frv (readV s a) a, .int .i64 (nxt (readV s a) a), .int .i64 (readV s a).1])
def badE (e : Nat) : Ending := .returned (.tuple #[.agg #[.int .u8 (0 : Nat), .string (B []), .int .i64 0], .int .i64 0, .int .i64 e])
theorem readE_bad {s : ByteArray} {a : Int} {e : Nat} (he : e ≠ 0) (h : readV s a = (e, 0, [])) : readE s a = badE e := by
  simp [readE, h, frv, nxt, he, badE]
theorem readE_ok {s : ByteArray} {a : Int} {k : Nat} {p : List UInt8} (h : readV s a = (0, k, p)) : readE s a = .returned (.tuple #[.agg #[.int .u8 k, .string (B p), .int .i64 a], .int .i64 (a + (9 + p.length : Nat)), .int .i64 (0 : Nat)]) := by
  simp [readE, h, frv, nxt]
end Fr
end Go.Proofs.YtpfoekfbcpinlaaGreatDoor
