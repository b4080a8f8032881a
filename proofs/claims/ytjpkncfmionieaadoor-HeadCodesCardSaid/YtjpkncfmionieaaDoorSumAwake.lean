/- The walks of package sum: each function computes what the plain law's functions say. -/
import Derived.Test.YtjpkncfmionieaaDoorProg
import Derived.Test.YtjpkncfmionieaaDoorCrc
import Derived.WalkKit
import Derived.WalkLawsBesides
import Derived.WalkSpells
import Derived.Outline
import Derived.OwnWalk
import Derived.Lib.Hide
import Derived.LoopTactic
import Derived.Deep.LoopGhost
import Derived.Laws.BitsAllLaws
import Derived.Below
import Derived.OneCell
namespace Go.Proofs.YtjpkncfmionieaaDoor
open Go.RowKit

theorem ret_u32 {a b : Nat} (h : a = b) : Ending.returned (.int .u32 (a : Int)) = .returned (.int .u32 (b : Int)) := by rw [h]
theorem ret_u32' {a : Int} {b : Nat} (h : a = (b : Int)) : Ending.returned (.int .u32 a) = .returned (.int .u32 (b : Int)) := by rw [h]
theorem x32 {a b : Nat} (ha : a < 4294967296) (hb : b < 4294967296) : bits .xor .u32 (a : Int) (b : Int) = ((a ^^^ b : Nat) : Int) := u32_xor_nat a b ha hb
theorem step_val {c : Nat} (h : c < 4294967296) : (if c % 2 = 1 then bits .xor .u32 ((c : Int) / 2) 2197175160 else (c : Int) / 2) = ((Crc.step c : Nat) : Int) := by
  unfold Crc.step
  rw [Nat.testBit_zero, Nat.shiftRight_eq_div_pow]
  have e : ((c : Int) / 2) = ((c / 2 : Nat) : Int) := by omega
  by_cases hc : c % 2 = 1
  · rw [if_pos hc, e, show (2197175160 : Int) = ((Crc.poly : Nat) : Int) from rfl, x32 (by omega) (by decide)]
    simp [hc]
  · rw [if_neg hc, e]; simp [hc]
theorem low_u32 {c : Nat} (h : c < 4294967296) : bits BinOp.and IntKind.u32 (c : Int) 1 = ((c % 2 : Nat) : Int) := by
  have := u32_and_nat c 1 h (by decide)
  rw [nat_mask1] at this
  exact this

theorem low_i64 {m : Int} (h0 : 0 ≤ m) (h : m ≤ 9223372036854775807) : bits BinOp.and IntKind.i64 m 1 = m % 2 :=
  bits_mask .i64 63 (by decide) (fun n h0 h1 => by rw [IntKind.wrap_i64]; omega) 1 (by decide) m h0 (by omega)
theorem block_alloc (w : World) (o : Obj) : (w.alloc o).heap[w.heap.size]? = some o := by show (w.heap.push o)[w.heap.size]? = some o; simp
/-- The table of package sum, as the program holds it. -/
def Tab (w : World) : Prop := ∀ i : Nat, i < 16 → w.cell? ⟨0, i, none⟩ = some (.int .u32 (Crc.tab i : Nat))
theorem Tab.below {w w' : World} (h : Tab w) (hb : Below w.heap.size w w') : Tab w' := by
  intro i hi
  have hc := h i hi
  rw [← hc]
  refine hb.cell (p := ⟨0, i, none⟩) ?_
  simp only [World.cell?] at hc
  rcases Nat.lt_or_ge 0 w.heap.size with h | h
  · exact h
  · simp [Array.getElem?_eq_none h] at hc
theorem x32_ones {c : Nat} (h : c < 4294967296) : bits .xor .u32 IntKind.u32.max (c : Int) = ((c ^^^ Crc.ones : Nat) : Int) := by
  rw [Nat.xor_comm]; exact u32_xor_nat 4294967295 c (by decide) h
theorem low4_u32 {c : Nat} (h : c < 4294967296) : bits BinOp.and IntKind.u32 (c : Int) 15 = ((c % 16 : Nat) : Int) := by
  have := u32_and_nat c 15 h (by decide)
  rw [nat_mask4] at this
  exact this
theorem x32_byte {c : Nat} (h : c < 4294967296) (b : UInt8) : bits .xor .u32 (c : Int) (b.toNat : Int) = ((c ^^^ b.toNat : Nat) : Int) :=
  x32 h (Nat.lt_of_lt_of_le (UInt8.toNat_lt b) (by decide))
theorem x32_tab {c : Nat} (h : c < 4294967296) : bits .xor .u32 ((c : Int) / 16) ((Crc.tab (c % 16) : Nat) : Int) = ((Crc.steps 4 c : Nat) : Int) := by
  rw [show ((c : Int) / 16) = ((c / 16 : Nat) : Int) from by omega, x32 (b := Crc.tab (c % 16)) (by omega) (Crc.steps_lt 4 (by omega)), Crc.steps4]

theorem take_snoc (s : ByteArray) (k : Nat) (h : k < s.size) : s.data.toList.take (k + 1) = s.data.toList.take k ++ [s[k]] := by
  rw [List.take_succ_eq_append_getElem (by simpa using h)]; rfl
/-- What one round of Add does to the number: the parts of the walk. -/
theorem add_round {c : Nat} (hc : c < 4294967296) (b : UInt8) : ∃ c2 c3 c4 : Nat, c2 < 4294967296 ∧ c3 < 4294967296 ∧ c4 < 4294967296 ∧ c4 = Crc.byte c b ∧
    bits .xor .u32 (c : Int) ((b.toNat : Int) % 4294967296) = (c2 : Int) ∧ bits .and .u32 (c2 : Int) 15 = ((c2 % 16 : Nat) : Int) ∧ bits .xor .u32 ((c2 : Int) / 16) ((Crc.tab (c2 % 16) : Nat) : Int) = (c3 : Int) ∧
    bits .and .u32 (c3 : Int) 15 = ((c3 % 16 : Nat) : Int) ∧ bits .xor .u32 ((c3 : Int) / 16) ((Crc.tab (c3 % 16) : Nat) : Int) = (c4 : Int) := by
  have h2 : c ^^^ b.toNat < 4294967296 := Nat.xor_lt_two_pow (n := 32) hc (Crc.u8_lt b)
  have h3 : Crc.steps 4 (c ^^^ b.toNat) < 4294967296 := Crc.steps_lt 4 h2
  exact ⟨_, _, _, h2, h3, Crc.steps_lt 4 h3, Crc.byte_nibbles c b |>.symm, by rw [show ((b.toNat : Int) % 4294967296) = (b.toNat : Int) from by have := UInt8.toNat_lt b; omega]; exact x32_byte hc b, low4_u32 h2, x32_tab h2, low4_u32 h3, x32_tab h3⟩
theorem add_any (c0 : Nat) (s : ByteArray) (w : World) (hc0 : c0 < 4294967296) (hs : s.size ≤ 140737488351232) (ht : Tab w) :
    Calls Tryd.prog 83 #[.int .u32 c0, .string s] w fun e w' => e = .returned (.int .u32 (Crc.add c0 s.data.toList : Nat)) ∧ w = w' := by
  have h1 := x32_ones hc0
  have hlt : c0 ^^^ Crc.ones < 4294967296 := Nat.xor_lt_two_pow (n := 32) hc0 Crc.ones_lt
  have H0 : Hid (Crc.add c0 s.data.toList = Crc.upd (c0 ^^^ Crc.ones) s.data.toList ^^^ Crc.ones) := Lib.hid rfl
  generalize c0 ^^^ Crc.ones = c1 at h1 hlt H0
  have HT := Lib.hid ht
  clear ht
  go_enter Tryd.func83, Tryd.ntmps83
  go_wp2
  go_loop [0, 5, 10] (fun c _ i => ∃ k : Nat, k ≤ s.size ∧ i = .int .i64 k ∧ c = .int .u32 (Crc.upd c1 (s.data.toList.take k) : Nat)) (fun _ _ i => s.size - (intOf i).toNat)
  case atStart => exact ⟨0, Nat.zero_le _, rfl, rfl⟩
  case round =>
    obtain ⟨k, hk, rfl, rfl⟩ := hrel
    clear h1
    have hb := Crc.upd_lt hlt (s.data.toList.take k)
    by_cases hklt : k < s.size
    · have HN : Hid (Crc.upd c1 (s.data.toList.take (k + 1)) = Crc.byte (Crc.upd c1 (s.data.toList.take k)) s[k]) := Lib.hid (by rw [take_snoc s k hklt, Crc.upd_append]; rfl)
      generalize Crc.upd c1 (s.data.toList.take k) = c at hb HN
      obtain ⟨c2, c3, c4, b2, b3, b4, h4, e1, e2, e3, e4, e5⟩ := add_round hb s[k]
      rw [← h4] at HN
      have t1 := HT.out (c2 % 16) (Nat.mod_lt _ (by decide))
      have t2 := HT.out (c3 % 16) (Nat.mod_lt _ (by decide))
      have m1 : c2 % 16 < 16 := Nat.mod_lt _ (by decide)
      have m2 : c3 % 16 < 16 := Nat.mod_lt _ (by decide)
      clear h4
      go_wp2
      go_round
      case rel => exact ⟨k + 1, by omega, by go_num, by rw [HN.out]⟩
      case measure => simp [intOf]; omega
    · obtain rfl : k = s.size := by omega
      rw [List.take_of_length_le (by simp)] at hb ⊢
      have h5 := x32_ones hb
      have HE := Lib.hid h5
      clear h5
      go_wp2
      go_ret
      exact ⟨ret_u32' (by rw [HE.out, H0.out]), rfl⟩
end Go.Proofs.YtjpkncfmionieaaDoor
/- The walks of package sum, behind Add and Join: Of, Mask, Plain, Same; and the examples. -/
namespace Go.Proofs.YtjpkncfmionieaaDoor
open Go.RowKit

private theorem ret_bool {a b : Bool} (h : a = b) : Ending.returned (.bool a) = .returned (.bool b) := by rw [h]
theorem beq_nat (a b : Nat) : ((a : Int) == (b : Int)) = decide (a = b) := by
  by_cases h : a = b
  · rw [h]; simp
  · rw [decide_eq_false h]; exact beq_eq_false_iff_ne.2 (by omega)
theorem of_any (s : ByteArray) (w : World) (hs : s.size ≤ 140737488351232) (ht : Tab w) :
    Calls Tryd.prog 67 #[.string s] w fun e w' => e = .returned (.int .u32 (Crc.crc s.data.toList : Nat)) ∧ w = w' := by
  go_enter Tryd.func67, Tryd.ntmps67
  go_wp2_with (refine (add_any 0 s w (by decide) hs ht).mono ?_; rintro e w' ⟨rfl, rfl⟩)
  go_ret
  exact ⟨rfl, rfl⟩
theorem or32_rot (x s t : Nat) (hs : s ≤ 32) (ht : t = 32 - s) (hx : x < 4294967296) :
    bits .or .u32 (((x * 2 ^ s % 4294967296 : Nat) : Int)) ((x / 2 ^ t : Nat) : Int) = ((x * 2 ^ s % 4294967296 + x / 2 ^ t : Nat) : Int) := by
  rw [u32_or_nat _ _ (Nat.mod_lt _ (by decide)) (Nat.lt_of_le_of_lt (Nat.div_le_self _ _) hx), Crc.rot_or x s t hs ht hx]
theorem rotr_val {c : Nat} (hc : c < 4294967296) : bits BinOp.or IntKind.u32 ((c : Int) * 131072 % 4294967296) ((c : Int) / 32768) = ((Crc.rotr c : Nat) : Int) := by
  have h := or32_rot c 17 15 (by decide) rfl hc
  rw [show ((c : Int) * 131072 % 4294967296) = ((c * 2 ^ 17 % 4294967296 : Nat) : Int) from by omega, show ((c : Int) / 32768) = ((c / 2 ^ 15 : Nat) : Int) from by omega, h]
  unfold Crc.rotr
  omega
theorem rotl_val {c : Nat} (hc : c < 4294967296) : bits BinOp.or IntKind.u32 ((c : Int) * 32768 % 4294967296) ((c : Int) / 131072) = ((Crc.rotl c : Nat) : Int) := by
  have h := or32_rot c 15 17 (by decide) rfl hc
  rw [show ((c : Int) * 32768 % 4294967296) = ((c * 2 ^ 15 % 4294967296 : Nat) : Int) from by omega, show ((c : Int) / 131072) = ((c / 2 ^ 17 : Nat) : Int) from by omega, h]
  unfold Crc.rotl
  omega
theorem rotr_any (c : Nat) (w : World) (hc : c < 4294967296) :
    Calls Tryd.prog 82 #[.int .u32 c, .int .i64 (-15)] w fun e w' => e = .returned (.int .u32 (Crc.rotr c : Nat)) ∧ w = w' := by
  have ha : bits BinOp.and IntKind.u64 (IntKind.u64.wrap (-15)) 31 = 17 := by decide
  have hr := Lib.hid (rotr_val hc)
  go_enter Tryd.func82, Tryd.ntmps82
  go_wp2
  go_ret
  exact ⟨ret_u32' hr.out, rfl⟩
theorem rotl_any (c : Nat) (w : World) (hc : c < 4294967296) :
    Calls Tryd.prog 82 #[.int .u32 c, .int .i64 15] w fun e w' => e = .returned (.int .u32 (Crc.rotl c : Nat)) ∧ w = w' := by
  have ha : bits BinOp.and IntKind.u64 15 31 = 15 := by decide
  have hr := Lib.hid (rotl_val hc)
  go_enter Tryd.func82, Tryd.ntmps82
  go_wp2
  go_ret
  exact ⟨ret_u32' hr.out, rfl⟩
theorem mask_any (c : Nat) (w : World) (hc : c < 4294967296) :
    Calls Tryd.prog 66 #[.int .u32 c] w fun e w' => e = .returned (.int .u32 (Crc.mask c : Nat)) ∧ w = w' := by
  have hr := Crc.rotr_lt hc
  go_enter Tryd.func66, Tryd.ntmps66
  go_wp2_with (refine (rotr_any c w hc).mono ?_; rintro e w' ⟨rfl, rfl⟩)
  go_ret
  exact ⟨ret_u32' (by unfold Crc.mask; omega), rfl⟩
theorem same_any (s : ByteArray) (m : Nat) (w : World) (hs : s.size ≤ 140737488351232) (ht : Tab w) :
    Calls Tryd.prog 76 #[.string s, .int .u32 m] w fun e w' => e = .returned (.bool (decide (Crc.mask (Crc.crc s.data.toList) = m))) ∧ w = w' := by
  have hc := Crc.crc_lt s.data.toList
  go_enter Tryd.func76, Tryd.ntmps76
  go_wp2_with (first | (refine (of_any s w hs ht).mono ?_; rintro e w' ⟨rfl, rfl⟩) | (refine (mask_any _ w hc).mono ?_; rintro e w' ⟨rfl, rfl⟩))
  go_ret
  exact ⟨ret_bool (beq_nat _ _), rfl⟩
end Go.Proofs.YtjpkncfmionieaaDoor
/- The examples that each statement of chapter 2 asks. -/
namespace Go.Proofs.YtjpkncfmionieaaDoor
open Go.RowKit

theorem u32_nat {a : Int} (h : (Lit.int .u32 a).wf = true) : ∃ n : Nat, a = n ∧ n < 4294967296 := by
  have h' : 0 ≤ a ∧ a < 4294967296 := by
    simp [Lit.wf, IntKind.min, IntKind.max, IntKind.signed, IntKind.bits] at h
    omega
  exact ⟨a.toNat, by omega, by omega⟩
theorem of_at (s : ByteArray) (v : Int) (w : World) (hs : s.size ≤ 140737488351232) (hv : ((Crc.crc s.data.toList : Nat) : Int) = v) (ht : Tab w) :
    Calls Tryd.prog 67 #[.string s] w fun e w' => e = .returned (.int .u32 v) ∧ w = w' :=
  (of_any s w hs ht).mono fun e w' ⟨he, hw⟩ => ⟨by rw [he, hv], hw⟩
theorem add_at (c : Int) (s : ByteArray) (v : Int) (w : World) (h0 : 0 ≤ c) (h1 : c < 4294967296) (hs : s.size ≤ 140737488351232) (hv : ((Crc.add c.toNat s.data.toList : Nat) : Int) = v) (ht : Tab w) :
    Calls Tryd.prog 83 #[.int .u32 c, .string s] w fun e w' => e = .returned (.int .u32 v) ∧ w = w' := by
  obtain ⟨n, rfl⟩ := Int.eq_ofNat_of_zero_le h0
  rw [Int.toNat_natCast] at hv
  exact (add_any n s w (by omega) hs ht).mono fun e w' ⟨he, hw⟩ => ⟨by rw [he, hv], hw⟩
theorem mask_at (c : Int) (v : Int) (w : World) (h0 : 0 ≤ c) (h1 : c < 4294967296) (hv : ((Crc.mask c.toNat : Nat) : Int) = v) :
    Calls Tryd.prog 66 #[.int .u32 c] w fun e w' => e = .returned (.int .u32 v) ∧ w = w' := by
  obtain ⟨n, rfl⟩ := Int.eq_ofNat_of_zero_le h0
  rw [Int.toNat_natCast] at hv
  exact (mask_any n w (by omega)).mono fun e w' ⟨he, hw⟩ => ⟨by rw [he, hv], hw⟩
end Go.Proofs.YtjpkncfmionieaaDoor
