/- The walks of package sum: each function computes what the plain law's functions say. -/
import Derived.Test.YtpfoekfbcpinlaaGreatDoorProg
import Derived.Test.YtpfoekfbcpinlaaGreatDoorCrc
import Derived.WalkKit
import Derived.WalkLawsBesides
import Derived.WalkSpells
import Derived.Outline
import Derived.OwnWalk
import Derived.Lib.Hide
import Derived.LoopTactic
import Derived.Deep.LoopGhost
import Derived.Laws.BitsAllLaws
import Derived.Below
import Derived.OneCell
namespace Go.Proofs.YtpfoekfbcpinlaaGreatDoor
open Go.RowKit

theorem ret_u32 {a b : Nat} (h : a = b) : Ending.returned (.int .u32 (a : Int)) = .returned (.int .u32 (b : Int)) := by rw [h]
theorem ret_u32' {a : Int} {b : Nat} (h : a = (b : Int)) : Ending.returned (.int .u32 a) = .returned (.int .u32 (b : Int)) := by rw [h]
theorem x32 {a b : Nat} (ha : a < 4294967296) (hb : b < 4294967296) : bits .xor .u32 (a : Int) (b : Int) = ((a ^^^ b : Nat) : Int) := u32_xor_nat a b ha hb
theorem step_val {c : Nat} (h : c < 4294967296) : (if c % 2 = 1 then bits .xor .u32 ((c : Int) / 2) 2197175160 else (c : Int) / 2) = ((Crc.step c : Nat) : Int) := by
  unfold Crc.step
  rw [Nat.testBit_zero, Nat.shiftRight_eq_div_pow]
  have e : ((c : Int) / 2) = ((c / 2 : Nat) : Int) := by omega
  by_cases hc : c % 2 = 1
  · rw [if_pos hc, e, show (2197175160 : Int) = ((Crc.poly : Nat) : Int) from rfl, x32 (by omega) (by decide)]
    simp [hc]
  · rw [if_neg hc, e]; simp [hc]
theorem low_u32 {c : Nat} (h : c < 4294967296) : bits BinOp.and IntKind.u32 (c : Int) 1 = ((c % 2 : Nat) : Int) := by
  have := u32_and_nat c 1 h (by decide)
  rw [nat_mask1] at this
  exact this

theorem low_i64 {m : Int} (h0 : 0 ≤ m) (h : m ≤ 9223372036854775807) : bits BinOp.and IntKind.i64 m 1 = m % 2 :=
  bits_mask .i64 63 (by decide) (fun n h0 h1 => by rw [IntKind.wrap_i64]; omega) 1 (by decide) m h0 (by omega)
theorem block_alloc (w : World) (o : Obj) : (w.alloc o).heap[w.heap.size]? = some o := by show (w.heap.push o)[w.heap.size]? = some o; simp
/-- The table of package sum, as the program holds it. -/
def Tab (w : World) : Prop := ∀ i : Nat, i < 16 → w.cell? ⟨0, i, none⟩ = some (.int .u32 (Crc.tab i : Nat))
theorem Tab.below {w w' : World} (h : Tab w) (hb : Below w.heap.size w w') : Tab w' := by
  intro i hi
  have hc := h i hi
  rw [← hc]
  refine hb.cell (p := ⟨0, i, none⟩) ?_
  simp only [World.cell?] at hc
  rcases Nat.lt_or_ge 0 w.heap.size with h | h
  · exact h
  · simp [Array.getElem?_eq_none h] at hc
theorem x32_ones {c : Nat} (h : c < 4294967296) : bits .xor .u32 IntKind.u32.max (c : Int) = ((c ^^^ Crc.ones : Nat) : Int) := by
  rw [Nat.xor_comm]; exact u32_xor_nat 4294967295 c (by decide) h
theorem low4_u32 {c : Nat} (h : c < 4294967296) : bits BinOp.and IntKind.u32 (c : Int) 15 = ((c % 16 : Nat) : Int) := by
  have := u32_and_nat c 15 h (by decide)
  rw [nat_mask4] at this
  exact this
theorem x32_byte {c : Nat} (h : c < 4294967296) (b : UInt8) : bits .xor .u32 (c : Int) (b.toNat : Int) = ((c ^^^ b.toNat : Nat) : Int) :=
  x32 h (Nat.lt_of_lt_of_le (UInt8.toNat_lt b) (by decide))
theorem x32_tab {c : Nat} (h : c < 4294967296) : bits .xor .u32 ((c : Int) / 16) ((Crc.tab (c % 16) : Nat) : Int) = ((Crc.steps 4 c : Nat) : Int) := by
  rw [show ((c : Int) / 16) = ((c / 16 : Nat) : Int) from by omega, x32 (b := Crc.tab (c % 16)) (by omega) (Crc.steps_lt 4 (by omega)), Crc.steps4]

theorem take_snoc (s : ByteArray) (k : Nat) (h : k < s.size) : s.data.toList.take (k + 1) = s.data.toList.take k ++ [s[k]] := by
  rw [List.take_succ_eq_append_getElem (by simpa using h)]; rfl
/-- What one round of Add does to the number: the parts of the walk. -/
theorem add_round {c : Nat} (hc : c < 4294967296) (b : UInt8) : ∃ c2 c3 c4 : Nat, c2 < 4294967296 ∧ c3 < 4294967296 ∧ c4 < 4294967296 ∧ c4 = Crc.byte c b ∧
    bits .xor .u32 (c : Int) ((b.toNat : Int) % 4294967296) = (c2 : Int) ∧ bits .and .u32 (c2 : Int) 15 = ((c2 % 16 : Nat) : Int) ∧ bits .xor .u32 ((c2 : Int) / 16) ((Crc.tab (c2 % 16) : Nat) : Int) = (c3 : Int) ∧
    bits .and .u32 (c3 : Int) 15 = ((c3 % 16 : Nat) : Int) ∧ bits .xor .u32 ((c3 : Int) / 16) ((Crc.tab (c3 % 16) : Nat) : Int) = (c4 : Int) := by
  have h2 : c ^^^ b.toNat < 4294967296 := Nat.xor_lt_two_pow (n := 32) hc (Crc.u8_lt b)
  have h3 : Crc.steps 4 (c ^^^ b.toNat) < 4294967296 := Crc.steps_lt 4 h2
  exact ⟨_, _, _, h2, h3, Crc.steps_lt 4 h3, Crc.byte_nibbles c b |>.symm, by rw [show ((b.toNat : Int) % 4294967296) = (b.toNat : Int) from by have := UInt8.toNat_lt b; omega]; exact x32_byte hc b, low4_u32 h2, x32_tab h2, low4_u32 h3, x32_tab h3⟩
theorem add_any (c0 : Nat) (s : ByteArray) (w : World) (hc0 : c0 < 4294967296) (hs : s.size ≤ 140737488351232) (ht : Tab w) :
    Calls Tryz.prog 112 #[.int .u32 c0, .string s] w fun e w' => e = .returned (.int .u32 (Crc.add c0 s.data.toList : Nat)) ∧ w = w' := by
  have h1 := x32_ones hc0
  have hlt : c0 ^^^ Crc.ones < 4294967296 := Nat.xor_lt_two_pow (n := 32) hc0 Crc.ones_lt
  have H0 : Hid (Crc.add c0 s.data.toList = Crc.upd (c0 ^^^ Crc.ones) s.data.toList ^^^ Crc.ones) := Lib.hid rfl
  generalize c0 ^^^ Crc.ones = c1 at h1 hlt H0
  have HT := Lib.hid ht
  clear ht
  go_enter Tryz.func112, Tryz.ntmps112
  go_wp2
  go_loop [0, 5, 10] (fun c _ i => ∃ k : Nat, k ≤ s.size ∧ i = .int .i64 k ∧ c = .int .u32 (Crc.upd c1 (s.data.toList.take k) : Nat)) (fun _ _ i => s.size - (intOf i).toNat)
  case atStart => exact ⟨0, Nat.zero_le _, rfl, rfl⟩
  case round =>
    obtain ⟨k, hk, rfl, rfl⟩ := hrel
    clear h1
    have hb := Crc.upd_lt hlt (s.data.toList.take k)
    by_cases hklt : k < s.size
    · have HN : Hid (Crc.upd c1 (s.data.toList.take (k + 1)) = Crc.byte (Crc.upd c1 (s.data.toList.take k)) s[k]) := Lib.hid (by rw [take_snoc s k hklt, Crc.upd_append]; rfl)
      generalize Crc.upd c1 (s.data.toList.take k) = c at hb HN
      obtain ⟨c2, c3, c4, b2, b3, b4, h4, e1, e2, e3, e4, e5⟩ := add_round hb s[k]
      rw [← h4] at HN
      have t1 := HT.out (c2 % 16) (Nat.mod_lt _ (by decide))
      have t2 := HT.out (c3 % 16) (Nat.mod_lt _ (by decide))
      have m1 : c2 % 16 < 16 := Nat.mod_lt _ (by decide)
      have m2 : c3 % 16 < 16 := Nat.mod_lt _ (by decide)
      clear h4
      go_wp2
      go_round
      case rel => exact ⟨k + 1, by omega, by go_num, by rw [HN.out]⟩
      case measure => simp [intOf]; omega
    · obtain rfl : k = s.size := by omega
      rw [List.take_of_length_le (by simp)] at hb ⊢
      have h5 := x32_ones hb
      have HE := Lib.hid h5
      clear h5
      go_wp2
      go_ret
      exact ⟨ret_u32' (by rw [HE.out, H0.out]), rfl⟩
end Go.Proofs.YtpfoekfbcpinlaaGreatDoor
