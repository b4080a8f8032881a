/- The walk of BitsLonger: it returns true, and leaves what was there. -/
import Derived.Test.YtmfigoffkopohaaBitsAwake
namespace Go.Proofs.Ytmfigoffkopohaa
open Go.RowKit
set_option linter.unusedVariables false

namespace Var
/-- A varint of this number with bytes more, of nothing, ahead of its end: its last byte, and what stands ahead. -/
def Lg (front : List UInt8) (last : UInt8) (n : Nat) : Prop :=
  last.toNat < 128 ∧ ((front.length ≤ 9 ∧ (front.length = 9 → last.toNat ≤ 1) ∧ ∃ acc, (∀ r, go (front ++ r) 0 0 = go r front.length acc) ∧ acc + last.toNat * 2 ^ (7 * front.length) = n) ∨ (10 ≤ front.length ∧ ∀ r, go (front ++ r) 0 0 = (0, 0, 4)))
theorem vb_split : ∀ (k n i acc : Nat), (vb n).length = k → i + k ≤ 10 → ∃ front last, vb n = front ++ [last] ∧ last.toNat < 128 ∧ ∃ acc', (∀ r, go (front ++ r) i acc = go r (i + front.length) acc') ∧ acc' + last.toNat * 2 ^ (7 * (i + front.length)) = acc + n * 2 ^ (7 * i) := by
  intro k
  induction k with
  | zero => intro n i acc hk; have := vb_pos n; omega
  | succ k ih =>
    intro n i acc hk hi
    by_cases h : n < 128
    · exact ⟨[], UInt8.ofNat n, vb_lt h, by rw [toNat_ofNat (by omega)]; exact h, acc, fun r => rfl, by rw [toNat_ofNat (by omega)]; simp⟩
    · have hv := vb_ge (show 128 ≤ n by omega)
      rw [hv] at hk
      simp only [List.length_cons] at hk
      have hp := vb_pos (n / 128)
      obtain ⟨front, last, h1, h2, acc', h3, h4⟩ := ih (n / 128) (i + 1) (acc + n % 128 * 2 ^ (7 * i)) (by omega) (by omega)
      have e : 2 ^ (7 * (i + 1)) = 128 * 2 ^ (7 * i) := by rw [Nat.mul_add, Nat.pow_add, Nat.mul_comm]
      refine ⟨UInt8.ofNat (n % 128 + 128) :: front, last, by rw [hv, h1]; rfl, h2, acc', fun r => ?_, ?_⟩
      · rw [List.cons_append, go, toNat_ofNat (by omega), if_neg (by omega), if_neg (by omega), show n % 128 + 128 - 128 = n % 128 from by omega, h3 r, List.length_cons, show i + 1 + front.length = i + (front.length + 1) from by omega]
      · rw [List.length_cons, show i + (front.length + 1) = i + 1 + front.length from by omega, h4, e, ← Nat.mul_assoc]
        have : n / 128 * 128 * 2 ^ (7 * i) + n % 128 * 2 ^ (7 * i) = n * 2 ^ (7 * i) := by rw [← Nat.add_mul, Nat.mul_comm (n / 128), Nat.div_add_mod]
        omega
theorem Lg.start {n : Nat} (h : n < 18446744073709551616) : ∃ front last, vb n = front ++ [last] ∧ Lg front last n := by
  have h10 := vb_len10 h
  obtain ⟨front, last, h1, h2, acc', h3, h4⟩ := vb_split (vb n).length n 0 0 rfl (by omega)
  have hl : (vb n).length = front.length + 1 := by rw [h1]; simp
  refine ⟨front, last, h1, h2, .inl ⟨by omega, fun h9 => ?_, acc', fun r => by simpa using h3 r, by simpa using h4⟩⟩
  rw [h9] at h4
  have e : (2 : Nat) ^ (7 * (0 + 9)) = 9223372036854775808 := rfl
  rw [e] at h4
  omega
theorem Lg.more {front : List UInt8} {last : UInt8} {n : Nat} (h : Lg front last n) : Lg (front ++ [UInt8.ofNat (last.toNat + 128)]) 0 n := by
  obtain ⟨h1, h⟩ := h
  refine ⟨by decide, ?_⟩
  rcases h with ⟨h2, h3, acc, h4, h5⟩ | ⟨h2, h4⟩
  · by_cases h9 : front.length = 9
    · right
      refine ⟨by simp; omega, fun r => ?_⟩
      rw [List.append_assoc, h4, List.singleton_append, go, toNat_ofNat (by omega), if_pos (by omega)]
    · left
      refine ⟨by simp; omega, fun _ => by decide, acc + last.toNat * 2 ^ (7 * front.length), fun r => ?_, ?_⟩
      · rw [List.append_assoc, h4, List.singleton_append, go, toNat_ofNat (by omega), if_neg (by omega), if_neg (by omega), show last.toNat + 128 - 128 = last.toNat from by omega]
        simp
      · rw [h5]; simp
  · right
    refine ⟨by simp; omega, fun r => ?_⟩
    rw [List.append_assoc, h4]
theorem Lg.reads {front : List UInt8} {last : UInt8} {n : Nat} (h : Lg front last n) (r : List UInt8) : uvI (front ++ [last] ++ r) 0 = if 10 < front.length + 1 then (0, 0, 4) else (n, front.length + 1, 0) := by
  unfold uvI uv
  rw [if_neg (by simp; omega)]
  simp only [Int.toNat_zero, List.drop_zero, List.append_assoc]
  obtain ⟨h1, h⟩ := h
  rcases h with ⟨h2, h3, acc, h4, h5⟩ | ⟨h2, h4⟩
  · rw [h4, List.singleton_append, go, if_neg (by omega), if_pos h1, h5, if_neg (show ¬ 10 < front.length + 1 by omega)]
    simp
  · rw [h4, if_pos (show 10 < front.length + 1 by omega)]
    simp
end Var
theorem BRow.where {w : World} {base g n cap : Nat} {l : List UInt8} (h : BRow w base (.slice (some ⟨g, 0, none⟩) n cap) l) : base ≤ g ∧ g < w.heap.size := by
  rcases h with ⟨h, _⟩ | ⟨g', cap', h1, h2, h3, _⟩
  · simp at h
  · simp only [Value.slice.injEq, Option.some.injEq, Addr.mk.injEq, and_true] at h1
    obtain ⟨rfl, _⟩ := h1
    exact ⟨h2, h3⟩
theorem BRow.slice {w : World} {base : Nat} {v : Value} {l : List UInt8} (h : BRow w base v l) (hl : l ≠ []) : ∃ g cap, v = .slice (some ⟨g, 0, none⟩) l.length cap := by
  rcases h with ⟨_, h⟩ | ⟨g, cap, h1, _⟩
  · exact absurd h hl
  · exact ⟨g, cap, h1⟩
theorem or_last {b : UInt8} (h : b.toNat < 128) : bits .or .u8 (b.toNat : Int) 128 = ((UInt8.ofNat (b.toNat + 128)).toNat : Int) := by
  rw [show (128 : Int) = ((128 : Nat) : Int) from rfl, u8_or_nat _ _ (by omega) (by decide), or128 _ (by omega), Var.toNat_ofNat (by omega), Nat.mod_eq_of_lt h]
set_option maxRecDepth 20000 in
theorem walkBitsLonger (w : World) (n : Int) (hn : (Lit.int .u64 n).wf = true) (m : Int) (hm : (Lit.int .u8 m).wf = true) :
    Calls Try.prog 4 #[.int .u64 n, .int .u8 m] w fun e w' => e = .returned (.bool true) ∧ Below w.heap.size w w' := by
  obtain ⟨n, rfl, hn0⟩ := u64_nat hn
  obtain ⟨m, rfl, hm0⟩ := u8_nat hm
  clear hn hm
  obtain ⟨front0, last0, hv0, hl0⟩ := Var.Lg.start hn0
  have h10 := Var.vb_len10 hn0
  obtain ⟨S, hS⟩ : ∃ S, B (Var.vb n) = S := ⟨_, rfl⟩
  have hsz : S.size ≤ 10 := by rw [← hS, B_size]; exact h10
  have hSl : S.data.toList = front0 ++ [last0] := by rw [← hS, B_list, hv0]
  have HSl := Kp.mk hSl
  have HS := Kp.mk hS
  have hfl : front0.length ≤ 9 := by rw [hv0] at h10; simp at h10; omega
  have hfs : S.size = front0.length + 1 := by rw [← hS, B_size, hv0]; simp
  clear hS hSl h10
  have HL0 := Kp.mk hl0
  have HV0 := Kp.mk hv0
  clear hv0 hl0
  go_enter Try.func4, Try.ntmps4
  go_wp2_with fail
  refine (awake_any _).mono ?_
  rintro e w1 ⟨rfl, hb1⟩
  have HB1 := Kp.mk hb1
  clear hb1
  go_wp2_with fail
  refine (law01put_at n _ S (by omega) (by omega) (by rw [Int.toNat_natCast]; exact HS.out)).mono ?_
  rintro e w2 ⟨rfl, hb2⟩
  have HB2 : Kp (Below w.heap.size w w2) := ⟨HB1.out.trans (hb2.mono HB1.out.size)⟩
  clear hb2
  have hconv := Lib.run_convert_string_bytes (P := Try.prog) w2 9 30 5 S Try.underlying9 Try.underlying30 Try.underlying5
  have HM : Kp (BRow (Lib.bytesWorld w2 5 S) w2.heap.size (.slice (some ⟨w2.heap.size, 0, none⟩) S.size (grownCap w2 S.size 0 5)) (front0 ++ [last0])) := ⟨by
    have := BRow.made w2 S (by unfold maxLen; omega)
    rw [HSl.out] at this; exact this⟩
  have HB3 : Kp (Below w.heap.size w (Lib.bytesWorld w2 5 S)) := ⟨HB2.out.trans ((below_bytes w2 _).mono HB2.out.size)⟩
  have hws : w.heap.size ≤ w2.heap.size := HB2.out.size
  have hws2 : w2.heap.size ≤ (Lib.bytesWorld w2 5 S).heap.size := (below_bytes w2 _).size
  generalize grownCap w2 S.size 0 5 = cap at hconv HM
  generalize Lib.bytesWorld w2 5 S = w3 at hconv HM HB3 hws2
  rw [hfs] at hconv HM
  go_wp2
  go_loopw [5, 6] (fun b i wr => ∃ (front : List UInt8) (last : UInt8) (k g cap : Nat), i = .int .i64 k ∧ k ≤ m ∧ b = .slice (some ⟨g, 0, none⟩) (front.length + 1) cap ∧ BRow wr w2.heap.size (.slice (some ⟨g, 0, none⟩) (front.length + 1) cap) (front ++ [last]) ∧ front.length + 1 ≤ 12 ∧ Var.Lg front last n ∧ Below w.heap.size w wr) (fun _ i _ => m - (intOf i).toNat)
  case atStart => exact ⟨front0, last0, 0, _, _, rfl, by omega, rfl, HM.out, by omega, HL0.out, HB3.out⟩
  case round =>
    obtain ⟨front, last, k, g, cap, rfl, hk, rfl, hrow, hlen, hlg, hbel⟩ := hrel
    have HRow := Kp.mk hrow
    have HLg := Kp.mk hlg
    have HBel := Kp.mk hbel
    clear hbel
    by_cases hgo : k < m ∧ front.length + 1 < 12
    · obtain ⟨hkm, hl12⟩ := hgo
      obtain ⟨hcell, hfroz⟩ := hrow.cell front.length (by simp)
      have hcell : wr.cell? ⟨g, front.length, none⟩ = some (.int .u8 (last.toNat : Int)) := by simpa using hcell
      have hst := hrow.stored front.length (by simp) (UInt8.ofNat (last.toNat + 128))
      rw [List.set_append_right _ _ (Nat.le_refl _), Nat.sub_self, List.set_cons_zero] at hst
      have HO := or_last hlg.1
      rw [← HO] at hst
      have HSt := Kp.mk hst
      have hgw := hrow.where
      have HBs : Kp (Below w.heap.size w (wr.setCell ⟨g, front.length, none⟩ (.int .u8 (bits .or .u8 (last.toNat : Int) 128)))) := ⟨HBel.out.setCell (show w.heap.size ≤ g by omega) _⟩
      have hbs : w2.heap.size ≤ (wr.setCell ⟨g, front.length, none⟩ (.int .u8 (bits .or .u8 (last.toNat : Int) 128))).heap.size := by simp; omega
      have hszs : (wr.setCell ⟨g, front.length, none⟩ (.int .u8 (bits .or .u8 (last.toNat : Int) 128))).heap.size = wr.heap.size := by simp
      have HL : Kp ((front ++ [UInt8.ofNat (last.toNat + 128)]).length + 1 ≤ 140737488355328) := ⟨by simp; omega⟩
      clear hrow hst hlg HO
      go_wp2_with (at_builtin; go_loud (refine wpList_append_byte _ rfl _ _ rfl w2.heap.size (.slice (some ⟨g, 0, none⟩) (front.length + 1) cap) (front ++ [UInt8.ofNat (last.toNat + 128)]) HSt.out hbs 0 0 rfl rfl ?c3 rfl HL.out ?_; (case c3 => rw [hszs]; rfl); intro v' w' h1 h2 h3))
      obtain ⟨g', cap', rfl⟩ := h1.slice (by simp)
      simp only [List.length_append, List.length_singleton] at h1
      go_roundw
      case rel => exact ⟨front ++ [UInt8.ofNat (last.toNat + 128)], 0, k + 1, g', cap', by go_num, by omega, by simp, by simpa using h1, by simp; omega, HLg.out.more, HBs.out.grown h2 HBs.out.size (fun j hj => by simp [Value.ownBlock] at hj; omega)⟩
      case measure => simp [intOf]; omega
    · have hcv := hrow.string 9 Try.underlying9
      have HU := Kp.mk (HLg.out.reads [120])
      obtain ⟨X, hX⟩ : ∃ X, (⟨(front ++ [last]).toArray⟩ : ByteArray) = X := ⟨_, rfl⟩
      have hXs : X.size = front.length + 1 := by rw [← hX]; simp [ByteArray.size]
      have HXl : Kp ((X ++ ⟨#[120]⟩).data.toList = front ++ [last] ++ [120]) := ⟨by rw [← hX]; simp⟩
      rw [hX] at hcv
      clear hrow hX hlg
      by_cases hb : 10 < front.length + 1
      · have HU2 : Kp (Var.uvI (X ++ ⟨#[120]⟩).data.toList 0 = (0, 0, 4)) := ⟨by rw [HXl.out, HU.out, if_pos hb]⟩
        have t0 : decide ((10 : Int) < (front.length : Int) + 1) = true := by rw [decide_eq_true_eq]; omega
        by_cases hkm : k < m
        all_goals
          go_wp2_with fail
          refine (Uvarint_at _ _ _ 0 0 4 ?_ (by decide) (by decide) _ HU2.out rfl rfl rfl).mono ?_
          · rw [ByteArray.size_append, hXs]; show front.length + 1 + 1 ≤ _; omega
          rintro e w' ⟨rfl, rfl⟩
          go_wp2
          go_ret
          exact ⟨rfl, HBel.out⟩
      · have HU2 : Kp (Var.uvI (X ++ ⟨#[120]⟩).data.toList 0 = (n, front.length + 1, 0)) := ⟨by rw [HXl.out, HU.out, if_neg hb]⟩
        have t0 : decide ((10 : Int) < (front.length : Int) + 1) = false := by rw [decide_eq_false_iff_not]; omega
        have hkm : ¬ k < m := by omega
        go_wp2_with fail
        refine (Uvarint_at _ _ _ n ((front.length : Int) + 1) 0 ?_ (by decide) (by decide) _ HU2.out rfl rfl rfl).mono ?_
        · rw [ByteArray.size_append, hXs]; show front.length + 1 + 1 ≤ _; omega
        rintro e w' ⟨rfl, rfl⟩
        go_wp2
        go_ret
        exact ⟨by trivial, HBel.out⟩
end Go.Proofs.Ytmfigoffkopohaa
