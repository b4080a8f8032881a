/- The walks of package frame: known, Size, Make, Read. -/
import Derived.Test.YtpfoekfbcpinlaaGreatDoorFr
import Derived.Test.YtpfoekfbcpinlaaGreatDoorHeadMay
import Derived.Test.YtpfoekfbcpinlaaGreatDoorBitsRef
import Derived.Deep.QuietTactic
import Derived.BigQuiet
namespace Go.Proofs.YtpfoekfbcpinlaaGreatDoor
open Go.RowKit
set_option linter.unusedVariables false

theorem known_any (k : Nat) (w : World) (hk : k < 256) :
    Calls Tryz.prog 87 #[.int .u8 k] w fun e w' => e = .returned (.bool (decide (1 ≤ k ∧ k ≤ 3))) ∧ w = w' := by
  have HV : Kp (decide (1 ≤ k ∧ k ≤ 3) = (decide (1 ≤ k) && decide (k ≤ 3))) := ⟨by rw [Bool.eq_iff_iff]; simp⟩
  by_cases h1 : 1 ≤ k
  · have t1 : decide ((1 : Int) ≤ (k : Int)) = true := by rw [decide_eq_true_eq]; omega
    go_enter Tryz.func87, Tryz.ntmps87
    go_wp2
    go_ret
    refine ⟨ret_bool ?_, rfl⟩
    rw [HV.out]
    by_cases h3 : k ≤ 3 <;> simp [h1, h3] <;> omega
  · have t1 : decide ((1 : Int) ≤ (k : Int)) = false := by rw [decide_eq_false_iff_not]; omega
    go_enter Tryz.func87, Tryz.ntmps87
    go_wp2
    go_ret
    refine ⟨ret_bool ?_, rfl⟩
    rw [HV.out]
    simp [h1] <;> omega
def sizeV (n : Int) : Int := if n < 0 ∨ 262144 < n then 0 else n + 9
theorem Size_any (n : Int) (w : World) (h1 : -9223372036854775808 ≤ n) (h2 : n ≤ 9223372036854775807) :
    Calls Tryz.prog 101 #[.int .i64 n] w fun e w' => e = .returned (.int .i64 (sizeV n)) ∧ w = w' := by
  have HV : Kp (sizeV n = if n < 0 ∨ 262144 < n then 0 else n + 9) := ⟨rfl⟩
  by_cases h0 : n < 0
  · have t1 : decide (n < 0) = true := by rw [decide_eq_true_eq]; omega
    go_enter Tryz.func101, Tryz.ntmps101
    go_wp2
    go_ret
    exact ⟨by rw [HV.out, if_pos (.inl h0)]; rfl, rfl⟩
  · have t1 : decide (n < 0) = false := by rw [decide_eq_false_iff_not]; omega
    by_cases hb : 262144 < n
    · have t2 : decide (262144 < n) = true := by rw [decide_eq_true_eq]; omega
      go_enter Tryz.func101, Tryz.ntmps101
      go_wp2
      go_ret
      exact ⟨by rw [HV.out, if_pos (.inr hb)]; rfl, rfl⟩
    · have t2 : decide (262144 < n) = false := by rw [decide_eq_false_iff_not]; omega
      go_enter Tryz.func101, Tryz.ntmps101
      go_wp2
      go_ret
      exact ⟨by rw [HV.out, if_neg (by omega)]; rfl, rfl⟩
/-- Make's answer. -/
def makeV (k : Nat) (s : ByteArray) : ByteArray × Nat := if k < 1 ∨ 3 < k then (⟨#[]⟩, 1) else if 262144 < s.size then (⟨#[]⟩, 40) else (B (Fr.fr (UInt8.ofNat k) s.data.toList), 0)
def makeE (k : Nat) (s : ByteArray) : Ending := .returned (.tuple #[.string (makeV k s).1, .int .i64 (makeV k s).2])
theorem cons_text (k : UInt8) (s : ByteArray) : (⟨#[k]⟩ : ByteArray) ++ s = B (k :: s.data.toList) := by
  show (⟨_⟩ : ByteArray) = ⟨_⟩
  congr 1
theorem B_text (l : List UInt8) : (⟨l.toArray⟩ : ByteArray) = B l := rfl
set_option maxRecDepth 20000 in
theorem Make_any (k : Nat) (s : ByteArray) (w : World) (hk : k < 256) (hs : s.size ≤ 140737488351000) (ht : Tab w) :
    Calls Tryz.prog 45 #[.int .u8 k, .string s] w fun e w' => e = makeE k s ∧ Below w.heap.size w w' := by
  have HK := Kp.mk (fun w => known_any k w hk)
  by_cases h0 : k < 1 ∨ 3 < k
  · have HV : Kp (makeE k s = .returned (.tuple #[.string ⟨#[]⟩, .int .i64 (1 : Nat)])) := ⟨by unfold makeE makeV; rw [if_pos h0]⟩
    have td : decide (1 ≤ k ∧ k ≤ 3) = false := by rw [decide_eq_false_iff_not]; omega
    rw [td] at HK
    go_enter Tryz.func45, Tryz.ntmps45
    go_wp2_with fail
    refine (HK.out _).mono ?_
    rintro e w' ⟨rfl, rfl⟩
    go_wp2
    go_ret2
    exact ⟨HV.out.symm, Below.refl _ _⟩
  · have td : decide (1 ≤ k ∧ k ≤ 3) = true := by rw [decide_eq_true_eq]; omega
    rw [td] at HK
    by_cases hb : 262144 < s.size
    · have HV : Kp (makeE k s = .returned (.tuple #[.string ⟨#[]⟩, .int .i64 (40 : Nat)])) := ⟨by unfold makeE makeV; rw [if_neg h0, if_pos hb]⟩
      go_enter Tryz.func45, Tryz.ntmps45
      go_wp2_with fail
      refine (HK.out _).mono ?_
      rintro e w' ⟨rfl, rfl⟩
      go_wp2
      go_ret2
      exact ⟨HV.out.symm, Below.refl _ _⟩
    · have HV : Kp (makeE k s = .returned (.tuple #[.string (B (Fr.fr (UInt8.ofNat k) s.data.toList)), .int .i64 (0 : Nat)])) := ⟨by unfold makeE makeV; rw [if_neg h0, if_neg hb]⟩
      have HKB : Kp ((k : Int) = ((UInt8.ofNat k).toNat : Int)) := ⟨by rw [Fr.toNat_ofNat' hk]⟩
      have HFR : Kp (Fr.fr (UInt8.ofNat k) s.data.toList = ([] ++ fixedOf s.size 4) ++ fixedOf (Fr.sumL (UInt8.ofNat k :: s.data.toList)) 4 ++ (UInt8.ofNat k :: s.data.toList)) := ⟨by simp [Fr.fr, fixedOf]⟩
      generalize UInt8.ofNat k = b at HV HKB HFR
      have hconv := one_text w b
      have HO := Kp.mk (fun w ht => of_any (⟨#[b]⟩ ++ s) w (by rw [ByteArray.size_append]; show 1 + s.size ≤ _; omega) ht)
      rw [cons_text, B_list] at HO
      have hcl : Crc.crc (b :: s.data.toList) < 4294967296 := Crc.crc_lt (b :: s.data.toList)
      have HM : Kp (∀ w, Calls Tryz.prog 89 #[.int .u32 (Crc.crc (b :: s.data.toList) : Nat)] w fun e w' => e = .returned (.int .u32 (Fr.sumL (b :: s.data.toList) : Nat)) ∧ w = w') := ⟨fun w => mask_any (Crc.crc (b :: s.data.toList)) w hcl⟩
      have hml := Fr.sumL_lt (b :: s.data.toList)
      generalize Crc.crc (b :: s.data.toList) = c at HO HM hcl
      have hbl : (B (b :: s.data.toList)).data.toList = b :: s.data.toList := B_list _
      have hbs : (B (b :: s.data.toList)).size = s.size + 1 := by rw [B_size]; simp
      have hB := Kp.mk hbl
      have hS := Kp.mk hbs
      generalize Fr.sumL (b :: s.data.toList) = m at HM hml HFR
      have hcat := cons_text b s
      have HL : Kp ((b :: s.data.toList : List UInt8) = b :: s.data.toList) := ⟨rfl⟩
      generalize B (b :: s.data.toList) = body at HO hcat hB hS
      clear hbl hbs HL
      go_enter Tryz.func45, Tryz.ntmps45
      go_wp2_with fail
      refine (HK.out _).mono ?_
      rintro e w' ⟨rfl, rfl⟩
      rw [HKB.out]
      go_wp2_with fail
      refine (PutFixed_any _ _ [] s.size 4 _ (BRow.nil _ _) (Nat.le_refl _) (by decide) (by omega)).mono ?_
      rintro e w1 ⟨v1, rfl, h1, h2, h3⟩
      have HB : Kp (Below w.heap.size w w1) := ⟨((Below.refl _ w).alloc (Nat.le_refl _) _).grown h2 (by simp) (fun k hk => by cases hk)⟩
      have HT1 : Kp (Tab w1) := ⟨ht.below HB.out⟩
      have H1 : Kp (BRow w1 w.heap.size v1 ([] ++ fixedOf s.size 4)) := ⟨h1.lower (by simp)⟩
      have HN : Kp (∀ k, v1.ownBlock = some k → w.heap.size ≤ k) := ⟨fun k hk => by
        rcases h3 k hk with h | h
        · simp [Value.ownBlock] at h
        · simp at h; omega⟩
      have hb1 := HB.out.size
      clear h1 h2 h3
      go_wp2_with fail
      refine (HO.out _ HT1.out).mono ?_
      rintro e w' ⟨rfl, rfl⟩
      go_wp2_with fail
      refine (HM.out _).mono ?_
      rintro e w' ⟨rfl, rfl⟩
      go_wp2_with fail
      refine (PutFixed_any v1 w.heap.size _ m 4 w1 H1.out hb1 (by simp [fixedOf, Var.fb_length]) (by omega)).mono ?_
      rintro e w2 ⟨v2, rfl, h1, h2, h3⟩
      have HB2 : Kp (Below w.heap.size w w2) := ⟨HB.out.grown h2 hb1 HN.out⟩
      have H2 : Kp (BRow w2 w.heap.size v2 ([] ++ fixedOf s.size 4 ++ fixedOf m 4)) := ⟨h1⟩
      have HN2 : Kp (∀ k, v2.ownBlock = some k → w.heap.size ≤ k) := ⟨fun k hk => by
        rcases h3 k hk with h | h
        · exact HN.out k h
        · omega⟩
      have hb2 := HB2.out.size
      clear h1 h2 h3
      have HLen : Kp (([] ++ fixedOf s.size 4 ++ fixedOf m 4).length + body.size ≤ 140737488355328) := ⟨by rw [hS.out]; simp [fixedOf, Var.fb_length]; omega⟩
      have HFR2 : Kp (Fr.fr b s.data.toList = ([] ++ fixedOf s.size 4 ++ fixedOf m 4) ++ body.data.toList) := ⟨by rw [HFR.out, hB.out]⟩
      generalize [] ++ fixedOf s.size 4 ++ fixedOf m 4 = pre at H2 HLen HFR2
      have HC : Kp (∀ v w, BRow w w.heap.size v (pre ++ body.data.toList) → True) := ⟨fun _ _ _ => trivial⟩
      go_wp2_with (at_builtin; go_loud (refine wpList_append_text rfl _ _ rfl w.heap.size v2 pre H2.out hb2 body rfl rfl HLen.out ?_; intro v3 w3 g1 g2 g3; have hc := g1.string 9 Tryz.underlying9; have HB3 := Kp.mk (HB2.out.grown g2 hb2 HN2.out); clear g1 g2 g3))
      go_ret2
      exact ⟨by rw [HV.out, HFR2.out]; rfl, HB3.out⟩
end Go.Proofs.YtpfoekfbcpinlaaGreatDoor
/- The walk of frame.Read. Printed by tools/framereadgen.py. -/
namespace Go.Proofs.YtpfoekfbcpinlaaGreatDoor
open Go.RowKit
set_option linter.unusedVariables false

theorem readV_out {s : ByteArray} {a : Int} (h : a < 0 ∨ (s.size : Int) < a) : Fr.readV s a = (1, 0, []) := by unfold Fr.readV; rw [if_pos h]
theorem readV_in {s : ByteArray} {a : Int} (h : ¬ (a < 0 ∨ (s.size : Int) < a)) : Fr.readV s a = Fr.readL (s.extract a.toNat s.size).data.toList := by
  unfold Fr.readV
  rw [if_neg h]
  congr 1
  have : s.size = a.toNat + (s.size - a.toNat) := by omega
  rw [this, extract_list]
  rw [List.take_of_length_le]
  simp
theorem cells3 {w : World} {k : Nat} {a b c : Value} {t : TypeId} (h : w.heap[k]? = some (.cells #[a, b, c] t (0, 0))) : (w.cell? ⟨k, 0, none⟩ = some a ∧ w.cell? ⟨k, 1, none⟩ = some b ∧ w.cell? ⟨k, 2, none⟩ = some c) ∧ ∀ j, w.frozen? ⟨k, j, none⟩ = false := by
  refine ⟨⟨?_, ?_, ?_⟩, fun j => ?_⟩ <;> simp [World.cell?, World.frozen?, h]
theorem rFixed_0 {l : List UInt8} (h : 9 ≤ l.length) : Var.rFixed l 0 0 4 = (Fr.num l, 4, 0) := by
  have e : Var.fixI l ((0 : Nat) : Int) 4 = (Fr.num l, 4, 0) := by
    unfold Var.fixI Fr.num
    rw [if_neg (by omega), if_neg (by omega)]
    rfl
  unfold Var.rFixed
  rw [if_pos rfl, e]
  rfl
theorem rFixed_4 {l : List UInt8} (h : 9 ≤ l.length) : Var.rFixed l 4 0 4 = (Fr.msk l, 8, 0) := by
  have e : Var.fixI l ((4 : Nat) : Int) 4 = (Fr.msk l, 8, 0) := by
    unfold Var.fixI Fr.msk
    rw [if_neg (by omega), if_neg (by omega)]
    rfl
  unfold Var.rFixed
  rw [if_pos rfl, e]
  rfl
theorem rRaw_8 {l : List UInt8} (h : ¬ l.length ≤ Fr.num l + 8) : Var.rRaw l 8 0 ((Fr.num l : Nat) + 1 : Int) = (Fr.body l, 8 + (Fr.num l + 1), 0) := by
  unfold Var.rRaw Fr.body
  rw [if_pos rfl, if_neg (by omega), if_neg (by omega)]
  rfl
theorem body_len {l : List UInt8} (h : ¬ l.length ≤ Fr.num l + 8) : (Fr.body l).length = Fr.num l + 1 := by
  unfold Fr.body
  rw [List.length_take, List.length_drop]; omega
theorem body_zero {l : List UInt8} (h : ¬ l.length ≤ Fr.num l + 8) (hz : 0 < (B (Fr.body l)).size) : (B (Fr.body l))[0]'hz = Fr.kind l := by
  show (Fr.body l).toArray[0]'hz = _
  simp only [Fr.body_eq h]
  rfl
theorem body_rest {l : List UInt8} (h : ¬ l.length ≤ Fr.num l + 8) : (B (Fr.body l)).extract 1 (B (Fr.body l)).size = B ((l.drop 9).take (Fr.num l)) := by
  apply bytes_ext
  rw [B_size, body_len h, show Fr.num l + 1 = 1 + Fr.num l from by omega, extract_list, B_list, Fr.body_eq h, B_list, List.drop_succ_cons, List.drop_zero, List.take_take, Nat.min_self]

set_option maxRecDepth 20000 in
theorem Read_out (s : ByteArray) (a : Int) (w : World) (hs : s.size ≤ 140737488351000) (h1 : -9223372036854775808 ≤ a) (h2 : a ≤ 9223372036854775807) (ht : Tab w) (h0 : a < 0 ∨ (s.size : Int) < a) :
    Calls Tryz.prog 117 #[.string s, .int .i64 a] w fun e w' => e = Fr.readE s a ∧ Below w.heap.size w w' := by
  have HV : Kp (Fr.readE s a = Fr.badE 1) := ⟨Fr.readE_bad (by decide) (readV_out h0)⟩
  by_cases h00 : a < 0
  · have t1 : decide (a < 0) = true := by rw [decide_eq_true_eq]; exact h00
    go_enter Tryz.func117, Tryz.ntmps117
    go_wp2
    refine bodyPost_ret (v := .tuple #[.agg #[.int .u8 0, .string ⟨#[]⟩, .int .i64 0], .int .i64 0, .int .i64 1]) (by simp [results, Tryz.results117, go_sem]) rfl ?_
    exact ⟨HV.out.symm, (Below.refl _ w).alloc (Nat.le_refl _) _⟩
  · have t1 : decide (a < 0) = false := by rw [decide_eq_false_iff_not]; exact h00
    have t2 : decide ((s.size : Int) < a) = true := by rw [decide_eq_true_eq]; omega
    go_enter Tryz.func117, Tryz.ntmps117
    go_wp2
    refine bodyPost_ret (v := .tuple #[.agg #[.int .u8 0, .string ⟨#[]⟩, .int .i64 0], .int .i64 0, .int .i64 1]) (by simp [results, Tryz.results117, go_sem]) rfl ?_
    exact ⟨HV.out.symm, (Below.refl _ w).alloc (Nat.le_refl _) _⟩
set_option maxRecDepth 20000 in
theorem Read_small (s : ByteArray) (a : Int) (w : World) (hs : s.size ≤ 140737488351000) (h1 : -9223372036854775808 ≤ a) (h2 : a ≤ 9223372036854775807) (ht : Tab w) (h0 : ¬ (a < 0 ∨ (s.size : Int) < a)) (h9 : (s.extract a.toNat s.size).data.toList.length < 9) :
    Calls Tryz.prog 117 #[.string s, .int .i64 a] w fun e w' => e = Fr.readE s a ∧ Below w.heap.size w w' := by
  have hlen : (s.extract a.toNat s.size).data.toList.length = s.size - a.toNat := by rw [data_len]; simp
  have t1 : decide (a < 0) = false := by rw [decide_eq_false_iff_not]; omega
  have t2 : decide ((s.size : Int) < a) = false := by rw [decide_eq_false_iff_not]; omega
  have HV : Kp (Fr.readE s a = Fr.badE 8) := ⟨Fr.readE_bad (by decide) (by rw [readV_in h0]; unfold Fr.readL; rw [if_pos h9])⟩
  have t3 : (s.size : Int) - a < 9 := by omega
  go_enter Tryz.func117, Tryz.ntmps117
  go_wp2
  refine bodyPost_ret (v := .tuple #[.agg #[.int .u8 0, .string ⟨#[]⟩, .int .i64 0], .int .i64 0, .int .i64 8]) (by simp [results, Tryz.results117, go_sem]) rfl ?_
  exact ⟨HV.out.symm, (Below.refl _ w).alloc (Nat.le_refl _) _⟩
set_option maxRecDepth 20000 in
theorem Read_in (s : ByteArray) (a : Int) (w : World) (hs : s.size ≤ 140737488351000) (h1 : -9223372036854775808 ≤ a) (h2 : a ≤ 9223372036854775807) (ht : Tab w) (h0 : ¬ (a < 0 ∨ (s.size : Int) < a)) (h9 : ¬ (s.extract a.toNat s.size).data.toList.length < 9) :
    Calls Tryz.prog 117 #[.string s, .int .i64 a] w fun e w' => e = Fr.readE s a ∧ Below w.heap.size w w' := by
  have hlen : (s.extract a.toNat s.size).data.toList.length = s.size - a.toNat := by rw [data_len]; simp
  have hts : (s.extract a.toNat s.size).size = s.size - a.toNat := by simp
  have hRV : Fr.readV s a = Fr.readL (s.extract a.toNat s.size).data.toList := readV_in h0
  have t1 : decide (a < 0) = false := by rw [decide_eq_false_iff_not]; omega
  have t2 : decide ((s.size : Int) < a) = false := by rw [decide_eq_false_iff_not]; omega
  have t3 : ¬ (s.size : Int) - a < 9 := by omega
  have HEX : Kp (∀ n, n = s.extract a.toNat s.size → True) := ⟨fun _ _ => trivial⟩
  obtain ⟨t, ht0⟩ : ∃ t, s.extract a.toNat s.size = t := ⟨_, rfl⟩
  rw [ht0] at hRV hlen hts h9
  have hf0 := rFixed_0 (l := t.data.toList) (by omega)
  have hf4 := rFixed_4 (l := t.data.toList) (by omega)
  have hnl := Fr.num_lt t.data.toList
  have hml := Fr.msk_lt t.data.toList
  have htz : t.size ≤ 140737488351000 := by omega
  have hdl : t.data.toList.length = t.size := data_len t
  have HF0 := Kp.mk (fun g w hr => RFixed_any g t 0 0 4 w hr (by omega) (by omega))
  have HF4 := Kp.mk (fun g w hr => RFixed_any g t 4 0 4 w hr (by omega) (by omega))
  rw [hf0] at HF0
  rw [hf4] at HF4
  have HLf := Kp.mk (fun g w hr => Left_any g t 8 0 w hr (by omega) (by omega))
  have HT := Kp.mk ht
  go_enter Tryz.func117, Tryz.ntmps117
  go_wp2_with fail
  refine (New_any t _).mono ?_
  rintro e w1 ⟨rfl, r1, b1⟩
  have hz1 := b1.size
  simp only [World.size_alloc] at r1 b1 hz1
  have B1 := Kp.mk (((Below.refl _ w).alloc (Nat.le_refl _) (.cells #[.int .u8 0, .string ⟨#[]⟩, .int .i64 0] 141)).trans (b1.mono (by simp)))
  have hH1 : w1.heap[w.heap.size]? = some (.cells #[.int .u8 0, .string ⟨#[]⟩, .int .i64 0] 141 (0, 0)) := by
    rw [b1.block (k := w.heap.size) (by omega)]
    exact heap_alloc_new w _
  have hg : (⟨w.heap.size + 1, 0, none⟩ : Addr) = ⟨w.heap.size + 1, 0, none⟩ := rfl
  go_wp2_with fail
  refine (HF0.out _ _ r1).mono ?_
  rintro e w2 ⟨rfl, r2, g2⟩
  go_wp2_with fail
  refine (HF4.out _ _ r2).mono ?_
  rintro e w3 ⟨rfl, r3, g3⟩
  have B3 := Kp.mk ((B1.out.grown g2 (by omega) (fun k e => by cases e; omega)).grown g3 (by have := g2.size; omega) (fun k e => by cases e; omega))
  have hH3 : w3.heap[w.heap.size]? = some (.cells #[.int .u8 0, .string ⟨#[]⟩, .int .i64 0] 141 (0, 0)) := by
    rw [g3.block _ (by have := g2.size; omega) (fun e => by simp at e), g2.block _ (by omega) (fun e => by simp at e)]
    exact hH1
  have hz3 : w.heap.size + 1 < w3.heap.size := r3.lt
  clear g2 g3 b1 r1 r2 hH1
  obtain ⟨⟨m0, m1, m2⟩, m3⟩ := cells3 hH3
  have f0 := m3 0
  have f1 := m3 1
  have f2 := m3 2
  by_cases c1 : 262144 < Fr.num t.data.toList
  · have HV : Kp (Fr.readE s a = Fr.badE 40) := ⟨Fr.readE_bad (by decide) (by rw [hRV]; unfold Fr.readL; rw [if_neg h9, if_pos c1])⟩
    go_wp2
    refine bodyPost_ret (v := .tuple #[.agg #[.int .u8 0, .string ⟨#[]⟩, .int .i64 0], .int .i64 0, .int .i64 40]) (by simp [results, Tryz.results117, go_sem, m0, m1, m2]) rfl ?_
    exact ⟨HV.out.symm, ((B3.out.setCell (p := ⟨w.heap.size, 0, none⟩) (Nat.le_refl _) _).setCell (p := ⟨w.heap.size, 1, none⟩) (Nat.le_refl _) _).setCell (p := ⟨w.heap.size, 2, none⟩) (Nat.le_refl _) _⟩
  have HL3 := Kp.mk (HLf.out _ _ r3)
  go_wp2_with fail
  refine HL3.out.mono ?_
  rintro e w' ⟨rfl, rfl⟩
  by_cases c2 : t.data.toList.length ≤ Fr.num t.data.toList + 8
  · have HV : Kp (Fr.readE s a = Fr.badE 8) := ⟨Fr.readE_bad (by decide) (by rw [hRV]; unfold Fr.readL; rw [if_neg h9, if_neg c1, if_pos c2])⟩
    have t4 : t.size - 8 ≤ Fr.num t.data.toList := by omega
    go_wp2
    refine bodyPost_ret (v := .tuple #[.agg #[.int .u8 0, .string ⟨#[]⟩, .int .i64 0], .int .i64 0, .int .i64 8]) (by simp [results, Tryz.results117, go_sem, m0, m1, m2]) rfl ?_
    exact ⟨HV.out.symm, (((B3.out.setCell (p := ⟨w.heap.size, 0, none⟩) (Nat.le_refl _) _).setCell (p := ⟨w.heap.size, 1, none⟩) (Nat.le_refl _) _).setCell (p := ⟨w.heap.size, 2, none⟩) (Nat.le_refl _) _).drew⟩
  have t4 : ¬ t.size - 8 ≤ Fr.num t.data.toList := by omega
  have HRw := Kp.mk (Raw_any _ t 8 0 ((Fr.num t.data.toList : Nat) + 1) w3.drew r3.drew (by omega) (by omega))
  have hraw := rRaw_8 c2
  rw [hraw] at HRw
  have hbl := body_len c2
  have hbz := body_zero c2
  have hbr := body_rest c2
  have HBL : Kp (Fr.body t.data.toList = (B (Fr.body t.data.toList)).data.toList) := ⟨(B_list _).symm⟩
  have hBs : (B (Fr.body t.data.toList)).size = Fr.num t.data.toList + 1 := by rw [B_size, hbl]
  go_wp2_with fail
  refine HRw.out.mono ?_
  rintro e w4 ⟨rfl, r4, g4⟩
  have B4 := Kp.mk (B3.out.drew.grown g4 (show w.heap.size ≤ w3.heap.size from by omega) (fun k e => by cases e; omega))
  have hH4 : w4.heap[w.heap.size]? = some (.cells #[.int .u8 0, .string ⟨#[]⟩, .int .i64 0] 141 (0, 0)) := by
    rw [g4.block _ (show w.heap.size < w3.heap.size from by omega) (fun e => by simp at e)]
    exact hH3
  clear m0 m1 m2 m3 f0 f1 f2 hH3 r3 g4 HRw HF0 HF4 HLf
  obtain ⟨⟨m0, m1, m2⟩, m3⟩ := cells3 hH4
  have f0 := m3 0
  have f1 := m3 1
  have f2 := m3 2
  have HT4 := Kp.mk (HT.out.below B4.out)
  have HSm := Kp.mk (same_any (B (Fr.body t.data.toList)) (Fr.msk t.data.toList) w4 (by rw [hBs]; omega) HT4.out)
  rw [B_list] at HSm
  have HD : Kp (decide (Crc.mask (Crc.crc (Fr.body t.data.toList)) = Fr.msk t.data.toList) = decide (Fr.sumL (Fr.body t.data.toList) = Fr.msk t.data.toList)) := ⟨rfl⟩
  rw [HD.out] at HSm
  clear r4 hH4
  obtain ⟨bd, hbd⟩ : ∃ bd, B (Fr.body t.data.toList) = bd := ⟨_, rfl⟩
  rw [hbd] at HSm hBs
  simp only [hbd] at hbz hbr
  rw [hbd]
  have hpos : 0 < bd.size := by omega
  have hk0 : bd[0]'hpos = Fr.kind t.data.toList := hbz hpos
  by_cases c3 : Fr.sumL (Fr.body t.data.toList) = Fr.msk t.data.toList
  · rw [decide_eq_true c3] at HSm
    go_wp2_with fail
    refine HSm.out.mono ?_
    rintro e w' ⟨rfl, rfl⟩
    have HKn := Kp.mk (known_any (Fr.kind t.data.toList).toNat w4 (UInt8.toNat_lt _))
    by_cases c4 : (Fr.kind t.data.toList).toNat < 1 ∨ 3 < (Fr.kind t.data.toList).toNat
    · have HV : Kp (Fr.readE s a = Fr.badE 4) := ⟨Fr.readE_bad (by decide) (by rw [hRV]; unfold Fr.readL; rw [if_neg h9, if_neg c1, if_neg c2, if_neg (fun h => h c3), if_pos c4])⟩
      rw [decide_eq_false (show ¬ (1 ≤ (Fr.kind t.data.toList).toNat ∧ (Fr.kind t.data.toList).toNat ≤ 3) from by omega)] at HKn
      go_wp2_with fail
      refine HKn.out.mono ?_
      rintro e w' ⟨rfl, rfl⟩
      go_wp2
      refine bodyPost_ret (v := .tuple #[.agg #[.int .u8 0, .string ⟨#[]⟩, .int .i64 0], .int .i64 0, .int .i64 4]) (by simp [results, Tryz.results117, go_sem, m0, m1, m2]) rfl ?_
      exact ⟨HV.out.symm, ((B4.out.setCell (p := ⟨w.heap.size, 0, none⟩) (Nat.le_refl _) _).setCell (p := ⟨w.heap.size, 1, none⟩) (Nat.le_refl _) _).setCell (p := ⟨w.heap.size, 2, none⟩) (Nat.le_refl _) _⟩
    · rw [decide_eq_true (show (1 ≤ (Fr.kind t.data.toList).toNat ∧ (Fr.kind t.data.toList).toNat ≤ 3) from by omega)] at HKn
      have hpl : ((t.data.toList.drop 9).take (Fr.num t.data.toList)).length = Fr.num t.data.toList := by rw [List.length_take, List.length_drop]; omega
      have HV := Kp.mk (Fr.readE_ok (s := s) (a := a) (k := (Fr.kind t.data.toList).toNat) (p := (t.data.toList.drop 9).take (Fr.num t.data.toList)) (by rw [hRV]; unfold Fr.readL; rw [if_neg h9, if_neg c1, if_neg c2, if_neg (fun h => h c3), if_neg c4]))
      rw [hpl] at HV
      go_wp2_with fail
      refine HKn.out.mono ?_
      rintro e w' ⟨rfl, rfl⟩
      go_wp2
      go_region
      rw [hBs] at hbr
      go_wp2
      refine bodyPost_ret (v := .tuple #[.agg #[.int .u8 ((Fr.kind t.data.toList).toNat : Nat), .string (bd.extract 1 (Fr.num t.data.toList + 1)), .int .i64 a], .int .i64 (a + 8 + ((Fr.num t.data.toList : Nat) + 1)), .int .i64 0]) (by simp [results, Tryz.results117, go_sem, m0, m1, m2]) rfl ⟨?_, (((B4.out.setCell (p := ⟨w.heap.size, 0, none⟩) (Nat.le_refl _) _).setCell (p := ⟨w.heap.size, 1, none⟩) (Nat.le_refl _) _).setCell (p := ⟨w.heap.size, 2, none⟩) (Nat.le_refl _) _).drew⟩
      rw [HV.out, hbr, show a + 8 + (((Fr.num t.data.toList : Nat) : Int) + 1) = a + ((9 + Fr.num t.data.toList : Nat) : Int) from by omega]
      rfl
  · have HV : Kp (Fr.readE s a = Fr.badE 42) := ⟨Fr.readE_bad (by decide) (by rw [hRV]; unfold Fr.readL; rw [if_neg h9, if_neg c1, if_neg c2, if_pos c3])⟩
    rw [decide_eq_false c3] at HSm
    go_wp2_with fail
    refine HSm.out.mono ?_
    rintro e w' ⟨rfl, rfl⟩
    go_wp2
    refine bodyPost_ret (v := .tuple #[.agg #[.int .u8 0, .string ⟨#[]⟩, .int .i64 0], .int .i64 0, .int .i64 42]) (by simp [results, Tryz.results117, go_sem, m0, m1, m2]) rfl ?_
    exact ⟨HV.out.symm, ((B4.out.setCell (p := ⟨w.heap.size, 0, none⟩) (Nat.le_refl _) _).setCell (p := ⟨w.heap.size, 1, none⟩) (Nat.le_refl _) _).setCell (p := ⟨w.heap.size, 2, none⟩) (Nat.le_refl _) _⟩
theorem Read_any (s : ByteArray) (a : Int) (w : World) (hs : s.size ≤ 140737488351000) (h1 : -9223372036854775808 ≤ a) (h2 : a ≤ 9223372036854775807) (ht : Tab w) :
    Calls Tryz.prog 117 #[.string s, .int .i64 a] w fun e w' => e = Fr.readE s a ∧ Below w.heap.size w w' := by
  by_cases h0 : a < 0 ∨ (s.size : Int) < a
  · exact Read_out s a w hs h1 h2 ht h0
  · by_cases h9 : (s.extract a.toNat s.size).data.toList.length < 9
    · exact Read_small s a w hs h1 h2 ht h0 h9
    · exact Read_in s a w hs h1 h2 ht h0 h9
end Go.Proofs.YtpfoekfbcpinlaaGreatDoor
