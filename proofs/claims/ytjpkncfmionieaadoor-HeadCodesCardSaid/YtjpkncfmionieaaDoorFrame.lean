/- The walks of package frame: known, Size, Make, Read. -/
import Derived.Test.YtjpkncfmionieaaDoorFr
import Derived.Test.YtjpkncfmionieaaDoorSrc
import Derived.Test.YtjpkncfmionieaaDoorBitsRef
import Derived.Deep.QuietTactic
import Derived.BigQuiet
namespace Go.Proofs.YtjpkncfmionieaaDoor
open Go.RowKit
set_option linter.unusedVariables false

theorem known_any (k : Nat) (w : World) (hk : k < 256) :
    Calls Tryd.prog 64 #[.int .u8 k] w fun e w' => e = .returned (.bool (decide (1 ≤ k ∧ k ≤ 3))) ∧ w = w' := by
  have HV : Kp (decide (1 ≤ k ∧ k ≤ 3) = (decide (1 ≤ k) && decide (k ≤ 3))) := ⟨by rw [Bool.eq_iff_iff]; simp⟩
  by_cases h1 : 1 ≤ k
  · have t1 : decide ((1 : Int) ≤ (k : Int)) = true := by rw [decide_eq_true_eq]; omega
    go_enter Tryd.func64, Tryd.ntmps64
    go_wp2
    go_ret
    refine ⟨ret_bool ?_, rfl⟩
    rw [HV.out]
    by_cases h3 : k ≤ 3 <;> simp [h1, h3] <;> omega
  · have t1 : decide ((1 : Int) ≤ (k : Int)) = false := by rw [decide_eq_false_iff_not]; omega
    go_enter Tryd.func64, Tryd.ntmps64
    go_wp2
    go_ret
    refine ⟨ret_bool ?_, rfl⟩
    rw [HV.out]
    simp [h1] <;> omega
def sizeV (n : Int) : Int := if n < 0 ∨ 262144 < n then 0 else n + 9
theorem Size_any (n : Int) (w : World) (h1 : -9223372036854775808 ≤ n) (h2 : n ≤ 9223372036854775807) :
    Calls Tryd.prog 45 #[.int .i64 n] w fun e w' => e = .returned (.int .i64 (sizeV n)) ∧ w = w' := by
  have HV : Kp (sizeV n = if n < 0 ∨ 262144 < n then 0 else n + 9) := ⟨rfl⟩
  by_cases h0 : n < 0
  · have t1 : decide (n < 0) = true := by rw [decide_eq_true_eq]; omega
    go_enter Tryd.func45, Tryd.ntmps45
    go_wp2
    go_ret
    exact ⟨by rw [HV.out, if_pos (.inl h0)]; rfl, rfl⟩
  · have t1 : decide (n < 0) = false := by rw [decide_eq_false_iff_not]; omega
    by_cases hb : 262144 < n
    · have t2 : decide (262144 < n) = true := by rw [decide_eq_true_eq]; omega
      go_enter Tryd.func45, Tryd.ntmps45
      go_wp2
      go_ret
      exact ⟨by rw [HV.out, if_pos (.inr hb)]; rfl, rfl⟩
    · have t2 : decide (262144 < n) = false := by rw [decide_eq_false_iff_not]; omega
      go_enter Tryd.func45, Tryd.ntmps45
      go_wp2
      go_ret
      exact ⟨by rw [HV.out, if_neg (by omega)]; rfl, rfl⟩
/-- Make's answer. -/
def makeV (k : Nat) (s : ByteArray) : ByteArray × Nat := if k < 1 ∨ 3 < k then (⟨#[]⟩, 1) else if 262144 < s.size then (⟨#[]⟩, 40) else (B (Fr.fr (UInt8.ofNat k) s.data.toList), 0)
def makeE (k : Nat) (s : ByteArray) : Ending := .returned (.tuple #[.string (makeV k s).1, .int .i64 (makeV k s).2])
theorem cons_text (k : UInt8) (s : ByteArray) : (⟨#[k]⟩ : ByteArray) ++ s = B (k :: s.data.toList) := by
  show (⟨_⟩ : ByteArray) = ⟨_⟩
  congr 1
theorem B_text (l : List UInt8) : (⟨l.toArray⟩ : ByteArray) = B l := rfl
set_option maxRecDepth 20000 in
theorem Make_any (k : Nat) (s : ByteArray) (w : World) (hk : k < 256) (hs : s.size ≤ 140737488351000) (ht : Tab w) :
    Calls Tryd.prog 46 #[.int .u8 k, .string s] w fun e w' => e = makeE k s ∧ Below w.heap.size w w' := by
  have HK := Kp.mk (fun w => known_any k w hk)
  by_cases h0 : k < 1 ∨ 3 < k
  · have HV : Kp (makeE k s = .returned (.tuple #[.string ⟨#[]⟩, .int .i64 (1 : Nat)])) := ⟨by unfold makeE makeV; rw [if_pos h0]⟩
    have td : decide (1 ≤ k ∧ k ≤ 3) = false := by rw [decide_eq_false_iff_not]; omega
    rw [td] at HK
    go_enter Tryd.func46, Tryd.ntmps46
    go_wp2_with fail
    refine (HK.out _).mono ?_
    rintro e w' ⟨rfl, rfl⟩
    go_wp2
    go_ret2
    exact ⟨HV.out.symm, Below.refl _ _⟩
  · have td : decide (1 ≤ k ∧ k ≤ 3) = true := by rw [decide_eq_true_eq]; omega
    rw [td] at HK
    by_cases hb : 262144 < s.size
    · have HV : Kp (makeE k s = .returned (.tuple #[.string ⟨#[]⟩, .int .i64 (40 : Nat)])) := ⟨by unfold makeE makeV; rw [if_neg h0, if_pos hb]⟩
      go_enter Tryd.func46, Tryd.ntmps46
      go_wp2_with fail
      refine (HK.out _).mono ?_
      rintro e w' ⟨rfl, rfl⟩
      go_wp2
      go_ret2
      exact ⟨HV.out.symm, Below.refl _ _⟩
    · have HV : Kp (makeE k s = .returned (.tuple #[.string (B (Fr.fr (UInt8.ofNat k) s.data.toList)), .int .i64 (0 : Nat)])) := ⟨by unfold makeE makeV; rw [if_neg h0, if_neg hb]⟩
      have HKB : Kp ((k : Int) = ((UInt8.ofNat k).toNat : Int)) := ⟨by rw [Fr.toNat_ofNat' hk]⟩
      have HFR : Kp (Fr.fr (UInt8.ofNat k) s.data.toList = ([] ++ fixedOf s.size 4) ++ fixedOf (Fr.sumL (UInt8.ofNat k :: s.data.toList)) 4 ++ (UInt8.ofNat k :: s.data.toList)) := ⟨by simp [Fr.fr, fixedOf]⟩
      generalize UInt8.ofNat k = b at HV HKB HFR
      have hconv := one_text w b
      have HO := Kp.mk (fun w ht => of_any (⟨#[b]⟩ ++ s) w (by rw [ByteArray.size_append]; show 1 + s.size ≤ _; omega) ht)
      rw [cons_text, B_list] at HO
      have hcl : Crc.crc (b :: s.data.toList) < 4294967296 := Crc.crc_lt (b :: s.data.toList)
      have HM : Kp (∀ w, Calls Tryd.prog 66 #[.int .u32 (Crc.crc (b :: s.data.toList) : Nat)] w fun e w' => e = .returned (.int .u32 (Fr.sumL (b :: s.data.toList) : Nat)) ∧ w = w') := ⟨fun w => mask_any (Crc.crc (b :: s.data.toList)) w hcl⟩
      have hml := Fr.sumL_lt (b :: s.data.toList)
      generalize Crc.crc (b :: s.data.toList) = c at HO HM hcl
      have hbl : (B (b :: s.data.toList)).data.toList = b :: s.data.toList := B_list _
      have hbs : (B (b :: s.data.toList)).size = s.size + 1 := by rw [B_size]; simp
      have hB := Kp.mk hbl
      have hS := Kp.mk hbs
      generalize Fr.sumL (b :: s.data.toList) = m at HM hml HFR
      have hcat := cons_text b s
      have HL : Kp ((b :: s.data.toList : List UInt8) = b :: s.data.toList) := ⟨rfl⟩
      generalize B (b :: s.data.toList) = body at HO hcat hB hS
      clear hbl hbs HL
      go_enter Tryd.func46, Tryd.ntmps46
      go_wp2_with fail
      refine (HK.out _).mono ?_
      rintro e w' ⟨rfl, rfl⟩
      rw [HKB.out]
      go_wp2_with fail
      refine (PutFixed_any _ _ [] s.size 4 _ (BRow.nil _ _) (Nat.le_refl _) (by decide) (by omega)).mono ?_
      rintro e w1 ⟨v1, rfl, h1, h2, h3⟩
      have HB : Kp (Below w.heap.size w w1) := ⟨((Below.refl _ w).alloc (Nat.le_refl _) _).grown h2 (by simp) (fun k hk => by cases hk)⟩
      have HT1 : Kp (Tab w1) := ⟨ht.below HB.out⟩
      have H1 : Kp (BRow w1 w.heap.size v1 ([] ++ fixedOf s.size 4)) := ⟨h1.lower (by simp)⟩
      have HN : Kp (∀ k, v1.ownBlock = some k → w.heap.size ≤ k) := ⟨fun k hk => by
        rcases h3 k hk with h | h
        · simp [Value.ownBlock] at h
        · simp at h; omega⟩
      have hb1 := HB.out.size
      clear h1 h2 h3
      go_wp2_with fail
      refine (HO.out _ HT1.out).mono ?_
      rintro e w' ⟨rfl, rfl⟩
      go_wp2_with fail
      refine (HM.out _).mono ?_
      rintro e w' ⟨rfl, rfl⟩
      go_wp2_with fail
      refine (PutFixed_any v1 w.heap.size _ m 4 w1 H1.out hb1 (by simp [fixedOf, Var.fb_length]) (by omega)).mono ?_
      rintro e w2 ⟨v2, rfl, h1, h2, h3⟩
      have HB2 : Kp (Below w.heap.size w w2) := ⟨HB.out.grown h2 hb1 HN.out⟩
      have H2 : Kp (BRow w2 w.heap.size v2 ([] ++ fixedOf s.size 4 ++ fixedOf m 4)) := ⟨h1⟩
      have HN2 : Kp (∀ k, v2.ownBlock = some k → w.heap.size ≤ k) := ⟨fun k hk => by
        rcases h3 k hk with h | h
        · exact HN.out k h
        · omega⟩
      have hb2 := HB2.out.size
      clear h1 h2 h3
      have HLen : Kp (([] ++ fixedOf s.size 4 ++ fixedOf m 4).length + body.size ≤ 140737488355328) := ⟨by rw [hS.out]; simp [fixedOf, Var.fb_length]; omega⟩
      have HFR2 : Kp (Fr.fr b s.data.toList = ([] ++ fixedOf s.size 4 ++ fixedOf m 4) ++ body.data.toList) := ⟨by rw [HFR.out, hB.out]⟩
      generalize [] ++ fixedOf s.size 4 ++ fixedOf m 4 = pre at H2 HLen HFR2
      have HC : Kp (∀ v w, BRow w w.heap.size v (pre ++ body.data.toList) → True) := ⟨fun _ _ _ => trivial⟩
      go_wp2_with (at_builtin; go_loud (refine wpList_append_text rfl _ _ rfl w.heap.size v2 pre H2.out hb2 body rfl rfl HLen.out ?_; intro v3 w3 g1 g2 g3; have hc := g1.string 9 Tryd.underlying9; have HB3 := Kp.mk (HB2.out.grown g2 hb2 HN2.out); clear g1 g2 g3))
      go_ret2
      exact ⟨by rw [HV.out, HFR2.out]; rfl, HB3.out⟩
end Go.Proofs.YtjpkncfmionieaaDoor
