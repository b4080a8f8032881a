/- The laws' refused. -/
import Derived.Test.YtdclfffjiokenaaDoorFrameAll
namespace Go.Proofs.YtdclfffjiokenaaDoor
open Go.RowKit
set_option linter.unusedVariables false

theorem readV_bad {s : ByteArray} {a : Int} (h : (Fr.readV s a).1 ≠ 0) : Fr.readV s a = ((Fr.readV s a).1, 0, []) := by
  unfold Fr.readV at h ⊢
  split
  · rfl
  · rename_i h0
    rw [if_neg h0] at h
    exact Prod.ext rfl (Fr.readL_bad h)
set_option maxRecDepth 20000 in
theorem refused_any (s : ByteArray) (a : Int) (e : Nat) (w : World) (he : e ≠ 0) (hs : s.size ≤ 1000000000000) (h1 : -9223372036854775808 ≤ a) (h2 : a ≤ 9223372036854775807) (ht : Tab w) :
    Calls Tryd.prog 27 #[.string s, .int .i64 a, .int .i64 e] w fun r w' => r = .returned (.bool (decide ((Fr.readV s a).1 = e))) ∧ Below w.heap.size w w' := by
  have HR := Kp.mk (Read_any s a w (by omega) h1 h2 ht)
  by_cases c : (Fr.readV s a).1 = e
  · have hb := readV_bad (s := s) (a := a) (by omega)
    rw [c] at hb
    rw [Fr.readE_bad he hb] at HR
    have HV : Kp (decide ((Fr.readV s a).1 = e) = true) := ⟨decide_eq_true c⟩
    have HS : Kp (∀ w, Calls Tryd.prog 22 #[.agg #[.int .u8 0, .string ⟨#[]⟩, .int .i64 0], .agg #[.int .u8 0, .string ⟨#[]⟩, .int .i64 0]] w fun e w' => e = .returned (.bool true) ∧ Below w.heap.size w w') := ⟨fun w => by
      have := same_of 0 [] 0 0 [] 0 w (by decide) (by decide)
      exact this⟩
    unfold Fr.badE at HR
    rw [show B [] = (⟨#[]⟩ : ByteArray) from rfl] at HR
    clear hb c
    go_enter Tryd.func27, Tryd.ntmps27
    go_wp2_with fail
    refine HR.out.mono ?_
    rintro e w1 ⟨rfl, hb⟩
    have HB := Kp.mk (hb.alloc hb.size (.cells #[.int .u8 0, .string ⟨#[]⟩, .int .i64 0] 26))
    clear hb
    go_wp2_with fail
    refine (HS.out _).mono ?_
    rintro e w2 ⟨rfl, hb2⟩
    have HB2 := Kp.mk (HB.out.trans (hb2.mono HB.out.size))
    clear hb2
    go_wp2
    go_ret
    exact ⟨by rw [HV.out]; rfl, HB2.out⟩
  · have HV : Kp (decide ((Fr.readV s a).1 = e) = false) := ⟨decide_eq_false c⟩
    unfold Fr.readE Fr.frv at HR
    generalize Fr.readV s a = r at *
    obtain ⟨r0, r1, r2⟩ := r
    simp only [] at *
    generalize Fr.nxt (r0, r1, r2) a = N at *
    generalize (if r0 = 0 then a else 0) = A at *
    have t1 : ((r0 : Int) == (e : Int)) = false := by simp; omega
    go_enter Tryd.func27, Tryd.ntmps27
    go_wp2_with fail
    refine HR.out.mono ?_
    rintro e w1 ⟨rfl, hb⟩
    have HB := Kp.mk (hb.alloc hb.size (.cells #[.int .u8 r1, .string (B r2), .int .i64 A] 26))
    clear hb
    go_wp2
    go_ret
    exact ⟨by rw [HV.out]; rfl, HB.out⟩
end Go.Proofs.YtdclfffjiokenaaDoor
