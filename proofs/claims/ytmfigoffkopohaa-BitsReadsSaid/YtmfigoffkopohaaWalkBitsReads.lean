/- The walk of BitsReads: it returns true, and leaves what was there. -/
import Derived.Test.YtmfigoffkopohaaBitsRefTwo
namespace Go.Proofs.Ytmfigoffkopohaa
open Go.RowKit
set_option linter.unusedVariables false

set_option maxRecDepth 20000 in
theorem walkBitsReads (w : World) (s : ByteArray) (hs : s.size ≤ maxLen) (p : Int) (hp : (Lit.int .i64 p).wf = true) (z : Int) (hz : (Lit.int .i64 z).wf = true) :
    Calls Try.prog 7 #[.string s, .int .i64 p, .int .i64 z] w fun e w' => e = .returned (.bool true) ∧ Below w.heap.size w w' := by
  obtain ⟨p1, p2⟩ := i64_int hp
  clear hp hz
  by_cases h3 : (s.size : Int) ≤ 3000
  · have t1 : decide (3000 < (s.size : Int)) = false := by rw [decide_eq_false_iff_not]; omega
    have hs' : s.size ≤ 140737488351232 := by omega
    have HU : Kp (∀ w, Calls Try.prog 14 #[.string s, .int .i64 p] w fun e w' => e = tup3 (Var.uvI s.data.toList p) ∧ w = w') := ⟨fun w => Uvarint_any s p w hs' p1 p2⟩
    have HR : Kp (∀ w, Calls Try.prog 26 #[.string s, .int .i64 p] w fun e w' => e = tup3 (Var.uvI s.data.toList p) ∧ w = w') := ⟨fun w => refUvarint_any s p w hs' p1 p2⟩
    have HF : Kp (∀ w, Calls Try.prog 27 #[.string s, .int .i64 p, .int .i64 z] w fun e w' => e = tup3 (Var.fixI s.data.toList p z) ∧ w = w') := ⟨fun w => Fixed_any s p z w hs' p1 p2⟩
    have HG : Kp (∀ w, Calls Try.prog 28 #[.string s, .int .i64 p, .int .i64 z] w fun e w' => e = tup3 (Var.fixI s.data.toList p z) ∧ w = w') := ⟨fun w => refReadFixed_any s p z w hs' p1 p2⟩
    clear hs hs'
    unfold tup3 at HU HR HF HG
    generalize Var.uvI s.data.toList p = x at HU HR
    generalize Var.fixI s.data.toList p z = y at HF HG
    obtain ⟨a, b, c⟩ := x
    obtain ⟨g, h, i⟩ := y
    go_enter Try.func7, Try.ntmps7
    go_wp2_with fail
    refine (HU.out _).mono ?_
    rintro e w' ⟨rfl, rfl⟩
    go_wp2_with fail
    refine (HR.out _).mono ?_
    rintro e w' ⟨rfl, rfl⟩
    go_wp2_with fail
    refine (HF.out _).mono ?_
    rintro e w' ⟨rfl, rfl⟩
    go_wp2_with fail
    refine (HG.out _).mono ?_
    rintro e w' ⟨rfl, rfl⟩
    go_wp2_with fail
    refine (awake_any _).mono ?_
    rintro e w1 ⟨rfl, hb1⟩
    have HB1 := Kp.mk hb1
    clear hb1
    go_wp2_with fail
    go_ret
    exact ⟨by trivial, HB1.out⟩
  · have t1 : decide (3000 < (s.size : Int)) = true := by rw [decide_eq_true_eq]; omega
    have hm : Kp (s.size ≤ maxLen) := ⟨hs⟩
    clear hs
    go_enter Try.func7, Try.ntmps7
    go_wp2_with fail
    refine (awake_any _).mono ?_
    rintro e w1 ⟨rfl, hb1⟩
    have HB1 := Kp.mk hb1
    clear hb1
    go_wp2_with fail
    go_ret
    exact ⟨by trivial, HB1.out⟩
end Go.Proofs.Ytmfigoffkopohaa
