/- The walk of NetTakes: it returns true, and leaves what was there. -/
import Derived.Test.YtdhpnhdokkhnlaaNetTakesCore
namespace Go.Proofs.Ytdhpnhdokkhnlaa
open Go.RowKit
set_option linter.unusedVariables false

set_option maxRecDepth 100000 in
theorem takes_big (w : World) (ao : Option Addr) (len cap : Nat) (n : Int) (f : Nat → ActV) (hlm : len ≤ maxLen) (hbig : ¬ cost f len < 20000 ∨ 200 < len) (hf : ∀ i, i < len → ∃ a, ao = some a ∧ (f i).ok ∧ ActAt w (a.add (i * 6)) (f i)) :
    Calls Try.prog 6 #[.int .i64 n, .slice ao len cap] w fun e w' => e = .returned (.bool true) ∧ Below w.heap.size w w' := by
  have HL := Kp.mk (long_any w ao len cap f hlm hf)
  unfold maxLen at hlm
  clear hf
  by_cases hc : cost f len < 20000
  · rw [show decide (20000 ≤ cost f len) = false from by rw [decide_eq_false_iff_not]; omega] at HL
    have t0 : decide ((200 : Int) < (len : Int)) = true := by rw [decide_eq_true_eq]; omega
    clear hc hbig
    go_enter Try.func6, Try.ntmps6
    go_wp2_with fail
    refine HL.out.mono ?_
    rintro e w' ⟨rfl, md, rfl⟩
    go_wp2_with fail
    refine (awake_any _).mono ?_
    rintro e w1 ⟨rfl, hb1⟩
    have HB1 : Kp (Below w.heap.size w w1) := ⟨⟨hb1.os, hb1.tape, hb1.output, hb1.size, hb1.block⟩⟩
    clear hb1
    go_wp2
    go_ret
    exact ⟨by trivial, HB1.out⟩
  · rw [show decide (20000 ≤ cost f len) = true from by rw [decide_eq_true_eq]; omega] at HL
    clear hc hbig
    go_enter Try.func6, Try.ntmps6
    go_wp2_with fail
    refine HL.out.mono ?_
    rintro e w' ⟨rfl, md, rfl⟩
    go_wp2_with fail
    refine (awake_any _).mono ?_
    rintro e w1 ⟨rfl, hb1⟩
    have HB1 : Kp (Below w.heap.size w w1) := ⟨⟨hb1.os, hb1.tape, hb1.output, hb1.size, hb1.block⟩⟩
    clear hb1
    go_wp2
    go_ret
    exact ⟨by trivial, HB1.out⟩
set_option maxRecDepth 100000 in
theorem takes_no (w : World) (ao : Option Addr) (len cap : Nat) (n : Int) (f : Nat → ActV) (hlm : len ≤ 200) (hc : cost f len < 20000) (hf : ∀ i, i < len → ∃ a, ao = some a ∧ (f i).ok ∧ ActAt w (a.add (i * 6)) (f i)) (hn : n < 2 ∨ 5 < n) :
    Calls Try.prog 6 #[.int .i64 n, .slice ao len cap] w fun e w' => e = .returned (.bool true) ∧ Below w.heap.size w w' := by
  have HL := Kp.mk (long_any w ao len cap f (by unfold maxLen; omega) hf)
  rw [show decide (20000 ≤ cost f len) = false from by rw [decide_eq_false_iff_not]; omega] at HL
  have t0 : decide ((200 : Int) < (len : Int)) = false := by rw [decide_eq_false_iff_not]; omega
  clear hf hc
  go_enter Try.func6, Try.ntmps6
  go_wp2_with fail
  refine HL.out.mono ?_
  rintro e w' ⟨rfl, md, rfl⟩
  go_wp2_with fail
  refine (awake_any _).mono ?_
  rintro e w1 ⟨rfl, hb1⟩
  have HB1 : Kp (Below w.heap.size w w1) := ⟨⟨hb1.os, hb1.tape, hb1.output, hb1.size, hb1.block⟩⟩
  clear hb1
  go_wp2_with fail
  refine (New_no n _ hn).mono ?_
  rintro e w' ⟨rfl, rfl⟩
  go_wp2
  go_ret
  exact ⟨by trivial, HB1.out⟩
theorem walkNetTakes {H : Type} {enc : TypeId × Value → H} {X : Prop} {b0 : Nat} {d : DataW H} {ps : List MemPlace} (w : World) (n : Int) (_hn : (Lit.int .i64 n).wf = true) (v : Value) (hval : Value.okWide Try.prog w .any b0 22 v)
    (h : DataW.Trod enc Try.prog w 0 (fun _ => true) true 22 v d ps) (_hweigh : X) :
    Calls Try.prog 6 #[.int .i64 n, v] w fun e w' => e = .returned (.bool true) ∧ Below w.heap.size w w' := by
  obtain ⟨a0, len0, cap0, hv⟩ := Go.WideShapes.okWide_slice Try.underlying22 hval
  have hc : v.cells.toList = [v] := by rw [hv]; rfl
  obtain ⟨ao, len, cap, f, rfl, hlm, hf⟩ := acts_open hc h
  by_cases hbig : ¬ cost f len < 20000 ∨ 200 < len
  · exact takes_big w ao len cap n f hlm hbig hf
  · by_cases hn : n < 2 ∨ 5 < n
    · exact takes_no w ao len cap n f (by omega) (by omega) hf hn
    · exact takes_core w ao len cap n f (by omega) (by omega) hf (by omega) (by omega)
end Go.Proofs.Ytdhpnhdokkhnlaa
