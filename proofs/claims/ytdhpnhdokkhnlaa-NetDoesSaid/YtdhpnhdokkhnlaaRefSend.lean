/- The reference's Send: what is refused. -/
import Derived.Test.YtdhpnhdokkhnlaaRefNet
namespace Go.Proofs.Ytdhpnhdokkhnlaa
open Go.RowKit
set_option linter.unusedVariables false

set_option maxRecDepth 20000 in
theorem RefSend_arg (g : Nat) (v : Value) (N : NetV) (f t : Int) (d : ByteArray) (w : World) (h : RefAt w g v N) (hd : d.size ≤ maxLen) (hno : f < 0 ∨ N.nodes ≤ f ∨ t < 0 ∨ N.nodes ≤ t ∨ f = t) :
    Calls Try.prog 29 #[.pointer (some ⟨g, 0, none⟩), .int .i64 f, .int .i64 t, .string d] w fun e w' => e = .returned (.tuple #[.int .i64 0, .int .i64 1]) ∧ w' = w := by
  have k0 := h.c0
  obtain ⟨p1, hp1⟩ : ∃ b, decide (f < 0) = b := ⟨_, rfl⟩
  obtain ⟨p2, hp2⟩ : ∃ b, decide (N.nodes ≤ f) = b := ⟨_, rfl⟩
  obtain ⟨p3, hp3⟩ : ∃ b, decide (t < 0) = b := ⟨_, rfl⟩
  obtain ⟨p4, hp4⟩ : ∃ b, decide (N.nodes ≤ t) = b := ⟨_, rfl⟩
  obtain ⟨p5, hp5⟩ : ∃ b, (f == t) = b := ⟨_, rfl⟩
  have hany : p1 = true ∨ p2 = true ∨ p3 = true ∨ p4 = true ∨ p5 = true := by
    rw [← hp1, ← hp2, ← hp3, ← hp4, ← hp5]
    simp only [decide_eq_true_eq, beq_iff_eq]
    exact hno
  clear hno h
  cases p1 <;> cases p2 <;> cases p3 <;> cases p4 <;> cases p5 <;> first | (simp at hany; done) | skip
  all_goals clear hany
  all_goals
    go_enter Try.func29, Try.ntmps29
    go_wp2
    go_ret2
    exact ⟨rfl, rfl⟩
set_option maxRecDepth 20000 in
theorem RefSend_big (g : Nat) (v : Value) (N : NetV) (f t : Int) (d : ByteArray) (w : World) (h : RefAt w g v N) (hd : d.size ≤ maxLen) (hok : 0 ≤ f ∧ f < N.nodes ∧ 0 ≤ t ∧ t < N.nodes ∧ f ≠ t) (hb : 262144 < d.size) :
    Calls Try.prog 29 #[.pointer (some ⟨g, 0, none⟩), .int .i64 f, .int .i64 t, .string d] w fun e w' => e = .returned (.tuple #[.int .i64 0, .int .i64 40]) ∧ w' = w := by
  have k0 := h.c0
  obtain ⟨o1, o2, o3, o4, o5⟩ := hok
  have p1 : decide (f < 0) = false := by rw [decide_eq_false_iff_not]; omega
  have p2 : decide (N.nodes ≤ f) = false := by rw [decide_eq_false_iff_not]; omega
  have p3 : decide (t < 0) = false := by rw [decide_eq_false_iff_not]; omega
  have p4 : decide (N.nodes ≤ t) = false := by rw [decide_eq_false_iff_not]; omega
  have p5 : (f == t) = false := by rw [beq_eq_false_iff_ne]; exact o5
  have p6 : decide ((262144 : Int) < (d.size : Int)) = true := by rw [decide_eq_true_eq]; omega
  clear h
  go_enter Try.func29, Try.ntmps29
  go_wp2
  go_ret2
  exact ⟨rfl, rfl⟩
set_option maxRecDepth 20000 in
theorem RefSend_full (g : Nat) (v : Value) (N : NetV) (f t : Int) (d : ByteArray) (w : World) (h : RefAt w g v N) (hs : Sm N 1000000000000) (hok : 0 ≤ f ∧ f < N.nodes ∧ 0 ≤ t ∧ t < N.nodes ∧ f ≠ t) (hb : d.size ≤ 262144) (hl : N.l.length = 256) :
    Calls Try.prog 29 #[.pointer (some ⟨g, 0, none⟩), .int .i64 f, .int .i64 t, .string d] w fun e w' => e = .returned (.tuple #[.int .i64 0, .int .i64 44]) ∧ RefAt w' g v { N with sent := N.sent + 1, lost := N.lost + 1 } ∧ Upd w w' g v v := by
  obtain ⟨o1, o2, o3, o4, o5⟩ := hok
  have p1 : decide (f < 0) = false := by rw [decide_eq_false_iff_not]; omega
  have p2 : decide (N.nodes ≤ f) = false := by rw [decide_eq_false_iff_not]; omega
  have p3 : decide (t < 0) = false := by rw [decide_eq_false_iff_not]; omega
  have p4 : decide (N.nodes ≤ t) = false := by rw [decide_eq_false_iff_not]; omega
  have p5 : (f == t) = false := by rw [beq_eq_false_iff_ne]; exact o5
  have p6 : decide ((262144 : Int) < (d.size : Int)) = false := by rw [decide_eq_false_iff_not]; omega
  have k0 := h.c0
  have k3 := h.c3
  have f3 := h.free 3
  have h3 := h.set3 (N.sent + 1)
  have e1 := h3.c1
  have e6 := h3.c6
  have f6 := h3.free 6
  obtain ⟨ao, cp, hv, _, _⟩ := h.2.1.len
  have H6 := Kp.mk (h3.set6 (N.lost + 1))
  have HU := Kp.mk ((Upd.set w g 3 (.int .i64 (N.sent + 1)) v).trans (Upd.set _ g 6 (.int .i64 (N.lost + 1)) v))
  obtain ⟨⟨s1, s2⟩, _, _, ⟨s3, s4⟩, _, _⟩ := hs
  clear h h3
  rw [hl] at hv
  subst hv
  go_enter Try.func29, Try.ntmps29
  go_wp2
  go_ret2
  exact ⟨rfl, H6.out, HU.out⟩
end Go.Proofs.Ytdhpnhdokkhnlaa
