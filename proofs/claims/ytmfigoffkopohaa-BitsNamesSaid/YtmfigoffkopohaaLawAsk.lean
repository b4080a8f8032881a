/- The walk of the law's ask: what a reader answers to an Ask. -/
import Derived.Test.YtmfigoffkopohaaReaderFive
namespace Go.Proofs.Ytmfigoffkopohaa
open Go.RowKit
set_option linter.unusedVariables false

/-- An Ask. -/
structure AskV where
  what : Nat
  n : Nat
  a : Int
  b : Int
def AskV.v (q : AskV) : Value := .agg #[.int .u8 q.what, .int .u64 q.n, .int .i64 q.a, .int .i64 q.b]
def AskV.ok (q : AskV) : Prop := q.what < 256 ∧ q.n < 18446744073709551616 ∧ (-9223372036854775808 ≤ q.a ∧ q.a ≤ 9223372036854775807) ∧ (-9223372036854775808 ≤ q.b ∧ q.b ≤ 9223372036854775807)
/-- What a reader answers: number, text, where it stands, error. -/
def answer (l : List UInt8) (p e : Nat) (q : AskV) : Nat × List UInt8 × Nat × Nat :=
  if q.what = 0 then ((Var.rVarint l p e q.n).1, [], (Var.rVarint l p e q.n).2)
  else if q.what = 1 then ((IntKind.u64.wrap (Var.rZag l p e q.a q.b).1).toNat, [], (Var.rZag l p e q.a q.b).2)
  else if q.what = 2 then ((Var.rFixed l p e q.a).1, [], (Var.rFixed l p e q.a).2)
  else if q.what = 3 then (((Var.rRaw l p e 1).1.headD 0).toNat, [], (Var.rRaw l p e 1).2)
  else if q.what = 4 then (0, (Var.rRaw l p e q.a))
  else (0, (Var.rText l p e q.a))
theorem Rd.alloc {w : World} {g : Nat} {s : ByteArray} {p e : Nat} (h : Rd w g s p e) (o : Obj) : Rd (w.alloc o) g s p e := by
  unfold Rd at *
  rw [Below.heap_alloc w o g (lt_of_block h)]; exact h
set_option maxRecDepth 20000 in
theorem ask_any (g : Nat) (s : ByteArray) (p e : Nat) (q : AskV) (hq : q.ok) (w : World) (h : Rd w g s p e) (hp : p ≤ s.size) (hs : s.size ≤ 140737488351232) :
    Calls Try.prog 43 #[.pointer (some ⟨g, 0, none⟩), q.v] w fun r w' => r = .returned (.tuple #[.int .u64 ((answer s.data.toList p e q).1 : Nat), .string (B (answer s.data.toList p e q).2.1)]) ∧ Rd w' g s (answer s.data.toList p e q).2.2.1 (answer s.data.toList p e q).2.2.2 ∧ w.grownBy w' (some g) := by
  obtain ⟨what, n, a, b⟩ := q
  obtain ⟨q1, q2, ⟨q3, q4⟩, ⟨q5, q6⟩⟩ := hq
  simp only [] at q1 q2 q3 q4 q5 q6
  have hA := Kp.mk (fun o => Rd.alloc h o)
  unfold AskV.v
  simp only []
  by_cases w0 : what = 0
  · subst w0
    have hV : Kp (answer s.data.toList p e ⟨0, n, a, b⟩ = ((Var.rVarint s.data.toList p e n).1, [], (Var.rVarint s.data.toList p e n).2)) := ⟨by simp [answer]⟩
    have HC := Kp.mk (fun o => Varint_any g s p e n _ (hA.out o) hp hs q2)
    generalize Var.rVarint s.data.toList p e n = x at HC hV
    clear h
    go_enter Try.func43, Try.ntmps43
    go_wp2_with fail
    refine (HC.out _).mono ?_
    rintro e w' ⟨rfl, t1, t2⟩
    have T1 := Kp.mk t1
    have T2 := Kp.mk t2
    clear t1 t2
    go_wp2
    go_ret2
    refine ⟨?_, by rw [hV.out]; exact T1.out, grown_trans' (World.grownBy_alloc _ _ _) T2.out⟩
    rw [hV.out]
    rfl
  by_cases w1 : what = 1
  · subst w1
    have hV : Kp (answer s.data.toList p e ⟨1, n, a, b⟩ = ((IntKind.u64.wrap (Var.rZag s.data.toList p e a b).1).toNat, [], (Var.rZag s.data.toList p e a b).2)) := ⟨by simp [answer]⟩
    have HC := Kp.mk (fun o => RZag_any g s p e a b _ (hA.out o) hp hs)
    generalize Var.rZag s.data.toList p e a b = x at HC hV
    clear h
    go_enter Try.func43, Try.ntmps43
    go_wp2_with fail
    refine (HC.out _).mono ?_
    rintro e w' ⟨rfl, t1, t2⟩
    have T1 := Kp.mk t1
    have T2 := Kp.mk t2
    clear t1 t2
    go_wp2
    go_ret2
    refine ⟨?_, by rw [hV.out]; exact T1.out, grown_trans' (World.grownBy_alloc _ _ _) T2.out⟩
    rw [hV.out]
    simp only [IntKind.wrap_u64]
    rw [Int.toNat_of_nonneg (by omega)]
    rfl
  by_cases w2 : what = 2
  · subst w2
    have hV : Kp (answer s.data.toList p e ⟨2, n, a, b⟩ = ((Var.rFixed s.data.toList p e a).1, [], (Var.rFixed s.data.toList p e a).2)) := ⟨by simp [answer]⟩
    have HC := Kp.mk (fun o => RFixed_any g s p e a _ (hA.out o) hp hs)
    generalize Var.rFixed s.data.toList p e a = x at HC hV
    clear h
    go_enter Try.func43, Try.ntmps43
    go_wp2_with fail
    refine (HC.out _).mono ?_
    rintro e w' ⟨rfl, t1, t2⟩
    have T1 := Kp.mk t1
    have T2 := Kp.mk t2
    clear t1 t2
    go_wp2
    go_ret2
    refine ⟨?_, by rw [hV.out]; exact T1.out, grown_trans' (World.grownBy_alloc _ _ _) T2.out⟩
    rw [hV.out]
    rfl
  by_cases w3 : what = 3
  · subst w3
    have hV : Kp (answer s.data.toList p e ⟨3, n, a, b⟩ = (((Var.rRaw s.data.toList p e 1).1.headD 0).toNat, [], (Var.rRaw s.data.toList p e 1).2)) := ⟨by simp [answer]⟩
    have HC := Kp.mk (fun o => Byte_any g s p e _ (hA.out o) hp hs)
    generalize Var.rRaw s.data.toList p e 1 = x at HC hV
    generalize x.1.headD 0 = b8 at HC hV
    have hb8 : b8.toNat < 256 := UInt8.toNat_lt b8
    clear h
    go_enter Try.func43, Try.ntmps43
    go_wp2_with fail
    refine (HC.out _).mono ?_
    rintro e w' ⟨rfl, t1, t2⟩
    have T1 := Kp.mk t1
    have T2 := Kp.mk t2
    clear t1 t2
    go_wp2
    go_ret2
    refine ⟨?_, by rw [hV.out]; exact T1.out, grown_trans' (World.grownBy_alloc _ _ _) T2.out⟩
    rw [hV.out]
    rfl
  by_cases w4 : what = 4
  · subst w4
    have hV : Kp (answer s.data.toList p e ⟨4, n, a, b⟩ = (0, (Var.rRaw s.data.toList p e a))) := ⟨by simp [answer]⟩
    have HC := Kp.mk (fun o => Raw_any g s p e a _ (hA.out o) hp hs)
    generalize Var.rRaw s.data.toList p e a = x at HC hV
    clear h
    go_enter Try.func43, Try.ntmps43
    go_wp2_with fail
    refine (HC.out _).mono ?_
    rintro e w' ⟨rfl, t1, t2⟩
    have T1 := Kp.mk t1
    have T2 := Kp.mk t2
    clear t1 t2
    go_wp2
    go_ret2
    refine ⟨?_, by rw [hV.out]; exact T1.out, grown_trans' (World.grownBy_alloc _ _ _) T2.out⟩
    rw [hV.out]
    rfl
  · have hV : Kp (answer s.data.toList p e ⟨what, n, a, b⟩ = (0, (Var.rText s.data.toList p e a))) := ⟨by simp [answer, w0, w1, w2, w3, w4]⟩
    have t0 : ((what : Int) == 0) = false := by rw [beq_eq_false_iff_ne]; omega
    have t1 : ((what : Int) == 1) = false := by rw [beq_eq_false_iff_ne]; omega
    have t2 : ((what : Int) == 2) = false := by rw [beq_eq_false_iff_ne]; omega
    have t3 : ((what : Int) == 3) = false := by rw [beq_eq_false_iff_ne]; omega
    have t4 : ((what : Int) == 4) = false := by rw [beq_eq_false_iff_ne]; omega
    have HC := Kp.mk (fun o => Text_any g s p e a _ (hA.out o) hp hs q3 q4)
    generalize Var.rText s.data.toList p e a = x at HC hV
    clear h
    go_enter Try.func43, Try.ntmps43
    go_wp2_with fail
    refine (HC.out _).mono ?_
    rintro e w' ⟨rfl, t1, t2⟩
    have T1 := Kp.mk t1
    have T2 := Kp.mk t2
    clear t1 t2
    go_wp2
    go_ret2
    refine ⟨?_, by rw [hV.out]; exact T1.out, grown_trans' (World.grownBy_alloc _ _ _) T2.out⟩
    rw [hV.out]
    rfl
end Go.Proofs.Ytmfigoffkopohaa
