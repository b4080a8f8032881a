/- The walks of the reference's Reader, part 2: Raw, Byte, Text, End; and the law's told. -/
import Derived.Test.YtmfigoffkopohaaRefReader
namespace Go.Proofs.Ytmfigoffkopohaa
open Go.RowKit
set_option linter.unusedVariables false

set_option maxRecDepth 20000 in
theorem xRaw_any (g : Nat) (s : ByteArray) (p e : Nat) (n : Int) (w : World) (h : Rx w g s p e) (hp : p ≤ s.size) (hs : s.size ≤ 140737488351232) :
    Calls Try.prog 58 #[.pointer (some ⟨g, 0, none⟩), .int .i64 n] w fun r w' => r = .returned (.string (B (Var.rRaw s.data.toList p e n).1)) ∧ Rx w' g s (Var.rRaw s.data.toList p e n).2.1 (Var.rRaw s.data.toList p e n).2.2 ∧ w.grownBy w' (some g) := by
  have h' := Kp.mk h
  have hk := h.c2
  by_cases he : e = 0
  · subst he
    by_cases hn : n < 0
    · have HV : Kp (Var.rRaw s.data.toList p 0 n = ([], p, 1)) := ⟨by simp [Var.rRaw, hn]⟩
      have HS := Kp.mk (h.set2 1)
      have HW := Kp.mk (fun e1 : Int => wrong_any g s p 0 e1 _ h)
      clear h
      go_enter Try.func58, Try.ntmps58
      go_wp2_with fail
      refine (HW.out _).mono ?_
      rintro e w' ⟨rfl, rfl⟩
      go_wp2
      go_ret
      exact ⟨by rw [HV.out]; rfl, by rw [HV.out]; exact HS.out, grown_set _ _ _ _⟩
    have hc0 := h.drew.c0
    have hc1 := h.drew.c1
    by_cases hl : ((s.size - p : Nat) : Int) < n
    · have HV : Kp (Var.rRaw s.data.toList p 0 n = ([], p, 8)) := ⟨by unfold Var.rRaw; rw [if_pos rfl, if_neg hn, if_pos (by rw [data_len]; exact hl)]⟩
      have HS := Kp.mk (h.drew.set2 8)
      have HW := Kp.mk (fun e1 : Int => wrong_any g s p 0 e1 _ h.drew)
      have hl' : (s.size : Int) - p < n := by omega
      clear h hl
      go_enter Try.func58, Try.ntmps58
      go_wp2
      go_region
      go_wp2_with fail
      refine (HW.out _).mono ?_
      rintro e w' ⟨rfl, rfl⟩
      go_wp2
      go_ret
      exact ⟨by rw [HV.out]; rfl, by rw [HV.out]; exact HS.out, grown_trans' (grown_drew w _) (grown_set _ _ _ _)⟩
    obtain ⟨m, rfl⟩ := Int.eq_ofNat_of_zero_le (show 0 ≤ n by omega)
    have hpm : p + m ≤ s.size := by omega
    have HV : Kp (Var.rRaw s.data.toList p 0 m = ((s.data.toList.drop p).take m, p + m, 0)) := ⟨by unfold Var.rRaw; rw [if_pos rfl, if_neg hn, if_neg (by rw [data_len]; exact hl)]; rfl⟩
    have HX : Kp (s.extract p (p + m) = B ((s.data.toList.drop p).take m)) := ⟨bytes_ext (by rw [extract_list, B_list])⟩
    have hd0 := h.drew.drew.c0
    have hd1 := h.drew.drew.c1
    have hf := h.drew.drew.free 1
    have HS := Kp.mk (h.drew.drew.set1 (p + m))
    have hcast : (((p + m : Nat) : Int)) = (p : Int) + m := Int.natCast_add p m
    rw [hcast] at HS
    clear h hcast hl hn
    go_enter Try.func58, Try.ntmps58
    go_wp2
    go_region
    go_wp2
    go_region
    go_wp2
    go_ret
    exact ⟨by rw [HV.out, ← HX.out]; rfl, by rw [HV.out]; exact HS.out, grown_trans' (grown_drew w _) (grown_trans' (grown_drew _ _) (grown_set _ _ _ _))⟩
  · have HV : Kp (Var.rRaw s.data.toList p e n = ([], p, e)) := ⟨by unfold Var.rRaw; rw [if_neg he]⟩
    have t1 : ((e : Int) != 0) = true := by rw [bne_iff_ne]; omega
    clear h
    go_enter Try.func58, Try.ntmps58
    go_wp2
    go_ret
    exact ⟨by rw [HV.out]; rfl, by rw [HV.out]; exact h'.out, World.grownBy.refl _ _⟩
set_option maxRecDepth 20000 in
theorem xByte_any (g : Nat) (s : ByteArray) (p e : Nat) (w : World) (h : Rx w g s p e) (hp : p ≤ s.size) (hs : s.size ≤ 140737488351232) :
    Calls Try.prog 57 #[.pointer (some ⟨g, 0, none⟩)] w fun r w' => r = .returned (.int .u8 (((Var.rRaw s.data.toList p e 1).1.headD 0).toNat : Int)) ∧ Rx w' g s (Var.rRaw s.data.toList p e 1).2.1 (Var.rRaw s.data.toList p e 1).2.2 ∧ w.grownBy w' (some g) := by
  have HR := Kp.mk (xRaw_any g s p e 1 w h hp hs)
  generalize Var.rRaw s.data.toList p e 1 = x at HR ⊢
  obtain ⟨l, q, e1⟩ := x
  simp only [] at HR ⊢
  clear h
  cases l with
  | nil =>
    have ht : (B []).toList.isEmpty = true := by rw [bytes_toList, B_list]; rfl
    go_enter Try.func57, Try.ntmps57
    go_wp2_with fail
    refine HR.out.mono ?_
    rintro e w' ⟨rfl, t1, t2⟩
    have T1 := Kp.mk t1
    have T2 := Kp.mk t2
    clear t1 t2
    go_wp2
    go_ret
    exact ⟨rfl, T1.out, T2.out⟩
  | cons b r =>
    have ht : ((B (b :: r)).toList == (⟨#[]⟩ : ByteArray).toList) = false := by rw [bytes_toList, B_list, bytes_toList]; rfl
    have ht2 : (B (b :: r)).toList.isEmpty = false := by rw [bytes_toList, B_list]; rfl
    have hz : (B (b :: r)).size = r.length + 1 := by rw [B_size]; simp
    go_enter Try.func57, Try.ntmps57
    go_wp2_with fail
    refine HR.out.mono ?_
    rintro e w' ⟨rfl, t1, t2⟩
    have T1 := Kp.mk t1
    have T2 := Kp.mk t2
    clear t1 t2
    go_wp2
    go_ret
    exact ⟨rfl, T1.out, T2.out⟩
set_option maxRecDepth 20000 in
theorem xText_any (g : Nat) (s : ByteArray) (p e : Nat) (most : Int) (w : World) (h : Rx w g s p e) (hp : p ≤ s.size) (hs : s.size ≤ 140737488351232) (hm1 : -9223372036854775808 ≤ most) (hm2 : most ≤ 9223372036854775807) :
    Calls Try.prog 59 #[.pointer (some ⟨g, 0, none⟩), .int .i64 most] w fun r w' => r = .returned (.string (B (Var.rText s.data.toList p e most).1)) ∧ Rx w' g s (Var.rText s.data.toList p e most).2.1 (Var.rText s.data.toList p e most).2.2 ∧ w.grownBy w' (some g) := by
  have h' := Kp.mk h
  have hmx : Kp (max most 0 = ((most.toNat : Nat) : Int)) := ⟨by omega⟩
  have HV0 := Kp.mk (xVarint_any g s p e most.toNat w h hp hs (by omega))
  have hc := h.c1
  by_cases he : e = 0
  · subst he
    have hf := Var.rVarint_facts s.data.toList p most.toNat (by rw [data_len]; exact hp)
    unfold Var.rText
    rw [if_pos rfl]
    generalize Var.rVarint s.data.toList p 0 most.toNat = x at HV0 hf ⊢
    obtain ⟨n, q, e1⟩ := x
    obtain ⟨f1, f2, f3, f4, f5⟩ := hf
    simp only [data_len] at HV0 f1 f2 f3 f4 f5 ⊢
    clear h
    obtain ⟨r3, hr3⟩ : ∃ r3, (if e1 = 0 then (if s.size - q < n then ([], p, 8) else Var.rRaw s.data.toList q 0 (n : Nat)) else ([], q, e1)) = r3 := ⟨_, rfl⟩
    rw [hr3]
    have HR3 := Kp.mk hr3
    have HRaw : Kp (∀ w, Rx w g s q 0 → Calls Try.prog 58 #[.pointer (some ⟨g, 0, none⟩), .int .i64 (n : Nat)] w fun r w' => r = .returned (.string (B (Var.rRaw s.data.toList q 0 (n : Nat)).1)) ∧ Rx w' g s (Var.rRaw s.data.toList q 0 (n : Nat)).2.1 (Var.rRaw s.data.toList q 0 (n : Nat)).2.2 ∧ w.grownBy w' (some g)) := ⟨fun w h => xRaw_any g s q 0 n w h f2 hs⟩
    clear hr3
    go_enter Try.func59, Try.ntmps59
    go_wp2_with fail
    rw [hmx.out]
    refine HV0.out.mono ?_
    rintro e w1 ⟨rfl, t1, t2⟩
    have T1 := Kp.mk t1
    have T2 := Kp.mk t2
    have hc2 := t1.c2
    by_cases h1 : e1 = 0
    · subst h1
      have hd0 := t1.drew.c0
      have hd1 := t1.drew.c1
      have hfr1 := t1.drew.free 1
      by_cases h2 : s.size - q < n
      · have hr : Kp (r3 = ([], p, 8)) := ⟨by rw [← HR3.out, if_pos rfl, if_pos h2]⟩
        have HS3 : Kp (Rx ((w1.setCell ⟨g, 1, none⟩ (.int .i64 p)).setCell ⟨g, 2, none⟩ (.int .i64 8)).drew g s p 8) := ⟨((t1.set1 p).set2 8).drew⟩
        have HW := Kp.mk (fun e1 : Int => wrong_any g s p 0 e1 _ (t1.set1 p).drew)
        have t3' : decide ((s.size : Int) - (q : Int) < (n : Int)) = true := by rw [decide_eq_true_eq]; omega
        clear t1 t2 h2
        go_wp2
        go_region
        go_wp2_with fail
        refine (HW.out _).mono ?_
        rintro e w' ⟨rfl, rfl⟩
        go_wp2
        go_ret
        exact ⟨by rw [hr.out]; rfl, by rw [hr.out]; exact HS3.out, grown_trans' T2.out (grown_trans' (grown_drew _ _) (grown_trans' (grown_set _ _ _ _) (grown_set _ _ _ _)))⟩
      · have hr : Kp (r3 = Var.rRaw s.data.toList q 0 (n : Nat)) := ⟨by rw [← HR3.out, if_pos rfl, if_neg h2]⟩
        have t3' : decide ((s.size : Int) - (q : Int) < (n : Int)) = false := by rw [decide_eq_false_iff_not]; omega
        have hn63 : n ≤ 9223372036854775807 := by omega
        clear t1 t2 h2
        go_wp2
        go_region
        go_wp2_with fail
        refine (HRaw.out _ T1.out.drew).mono ?_
        rintro e w3 ⟨rfl, t4, t5⟩
        have T4 := Kp.mk t4
        have T5 := Kp.mk t5
        clear t4 t5
        go_wp2
        go_ret
        exact ⟨by rw [hr.out]; rfl, by rw [hr.out]; exact T4.out, grown_trans' T2.out (grown_trans' (grown_drew _ _) T5.out)⟩
    · have hr : Kp (r3 = ([], q, e1)) := ⟨by rw [← HR3.out, if_neg h1]⟩
      have t0' : ((e1 : Int) != 0) = true := by rw [bne_iff_ne]; omega
      clear t1 t2
      go_wp2
      go_ret
      exact ⟨by rw [hr.out]; rfl, by rw [hr.out]; exact T1.out, T2.out⟩
  · have HV : Kp (Var.rText s.data.toList p e most = ([], p, e)) := ⟨by unfold Var.rText; rw [if_neg he]⟩
    have hv : Var.rVarint s.data.toList p e most.toNat = (0, p, e) := by unfold Var.rVarint; rw [if_neg he]
    have t1 : ((e : Int) != 0) = true := by rw [bne_iff_ne]; omega
    rw [hv] at HV0
    clear h hv
    go_enter Try.func59, Try.ntmps59
    go_wp2_with fail
    rw [hmx.out]
    refine HV0.out.mono ?_
    rintro e0 w1 ⟨rfl, t1, t2⟩
    have T1 := Kp.mk t1
    have T2 := Kp.mk t2
    have hc2 := t1.c2
    clear t1 t2
    go_wp2
    go_ret
    exact ⟨by rw [HV.out]; rfl, by rw [HV.out]; exact T1.out, T2.out⟩
set_option maxRecDepth 20000 in
theorem xEnd_any (g : Nat) (s : ByteArray) (p e : Nat) (w : World) (h : Rx w g s p e) (hp : p ≤ s.size) (hs : s.size ≤ 140737488351232) :
    Calls Try.prog 45 #[.pointer (some ⟨g, 0, none⟩)] w fun r w' => r = .returned (.int .i64 ((if e = 0 ∧ p < s.size then 4 else e : Nat) : Int)) ∧ w.drew = w' := by
  have hc0 := h.drew.c0
  have hc1 := h.drew.c1
  have hc2 := h.drew.c2
  by_cases he : e = 0
  · subst he
    by_cases hl : p < s.size
    · have hv : Kp ((if 0 = 0 ∧ p < s.size then 4 else 0) = 4) := ⟨if_pos ⟨rfl, hl⟩⟩
      rw [hv.out]
      have t3 : decide ((p : Int) < (s.size : Int)) = true := by rw [decide_eq_true_eq]; omega
      clear h hv
      go_enter Try.func45, Try.ntmps45
      go_wp2
      go_region
      all_goals go_wp2
      all_goals go_ret
      all_goals exact ⟨rfl, rfl⟩
    · have hv : Kp ((if 0 = 0 ∧ p < s.size then 4 else 0) = 0) := ⟨if_neg (fun h => hl h.2)⟩
      rw [hv.out]
      have t3 : decide ((p : Int) < (s.size : Int)) = false := by rw [decide_eq_false_iff_not]; omega
      clear h hv
      go_enter Try.func45, Try.ntmps45
      go_wp2
      go_region
      all_goals go_wp2
      all_goals go_ret
      all_goals exact ⟨rfl, rfl⟩
  · have hv : Kp ((if e = 0 ∧ p < s.size then 4 else e) = e) := ⟨if_neg (fun h => he h.1)⟩
    have t1 : ((e : Int) == 0) = false := by rw [beq_eq_false_iff_ne]; omega
    rw [hv.out]
    clear h hv
    go_enter Try.func45, Try.ntmps45
    go_wp2
    go_region
    all_goals go_wp2
    all_goals go_ret
    all_goals exact ⟨rfl, rfl⟩
set_option maxRecDepth 20000 in
theorem told_any (g : Nat) (s : ByteArray) (p e : Nat) (q : AskV) (hq : q.ok) (w : World) (h : Rx w g s p e) (hp : p ≤ s.size) (hs : s.size ≤ 140737488351232) :
    Calls Try.prog 44 #[.pointer (some ⟨g, 0, none⟩), q.v] w fun r w' => r = .returned (.tuple #[.int .u64 ((answer s.data.toList p e q).1 : Nat), .string (B (answer s.data.toList p e q).2.1)]) ∧ Rx w' g s (answer s.data.toList p e q).2.2.1 (answer s.data.toList p e q).2.2.2 ∧ w.grownBy w' (some g) := by
  obtain ⟨what, n, a, b⟩ := q
  obtain ⟨q1, q2, ⟨q3, q4⟩, ⟨q5, q6⟩⟩ := hq
  simp only [] at q1 q2 q3 q4 q5 q6
  have hA := Kp.mk (fun o => Rx.alloc h o)
  unfold AskV.v
  simp only []
  by_cases w0 : what = 0
  · subst w0
    have hV : Kp (answer s.data.toList p e ⟨0, n, a, b⟩ = ((Var.rVarint s.data.toList p e n).1, [], (Var.rVarint s.data.toList p e n).2)) := ⟨by simp [answer]⟩
    have HC := Kp.mk (fun o => xVarint_any g s p e n _ (hA.out o) hp hs q2)
    generalize Var.rVarint s.data.toList p e n = x at HC hV
    clear h
    go_enter Try.func44, Try.ntmps44
    go_wp2_with fail
    refine (HC.out _).mono ?_
    rintro e w' ⟨rfl, t1, t2⟩
    have T1 := Kp.mk t1
    have T2 := Kp.mk t2
    clear t1 t2
    go_wp2
    go_ret2
    refine ⟨?_, by rw [hV.out]; exact T1.out, grown_trans' (World.grownBy_alloc _ _ _) T2.out⟩
    rw [hV.out]
    rfl
  by_cases w1 : what = 1
  · subst w1
    have hV : Kp (answer s.data.toList p e ⟨1, n, a, b⟩ = ((IntKind.u64.wrap (Var.rZag s.data.toList p e a b).1).toNat, [], (Var.rZag s.data.toList p e a b).2)) := ⟨by simp [answer]⟩
    have HC := Kp.mk (fun o => xZag_any g s p e a b _ (hA.out o) hp hs)
    generalize Var.rZag s.data.toList p e a b = x at HC hV
    clear h
    go_enter Try.func44, Try.ntmps44
    go_wp2_with fail
    refine (HC.out _).mono ?_
    rintro e w' ⟨rfl, t1, t2⟩
    have T1 := Kp.mk t1
    have T2 := Kp.mk t2
    clear t1 t2
    go_wp2
    go_ret2
    refine ⟨?_, by rw [hV.out]; exact T1.out, grown_trans' (World.grownBy_alloc _ _ _) T2.out⟩
    rw [hV.out]
    simp only [IntKind.wrap_u64]
    rw [Int.toNat_of_nonneg (by omega)]
    rfl
  by_cases w2 : what = 2
  · subst w2
    have hV : Kp (answer s.data.toList p e ⟨2, n, a, b⟩ = ((Var.rFixed s.data.toList p e a).1, [], (Var.rFixed s.data.toList p e a).2)) := ⟨by simp [answer]⟩
    have HC := Kp.mk (fun o => xFixed_any g s p e a _ (hA.out o) hp hs)
    generalize Var.rFixed s.data.toList p e a = x at HC hV
    clear h
    go_enter Try.func44, Try.ntmps44
    go_wp2_with fail
    refine (HC.out _).mono ?_
    rintro e w' ⟨rfl, t1, t2⟩
    have T1 := Kp.mk t1
    have T2 := Kp.mk t2
    clear t1 t2
    go_wp2
    go_ret2
    refine ⟨?_, by rw [hV.out]; exact T1.out, grown_trans' (World.grownBy_alloc _ _ _) T2.out⟩
    rw [hV.out]
    rfl
  by_cases w3 : what = 3
  · subst w3
    have hV : Kp (answer s.data.toList p e ⟨3, n, a, b⟩ = (((Var.rRaw s.data.toList p e 1).1.headD 0).toNat, [], (Var.rRaw s.data.toList p e 1).2)) := ⟨by simp [answer]⟩
    have HC := Kp.mk (fun o => xByte_any g s p e _ (hA.out o) hp hs)
    generalize Var.rRaw s.data.toList p e 1 = x at HC hV
    generalize x.1.headD 0 = b8 at HC hV
    have hb8 : b8.toNat < 256 := UInt8.toNat_lt b8
    clear h
    go_enter Try.func44, Try.ntmps44
    go_wp2_with fail
    refine (HC.out _).mono ?_
    rintro e w' ⟨rfl, t1, t2⟩
    have T1 := Kp.mk t1
    have T2 := Kp.mk t2
    clear t1 t2
    go_wp2
    go_ret2
    refine ⟨?_, by rw [hV.out]; exact T1.out, grown_trans' (World.grownBy_alloc _ _ _) T2.out⟩
    rw [hV.out]
    rfl
  by_cases w4 : what = 4
  · subst w4
    have hV : Kp (answer s.data.toList p e ⟨4, n, a, b⟩ = (0, (Var.rRaw s.data.toList p e a))) := ⟨by simp [answer]⟩
    have HC := Kp.mk (fun o => xRaw_any g s p e a _ (hA.out o) hp hs)
    generalize Var.rRaw s.data.toList p e a = x at HC hV
    clear h
    go_enter Try.func44, Try.ntmps44
    go_wp2_with fail
    refine (HC.out _).mono ?_
    rintro e w' ⟨rfl, t1, t2⟩
    have T1 := Kp.mk t1
    have T2 := Kp.mk t2
    clear t1 t2
    go_wp2
    go_ret2
    refine ⟨?_, by rw [hV.out]; exact T1.out, grown_trans' (World.grownBy_alloc _ _ _) T2.out⟩
    rw [hV.out]
    rfl
  · have hV : Kp (answer s.data.toList p e ⟨what, n, a, b⟩ = (0, (Var.rText s.data.toList p e a))) := ⟨by simp [answer, w0, w1, w2, w3, w4]⟩
    have t0 : ((what : Int) == 0) = false := by rw [beq_eq_false_iff_ne]; omega
    have t1 : ((what : Int) == 1) = false := by rw [beq_eq_false_iff_ne]; omega
    have t2 : ((what : Int) == 2) = false := by rw [beq_eq_false_iff_ne]; omega
    have t3 : ((what : Int) == 3) = false := by rw [beq_eq_false_iff_ne]; omega
    have t4 : ((what : Int) == 4) = false := by rw [beq_eq_false_iff_ne]; omega
    have HC := Kp.mk (fun o => xText_any g s p e a _ (hA.out o) hp hs q3 q4)
    generalize Var.rText s.data.toList p e a = x at HC hV
    clear h
    go_enter Try.func44, Try.ntmps44
    go_wp2_with fail
    refine (HC.out _).mono ?_
    rintro e w' ⟨rfl, t1, t2⟩
    have T1 := Kp.mk t1
    have T2 := Kp.mk t2
    clear t1 t2
    go_wp2
    go_ret2
    refine ⟨?_, by rw [hV.out]; exact T1.out, grown_trans' (World.grownBy_alloc _ _ _) T2.out⟩
    rw [hV.out]
    rfl
end Go.Proofs.Ytmfigoffkopohaa
