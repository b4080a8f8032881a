/- The walks of package bits, part 8: Reader's Text, End, New. -/
import Derived.Test.YtmfigoffkopohaaReaderFour
namespace Go.Proofs.Ytmfigoffkopohaa
open Go.RowKit
set_option linter.unusedVariables false

set_option maxRecDepth 20000 in
theorem Text_any (g : Nat) (s : ByteArray) (p e : Nat) (most : Int) (w : World) (h : Rd w g s p e) (hp : p ≤ s.size) (hs : s.size ≤ 140737488351232) (hm1 : -9223372036854775808 ≤ most) (hm2 : most ≤ 9223372036854775807) :
    Calls Try.prog 36 #[.pointer (some ⟨g, 0, none⟩), .int .i64 most] w fun r w' => r = .returned (.string (B (Var.rText s.data.toList p e most).1)) ∧ Rd w' g s (Var.rText s.data.toList p e most).2.1 (Var.rText s.data.toList p e most).2.2 ∧ w.grownBy w' (some g) := by
  have HG := Kp.mk (good_any g s p e w h)
  have h' := Kp.mk h
  by_cases he : e = 0
  · subst he
    have HV0 := Kp.mk (Varint_any g s p 0 most.toNat w h hp hs (by omega))
    have hf := Var.rVarint_facts s.data.toList p most.toNat (by rw [data_len]; exact hp)
    unfold Var.rText
    rw [if_pos rfl]
    generalize Var.rVarint s.data.toList p 0 most.toNat = x at HV0 hf ⊢
    obtain ⟨n, q, e1⟩ := x
    obtain ⟨f1, f2, f3, f4, f5⟩ := hf
    simp only [data_len] at HV0 f1 f2 f3 f4 f5 ⊢
    have hc := h.c1
    clear h
    obtain ⟨r3, hr3⟩ : ∃ r3, (if e1 = 0 then (if s.size - q < n then ([], p, 8) else Var.rRaw s.data.toList q 0 (n : Nat)) else ([], q, e1)) = r3 := ⟨_, rfl⟩
    rw [hr3]
    have HR3 := Kp.mk hr3
    have hmx : Kp (max most 0 = ((most.toNat : Nat) : Int)) := ⟨by omega⟩
    have HRaw : Kp (∀ w, Rd w g s q 0 → Calls Try.prog 40 #[.pointer (some ⟨g, 0, none⟩), .int .i64 (n : Nat)] w fun r w' => r = .returned (.string (B (Var.rRaw s.data.toList q 0 (n : Nat)).1)) ∧ Rd w' g s (Var.rRaw s.data.toList q 0 (n : Nat)).2.1 (Var.rRaw s.data.toList q 0 (n : Nat)).2.2 ∧ w.grownBy w' (some g)) := ⟨fun w h => Raw_any g s q 0 n w h f2 hs⟩
    clear hr3
    go_enter Try.func36, Try.ntmps36
    go_wp2_with fail
    refine HG.out.mono ?_
    rintro e w' ⟨rfl, rfl⟩
    go_wp2_with fail
    rw [hmx.out]
    refine HV0.out.mono ?_
    rintro e w1 ⟨rfl, t1, t2⟩
    have T1 := Kp.mk t1
    have T2 := Kp.mk t2
    have hc2 := t1.c2
    by_cases h1 : e1 = 0
    · subst h1
      have HLf := Kp.mk (Left_any g s q 0 w1 t1 f2 hs)
      by_cases h2 : s.size - q < n
      · have hr : Kp (r3 = ([], p, 8)) := ⟨by rw [← HR3.out, if_pos rfl, if_pos h2]⟩
        have HS3 : Kp (Rd ((w1.setCell ⟨g, 2, none⟩ (.int .i64 8)).setCell ⟨g, 1, none⟩ (.int .i64 p)).drew g s p 8) := ⟨((t1.set2 8).set1 p).drew⟩
        have hd2 : w1.drew.cell? ⟨g, 2, none⟩ = some (.int .i64 0) := t1.drew.c2
        have hd1 : (w1.setCell ⟨g, 2, none⟩ (.int .i64 8)).drew.cell? ⟨g, 1, none⟩ = some (.int .i64 q) := (t1.set2 8).drew.c1
        have hfr2 := t1.drew.free 2
        have hfr1 : (w1.setCell ⟨g, 2, none⟩ (.int .i64 8)).drew.frozen? ⟨g, 1, none⟩ = false := (t1.set2 8).drew.free 1
        have he3 : ((w1.setCell ⟨g, 2, none⟩ (.int .i64 8)).setCell ⟨g, 1, none⟩ (.int .i64 p)).drew.cell? ⟨g, 2, none⟩ = some (.int .i64 8) := ((t1.set2 8).set1 p).drew.c2
        have t3 : decide (((s.size - q : Nat) : Int) < (n : Int)) = true := by rw [decide_eq_true_eq]; omega
        have t3' : decide (s.size - q < n) = true := by rw [decide_eq_true_eq]; omega
        clear t1 t2
        go_wp2_with fail
        refine HLf.out.mono ?_
        rintro e w' ⟨rfl, rfl⟩
        go_wp2
        go_ret
        exact ⟨by rw [hr.out]; rfl, by rw [hr.out]; exact HS3.out, grown_trans' T2.out (grown_trans' (grown_trans' (grown_set _ _ _ _) (grown_set _ _ _ _)) (grown_drew _ _))⟩
      · have hr : Kp (r3 = Var.rRaw s.data.toList q 0 (n : Nat)) := ⟨by rw [← HR3.out, if_pos rfl, if_neg h2]⟩
        have hd2 := t1.drew.c2
        have t3 : decide (((s.size - q : Nat) : Int) < (n : Int)) = false := by rw [decide_eq_false_iff_not]; omega
        have t3' : decide (s.size - q < n) = false := by rw [decide_eq_false_iff_not]; omega
        have hn63 : n ≤ 9223372036854775807 := by omega
        clear t1 t2
        go_wp2_with fail
        refine HLf.out.mono ?_
        rintro e w' ⟨rfl, rfl⟩
        go_wp2_with fail
        refine (HRaw.out _ T1.out.drew).mono ?_
        rintro e w3 ⟨rfl, t4, t5⟩
        have T4 := Kp.mk t4
        have T5 := Kp.mk t5
        clear t4 t5
        go_wp2
        go_ret
        exact ⟨by rw [hr.out]; rfl, by rw [hr.out]; exact T4.out, grown_trans' T2.out (grown_trans' (grown_drew _ _) T5.out)⟩
    · have hr : Kp (r3 = ([], q, e1)) := ⟨by rw [← HR3.out, if_neg h1]⟩
      have t0 : ((e1 : Int) == 0) = false := by rw [beq_eq_false_iff_ne]; omega
      have t0' : ((e1 : Int) != 0) = true := by rw [bne_iff_ne]; omega
      clear t1 t2
      go_wp2
      go_ret
      exact ⟨by rw [hr.out]; rfl, by rw [hr.out]; exact T1.out, T2.out⟩
  · have HV : Kp (Var.rText s.data.toList p e most = ([], p, e)) := ⟨by unfold Var.rText; rw [if_neg he]⟩
    have hd : decide (e = 0) = false := by simp [he]
    rw [hd] at HG
    clear h
    go_enter Try.func36, Try.ntmps36
    go_wp2_with fail
    refine HG.out.mono ?_
    rintro e w' ⟨rfl, rfl⟩
    go_wp2
    go_ret
    exact ⟨by rw [HV.out]; rfl, by rw [HV.out]; exact h'.out, World.grownBy.refl _ _⟩
theorem End_any (g : Nat) (s : ByteArray) (p e : Nat) (w : World) (h : Rd w g s p e) (hp : p ≤ s.size) (hs : s.size ≤ 140737488351232) :
    Calls Try.prog 35 #[.pointer (some ⟨g, 0, none⟩)] w fun r w' => r = .returned (.int .i64 ((if e = 0 ∧ p < s.size then 4 else e : Nat) : Int)) ∧ (w' = w ∨ w' = w.drew) := by
  have HE := Kp.mk (Err_any g s p e w h)
  have HL := Kp.mk (Left_any g s p e w h hp hs)
  by_cases he : e = 0
  · subst he
    by_cases hl : p < s.size
    · have hv : Kp ((if 0 = 0 ∧ p < s.size then 4 else 0) = 4) := ⟨if_pos ⟨rfl, hl⟩⟩
      rw [hv.out]
      obtain ⟨d, hd⟩ : ∃ d, s.size - p = d + 1 := ⟨s.size - p - 1, by omega⟩
      rw [hd] at HL
      clear h hd hv hl
      go_enter Try.func35, Try.ntmps35
      go_wp2_with fail
      refine HE.out.mono ?_
      rintro e w' ⟨rfl, rfl⟩
      go_wp2_with fail
      refine HL.out.mono ?_
      rintro e w' ⟨rfl, rfl⟩
      go_wp2
      go_ret
      exact ⟨rfl, .inr rfl⟩
    · have hv : Kp ((if 0 = 0 ∧ p < s.size then 4 else 0) = 0) := ⟨if_neg (fun h => hl h.2)⟩
      have hz : s.size - p = 0 := by omega
      rw [hz] at HL
      rw [hv.out]
      clear h hz hv hl
      go_enter Try.func35, Try.ntmps35
      go_wp2_with fail
      refine HE.out.mono ?_
      rintro e w' ⟨rfl, rfl⟩
      go_wp2_with fail
      refine HL.out.mono ?_
      rintro e w' ⟨rfl, rfl⟩
      go_wp2
      go_ret
      exact ⟨rfl, .inr rfl⟩
  · have hv : Kp ((if e = 0 ∧ p < s.size then 4 else e) = e) := ⟨if_neg (fun h => he h.1)⟩
    have t1 : ((e : Int) != 0) = true := by rw [bne_iff_ne]; omega
    rw [hv.out]
    clear h hv
    go_enter Try.func35, Try.ntmps35
    go_wp2_with fail
    refine HE.out.mono ?_
    rintro e w' ⟨rfl, rfl⟩
    go_wp2
    go_ret
    exact ⟨rfl, .inl rfl⟩
theorem New_any (s : ByteArray) (w : World) :
    Calls Try.prog 31 #[.string s] w fun r w' => r = .returned (.pointer (some ⟨w.heap.size, 0, none⟩)) ∧ Rd w' w.heap.size s 0 0 ∧ Below w.heap.size w w' := by
  go_enter Try.func31, Try.ntmps31
  go_wp2
  go_ret
  refine ⟨rfl, ?_, ?_⟩
  · show (w.heap.push _)[w.heap.size]? = _
    simp
  · exact (Below.refl _ _).alloc (Nat.le_refl _) _
end Go.Proofs.Ytmfigoffkopohaa
