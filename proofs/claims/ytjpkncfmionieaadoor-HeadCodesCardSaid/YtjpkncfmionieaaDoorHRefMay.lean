/- The walk of the reference's May. -/
import Derived.Test.YtjpkncfmionieaaDoorHRefTwo
namespace Go.Proofs.YtjpkncfmionieaaDoor
open Go.RowKit
set_option linter.unusedVariables false

set_option maxRecDepth 100000 in
set_option maxHeartbeats 8000000 in
theorem rMay_any (q : HdV) (w : World) (h : HdAt w q) :
    Calls Tryd.prog 30 #[q.v] w fun e w' => e = .returned (.bool q.hv.may) ∧ Below w.heap.size w w' := by
  obtain ⟨gen, base, snap, lo, ll, lc, lf⟩ := q
  have HV : Kp ((HdV.hv ⟨gen, base, snap, lo, ll, lc, lf⟩).may = true ↔ (1 ≤ gen ∧ gen ≤ 1099511627776 ∧ 0 ≤ base ∧ base ≤ 1099511627776) ∧ ¬ (snap ≠ 0 ∧ (snap < 2 ∨ 31 < snap)) ∧ ¬ (snap = 0 ∧ base ≠ 0) ∧ 1 ≤ ll ∧ (Fine lf ll ∧ snap ∉ rowI lf ll)) := ⟨may_ref gen base snap lf ll⟩
  obtain ⟨M, hM⟩ : ∃ M, (HdV.hv ⟨gen, base, snap, lo, ll, lc, lf⟩).may = M := ⟨_, rfl⟩
  rw [hM] at HV ⊢
  clear hM
  have HNo : Kp (∀ P : Prop, (M = true ↔ P) → ¬ P → M = false) := ⟨fun P hp hn => by rw [Bool.eq_false_iff]; exact fun h => hn (hp.1 h)⟩
  have hl := h.len
  unfold maxLen at hl
  simp only [] at hl
  have hbx := heap_alloc_new w (.cells #[.int .i64 gen, .int .i64 base, .int .i64 snap, .slice lo ll lc] 24)
  have HB := Kp.mk ((Below.refl w.heap.size w).alloc (Nat.le_refl _) (.cells #[.int .i64 gen, .int .i64 base, .int .i64 snap, .slice lo ll lc] 24))
  have HX := Kp.mk hbx
  have HR := Kp.mk (h.row _ HB.out)
  unfold HdV.v
  simp only [] at HR ⊢
  clear h hbx
  by_cases c0 : gen < 1
  · have t0 : decide (gen < 1) = true := decide_eq_true c0
    have HF : Kp (M = false) := ⟨HNo.out _ HV.out (fun h => by have := h.1; omega)⟩
    go_enter Tryd.func30, Tryd.ntmps30
    go_wp2
    go_ret
    exact ⟨ret_bool HF.out.symm, HB.out⟩
  have t0 : decide (gen < 1) = false := decide_eq_false c0
  by_cases c1 : 1099511627776 < gen
  · have t1 : decide (1099511627776 < gen) = true := decide_eq_true c1
    have HF : Kp (M = false) := ⟨HNo.out _ HV.out (fun h => by have := h.1; omega)⟩
    go_enter Tryd.func30, Tryd.ntmps30
    go_wp2
    go_ret
    exact ⟨ret_bool HF.out.symm, HB.out⟩
  have t1 : decide (1099511627776 < gen) = false := decide_eq_false c1
  by_cases c2 : base < 0
  · have t2 : decide (base < 0) = true := decide_eq_true c2
    have HF : Kp (M = false) := ⟨HNo.out _ HV.out (fun h => by have := h.1; omega)⟩
    go_enter Tryd.func30, Tryd.ntmps30
    go_wp2
    go_ret
    exact ⟨ret_bool HF.out.symm, HB.out⟩
  have t2 : decide (base < 0) = false := decide_eq_false c2
  by_cases c3 : 1099511627776 < base
  · have t3 : decide (1099511627776 < base) = true := decide_eq_true c3
    have HF : Kp (M = false) := ⟨HNo.out _ HV.out (fun h => by have := h.1; omega)⟩
    go_enter Tryd.func30, Tryd.ntmps30
    go_wp2
    go_ret
    exact ⟨ret_bool HF.out.symm, HB.out⟩
  have t3 : decide (1099511627776 < base) = false := decide_eq_false c3
  by_cases s0 : snap = 0
  · subst s0
    by_cases b0 : base = 0
    · subst b0
      by_cases c5 : ll < 1
      · have t5 : decide ((ll : Int) < 1) = true := decide_eq_true (by omega)
        have t5' : decide (ll < 1) = true := decide_eq_true (by omega)
        have t5'' : decide (ll = 0) = true := decide_eq_true (by omega)
        have HF : Kp (M = false) := ⟨HNo.out _ HV.out (fun h => by have := h.2.2.2.1; omega)⟩
        obtain rfl : ll = 0 := by omega
        go_enter Tryd.func30, Tryd.ntmps30
        go_wp2
        go_ret
        exact ⟨ret_bool HF.out.symm, HB.out⟩
      have t5 : decide ((ll : Int) < 1) = false := decide_eq_false (by omega)
      have t5' : decide (ll < 1) = false := decide_eq_false (by omega)
      have HV' : Kp (M = true ↔ (Fine lf ll ∧ 0 ∉ rowI lf ll)) := ⟨HV.out.trans ⟨fun h => h.2.2.2.2, fun h => ⟨⟨by omega, by omega, by omega, by omega⟩, fun h => h.1 rfl, fun h => h.2 rfl, by omega, h⟩⟩⟩
      clear HV
      go_enter Tryd.func30, Tryd.ntmps30
      go_wp2
      generalize w.alloc (.cells #[.int .i64 gen, .int .i64 0, .int .i64 0, .slice lo ll lc] 24) = w1 at *
      obtain ⟨y0, y1, y2, y3⟩ := cells4 HX.out
      go_loopw [3] (fun i wr => ∃ k md : Nat, k ≤ ll ∧ i = .int .i64 k ∧ (Fine lf k ∧ 0 ∉ rowI lf k) ∧ wr = w1.drewN md) (fun i _ => ll - (intOf i).toNat)
      case atStart => exact ⟨0, 0, by omega, rfl, ⟨⟨fun t ht => by simp [rowI] at ht, by simp [rowI]⟩, by simp [rowI]⟩, rfl⟩
      case round =>
        obtain ⟨k, md, hk, rfl, hfs, rfl⟩ := hrel
        obtain ⟨hfi, hsn⟩ := hfs
        have hk30 := hfi.few
        have HFi := Kp.mk hfi
        have HSn := Kp.mk hsn
        clear hfi hsn
        by_cases hkl : k < ll
        · obtain ⟨a, rfl, hc⟩ := HR.out k hkl
          have hk0 : (0 : Int) ≤ (k : Int) := by omega
          have hk1 : (k : Int) < (ll : Int) := by omega
          have t9 : decide ((31 : Int) ≤ (k : Int)) = false := decide_eq_false (by omega)
          have t9' : decide (31 ≤ k) = false := decide_eq_false (by omega)
          have HBad : Kp (¬ (2 ≤ lf k ∧ lf k < 32) ∨ lf k = 0 ∨ lf k ∈ rowI lf k → M = false) := ⟨fun hb => HNo.out _ HV'.out (fun h => by
            have hin : lf k ∈ rowI lf ll := rowI_mem.2 ⟨k, hkl, rfl⟩
            rcases hb with hb | hb | hb
            · exact hb (h.1.1 _ hin)
            · rw [hb] at hin; exact h.2 hin
            · obtain ⟨x, hx, e⟩ := rowI_mem.1 hb
              have := List.pairwise_iff_getElem.1 h.1.2 x k (by rw [rowI_len]; omega) (by rw [rowI_len]; omega) hx
              simp [rowI] at this
              exact this e)⟩
          by_cases d1 : lf k < 2
          · have HF := Kp.mk (HBad.out (.inl (by omega)))
            have t6 : decide (lf k < 2) = true := decide_eq_true d1
            generalize lf k = u at hc t6
            clear d1 HBad
            go_wp2_with fail
            go_quiet (fail)
            go_wp2
            go_ret
            exact ⟨ret_bool HF.out.symm, ⟨HB.out.os, HB.out.tape, HB.out.output, HB.out.size, HB.out.block⟩⟩
          by_cases d2 : 31 < lf k
          · have HF := Kp.mk (HBad.out (.inl (by omega)))
            have t6 : decide (lf k < 2) = false := decide_eq_false d1
            have t7 : decide (31 < lf k) = true := decide_eq_true d2
            generalize lf k = u at hc t6 t7
            clear d1 d2 HBad
            go_wp2_with fail
            go_quiet (fail)
            go_wp2
            go_ret
            exact ⟨ret_bool HF.out.symm, ⟨HB.out.os, HB.out.tape, HB.out.output, HB.out.size, HB.out.block⟩⟩
          by_cases d3 : lf k = 0
          · have HF := Kp.mk (HBad.out (.inr (.inl d3)))
            have t6 : decide (lf k < 2) = false := decide_eq_false d1
            have t7 : decide (31 < lf k) = false := decide_eq_false d2
            have t8 : (lf k == 0) = true := by rw [beq_iff_eq]; exact d3
            generalize lf k = u at hc t6 t7 t8
            clear d1 d2 d3 HBad
            go_wp2_with fail
            go_quiet (fail)
            go_wp2
            go_ret
            exact ⟨ret_bool HF.out.symm, ⟨HB.out.os, HB.out.tape, HB.out.output, HB.out.size, HB.out.block⟩⟩
          have t6 : decide (lf k < 2) = false := decide_eq_false d1
          have t7 : decide (31 < lf k) = false := decide_eq_false d2
          have t8 : (lf k == 0) = false := by rw [beq_eq_false_iff_ne]; exact d3
          have HSu : Kp (lf k ∉ rowI lf k → Fine lf (k + 1) ∧ 0 ∉ rowI lf (k + 1)) := ⟨fun hh => ⟨HFi.out.succ ⟨by omega, by omega⟩ hh, by rw [rowI_succ]; simp only [List.mem_append, List.mem_singleton]; exact fun e => e.elim HSn.out (fun e => d3 e.symm)⟩⟩
          have HIn : Kp (∀ j, j < k → lf j = lf k → M = false) := ⟨fun j hj he => HBad.out (.inr (.inr (rowI_mem.2 ⟨j, hj, he⟩)))⟩
          have HOut : Kp ((∀ j, j < k → lf j ≠ lf k) → lf k ∉ rowI lf k) := ⟨fun hh hm => by obtain ⟨j, hj, he⟩ := rowI_mem.1 hm; exact hh j hj he⟩
          obtain ⟨u, hu⟩ : ∃ u, lf k = u := ⟨_, rfl⟩
          rw [hu] at hc t6 t7 t8 HSu HIn HOut
          clear d1 d2 d3 HBad hu
          go_wp2_with fail
          go_quiet (fail)
          go_wp2
          clear t6 t7 t8 t9 t9'
          go_loopw [4] (fun i wr => ∃ j m2 : Nat, j ≤ k ∧ i = .int .i64 j ∧ (∀ x, x < j → lf x ≠ u) ∧ wr = w1.drewN m2) (fun i _ => k - (intOf i).toNat)
          case atStart => exact ⟨0, _, by omega, rfl, fun x hx => absurd hx (Nat.not_lt_zero x), World.drewN_drewN _ _ _⟩
          case round =>
            obtain ⟨j, m2, hj, rfl, hno, rfl⟩ := hrel
            have HNj := Kp.mk hno
            clear hno
            by_cases hjk : j < k
            · obtain ⟨a', ha', hcj⟩ := HR.out j (by omega)
              obtain rfl := Option.some.inj ha'
              have hj0 : (0 : Int) ≤ (j : Int) := by omega
              have hj1 : (j : Int) < (ll : Int) := by omega
              have t10 : decide ((j : Int) < (k : Int)) = true := decide_eq_true (by omega)
              have t10' : decide (j < k) = true := decide_eq_true hjk
              by_cases he : lf j = u
              · have HF := Kp.mk (HIn.out j hjk he)
                rw [he] at hcj
                clear he ha'
                go_wp2_with fail
                go_quiet (fail)
                go_wp2
                go_ret
                exact ⟨ret_bool HF.out.symm, ⟨HB.out.os, HB.out.tape, HB.out.output, HB.out.size, HB.out.block⟩⟩
              · have HE : Kp (∀ x, x < j + 1 → lf x ≠ u) := ⟨fun x hx => by
                  by_cases h : x < j
                  · exact HNj.out x h
                  · obtain rfl : x = j := by omega
                    exact he⟩
                have t11 : (lf j == u) = false := by rw [beq_eq_false_iff_ne]; exact he
                generalize lf j = v at hcj t11
                clear he ha'
                go_wp2_with fail
                go_quiet (fail)
                go_wp2
                go_roundw
                case rel => exact ⟨j + 1, _, by omega, by go_num, HE.out, rfl⟩
                case measure => simp [intOf]; omega
            · obtain rfl : j = k := by omega
              have HG := Kp.mk (HSu.out (HOut.out HNj.out))
              go_wp2
              go_roundw
              case rel => exact ⟨j + 1, _, by omega, by go_num, HG.out, rfl⟩
              case measure => simp [intOf]; omega
        · obtain rfl : k = ll := by omega
          have HF : Kp (M = true) := ⟨HV'.out.2 ⟨HFi.out, HSn.out⟩⟩
          go_wp2
          go_ret
          exact ⟨ret_bool HF.out.symm, ⟨HB.out.os, HB.out.tape, HB.out.output, HB.out.size, HB.out.block⟩⟩
    · have t4 : (base != 0) = true := by rw [bne_iff_ne]; exact b0
      have HF : Kp (M = false) := ⟨HNo.out _ HV.out (fun h => h.2.2.1 ⟨rfl, b0⟩)⟩
      go_enter Tryd.func30, Tryd.ntmps30
      go_wp2
      go_ret
      exact ⟨ret_bool HF.out.symm, HB.out⟩
  · have ts0 : (snap != 0) = true := by rw [bne_iff_ne]; exact s0
    have ts0' : (snap == 0) = false := by rw [beq_eq_false_iff_ne]; exact s0
    by_cases s1 : snap < 2
    · have ts1 : decide (snap < 2) = true := decide_eq_true s1
      have HF : Kp (M = false) := ⟨HNo.out _ HV.out (fun h => h.2.1 ⟨s0, .inl s1⟩)⟩
      go_enter Tryd.func30, Tryd.ntmps30
      go_wp2
      go_ret
      exact ⟨ret_bool HF.out.symm, HB.out⟩
    have ts1 : decide (snap < 2) = false := decide_eq_false s1
    by_cases s2 : 31 < snap
    · have ts2 : decide (31 < snap) = true := decide_eq_true s2
      have HF : Kp (M = false) := ⟨HNo.out _ HV.out (fun h => h.2.1 ⟨s0, .inr s2⟩)⟩
      go_enter Tryd.func30, Tryd.ntmps30
      go_wp2
      go_ret
      exact ⟨ret_bool HF.out.symm, HB.out⟩
    have ts2 : decide (31 < snap) = false := decide_eq_false s2
    by_cases c5 : ll < 1
    · have t5 : decide ((ll : Int) < 1) = true := decide_eq_true (by omega)
      have t5' : decide (ll < 1) = true := decide_eq_true (by omega)
      have t5'' : decide (ll = 0) = true := decide_eq_true (by omega)
      have HF : Kp (M = false) := ⟨HNo.out _ HV.out (fun h => by have := h.2.2.2.1; omega)⟩
      obtain rfl : ll = 0 := by omega
      go_enter Tryd.func30, Tryd.ntmps30
      go_wp2
      go_ret
      exact ⟨ret_bool HF.out.symm, HB.out⟩
    have t5 : decide ((ll : Int) < 1) = false := decide_eq_false (by omega)
    have t5' : decide (ll < 1) = false := decide_eq_false (by omega)
    have HV' : Kp (M = true ↔ (Fine lf ll ∧ snap ∉ rowI lf ll)) := ⟨HV.out.trans ⟨fun h => h.2.2.2.2, fun h => ⟨⟨by omega, by omega, by omega, by omega⟩, fun h => h.2.elim s1 s2, fun h => s0 h.1, by omega, h⟩⟩⟩
    clear HV
    go_enter Tryd.func30, Tryd.ntmps30
    go_wp2
    generalize w.alloc (.cells #[.int .i64 gen, .int .i64 base, .int .i64 snap, .slice lo ll lc] 24) = w1 at *
    obtain ⟨y0, y1, y2, y3⟩ := cells4 HX.out
    go_loopw [3] (fun i wr => ∃ k md : Nat, k ≤ ll ∧ i = .int .i64 k ∧ (Fine lf k ∧ snap ∉ rowI lf k) ∧ wr = w1.drewN md) (fun i _ => ll - (intOf i).toNat)
    case atStart => exact ⟨0, 0, by omega, rfl, ⟨⟨fun t ht => by simp [rowI] at ht, by simp [rowI]⟩, by simp [rowI]⟩, rfl⟩
    case round =>
      obtain ⟨k, md, hk, rfl, hfs, rfl⟩ := hrel
      obtain ⟨hfi, hsn⟩ := hfs
      have hk30 := hfi.few
      have HFi := Kp.mk hfi
      have HSn := Kp.mk hsn
      clear hfi hsn
      by_cases hkl : k < ll
      · obtain ⟨a, rfl, hc⟩ := HR.out k hkl
        have hk0 : (0 : Int) ≤ (k : Int) := by omega
        have hk1 : (k : Int) < (ll : Int) := by omega
        have t9 : decide ((31 : Int) ≤ (k : Int)) = false := decide_eq_false (by omega)
        have t9' : decide (31 ≤ k) = false := decide_eq_false (by omega)
        have HBad : Kp (¬ (2 ≤ lf k ∧ lf k < 32) ∨ lf k = snap ∨ lf k ∈ rowI lf k → M = false) := ⟨fun hb => HNo.out _ HV'.out (fun h => by
          have hin : lf k ∈ rowI lf ll := rowI_mem.2 ⟨k, hkl, rfl⟩
          rcases hb with hb | hb | hb
          · exact hb (h.1.1 _ hin)
          · rw [hb] at hin; exact h.2 hin
          · obtain ⟨x, hx, e⟩ := rowI_mem.1 hb
            have := List.pairwise_iff_getElem.1 h.1.2 x k (by rw [rowI_len]; omega) (by rw [rowI_len]; omega) hx
            simp [rowI] at this
            exact this e)⟩
        by_cases d1 : lf k < 2
        · have HF := Kp.mk (HBad.out (.inl (by omega)))
          have t6 : decide (lf k < 2) = true := decide_eq_true d1
          generalize lf k = u at hc t6
          clear d1 HBad
          go_wp2_with fail
          go_quiet (fail)
          go_wp2
          go_ret
          exact ⟨ret_bool HF.out.symm, ⟨HB.out.os, HB.out.tape, HB.out.output, HB.out.size, HB.out.block⟩⟩
        by_cases d2 : 31 < lf k
        · have HF := Kp.mk (HBad.out (.inl (by omega)))
          have t6 : decide (lf k < 2) = false := decide_eq_false d1
          have t7 : decide (31 < lf k) = true := decide_eq_true d2
          generalize lf k = u at hc t6 t7
          clear d1 d2 HBad
          go_wp2_with fail
          go_quiet (fail)
          go_wp2
          go_ret
          exact ⟨ret_bool HF.out.symm, ⟨HB.out.os, HB.out.tape, HB.out.output, HB.out.size, HB.out.block⟩⟩
        by_cases d3 : lf k = snap
        · have HF := Kp.mk (HBad.out (.inr (.inl d3)))
          have t6 : decide (lf k < 2) = false := decide_eq_false d1
          have t7 : decide (31 < lf k) = false := decide_eq_false d2
          have t8 : (lf k == snap) = true := by rw [beq_iff_eq]; exact d3
          generalize lf k = u at hc t6 t7 t8
          clear d1 d2 d3 HBad
          go_wp2_with fail
          go_quiet (fail)
          go_wp2
          go_ret
          exact ⟨ret_bool HF.out.symm, ⟨HB.out.os, HB.out.tape, HB.out.output, HB.out.size, HB.out.block⟩⟩
        have t6 : decide (lf k < 2) = false := decide_eq_false d1
        have t7 : decide (31 < lf k) = false := decide_eq_false d2
        have t8 : (lf k == snap) = false := by rw [beq_eq_false_iff_ne]; exact d3
        have HSu : Kp (lf k ∉ rowI lf k → Fine lf (k + 1) ∧ snap ∉ rowI lf (k + 1)) := ⟨fun hh => ⟨HFi.out.succ ⟨by omega, by omega⟩ hh, by rw [rowI_succ]; simp only [List.mem_append, List.mem_singleton]; exact fun e => e.elim HSn.out (fun e => d3 e.symm)⟩⟩
        have HIn : Kp (∀ j, j < k → lf j = lf k → M = false) := ⟨fun j hj he => HBad.out (.inr (.inr (rowI_mem.2 ⟨j, hj, he⟩)))⟩
        have HOut : Kp ((∀ j, j < k → lf j ≠ lf k) → lf k ∉ rowI lf k) := ⟨fun hh hm => by obtain ⟨j, hj, he⟩ := rowI_mem.1 hm; exact hh j hj he⟩
        obtain ⟨u, hu⟩ : ∃ u, lf k = u := ⟨_, rfl⟩
        rw [hu] at hc t6 t7 t8 HSu HIn HOut
        clear d1 d2 d3 HBad hu
        go_wp2_with fail
        go_quiet (fail)
        go_wp2
        clear t6 t7 t8 t9 t9'
        go_loopw [4] (fun i wr => ∃ j m2 : Nat, j ≤ k ∧ i = .int .i64 j ∧ (∀ x, x < j → lf x ≠ u) ∧ wr = w1.drewN m2) (fun i _ => k - (intOf i).toNat)
        case atStart => exact ⟨0, _, by omega, rfl, fun x hx => absurd hx (Nat.not_lt_zero x), World.drewN_drewN _ _ _⟩
        case round =>
          obtain ⟨j, m2, hj, rfl, hno, rfl⟩ := hrel
          have HNj := Kp.mk hno
          clear hno
          by_cases hjk : j < k
          · obtain ⟨a', ha', hcj⟩ := HR.out j (by omega)
            obtain rfl := Option.some.inj ha'
            have hj0 : (0 : Int) ≤ (j : Int) := by omega
            have hj1 : (j : Int) < (ll : Int) := by omega
            have t10 : decide ((j : Int) < (k : Int)) = true := decide_eq_true (by omega)
            have t10' : decide (j < k) = true := decide_eq_true hjk
            by_cases he : lf j = u
            · have HF := Kp.mk (HIn.out j hjk he)
              rw [he] at hcj
              clear he ha'
              go_wp2_with fail
              go_quiet (fail)
              go_wp2
              go_ret
              exact ⟨ret_bool HF.out.symm, ⟨HB.out.os, HB.out.tape, HB.out.output, HB.out.size, HB.out.block⟩⟩
            · have HE : Kp (∀ x, x < j + 1 → lf x ≠ u) := ⟨fun x hx => by
                by_cases h : x < j
                · exact HNj.out x h
                · obtain rfl : x = j := by omega
                  exact he⟩
              have t11 : (lf j == u) = false := by rw [beq_eq_false_iff_ne]; exact he
              generalize lf j = v at hcj t11
              clear he ha'
              go_wp2_with fail
              go_quiet (fail)
              go_wp2
              go_roundw
              case rel => exact ⟨j + 1, _, by omega, by go_num, HE.out, rfl⟩
              case measure => simp [intOf]; omega
          · obtain rfl : j = k := by omega
            have HG := Kp.mk (HSu.out (HOut.out HNj.out))
            go_wp2
            go_roundw
            case rel => exact ⟨j + 1, _, by omega, by go_num, HG.out, rfl⟩
            case measure => simp [intOf]; omega
      · obtain rfl : k = ll := by omega
        have HF : Kp (M = true) := ⟨HV'.out.2 ⟨HFi.out, HSn.out⟩⟩
        go_wp2
        go_ret
        exact ⟨ret_bool HF.out.symm, ⟨HB.out.os, HB.out.tape, HB.out.output, HB.out.size, HB.out.block⟩⟩
end Go.Proofs.YtjpkncfmionieaaDoor
