/- The walks of the reference's Same, May. -/
import Derived.Test.YtjpkncfmionieaaDoorHRefOne
namespace Go.Proofs.YtjpkncfmionieaaDoor
open Go.RowKit
set_option linter.unusedVariables false

set_option maxRecDepth 20000 in
set_option maxHeartbeats 2000000 in
theorem rSame_any (q p : HdV) (w : World) (hq : HdAt w q) (hp : HdAt w p) :
    Calls Tryd.prog 31 #[q.v, p.v] w fun e w' => e = .returned (.bool (Hd.sameB q.hv p.hv)) ∧ Below w.heap.size w w' := by
  obtain ⟨ga, ba, sa, loa, lla, lca, lfa⟩ := q
  obtain ⟨gb, bb, sb, lob, llb, lcb, lfb⟩ := p
  have HV : Kp (Hd.sameB (HdV.hv ⟨ga, ba, sa, loa, lla, lca, lfa⟩) (HdV.hv ⟨gb, bb, sb, lob, llb, lcb, lfb⟩) = (decide (ga = gb) && (decide (ba = bb) && (decide (sa = sb) && decide (rowI lfa lla = rowI lfb llb))))) := ⟨rfl⟩
  rw [HV.out]
  have hla := hq.len
  have hlb := hp.len
  unfold maxLen at hla hlb
  simp only [] at hla hlb
  have HB := Kp.mk (((Below.refl w.heap.size w).alloc (Nat.le_refl _) (.cells #[.int .i64 ga, .int .i64 ba, .int .i64 sa, .slice loa lla lca] 24)).alloc (by simp) (.cells #[.int .i64 gb, .int .i64 bb, .int .i64 sb, .slice lob llb lcb] 24))
  have hxa := heap_first w (.cells #[.int .i64 ga, .int .i64 ba, .int .i64 sa, .slice loa lla lca] 24) (.cells #[.int .i64 gb, .int .i64 bb, .int .i64 sb, .slice lob llb lcb] 24)
  have hxb := heap_second w (.cells #[.int .i64 ga, .int .i64 ba, .int .i64 sa, .slice loa lla lca] 24) (.cells #[.int .i64 gb, .int .i64 bb, .int .i64 sb, .slice lob llb lcb] 24)
  have HXa := Kp.mk hxa
  have HXb := Kp.mk hxb
  have HRa := Kp.mk (hq.row _ HB.out)
  have HRb := Kp.mk (hp.row _ HB.out)
  unfold HdV.v
  simp only [] at HRa HRb ⊢
  have q1 : ∀ o o2 (j : Nat), ((w.alloc o).alloc o2).cell? ⟨w.heap.size, j, none⟩ = (w.alloc o).cell? ⟨w.heap.size, j, none⟩ := fun o o2 j => by rw [World.cell?_alloc_lt _ _ _ (by simp)]
  clear HV hq hp hxa hxb
  by_cases c0 : ga = gb
  rotate_left 1
  · rw [decide_eq_false c0, Bool.false_and]
    have t0 : (ga != gb) = true := by rw [bne_iff_ne]; exact c0
    clear c0
    go_enter Tryd.func31, Tryd.ntmps31
    go_wp2
    go_ret
    exact ⟨by trivial, HB.out⟩
  subst c0
  rw [decide_eq_true rfl, Bool.true_and]
  by_cases c1 : ba = bb
  rotate_left 1
  · rw [decide_eq_false c1, Bool.false_and]
    have t1 : (ba != bb) = true := by rw [bne_iff_ne]; exact c1
    clear c1
    go_enter Tryd.func31, Tryd.ntmps31
    go_wp2
    go_ret
    exact ⟨by trivial, HB.out⟩
  subst c1
  rw [decide_eq_true rfl, Bool.true_and]
  by_cases c2 : sa = sb
  rotate_left 1
  · rw [decide_eq_false c2, Bool.false_and]
    have t2 : (sa != sb) = true := by rw [bne_iff_ne]; exact c2
    clear c2
    go_enter Tryd.func31, Tryd.ntmps31
    go_wp2
    go_ret
    exact ⟨by trivial, HB.out⟩
  subst c2
  rw [decide_eq_true rfl, Bool.true_and]
  by_cases c3 : lla = llb
  rotate_left 1
  · rw [decide_eq_false (fun h => c3 (rowI_eq.1 h).1)]
    have t3 : ((lla : Int) != (llb : Int)) = true := by rw [bne_iff_ne]; omega
    go_enter Tryd.func31, Tryd.ntmps31
    go_wp2
    go_ret
    exact ⟨by trivial, HB.out⟩
  subst c3
  have HD : Kp (decide (rowI lfa lla = rowI lfb lla) = decide (∀ j, j < lla → lfa j = lfb j)) := ⟨by rw [Bool.eq_iff_iff, decide_eq_true_eq, decide_eq_true_eq, rowI_eq]; simp⟩
  rw [HD.out]
  obtain ⟨R, hR⟩ : ∃ R, decide (∀ j, j < lla → lfa j = lfb j) = R := ⟨_, rfl⟩
  rw [hR]
  have HR := Kp.mk hR
  clear hR HD
  go_enter Tryd.func31, Tryd.ntmps31
  go_wp2
  clear q1
  generalize (w.alloc (.cells #[.int .i64 ga, .int .i64 ba, .int .i64 sa, .slice loa lla lca] 24)).alloc (.cells #[.int .i64 ga, .int .i64 ba, .int .i64 sa, .slice lob lla lcb] 24) = w1 at *
  obtain ⟨y0, y1, y2, y3⟩ := cells4 HXa.out
  obtain ⟨z0, z1, z2, z3⟩ := cells4 HXb.out
  go_loopw [5] (fun i wr => ∃ k md : Nat, k ≤ lla ∧ i = .int .i64 k ∧ (∀ j, j < k → lfa j = lfb j) ∧ wr = w1.drewN md) (fun i _ => lla - (intOf i).toNat)
  case atStart => exact ⟨0, 0, by omega, rfl, fun j hj => absurd hj (Nat.not_lt_zero j), rfl⟩
  case round =>
    obtain ⟨k, md, hk, rfl, hno, rfl⟩ := hrel
    have HNo := Kp.mk hno
    clear hno
    by_cases hkl : k < lla
    · obtain ⟨a, rfl, hc⟩ := HRa.out k hkl
      obtain ⟨b, rfl, hd⟩ := HRb.out k hkl
      have hk0 : (0 : Int) ≤ (k : Int) := by omega
      have hk1 : (k : Int) < (lla : Int) := by omega
      by_cases he : lfa k = lfb k
      · have HE : Kp (∀ j, j < k + 1 → lfa j = lfb j) := ⟨fun j hj => by
          by_cases h : j < k
          · exact HNo.out j h
          · obtain rfl : j = k := by omega
            exact he⟩
        rw [he] at hc
        clear he
        generalize lfb k = u at hc hd
        go_wp2_with fail
        go_quiet (fail)
        go_wp2
        go_roundw
        case rel => exact ⟨k + 1, _, by omega, by go_num, HE.out, rfl⟩
        case measure => simp [intOf]; omega
      · have HV : Kp (R = false) := ⟨by rw [← HR.out]; exact decide_eq_false fun h => he (h k hkl)⟩
        have he' : (lfa k != lfb k) = true := by rw [bne_iff_ne]; exact he
        clear he
        generalize lfa k = u at hc he'
        generalize lfb k = v at hd he'
        go_wp2_with fail
        go_quiet (fail)
        go_wp2
        go_ret
        exact ⟨ret_bool HV.out.symm, ⟨HB.out.os, HB.out.tape, HB.out.output, HB.out.size, HB.out.block⟩⟩
    · obtain rfl : k = lla := by omega
      have HV : Kp (R = true) := ⟨by rw [← HR.out]; exact decide_eq_true HNo.out⟩
      go_wp2
      go_ret
      exact ⟨ret_bool HV.out.symm, ⟨HB.out.os, HB.out.tape, HB.out.output, HB.out.size, HB.out.block⟩⟩
theorem Fine.few {g : Nat → Int} {k : Nat} (h : Fine g k) : k ≤ 30 := by
  have h1 := Hd.count_in (rowI g k) h.2 h.1
  have h2 : Hd.R.countP (fun t => (rowI g k).contains t) ≤ Hd.R.length := List.countP_le_length
  have h3 : Hd.R.length = 30 := by decide
  rw [h1, rowI_len, h3] at h2
  exact h2
/-- May, as the reference asks it. -/
theorem may_ref (gen base snap : Int) (f : Nat → Int) (n : Nat) : (HdV.hv ⟨gen, base, snap, none, n, 0, f⟩).may = true ↔ (1 ≤ gen ∧ gen ≤ 1099511627776 ∧ 0 ≤ base ∧ base ≤ 1099511627776) ∧ ¬ (snap ≠ 0 ∧ (snap < 2 ∨ 31 < snap)) ∧ ¬ (snap = 0 ∧ base ≠ 0) ∧ 1 ≤ n ∧ (Fine f n ∧ snap ∉ rowI f n) := by
  unfold Hd.HV.may Hd.HV.first Hd.HV.tapes HdV.hv
  simp only []
  have hne : rowI f n ≠ [] ↔ 1 ≤ n := by
    have := rowI_len f n
    constructor
    · intro h
      rcases Nat.eq_zero_or_pos n with e | e
      · subst e; exact absurd rfl h
      · exact e
    · intro h e; rw [e] at this; simp at this; omega
  rw [Bool.and_eq_true, decide_eq_true_eq, Hd.mayT_iff]
  unfold Fine
  by_cases h0 : snap = 0
  · subst h0
    rw [if_pos rfl]
    constructor
    · rintro ⟨⟨a, b, c, d, e, f'⟩, g1, g2⟩
      exact ⟨⟨a, b, c, d⟩, fun h => h.1 rfl, fun h => by have := h.2; omega, hne.1 e, ⟨fun t ht => ⟨(g1 t ht).1, (g1 t ht).2.1⟩, g2⟩, fun h => by have := (g1 0 h).1; omega⟩
    · rintro ⟨⟨a, b, c, d⟩, _, h2, h3, ⟨g1, g2⟩, _⟩
      exact ⟨⟨a, b, c, d, hne.2 h3, fun h => by have := h.2; exact h2 ⟨rfl, by omega⟩⟩, fun t ht => ⟨(g1 t ht).1, (g1 t ht).2, by simp⟩, g2⟩
  · rw [if_neg h0]
    simp only [List.mem_cons, forall_eq_or_imp, List.nodup_cons]
    constructor
    · rintro ⟨⟨a, b, c, d, e, f'⟩, ⟨k1, g1⟩, k2, g2⟩
      exact ⟨⟨a, b, c, d⟩, fun h => by have := h.2; omega, fun h => h0 h.1, hne.1 e, ⟨fun t ht => ⟨(g1 t ht).1, (g1 t ht).2.1⟩, g2⟩, k2⟩
    · rintro ⟨⟨a, b, c, d⟩, k1, _, h3, ⟨g1, g2⟩, k2⟩
      exact ⟨⟨a, b, c, d, hne.2 h3, fun h => h0 h.1⟩, ⟨⟨by omega, by omega, by simp⟩, fun t ht => ⟨(g1 t ht).1, (g1 t ht).2, by simp⟩⟩, k2, g2⟩
end Go.Proofs.YtjpkncfmionieaaDoor
