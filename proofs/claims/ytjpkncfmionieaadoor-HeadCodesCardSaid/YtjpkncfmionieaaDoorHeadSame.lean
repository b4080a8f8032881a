/- Are two heads the same? The walk of Same; Put, all in all. -/
import Derived.Test.YtjpkncfmionieaaDoorHeadPut
namespace Go.Proofs.YtjpkncfmionieaaDoor
open Go.RowKit
set_option linter.unusedVariables false

theorem rowI_eq {f g : Nat → Int} {n m : Nat} : rowI f n = rowI g m ↔ n = m ∧ ∀ j, j < n → f j = g j := by
  constructor
  · intro h
    have hl : n = m := by have := congrArg List.length h; rwa [rowI_len, rowI_len] at this
    subst hl
    refine ⟨rfl, fun j hj => ?_⟩
    have := congrArg (fun l => l[j]?) h
    simpa [rowI, hj] using this
  · rintro ⟨rfl, h⟩
    exact List.map_congr_left fun j hj => h j (List.mem_range.1 hj)
set_option maxRecDepth 20000 in
theorem Equal_any (ao bo : Option Addr) (n m ca cb : Nat) (f g : Nat → Int) (w : World) (hn : n ≤ maxLen) (hm : m ≤ maxLen) (hf : IntsAt w ao n f) (hg : IntsAt w bo m g) :
    Calls Tryd.prog 44 #[.slice ao n ca, .slice bo m cb] w fun e w' => e = .returned (.bool (decide (rowI f n = rowI g m))) ∧ ∃ k, w' = w.drewN k := by
  unfold maxLen at hn hm
  have HF := Kp.mk (hf w (Below.refl _ _))
  have HG := Kp.mk (hg w (Below.refl _ _))
  clear hf hg
  by_cases hl : n = m
  · subst hl
    have HD : Kp (decide (rowI f n = rowI g n) = decide (∀ j, j < n → f j = g j)) := ⟨by rw [Bool.eq_iff_iff, decide_eq_true_eq, decide_eq_true_eq, rowI_eq]; simp⟩
    rw [HD.out]
    obtain ⟨R, hR⟩ : ∃ R, decide (∀ j, j < n → f j = g j) = R := ⟨_, rfl⟩
    rw [hR]
    have HR := Kp.mk hR
    clear hR HD
    go_enter Tryd.func44, Tryd.ntmps44
    go_wp2
    go_loopw [13] (fun i wr => ∃ k md : Nat, k ≤ n ∧ i = .int .i64 k ∧ (∀ j, j < k → f j = g j) ∧ wr = w.drewN md) (fun i _ => n - (intOf i).toNat)
    case atStart => exact ⟨0, 0, by omega, rfl, fun j hj => absurd hj (Nat.not_lt_zero j), rfl⟩
    case round =>
      obtain ⟨k, md, hk, rfl, hno, rfl⟩ := hrel
      have HNo := Kp.mk hno
      clear hno
      by_cases hkl : k < n
      · obtain ⟨a, rfl, hc⟩ := HF.out k hkl
        obtain ⟨b, rfl, hd⟩ := HG.out k hkl
        have hk0 : (0 : Int) ≤ (k : Int) := by omega
        have hk1 : (k : Int) < (n : Int) := by omega
        by_cases he : f k = g k
        · have HE : Kp (∀ j, j < k + 1 → f j = g j) := ⟨fun j hj => by
            by_cases h : j < k
            · exact HNo.out j h
            · obtain rfl : j = k := by omega
              exact he⟩
          rw [he] at hc
          clear he
          generalize g k = u at hc hd
          go_wp2_with fail
          go_quiet (fail)
          go_wp2
          go_roundw
          case rel => exact ⟨k + 1, _, by omega, by go_num, HE.out, rfl⟩
          case measure => simp [intOf]; omega
        · have HV : Kp (R = false) := ⟨by rw [← HR.out]; exact decide_eq_false fun h => he (h k hkl)⟩
          have he' : (f k != g k) = true := by rw [bne_iff_ne]; exact he
          clear he
          generalize f k = u at hc he'
          generalize g k = v at hd he'
          go_wp2_with fail
          go_quiet (fail)
          go_wp2
          go_ret
          exact ⟨ret_bool HV.out.symm, md + nq, by simp [World.drewN, Nat.add_assoc]⟩
      · obtain rfl : k = n := by omega
        have HV : Kp (R = true) := ⟨by rw [← HR.out]; exact decide_eq_true HNo.out⟩
        go_wp2
        go_ret
        exact ⟨ret_bool HV.out.symm, _, rfl⟩
  · have HD : Kp (decide (rowI f n = rowI g m) = false) := ⟨decide_eq_false fun h => hl (rowI_eq.1 h).1⟩
    rw [HD.out]
    have t1 : ((n : Int) != (m : Int)) = true := by rw [bne_iff_ne]; omega
    clear HD
    go_enter Tryd.func44, Tryd.ntmps44
    go_wp2
    go_ret
    exact ⟨by trivial, 0, rfl⟩
namespace Hd
def sameB (a b : HV) : Bool := decide (a.gen = b.gen) && (decide (a.base = b.base) && (decide (a.snap = b.snap) && decide (a.log = b.log)))
theorem sameB_iff {a b : HV} : sameB a b = true ↔ a = b := by
  obtain ⟨a1, a2, a3, a4⟩ := a
  obtain ⟨b1, b2, b3, b4⟩ := b
  simp [sameB]
end Hd
set_option maxRecDepth 20000 in
theorem Same_any (q p : HdV) (w : World) (hq : HdAt w q) (hp : HdAt w p) :
    Calls Tryd.prog 13 #[q.v, p.v] w fun e w' => e = .returned (.bool (Hd.sameB q.hv p.hv)) ∧ Below w.heap.size w w' := by
  have HE := Kp.mk (fun W (hW : Below w.heap.size w W) => Equal_any q.lo p.lo q.ll p.ll q.lc p.lc q.lf p.lf W (by have := hq.len; omega) (by have := hp.len; omega) (hq.row.below hW) (hp.row.below hW))
  obtain ⟨ga, ba, sa, loa, lla, lca, lfa⟩ := q
  obtain ⟨gb, bb, sb, lob, llb, lcb, lfb⟩ := p
  have HV : Kp (Hd.sameB (HdV.hv ⟨ga, ba, sa, loa, lla, lca, lfa⟩) (HdV.hv ⟨gb, bb, sb, lob, llb, lcb, lfb⟩) = (decide (ga = gb) && (decide (ba = bb) && (decide (sa = sb) && decide (rowI lfa lla = rowI lfb llb))))) := ⟨rfl⟩
  rw [HV.out]
  unfold HdV.v
  simp only [] at HE ⊢
  obtain ⟨R, hR⟩ : ∃ R, decide (rowI lfa lla = rowI lfb llb) = R := ⟨_, rfl⟩
  rw [hR] at HE ⊢
  clear hR HV hq hp
  have HB := Kp.mk (((Below.refl w.heap.size w).alloc (Nat.le_refl _) (.cells #[.int .i64 ga, .int .i64 ba, .int .i64 sa, .slice loa lla lca] 24)).alloc (by simp) (.cells #[.int .i64 gb, .int .i64 bb, .int .i64 sb, .slice lob llb lcb] 24))
  have q1 : ∀ o o2 (j : Nat), ((w.alloc o).alloc o2).cell? ⟨w.heap.size, j, none⟩ = (w.alloc o).cell? ⟨w.heap.size, j, none⟩ := fun o o2 j => by rw [World.cell?_alloc_lt _ _ _ (by simp)]
  by_cases c0 : ga = gb
  rotate_left 1
  · rw [decide_eq_false c0, Bool.false_and]
    have t0 : (ga == gb) = false := by rw [beq_eq_false_iff_ne]; exact c0
    clear c0
    go_enter Tryd.func13, Tryd.ntmps13
    go_wp2
    go_ret
    exact ⟨by trivial, HB.out⟩
  subst c0
  rw [decide_eq_true rfl, Bool.true_and]
  have t0 : (ga == ga) = true := beq_self_eq_true _
  by_cases c1 : ba = bb
  rotate_left 1
  · rw [decide_eq_false c1, Bool.false_and]
    have t1 : (ba == bb) = false := by rw [beq_eq_false_iff_ne]; exact c1
    clear c1
    go_enter Tryd.func13, Tryd.ntmps13
    go_wp2
    go_ret
    exact ⟨by trivial, HB.out⟩
  subst c1
  rw [decide_eq_true rfl, Bool.true_and]
  have t1 : (ba == ba) = true := beq_self_eq_true _
  by_cases c2 : sa = sb
  rotate_left 1
  · rw [decide_eq_false c2, Bool.false_and]
    have t2 : (sa == sb) = false := by rw [beq_eq_false_iff_ne]; exact c2
    clear c2
    go_enter Tryd.func13, Tryd.ntmps13
    go_wp2
    go_ret
    exact ⟨by trivial, HB.out⟩
  subst c2
  rw [decide_eq_true rfl, Bool.true_and]
  have t2 : (sa == sa) = true := beq_self_eq_true _
  go_enter Tryd.func13, Tryd.ntmps13
  go_wp2_with fail
  refine (HE.out _ HB.out).mono ?_
  rintro e w' ⟨rfl, m, rfl⟩
  go_wp2
  go_ret
  exact ⟨by trivial, ⟨HB.out.os, HB.out.tape, HB.out.output, HB.out.size, HB.out.block⟩⟩
namespace Hd
theorem putV_ok {D : DiskV} (h : Ok D) (q : HV) : Ok (putV D q).2 := by
  unfold putV
  split
  · exact h
  · split
    · exact h
    · split
      · exact h.wipe _
      · split
        · exact (h.wipe _).write _ _
        · exact ((h.wipe _).write _ _).sync _
end Hd
theorem HPut_any (g : Nat) (D : DiskV) (q : HdV) (w : World) (h : DiskAt w g D) (ho : Ok D) (ht : Tab w) (hq : HdAt w q) :
    Calls Tryd.prog 16 #[.pointer (some ⟨g, 0, none⟩), q.v] w fun e w' => e = .returned (.int .i64 (Hd.putV D q.hv).1) ∧ DiskAt w' g (Hd.putV D q.hv).2 ∧ Chg w w' g := by
  unfold Hd.putV
  cases hm : q.hv.may
  · rw [if_pos rfl]
    exact (Put_no g D q w hq hm).mono fun e w' ⟨he, hb⟩ => ⟨he, h.below hb, Chg.of_below hb g⟩
  · rw [if_neg (by simp)]
    cases hd : D.down
    · rw [if_neg (by simp)]
      exact Put_go g D q w h ho ht hq hm hd
    · rw [if_pos rfl]
      exact (Put_down g D q w h hq hm hd).mono fun e w' ⟨he, hb⟩ => ⟨he, h.below hb, Chg.of_below hb g⟩
end Go.Proofs.YtjpkncfmionieaaDoor
