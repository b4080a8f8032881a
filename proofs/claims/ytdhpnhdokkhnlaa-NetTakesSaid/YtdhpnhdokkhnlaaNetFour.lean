/- Package net: out. -/
import Derived.Test.YtdhpnhdokkhnlaaNetThree
namespace Go.Proofs.Ytdhpnhdokkhnlaa
open Go.RowKit
set_option linter.unusedVariables false
attribute [local go_sem ↓] Go.wp_at_zero Go.wp_at_succ

/-- The row without the one at a place. -/
def outL (l : List MailV) (i : Nat) : List MailV := l.take i ++ l.drop (i + 1)
theorem outL_len (l : List MailV) (i : Nat) (h : i < l.length) : (outL l i).length + 1 = l.length := by unfold outL; simp; omega
theorem RK.under {z n g cap : Nat} {w : World} {cs : List Value} (h : RK z w (.slice (some ⟨g, 0, none⟩) n cap) n cs) (i : Nat) (hi : i < n) :
    (∀ w', w.grownBy w' (blk (.slice (some ⟨g, 0, none⟩) i i)) → w.grownBy w' (blk (.slice (some ⟨g, 0, none⟩) n cap))) ∧ (∀ v', Fresh w (.slice (some ⟨g, 0, none⟩) i i) v' → Fresh w (.slice (some ⟨g, 0, none⟩) n cap) v') := by
  obtain ⟨_, _, h1, h2, h3⟩ := h.len
  simp only [Value.slice.injEq, true_and] at h1
  have hc : 0 < cap := by omega
  have hb : blk (.slice (some ⟨g, 0, none⟩) n cap) = some g := by cases cap with | zero => omega | succ c => rfl
  refine ⟨fun w' hg => ?_, fun v' hf k hk => ?_⟩
  · refine ⟨hg.os, hg.tape, hg.output, hg.size, fun k hk hne => hg.block k hk (fun e => hne ?_)⟩
    cases i with
    | zero => simp [blk] at e
    | succ i => rw [hb]; simpa [blk] using e
  · rcases hf k hk with h | h
    · left
      cases i with
      | zero => simp [blk] at h
      | succ i => rw [hb]; simpa [blk] using h
    · exact .inr h
theorem NetAt.far {w : World} {g : Nat} {v : Value} {N : NetV} (h : NetAt w g v N) (p : Addr) (u : Value) (hg : g ≠ p.block) (hb : ∀ k, blk v = some k → k ≠ p.block) : NetAt (w.setCell p u) g v N :=
  h.same (by simp) (Below.heap_setCell w p u g hg) fun k hk => Below.heap_setCell w p u k (hb k hk)
theorem Upd.far {w w1 : World} {g : Nat} {v v' : Value} (h : Upd w w1 g v v') (p : Addr) (u : Value) (hp : w.heap.size ≤ p.block) : Upd w (w1.setCell p u) g v v' := by
  obtain ⟨a1, a2, a3, a4, a5, a6⟩ := h
  exact ⟨a1, a2, a3, by simpa using a4, fun k hk hg hv => by rw [Below.heap_setCell w1 p u k (by omega)]; exact a5 k hk hg hv, a6⟩
theorem NetAt.far4 {w : World} {g : Nat} {v : Value} {N : NetV} (h : NetAt w g v N) (H : Nat) (hg : g ≠ H) (hb : ∀ k, blk v = some k → k ≠ H) (a b c d : Value) : NetAt ((((w.setCell ⟨H, 0, none⟩ a).setCell ⟨H, 1, none⟩ b).setCell ⟨H, 2, none⟩ c).setCell ⟨H, 3, none⟩ d) g v N :=
  (((h.far ⟨H, 0, none⟩ a hg hb).far ⟨H, 1, none⟩ b hg hb).far ⟨H, 2, none⟩ c hg hb).far ⟨H, 3, none⟩ d hg hb
theorem Upd.far4 {w w1 : World} {g : Nat} {v v' : Value} (h : Upd w w1 g v v') (H : Nat) (hp : w.heap.size ≤ H) (a b c d : Value) : Upd w ((((w1.setCell ⟨H, 0, none⟩ a).setCell ⟨H, 1, none⟩ b).setCell ⟨H, 2, none⟩ c).setCell ⟨H, 3, none⟩ d) g v v' :=
  (((h.far ⟨H, 0, none⟩ a hp).far ⟨H, 1, none⟩ b hp).far ⟨H, 2, none⟩ c hp).far ⟨H, 3, none⟩ d hp
theorem out_blocks {w w' : World} {vc : Value} {o1 o2 : Obj} (hg : ((w.alloc o1).alloc o2).drew.grownBy w' (blk vc)) (hb : ∀ k, blk vc = some k → k < w.heap.size) (g : Nat) (hgw : g < w.heap.size) (j : Nat) (u : Value) :
    (w'.setCell ⟨g, j, none⟩ u).heap[w.heap.size]? = some o1 ∧ (w'.setCell ⟨g, j, none⟩ u).heap[w.heap.size + 1]? = some o2 := by
  have hz : ((w.alloc o1).alloc o2).drew.heap.size = w.heap.size + 2 := by simp
  have h1 := hg.block w.heap.size (by omega) (fun e => by have := hb _ e.symm; omega)
  have h2 := hg.block (w.heap.size + 1) (by omega) (fun e => by have := hb _ e.symm; omega)
  refine ⟨?_, ?_⟩
  · rw [Below.heap_setCell _ _ _ _ (by show w.heap.size ≠ g; omega), h1]
    show ((w.alloc o1).alloc o2).heap[w.heap.size]? = _
    rw [Below.heap_alloc _ _ _ (by simp)]
    exact heap_alloc_new w o1
  · rw [Below.heap_setCell _ _ _ _ (by show w.heap.size + 1 ≠ g; omega), h2]
    have h3 := heap_alloc_new (w.alloc o1) o2
    rw [show (w.alloc o1).heap.size = w.heap.size + 1 from by simp] at h3
    exact h3
theorem cells4 {w : World} {k : Nat} {a b c d : Value} {t : TypeId} (h : w.heap[k]? = some (.cells #[a, b, c, d] t (0, 0))) : (w.cell? ⟨k, 0, none⟩ = some a ∧ w.cell? ⟨k, 1, none⟩ = some b ∧ w.cell? ⟨k, 2, none⟩ = some c ∧ w.cell? ⟨k, 3, none⟩ = some d) ∧ ∀ j, w.frozen? ⟨k, j, none⟩ = false := by
  refine ⟨⟨?_, ?_, ?_, ?_⟩, fun j => ?_⟩ <;> simp [World.cell?, World.frozen?, h]
set_option maxRecDepth 20000 in
set_option maxHeartbeats 1000000 in
theorem out_any (g : Nat) (v : Value) (N : NetV) (i : Nat) (w : World) (h : NetAt w g v N) (hi : i < N.l.length) (hs : N.l.length ≤ 256) :
    Calls Try.prog 28 #[.pointer (some ⟨g, 0, none⟩), .int .i64 i] w fun e w' => e = .returned N.l[i].v ∧ ∃ v', NetAt w' g v' { N with l := outL N.l i } ∧ Upd w w' g v v' := by
  obtain ⟨i0, hi0, hi1, hi2, hi3⟩ := info_parts infoMail
  have HI := Kp.mk (And.intro hi0 (And.intro hi1 (And.intro hi2 hi3)))
  clear hi0 hi1 hi2 hi3
  obtain ⟨g', cap, hv, c1, c2, c3, c4⟩ := h.2.1.at_ (Nat.lt_of_le_of_lt (Nat.zero_le _) hi)
  subst hv
  unfold maxLen at c2
  have hrow := rows_get N.l i hi
  obtain ⟨r0, r1, r2, r3⟩ := hrow
  have hc5 : ∀ o, (w.alloc o).cell? ⟨g, 5, none⟩ = some (.slice (some ⟨g', 0, none⟩) N.l.length cap) := fun o => (h.alloc o).c5
  have d0 : ∀ o, (w.alloc o).cell? ⟨g', i * 4, none⟩ = some (.int .i64 N.l[i].id) := fun o => (h.alloc o).2.1.cell _ _ r0
  have d1 : ∀ o, (w.alloc o).cell? ⟨g', i * 4 + 1, none⟩ = some (.int .i64 N.l[i].frm) := fun o => (h.alloc o).2.1.cell _ _ r1
  have d2 : ∀ o, (w.alloc o).cell? ⟨g', i * 4 + 2, none⟩ = some (.int .i64 N.l[i].to) := fun o => (h.alloc o).2.1.cell _ _ r2
  have d3 : ∀ o, (w.alloc o).cell? ⟨g', i * 4 + 3, none⟩ = some (.string N.l[i].data) := fun o => (h.alloc o).2.1.cell _ _ r3
  have hgz := h.lt
  have hc5b : ∀ o1 o2, ((w.alloc o1).alloc o2).cell? ⟨g, 5, none⟩ = some (.slice (some ⟨g', 0, none⟩) N.l.length cap) := fun o1 o2 => ((h.alloc o1).alloc o2).c5
  have HH := Kp.mk (fun o1 o2 => ((h.alloc o1).alloc o2).drew)
  have HCUT := Kp.mk (fun o1 o2 => RK.cut (((h.alloc o1).alloc o2).drew).2.1 i (Nat.le_of_lt hi))
  have HUND := Kp.mk (fun o1 o2 => RK.under (((h.alloc o1).alloc o2).drew).2.1 i hi)
  have HU0 : Kp (∀ o1 o2, Upd w ((w.alloc o1).alloc o2).drew g (.slice (some ⟨g', 0, none⟩) N.l.length cap) (.slice (some ⟨g', 0, none⟩) N.l.length cap)) := ⟨fun o1 o2 => Upd.of_below (((Below.refl _ _).alloc (Nat.le_refl _) _).alloc (by simp) _).drew g _⟩
  have hgH : g' < w.heap.size := c3
  have HCB : Kp (∀ k, blk (.slice (some ⟨g', 0, none⟩) i i) = some k → k < w.heap.size) := ⟨fun k hk => by
    cases i with
    | zero => simp [blk] at hk
    | succ i => simp [blk] at hk; omega⟩
  have hne : Kp (g' ≠ g) := ⟨fun e => h.2.2 (by rw [c4, e])⟩
  obtain ⟨A, hA, hks⟩ : ∃ A : Addr, (if cap = i + 1 then some ⟨g', 0, none⟩ else some ⟨g', (i + 1) * 4, none⟩) = some A ∧ ∀ o1 o2, ∀ j u, (rows (N.l.drop (i + 1)))[j]? = some u → ((w.alloc o1).alloc o2).drew.cell? (A.add j) = some u := by
    by_cases hc : cap = i + 1
    · refine ⟨⟨g', 0, none⟩, by rw [if_pos hc], fun o1 o2 j u hu => ?_⟩
      rw [List.drop_eq_nil_of_le (by omega)] at hu
      simp [rows] at hu
    · refine ⟨⟨g', (i + 1) * 4, none⟩, by rw [if_neg hc], fun o1 o2 j u hu => ?_⟩
      rw [Addr.add_lit]
      refine (((h.alloc o1).alloc o2).drew).2.1.cell _ _ ?_
      rw [← rows_drop, List.getElem?_drop] at hu
      exact hu
  have HKS := Kp.mk hks
  have hil : (N.l.drop (i + 1)).length = N.l.length - (i + 1) := List.length_drop
  have HIL := Kp.mk hil
  have HL : Kp (i + (N.l.length - (i + 1)) = (outL N.l i).length) := ⟨by have := outL_len N.l i hi; omega⟩
  have HR : Kp ((rows N.l).take (i * 4) ++ rows (N.l.drop (i + 1)) = rows (outL N.l i)) := ⟨by rw [rows_take, ← rows_append]; rfl⟩
  have i1 : (0 : Int) ≤ (i : Int) := by omega
  have i2 : (i : Int) < (N.l.length : Int) := by omega
  have i3 : IntKind.i64.wrap ((i : Int) + 1) = (i : Int) + 1 := by rw [IntKind.wrap_i64]; omega
  have i4 : ((i : Int) + 1).toNat = i + 1 := by omega
  have i5 : (0 : Int) ≤ (i : Int) + 1 := by omega
  have i6 : (i : Int) + 1 ≤ (N.l.length : Int) := by omega
  have i7 : (i : Int) ≤ (cap : Int) := by omega
  have i8 : (i : Int) + 1 ≤ (cap : Int) := by omega
  clear r0 r1 r2 r3 h hks hil
  go_enter Try.func28, Try.ntmps28
  go_wp2
  go_region_law (first | (refine step_append_rk (m := N.l.length - (i + 1)) rfl _ _ 34 rfl (HCUT.out _ _) 38 i0 _ 40 Try.underlying34 HI.out.1 HI.out.2.1 HI.out.2.2.1 HI.out.2.2.2 rfl (by decide) A (cap - (i + 1)) (by rfl) (by rfl) (by rw [← HIL.out]; exact rows_len _) (HKS.out _ _) (rows_one _) (by unfold maxLen; omega) (by omega) ?_; intro v' w' k1 k2 k3; obtain ⟨ao, cp, hv', _, _⟩ := k1.len; subst hv'; have HP := Kp.mk (NetAt.push (l := outL N.l i) (HH.out _ _) (by rw [← HL.out, ← HR.out]; exact k1) ((HUND.out _ _).1 _ k2) ((HUND.out _ _).2 _ k3)); have HP2 := Kp.mk ((HU0.out _ _).trans HP.out.2.2.2); obtain ⟨s5, f5, _, _⟩ := HP.out; have HF := Kp.mk (fun k hk => (k3 k hk)); have hob := out_blocks k2 HCB.out g hgz 5 (.slice ao (i + (N.l.length - (i + 1))) cp); obtain ⟨⟨a0, a1, a2, a3⟩, a4⟩ := cells4 hob.1; obtain ⟨⟨b0, b1, b2, b3⟩, b4⟩ := cells4 hob.2; clear k1 k2 k3 hob))
  all_goals go_wp2
  all_goals refine bodyPost_ret (v := N.l[i].v) (by simp [results, Try.results28, go_sem, a0, a1, a2, a3, MailV.v]) rfl ⟨rfl, .slice ao (i + (N.l.length - (i + 1))) cp, HP.out.2.2.1.far4 _ (by omega) (fun k hk => ?_) _ _ _ _, HP2.out.far4 _ (Nat.le_refl _) _ _ _ _⟩
  all_goals
    rcases HF.out k hk with h1 | h1
    · have := HCB.out k h1; omega
    · simp at h1; omega
end Go.Proofs.Ytdhpnhdokkhnlaa
