/- The reference's Take, Lose, Send. -/
import Derived.Test.YtdhpnhdokkhnlaaRefOut
namespace Go.Proofs.Ytdhpnhdokkhnlaa
open Go.RowKit
set_option linter.unusedVariables false

theorem RefAt.far4 {w : World} {g : Nat} {v : Value} {N : NetV} (h : RefAt w g v N) (H : Nat) (hg : g ≠ H) (hb : ∀ k, blk v = some k → k ≠ H) (a b c d : Value) : RefAt ((((w.setCell ⟨H, 0, none⟩ a).setCell ⟨H, 1, none⟩ b).setCell ⟨H, 2, none⟩ c).setCell ⟨H, 3, none⟩ d) g v N := by
  have one : ∀ {W : World} (h : RefAt W g v N) (j : Nat) (u : Value), RefAt (W.setCell ⟨H, j, none⟩ u) g v N := fun h j u =>
    h.same (by simp) (Below.heap_setCell _ _ u g hg) fun k hk => Below.heap_setCell _ _ u k (hb k hk)
  exact one (one (one (one h 0 a) 1 b) 2 c) 3 d
theorem sendV_go {N : NetV} {f t : Int} {d : ByteArray} (hok : 0 ≤ f ∧ f < N.nodes ∧ 0 ≤ t ∧ t < N.nodes ∧ f ≠ t) (hb : d.size ≤ 262144) (hl : N.l.length < 256) :
    sendV N f t d = ((N.last + 1, 0), { N with sent := N.sent + 1, last := N.last + 1, l := N.l ++ [⟨N.last + 1, f, t, d⟩] }) := by
  unfold sendV
  rw [if_neg (by omega), if_neg (by omega), if_neg (by omega)]
theorem RefSend_any (g : Nat) (v : Value) (N : NetV) (f t : Int) (d : ByteArray) (w : World) (h : RefAt w g v N) (hs : Sm N 1000000000000) (hd : d.size ≤ maxLen) :
    Calls Try.prog 29 #[.pointer (some ⟨g, 0, none⟩), .int .i64 f, .int .i64 t, .string d] w fun e w' => e = .returned (.tuple #[.int .i64 (sendV N f t d).1.1, .int .i64 (sendV N f t d).1.2]) ∧ ∃ v', RefAt w' g v' (sendV N f t d).2 ∧ Upd w w' g v v' := by
  by_cases hok : 0 ≤ f ∧ f < N.nodes ∧ 0 ≤ t ∧ t < N.nodes ∧ f ≠ t
  · by_cases hb : 262144 < d.size
    · have hV : sendV N f t d = ((0, 40), N) := by unfold sendV; rw [if_neg (by omega), if_pos hb]
      refine (RefSend_big g v N f t d w h hd hok hb).mono fun e w' ⟨he, hw⟩ => ?_
      subst hw
      rw [hV]
      exact ⟨he, v, h, Upd.refl _ _ _⟩
    · by_cases hl : N.l.length < 256
      · refine (RefSend_go g v N f t d w h hs hok (by omega) hl).mono fun e w' ⟨he, hv⟩ => ?_
        rw [sendV_go hok (by omega) hl]
        exact ⟨he, hv⟩
      · have h256 : N.l.length = 256 := by have := hs.2.2.2.2.2; omega
        have hV : sendV N f t d = ((0, 44), { N with sent := N.sent + 1, lost := N.lost + 1 }) := by unfold sendV; rw [if_neg (by omega), if_neg hb, if_pos (by omega)]
        refine (RefSend_full g v N f t d w h hs hok (by omega) h256).mono fun e w' ⟨he, h1, h2⟩ => ?_
        rw [hV]
        exact ⟨he, v, h1, h2⟩
  · have hV : sendV N f t d = ((0, 1), N) := by unfold sendV; rw [if_pos (by omega)]
    refine (RefSend_arg g v N f t d w h hd (by omega)).mono fun e w' ⟨he, hw⟩ => ?_
    subst hw
    rw [hV]
    exact ⟨he, v, h, Upd.refl _ _ _⟩
set_option maxRecDepth 20000 in
theorem RefTake_no (g : Nat) (v : Value) (N : NetV) (i : Int) (w : World) (h : RefAt w g v N) (hi : i < 0 ∨ (N.l.length : Int) ≤ i) :
    Calls Try.prog 30 #[.pointer (some ⟨g, 0, none⟩), .int .i64 i] w fun e w' => e = .returned (.tuple #[zeroMail.v, .int .i64 5]) ∧ Below w.heap.size w w' := by
  obtain ⟨ao, cp, hv, _, hcm⟩ := h.2.1.len
  unfold maxLen at hcm
  subst hv
  have c1 : ∀ o, (w.alloc o).cell? ⟨g, 1, none⟩ = some (.slice ao N.l.length cp) := fun o => (h.alloc o).c1
  clear h
  by_cases h0 : i < 0
  · have t1 : decide (i < 0) = true := by rw [decide_eq_true_eq]; exact h0
    clear hi
    go_enter Try.func30, Try.ntmps30
    go_wp2
    refine bodyPost_ret (v := .tuple #[zeroMail.v, .int .i64 5]) (by simp [results, Try.results30, go_sem, MailV.v, zeroMail]) rfl ⟨rfl, (Below.refl _ _).alloc (Nat.le_refl _) _⟩
  · have t1 : decide (i < 0) = false := by rw [decide_eq_false_iff_not]; exact h0
    have t2 : decide ((N.l.length : Int) ≤ i) = true := by rw [decide_eq_true_eq]; omega
    clear hi
    go_enter Try.func30, Try.ntmps30
    go_wp2
    refine bodyPost_ret (v := .tuple #[zeroMail.v, .int .i64 5]) (by simp [results, Try.results30, go_sem, MailV.v, zeroMail]) rfl ⟨rfl, (Below.refl _ _).alloc (Nat.le_refl _) _⟩
set_option maxRecDepth 20000 in
set_option maxHeartbeats 1000000 in
theorem RefTake_go (g : Nat) (v : Value) (N : NetV) (i : Nat) (w : World) (h : RefAt w g v N) (hi : i < N.l.length) (hs : Sm N 1000000000000) :
    Calls Try.prog 30 #[.pointer (some ⟨g, 0, none⟩), .int .i64 i] w fun e w' => e = .returned (.tuple #[N.l[i].v, .int .i64 0]) ∧ ∃ v', RefAt w' g v' { N with taken := N.taken + 1, l := outL N.l i } ∧ Upd w w' g v v' := by
  obtain ⟨g', cap, hv, b1, b2, b3, b4⟩ := h.2.1.at_ (Nat.lt_of_le_of_lt (Nat.zero_le _) hi)
  unfold maxLen at b2
  subst hv
  obtain ⟨s1, s2, ⟨s3, s4⟩, s5, s6, s7⟩ := hs
  have c1 : ∀ o, (w.alloc o).cell? ⟨g, 1, none⟩ = some (.slice (some ⟨g', 0, none⟩) N.l.length cap) := fun o => (h.alloc o).c1
  obtain ⟨r0, r1, r2, r3⟩ := rows_get N.l i hi
  have d0 : ∀ o, (w.alloc o).cell? ⟨g', i * 4, none⟩ = some (.int .i64 N.l[i].id) := fun o => (h.alloc o).2.1.cell _ _ r0
  have d1 : ∀ o, (w.alloc o).cell? ⟨g', i * 4 + 1, none⟩ = some (.int .i64 N.l[i].frm) := fun o => (h.alloc o).2.1.cell _ _ r1
  have d2 : ∀ o, (w.alloc o).cell? ⟨g', i * 4 + 2, none⟩ = some (.int .i64 N.l[i].to) := fun o => (h.alloc o).2.1.cell _ _ r2
  have d3 : ∀ o, (w.alloc o).cell? ⟨g', i * 4 + 3, none⟩ = some (.string N.l[i].data) := fun o => (h.alloc o).2.1.cell _ _ r3
  have HO := Kp.mk (fun o1 o2 => RefOut_any g _ N i _ ((h.alloc o1).alloc o2) hi s7)
  have hgz := h.lt
  have HRK : Kp (∀ k, blk (.slice (some ⟨g', 0, none⟩) N.l.length cap) = some k → k < w.heap.size) := ⟨h.2.1.lt⟩
  have t1 : decide ((i : Int) < 0) = false := by rw [decide_eq_false_iff_not]; omega
  have t2 : decide ((N.l.length : Int) ≤ (i : Int)) = false := by rw [decide_eq_false_iff_not]; omega
  have t3 : decide (N.l.length ≤ i) = false := by rw [decide_eq_false_iff_not]; omega
  have i1 : (0 : Int) ≤ (i : Int) := by omega
  have i2 : (i : Int) < (N.l.length : Int) := by omega
  clear h r0 r1 r2 r3
  generalize N.l[i] = m at d0 d1 d2 d3
  obtain ⟨mi, mf, mt, md⟩ := m
  go_enter Try.func30, Try.ntmps30
  go_wp2_with fail
  refine (HO.out _ _).mono ?_
  rintro e w1 ⟨rfl, v', k1, k2⟩
  have hB : Kp (w1.heap[w.heap.size]? = some (.cells #[.int .i64 0, .int .i64 0, .int .i64 0, .string ⟨#[]⟩] 70 (0, 0)) ∧ w1.heap[w.heap.size + 1]? = some (.cells #[.int .i64 mi, .int .i64 mf, .int .i64 mt, .string md] 70 (0, 0))) := by
    refine ⟨?_, ?_⟩
    · rw [k2.keep (by simp; omega) (by omega) (fun e => by have := HRK.out _ e; omega)]
      exact heap_first w _ _
    · rw [k2.keep (by simp) (by omega) (fun e => by have := HRK.out _ e; omega)]
      exact heap_second w _ _
  obtain ⟨⟨m0, m1, m2, m3⟩, m4⟩ := cells4 hB.out.1
  obtain ⟨⟨n0, n1, n2, n3⟩, n4⟩ := cells4 hB.out.2
  have K2 : Kp (Upd w w1 g (.slice (some ⟨g', 0, none⟩) N.l.length cap) v') := ⟨(Upd.of_below (((Below.refl _ _).alloc (Nat.le_refl _) _).alloc (by simp) _) _ _).trans k2⟩
  have K3 : Kp (∀ k, blk v' = some k → k ≠ w.heap.size) := ⟨fun k hk e => by
    rcases k2.2.2.2.2.2 k hk with h1 | h1
    · have := HRK.out _ h1; omega
    · simp at h1; omega⟩
  have q5 : w1.cell? ⟨g, 5, none⟩ = some (.int .i64 N.taken) := k1.c5
  have q5f := k1.free 5
  have K1 := Kp.mk (k1.set5 (N.taken + 1))
  clear k1 k2 c1 d0 d1 d2 d3
  go_wp2
  refine bodyPost_ret (v := .tuple #[.agg #[.int .i64 mi, .int .i64 mf, .int .i64 mt, .string md], .int .i64 0]) (by simp [results, Try.results30, go_sem, m0, m1, m2, m3]) rfl ⟨rfl, v', K1.out.far4 _ (by omega) K3.out _ _ _ _, (K2.out.trans (Upd.set _ _ _ _ _)).far4 _ (Nat.le_refl _) _ _ _ _⟩
theorem RefTake_any (g : Nat) (v : Value) (N : NetV) (i : Int) (w : World) (h : RefAt w g v N) (hs : Sm N 1000000000000) :
    Calls Try.prog 30 #[.pointer (some ⟨g, 0, none⟩), .int .i64 i] w fun e w' => e = .returned (.tuple #[(takeV N i).1.1.v, .int .i64 (takeV N i).1.2]) ∧ ∃ v', RefAt w' g v' (takeV N i).2 ∧ Upd w w' g v v' := by
  rcases place N i with hi | ⟨k, rfl, hk⟩
  · refine (RefTake_no g v N i w h hi).mono fun e w' ⟨he, hb⟩ => ?_
    unfold takeV
    rw [if_pos hi]
    exact ⟨he, v, h.below hb, Upd.of_below hb g v⟩
  · refine (RefTake_go g v N k w h hk hs).mono fun e w' ⟨he, hv⟩ => ?_
    unfold takeV
    rw [if_neg (by omega)]
    simp only [Int.toNat_natCast, List.getD_eq_getElem?_getD, List.getElem?_eq_getElem hk, Option.getD_some]
    exact ⟨he, hv⟩
set_option maxRecDepth 20000 in
theorem RefLose_any (g : Nat) (v : Value) (N : NetV) (i : Int) (w : World) (h : RefAt w g v N) (hs : Sm N 1000000000000) :
    Calls Try.prog 31 #[.pointer (some ⟨g, 0, none⟩), .int .i64 i] w fun e w' => e = .returned (.int .i64 (loseV N i).1) ∧ ∃ v', RefAt w' g v' (loseV N i).2 ∧ Upd w w' g v v' := by
  obtain ⟨ao, cp, hv, _, hcm⟩ := h.2.1.len
  unfold maxLen at hcm
  have c1 := h.c1
  rcases place N i with hi | ⟨k, rfl, hk⟩
  · have hV : Kp (loseV N i = (5, N)) := ⟨by unfold loseV; rw [if_pos hi]⟩
    have H := Kp.mk h
    subst hv
    clear h
    by_cases h0 : i < 0
    · have t1 : decide (i < 0) = true := by rw [decide_eq_true_eq]; exact h0
      clear hi
      go_enter Try.func31, Try.ntmps31
      go_wp2
      go_ret
      exact ⟨by rw [hV.out]; rfl, _, by rw [hV.out]; exact H.out, Upd.refl _ _ _⟩
    · have t1 : decide (i < 0) = false := by rw [decide_eq_false_iff_not]; exact h0
      have t2 : decide ((N.l.length : Int) ≤ i) = true := by rw [decide_eq_true_eq]; omega
      clear hi
      go_enter Try.func31, Try.ntmps31
      go_wp2
      go_ret
      exact ⟨by rw [hV.out]; rfl, _, by rw [hV.out]; exact H.out, Upd.refl _ _ _⟩
  · have hV : Kp (loseV N k = (0, { N with lost := N.lost + 1, l := outL N.l k })) := ⟨by unfold loseV; rw [if_neg (by omega), Int.toNat_natCast]⟩
    obtain ⟨s1, s2, s3, ⟨s4, s5⟩, s6, s7⟩ := hs
    have HO := Kp.mk (RefOut_any g v N k _ h hk s7)
    subst hv
    have t1 : decide ((k : Int) < 0) = false := by rw [decide_eq_false_iff_not]; omega
    have t2 : decide ((N.l.length : Int) ≤ (k : Int)) = false := by rw [decide_eq_false_iff_not]; omega
    have t3 : decide (N.l.length ≤ k) = false := by rw [decide_eq_false_iff_not]; omega
    clear h
    go_enter Try.func31, Try.ntmps31
    go_wp2_with fail
    refine HO.out.mono ?_
    rintro e w1 ⟨rfl, v', k1, k2⟩
    have q6 : w1.cell? ⟨g, 6, none⟩ = some (.int .i64 N.lost) := k1.c6
    have q6f := k1.free 6
    have K1 := Kp.mk (k1.set6 (N.lost + 1))
    have K2 := Kp.mk (k2.trans (Upd.set w1 g 6 (.int .i64 (N.lost + 1)) v'))
    clear k1 k2 c1
    go_wp2
    go_ret
    exact ⟨by rw [hV.out]; rfl, v', by rw [hV.out]; exact K1.out, K2.out⟩
end Go.Proofs.Ytdhpnhdokkhnlaa
