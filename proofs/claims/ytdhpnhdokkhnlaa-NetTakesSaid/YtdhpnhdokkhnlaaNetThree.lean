/- Package net: Send. -/
import Derived.Test.YtdhpnhdokkhnlaaNetTwo
namespace Go.Proofs.Ytdhpnhdokkhnlaa
open Go.RowKit
set_option linter.unusedVariables false

/-- A pointer in a block of its own. -/
def Box (w : World) (h g : Nat) : Prop := w.cell? ⟨h, 0, none⟩ = some (.pointer (some ⟨g, 0, none⟩))
theorem node_any (g h : Nat) (v : Value) (N : NetV) (i : Int) (w : World) (hb : Box w h g) (hn : NetAt w g v N) :
    Calls Try.prog 24 #[.int .i64 i, .pointer (some ⟨h, 0, none⟩)] w fun e w' => e = .returned (.bool (decide (0 ≤ i ∧ i < N.nodes))) ∧ w = w' := by
  have hc := hn.c4
  unfold Box at hb
  clear hn
  by_cases h0 : 0 ≤ i
  · have t1 : decide (0 ≤ i) = true := by rw [decide_eq_true_eq]; exact h0
    by_cases h1 : i < N.nodes
    · have hV : Kp (decide (0 ≤ i ∧ i < N.nodes) = true) := ⟨by rw [decide_eq_true_eq]; exact ⟨h0, h1⟩⟩
      have t2 : decide (i < N.nodes) = true := by rw [decide_eq_true_eq]; exact h1
      go_enter Try.func24, Try.ntmps24
      go_wp2
      go_ret
      first | exact ⟨rfl, rfl⟩ | exact ⟨by rw [hV.out]; rfl, rfl⟩
    · have hV : Kp (decide (0 ≤ i ∧ i < N.nodes) = false) := ⟨by rw [decide_eq_false_iff_not]; omega⟩
      have t2 : decide (i < N.nodes) = false := by rw [decide_eq_false_iff_not]; exact h1
      go_enter Try.func24, Try.ntmps24
      go_wp2
      go_ret
      first | exact ⟨rfl, rfl⟩ | exact ⟨by rw [hV.out]; rfl, rfl⟩
  · have hV : Kp (decide (0 ≤ i ∧ i < N.nodes) = false) := ⟨by rw [decide_eq_false_iff_not]; omega⟩
    have t1 : decide (0 ≤ i) = false := by rw [decide_eq_false_iff_not]; exact h0
    go_enter Try.func24, Try.ntmps24
    go_wp2
    go_ret
    first | exact ⟨rfl, rfl⟩ | exact ⟨by rw [hV.out]; rfl, rfl⟩
/-- What Send answers, and leaves. -/
def sendV (N : NetV) (f t : Int) (d : ByteArray) : (Int × Int) × NetV :=
  if ¬ (0 ≤ f ∧ f < N.nodes) ∨ ¬ (0 ≤ t ∧ t < N.nodes) ∨ f = t then ((0, 1), N)
  else if 262144 < d.size then ((0, 40), N)
  else if 256 ≤ N.l.length then ((0, 44), { N with sent := N.sent + 1, lost := N.lost + 1 })
  else ((N.last + 1, 0), { N with sent := N.sent + 1, last := N.last + 1, l := N.l ++ [⟨N.last + 1, f, t, d⟩] })
/-- All counts are small. -/
def Sm (N : NetV) (b : Int) : Prop := (0 ≤ N.sent ∧ N.sent ≤ b) ∧ (0 ≤ N.doubled ∧ N.doubled ≤ b) ∧ (0 ≤ N.taken ∧ N.taken ≤ b) ∧ (0 ≤ N.lost ∧ N.lost ≤ b) ∧ (0 ≤ N.last ∧ N.last ≤ b) ∧ N.l.length ≤ 256
set_option maxRecDepth 20000 in
set_option maxHeartbeats 1000000 in
theorem Send_no (g : Nat) (v : Value) (N : NetV) (f t : Int) (d : ByteArray) (w : World) (h : NetAt w g v N) (hd : d.size ≤ maxLen) (hno : (¬ (0 ≤ f ∧ f < N.nodes) ∨ ¬ (0 ≤ t ∧ t < N.nodes) ∨ f = t) ∨ 262144 < d.size) :
    Calls Try.prog 12 #[.pointer (some ⟨g, 0, none⟩), .int .i64 f, .int .i64 t, .string d] w fun e w' => e = .returned (.tuple #[.int .i64 0, .int .i64 (if ¬ (0 ≤ f ∧ f < N.nodes) ∨ ¬ (0 ≤ t ∧ t < N.nodes) ∨ f = t then 1 else 40)]) ∧ Below w.heap.size w w' := by
  unfold maxLen at hd
  have HA : Kp (∀ i, Calls Try.prog 24 #[.int .i64 i, .pointer (some ⟨w.heap.size, 0, none⟩)] (w.alloc (.cells #[.pointer (some ⟨g, 0, none⟩)] 25)) fun e w' => e = .returned (.bool (decide (0 ≤ i ∧ i < N.nodes))) ∧ (w.alloc (.cells #[.pointer (some ⟨g, 0, none⟩)] 25)) = w') := ⟨fun i =>
    node_any g w.heap.size v N i _ (by unfold Box World.cell?; rw [heap_alloc_new]; rfl) (h.alloc _)⟩
  clear h
  by_cases h1 : 0 ≤ f ∧ f < N.nodes
  · have k1 : decide (0 ≤ f ∧ f < N.nodes) = true := by rw [decide_eq_true_eq]; exact h1
    have A1 := Kp.mk (HA.out f)
    rw [k1] at A1
    by_cases h2 : 0 ≤ t ∧ t < N.nodes
    · have k2 : decide (0 ≤ t ∧ t < N.nodes) = true := by rw [decide_eq_true_eq]; exact h2
      have A2 := Kp.mk (HA.out t)
      rw [k2] at A2
      clear HA k1 k2
      by_cases h3 : f = t
      · have t1 : (f == t) = true := by rw [beq_iff_eq]; exact h3
        have hV : Kp ((if ¬ (0 ≤ f ∧ f < N.nodes) ∨ ¬ (0 ≤ t ∧ t < N.nodes) ∨ f = t then (1 : Int) else 40) = 1) := ⟨if_pos (.inr (.inr h3))⟩
        rw [hV.out]
        clear h1 h2 h3 hno hV
        go_enter Try.func12, Try.ntmps12
        go_wp2_with fail
        refine A1.out.mono ?_
        rintro e w' ⟨rfl, rfl⟩
        go_wp2_with fail
        refine A2.out.mono ?_
        rintro e w' ⟨rfl, rfl⟩
        go_wp2
        go_ret2
        exact ⟨rfl, (Below.refl _ _).alloc (Nat.le_refl _) _⟩
      · have t1 : (f == t) = false := by rw [beq_eq_false_iff_ne]; exact h3
        have hV : Kp ((if ¬ (0 ≤ f ∧ f < N.nodes) ∨ ¬ (0 ≤ t ∧ t < N.nodes) ∨ f = t then (1 : Int) else 40) = 40) := ⟨if_neg (by rintro (h | h | h); exact h h1; exact h h2; exact h3 h)⟩
        have hbig : 262144 < d.size := by
          rcases hno with h | h
          · exfalso
            rcases h with h | h | h
            · exact h h1
            · exact h h2
            · exact h3 h
          · exact h
        rw [hV.out]
        clear h1 h2 h3 hno hV
        go_enter Try.func12, Try.ntmps12
        go_wp2_with fail
        refine A1.out.mono ?_
        rintro e w' ⟨rfl, rfl⟩
        go_wp2_with fail
        refine A2.out.mono ?_
        rintro e w' ⟨rfl, rfl⟩
        go_wp2
        go_ret2
        exact ⟨rfl, (Below.refl _ _).alloc (Nat.le_refl _) _⟩
    · have k2 : decide (0 ≤ t ∧ t < N.nodes) = false := by rw [decide_eq_false_iff_not]; exact h2
      have A2 := Kp.mk (HA.out t)
      rw [k2] at A2
      have hV : Kp ((if ¬ (0 ≤ f ∧ f < N.nodes) ∨ ¬ (0 ≤ t ∧ t < N.nodes) ∨ f = t then (1 : Int) else 40) = 1) := ⟨if_pos (.inr (.inl h2))⟩
      rw [hV.out]
      clear HA k1 k2 h1 h2 hno hV
      go_enter Try.func12, Try.ntmps12
      go_wp2_with fail
      refine A1.out.mono ?_
      rintro e w' ⟨rfl, rfl⟩
      go_wp2_with fail
      refine A2.out.mono ?_
      rintro e w' ⟨rfl, rfl⟩
      go_wp2
      go_ret2
      exact ⟨rfl, (Below.refl _ _).alloc (Nat.le_refl _) _⟩
  · have k1 : decide (0 ≤ f ∧ f < N.nodes) = false := by rw [decide_eq_false_iff_not]; exact h1
    have A1 := Kp.mk (HA.out f)
    rw [k1] at A1
    have hV : Kp ((if ¬ (0 ≤ f ∧ f < N.nodes) ∨ ¬ (0 ≤ t ∧ t < N.nodes) ∨ f = t then (1 : Int) else 40) = 1) := ⟨if_pos (.inl h1)⟩
    rw [hV.out]
    clear HA k1 h1 hno hV
    go_enter Try.func12, Try.ntmps12
    go_wp2_with fail
    refine A1.out.mono ?_
    rintro e w' ⟨rfl, rfl⟩
    go_wp2
    go_ret2
    exact ⟨rfl, (Below.refl _ _).alloc (Nat.le_refl _) _⟩
set_option maxRecDepth 20000 in
set_option maxHeartbeats 1000000 in
theorem Send_go (g : Nat) (v : Value) (N : NetV) (f t : Int) (d : ByteArray) (w : World) (h : NetAt w g v N) (hs : Sm N 1000000000000) (h1 : 0 ≤ f ∧ f < N.nodes) (h2 : 0 ≤ t ∧ t < N.nodes) (h3 : f ≠ t) (hd : d.size ≤ 262144) :
    Calls Try.prog 12 #[.pointer (some ⟨g, 0, none⟩), .int .i64 f, .int .i64 t, .string d] w fun e w' => e = .returned (.tuple #[.int .i64 (sendV N f t d).1.1, .int .i64 (sendV N f t d).1.2]) ∧ ∃ v', NetAt w' g v' (sendV N f t d).2 ∧ Upd w w' g v v' := by
  have hV0 : sendV N f t d = if 256 ≤ N.l.length then ((0, 44), { N with sent := N.sent + 1, lost := N.lost + 1 }) else ((N.last + 1, 0), { N with sent := N.sent + 1, last := N.last + 1, l := N.l ++ [⟨N.last + 1, f, t, d⟩] }) := by
    unfold sendV
    rw [if_neg (by rintro (k | k | k); exact k h1; exact k h2; exact h3 k), if_neg (by omega)]
  have HA : Kp (∀ i, Calls Try.prog 24 #[.int .i64 i, .pointer (some ⟨w.heap.size, 0, none⟩)] (w.alloc (.cells #[.pointer (some ⟨g, 0, none⟩)] 25)) fun e w' => e = .returned (.bool (decide (0 ≤ i ∧ i < N.nodes))) ∧ (w.alloc (.cells #[.pointer (some ⟨g, 0, none⟩)] 25)) = w') := ⟨fun i =>
    node_any g w.heap.size v N i _ (by unfold Box World.cell?; rw [heap_alloc_new]; rfl) (h.alloc _)⟩
  have k1 : decide (0 ≤ f ∧ f < N.nodes) = true := by rw [decide_eq_true_eq]; exact h1
  have A1 := Kp.mk (HA.out f)
  rw [k1] at A1
  have k2 : decide (0 ≤ t ∧ t < N.nodes) = true := by rw [decide_eq_true_eq]; exact h2
  have A2 := Kp.mk (HA.out t)
  rw [k2] at A2
  have t1 : (f == t) = false := by rw [beq_eq_false_iff_ne]; exact h3
  have HV := Kp.mk hV0
  clear HA k1 k2 h1 h2 h3 hV0
  obtain ⟨⟨s1, s2⟩, s3, s4, ⟨s5, s6⟩, ⟨s7, s8⟩, s9⟩ := hs
  obtain ⟨ao, cap, hv, c2, c3⟩ := h.2.1.len
  unfold maxLen at c3
  have hgz := h.lt
  have c0 : ∀ o, (w.alloc o).cell? ⟨g, 0, none⟩ = some (.int .i64 N.sent) := fun o => (h.alloc o).c0
  have f0 : ∀ o, (w.alloc o).frozen? ⟨g, 0, none⟩ = false := fun o => (h.alloc o).free 0
  have hS := h.set0 (N.sent + 1)
  have hc5 : ∀ o, ((w.setCell ⟨g, 0, none⟩ (.int .i64 (N.sent + 1))).alloc o).cell? ⟨g, 5, none⟩ = some (.slice ao N.l.length cap) := fun o => by rw [← hv]; exact (hS.alloc o).c5
  have hc3 : ∀ o, ((w.setCell ⟨g, 0, none⟩ (.int .i64 (N.sent + 1))).alloc o).cell? ⟨g, 3, none⟩ = some (.int .i64 N.lost) := fun o => (hS.alloc o).c3
  have hf3 : ∀ o, ((w.setCell ⟨g, 0, none⟩ (.int .i64 (N.sent + 1))).alloc o).frozen? ⟨g, 3, none⟩ = false := fun o => (hS.alloc o).free 3
  have HS := Kp.mk hS
  by_cases h4 : 256 ≤ N.l.length
  · have hV : Kp (sendV N f t d = ((0, 44), { N with sent := N.sent + 1, lost := N.lost + 1 })) := ⟨by rw [HV.out, if_pos h4]⟩
    have HE : Kp (∀ o, NetAt (((w.setCell ⟨g, 0, none⟩ (.int .i64 (N.sent + 1))).setCell ⟨g, 3, none⟩ (.int .i64 (N.lost + 1))).alloc o) g v { N with sent := N.sent + 1, lost := N.lost + 1 } ∧ Upd w (((w.setCell ⟨g, 0, none⟩ (.int .i64 (N.sent + 1))).setCell ⟨g, 3, none⟩ (.int .i64 (N.lost + 1))).alloc o) g v v) :=
      ⟨fun o => ⟨(hS.set3 _).alloc o, ((Upd.set _ _ _ _ _).trans (Upd.set _ _ _ _ _)).trans (Upd.of_below ((Below.refl _ _).alloc (Nat.le_refl _) _) _ _)⟩⟩
    have t2 : decide ((256 : Int) ≤ (N.l.length : Int)) = true := by rw [decide_eq_true_eq]; omega
    clear h hS HV hv
    generalize N.l.length = n at *
    go_enter Try.func12, Try.ntmps12
    go_wp2_with fail
    refine A1.out.mono ?_
    rintro e w' ⟨rfl, rfl⟩
    go_wp2_with fail
    refine A2.out.mono ?_
    rintro e w' ⟨rfl, rfl⟩
    go_wp2
    go_ret2
    exact ⟨by rw [hV.out]; rfl, v, by rw [hV.out]; exact (HE.out _).1, (HE.out _).2⟩
  · have hV : Kp (sendV N f t d = ((N.last + 1, 0), { N with sent := N.sent + 1, last := N.last + 1, l := N.l ++ [⟨N.last + 1, f, t, d⟩] })) := ⟨by rw [HV.out, if_neg h4]⟩
    have HP := Kp.mk (fun o => put_any g v { N with sent := N.sent + 1 } ⟨0, f, t, d⟩ _ (hS.alloc o) (by show N.l.length ≤ _; omega) s7 s8)
    have HU : Kp (∀ o, Upd w ((w.setCell ⟨g, 0, none⟩ (.int .i64 (N.sent + 1))).alloc o) g v v) := ⟨fun o => (Upd.set _ _ _ _ _).trans (Upd.of_below ((Below.refl _ _).alloc (Nat.le_refl _) _) _ _)⟩
    have t2 : decide ((256 : Int) ≤ (N.l.length : Int)) = false := by rw [decide_eq_false_iff_not]; omega
    clear h hS HV hv
    generalize N.l.length = n at *
    go_enter Try.func12, Try.ntmps12
    go_wp2_with fail
    refine A1.out.mono ?_
    rintro e w' ⟨rfl, rfl⟩
    go_wp2_with fail
    refine A2.out.mono ?_
    rintro e w' ⟨rfl, rfl⟩
    go_wp2_with fail
    refine (HP.out _).mono ?_
    rintro e w' ⟨rfl, v', p1, p2⟩
    have P1 := Kp.mk p1
    have P2 := Kp.mk p2
    clear p1 p2
    go_wp2
    go_ret2
    exact ⟨by rw [hV.out]; rfl, v', by rw [hV.out]; exact P1.out, (HU.out _).trans P2.out⟩
theorem Send_any (g : Nat) (v : Value) (N : NetV) (f t : Int) (d : ByteArray) (w : World) (h : NetAt w g v N) (hs : Sm N 1000000000000) (hd : d.size ≤ maxLen) :
    Calls Try.prog 12 #[.pointer (some ⟨g, 0, none⟩), .int .i64 f, .int .i64 t, .string d] w fun e w' => e = .returned (.tuple #[.int .i64 (sendV N f t d).1.1, .int .i64 (sendV N f t d).1.2]) ∧ ∃ v', NetAt w' g v' (sendV N f t d).2 ∧ Upd w w' g v v' := by
  by_cases hno : (¬ (0 ≤ f ∧ f < N.nodes) ∨ ¬ (0 ≤ t ∧ t < N.nodes) ∨ f = t) ∨ 262144 < d.size
  · refine (Send_no g v N f t d w h hd hno).mono fun e w' ⟨he, hb⟩ => ?_
    have hV : sendV N f t d = ((0, if ¬ (0 ≤ f ∧ f < N.nodes) ∨ ¬ (0 ≤ t ∧ t < N.nodes) ∨ f = t then 1 else 40), N) := by
      unfold sendV
      by_cases k : ¬ (0 ≤ f ∧ f < N.nodes) ∨ ¬ (0 ≤ t ∧ t < N.nodes) ∨ f = t
      · rw [if_pos k, if_pos k]
      · rw [if_neg k, if_neg k, if_pos (by rcases hno with k' | k'; exact absurd k' k; exact k')]
    rw [hV]
    exact ⟨he, v, h.below hb, Upd.of_below hb g v⟩
  · refine Send_go g v N f t d w h hs ?_ ?_ ?_ ?_
    · exact Decidable.byContradiction fun k => hno (.inl (.inl k))
    · exact Decidable.byContradiction fun k => hno (.inl (.inr (.inl k)))
    · exact fun k => hno (.inl (.inr (.inr k)))
    · exact Decidable.byContradiction fun k => hno (.inr (by omega))
end Go.Proofs.Ytdhpnhdokkhnlaa
