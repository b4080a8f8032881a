/- Write, Sync, Trim, Wipe, Read, Fail, Up, Capacity, Copy. -/
import Derived.Test.YtimfchjjdifbiaaDiskAct
namespace Go.Proofs.Ytimfchjjdifbiaa
open Go.RowKit
set_option linter.unusedVariables false

theorem setT_id (D : DiskV) (t : Nat) : setT D t (D.tp t) = D := by
  unfold setT
  cases D
  simp only [DiskV.mk.injEq, and_true]
  funext k
  split
  · rename_i e; rw [e]
  · rfl
theorem nothing_torn (g : Nat) (D : DiskV) (k : Nat) (W : World) (D' : DiskV) (h : DiskAt W g D') (ht : D'.tp = D.tp) :
    Calls Try.prog 43 #[.pointer (some ⟨g, k * 2, none⟩)] W fun e W' => e = .returned (.tuple #[]) ∧ DiskAt W' g (setT D' k (id (D.tp k))) ∧ Chg W W' g :=
  (nothing_any _ W).mono fun e W' ⟨he, hw⟩ => by
    subst hw
    refine ⟨he, ?_, Chg.refl _ _⟩
    rw [← ht]
    show DiskAt W g (setT D' k (D'.tp k))
    rw [setT_id]
    exact h
def syncV (D : DiskV) (t : Int) : Int × DiskV := opV D t 0 (fun x => ⟨x.b, x.b.size⟩) id
def wipeV (D : DiskV) (t : Int) : Int × DiskV := opV D t 0 (fun _ => ⟨⟨#[]⟩, 0⟩) id
def trimV (D : DiskV) (t n : Int) : Int × DiskV := opV D t (trimMay (D.tp t.toNat).b n) (fun x => ⟨x.b.extract 0 n.toNat, n.toNat⟩) id
def writeV (D : DiskV) (t : Int) (s : ByteArray) : Int × DiskV := opV D t (writeMay D (D.tp t.toNat).b s) (fun x => ⟨x.b ++ s, x.firm⟩) (fun x => ⟨x.b ++ s, x.firm⟩)
theorem Sync_any (g : Nat) (D : DiskV) (t : Int) (w : World) (h : DiskAt w g D) (ho : Ok D) :
    Calls Try.prog 25 #[.pointer (some ⟨g, 0, none⟩), .int .i64 t] w fun e w' => e = .returned (.int .i64 (syncV D t).1) ∧ DiskAt w' g (syncV D t).2 ∧ Chg w w' g := by
  have HA := Kp.mk (act_sync g D t 0 (fun x => ⟨x.b, x.b.size⟩) id w h ho (fun k _ hk => always_any _ _ _)
    (fun k _ hk _ W D' _ hD' htp => by have := sync_any g k D' W hD' hk (by rw [htp]; exact ho.most k hk); rw [htp] at this; exact this)
    (fun k _ hk _ W D' _ hD' htp => nothing_torn g D k W D' hD' htp))
  clear h ho
  go_enter Try.func25, Try.ntmps25
  go_wp2_with fail
  refine HA.out.mono ?_
  rintro e w1 ⟨rfl, h1, c1⟩
  have H := Kp.mk (And.intro h1 c1)
  clear h1 c1
  go_wp2
  go_ret
  exact ⟨rfl, H.out.1, H.out.2⟩
theorem Wipe_any (g : Nat) (D : DiskV) (t : Int) (w : World) (h : DiskAt w g D) (ho : Ok D) :
    Calls Try.prog 27 #[.pointer (some ⟨g, 0, none⟩), .int .i64 t] w fun e w' => e = .returned (.int .i64 (wipeV D t).1) ∧ DiskAt w' g (wipeV D t).2 ∧ Chg w w' g := by
  have HA := Kp.mk (act_wipe g D t 0 (fun _ => ⟨⟨#[]⟩, 0⟩) id w h ho (fun k _ hk => always_any _ _ _)
    (fun k _ hk _ W D' _ hD' htp => wipe_do g k D' W hD' hk)
    (fun k _ hk _ W D' _ hD' htp => nothing_torn g D k W D' hD' htp))
  clear h ho
  go_enter Try.func27, Try.ntmps27
  go_wp2_with fail
  refine HA.out.mono ?_
  rintro e w1 ⟨rfl, h1, c1⟩
  have H := Kp.mk (And.intro h1 c1)
  clear h1 c1
  go_wp2
  go_ret
  exact ⟨rfl, H.out.1, H.out.2⟩
theorem chg_cell {w W : World} {g B : Nat} {v : Value} (h : Chg w W g) (hc : w.cell? ⟨B, 0, none⟩ = some v) (hne : B ≠ g) : W.cell? ⟨B, 0, none⟩ = some v :=
  (World.cell?_of_block (a := ⟨B, 0, none⟩) (h.block B (World.block_lt_of_cell? _ _ hc) (fun e => hne (Option.some.inj e)))).trans hc
theorem Trim_any (g : Nat) (D : DiskV) (t n : Int) (w : World) (h : DiskAt w g D) (ho : Ok D) :
    Calls Try.prog 26 #[.pointer (some ⟨g, 0, none⟩), .int .i64 t, .int .i64 n] w fun e w' => e = .returned (.int .i64 (trimV D t n).1) ∧ DiskAt w' g (trimV D t n).2 ∧ Chg w w' g := by
  have hg := h.lt
  have hc0 : (w.alloc (.cells #[.int .i64 n] 3)).cell? ⟨w.heap.size, 0, none⟩ = some (.int .i64 n) := by rw [cell_of_row _ _ _ _ _ _ (heap_alloc_new w _)]; rfl
  have HA := Kp.mk (act_trim g D t (trimMay (D.tp t.toNat).b n) w.heap.size (fun x => ⟨x.b.extract 0 n.toNat, n.toNat⟩) id (w.alloc (.cells #[.int .i64 n] 3)) (h.alloc _) ho
    (fun k hk1 hk => by subst hk1; rw [Int.toNat_natCast]; exact trim_may _ _ n _ _ hc0 (ho.most k hk))
    (fun k hk1 hk hm W D' hch hD' htp => by
      subst hk1
      rw [Int.toNat_natCast] at hm
      have hn : 0 ≤ n ∧ n ≤ ((D.tp k).b.size : Int) := by unfold trimMay at hm; split at hm <;> omega
      have hcw := chg_cell hch hc0 (by omega)
      have hnn : n = (n.toNat : Int) := by omega
      rw [hnn] at hcw
      have := trim_do g k w.heap.size D' n.toNat W hD' hk hcw (by rw [htp]; omega) (by rw [htp]; exact ho.most k hk)
      rw [htp] at this
      exact this)
    (fun k _ hk _ W D' _ hD' htp => nothing_torn g D k W D' hD' htp))
  clear h ho hc0
  go_enter Try.func26, Try.ntmps26
  go_wp2_with fail
  refine HA.out.mono ?_
  rintro e w1 ⟨rfl, h1, c1⟩
  have H := Kp.mk (And.intro h1 ((Chg.alloc w _ g).trans c1))
  clear h1 c1
  go_wp2
  go_ret
  exact ⟨rfl, H.out.1, H.out.2⟩
theorem Write_any (g : Nat) (D : DiskV) (t : Int) (s : ByteArray) (w : World) (h : DiskAt w g D) (ho : Ok D) (hs : s.size ≤ maxLen) :
    Calls Try.prog 23 #[.pointer (some ⟨g, 0, none⟩), .int .i64 t, .string s] w fun e w' => e = .returned (.int .i64 (writeV D t s).1) ∧ DiskAt w' g (writeV D t s).2 ∧ Chg w w' g := by
  have hg := h.lt
  have hb1 : ((w.alloc (.cells #[.pointer (some ⟨g, 0, none⟩)] 26)).alloc (.cells #[.string s] 9)).cell? ⟨w.heap.size + 1, 0, none⟩ = some (.string s) := by
    rw [cell_of_row _ _ _ _ _ _ (heap_alloc2_new w _ _)]; rfl
  have hb0 : ((w.alloc (.cells #[.pointer (some ⟨g, 0, none⟩)] 26)).alloc (.cells #[.string s] 9)).cell? ⟨w.heap.size, 0, none⟩ = some (.pointer (some ⟨g, 0, none⟩)) := by
    rw [cell_of_row _ _ _ _ _ _ (heap_alloc2_old w _ _)]; rfl
  have HA := Kp.mk (act_write g D t (writeMay D (D.tp t.toNat).b s) (w.heap.size + 1) w.heap.size (fun x => ⟨x.b ++ s, x.firm⟩) (fun x => ⟨x.b ++ s, x.firm⟩) _ ((h.alloc (.cells #[.pointer (some ⟨g, 0, none⟩)] 26)).alloc (.cells #[.string s] 9)) ho
    (fun k hk1 hk => by subst hk1; rw [Int.toNat_natCast]; exact write_may g D _ s _ _ _ _ ((h.alloc _).alloc _) ho hb1 hb0 hs (ho.most k hk))
    (fun k hk1 hk hm W D' hch hD' htp => by
      subst hk1
      rw [Int.toNat_natCast] at hm
      have hn : s.size ≤ 1048576 := by unfold writeMay at hm; split at hm <;> omega
      have := write_do g k (w.heap.size + 1) D' s W hD' hk (chg_cell hch hb1 (by omega)) hn (by rw [htp]; exact ho.most k hk)
      rw [htp] at this
      exact this)
    (fun k hk1 hk hm W D' hch hD' htp => by
      subst hk1
      rw [Int.toNat_natCast] at hm
      have hn : s.size ≤ 1048576 := by unfold writeMay at hm; split at hm <;> omega
      have := write_do g k (w.heap.size + 1) D' s W hD' hk (chg_cell hch hb1 (by omega)) hn (by rw [htp]; exact ho.most k hk)
      rw [htp] at this
      exact this))
  have hl : ∀ o1 o2, ((w.alloc o1).alloc o2).cell? ⟨w.heap.size, 0, none⟩ = (w.alloc o1).cell? ⟨w.heap.size, 0, none⟩ := fun o1 o2 => by
    rw [World.cell?_alloc_lt _ _ _ (by simp)]
  clear h ho hb1
  go_enter Try.func23, Try.ntmps23
  go_wp2_with fail
  refine HA.out.mono ?_
  rintro e w1 ⟨rfl, h1, c1⟩
  have H := Kp.mk (And.intro h1 (((Chg.alloc w _ g).trans (Chg.alloc _ _ g)).trans c1))
  clear h1 c1
  go_wp2
  go_ret
  exact ⟨rfl, H.out.1, H.out.2⟩
/-- What Read answers. -/
def readV (D : DiskV) (t : Int) : ByteArray × Int := if D.down = true then (⟨#[]⟩, 45) else if t < 0 ∨ 32 ≤ t then (⟨#[]⟩, 1) else ((D.tp t.toNat).b, 0)
set_option maxRecDepth 20000 in
theorem Read_any (g : Nat) (D : DiskV) (t : Int) (w : World) (h : DiskAt w g D) :
    Calls Try.prog 28 #[.pointer (some ⟨g, 0, none⟩), .int .i64 t] w fun e w' => e = .returned (.tuple #[.string (readV D t).1, .int .i64 (readV D t).2]) ∧ w = w' := by
  have k67 := h.c67
  by_cases hd : D.down = true
  · have hV : Kp (readV D t = (⟨#[]⟩, 45)) := ⟨by unfold readV; rw [if_pos hd]⟩
    rw [hd] at k67
    clear h hd
    go_enter Try.func28, Try.ntmps28
    go_wp2
    go_ret2
    exact ⟨by rw [hV.out] <;> rfl, rfl⟩
  · have hd' : D.down = false := by simpa using hd
    rw [hd'] at k67
    by_cases ht : t < 0 ∨ 32 ≤ t
    · have hV : Kp (readV D t = (⟨#[]⟩, 1)) := ⟨by unfold readV; rw [if_neg hd, if_pos ht]⟩
      clear h hd hd'
      by_cases h0 : t < 0
      · have p1 : decide (t < 0) = true := by rw [decide_eq_true_eq]; exact h0
        clear ht
        go_enter Try.func28, Try.ntmps28
        go_wp2
        go_ret2
        exact ⟨by rw [hV.out] <;> rfl, rfl⟩
      · have p1 : decide (t < 0) = false := by rw [decide_eq_false_iff_not]; exact h0
        have p2 : decide ((32 : Int) ≤ t) = true := by rw [decide_eq_true_eq]; omega
        clear ht
        go_enter Try.func28, Try.ntmps28
        go_wp2
        go_ret2
        exact ⟨by rw [hV.out] <;> rfl, rfl⟩
    · obtain ⟨k, rfl, hk⟩ : ∃ k : Nat, t = k ∧ k < 32 := ⟨t.toNat, by omega, by omega⟩
      have hV : Kp (readV D k = ((D.tp k).b, 0)) := ⟨by unfold readV; rw [if_neg hd, if_neg ht, Int.toNat_natCast]⟩
      have p1 : decide ((k : Int) < 0) = false := by rw [decide_eq_false_iff_not]; omega
      have p2 : decide ((32 : Int) ≤ (k : Int)) = false := by rw [decide_eq_false_iff_not]; omega
      have p2' : decide (32 ≤ k) = false := by rw [decide_eq_false_iff_not]; omega
      have kb := h.tb k hk
      have i1 : (0 : Int) ≤ (k : Int) := by omega
      have i2 : (k : Int) < 32 := by omega
      clear h hd hd' ht
      go_enter Try.func28, Try.ntmps28
      go_wp2
      go_ret2
      exact ⟨by rw [hV.out] <;> rfl, rfl⟩
/-- What Fail answers, and leaves. -/
def failV (D : DiskV) (n : Int) : Int × DiskV := if D.down = true then (45, D) else if n < 0 then (1, D) else (0, { D with counts := true, left := n })
theorem Fail_any (g : Nat) (D : DiskV) (n : Int) (w : World) (h : DiskAt w g D) :
    Calls Try.prog 24 #[.pointer (some ⟨g, 0, none⟩), .int .i64 n] w fun e w' => e = .returned (.int .i64 (failV D n).1) ∧ DiskAt w' g (failV D n).2 ∧ Chg w w' g := by
  have k67 := h.c67
  by_cases hd : D.down = true
  · have hV : Kp (failV D n = (45, D)) := ⟨by unfold failV; rw [if_pos hd]⟩
    rw [hd] at k67
    have H := Kp.mk h
    clear h hd
    go_enter Try.func24, Try.ntmps24
    go_wp2
    go_ret
    exact ⟨by rw [hV.out] <;> rfl, by rw [hV.out]; exact H.out, Chg.refl _ _⟩
  · have hd' : D.down = false := by simpa using hd
    rw [hd'] at k67
    by_cases h0 : n < 0
    · have hV : Kp (failV D n = (1, D)) := ⟨by unfold failV; rw [if_neg hd, if_pos h0]⟩
      have p1 : decide (n < 0) = true := by rw [decide_eq_true_eq]; exact h0
      have H := Kp.mk h
      clear h hd hd'
      go_enter Try.func24, Try.ntmps24
      go_wp2
      go_ret
      exact ⟨by rw [hV.out] <;> rfl, by rw [hV.out]; exact H.out, Chg.refl _ _⟩
    · have hV : Kp (failV D n = (0, { D with counts := true, left := n })) := ⟨by unfold failV; rw [if_neg hd, if_neg h0]⟩
      have p1 : decide (n < 0) = false := by rw [decide_eq_false_iff_not]; exact h0
      have k65 := h.c65
      have f65 := h.free 65
      have h1 := h.set_c true
      have k66 := h1.c66
      have f66 := h1.free 66
      have H := Kp.mk (h1.set_l n)
      clear h hd hd' h1
      go_enter Try.func24, Try.ntmps24
      go_wp2
      go_ret
      exact ⟨by rw [hV.out] <;> rfl, by rw [hV.out]; exact H.out, (Chg.set _ _ _ _).trans (Chg.set _ _ _ _)⟩
theorem Up_any (g : Nat) (D : DiskV) (w : World) (h : DiskAt w g D) :
    Calls Try.prog 12 #[.pointer (some ⟨g, 0, none⟩)] w fun e w' => e = .returned (.bool (!D.down)) ∧ w = w' := by
  have k67 := h.c67
  clear h
  generalize D.down = b at *
  go_enter Try.func12, Try.ntmps12
  go_wp2
  go_ret
  exact ⟨rfl, rfl⟩
theorem Capacity_any (g : Nat) (D : DiskV) (w : World) (h : DiskAt w g D) :
    Calls Try.prog 15 #[.pointer (some ⟨g, 0, none⟩)] w fun e w' => e = .returned (.int .i64 D.cap) ∧ w = w' := by
  have k64 := h.c64
  clear h
  go_enter Try.func15, Try.ntmps15
  go_wp2
  go_ret
  exact ⟨rfl, rfl⟩
end Go.Proofs.Ytimfchjjdifbiaa
