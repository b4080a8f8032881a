/- The head that counts: the walk of Load. -/
import Derived.Test.YtpfoekfbcpinlaaGreatDoorDiskTapes
import Derived.Test.YtpfoekfbcpinlaaGreatDoorDiskLoad
import Derived.LoopN
namespace Go.Proofs.YtpfoekfbcpinlaaGreatDoor
open Go.RowKit
set_option linter.unusedVariables false
attribute [local go_sem ↓] Go.wp_at_zero Go.wp_at_succ

namespace Hd
/-- Which of two tapes' heads counts. -/
def loadV (x y : HV × Bool) : HV × Nat × Bool := if x.1.gen = 0 ∧ y.1.gen = 0 then (HV.zero, 0, false) else if y.1.gen ≤ x.1.gen then (x.1, 0, true) else (y.1, 1, true)
def diskV (D : DiskV) : HV × Nat × Bool := loadV (ofV (D.tp 0).b.data.toList) (ofV (D.tp 1).b.data.toList)
end Hd
theorem cells8 {W : World} {b : Nat} {c0 c1 c2 c3 c4 c5 c6 c7 : Value} {T : TypeId} (h : W.heap[b]? = some (.cells #[c0, c1, c2, c3, c4, c5, c6, c7] T (0, 0))) : (W.cell? ⟨b, 0, none⟩ = some c0 ∧ W.cell? ⟨b, 1, none⟩ = some c1 ∧ W.cell? ⟨b, 2, none⟩ = some c2 ∧ W.cell? ⟨b, 3, none⟩ = some c3) ∧ W.cell? ⟨b, 4, none⟩ = some c4 ∧ W.cell? ⟨b, 5, none⟩ = some c5 ∧ W.cell? ⟨b, 6, none⟩ = some c6 ∧ W.cell? ⟨b, 7, none⟩ = some c7 := by
  refine ⟨⟨?_, ?_, ?_, ?_⟩, ?_, ?_, ?_, ?_⟩ <;> simp [World.cell?, h]
theorem free8 {W : World} {b : Nat} {cs : Array Value} {T : TypeId} (h : W.heap[b]? = some (.cells cs T (0, 0))) (j : Nat) : W.frozen? ⟨b, j, none⟩ = false := by
  simp [World.frozen?, h]
theorem box8a {w : World} {b : Nat} {c0 c1 c2 c3 c4 c5 c6 c7 : Value} {T : TypeId} (h : w.heap[b]? = some (.cells #[c0, c1, c2, c3, c4, c5, c6, c7] T (0, 0))) (v0 v1 v2 v3 : Value) : ((((w.setCell ⟨b, 0, none⟩ v0).setCell ⟨b, 1, none⟩ v1).setCell ⟨b, 2, none⟩ v2).setCell ⟨b, 3, none⟩ v3).heap[b]? = some (.cells #[v0, v1, v2, v3, c4, c5, c6, c7] T (0, 0)) :=
  heap_setCell_same _ b 3 _ _ _ (heap_setCell_same _ b 2 _ _ _ (heap_setCell_same _ b 1 _ _ _ (heap_setCell_same _ b 0 _ _ _ h)))
theorem box8b {w : World} {b : Nat} {c0 c1 c2 c3 c4 c5 c6 c7 : Value} {T : TypeId} (h : w.heap[b]? = some (.cells #[c0, c1, c2, c3, c4, c5, c6, c7] T (0, 0))) (v0 v1 v2 v3 : Value) : ((((w.setCell ⟨b, 4, none⟩ v0).setCell ⟨b, 5, none⟩ v1).setCell ⟨b, 6, none⟩ v2).setCell ⟨b, 7, none⟩ v3).heap[b]? = some (.cells #[c0, c1, c2, c3, v0, v1, v2, v3] T (0, 0)) :=
  heap_setCell_same _ b 7 _ _ _ (heap_setCell_same _ b 6 _ _ _ (heap_setCell_same _ b 5 _ _ _ (heap_setCell_same _ b 4 _ _ _ h)))
theorem set4' {B b i j k l : Nat} {w0 w : World} (h : Below B w0 w) (hb : B ≤ b) (v0 v1 v2 v3 : Value) : Below B w0 ((((w.setCell ⟨b, i, none⟩ v0).setCell ⟨b, j, none⟩ v1).setCell ⟨b, k, none⟩ v2).setCell ⟨b, l, none⟩ v3) :=
  (((h.setCell (p := ⟨b, i, none⟩) hb _).setCell (p := ⟨b, j, none⟩) hb _).setCell (p := ⟨b, k, none⟩) hb _).setCell (p := ⟨b, l, none⟩) hb _
theorem HdOwn.set4' {B b i j k l : Nat} {w : World} {q : HdV} (h : HdOwn B w q) (hb : b < B) (v0 v1 v2 v3 : Value) : HdOwn B ((((w.setCell ⟨b, i, none⟩ v0).setCell ⟨b, j, none⟩ v1).setCell ⟨b, k, none⟩ v2).setCell ⟨b, l, none⟩ v3) q :=
  (((h.set ⟨b, i, none⟩ v0 hb).set ⟨b, j, none⟩ v1 hb).set ⟨b, k, none⟩ v2 hb).set ⟨b, l, none⟩ v3 hb
theorem Load_down (g : Nat) (D : DiskV) (w : World) (h : DiskAt w g D) (hd : D.down = true) :
    Calls Tryz.prog 93 #[.pointer (some ⟨g, 0, none⟩)] w fun e w' => e = .returned (.tuple #[HdV.zero.v, .int .i64 0, .bool false, .int .i64 45]) ∧ Below w.heap.size w w' := by
  have HR := Kp.mk (fun W (hW : Below w.heap.size w W) => dRead_any g D 0 W (h.below hW))
  unfold readV at HR
  rw [if_pos hd] at HR
  clear h hd
  have hb2 : Below w.heap.size w ((w.alloc (.cells #[.int .i64 0, .int .i64 0, .int .i64 0, .slice none 0 0] 38)).alloc (.cells #[.int .i64 0, .int .i64 0, .int .i64 0, .slice none 0 0, .int .i64 0, .int .i64 0, .int .i64 0, .slice none 0 0] 135)) := ((Below.refl _ _).alloc (Nat.le_refl _) _).alloc (by simp) _
  have hx := heap_first w (.cells #[.int .i64 0, .int .i64 0, .int .i64 0, .slice none 0 0] 38) (.cells #[.int .i64 0, .int .i64 0, .int .i64 0, .slice none 0 0, .int .i64 0, .int .i64 0, .int .i64 0, .slice none 0 0] 135)
  have HB := Kp.mk hb2
  have HX := Kp.mk hx
  clear hb2 hx
  unfold HdV.zero HdV.v
  go_enter Tryz.func93, Tryz.ntmps93
  go_wp2
  generalize (w.alloc (.cells #[.int .i64 0, .int .i64 0, .int .i64 0, .slice none 0 0] 38)).alloc (.cells #[.int .i64 0, .int .i64 0, .int .i64 0, .slice none 0 0, .int .i64 0, .int .i64 0, .int .i64 0, .slice none 0 0] 135) = W at *
  obtain ⟨m0, m1, m2, m3⟩ := cells4 HX.out
  obtain ⟨n0, n1, n2, n3⟩ := free4 HX.out
  refine wp_loop_rounds 1 ?_
  rw [rounds_succ]
  go_wp2_with fail
  refine (HR.out _ HB.out).mono ?_
  rintro e w' ⟨rfl, rfl⟩
  go_wp2
  refine bodyPost_ret (v := .tuple #[.agg #[.int .i64 0, .int .i64 0, .int .i64 0, .slice none 0 0], .int .i64 0, .bool false, .int .i64 45]) (by simp [results, Tryz.results93, go_sem, m0, m1, m2, m3]) rfl ?_
  exact ⟨rfl, set4 HB.out (Nat.le_refl _) _ _ _ _⟩
set_option maxRecDepth 20000 in
set_option maxHeartbeats 4000000 in
theorem Load_up (g : Nat) (D : DiskV) (w : World) (h : DiskAt w g D) (ho : Ok D) (ht : Tab w) (hd : D.down = false) :
    Calls Tryz.prog 93 #[.pointer (some ⟨g, 0, none⟩)] w fun e w' => ∃ q : HdV, e = .returned (.tuple #[q.v, .int .i64 ((Hd.diskV D).2.1 : Nat), .bool (Hd.diskV D).2.2, .int .i64 0]) ∧ q.hv = (Hd.diskV D).1 ∧ HdOwn w.heap.size w' q ∧ Below w.heap.size w w' := by
  have HR0 := Kp.mk (fun W (hW : Below w.heap.size w W) => dRead_any g D 0 W (h.below hW))
  have HR1 := Kp.mk (fun W (hW : Below w.heap.size w W) => dRead_any g D 1 W (h.below hW))
  have e0 : readV D 0 = ((D.tp 0).b, 0) := by unfold readV; rw [if_neg (by simp [hd]), if_neg (by omega)]; rfl
  have e1 : readV D 1 = ((D.tp 1).b, 0) := by unfold readV; rw [if_neg (by simp [hd]), if_neg (by omega)]; rfl
  rw [e0] at HR0
  rw [e1] at HR1
  have z0 := ho.most 0 (by decide)
  have z1 := ho.most 1 (by decide)
  have HO0 := Kp.mk (fun W (hW : Below w.heap.size w W) => Of_any (D.tp 0).b W (by omega) (ht.below hW))
  have HO1 := Kp.mk (fun W (hW : Below w.heap.size w W) => Of_any (D.tp 1).b W (by omega) (ht.below hW))
  unfold Hd.diskV
  generalize Hd.ofV (D.tp 0).b.data.toList = x at HO0 ⊢
  generalize Hd.ofV (D.tp 1).b.data.toList = y at HO1 ⊢
  generalize (D.tp 0).b = s0 at HO0 HR0
  generalize (D.tp 1).b = s1 at HO1 HR1
  clear e0 e1 z0 z1 h ho ht hd
  have hb2 : Below w.heap.size w ((w.alloc (.cells #[.int .i64 0, .int .i64 0, .int .i64 0, .slice none 0 0] 38)).alloc (.cells #[.int .i64 0, .int .i64 0, .int .i64 0, .slice none 0 0, .int .i64 0, .int .i64 0, .int .i64 0, .slice none 0 0] 135)) := ((Below.refl _ _).alloc (Nat.le_refl _) _).alloc (by simp) _
  have hx := heap_first w (.cells #[.int .i64 0, .int .i64 0, .int .i64 0, .slice none 0 0] 38) (.cells #[.int .i64 0, .int .i64 0, .int .i64 0, .slice none 0 0, .int .i64 0, .int .i64 0, .int .i64 0, .slice none 0 0] 135)
  have hy := heap_second w (.cells #[.int .i64 0, .int .i64 0, .int .i64 0, .slice none 0 0] 38) (.cells #[.int .i64 0, .int .i64 0, .int .i64 0, .slice none 0 0, .int .i64 0, .int .i64 0, .int .i64 0, .slice none 0 0] 135)
  have hz : ((w.alloc (.cells #[.int .i64 0, .int .i64 0, .int .i64 0, .slice none 0 0] 38)).alloc (.cells #[.int .i64 0, .int .i64 0, .int .i64 0, .slice none 0 0, .int .i64 0, .int .i64 0, .int .i64 0, .slice none 0 0] 135)).heap.size = w.heap.size + 2 := by simp
  have HB := Kp.mk hb2
  have HX := Kp.mk hx
  have HY := Kp.mk hy
  have HZ := Kp.mk hz
  clear hb2 hx hy hz
  go_enter Tryz.func93, Tryz.ntmps93
  go_wp2
  generalize (w.alloc (.cells #[.int .i64 0, .int .i64 0, .int .i64 0, .slice none 0 0] 38)).alloc (.cells #[.int .i64 0, .int .i64 0, .int .i64 0, .slice none 0 0, .int .i64 0, .int .i64 0, .int .i64 0, .slice none 0 0] 135) = W at *
  refine wp_loop_rounds 3 ?_
  rw [rounds_succ]
  go_wp2_with fail
  refine (HR0.out _ HB.out).mono ?_
  rintro e w' ⟨rfl, rfl⟩
  go_wp2_with fail
  refine (HO0.out _ HB.out).mono ?_
  rintro e w3 ⟨⟨ga, ba, sa, loa, lla, lca, lfa⟩, rfl, hqa, oa, b3⟩
  unfold HdV.v
  simp only []
  have hx3 := (b3.block _ (by rw [HZ.out]; omega)).trans HX.out
  have hy3 := (b3.block _ (by rw [HZ.out]; omega)).trans HY.out
  obtain ⟨⟨a0, a1, a2, a3⟩, -⟩ := cells8 hy3
  obtain ⟨f0, f1, f2, f3⟩ := free4 hy3
  have HB4 := Kp.mk (set4' (b := w.heap.size + 1) (i := 0) (j := 1) (k := 2) (l := 3) (HB.out.trans (b3.mono HB.out.size)) (by omega) (.int .i64 ga) (.int .i64 ba) (.int .i64 sa) (.slice loa lla lca))
  have HX4 := Kp.mk ((set4' (b := w.heap.size + 1) (i := 0) (j := 1) (k := 2) (l := 3) (B := w.heap.size + 1) (Below.refl _ w3) (by omega) (.int .i64 ga) (.int .i64 ba) (.int .i64 sa) (.slice loa lla lca)).block w.heap.size (by omega) |>.trans hx3)
  have HY4 := Kp.mk (box8a hy3 (.int .i64 ga) (.int .i64 ba) (.int .i64 sa) (.slice loa lla lca))
  have HA4 := Kp.mk (oa.set4' (b := w.heap.size + 1) (i := 0) (j := 1) (k := 2) (l := 3) (by rw [HZ.out]; omega) (.int .i64 ga) (.int .i64 ba) (.int .i64 sa) (.slice loa lla lca))
  have HZ4 : Kp (w.heap.size + 2 ≤ ((((w3.setCell ⟨w.heap.size + 1, 0, none⟩ (.int .i64 ga)).setCell ⟨w.heap.size + 1, 1, none⟩ (.int .i64 ba)).setCell ⟨w.heap.size + 1, 2, none⟩ (.int .i64 sa)).setCell ⟨w.heap.size + 1, 3, none⟩ (.slice loa lla lca)).heap.size) := ⟨by have := b3.size; have := HZ.out; simp; omega⟩
  have HQA := Kp.mk hqa
  clear hx3 hy3 oa b3 HX HY HB hqa HO0 HR0
  go_wp2
  rw [rounds_succ]
  generalize (((w3.setCell ⟨w.heap.size + 1, 0, none⟩ (.int .i64 ga)).setCell ⟨w.heap.size + 1, 1, none⟩ (.int .i64 ba)).setCell ⟨w.heap.size + 1, 2, none⟩ (.int .i64 sa)).setCell ⟨w.heap.size + 1, 3, none⟩ (.slice loa lla lca) = w4 at *
  clear a0 a1 a2 a3 f0 f1 f2 f3
  go_wp2_with fail
  refine (HR1.out _ HB4.out).mono ?_
  rintro e w' ⟨rfl, rfl⟩
  go_wp2_with fail
  refine (HO1.out _ HB4.out).mono ?_
  rintro e w5 ⟨⟨gb, bb, sb, lob, llb, lcb, lfb⟩, rfl, hqb, ob, b5⟩
  unfold HdV.v
  simp only []
  have hx5 := (b5.block _ (by have := HZ4.out; omega)).trans HX4.out
  have hy5 := (b5.block _ (by have := HZ4.out; omega)).trans HY4.out
  obtain ⟨-, a0, a1, a2, a3⟩ := cells8 hy5
  have f0 := free8 hy5 4
  have f1 := free8 hy5 5
  have f2 := free8 hy5 6
  have f3 := free8 hy5 7
  have HB6 := Kp.mk (set4' (b := w.heap.size + 1) (i := 4) (j := 5) (k := 6) (l := 7) (HB4.out.trans (b5.mono HB4.out.size)) (by omega) (.int .i64 gb) (.int .i64 bb) (.int .i64 sb) (.slice lob llb lcb))
  have HX6 := Kp.mk ((set4' (b := w.heap.size + 1) (i := 4) (j := 5) (k := 6) (l := 7) (B := w.heap.size + 1) (Below.refl _ w5) (by omega) (.int .i64 gb) (.int .i64 bb) (.int .i64 sb) (.slice lob llb lcb)).block w.heap.size (by omega) |>.trans hx5)
  have HY6 := Kp.mk (box8b hy5 (.int .i64 gb) (.int .i64 bb) (.int .i64 sb) (.slice lob llb lcb))
  have HA6 := Kp.mk ((HA4.out.below b5).set4' (b := w.heap.size + 1) (i := 4) (j := 5) (k := 6) (l := 7) (by rw [HZ.out]; omega) (.int .i64 gb) (.int .i64 bb) (.int .i64 sb) (.slice lob llb lcb))
  have HE6 := Kp.mk (ob.set4' (b := w.heap.size + 1) (i := 4) (j := 5) (k := 6) (l := 7) (by have := HZ4.out; omega) (.int .i64 gb) (.int .i64 bb) (.int .i64 sb) (.slice lob llb lcb))
  have HZ6 : Kp (w.heap.size + 2 ≤ ((((w5.setCell ⟨w.heap.size + 1, 4, none⟩ (.int .i64 gb)).setCell ⟨w.heap.size + 1, 5, none⟩ (.int .i64 bb)).setCell ⟨w.heap.size + 1, 6, none⟩ (.int .i64 sb)).setCell ⟨w.heap.size + 1, 7, none⟩ (.slice lob llb lcb)).heap.size) := ⟨by have := b5.size; have := HZ4.out; simp; omega⟩
  have HQB := Kp.mk hqb
  clear hx5 hy5 ob b5 HX4 HY4 HB4 hqb HO1 HR1 HA4
  go_wp2
  rw [rounds_succ]
  generalize (((w5.setCell ⟨w.heap.size + 1, 4, none⟩ (.int .i64 gb)).setCell ⟨w.heap.size + 1, 5, none⟩ (.int .i64 bb)).setCell ⟨w.heap.size + 1, 6, none⟩ (.int .i64 sb)).setCell ⟨w.heap.size + 1, 7, none⟩ (.slice lob llb lcb) = w6 at *
  clear a0 a1 a2 a3 f0 f1 f2 f3
  obtain ⟨⟨a0, a1, a2, a3⟩, a4, a5, a6, a7⟩ := cells8 HY6.out
  obtain ⟨m0, m1, m2, m3⟩ := cells4 HX6.out
  obtain ⟨n0, n1, n2, n3⟩ := free4 HX6.out
  have HVz : Kp ((ga = 0 ∧ gb = 0) → Hd.loadV x y = (Hd.HV.zero, 0, false)) := ⟨fun h => by unfold Hd.loadV; rw [← HQA.out, ← HQB.out]; exact if_pos h⟩
  have HVa : Kp ((¬ (ga = 0 ∧ gb = 0) ∧ gb ≤ ga) → Hd.loadV x y = (x.1, 0, true)) := ⟨fun h => by unfold Hd.loadV; rw [← HQA.out, ← HQB.out]; exact (if_neg h.1).trans (if_pos h.2)⟩
  have HVb : Kp ((¬ (ga = 0 ∧ gb = 0) ∧ ¬ gb ≤ ga) → Hd.loadV x y = (y.1, 1, true)) := ⟨fun h => by unfold Hd.loadV; rw [← HQA.out, ← HQB.out]; exact (if_neg h.1).trans (if_neg h.2)⟩
  have HOA : Kp (HdOwn (w.heap.size + 1) w6 ⟨ga, ba, sa, loa, lla, lca, lfa⟩) := ⟨HA6.out.mono (by rw [HZ.out]; omega)⟩
  have HOB : Kp (HdOwn (w.heap.size + 1) w6 ⟨gb, bb, sb, lob, llb, lcb, lfb⟩) := ⟨HE6.out.mono (by have := HZ4.out; omega)⟩
  have HFin : Kp (∀ (v0 v1 v2 v3 : Value) (o1 o2 : Obj), (((((((w6.setCell ⟨w.heap.size, 0, none⟩ v0).setCell ⟨w.heap.size, 1, none⟩ v1).setCell ⟨w.heap.size, 2, none⟩ v2).setCell ⟨w.heap.size, 3, none⟩ v3).alloc o1).alloc o2).drew.cell? ⟨w.heap.size, 0, none⟩ = some v0 ∧ ((((((w6.setCell ⟨w.heap.size, 0, none⟩ v0).setCell ⟨w.heap.size, 1, none⟩ v1).setCell ⟨w.heap.size, 2, none⟩ v2).setCell ⟨w.heap.size, 3, none⟩ v3).alloc o1).alloc o2).drew.cell? ⟨w.heap.size, 1, none⟩ = some v1 ∧ ((((((w6.setCell ⟨w.heap.size, 0, none⟩ v0).setCell ⟨w.heap.size, 1, none⟩ v1).setCell ⟨w.heap.size, 2, none⟩ v2).setCell ⟨w.heap.size, 3, none⟩ v3).alloc o1).alloc o2).drew.cell? ⟨w.heap.size, 2, none⟩ = some v2 ∧ ((((((w6.setCell ⟨w.heap.size, 0, none⟩ v0).setCell ⟨w.heap.size, 1, none⟩ v1).setCell ⟨w.heap.size, 2, none⟩ v2).setCell ⟨w.heap.size, 3, none⟩ v3).alloc o1).alloc o2).drew.cell? ⟨w.heap.size, 3, none⟩ = some v3) ∧
      Below w.heap.size w ((((((w6.setCell ⟨w.heap.size, 0, none⟩ v0).setCell ⟨w.heap.size, 1, none⟩ v1).setCell ⟨w.heap.size, 2, none⟩ v2).setCell ⟨w.heap.size, 3, none⟩ v3).alloc o1).alloc o2).drew ∧
      ∀ q, HdOwn (w.heap.size + 1) w6 q → HdOwn w.heap.size ((((((w6.setCell ⟨w.heap.size, 0, none⟩ v0).setCell ⟨w.heap.size, 1, none⟩ v1).setCell ⟨w.heap.size, 2, none⟩ v2).setCell ⟨w.heap.size, 3, none⟩ v3).alloc o1).alloc o2).drew q) := ⟨fun v0 v1 v2 v3 o1 o2 => by
    have hsz := HZ6.out
    have hb := set4 HB6.out (Nat.le_refl _) v0 v1 v2 v3
    have hx := box4 HX6.out v0 v1 v2 v3
    have hs : ((((w6.setCell ⟨w.heap.size, 0, none⟩ v0).setCell ⟨w.heap.size, 1, none⟩ v1).setCell ⟨w.heap.size, 2, none⟩ v2).setCell ⟨w.heap.size, 3, none⟩ v3).heap.size = w6.heap.size := by simp
    have ho : ∀ q, HdOwn (w.heap.size + 1) w6 q → HdOwn (w.heap.size + 1) ((((w6.setCell ⟨w.heap.size, 0, none⟩ v0).setCell ⟨w.heap.size, 1, none⟩ v1).setCell ⟨w.heap.size, 2, none⟩ v2).setCell ⟨w.heap.size, 3, none⟩ v3) q := fun q hq => hq.set4' (by omega) _ _ _ _
    generalize (((w6.setCell ⟨w.heap.size, 0, none⟩ v0).setCell ⟨w.heap.size, 1, none⟩ v1).setCell ⟨w.heap.size, 2, none⟩ v2).setCell ⟨w.heap.size, 3, none⟩ v3 = Z at hb hx hs ho ⊢
    have hbb : Below Z.heap.size Z ((Z.alloc o1).alloc o2).drew := (((Below.refl _ _).alloc (Nat.le_refl _) o1).alloc (by simp) o2).drew
    exact ⟨cells4 ((hbb.block _ (by omega)).trans hx), hb.trans (hbb.mono (by omega)), fun q hq => ((ho q hq).mono (by omega)).below hbb⟩⟩
  have HW : Kp ((ga = 0 ∧ gb = 0) ∨ (ga = 0 ∧ ¬ gb = 0 ∧ gb ≤ ga) ∨ (ga = 0 ∧ ¬ gb = 0 ∧ ¬ gb ≤ ga) ∨ (¬ ga = 0 ∧ gb ≤ ga) ∨ (¬ ga = 0 ∧ ¬ gb ≤ ga)) := ⟨by omega⟩
  have l1 : w.heap.size + 1 < w6.heap.size := by have := HZ6.out; omega
  have l0 : w.heap.size < w6.heap.size := by omega
  go_wp2
  go_region_held3 (fun w' => w'.cell? ⟨w.heap.size + 1, 0, none⟩ = some (.int .i64 ga) ∧ w'.cell? ⟨w.heap.size + 1, 1, none⟩ = some (.int .i64 ba) ∧ w'.cell? ⟨w.heap.size + 1, 2, none⟩ = some (.int .i64 sa) ∧ w'.cell? ⟨w.heap.size + 1, 3, none⟩ = some (.slice loa lla lca) ∧ w'.cell? ⟨w.heap.size + 1, 4, none⟩ = some (.int .i64 gb) ∧ w'.cell? ⟨w.heap.size + 1, 5, none⟩ = some (.int .i64 bb) ∧ w'.cell? ⟨w.heap.size + 1, 6, none⟩ = some (.int .i64 sb) ∧ w'.cell? ⟨w.heap.size + 1, 7, none⟩ = some (.slice lob llb lcb)) (go_keep) (fail)
  · rcases HW.out with ⟨h1, h2⟩ | ⟨h1, h2, h3⟩ | ⟨h1, h2, h3⟩ | ⟨h1, h3⟩ | ⟨h1, h3⟩
    · have t1 : (ga == 0) = true := by rw [beq_iff_eq]; exact h1
      have t2 : (gb == 0) = true := by rw [beq_iff_eq]; exact h2
      have H1 := Kp.mk h1
      have H2 := Kp.mk h2
      clear h1 h2
      go_wp2
      all_goals obtain ⟨⟨z0, z1, z2, z3⟩, zb, zo⟩ := HFin.out (.int .i64 0) (.int .i64 0) (.int .i64 0) (.slice none 0 0) (.cells #[.int .i64 ga, .int .i64 ba, .int .i64 sa, .slice loa lla lca] 38) (.cells #[.int .i64 gb, .int .i64 bb, .int .i64 sb, .slice lob llb lcb] 38)
      all_goals refine bodyPost_ret (v := .tuple #[.agg #[.int .i64 0, .int .i64 0, .int .i64 0, .slice none 0 0], .int .i64 0, .bool false, .int .i64 0]) (by simp [results, Tryz.results93, go_sem, z0, z1, z2, z3]) rfl ⟨HdV.zero, ?_, ?_, HdOwn.zero _ _, zb⟩
      all_goals rw [HVz.out ⟨H1.out, H2.out⟩]
      all_goals first | rfl | exact rfl
    · have t1 : (ga == 0) = true := by rw [beq_iff_eq]; exact h1
      have t2 : (gb == 0) = false := by rw [beq_eq_false_iff_ne]; exact h2
      have t3 : decide (gb ≤ ga) = true := decide_eq_true (by omega)
      have H1 := Kp.mk h1
      have H2 := Kp.mk h2
      have H3 := Kp.mk h3
      clear h1 h2 h3
      go_wp2
      all_goals obtain ⟨⟨z0, z1, z2, z3⟩, zb, zo⟩ := HFin.out (.int .i64 ga) (.int .i64 ba) (.int .i64 sa) (.slice loa lla lca) (.cells #[.int .i64 ga, .int .i64 ba, .int .i64 sa, .slice loa lla lca] 38) (.cells #[.int .i64 gb, .int .i64 bb, .int .i64 sb, .slice lob llb lcb] 38)
      all_goals refine bodyPost_ret (v := .tuple #[.agg #[.int .i64 ga, .int .i64 ba, .int .i64 sa, .slice loa lla lca], .int .i64 0, .bool true, .int .i64 0]) (by simp [results, Tryz.results93, go_sem, z0, z1, z2, z3]) rfl ⟨⟨ga, ba, sa, loa, lla, lca, lfa⟩, ?_, ?_, zo _ HOA.out, zb⟩
      all_goals rw [HVa.out ⟨fun h => H2.out h.2, by have := H3.out; omega⟩]
      all_goals first | rfl | exact HQA.out
    · have t1 : (ga == 0) = true := by rw [beq_iff_eq]; exact h1
      have t2 : (gb == 0) = false := by rw [beq_eq_false_iff_ne]; exact h2
      have t3 : decide (gb ≤ ga) = false := decide_eq_false (by omega)
      have H1 := Kp.mk h1
      have H2 := Kp.mk h2
      have H3 := Kp.mk h3
      clear h1 h2 h3
      go_wp2
      all_goals obtain ⟨⟨z0, z1, z2, z3⟩, zb, zo⟩ := HFin.out (.int .i64 gb) (.int .i64 bb) (.int .i64 sb) (.slice lob llb lcb) (.cells #[.int .i64 ga, .int .i64 ba, .int .i64 sa, .slice loa lla lca] 38) (.cells #[.int .i64 gb, .int .i64 bb, .int .i64 sb, .slice lob llb lcb] 38)
      all_goals refine bodyPost_ret (v := .tuple #[.agg #[.int .i64 gb, .int .i64 bb, .int .i64 sb, .slice lob llb lcb], .int .i64 1, .bool true, .int .i64 0]) (by simp [results, Tryz.results93, go_sem, z0, z1, z2, z3]) rfl ⟨⟨gb, bb, sb, lob, llb, lcb, lfb⟩, ?_, ?_, zo _ HOB.out, zb⟩
      all_goals rw [HVb.out ⟨fun h => H2.out h.2, by have := H3.out; omega⟩]
      all_goals first | rfl | exact HQB.out
    · have t1 : (ga == 0) = false := by rw [beq_eq_false_iff_ne]; exact h1
      have t2 : decide (gb ≤ ga) = true := decide_eq_true (by omega)
      have H1 := Kp.mk h1
      have H3 := Kp.mk h3
      clear h1 h3
      go_wp2
      all_goals obtain ⟨⟨z0, z1, z2, z3⟩, zb, zo⟩ := HFin.out (.int .i64 ga) (.int .i64 ba) (.int .i64 sa) (.slice loa lla lca) (.cells #[.int .i64 ga, .int .i64 ba, .int .i64 sa, .slice loa lla lca] 38) (.cells #[.int .i64 gb, .int .i64 bb, .int .i64 sb, .slice lob llb lcb] 38)
      all_goals refine bodyPost_ret (v := .tuple #[.agg #[.int .i64 ga, .int .i64 ba, .int .i64 sa, .slice loa lla lca], .int .i64 0, .bool true, .int .i64 0]) (by simp [results, Tryz.results93, go_sem, z0, z1, z2, z3]) rfl ⟨⟨ga, ba, sa, loa, lla, lca, lfa⟩, ?_, ?_, zo _ HOA.out, zb⟩
      all_goals rw [HVa.out ⟨fun h => H1.out h.1, by have := H3.out; omega⟩]
      all_goals first | rfl | exact HQA.out
    · have t1 : (ga == 0) = false := by rw [beq_eq_false_iff_ne]; exact h1
      have t2 : decide (gb ≤ ga) = false := decide_eq_false (by omega)
      have H1 := Kp.mk h1
      have H3 := Kp.mk h3
      clear h1 h3
      go_wp2
      all_goals obtain ⟨⟨z0, z1, z2, z3⟩, zb, zo⟩ := HFin.out (.int .i64 gb) (.int .i64 bb) (.int .i64 sb) (.slice lob llb lcb) (.cells #[.int .i64 ga, .int .i64 ba, .int .i64 sa, .slice loa lla lca] 38) (.cells #[.int .i64 gb, .int .i64 bb, .int .i64 sb, .slice lob llb lcb] 38)
      all_goals refine bodyPost_ret (v := .tuple #[.agg #[.int .i64 gb, .int .i64 bb, .int .i64 sb, .slice lob llb lcb], .int .i64 1, .bool true, .int .i64 0]) (by simp [results, Tryz.results93, go_sem, z0, z1, z2, z3]) rfl ⟨⟨gb, bb, sb, lob, llb, lcb, lfb⟩, ?_, ?_, zo _ HOB.out, zb⟩
      all_goals rw [HVb.out ⟨fun h => H1.out h.1, by have := H3.out; omega⟩]
      all_goals first | rfl | exact HQB.out
  · rcases HW.out with ⟨h1, h2⟩ | ⟨h1, h2, h3⟩ | ⟨h1, h2, h3⟩ | ⟨h1, h3⟩ | ⟨h1, h3⟩
    · have t1 : (ga == 0) = true := by rw [beq_iff_eq]; exact h1
      have t2 : (gb == 0) = true := by rw [beq_iff_eq]; exact h2
      have H1 := Kp.mk h1
      have H2 := Kp.mk h2
      clear h1 h2
      go_wp2
      all_goals obtain ⟨⟨z0, z1, z2, z3⟩, zb, zo⟩ := HFin.out (.int .i64 0) (.int .i64 0) (.int .i64 0) (.slice none 0 0) (.cells #[.int .i64 gb, .int .i64 bb, .int .i64 sb, .slice lob llb lcb] 38) (.cells #[.int .i64 ga, .int .i64 ba, .int .i64 sa, .slice loa lla lca] 38)
      all_goals refine bodyPost_ret (v := .tuple #[.agg #[.int .i64 0, .int .i64 0, .int .i64 0, .slice none 0 0], .int .i64 0, .bool false, .int .i64 0]) (by simp [results, Tryz.results93, go_sem, z0, z1, z2, z3]) rfl ⟨HdV.zero, ?_, ?_, HdOwn.zero _ _, zb⟩
      all_goals rw [HVz.out ⟨H1.out, H2.out⟩]
      all_goals first | rfl | exact rfl
    · have t1 : (ga == 0) = true := by rw [beq_iff_eq]; exact h1
      have t2 : (gb == 0) = false := by rw [beq_eq_false_iff_ne]; exact h2
      have t3 : decide (gb ≤ ga) = true := decide_eq_true (by omega)
      have H1 := Kp.mk h1
      have H2 := Kp.mk h2
      have H3 := Kp.mk h3
      clear h1 h2 h3
      go_wp2
      all_goals obtain ⟨⟨z0, z1, z2, z3⟩, zb, zo⟩ := HFin.out (.int .i64 ga) (.int .i64 ba) (.int .i64 sa) (.slice loa lla lca) (.cells #[.int .i64 gb, .int .i64 bb, .int .i64 sb, .slice lob llb lcb] 38) (.cells #[.int .i64 ga, .int .i64 ba, .int .i64 sa, .slice loa lla lca] 38)
      all_goals refine bodyPost_ret (v := .tuple #[.agg #[.int .i64 ga, .int .i64 ba, .int .i64 sa, .slice loa lla lca], .int .i64 0, .bool true, .int .i64 0]) (by simp [results, Tryz.results93, go_sem, z0, z1, z2, z3]) rfl ⟨⟨ga, ba, sa, loa, lla, lca, lfa⟩, ?_, ?_, zo _ HOA.out, zb⟩
      all_goals rw [HVa.out ⟨fun h => H2.out h.2, by have := H3.out; omega⟩]
      all_goals first | rfl | exact HQA.out
    · have t1 : (ga == 0) = true := by rw [beq_iff_eq]; exact h1
      have t2 : (gb == 0) = false := by rw [beq_eq_false_iff_ne]; exact h2
      have t3 : decide (gb ≤ ga) = false := decide_eq_false (by omega)
      have H1 := Kp.mk h1
      have H2 := Kp.mk h2
      have H3 := Kp.mk h3
      clear h1 h2 h3
      go_wp2
      all_goals obtain ⟨⟨z0, z1, z2, z3⟩, zb, zo⟩ := HFin.out (.int .i64 gb) (.int .i64 bb) (.int .i64 sb) (.slice lob llb lcb) (.cells #[.int .i64 gb, .int .i64 bb, .int .i64 sb, .slice lob llb lcb] 38) (.cells #[.int .i64 ga, .int .i64 ba, .int .i64 sa, .slice loa lla lca] 38)
      all_goals refine bodyPost_ret (v := .tuple #[.agg #[.int .i64 gb, .int .i64 bb, .int .i64 sb, .slice lob llb lcb], .int .i64 1, .bool true, .int .i64 0]) (by simp [results, Tryz.results93, go_sem, z0, z1, z2, z3]) rfl ⟨⟨gb, bb, sb, lob, llb, lcb, lfb⟩, ?_, ?_, zo _ HOB.out, zb⟩
      all_goals rw [HVb.out ⟨fun h => H2.out h.2, by have := H3.out; omega⟩]
      all_goals first | rfl | exact HQB.out
    · have t1 : (ga == 0) = false := by rw [beq_eq_false_iff_ne]; exact h1
      have t2 : decide (gb ≤ ga) = true := decide_eq_true (by omega)
      have H1 := Kp.mk h1
      have H3 := Kp.mk h3
      clear h1 h3
      go_wp2
      all_goals obtain ⟨⟨z0, z1, z2, z3⟩, zb, zo⟩ := HFin.out (.int .i64 ga) (.int .i64 ba) (.int .i64 sa) (.slice loa lla lca) (.cells #[.int .i64 gb, .int .i64 bb, .int .i64 sb, .slice lob llb lcb] 38) (.cells #[.int .i64 ga, .int .i64 ba, .int .i64 sa, .slice loa lla lca] 38)
      all_goals refine bodyPost_ret (v := .tuple #[.agg #[.int .i64 ga, .int .i64 ba, .int .i64 sa, .slice loa lla lca], .int .i64 0, .bool true, .int .i64 0]) (by simp [results, Tryz.results93, go_sem, z0, z1, z2, z3]) rfl ⟨⟨ga, ba, sa, loa, lla, lca, lfa⟩, ?_, ?_, zo _ HOA.out, zb⟩
      all_goals rw [HVa.out ⟨fun h => H1.out h.1, by have := H3.out; omega⟩]
      all_goals first | rfl | exact HQA.out
    · have t1 : (ga == 0) = false := by rw [beq_eq_false_iff_ne]; exact h1
      have t2 : decide (gb ≤ ga) = false := decide_eq_false (by omega)
      have H1 := Kp.mk h1
      have H3 := Kp.mk h3
      clear h1 h3
      go_wp2
      all_goals obtain ⟨⟨z0, z1, z2, z3⟩, zb, zo⟩ := HFin.out (.int .i64 gb) (.int .i64 bb) (.int .i64 sb) (.slice lob llb lcb) (.cells #[.int .i64 gb, .int .i64 bb, .int .i64 sb, .slice lob llb lcb] 38) (.cells #[.int .i64 ga, .int .i64 ba, .int .i64 sa, .slice loa lla lca] 38)
      all_goals refine bodyPost_ret (v := .tuple #[.agg #[.int .i64 gb, .int .i64 bb, .int .i64 sb, .slice lob llb lcb], .int .i64 1, .bool true, .int .i64 0]) (by simp [results, Tryz.results93, go_sem, z0, z1, z2, z3]) rfl ⟨⟨gb, bb, sb, lob, llb, lcb, lfb⟩, ?_, ?_, zo _ HOB.out, zb⟩
      all_goals rw [HVb.out ⟨fun h => H1.out h.1, by have := H3.out; omega⟩]
      all_goals first | rfl | exact HQB.out
end Go.Proofs.YtpfoekfbcpinlaaGreatDoor
