/- The head of a tape: the walk of Of. -/
import Derived.Test.YtjpkncfmionieaaDoorHeadDecode
namespace Go.Proofs.YtjpkncfmionieaaDoor
open Go.RowKit
set_option linter.unusedVariables false

namespace Hd
/-- The head of a tape's bytes. -/
def ofV (l : List UInt8) : HV × Bool := if (Fr.readL l).1 = 0 ∧ (Fr.readL l).2.1 = 3 then ((decV (Fr.readL l).2.2).1, decide ((decV (Fr.readL l).2.2).2 = 0)) else (HV.zero, false)
end Hd
theorem set4 {B b : Nat} {w0 w : World} (h : Below B w0 w) (hb : B ≤ b) (v0 v1 v2 v3 : Value) : Below B w0 ((((w.setCell ⟨b, 0, none⟩ v0).setCell ⟨b, 1, none⟩ v1).setCell ⟨b, 2, none⟩ v2).setCell ⟨b, 3, none⟩ v3) :=
  (((h.setCell (p := ⟨b, 0, none⟩) hb _).setCell (p := ⟨b, 1, none⟩) hb _).setCell (p := ⟨b, 2, none⟩) hb _).setCell (p := ⟨b, 3, none⟩) hb _
theorem free4 {W : World} {b : Nat} {cs : Array Value} {T : TypeId} (h : W.heap[b]? = some (.cells cs T (0, 0))) : W.frozen? ⟨b, 0, none⟩ = false ∧ W.frozen? ⟨b, 1, none⟩ = false ∧ W.frozen? ⟨b, 2, none⟩ = false ∧ W.frozen? ⟨b, 3, none⟩ = false := by
  refine ⟨?_, ?_, ?_, ?_⟩ <;> simp [World.frozen?, h]
theorem box4 {w : World} {b : Nat} {c0 c1 c2 c3 : Value} {T : TypeId} (h : w.heap[b]? = some (.cells #[c0, c1, c2, c3] T (0, 0))) (v0 v1 v2 v3 : Value) : ((((w.setCell ⟨b, 0, none⟩ v0).setCell ⟨b, 1, none⟩ v1).setCell ⟨b, 2, none⟩ v2).setCell ⟨b, 3, none⟩ v3).heap[b]? = some (.cells #[v0, v1, v2, v3] T (0, 0)) :=
  heap_setCell_same _ b 3 _ _ _ (heap_setCell_same _ b 2 _ _ _ (heap_setCell_same _ b 1 _ _ _ (heap_setCell_same _ b 0 _ _ _ h)))
theorem Of_no (s : ByteArray) (w : World) (hs : s.size ≤ 140737488351000) (ht : Tab w) (h : ¬ ((Fr.readL s.data.toList).1 = 0 ∧ (Fr.readL s.data.toList).2.1 = 3)) :
    Calls Tryd.prog 19 #[.string s] w fun e w' => e = .returned (.tuple #[HdV.zero.v, .bool false]) ∧ Below w.heap.size w w' := by
  have hx1 := heap_alloc_new w (.cells #[.int .i64 0, .int .i64 0, .int .i64 0, .slice none 0 0] 24)
  have hb1 : Below w.heap.size w (w.alloc (.cells #[.int .i64 0, .int .i64 0, .int .i64 0, .slice none 0 0] 24)) := (Below.refl _ _).alloc (Nat.le_refl _) _
  have hz1 : (w.alloc (.cells #[.int .i64 0, .int .i64 0, .int .i64 0, .slice none 0 0] 24)).heap.size = w.heap.size + 1 := by simp
  have HR := Kp.mk (fun W (hW : Below w.heap.size w W) => Read_any s 0 W hs (by decide) (by decide) (ht.below hW))
  have hrv : Fr.readV s 0 = Fr.readL s.data.toList := by unfold Fr.readV; rw [if_neg (by omega)]; rfl
  have hbad := Fr.readL_bad (l := s.data.toList)
  generalize Fr.readL s.data.toList = r at hrv h hbad
  obtain ⟨e0, k, p⟩ := r
  simp only [] at h hbad
  by_cases he : e0 = 0
  · subst he
    rw [Fr.readE_ok hrv] at HR
    have hk : ((k : Int) != 3) = true := by rw [bne_iff_ne]; intro e; exact h ⟨rfl, by omega⟩
    clear hrv h hbad
    unfold HdV.zero HdV.v
    have HX1 := Kp.mk hx1
    have HB1 := Kp.mk hb1
    have HZ1 := Kp.mk hz1
    clear hx1 hb1 hz1
    go_enter Tryd.func19, Tryd.ntmps19
    go_wp2_with fail
    refine (HR.out _ HB1.out).mono ?_
    rintro e w2 ⟨rfl, b2⟩
    have HX2 : Kp (∀ o, (w2.alloc o).heap[w.heap.size]? = some (.cells #[.int .i64 0, .int .i64 0, .int .i64 0, .slice none 0 0] 24 (0, 0))) := ⟨fun o => (((Below.refl w2.heap.size w2).alloc (Nat.le_refl _) o).block _ (by have := b2.size; have := HZ1.out; omega)).trans ((b2.block _ (by have := HZ1.out; omega)).trans HX1.out)⟩
    have HB2 : Kp (Below w.heap.size w w2) := ⟨HB1.out.trans (b2.mono HB1.out.size)⟩
    have hsz := HB2.out.size
    have m0 : ∀ o, (w2.alloc o).cell? ⟨w.heap.size, 0, none⟩ = some (.int .i64 0) := fun o => (cells4 (HX2.out o)).1
    have m1 : ∀ o, (w2.alloc o).cell? ⟨w.heap.size, 1, none⟩ = some (.int .i64 0) := fun o => (cells4 (HX2.out o)).2.1
    have m2 : ∀ o, (w2.alloc o).cell? ⟨w.heap.size, 2, none⟩ = some (.int .i64 0) := fun o => (cells4 (HX2.out o)).2.2.1
    have m3 : ∀ o, (w2.alloc o).cell? ⟨w.heap.size, 3, none⟩ = some (.slice none 0 0) := fun o => (cells4 (HX2.out o)).2.2.2
    have n0 : ∀ o, (w2.alloc o).frozen? ⟨w.heap.size, 0, none⟩ = false := fun o => (free4 (HX2.out o)).1
    have n1 : ∀ o, (w2.alloc o).frozen? ⟨w.heap.size, 1, none⟩ = false := fun o => (free4 (HX2.out o)).2.1
    have n2 : ∀ o, (w2.alloc o).frozen? ⟨w.heap.size, 2, none⟩ = false := fun o => (free4 (HX2.out o)).2.2.1
    have n3 : ∀ o, (w2.alloc o).frozen? ⟨w.heap.size, 3, none⟩ = false := fun o => (free4 (HX2.out o)).2.2.2
    clear b2
    go_wp2
    refine bodyPost_ret (v := .tuple #[.agg #[.int .i64 0, .int .i64 0, .int .i64 0, .slice none 0 0], .bool false]) (by simp [results, Tryd.results19, go_sem, m0, m1, m2, m3]) rfl ?_
    exact ⟨rfl, set4 (HB2.out.alloc hsz _) (Nat.le_refl _) _ _ _ _⟩
  · rw [Fr.readE_bad he (by rw [hrv]; exact Prod.ext rfl (hbad he))] at HR
    unfold Fr.badE at HR
    have he' : ((e0 : Int) != 0) = true := by rw [bne_iff_ne]; omega
    clear hrv h hbad
    unfold HdV.zero HdV.v
    have HX1 := Kp.mk hx1
    have HB1 := Kp.mk hb1
    have HZ1 := Kp.mk hz1
    clear hx1 hb1 hz1
    go_enter Tryd.func19, Tryd.ntmps19
    go_wp2_with fail
    refine (HR.out _ HB1.out).mono ?_
    rintro e w2 ⟨rfl, b2⟩
    have HX2 : Kp (∀ o, (w2.alloc o).heap[w.heap.size]? = some (.cells #[.int .i64 0, .int .i64 0, .int .i64 0, .slice none 0 0] 24 (0, 0))) := ⟨fun o => (((Below.refl w2.heap.size w2).alloc (Nat.le_refl _) o).block _ (by have := b2.size; have := HZ1.out; omega)).trans ((b2.block _ (by have := HZ1.out; omega)).trans HX1.out)⟩
    have HB2 : Kp (Below w.heap.size w w2) := ⟨HB1.out.trans (b2.mono HB1.out.size)⟩
    have hsz := HB2.out.size
    have m0 : ∀ o, (w2.alloc o).cell? ⟨w.heap.size, 0, none⟩ = some (.int .i64 0) := fun o => (cells4 (HX2.out o)).1
    have m1 : ∀ o, (w2.alloc o).cell? ⟨w.heap.size, 1, none⟩ = some (.int .i64 0) := fun o => (cells4 (HX2.out o)).2.1
    have m2 : ∀ o, (w2.alloc o).cell? ⟨w.heap.size, 2, none⟩ = some (.int .i64 0) := fun o => (cells4 (HX2.out o)).2.2.1
    have m3 : ∀ o, (w2.alloc o).cell? ⟨w.heap.size, 3, none⟩ = some (.slice none 0 0) := fun o => (cells4 (HX2.out o)).2.2.2
    have n0 : ∀ o, (w2.alloc o).frozen? ⟨w.heap.size, 0, none⟩ = false := fun o => (free4 (HX2.out o)).1
    have n1 : ∀ o, (w2.alloc o).frozen? ⟨w.heap.size, 1, none⟩ = false := fun o => (free4 (HX2.out o)).2.1
    have n2 : ∀ o, (w2.alloc o).frozen? ⟨w.heap.size, 2, none⟩ = false := fun o => (free4 (HX2.out o)).2.2.1
    have n3 : ∀ o, (w2.alloc o).frozen? ⟨w.heap.size, 3, none⟩ = false := fun o => (free4 (HX2.out o)).2.2.2
    clear b2
    go_wp2
    refine bodyPost_ret (v := .tuple #[.agg #[.int .i64 0, .int .i64 0, .int .i64 0, .slice none 0 0], .bool false]) (by simp [results, Tryd.results19, go_sem, m0, m1, m2, m3]) rfl ?_
    exact ⟨rfl, set4 (HB2.out.alloc hsz _) (Nat.le_refl _) _ _ _ _⟩
set_option maxHeartbeats 1000000 in
theorem Of_yes (s : ByteArray) (w : World) (hs : s.size ≤ 140737488351000) (ht : Tab w) (h : (Fr.readL s.data.toList).1 = 0 ∧ (Fr.readL s.data.toList).2.1 = 3) :
    Calls Tryd.prog 19 #[.string s] w fun e w' => ∃ q : HdV, e = .returned (.tuple #[q.v, .bool (decide ((Hd.decV (Fr.readL s.data.toList).2.2).2 = 0))]) ∧ q.hv = (Hd.decV (Fr.readL s.data.toList).2.2).1 ∧ HdOwn w.heap.size w' q ∧ Below w.heap.size w w' := by
  have hx1 := heap_alloc_new w (.cells #[.int .i64 0, .int .i64 0, .int .i64 0, .slice none 0 0] 24)
  have hb1 : Below w.heap.size w (w.alloc (.cells #[.int .i64 0, .int .i64 0, .int .i64 0, .slice none 0 0] 24)) := (Below.refl _ _).alloc (Nat.le_refl _) _
  have hz1 : (w.alloc (.cells #[.int .i64 0, .int .i64 0, .int .i64 0, .slice none 0 0] 24)).heap.size = w.heap.size + 1 := by simp
  have HR := Kp.mk (fun W (hW : Below w.heap.size w W) => Read_any s 0 W hs (by decide) (by decide) (ht.below hW))
  have hrv : Fr.readV s 0 = Fr.readL s.data.toList := by unfold Fr.readV; rw [if_neg (by omega)]; rfl
  have hln := Fr.readL_len h.1
  rw [data_len] at hln
  generalize Fr.readL s.data.toList = r at hrv h hln ⊢
  obtain ⟨e0, k, p⟩ := r
  simp only [] at h hln ⊢
  obtain ⟨rfl, rfl⟩ := h
  rw [Fr.readE_ok hrv] at HR
  have HD := Kp.mk (fun W => Decode_any (B p) W (by rw [B_size]; omega))
  rw [B_list] at HD
  generalize Hd.decV p = V at HD ⊢
  obtain ⟨h0, e0⟩ := V
  simp only [] at HD ⊢
  clear hrv hs ht
  have HX1 := Kp.mk hx1
  have HB1 := Kp.mk hb1
  have HZ1 := Kp.mk hz1
  clear hx1 hb1 hz1
  go_enter Tryd.func19, Tryd.ntmps19
  go_wp2_with fail
  refine (HR.out _ HB1.out).mono ?_
  rintro e w2 ⟨rfl, b2⟩
  have HX2 : Kp (∀ o, (w2.alloc o).heap[w.heap.size]? = some (.cells #[.int .i64 0, .int .i64 0, .int .i64 0, .slice none 0 0] 24 (0, 0))) := ⟨fun o => (((Below.refl w2.heap.size w2).alloc (Nat.le_refl _) o).block _ (by have := b2.size; have := HZ1.out; omega)).trans ((b2.block _ (by have := HZ1.out; omega)).trans HX1.out)⟩
  have HB2 : Kp (Below w.heap.size w w2) := ⟨HB1.out.trans (b2.mono HB1.out.size)⟩
  have hsz : w.heap.size < w2.heap.size := by have := b2.size; have := HZ1.out; omega
  clear b2
  go_wp2_with fail
  refine (HD.out _).mono ?_
  rintro e w3 ⟨q, rfl, hq, ho, b3⟩
  have HX3 : Kp (w3.heap[w.heap.size]? = some (.cells #[.int .i64 0, .int .i64 0, .int .i64 0, .slice none 0 0] 24 (0, 0))) := ⟨(b3.block _ (by simp; omega)).trans (HX2.out _)⟩
  have HB3 : Kp (Below w.heap.size w w3) := ⟨(HB2.out.alloc HB2.out.size _).trans (b3.mono (by simp; omega))⟩
  have HO3 : Kp (HdOwn (w.heap.size + 1) w3 q) := ⟨ho.mono (by simp; omega)⟩
  have HQ := Kp.mk hq
  have hsz3 : w.heap.size < w3.heap.size := by have := b3.size; simp at this; omega
  clear ho b3 hq
  obtain ⟨m0, m1, m2, m3⟩ := cells4 HX3.out
  obtain ⟨n0, n1, n2, n3⟩ := free4 HX3.out
  obtain ⟨gen, base, snap, lo, ll, lc, lf⟩ := q
  unfold HdV.v
  simp only []
  have HEB : Kp (((e0 : Int) == 0) = decide (e0 = 0)) := ⟨by rw [Bool.eq_iff_iff]; simp⟩
  have hbx := (Below.heap_alloc _ (.cells #[.int .i64 gen, .int .i64 base, .int .i64 snap, .slice lo ll lc] 24) w.heap.size (by simp; omega)).trans (box4 HX3.out (.int .i64 gen) (.int .i64 base) (.int .i64 snap) (.slice lo ll lc))
  have HZ := Kp.mk (cells4 hbx)
  clear hbx
  go_wp2
  obtain ⟨z0, z1, z2, z3⟩ := HZ.out
  refine bodyPost_ret (v := .tuple #[.agg #[.int .i64 gen, .int .i64 base, .int .i64 snap, .slice lo ll lc], .bool ((e0 : Int) == 0)]) (by simp [results, Tryd.results19, go_sem, z0, z1, z2, z3]) rfl ?_
  rw [HEB.out]
  refine ⟨⟨gen, base, snap, lo, ll, lc, lf⟩, rfl, HQ.out, ?_, (set4 HB3.out (Nat.le_refl _) _ _ _ _).alloc (by simp; omega) _⟩
  have ha : ∀ (W : World) (i : Nat) (u : Value), HdOwn (w.heap.size + 1) W ⟨gen, base, snap, lo, ll, lc, lf⟩ → HdOwn (w.heap.size + 1) (W.setCell ⟨w.heap.size, i, none⟩ u) ⟨gen, base, snap, lo, ll, lc, lf⟩ := fun W i u h => h.set _ _ (by show w.heap.size < w.heap.size + 1; omega)
  exact ((ha _ _ _ (ha _ _ _ (ha _ _ _ (ha _ _ _ HO3.out)))).mono (by omega)).below ((Below.refl _ _).alloc (Nat.le_refl _) _)
theorem Of_any (s : ByteArray) (w : World) (hs : s.size ≤ 140737488351000) (ht : Tab w) :
    Calls Tryd.prog 19 #[.string s] w fun e w' => ∃ q : HdV, e = .returned (.tuple #[q.v, .bool (Hd.ofV s.data.toList).2]) ∧ q.hv = (Hd.ofV s.data.toList).1 ∧ HdOwn w.heap.size w' q ∧ Below w.heap.size w w' := by
  unfold Hd.ofV
  by_cases h : (Fr.readL s.data.toList).1 = 0 ∧ (Fr.readL s.data.toList).2.1 = 3
  · rw [if_pos h]
    simp only []
    exact Of_yes s w hs ht h
  · rw [if_neg h]
    exact (Of_no s w hs ht h).mono fun e w' ⟨he, hb⟩ => ⟨HdV.zero, he, rfl, HdOwn.zero _ _, hb⟩
end Go.Proofs.YtjpkncfmionieaaDoor
