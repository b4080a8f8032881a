/- The walks of the reference's Reader, part 1: how it lies; Varint, Zag, Fixed. -/
import Derived.Test.YtjpkncfmionieaaDoorReaderFive
import Derived.Test.YtjpkncfmionieaaDoorBitsRefTwo
import Derived.Deep.RegionHeld3
namespace Go.Proofs.YtjpkncfmionieaaDoor
open Go.RowKit
set_option linter.unusedVariables false

/-- The reference's Reader lies in block g. -/
def Rx (w : World) (g : Nat) (s : ByteArray) (p e : Nat) : Prop := w.heap[g]? = some (.cells #[.string s, .int .i64 p, .int .i64 e] 95 (0, 0))
theorem Rx.c0 {w : World} {g : Nat} {s : ByteArray} {p e : Nat} (h : Rx w g s p e) : w.cell? ⟨g, 0, none⟩ = some (.string s) := by unfold Rx at h; simp [World.cell?, h]
theorem Rx.c1 {w : World} {g : Nat} {s : ByteArray} {p e : Nat} (h : Rx w g s p e) : w.cell? ⟨g, 1, none⟩ = some (.int .i64 p) := by unfold Rx at h; simp [World.cell?, h]
theorem Rx.c2 {w : World} {g : Nat} {s : ByteArray} {p e : Nat} (h : Rx w g s p e) : w.cell? ⟨g, 2, none⟩ = some (.int .i64 e) := by unfold Rx at h; simp [World.cell?, h]
theorem Rx.free {w : World} {g : Nat} {s : ByteArray} {p e : Nat} (h : Rx w g s p e) (j : Nat) : w.frozen? ⟨g, j, none⟩ = false := by unfold Rx at h; simp [World.frozen?, h]
theorem Rx.lt {w : World} {g : Nat} {s : ByteArray} {p e : Nat} (h : Rx w g s p e) : g < w.heap.size := lt_of_block h
theorem Rx.drew {w : World} {g : Nat} {s : ByteArray} {p e : Nat} (h : Rx w g s p e) : Rx w.drew g s p e := h
theorem Rx.set1 {w : World} {g : Nat} {s : ByteArray} {p e : Nat} (h : Rx w g s p e) (q : Nat) : Rx (w.setCell ⟨g, 1, none⟩ (.int .i64 q)) g s q e := by
  have hlt := h.lt
  unfold Rx at *
  show (w.heap.modify g _)[g]? = _
  rw [Array.getElem?_modify]
  simp [h]
theorem Rx.set2 {w : World} {g : Nat} {s : ByteArray} {p e : Nat} (h : Rx w g s p e) (q : Nat) : Rx (w.setCell ⟨g, 2, none⟩ (.int .i64 q)) g s p q := by
  have hlt := h.lt
  unfold Rx at *
  show (w.heap.modify g _)[g]? = _
  rw [Array.getElem?_modify]
  simp [h]
theorem Rx.alloc {w : World} {g : Nat} {s : ByteArray} {p e : Nat} (h : Rx w g s p e) (o : Obj) : Rx (w.alloc o) g s p e := by
  unfold Rx at *
  rw [Below.heap_alloc w o g (lt_of_block h)]; exact h
theorem wrong_any (g : Nat) (s : ByteArray) (p e : Nat) (e1 : Int) (w : World) (h : Rx w g s p e) :
    Calls Tryd.prog 79 #[.pointer (some ⟨g, 0, none⟩), .int .i64 e1] w fun r w' => r = .returned (.tuple #[]) ∧ w.setCell ⟨g, 2, none⟩ (.int .i64 e1) = w' := by
  have hc := h.c2
  have hf := h.free 2
  clear h
  go_enter Tryd.func79, Tryd.ntmps79
  go_wp2
  go_end0
  exact ⟨rfl, rfl⟩
set_option maxRecDepth 20000 in
theorem xVarint_any (g : Nat) (s : ByteArray) (p e : Nat) (most : Nat) (w : World) (h : Rx w g s p e) (hp : p ≤ s.size) (hs : s.size ≤ 140737488351232) (hm : most < 18446744073709551616) :
    Calls Tryd.prog 58 #[.pointer (some ⟨g, 0, none⟩), .int .u64 most] w fun r w' => r = .returned (.int .u64 ((Var.rVarint s.data.toList p e most).1 : Nat)) ∧ Rx w' g s (Var.rVarint s.data.toList p e most).2.1 (Var.rVarint s.data.toList p e most).2.2 ∧ w.grownBy w' (some g) := by
  by_cases he : e = 0
  · subst he
    have HU : Kp (∀ w, Calls Tryd.prog 78 #[.string s, .int .i64 p] w fun e w' => e = tup3 (Var.uvI s.data.toList p) ∧ w = w') := ⟨fun w => refUvarint_any s p w hs (by omega) (by omega)⟩
    have hf := Var.uvI_facts s.data.toList p (by rw [data_len]; exact hp)
    unfold tup3 at HU
    unfold Var.rVarint
    rw [if_pos rfl]
    generalize Var.uvI s.data.toList p = x at HU hf ⊢
    obtain ⟨n, k, e1⟩ := x
    obtain ⟨f1, f2, f3, f4⟩ := hf
    simp only [] at f1 f2 f3 f4 ⊢
    rw [data_len] at f2
    obtain ⟨r3, hr3⟩ : ∃ r3, (if e1 = 0 then (if most < n then (0, p, 40) else (n, k, 0)) else (0, p, e1)) = r3 := ⟨_, rfl⟩
    rw [hr3]
    have HR3 := Kp.mk hr3
    clear hr3
    have hc0 := h.drew.c0
    have hc1 := h.drew.c1
    have hk2 := h.drew.c2
    have hk3 := h.c2
    have hfr1 := h.drew.free 1
    have hfr2 := h.drew.free 2
    have HS1 : Kp (∀ q, Rx (w.drew.setCell ⟨g, 1, none⟩ (.int .i64 (q : Nat))) g s q 0) := ⟨fun q => h.drew.set1 q⟩
    have HS2 : Kp (∀ e, Rx (w.drew.setCell ⟨g, 2, none⟩ (.int .i64 (e : Nat))) g s p e) := ⟨fun e => h.drew.set2 e⟩
    have HW := Kp.mk (fun e1 : Int => wrong_any g s p 0 e1 _ h.drew)
    clear h f4
    go_enter Tryd.func58, Tryd.ntmps58
    go_wp2_with fail
    go_region_held3 (fun w' => w'.cell? ⟨g, 0, none⟩ = some (.string s) ∧ w'.cell? ⟨g, 1, none⟩ = some (.int .i64 p)) (go_keep)
      (first | (go_at_call 78; refine (HU.out _).mono ?_; rintro e w' ⟨rfl, rfl⟩))
    clear hc0
    by_cases h1 : e1 = 0
    · subst h1
      by_cases h2 : most < n
      · have hr : Kp (r3 = (0, p, 40)) := ⟨by rw [← HR3.out, if_pos rfl, if_pos h2]⟩
        go_wp2_with fail
        refine (HW.out _).mono ?_
        rintro e w' ⟨rfl, rfl⟩
        go_wp2
        go_ret
        exact ⟨by rw [hr.out]; rfl, by rw [hr.out]; exact HS2.out 40, grown_trans' (grown_drew w _) (grown_set _ _ _ _)⟩
      · have hr : Kp (r3 = (n, k, 0)) := ⟨by rw [← HR3.out, if_pos rfl, if_neg h2]⟩
        go_wp2
        go_ret
        exact ⟨by rw [hr.out]; rfl, by rw [hr.out]; exact HS1.out k, grown_trans' (grown_drew w _) (grown_set _ _ _ _)⟩
    · have hr : Kp (r3 = (0, p, e1)) := ⟨by rw [← HR3.out, if_neg h1]⟩
      have t0 : ((e1 : Int) != 0) = true := by rw [bne_iff_ne]; omega
      go_wp2_with fail
      refine (HW.out _).mono ?_
      rintro e w' ⟨rfl, rfl⟩
      go_wp2
      go_ret
      exact ⟨by rw [hr.out]; rfl, by rw [hr.out]; exact HS2.out e1, grown_trans' (grown_drew w _) (grown_set _ _ _ _)⟩

  · have t1 : ((e : Int) != 0) = true := by rw [bne_iff_ne]; omega
    have hV : Kp (Var.rVarint s.data.toList p e most = (0, p, e)) := ⟨by unfold Var.rVarint; rw [if_neg he]⟩
    have hk := h.c2
    have h' := Kp.mk h
    clear h
    go_enter Tryd.func58, Tryd.ntmps58
    go_wp2
    go_ret
    exact ⟨by rw [hV.out]; rfl, by rw [hV.out]; exact h'.out, World.grownBy.refl _ _⟩
end Go.Proofs.YtjpkncfmionieaaDoor
