/- The walks of the reference's Reader, part 1: how it lies; Varint, Zag, Fixed. -/
import Derived.Test.YtmfigoffkopohaaLawAsk
import Derived.Test.YtmfigoffkopohaaBitsRefTwo
import Derived.Deep.RegionHeld3
namespace Go.Proofs.Ytmfigoffkopohaa
open Go.RowKit
set_option linter.unusedVariables false

/-- The reference's Reader lies in block g. -/
def Rx (w : World) (g : Nat) (s : ByteArray) (p e : Nat) : Prop := w.heap[g]? = some (.cells #[.string s, .int .i64 p, .int .i64 e] 66 (0, 0))
theorem Rx.c0 {w : World} {g : Nat} {s : ByteArray} {p e : Nat} (h : Rx w g s p e) : w.cell? ⟨g, 0, none⟩ = some (.string s) := by unfold Rx at h; simp [World.cell?, h]
theorem Rx.c1 {w : World} {g : Nat} {s : ByteArray} {p e : Nat} (h : Rx w g s p e) : w.cell? ⟨g, 1, none⟩ = some (.int .i64 p) := by unfold Rx at h; simp [World.cell?, h]
theorem Rx.c2 {w : World} {g : Nat} {s : ByteArray} {p e : Nat} (h : Rx w g s p e) : w.cell? ⟨g, 2, none⟩ = some (.int .i64 e) := by unfold Rx at h; simp [World.cell?, h]
theorem Rx.free {w : World} {g : Nat} {s : ByteArray} {p e : Nat} (h : Rx w g s p e) (j : Nat) : w.frozen? ⟨g, j, none⟩ = false := by unfold Rx at h; simp [World.frozen?, h]
theorem Rx.lt {w : World} {g : Nat} {s : ByteArray} {p e : Nat} (h : Rx w g s p e) : g < w.heap.size := lt_of_block h
theorem Rx.drew {w : World} {g : Nat} {s : ByteArray} {p e : Nat} (h : Rx w g s p e) : Rx w.drew g s p e := h
theorem Rx.set1 {w : World} {g : Nat} {s : ByteArray} {p e : Nat} (h : Rx w g s p e) (q : Nat) : Rx (w.setCell ⟨g, 1, none⟩ (.int .i64 q)) g s q e := by
  have hlt := h.lt
  unfold Rx at *
  show (w.heap.modify g _)[g]? = _
  rw [Array.getElem?_modify]
  simp [h]
theorem Rx.set2 {w : World} {g : Nat} {s : ByteArray} {p e : Nat} (h : Rx w g s p e) (q : Nat) : Rx (w.setCell ⟨g, 2, none⟩ (.int .i64 q)) g s p q := by
  have hlt := h.lt
  unfold Rx at *
  show (w.heap.modify g _)[g]? = _
  rw [Array.getElem?_modify]
  simp [h]
theorem Rx.alloc {w : World} {g : Nat} {s : ByteArray} {p e : Nat} (h : Rx w g s p e) (o : Obj) : Rx (w.alloc o) g s p e := by
  unfold Rx at *
  rw [Below.heap_alloc w o g (lt_of_block h)]; exact h
theorem wrong_any (g : Nat) (s : ByteArray) (p e : Nat) (e1 : Int) (w : World) (h : Rx w g s p e) :
    Calls Try.prog 60 #[.pointer (some ⟨g, 0, none⟩), .int .i64 e1] w fun r w' => r = .returned (.tuple #[]) ∧ w.setCell ⟨g, 2, none⟩ (.int .i64 e1) = w' := by
  have hc := h.c2
  have hf := h.free 2
  clear h
  go_enter Try.func60, Try.ntmps60
  go_wp2
  go_end0
  exact ⟨rfl, rfl⟩
set_option maxRecDepth 20000 in
theorem xVarint_any (g : Nat) (s : ByteArray) (p e : Nat) (most : Nat) (w : World) (h : Rx w g s p e) (hp : p ≤ s.size) (hs : s.size ≤ 140737488351232) (hm : most < 18446744073709551616) :
    Calls Try.prog 54 #[.pointer (some ⟨g, 0, none⟩), .int .u64 most] w fun r w' => r = .returned (.int .u64 ((Var.rVarint s.data.toList p e most).1 : Nat)) ∧ Rx w' g s (Var.rVarint s.data.toList p e most).2.1 (Var.rVarint s.data.toList p e most).2.2 ∧ w.grownBy w' (some g) := by
  by_cases he : e = 0
  · subst he
    have HU : Kp (∀ w, Calls Try.prog 26 #[.string s, .int .i64 p] w fun e w' => e = tup3 (Var.uvI s.data.toList p) ∧ w = w') := ⟨fun w => refUvarint_any s p w hs (by omega) (by omega)⟩
    have hf := Var.uvI_facts s.data.toList p (by rw [data_len]; exact hp)
    unfold tup3 at HU
    unfold Var.rVarint
    rw [if_pos rfl]
    generalize Var.uvI s.data.toList p = x at HU hf ⊢
    obtain ⟨n, k, e1⟩ := x
    obtain ⟨f1, f2, f3, f4⟩ := hf
    simp only [] at f1 f2 f3 f4 ⊢
    rw [data_len] at f2
    obtain ⟨r3, hr3⟩ : ∃ r3, (if e1 = 0 then (if most < n then (0, p, 40) else (n, k, 0)) else (0, p, e1)) = r3 := ⟨_, rfl⟩
    rw [hr3]
    have HR3 := Kp.mk hr3
    clear hr3
    have hc0 := h.drew.c0
    have hc1 := h.drew.c1
    have hk2 := h.drew.c2
    have hk3 := h.c2
    have hfr1 := h.drew.free 1
    have hfr2 := h.drew.free 2
    have HS1 : Kp (∀ q, Rx (w.drew.setCell ⟨g, 1, none⟩ (.int .i64 (q : Nat))) g s q 0) := ⟨fun q => h.drew.set1 q⟩
    have HS2 : Kp (∀ e, Rx (w.drew.setCell ⟨g, 2, none⟩ (.int .i64 (e : Nat))) g s p e) := ⟨fun e => h.drew.set2 e⟩
    have HW := Kp.mk (fun e1 : Int => wrong_any g s p 0 e1 _ h.drew)
    clear h f4
    go_enter Try.func54, Try.ntmps54
    go_wp2_with fail
    go_region_held3 (fun w' => w'.cell? ⟨g, 0, none⟩ = some (.string s) ∧ w'.cell? ⟨g, 1, none⟩ = some (.int .i64 p)) (go_keep)
      (first | (go_at_call 26; refine (HU.out _).mono ?_; rintro e w' ⟨rfl, rfl⟩))
    clear hc0
    by_cases h1 : e1 = 0
    · subst h1
      by_cases h2 : most < n
      · have hr : Kp (r3 = (0, p, 40)) := ⟨by rw [← HR3.out, if_pos rfl, if_pos h2]⟩
        go_wp2_with fail
        refine (HW.out _).mono ?_
        rintro e w' ⟨rfl, rfl⟩
        go_wp2
        go_ret
        exact ⟨by rw [hr.out]; rfl, by rw [hr.out]; exact HS2.out 40, grown_trans' (grown_drew w _) (grown_set _ _ _ _)⟩
      · have hr : Kp (r3 = (n, k, 0)) := ⟨by rw [← HR3.out, if_pos rfl, if_neg h2]⟩
        go_wp2
        go_ret
        exact ⟨by rw [hr.out]; rfl, by rw [hr.out]; exact HS1.out k, grown_trans' (grown_drew w _) (grown_set _ _ _ _)⟩
    · have hr : Kp (r3 = (0, p, e1)) := ⟨by rw [← HR3.out, if_neg h1]⟩
      have t0 : ((e1 : Int) != 0) = true := by rw [bne_iff_ne]; omega
      go_wp2_with fail
      refine (HW.out _).mono ?_
      rintro e w' ⟨rfl, rfl⟩
      go_wp2
      go_ret
      exact ⟨by rw [hr.out]; rfl, by rw [hr.out]; exact HS2.out e1, grown_trans' (grown_drew w _) (grown_set _ _ _ _)⟩

  · have t1 : ((e : Int) != 0) = true := by rw [bne_iff_ne]; omega
    have hV : Kp (Var.rVarint s.data.toList p e most = (0, p, e)) := ⟨by unfold Var.rVarint; rw [if_neg he]⟩
    have hk := h.c2
    have h' := Kp.mk h
    clear h
    go_enter Try.func54, Try.ntmps54
    go_wp2
    go_ret
    exact ⟨by rw [hV.out]; rfl, by rw [hV.out]; exact h'.out, World.grownBy.refl _ _⟩
set_option maxRecDepth 20000 in
theorem xZag_any (g : Nat) (s : ByteArray) (p e : Nat) (least most : Int) (w : World) (h : Rx w g s p e) (hp : p ≤ s.size) (hs : s.size ≤ 140737488351232) :
    Calls Try.prog 55 #[.pointer (some ⟨g, 0, none⟩), .int .i64 least, .int .i64 most] w fun r w' => r = .returned (.int .i64 (Var.rZag s.data.toList p e least most).1) ∧ Rx w' g s (Var.rZag s.data.toList p e least most).2.1 (Var.rZag s.data.toList p e least most).2.2 ∧ w.grownBy w' (some g) := by
  by_cases he : e = 0
  · subst he
    have HU : Kp (∀ w, Calls Try.prog 26 #[.string s, .int .i64 p] w fun e w' => e = tup3 (Var.uvI s.data.toList p) ∧ w = w') := ⟨fun w => refUvarint_any s p w hs (by omega) (by omega)⟩
    have hf := Var.uvI_facts s.data.toList p (by rw [data_len]; exact hp)
    unfold tup3 at HU
    unfold Var.rZag
    rw [if_pos rfl]
    generalize Var.uvI s.data.toList p = x at HU hf ⊢
    obtain ⟨n, k, e1⟩ := x
    obtain ⟨f1, f2, f3, f4⟩ := hf
    simp only [] at f1 f2 f3 f4 ⊢
    rw [data_len] at f2
    have HZ : Kp (∀ w, Calls Try.prog 22 #[.int .u64 n] w fun e w' => e = .returned (.int .i64 (Var.zag n)) ∧ w = w') := ⟨fun w => refZag_any n w f1⟩
    generalize Var.zag n = z at HZ ⊢
    obtain ⟨r3, hr3⟩ : ∃ r3, (if e1 = 0 then (if z < least ∨ most < z then ((0 : Int), p, 40) else (z, k, 0)) else (0, p, e1)) = r3 := ⟨_, rfl⟩
    rw [hr3]
    have HR3 := Kp.mk hr3
    clear hr3
    have hc0 := h.drew.c0
    have hc1 := h.drew.c1
    have hk2 := h.drew.c2
    have hk3 := h.c2
    have hfr1 := h.drew.free 1
    have hfr2 := h.drew.free 2
    have HS1 : Kp (∀ q, Rx (w.drew.setCell ⟨g, 1, none⟩ (.int .i64 (q : Nat))) g s q 0) := ⟨fun q => h.drew.set1 q⟩
    have HS2 : Kp (∀ e, Rx (w.drew.setCell ⟨g, 2, none⟩ (.int .i64 (e : Nat))) g s p e) := ⟨fun e => h.drew.set2 e⟩
    have HW := Kp.mk (fun e1 : Int => wrong_any g s p 0 e1 _ h.drew)
    clear h f4
    go_enter Try.func55, Try.ntmps55
    go_wp2_with fail
    go_region_held3 (fun w' => w'.cell? ⟨g, 0, none⟩ = some (.string s) ∧ w'.cell? ⟨g, 1, none⟩ = some (.int .i64 p)) (go_keep)
      (first | (go_at_call 26; refine (HU.out _).mono ?_; rintro e w' ⟨rfl, rfl⟩))
    clear hc0
    by_cases h1 : e1 = 0
    · subst h1
      by_cases h2 : z < least
      · have hr : Kp (r3 = (0, p, 40)) := ⟨by rw [← HR3.out, if_pos rfl, if_pos (.inl h2)]⟩
        go_wp2_with fail
        refine (HZ.out _).mono ?_
        rintro e w' ⟨rfl, rfl⟩
        go_wp2_with fail
        refine (HW.out _).mono ?_
        rintro e w' ⟨rfl, rfl⟩
        go_wp2
        go_ret
        exact ⟨by rw [hr.out]; rfl, by rw [hr.out]; exact HS2.out 40, grown_trans' (grown_drew w _) (grown_set _ _ _ _)⟩
      by_cases h3 : most < z
      · have hr : Kp (r3 = (0, p, 40)) := ⟨by rw [← HR3.out, if_pos rfl, if_pos (.inr h3)]⟩
        go_wp2_with fail
        refine (HZ.out _).mono ?_
        rintro e w' ⟨rfl, rfl⟩
        go_wp2_with fail
        refine (HW.out _).mono ?_
        rintro e w' ⟨rfl, rfl⟩
        go_wp2
        go_ret
        exact ⟨by rw [hr.out]; rfl, by rw [hr.out]; exact HS2.out 40, grown_trans' (grown_drew w _) (grown_set _ _ _ _)⟩
      · have hr : Kp (r3 = (z, k, 0)) := ⟨by rw [← HR3.out, if_pos rfl, if_neg (by omega)]⟩
        go_wp2_with fail
        refine (HZ.out _).mono ?_
        rintro e w' ⟨rfl, rfl⟩
        go_wp2
        go_ret
        exact ⟨by rw [hr.out]; rfl, by rw [hr.out]; exact HS1.out k, grown_trans' (grown_drew w _) (grown_set _ _ _ _)⟩
    · have hr : Kp (r3 = (0, p, e1)) := ⟨by rw [← HR3.out, if_neg h1]⟩
      have t0 : ((e1 : Int) != 0) = true := by rw [bne_iff_ne]; omega
      go_wp2_with fail
      refine (HW.out _).mono ?_
      rintro e w' ⟨rfl, rfl⟩
      go_wp2
      go_ret
      exact ⟨by rw [hr.out]; rfl, by rw [hr.out]; exact HS2.out e1, grown_trans' (grown_drew w _) (grown_set _ _ _ _)⟩

  · have t1 : ((e : Int) != 0) = true := by rw [bne_iff_ne]; omega
    have hV : Kp (Var.rZag s.data.toList p e least most = (0, p, e)) := ⟨by unfold Var.rZag; rw [if_neg he]⟩
    have hk := h.c2
    have h' := Kp.mk h
    clear h
    go_enter Try.func55, Try.ntmps55
    go_wp2
    go_ret
    exact ⟨by rw [hV.out]; rfl, by rw [hV.out]; exact h'.out, World.grownBy.refl _ _⟩
set_option maxRecDepth 20000 in
theorem xFixed_any (g : Nat) (s : ByteArray) (p e : Nat) (size : Int) (w : World) (h : Rx w g s p e) (hp : p ≤ s.size) (hs : s.size ≤ 140737488351232) :
    Calls Try.prog 56 #[.pointer (some ⟨g, 0, none⟩), .int .i64 size] w fun r w' => r = .returned (.int .u64 ((Var.rFixed s.data.toList p e size).1 : Nat)) ∧ Rx w' g s (Var.rFixed s.data.toList p e size).2.1 (Var.rFixed s.data.toList p e size).2.2 ∧ w.grownBy w' (some g) := by
  by_cases he : e = 0
  · subst he
    have HU : Kp (∀ w, Calls Try.prog 28 #[.string s, .int .i64 p, .int .i64 size] w fun e w' => e = tup3 (Var.fixI s.data.toList p size) ∧ w = w') := ⟨fun w => refReadFixed_any s p size w hs (by omega) (by omega)⟩
    have hf := Var.fixI_facts s.data.toList p size (by rw [data_len]; exact hp)
    unfold tup3 at HU
    unfold Var.rFixed
    rw [if_pos rfl]
    generalize Var.fixI s.data.toList p size = x at HU hf ⊢
    obtain ⟨n, k, e1⟩ := x
    obtain ⟨f1, f2, f3, f4, f5⟩ := hf
    simp only [] at f1 f2 f3 f4 f5 ⊢
    rw [data_len] at f2
    obtain ⟨r3, hr3⟩ : ∃ r3, (if e1 = 0 then (n, k, e1) else (0, p, e1)) = r3 := ⟨_, rfl⟩
    rw [hr3]
    have HR3 := Kp.mk hr3
    have F5 := Kp.mk f5
    clear hr3 f5
    have hc0 := h.drew.c0
    have hc1 := h.drew.c1
    have hk2 := h.drew.c2
    have hk3 := h.c2
    have hfr1 := h.drew.free 1
    have hfr2 := h.drew.free 2
    have HS1 : Kp (∀ q, Rx (w.drew.setCell ⟨g, 1, none⟩ (.int .i64 (q : Nat))) g s q 0) := ⟨fun q => h.drew.set1 q⟩
    have HS2 : Kp (∀ e, Rx (w.drew.setCell ⟨g, 2, none⟩ (.int .i64 (e : Nat))) g s p e) := ⟨fun e => h.drew.set2 e⟩
    have HW := Kp.mk (fun e1 : Int => wrong_any g s p 0 e1 _ h.drew)
    clear h f4
    go_enter Try.func56, Try.ntmps56
    go_wp2_with fail
    go_region_held3 (fun w' => w'.cell? ⟨g, 0, none⟩ = some (.string s) ∧ w'.cell? ⟨g, 1, none⟩ = some (.int .i64 p)) (go_keep)
      (first | (go_at_call 28; refine (HU.out _).mono ?_; rintro e w' ⟨rfl, rfl⟩))
    clear hc0
    by_cases h1 : e1 = 0
    · subst h1
      have hr : Kp (r3 = (n, k, 0)) := ⟨by rw [← HR3.out, if_pos rfl]⟩
      go_wp2
      go_ret
      exact ⟨by rw [hr.out]; rfl, by rw [hr.out]; exact HS1.out k, grown_trans' (grown_drew w _) (grown_set _ _ _ _)⟩
    · have hr : Kp (r3 = (0, p, e1)) := ⟨by rw [← HR3.out, if_neg h1]⟩
      have t0 : ((e1 : Int) != 0) = true := by rw [bne_iff_ne]; omega
      go_wp2_with fail
      refine (HW.out _).mono ?_
      rintro e w' ⟨rfl, rfl⟩
      go_wp2
      go_ret
      exact ⟨by rw [hr.out]; rfl, by rw [hr.out]; exact HS2.out e1, grown_trans' (grown_drew w _) (grown_set _ _ _ _)⟩

  · have t1 : ((e : Int) != 0) = true := by rw [bne_iff_ne]; omega
    have hV : Kp (Var.rFixed s.data.toList p e size = (0, p, e)) := ⟨by unfold Var.rFixed; rw [if_neg he]⟩
    have hk := h.c2
    have h' := Kp.mk h
    clear h
    go_enter Try.func56, Try.ntmps56
    go_wp2
    go_ret
    exact ⟨by rw [hV.out]; rfl, by rw [hV.out]; exact h'.out, World.grownBy.refl _ _⟩
end Go.Proofs.Ytmfigoffkopohaa
