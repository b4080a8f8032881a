/- The walks of package bits, part 4: a Reader, as it lies in memory, and its small methods. -/
import Derived.Test.YtjpkncfmionieaaDoorBitsRef
import Derived.Deep.RegionHeld3
namespace Go.Proofs.YtjpkncfmionieaaDoor
open Go.RowKit
set_option linter.unusedVariables false

/-- A Reader lies in block g. -/
def Rd (w : World) (g : Nat) (s : ByteArray) (p e : Nat) : Prop := w.heap[g]? = some (.cells #[.string s, .int .i64 p, .int .i64 e] 98 (0, 0))
theorem Rd.c0 {w : World} {g : Nat} {s : ByteArray} {p e : Nat} (h : Rd w g s p e) : w.cell? ⟨g, 0, none⟩ = some (.string s) := by unfold Rd at h; simp [World.cell?, h]
theorem Rd.c1 {w : World} {g : Nat} {s : ByteArray} {p e : Nat} (h : Rd w g s p e) : w.cell? ⟨g, 1, none⟩ = some (.int .i64 p) := by unfold Rd at h; simp [World.cell?, h]
theorem Rd.c2 {w : World} {g : Nat} {s : ByteArray} {p e : Nat} (h : Rd w g s p e) : w.cell? ⟨g, 2, none⟩ = some (.int .i64 e) := by unfold Rd at h; simp [World.cell?, h]
theorem Rd.free {w : World} {g : Nat} {s : ByteArray} {p e : Nat} (h : Rd w g s p e) (j : Nat) : w.frozen? ⟨g, j, none⟩ = false := by unfold Rd at h; simp [World.frozen?, h]
theorem Rd.lt {w : World} {g : Nat} {s : ByteArray} {p e : Nat} (h : Rd w g s p e) : g < w.heap.size := lt_of_block h
theorem Rd.drew {w : World} {g : Nat} {s : ByteArray} {p e : Nat} (h : Rd w g s p e) : Rd w.drew g s p e := h
theorem Rd.set1 {w : World} {g : Nat} {s : ByteArray} {p e : Nat} (h : Rd w g s p e) (q : Nat) : Rd (w.setCell ⟨g, 1, none⟩ (.int .i64 q)) g s q e := by
  have hlt := h.lt
  unfold Rd at *
  show (w.heap.modify g _)[g]? = _
  rw [Array.getElem?_modify]
  simp [h]
theorem Rd.set2 {w : World} {g : Nat} {s : ByteArray} {p e : Nat} (h : Rd w g s p e) (q : Nat) : Rd (w.setCell ⟨g, 2, none⟩ (.int .i64 q)) g s p q := by
  have hlt := h.lt
  unfold Rd at *
  show (w.heap.modify g _)[g]? = _
  rw [Array.getElem?_modify]
  simp [h]
theorem grown_set (w : World) (g j : Nat) (v : Value) : w.grownBy (w.setCell ⟨g, j, none⟩ v) (some g) :=
  ⟨rfl, rfl, rfl, by simp, fun k _ hne => Below.heap_setCell w ⟨g, j, none⟩ v k (fun e => hne (by rw [e]))⟩
theorem Err_any (g : Nat) (s : ByteArray) (p e : Nat) (w : World) (h : Rd w g s p e) :
    Calls Tryd.prog 62 #[.pointer (some ⟨g, 0, none⟩)] w fun r w' => r = .returned (.int .i64 e) ∧ w = w' := by
  have hc := h.c2
  clear h
  go_enter Tryd.func62, Tryd.ntmps62
  go_wp2
  go_ret
  exact ⟨rfl, rfl⟩
theorem Left_any (g : Nat) (s : ByteArray) (p e : Nat) (w : World) (h : Rd w g s p e) (hp : p ≤ s.size) (hs : s.size ≤ 140737488351232) :
    Calls Tryd.prog 63 #[.pointer (some ⟨g, 0, none⟩)] w fun r w' => r = .returned (.int .i64 ((s.size - p : Nat) : Int)) ∧ w.drew = w' := by
  have hc0 := h.drew.c0
  have hc1 := h.drew.c1
  have hd : ((s.size - p : Nat) : Int) = (s.size : Int) - p := by omega
  rw [hd]
  clear h
  go_enter Tryd.func63, Tryd.ntmps63
  go_wp2
  go_region
  all_goals go_wp2
  all_goals go_ret
  all_goals exact ⟨rfl, rfl⟩
theorem good_any (g : Nat) (s : ByteArray) (p e : Nat) (w : World) (h : Rd w g s p e) :
    Calls Tryd.prog 59 #[.pointer (some ⟨g, 0, none⟩)] w fun r w' => r = .returned (.bool (decide (e = 0))) ∧ w = w' := by
  have hc := h.c2
  clear h
  go_enter Tryd.func59, Tryd.ntmps59
  go_wp2
  go_ret
  refine ⟨ret_bool ?_, rfl⟩
  rw [Bool.eq_iff_iff]; simp
theorem take_any (g : Nat) (s : ByteArray) (p e : Nat) (q e1 : Nat) (w : World) (h : Rd w g s p e) :
    Calls Tryd.prog 61 #[.pointer (some ⟨g, 0, none⟩), .int .i64 q, .int .i64 e1] w fun r w' => r = .returned (.bool (decide (e1 = 0))) ∧ (if e1 = 0 then Rd w' g s q e else Rd w' g s p e1) ∧ w.grownBy w' (some g) := by
  by_cases h0 : e1 = 0
  · subst h0
    have HR := Kp.mk (h.set1 q)
    have hc := h.c1
    have hf := h.free 1
    clear h
    go_enter Tryd.func61, Tryd.ntmps61
    go_wp2
    go_ret
    exact ⟨rfl, HR.out, grown_set _ _ _ _⟩
  · have HR := Kp.mk (h.set2 e1)
    have hc := h.c2
    have hf := h.free 2
    have t : ((e1 : Int) != 0) = true := by rw [bne_iff_ne]; omega
    clear h
    go_enter Tryd.func61, Tryd.ntmps61
    go_wp2
    go_ret
    exact ⟨by simp, HR.out, grown_set _ _ _ _⟩
end Go.Proofs.YtjpkncfmionieaaDoor
/- The walks of package bits, part 5: what a Reader reads. -/
namespace Go.Proofs.YtjpkncfmionieaaDoor
open Go.RowKit
set_option linter.unusedVariables false

namespace Var
/-- A reader's varint: the number, where it stands, its error. -/
def rVarint (l : List UInt8) (p e most : Nat) : Nat × Nat × Nat :=
  if e = 0 then (if (uvI l p).2.2 = 0 then (if most < (uvI l p).1 then (0, p, 40) else ((uvI l p).1, (uvI l p).2.1, 0)) else (0, p, (uvI l p).2.2)) else (0, p, e)
theorem uvI_facts (l : List UInt8) (p : Nat) (hp : p ≤ l.length) : (uvI l p).1 < 18446744073709551616 ∧ (uvI l p).2.1 ≤ l.length ∧ (uvI l p).2.2 ≤ 8 ∧ ((uvI l p).2.2 = 0 → p < (uvI l p).2.1) := by
  have h := uv_bounds (l := l.drop p) 0 0 (by omega) (by simp)
  obtain ⟨h1, h2, h3, h4, h5⟩ := h
  have e : uvI l p = ((go (l.drop p) 0 0).1, if (go (l.drop p) 0 0).2.2 = 0 then p + (go (l.drop p) 0 0).2.1 else 0, (go (l.drop p) 0 0).2.2) := by
    unfold uvI
    rw [if_neg (by simp; omega), Int.toNat_natCast]
    rfl
  rw [e]
  simp only [List.length_drop] at h2
  refine ⟨by simpa using h1, ?_, ?_, ?_⟩
  · show (if (go (l.drop p) 0 0).2.2 = 0 then p + (go (l.drop p) 0 0).2.1 else 0) ≤ l.length
    split <;> omega
  · show (go (l.drop p) 0 0).2.2 ≤ 8
    omega
  · show (go (l.drop p) 0 0).2.2 = 0 → p < (if (go (l.drop p) 0 0).2.2 = 0 then p + (go (l.drop p) 0 0).2.1 else 0)
    intro h
    rw [if_pos h]
    have := h5 h
    omega
end Var
theorem grown_trans' {w w1 w2 : World} {row : Option Nat} (h : w.grownBy w1 row) (h1 : w1.grownBy w2 row) : w.grownBy w2 row :=
  ⟨h1.os.trans h.os, h1.tape.trans h.tape, h1.output.trans h.output, Nat.le_trans h.size h1.size, fun k hk hne => by rw [h1.block k (Nat.lt_of_lt_of_le hk h.size) hne, h.block k hk hne]⟩
theorem grown_drew (w : World) (row : Option Nat) : w.grownBy w.drew row := ⟨rfl, rfl, rfl, Nat.le_refl _, fun _ _ _ => rfl⟩
set_option maxRecDepth 20000 in
theorem Varint_any (g : Nat) (s : ByteArray) (p e most : Nat) (w : World) (h : Rd w g s p e) (hp : p ≤ s.size) (hs : s.size ≤ 140737488351232) (hm : most < 18446744073709551616) :
    Calls Tryd.prog 42 #[.pointer (some ⟨g, 0, none⟩), .int .u64 most] w fun r w' => r = .returned (.int .u64 ((Var.rVarint s.data.toList p e most).1 : Nat)) ∧ Rd w' g s (Var.rVarint s.data.toList p e most).2.1 (Var.rVarint s.data.toList p e most).2.2 ∧ w.grownBy w' (some g) := by
  have HG := Kp.mk (good_any g s p e w h)
  by_cases he : e = 0
  · subst he
    have HU : Kp (∀ w, Calls Tryd.prog 60 #[.string s, .int .i64 p] w fun e w' => e = tup3 (Var.uvI s.data.toList p) ∧ w = w') := ⟨fun w => Uvarint_any s p w hs (by omega) (by omega)⟩
    have hf := Var.uvI_facts s.data.toList p (by rw [data_len]; exact hp)
    unfold tup3 at HU
    unfold Var.rVarint
    rw [if_pos rfl]
    generalize Var.uvI s.data.toList p = x at HU hf ⊢
    obtain ⟨n, k, e1⟩ := x
    obtain ⟨f1, f2, f3, f4⟩ := hf
    simp only [] at f1 f2 f3 f4 ⊢
    rw [data_len] at f2
    have HT : Kp (∀ (q e1 : Nat) (ve : Int), ve = (e1 : Int) → Calls Tryd.prog 61 #[.pointer (some ⟨g, 0, none⟩), .int .i64 (q : Nat), .int .i64 ve] w.drew fun r w' => r = .returned (.bool (decide (e1 = 0))) ∧ (if e1 = 0 then Rd w' g s q 0 else Rd w' g s p e1) ∧ w.drew.grownBy w' (some g)) := ⟨fun q e1 ve hve => by subst hve; exact take_any g s p 0 q e1 w.drew h⟩
    have hc0 := h.drew.c0
    have hc1 := h.drew.c1
    have h' := Kp.mk h
    clear h f4
    obtain ⟨r3, hr3⟩ : ∃ r3, (if e1 = 0 then (if most < n then (0, p, 40) else (n, k, 0)) else (0, p, e1)) = r3 := ⟨_, rfl⟩
    rw [hr3]
    have HR3 := Kp.mk hr3
    clear hr3
    go_enter Tryd.func42, Tryd.ntmps42
    go_wp2_with fail
    refine HG.out.mono ?_
    rintro e w' ⟨rfl, rfl⟩
    go_wp2_with fail
    go_region_held3 (fun w' => w'.cell? ⟨g, 0, none⟩ = some (.string s) ∧ w'.cell? ⟨g, 1, none⟩ = some (.int .i64 p)) (go_keep)
      (first | (go_at_call 60; refine (HU.out _).mono ?_; rintro e w' ⟨rfl, rfl⟩))
    clear hc0 hc1
    by_cases h1 : e1 = 0
    · have t0 : ((e1 : Int) == 0) = true := by rw [beq_iff_eq]; omega
      by_cases h2 : most < n
      · have hr : r3 = (0, p, 40) := by rw [← HR3.out, if_pos h1, if_pos h2]
        go_wp2_with fail
        refine (HT.out k 40 40 rfl).mono ?_
        rintro e w' ⟨rfl, t1, t2⟩
        go_wp2
        go_ret
        exact ⟨by rw [hr]; rfl, by rw [hr]; exact t1, grown_trans' (grown_drew w _) t2⟩
      · have hr : r3 = (n, k, 0) := by rw [← HR3.out, if_pos h1, if_neg h2]
        go_wp2_with fail
        refine (HT.out k 0 0 rfl).mono ?_
        rw [show decide ((0 : Nat) = 0) = true from rfl]
        rintro e w' ⟨rfl, t1, t2⟩
        rw [if_pos rfl] at t1
        go_wp2
        go_ret
        exact ⟨by rw [hr]; rfl, by rw [hr]; exact t1, grown_trans' (grown_drew w _) t2⟩
    · have hr : r3 = (0, p, e1) := by rw [← HR3.out, if_neg h1]
      have t0 : ((e1 : Int) == 0) = false := by rw [beq_eq_false_iff_ne]; omega
      have hd : decide (e1 = 0) = false := by simp [h1]
      go_wp2_with fail
      refine (HT.out k e1 _ rfl).mono ?_
      rw [hd]
      rintro e w' ⟨rfl, t1, t2⟩
      rw [if_neg h1] at t1
      go_wp2
      go_ret
      exact ⟨by rw [hr]; rfl, by rw [hr]; exact t1, grown_trans' (grown_drew w _) t2⟩
  · unfold Var.rVarint
    rw [if_neg he]
    have hd : decide (e = 0) = false := by simp [he]
    rw [hd] at HG
    have h' := Kp.mk h
    clear h
    go_enter Tryd.func42, Tryd.ntmps42
    go_wp2_with fail
    refine HG.out.mono ?_
    rintro e w' ⟨rfl, rfl⟩
    go_wp2
    go_ret
    exact ⟨rfl, h'.out, World.grownBy.refl _ _⟩
end Go.Proofs.YtjpkncfmionieaaDoor
/- The walks of package bits, part 6: Reader's Zag, Fixed, Raw. -/
namespace Go.Proofs.YtjpkncfmionieaaDoor
open Go.RowKit
set_option linter.unusedVariables false

namespace Var
def rZag (l : List UInt8) (p e : Nat) (least most : Int) : Int × Nat × Nat :=
  if e = 0 then (if (uvI l p).2.2 = 0 then (if zag (uvI l p).1 < least ∨ most < zag (uvI l p).1 then (0, p, 40) else (zag (uvI l p).1, (uvI l p).2.1, 0)) else (0, p, (uvI l p).2.2)) else (0, p, e)
def rFixed (l : List UInt8) (p e : Nat) (size : Int) : Nat × Nat × Nat :=
  if e = 0 then (if (fixI l p size).2.2 = 0 then fixI l p size else (0, p, (fixI l p size).2.2)) else (0, p, e)
def rRaw (l : List UInt8) (p e : Nat) (n : Int) : List UInt8 × Nat × Nat :=
  if e = 0 then (if n < 0 then ([], p, 1) else if ((l.length - p : Nat) : Int) < n then ([], p, 8) else ((l.drop p).take n.toNat, p + n.toNat, 0)) else ([], p, e)
theorem fixI_facts (l : List UInt8) (p : Nat) (size : Int) (hp : p ≤ l.length) : (fixI l p size).1 < 18446744073709551616 ∧ (fixI l p size).2.1 ≤ l.length ∧ (fixI l p size).2.2 ≤ 8 ∧ ((fixI l p size).2.2 = 0 → p < (fixI l p size).2.1) ∧ ((fixI l p size).2.2 ≠ 0 → (fixI l p size).1 = 0) := by
  unfold fixI
  split
  · simp
  · rename_i h1
    split
    · simp
    · rename_i h2
      have hz : size.toNat = 4 ∨ size.toNat = 8 := by omega
      have hlen : ((l.drop (p : Int).toNat).take size.toNat).length = size.toNat := by simp; omega
      have hf := fv_lt ((l.drop (p : Int).toNat).take size.toNat)
      rw [hlen] at hf
      refine ⟨?_, by simp; omega, by simp, fun _ => by simp; omega, fun h => absurd rfl h⟩
      have : 256 ^ size.toNat ≤ 256 ^ 8 := Nat.pow_le_pow_right (by decide) (by omega)
      have e : 256 ^ 8 = 18446744073709551616 := rfl
      show fv _ < _
      omega
end Var
set_option maxRecDepth 20000 in
theorem RFixed_any (g : Nat) (s : ByteArray) (p e : Nat) (size : Int) (w : World) (h : Rd w g s p e) (hp : p ≤ s.size) (hs : s.size ≤ 140737488351232) :
    Calls Tryd.prog 74 #[.pointer (some ⟨g, 0, none⟩), .int .i64 size] w fun r w' => r = .returned (.int .u64 ((Var.rFixed s.data.toList p e size).1 : Nat)) ∧ Rd w' g s (Var.rFixed s.data.toList p e size).2.1 (Var.rFixed s.data.toList p e size).2.2 ∧ w.grownBy w' (some g) := by
  have HG := Kp.mk (good_any g s p e w h)
  by_cases he : e = 0
  · subst he
    have HU : Kp (∀ w, Calls Tryd.prog 85 #[.string s, .int .i64 p, .int .i64 size] w fun e w' => e = tup3 (Var.fixI s.data.toList p size) ∧ w = w') := ⟨fun w => Fixed_any s p size w hs (by omega) (by omega)⟩
    have hf := Var.fixI_facts s.data.toList p size (by rw [data_len]; exact hp)
    unfold tup3 at HU
    unfold Var.rFixed
    rw [if_pos rfl]
    generalize Var.fixI s.data.toList p size = x at HU hf ⊢
    obtain ⟨n, k, e1⟩ := x
    obtain ⟨f1, f2, f3, f4, f5⟩ := hf
    simp only [] at f1 f2 f3 f4 f5 ⊢
    rw [data_len] at f2
    have HT : Kp (∀ (q e1 : Nat) (ve : Int), ve = (e1 : Int) → Calls Tryd.prog 61 #[.pointer (some ⟨g, 0, none⟩), .int .i64 (q : Nat), .int .i64 ve] w.drew fun r w' => r = .returned (.bool (decide (e1 = 0))) ∧ (if e1 = 0 then Rd w' g s q 0 else Rd w' g s p e1) ∧ w.drew.grownBy w' (some g)) := ⟨fun q e1 ve hve => by subst hve; exact take_any g s p 0 q e1 w.drew h⟩
    have hc0 := h.drew.c0
    have hc1 := h.drew.c1
    have h' := Kp.mk h
    have f5' := Kp.mk f5
    clear h f4 f5
    obtain ⟨r3, hr3⟩ : ∃ r3, (if e1 = 0 then (n, k, e1) else (0, p, e1)) = r3 := ⟨_, rfl⟩
    rw [hr3]
    have HR3 := Kp.mk hr3
    clear hr3
    go_enter Tryd.func74, Tryd.ntmps74
    go_wp2_with fail
    refine HG.out.mono ?_
    rintro e w' ⟨rfl, rfl⟩
    go_wp2_with fail
    go_region_held3 (fun w' => w'.cell? ⟨g, 0, none⟩ = some (.string s) ∧ w'.cell? ⟨g, 1, none⟩ = some (.int .i64 p)) (go_keep)
      (first | (go_at_call 85; refine (HU.out _).mono ?_; rintro e w' ⟨rfl, rfl⟩))
    clear hc0 hc1
    by_cases h1 : e1 = 0
    · have hr : Kp (r3 = (n, k, e1)) := ⟨by rw [← HR3.out, if_pos h1]⟩
      have h1' := Kp.mk h1
      clear h1
      go_wp2_with fail
      refine (HT.out k e1 _ rfl).mono ?_
      rintro e w' ⟨rfl, t1, t2⟩
      rw [if_pos h1'.out] at t1
      go_wp2
      go_ret
      exact ⟨by rw [hr.out]; rfl, by rw [hr.out, h1'.out]; exact t1, grown_trans' (grown_drew w _) t2⟩
    · have hr : r3 = (0, p, e1) := by rw [← HR3.out, if_neg h1]
      have hn0 : n = 0 := f5'.out h1
      go_wp2_with fail
      refine (HT.out k e1 _ rfl).mono ?_
      rintro e w' ⟨rfl, t1, t2⟩
      rw [if_neg h1] at t1
      go_wp2
      go_ret
      exact ⟨by rw [hr]; rfl, by rw [hr]; exact t1, grown_trans' (grown_drew w _) t2⟩
  · unfold Var.rFixed
    rw [if_neg he]
    have hd : decide (e = 0) = false := by simp [he]
    rw [hd] at HG
    have h' := Kp.mk h
    clear h
    go_enter Tryd.func74, Tryd.ntmps74
    go_wp2_with fail
    refine HG.out.mono ?_
    rintro e w' ⟨rfl, rfl⟩
    go_wp2
    go_ret
    exact ⟨rfl, h'.out, World.grownBy.refl _ _⟩
end Go.Proofs.YtjpkncfmionieaaDoor
/- The walks of package bits, part 7: Reader's Raw, Byte, Text, End, New. -/
namespace Go.Proofs.YtjpkncfmionieaaDoor
open Go.RowKit
set_option linter.unusedVariables false

theorem bytes_ext {a b : ByteArray} (h : a.data.toList = b.data.toList) : a = b := by
  obtain ⟨⟨a⟩⟩ := a
  obtain ⟨⟨b⟩⟩ := b
  simp at h
  subst h
  rfl
set_option maxRecDepth 20000 in
theorem Raw_any (g : Nat) (s : ByteArray) (p e : Nat) (n : Int) (w : World) (h : Rd w g s p e) (hp : p ≤ s.size) (hs : s.size ≤ 140737488351232) :
    Calls Tryd.prog 75 #[.pointer (some ⟨g, 0, none⟩), .int .i64 n] w fun r w' => r = .returned (.string (B (Var.rRaw s.data.toList p e n).1)) ∧ Rd w' g s (Var.rRaw s.data.toList p e n).2.1 (Var.rRaw s.data.toList p e n).2.2 ∧ w.grownBy w' (some g) := by
  have HG := Kp.mk (good_any g s p e w h)
  have HL := Kp.mk (Left_any g s p e w h hp hs)
  have h' := Kp.mk h
  by_cases he : e = 0
  · subst he
    have HG : Kp _ := HG
    by_cases hn : n < 0
    · have HV : Kp (Var.rRaw s.data.toList p 0 n = ([], p, 1)) := ⟨by simp [Var.rRaw, hn]⟩
      have HS := Kp.mk (h.set2 1)
      have hc := h.c2
      have hf := h.free 2
      clear h
      go_enter Tryd.func75, Tryd.ntmps75
      go_wp2_with fail
      refine HG.out.mono ?_
      rintro e w' ⟨rfl, rfl⟩
      go_wp2
      go_ret
      exact ⟨by rw [HV.out]; rfl, by rw [HV.out]; exact HS.out, grown_set _ _ _ _⟩
    by_cases hl : ((s.size - p : Nat) : Int) < n
    · have HV : Kp (Var.rRaw s.data.toList p 0 n = ([], p, 8)) := ⟨by unfold Var.rRaw; rw [if_pos rfl, if_neg hn, if_pos (by rw [data_len]; exact hl)]⟩
      have HS := Kp.mk (h.drew.set2 8)
      have hc := h.drew.c2
      have hf := h.drew.free 2
      clear h
      go_enter Tryd.func75, Tryd.ntmps75
      go_wp2_with fail
      refine HG.out.mono ?_
      rintro e w' ⟨rfl, rfl⟩
      go_wp2_with fail
      refine HL.out.mono ?_
      rintro e w' ⟨rfl, rfl⟩
      go_wp2
      go_ret
      exact ⟨by rw [HV.out]; rfl, by rw [HV.out]; exact HS.out, grown_trans' (grown_drew w _) (grown_set _ _ _ _)⟩
    obtain ⟨m, rfl⟩ := Int.eq_ofNat_of_zero_le (show 0 ≤ n by omega)
    have hpm : p + m ≤ s.size := by omega
    have HV : Kp (Var.rRaw s.data.toList p 0 m = ((s.data.toList.drop p).take m, p + m, 0)) := ⟨by unfold Var.rRaw; rw [if_pos rfl, if_neg hn, if_neg (by rw [data_len]; exact hl)]; rfl⟩
    have HX : Kp (s.extract p (p + m) = B ((s.data.toList.drop p).take m)) := ⟨bytes_ext (by rw [extract_list, B_list])⟩
    have hset := h.drew.set1 (p + m)
    have HS := Kp.mk hset
    have hc := h.drew.c1
    have hf := h.drew.free 1
    have hcast : (((p + m : Nat) : Int)) = (p : Int) + m := Int.natCast_add p m
    have hs2 := h.set1 (p + m)
    have hd0 : (w.setCell ⟨g, 1, none⟩ (.int .i64 ((p : Int) + m))).drew.drew.cell? ⟨g, 0, none⟩ = some (.string s) := by rw [← hcast]; exact hs2.drew.drew.c0
    have hd1 : (w.setCell ⟨g, 1, none⟩ (.int .i64 ((p : Int) + m))).drew.drew.cell? ⟨g, 1, none⟩ = some (.int .i64 ((p : Int) + m)) := by rw [← hcast]; exact hs2.drew.drew.c1
    rw [hcast] at HS
    clear hs2
    clear h hset hn hl
    go_enter Tryd.func75, Tryd.ntmps75
    go_wp2_with fail
    refine HG.out.mono ?_
    rintro e w' ⟨rfl, rfl⟩
    go_wp2_with fail
    refine HL.out.mono ?_
    rintro e w' ⟨rfl, rfl⟩
    go_wp2
    obtain ⟨q, hq⟩ : ∃ q : Int, (p : Int) + m = q := ⟨_, rfl⟩
    obtain ⟨M, hM⟩ : ∃ M : Int, (m : Int) = M := ⟨_, rfl⟩
    obtain ⟨P, hP⟩ : ∃ P : Int, (p : Int) = P := ⟨_, rfl⟩
    have hw : wrap64 (q - M) = P := by rw [← hq, ← hM, ← hP, Int.add_sub_cancel]; unfold wrap64; omega
    have hP0 : 0 ≤ P := by omega
    have hPq : P ≤ q := by omega
    have hqs : q ≤ (s.size : Int) := by omega
    have hPn : Kp (P.toNat = p) := ⟨by omega⟩
    have hqn : Kp (q.toNat = p + m) := ⟨by omega⟩
    rw [hq] at hd0 hd1 HS ⊢
    rw [hM]
    clear hM hP hq hpm hcast
    have HX2 : Kp (s.extract P.toNat q.toNat = B ((s.data.toList.drop p).take m)) := ⟨by rw [hPn.out, hqn.out]; exact HX.out⟩
    go_region
    go_wp2
    go_ret
    exact ⟨by rw [HV.out, ← HX2.out]; rfl, by rw [HV.out]; exact HS.out.drew, grown_trans' (grown_trans' (grown_drew w _) (grown_set _ _ _ _)) (grown_drew _ _)⟩
  · have HV : Kp (Var.rRaw s.data.toList p e n = ([], p, e)) := ⟨by unfold Var.rRaw; rw [if_neg he]⟩
    have hd : decide (e = 0) = false := by simp [he]
    rw [hd] at HG
    clear h
    go_enter Tryd.func75, Tryd.ntmps75
    go_wp2_with fail
    refine HG.out.mono ?_
    rintro e w' ⟨rfl, rfl⟩
    go_wp2
    go_ret
    exact ⟨by rw [HV.out]; rfl, by rw [HV.out]; exact h'.out, World.grownBy.refl _ _⟩
namespace Var
/-- A reader's text, of most bytes at most. -/
def rText (l : List UInt8) (p e : Nat) (most : Int) : List UInt8 × Nat × Nat :=
  if e = 0 then
    (if (rVarint l p 0 most.toNat).2.2 = 0 then
      (if l.length - (rVarint l p 0 most.toNat).2.1 < (rVarint l p 0 most.toNat).1 then ([], p, 8)
       else rRaw l (rVarint l p 0 most.toNat).2.1 0 ((rVarint l p 0 most.toNat).1 : Nat))
     else ([], (rVarint l p 0 most.toNat).2.1, (rVarint l p 0 most.toNat).2.2))
  else ([], p, e)
theorem rVarint_facts (l : List UInt8) (p most : Nat) (hp : p ≤ l.length) : (rVarint l p 0 most).1 < 18446744073709551616 ∧ (rVarint l p 0 most).2.1 ≤ l.length ∧ (rVarint l p 0 most).2.2 ≤ 40 ∧ p ≤ (rVarint l p 0 most).2.1 ∧ (rVarint l p 0 most).1 ≤ most := by
  obtain ⟨h1, h2, h3, h4⟩ := uvI_facts l p hp
  unfold rVarint
  rw [if_pos rfl]
  split
  · split
    · simp; omega
    · simp; omega
  · simp; omega
end Var
end Go.Proofs.YtjpkncfmionieaaDoor
/- The walks of package bits, part 8: Reader's Text, End, New. -/
namespace Go.Proofs.YtjpkncfmionieaaDoor
open Go.RowKit
set_option linter.unusedVariables false

theorem End_any (g : Nat) (s : ByteArray) (p e : Nat) (w : World) (h : Rd w g s p e) (hp : p ≤ s.size) (hs : s.size ≤ 140737488351232) :
    Calls Tryd.prog 43 #[.pointer (some ⟨g, 0, none⟩)] w fun r w' => r = .returned (.int .i64 ((if e = 0 ∧ p < s.size then 4 else e : Nat) : Int)) ∧ (w' = w ∨ w' = w.drew) := by
  have HE := Kp.mk (Err_any g s p e w h)
  have HL := Kp.mk (Left_any g s p e w h hp hs)
  by_cases he : e = 0
  · subst he
    by_cases hl : p < s.size
    · have hv : Kp ((if 0 = 0 ∧ p < s.size then 4 else 0) = 4) := ⟨if_pos ⟨rfl, hl⟩⟩
      rw [hv.out]
      obtain ⟨d, hd⟩ : ∃ d, s.size - p = d + 1 := ⟨s.size - p - 1, by omega⟩
      rw [hd] at HL
      clear h hd hv hl
      go_enter Tryd.func43, Tryd.ntmps43
      go_wp2_with fail
      refine HE.out.mono ?_
      rintro e w' ⟨rfl, rfl⟩
      go_wp2_with fail
      refine HL.out.mono ?_
      rintro e w' ⟨rfl, rfl⟩
      go_wp2
      go_ret
      exact ⟨rfl, .inr rfl⟩
    · have hv : Kp ((if 0 = 0 ∧ p < s.size then 4 else 0) = 0) := ⟨if_neg (fun h => hl h.2)⟩
      have hz : s.size - p = 0 := by omega
      rw [hz] at HL
      rw [hv.out]
      clear h hz hv hl
      go_enter Tryd.func43, Tryd.ntmps43
      go_wp2_with fail
      refine HE.out.mono ?_
      rintro e w' ⟨rfl, rfl⟩
      go_wp2_with fail
      refine HL.out.mono ?_
      rintro e w' ⟨rfl, rfl⟩
      go_wp2
      go_ret
      exact ⟨rfl, .inr rfl⟩
  · have hv : Kp ((if e = 0 ∧ p < s.size then 4 else e) = e) := ⟨if_neg (fun h => he h.1)⟩
    have t1 : ((e : Int) != 0) = true := by rw [bne_iff_ne]; omega
    rw [hv.out]
    clear h hv
    go_enter Tryd.func43, Tryd.ntmps43
    go_wp2_with fail
    refine HE.out.mono ?_
    rintro e w' ⟨rfl, rfl⟩
    go_wp2
    go_ret
    exact ⟨rfl, .inl rfl⟩
theorem New_any (s : ByteArray) (w : World) :
    Calls Tryd.prog 41 #[.string s] w fun r w' => r = .returned (.pointer (some ⟨w.heap.size, 0, none⟩)) ∧ Rd w' w.heap.size s 0 0 ∧ Below w.heap.size w w' := by
  go_enter Tryd.func41, Tryd.ntmps41
  go_wp2
  go_ret
  refine ⟨rfl, ?_, ?_⟩
  · show (w.heap.push _)[w.heap.size]? = _
    simp
  · exact (Below.refl _ _).alloc (Nat.le_refl _) _
end Go.Proofs.YtjpkncfmionieaaDoor
