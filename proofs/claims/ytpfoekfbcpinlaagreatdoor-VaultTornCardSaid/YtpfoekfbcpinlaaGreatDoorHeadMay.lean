/- The walks of package bits, part 4: a Reader, as it lies in memory, and its small methods. -/
import Derived.Test.YtpfoekfbcpinlaaGreatDoorBitsAwake
import Derived.Deep.RegionHeld3
import Derived.WalkKit
import Derived.OwnWalk
import Derived.Laws.AppendOwn
import Derived.Laws.OwnMore
import Derived.Maps.AppendAt
import Derived.Below
import Derived.ArgAppend
import Derived.OneCell
import Derived.KernelRfl
namespace Go.Proofs.YtpfoekfbcpinlaaGreatDoor
open Go.RowKit
set_option linter.unusedVariables false

/-- A Reader lies in block g. -/
def Rd (w : World) (g : Nat) (s : ByteArray) (p e : Nat) : Prop := w.heap[g]? = some (.cells #[.string s, .int .i64 p, .int .i64 e] 165 (0, 0))
theorem Rd.c0 {w : World} {g : Nat} {s : ByteArray} {p e : Nat} (h : Rd w g s p e) : w.cell? ⟨g, 0, none⟩ = some (.string s) := by unfold Rd at h; simp [World.cell?, h]
theorem Rd.c1 {w : World} {g : Nat} {s : ByteArray} {p e : Nat} (h : Rd w g s p e) : w.cell? ⟨g, 1, none⟩ = some (.int .i64 p) := by unfold Rd at h; simp [World.cell?, h]
theorem Rd.c2 {w : World} {g : Nat} {s : ByteArray} {p e : Nat} (h : Rd w g s p e) : w.cell? ⟨g, 2, none⟩ = some (.int .i64 e) := by unfold Rd at h; simp [World.cell?, h]
theorem Rd.free {w : World} {g : Nat} {s : ByteArray} {p e : Nat} (h : Rd w g s p e) (j : Nat) : w.frozen? ⟨g, j, none⟩ = false := by unfold Rd at h; simp [World.frozen?, h]
theorem Rd.lt {w : World} {g : Nat} {s : ByteArray} {p e : Nat} (h : Rd w g s p e) : g < w.heap.size := lt_of_block h
theorem Rd.drew {w : World} {g : Nat} {s : ByteArray} {p e : Nat} (h : Rd w g s p e) : Rd w.drew g s p e := h
theorem Rd.set1 {w : World} {g : Nat} {s : ByteArray} {p e : Nat} (h : Rd w g s p e) (q : Nat) : Rd (w.setCell ⟨g, 1, none⟩ (.int .i64 q)) g s q e := by
  have hlt := h.lt
  unfold Rd at *
  show (w.heap.modify g _)[g]? = _
  rw [Array.getElem?_modify]
  simp [h]
theorem Rd.set2 {w : World} {g : Nat} {s : ByteArray} {p e : Nat} (h : Rd w g s p e) (q : Nat) : Rd (w.setCell ⟨g, 2, none⟩ (.int .i64 q)) g s p q := by
  have hlt := h.lt
  unfold Rd at *
  show (w.heap.modify g _)[g]? = _
  rw [Array.getElem?_modify]
  simp [h]
theorem grown_set (w : World) (g j : Nat) (v : Value) : w.grownBy (w.setCell ⟨g, j, none⟩ v) (some g) :=
  ⟨rfl, rfl, rfl, by simp, fun k _ hne => Below.heap_setCell w ⟨g, j, none⟩ v k (fun e => hne (by rw [e]))⟩
theorem Err_any (g : Nat) (s : ByteArray) (p e : Nat) (w : World) (h : Rd w g s p e) :
    Calls Tryz.prog 142 #[.pointer (some ⟨g, 0, none⟩)] w fun r w' => r = .returned (.int .i64 e) ∧ w = w' := by
  have hc := h.c2
  clear h
  go_enter Tryz.func142, Tryz.ntmps142
  go_wp2
  go_ret
  exact ⟨rfl, rfl⟩
theorem Left_any (g : Nat) (s : ByteArray) (p e : Nat) (w : World) (h : Rd w g s p e) (hp : p ≤ s.size) (hs : s.size ≤ 140737488351232) :
    Calls Tryz.prog 127 #[.pointer (some ⟨g, 0, none⟩)] w fun r w' => r = .returned (.int .i64 ((s.size - p : Nat) : Int)) ∧ w.drew = w' := by
  have hc0 := h.drew.c0
  have hc1 := h.drew.c1
  have hd : ((s.size - p : Nat) : Int) = (s.size : Int) - p := by omega
  rw [hd]
  clear h
  go_enter Tryz.func127, Tryz.ntmps127
  go_wp2
  go_region
  all_goals go_wp2
  all_goals go_ret
  all_goals exact ⟨rfl, rfl⟩
theorem good_any (g : Nat) (s : ByteArray) (p e : Nat) (w : World) (h : Rd w g s p e) :
    Calls Tryz.prog 137 #[.pointer (some ⟨g, 0, none⟩)] w fun r w' => r = .returned (.bool (decide (e = 0))) ∧ w = w' := by
  have hc := h.c2
  clear h
  go_enter Tryz.func137, Tryz.ntmps137
  go_wp2
  go_ret
  refine ⟨ret_bool ?_, rfl⟩
  rw [Bool.eq_iff_iff]; simp
theorem take_any (g : Nat) (s : ByteArray) (p e : Nat) (q e1 : Nat) (w : World) (h : Rd w g s p e) :
    Calls Tryz.prog 139 #[.pointer (some ⟨g, 0, none⟩), .int .i64 q, .int .i64 e1] w fun r w' => r = .returned (.bool (decide (e1 = 0))) ∧ (if e1 = 0 then Rd w' g s q e else Rd w' g s p e1) ∧ w.grownBy w' (some g) := by
  by_cases h0 : e1 = 0
  · subst h0
    have HR := Kp.mk (h.set1 q)
    have hc := h.c1
    have hf := h.free 1
    clear h
    go_enter Tryz.func139, Tryz.ntmps139
    go_wp2
    go_ret
    exact ⟨rfl, HR.out, grown_set _ _ _ _⟩
  · have HR := Kp.mk (h.set2 e1)
    have hc := h.c2
    have hf := h.free 2
    have t : ((e1 : Int) != 0) = true := by rw [bne_iff_ne]; omega
    clear h
    go_enter Tryz.func139, Tryz.ntmps139
    go_wp2
    go_ret
    exact ⟨by simp, HR.out, grown_set _ _ _ _⟩
end Go.Proofs.YtpfoekfbcpinlaaGreatDoor
/- The walks of package bits, part 5: what a Reader reads. -/
namespace Go.Proofs.YtpfoekfbcpinlaaGreatDoor
open Go.RowKit
set_option linter.unusedVariables false

namespace Var
/-- A reader's varint: the number, where it stands, its error. -/
def rVarint (l : List UInt8) (p e most : Nat) : Nat × Nat × Nat :=
  if e = 0 then (if (uvI l p).2.2 = 0 then (if most < (uvI l p).1 then (0, p, 40) else ((uvI l p).1, (uvI l p).2.1, 0)) else (0, p, (uvI l p).2.2)) else (0, p, e)
theorem uvI_facts (l : List UInt8) (p : Nat) (hp : p ≤ l.length) : (uvI l p).1 < 18446744073709551616 ∧ (uvI l p).2.1 ≤ l.length ∧ (uvI l p).2.2 ≤ 8 ∧ ((uvI l p).2.2 = 0 → p < (uvI l p).2.1) := by
  have h := uv_bounds (l := l.drop p) 0 0 (by omega) (by simp)
  obtain ⟨h1, h2, h3, h4, h5⟩ := h
  have e : uvI l p = ((go (l.drop p) 0 0).1, if (go (l.drop p) 0 0).2.2 = 0 then p + (go (l.drop p) 0 0).2.1 else 0, (go (l.drop p) 0 0).2.2) := by
    unfold uvI
    rw [if_neg (by simp; omega), Int.toNat_natCast]
    rfl
  rw [e]
  simp only [List.length_drop] at h2
  refine ⟨by simpa using h1, ?_, ?_, ?_⟩
  · show (if (go (l.drop p) 0 0).2.2 = 0 then p + (go (l.drop p) 0 0).2.1 else 0) ≤ l.length
    split <;> omega
  · show (go (l.drop p) 0 0).2.2 ≤ 8
    omega
  · show (go (l.drop p) 0 0).2.2 = 0 → p < (if (go (l.drop p) 0 0).2.2 = 0 then p + (go (l.drop p) 0 0).2.1 else 0)
    intro h
    rw [if_pos h]
    have := h5 h
    omega
end Var
theorem grown_trans' {w w1 w2 : World} {row : Option Nat} (h : w.grownBy w1 row) (h1 : w1.grownBy w2 row) : w.grownBy w2 row :=
  ⟨h1.os.trans h.os, h1.tape.trans h.tape, h1.output.trans h.output, Nat.le_trans h.size h1.size, fun k hk hne => by rw [h1.block k (Nat.lt_of_lt_of_le hk h.size) hne, h.block k hk hne]⟩
theorem grown_drew (w : World) (row : Option Nat) : w.grownBy w.drew row := ⟨rfl, rfl, rfl, Nat.le_refl _, fun _ _ _ => rfl⟩
set_option maxRecDepth 20000 in
theorem Varint_any (g : Nat) (s : ByteArray) (p e most : Nat) (w : World) (h : Rd w g s p e) (hp : p ≤ s.size) (hs : s.size ≤ 140737488351232) (hm : most < 18446744073709551616) :
    Calls Tryz.prog 135 #[.pointer (some ⟨g, 0, none⟩), .int .u64 most] w fun r w' => r = .returned (.int .u64 ((Var.rVarint s.data.toList p e most).1 : Nat)) ∧ Rd w' g s (Var.rVarint s.data.toList p e most).2.1 (Var.rVarint s.data.toList p e most).2.2 ∧ w.grownBy w' (some g) := by
  have HG := Kp.mk (good_any g s p e w h)
  by_cases he : e = 0
  · subst he
    have HU : Kp (∀ w, Calls Tryz.prog 141 #[.string s, .int .i64 p] w fun e w' => e = tup3 (Var.uvI s.data.toList p) ∧ w = w') := ⟨fun w => Uvarint_any s p w hs (by omega) (by omega)⟩
    have hf := Var.uvI_facts s.data.toList p (by rw [data_len]; exact hp)
    unfold tup3 at HU
    unfold Var.rVarint
    rw [if_pos rfl]
    generalize Var.uvI s.data.toList p = x at HU hf ⊢
    obtain ⟨n, k, e1⟩ := x
    obtain ⟨f1, f2, f3, f4⟩ := hf
    simp only [] at f1 f2 f3 f4 ⊢
    rw [data_len] at f2
    have HT : Kp (∀ (q e1 : Nat) (ve : Int), ve = (e1 : Int) → Calls Tryz.prog 139 #[.pointer (some ⟨g, 0, none⟩), .int .i64 (q : Nat), .int .i64 ve] w.drew fun r w' => r = .returned (.bool (decide (e1 = 0))) ∧ (if e1 = 0 then Rd w' g s q 0 else Rd w' g s p e1) ∧ w.drew.grownBy w' (some g)) := ⟨fun q e1 ve hve => by subst hve; exact take_any g s p 0 q e1 w.drew h⟩
    have hc0 := h.drew.c0
    have hc1 := h.drew.c1
    have h' := Kp.mk h
    clear h f4
    obtain ⟨r3, hr3⟩ : ∃ r3, (if e1 = 0 then (if most < n then (0, p, 40) else (n, k, 0)) else (0, p, e1)) = r3 := ⟨_, rfl⟩
    rw [hr3]
    have HR3 := Kp.mk hr3
    clear hr3
    go_enter Tryz.func135, Tryz.ntmps135
    go_wp2_with fail
    refine HG.out.mono ?_
    rintro e w' ⟨rfl, rfl⟩
    go_wp2_with fail
    go_region_held3 (fun w' => w'.cell? ⟨g, 0, none⟩ = some (.string s) ∧ w'.cell? ⟨g, 1, none⟩ = some (.int .i64 p)) (go_keep)
      (first | (go_at_call 141; refine (HU.out _).mono ?_; rintro e w' ⟨rfl, rfl⟩))
    clear hc0 hc1
    by_cases h1 : e1 = 0
    · have t0 : ((e1 : Int) == 0) = true := by rw [beq_iff_eq]; omega
      by_cases h2 : most < n
      · have hr : r3 = (0, p, 40) := by rw [← HR3.out, if_pos h1, if_pos h2]
        go_wp2_with fail
        refine (HT.out k 40 40 rfl).mono ?_
        rintro e w' ⟨rfl, t1, t2⟩
        go_wp2
        go_ret
        exact ⟨by rw [hr]; rfl, by rw [hr]; exact t1, grown_trans' (grown_drew w _) t2⟩
      · have hr : r3 = (n, k, 0) := by rw [← HR3.out, if_pos h1, if_neg h2]
        go_wp2_with fail
        refine (HT.out k 0 0 rfl).mono ?_
        rw [show decide ((0 : Nat) = 0) = true from rfl]
        rintro e w' ⟨rfl, t1, t2⟩
        rw [if_pos rfl] at t1
        go_wp2
        go_ret
        exact ⟨by rw [hr]; rfl, by rw [hr]; exact t1, grown_trans' (grown_drew w _) t2⟩
    · have hr : r3 = (0, p, e1) := by rw [← HR3.out, if_neg h1]
      have t0 : ((e1 : Int) == 0) = false := by rw [beq_eq_false_iff_ne]; omega
      have hd : decide (e1 = 0) = false := by simp [h1]
      go_wp2_with fail
      refine (HT.out k e1 _ rfl).mono ?_
      rw [hd]
      rintro e w' ⟨rfl, t1, t2⟩
      rw [if_neg h1] at t1
      go_wp2
      go_ret
      exact ⟨by rw [hr]; rfl, by rw [hr]; exact t1, grown_trans' (grown_drew w _) t2⟩
  · unfold Var.rVarint
    rw [if_neg he]
    have hd : decide (e = 0) = false := by simp [he]
    rw [hd] at HG
    have h' := Kp.mk h
    clear h
    go_enter Tryz.func135, Tryz.ntmps135
    go_wp2_with fail
    refine HG.out.mono ?_
    rintro e w' ⟨rfl, rfl⟩
    go_wp2
    go_ret
    exact ⟨rfl, h'.out, World.grownBy.refl _ _⟩
end Go.Proofs.YtpfoekfbcpinlaaGreatDoor
/- The walks of package bits, part 6: Reader's Zag, Fixed, Raw. -/
namespace Go.Proofs.YtpfoekfbcpinlaaGreatDoor
open Go.RowKit
set_option linter.unusedVariables false

namespace Var
def rZag (l : List UInt8) (p e : Nat) (least most : Int) : Int × Nat × Nat :=
  if e = 0 then (if (uvI l p).2.2 = 0 then (if zag (uvI l p).1 < least ∨ most < zag (uvI l p).1 then (0, p, 40) else (zag (uvI l p).1, (uvI l p).2.1, 0)) else (0, p, (uvI l p).2.2)) else (0, p, e)
def rFixed (l : List UInt8) (p e : Nat) (size : Int) : Nat × Nat × Nat :=
  if e = 0 then (if (fixI l p size).2.2 = 0 then fixI l p size else (0, p, (fixI l p size).2.2)) else (0, p, e)
def rRaw (l : List UInt8) (p e : Nat) (n : Int) : List UInt8 × Nat × Nat :=
  if e = 0 then (if n < 0 then ([], p, 1) else if ((l.length - p : Nat) : Int) < n then ([], p, 8) else ((l.drop p).take n.toNat, p + n.toNat, 0)) else ([], p, e)
theorem fixI_facts (l : List UInt8) (p : Nat) (size : Int) (hp : p ≤ l.length) : (fixI l p size).1 < 18446744073709551616 ∧ (fixI l p size).2.1 ≤ l.length ∧ (fixI l p size).2.2 ≤ 8 ∧ ((fixI l p size).2.2 = 0 → p < (fixI l p size).2.1) ∧ ((fixI l p size).2.2 ≠ 0 → (fixI l p size).1 = 0) := by
  unfold fixI
  split
  · simp
  · rename_i h1
    split
    · simp
    · rename_i h2
      have hz : size.toNat = 4 ∨ size.toNat = 8 := by omega
      have hlen : ((l.drop (p : Int).toNat).take size.toNat).length = size.toNat := by simp; omega
      have hf := fv_lt ((l.drop (p : Int).toNat).take size.toNat)
      rw [hlen] at hf
      refine ⟨?_, by simp; omega, by simp, fun _ => by simp; omega, fun h => absurd rfl h⟩
      have : 256 ^ size.toNat ≤ 256 ^ 8 := Nat.pow_le_pow_right (by decide) (by omega)
      have e : 256 ^ 8 = 18446744073709551616 := rfl
      show fv _ < _
      omega
end Var
set_option maxRecDepth 20000 in
theorem RFixed_any (g : Nat) (s : ByteArray) (p e : Nat) (size : Int) (w : World) (h : Rd w g s p e) (hp : p ≤ s.size) (hs : s.size ≤ 140737488351232) :
    Calls Tryz.prog 126 #[.pointer (some ⟨g, 0, none⟩), .int .i64 size] w fun r w' => r = .returned (.int .u64 ((Var.rFixed s.data.toList p e size).1 : Nat)) ∧ Rd w' g s (Var.rFixed s.data.toList p e size).2.1 (Var.rFixed s.data.toList p e size).2.2 ∧ w.grownBy w' (some g) := by
  have HG := Kp.mk (good_any g s p e w h)
  by_cases he : e = 0
  · subst he
    have HU : Kp (∀ w, Calls Tryz.prog 138 #[.string s, .int .i64 p, .int .i64 size] w fun e w' => e = tup3 (Var.fixI s.data.toList p size) ∧ w = w') := ⟨fun w => Fixed_any s p size w hs (by omega) (by omega)⟩
    have hf := Var.fixI_facts s.data.toList p size (by rw [data_len]; exact hp)
    unfold tup3 at HU
    unfold Var.rFixed
    rw [if_pos rfl]
    generalize Var.fixI s.data.toList p size = x at HU hf ⊢
    obtain ⟨n, k, e1⟩ := x
    obtain ⟨f1, f2, f3, f4, f5⟩ := hf
    simp only [] at f1 f2 f3 f4 f5 ⊢
    rw [data_len] at f2
    have HT : Kp (∀ (q e1 : Nat) (ve : Int), ve = (e1 : Int) → Calls Tryz.prog 139 #[.pointer (some ⟨g, 0, none⟩), .int .i64 (q : Nat), .int .i64 ve] w.drew fun r w' => r = .returned (.bool (decide (e1 = 0))) ∧ (if e1 = 0 then Rd w' g s q 0 else Rd w' g s p e1) ∧ w.drew.grownBy w' (some g)) := ⟨fun q e1 ve hve => by subst hve; exact take_any g s p 0 q e1 w.drew h⟩
    have hc0 := h.drew.c0
    have hc1 := h.drew.c1
    have h' := Kp.mk h
    have f5' := Kp.mk f5
    clear h f4 f5
    obtain ⟨r3, hr3⟩ : ∃ r3, (if e1 = 0 then (n, k, e1) else (0, p, e1)) = r3 := ⟨_, rfl⟩
    rw [hr3]
    have HR3 := Kp.mk hr3
    clear hr3
    go_enter Tryz.func126, Tryz.ntmps126
    go_wp2_with fail
    refine HG.out.mono ?_
    rintro e w' ⟨rfl, rfl⟩
    go_wp2_with fail
    go_region_held3 (fun w' => w'.cell? ⟨g, 0, none⟩ = some (.string s) ∧ w'.cell? ⟨g, 1, none⟩ = some (.int .i64 p)) (go_keep)
      (first | (go_at_call 138; refine (HU.out _).mono ?_; rintro e w' ⟨rfl, rfl⟩))
    clear hc0 hc1
    by_cases h1 : e1 = 0
    · have hr : Kp (r3 = (n, k, e1)) := ⟨by rw [← HR3.out, if_pos h1]⟩
      have h1' := Kp.mk h1
      clear h1
      go_wp2_with fail
      refine (HT.out k e1 _ rfl).mono ?_
      rintro e w' ⟨rfl, t1, t2⟩
      rw [if_pos h1'.out] at t1
      go_wp2
      go_ret
      exact ⟨by rw [hr.out]; rfl, by rw [hr.out, h1'.out]; exact t1, grown_trans' (grown_drew w _) t2⟩
    · have hr : r3 = (0, p, e1) := by rw [← HR3.out, if_neg h1]
      have hn0 : n = 0 := f5'.out h1
      go_wp2_with fail
      refine (HT.out k e1 _ rfl).mono ?_
      rintro e w' ⟨rfl, t1, t2⟩
      rw [if_neg h1] at t1
      go_wp2
      go_ret
      exact ⟨by rw [hr]; rfl, by rw [hr]; exact t1, grown_trans' (grown_drew w _) t2⟩
  · unfold Var.rFixed
    rw [if_neg he]
    have hd : decide (e = 0) = false := by simp [he]
    rw [hd] at HG
    have h' := Kp.mk h
    clear h
    go_enter Tryz.func126, Tryz.ntmps126
    go_wp2_with fail
    refine HG.out.mono ?_
    rintro e w' ⟨rfl, rfl⟩
    go_wp2
    go_ret
    exact ⟨rfl, h'.out, World.grownBy.refl _ _⟩
end Go.Proofs.YtpfoekfbcpinlaaGreatDoor
/- The walks of package bits, part 7: Reader's Raw, Byte, Text, End, New. -/
namespace Go.Proofs.YtpfoekfbcpinlaaGreatDoor
open Go.RowKit
set_option linter.unusedVariables false

theorem bytes_ext {a b : ByteArray} (h : a.data.toList = b.data.toList) : a = b := by
  obtain ⟨⟨a⟩⟩ := a
  obtain ⟨⟨b⟩⟩ := b
  simp at h
  subst h
  rfl
set_option maxRecDepth 20000 in
theorem Raw_any (g : Nat) (s : ByteArray) (p e : Nat) (n : Int) (w : World) (h : Rd w g s p e) (hp : p ≤ s.size) (hs : s.size ≤ 140737488351232) :
    Calls Tryz.prog 128 #[.pointer (some ⟨g, 0, none⟩), .int .i64 n] w fun r w' => r = .returned (.string (B (Var.rRaw s.data.toList p e n).1)) ∧ Rd w' g s (Var.rRaw s.data.toList p e n).2.1 (Var.rRaw s.data.toList p e n).2.2 ∧ w.grownBy w' (some g) := by
  have HG := Kp.mk (good_any g s p e w h)
  have HL := Kp.mk (Left_any g s p e w h hp hs)
  have h' := Kp.mk h
  by_cases he : e = 0
  · subst he
    have HG : Kp _ := HG
    by_cases hn : n < 0
    · have HV : Kp (Var.rRaw s.data.toList p 0 n = ([], p, 1)) := ⟨by simp [Var.rRaw, hn]⟩
      have HS := Kp.mk (h.set2 1)
      have hc := h.c2
      have hf := h.free 2
      clear h
      go_enter Tryz.func128, Tryz.ntmps128
      go_wp2_with fail
      refine HG.out.mono ?_
      rintro e w' ⟨rfl, rfl⟩
      go_wp2
      go_ret
      exact ⟨by rw [HV.out]; rfl, by rw [HV.out]; exact HS.out, grown_set _ _ _ _⟩
    by_cases hl : ((s.size - p : Nat) : Int) < n
    · have HV : Kp (Var.rRaw s.data.toList p 0 n = ([], p, 8)) := ⟨by unfold Var.rRaw; rw [if_pos rfl, if_neg hn, if_pos (by rw [data_len]; exact hl)]⟩
      have HS := Kp.mk (h.drew.set2 8)
      have hc := h.drew.c2
      have hf := h.drew.free 2
      clear h
      go_enter Tryz.func128, Tryz.ntmps128
      go_wp2_with fail
      refine HG.out.mono ?_
      rintro e w' ⟨rfl, rfl⟩
      go_wp2_with fail
      refine HL.out.mono ?_
      rintro e w' ⟨rfl, rfl⟩
      go_wp2
      go_ret
      exact ⟨by rw [HV.out]; rfl, by rw [HV.out]; exact HS.out, grown_trans' (grown_drew w _) (grown_set _ _ _ _)⟩
    obtain ⟨m, rfl⟩ := Int.eq_ofNat_of_zero_le (show 0 ≤ n by omega)
    have hpm : p + m ≤ s.size := by omega
    have HV : Kp (Var.rRaw s.data.toList p 0 m = ((s.data.toList.drop p).take m, p + m, 0)) := ⟨by unfold Var.rRaw; rw [if_pos rfl, if_neg hn, if_neg (by rw [data_len]; exact hl)]; rfl⟩
    have HX : Kp (s.extract p (p + m) = B ((s.data.toList.drop p).take m)) := ⟨bytes_ext (by rw [extract_list, B_list])⟩
    have hset := h.drew.set1 (p + m)
    have HS := Kp.mk hset
    have hc := h.drew.c1
    have hf := h.drew.free 1
    have hcast : (((p + m : Nat) : Int)) = (p : Int) + m := Int.natCast_add p m
    have hs2 := h.set1 (p + m)
    have hd0 : (w.setCell ⟨g, 1, none⟩ (.int .i64 ((p : Int) + m))).drew.drew.cell? ⟨g, 0, none⟩ = some (.string s) := by rw [← hcast]; exact hs2.drew.drew.c0
    have hd1 : (w.setCell ⟨g, 1, none⟩ (.int .i64 ((p : Int) + m))).drew.drew.cell? ⟨g, 1, none⟩ = some (.int .i64 ((p : Int) + m)) := by rw [← hcast]; exact hs2.drew.drew.c1
    rw [hcast] at HS
    clear hs2
    clear h hset hn hl
    go_enter Tryz.func128, Tryz.ntmps128
    go_wp2_with fail
    refine HG.out.mono ?_
    rintro e w' ⟨rfl, rfl⟩
    go_wp2_with fail
    refine HL.out.mono ?_
    rintro e w' ⟨rfl, rfl⟩
    go_wp2
    obtain ⟨q, hq⟩ : ∃ q : Int, (p : Int) + m = q := ⟨_, rfl⟩
    obtain ⟨M, hM⟩ : ∃ M : Int, (m : Int) = M := ⟨_, rfl⟩
    obtain ⟨P, hP⟩ : ∃ P : Int, (p : Int) = P := ⟨_, rfl⟩
    have hw : wrap64 (q - M) = P := by rw [← hq, ← hM, ← hP, Int.add_sub_cancel]; unfold wrap64; omega
    have hP0 : 0 ≤ P := by omega
    have hPq : P ≤ q := by omega
    have hqs : q ≤ (s.size : Int) := by omega
    have hPn : Kp (P.toNat = p) := ⟨by omega⟩
    have hqn : Kp (q.toNat = p + m) := ⟨by omega⟩
    rw [hq] at hd0 hd1 HS ⊢
    rw [hM]
    clear hM hP hq hpm hcast
    have HX2 : Kp (s.extract P.toNat q.toNat = B ((s.data.toList.drop p).take m)) := ⟨by rw [hPn.out, hqn.out]; exact HX.out⟩
    go_region
    go_wp2
    go_ret
    exact ⟨by rw [HV.out, ← HX2.out]; rfl, by rw [HV.out]; exact HS.out.drew, grown_trans' (grown_trans' (grown_drew w _) (grown_set _ _ _ _)) (grown_drew _ _)⟩
  · have HV : Kp (Var.rRaw s.data.toList p e n = ([], p, e)) := ⟨by unfold Var.rRaw; rw [if_neg he]⟩
    have hd : decide (e = 0) = false := by simp [he]
    rw [hd] at HG
    clear h
    go_enter Tryz.func128, Tryz.ntmps128
    go_wp2_with fail
    refine HG.out.mono ?_
    rintro e w' ⟨rfl, rfl⟩
    go_wp2
    go_ret
    exact ⟨by rw [HV.out]; rfl, by rw [HV.out]; exact h'.out, World.grownBy.refl _ _⟩
namespace Var
/-- A reader's text, of most bytes at most. -/
def rText (l : List UInt8) (p e : Nat) (most : Int) : List UInt8 × Nat × Nat :=
  if e = 0 then
    (if (rVarint l p 0 most.toNat).2.2 = 0 then
      (if l.length - (rVarint l p 0 most.toNat).2.1 < (rVarint l p 0 most.toNat).1 then ([], p, 8)
       else rRaw l (rVarint l p 0 most.toNat).2.1 0 ((rVarint l p 0 most.toNat).1 : Nat))
     else ([], (rVarint l p 0 most.toNat).2.1, (rVarint l p 0 most.toNat).2.2))
  else ([], p, e)
theorem rVarint_facts (l : List UInt8) (p most : Nat) (hp : p ≤ l.length) : (rVarint l p 0 most).1 < 18446744073709551616 ∧ (rVarint l p 0 most).2.1 ≤ l.length ∧ (rVarint l p 0 most).2.2 ≤ 40 ∧ p ≤ (rVarint l p 0 most).2.1 ∧ (rVarint l p 0 most).1 ≤ most := by
  obtain ⟨h1, h2, h3, h4⟩ := uvI_facts l p hp
  unfold rVarint
  rw [if_pos rfl]
  split
  · split
    · simp; omega
    · simp; omega
  · simp; omega
end Var
end Go.Proofs.YtpfoekfbcpinlaaGreatDoor
/- The walks of package bits, part 8: Reader's Text, End, New. -/
namespace Go.Proofs.YtpfoekfbcpinlaaGreatDoor
open Go.RowKit
set_option linter.unusedVariables false

theorem End_any (g : Nat) (s : ByteArray) (p e : Nat) (w : World) (h : Rd w g s p e) (hp : p ≤ s.size) (hs : s.size ≤ 140737488351232) :
    Calls Tryz.prog 136 #[.pointer (some ⟨g, 0, none⟩)] w fun r w' => r = .returned (.int .i64 ((if e = 0 ∧ p < s.size then 4 else e : Nat) : Int)) ∧ (w' = w ∨ w' = w.drew) := by
  have HE := Kp.mk (Err_any g s p e w h)
  have HL := Kp.mk (Left_any g s p e w h hp hs)
  by_cases he : e = 0
  · subst he
    by_cases hl : p < s.size
    · have hv : Kp ((if 0 = 0 ∧ p < s.size then 4 else 0) = 4) := ⟨if_pos ⟨rfl, hl⟩⟩
      rw [hv.out]
      obtain ⟨d, hd⟩ : ∃ d, s.size - p = d + 1 := ⟨s.size - p - 1, by omega⟩
      rw [hd] at HL
      clear h hd hv hl
      go_enter Tryz.func136, Tryz.ntmps136
      go_wp2_with fail
      refine HE.out.mono ?_
      rintro e w' ⟨rfl, rfl⟩
      go_wp2_with fail
      refine HL.out.mono ?_
      rintro e w' ⟨rfl, rfl⟩
      go_wp2
      go_ret
      exact ⟨rfl, .inr rfl⟩
    · have hv : Kp ((if 0 = 0 ∧ p < s.size then 4 else 0) = 0) := ⟨if_neg (fun h => hl h.2)⟩
      have hz : s.size - p = 0 := by omega
      rw [hz] at HL
      rw [hv.out]
      clear h hz hv hl
      go_enter Tryz.func136, Tryz.ntmps136
      go_wp2_with fail
      refine HE.out.mono ?_
      rintro e w' ⟨rfl, rfl⟩
      go_wp2_with fail
      refine HL.out.mono ?_
      rintro e w' ⟨rfl, rfl⟩
      go_wp2
      go_ret
      exact ⟨rfl, .inr rfl⟩
  · have hv : Kp ((if e = 0 ∧ p < s.size then 4 else e) = e) := ⟨if_neg (fun h => he h.1)⟩
    have t1 : ((e : Int) != 0) = true := by rw [bne_iff_ne]; omega
    rw [hv.out]
    clear h hv
    go_enter Tryz.func136, Tryz.ntmps136
    go_wp2_with fail
    refine HE.out.mono ?_
    rintro e w' ⟨rfl, rfl⟩
    go_wp2
    go_ret
    exact ⟨rfl, .inl rfl⟩
theorem New_any (s : ByteArray) (w : World) :
    Calls Tryz.prog 125 #[.string s] w fun r w' => r = .returned (.pointer (some ⟨w.heap.size, 0, none⟩)) ∧ Rd w' w.heap.size s 0 0 ∧ Below w.heap.size w w' := by
  go_enter Tryz.func125, Tryz.ntmps125
  go_wp2
  go_ret
  refine ⟨rfl, ?_, ?_⟩
  · show (w.heap.push _)[w.heap.size]? = _
    simp
  · exact (Below.refl _ _).alloc (Nat.le_refl _) _
end Go.Proofs.YtpfoekfbcpinlaaGreatDoor
/- A slice that a call may write and append to, whatever made it, of elements of any number of cells: nil, a new row, a cut of one. Its cells, its cuts, append. -/
namespace Go.Proofs.YtpfoekfbcpinlaaGreatDoor
open Go.RowKit
set_option linter.unusedVariables false

/-- The slice v has n elements, whose cells are cs, of z cells each. -/
def RK (z : Nat) (w : World) (v : Value) (n : Nat) (cs : List Value) : Prop :=
  cs.length = n * z ∧ ((v = .slice none 0 0 ∧ n = 0) ∨ ∃ g cap, v = .slice (some ⟨g, 0, none⟩) n cap ∧ n ≤ cap ∧ cap ≤ maxLen ∧
    (0 < cap → g < w.heap.size ∧ (∀ j u, cs[j]? = some u → w.cell? ⟨g, j, none⟩ = some u) ∧ ∀ j, j < cap * z → (w.cell? ⟨g, j, none⟩).isSome = true ∧ w.frozen? ⟨g, j, none⟩ = false))
/-- The block that is written, if something is appended. -/
def blk : Value → Option Nat
  | .slice (some a) _ (_ + 1) => some a.block
  | _ => none
theorem RK.nil (z : Nat) (w : World) : RK z w (.slice none 0 0) 0 [] := ⟨by simp, .inl ⟨rfl, rfl⟩⟩
theorem RK.empty (z : Nat) (w : World) (g : Nat) : RK z w (.slice (some ⟨g, 0, none⟩) 0 0) 0 [] := ⟨by simp, .inr ⟨g, 0, rfl, Nat.le_refl _, by decide, fun h => by omega⟩⟩
theorem RK.drew {z n : Nat} {w : World} {v : Value} {cs : List Value} (h : RK z w v n cs) : RK z w.drew v n cs := h
theorem RK.lt {z n : Nat} {w : World} {v : Value} {cs : List Value} (h : RK z w v n cs) : ∀ k, blk v = some k → k < w.heap.size := by
  intro k hk
  rcases h.2 with ⟨rfl, _⟩ | ⟨g, cap, rfl, _, _, h4⟩
  · simp [blk] at hk
  · cases cap with
    | zero => simp [blk] at hk
    | succ c =>
      simp [blk] at hk
      subst hk
      exact (h4 (by omega)).1
/-- It is kept where its block is. -/
theorem RK.same {z n : Nat} {w w' : World} {v : Value} {cs : List Value} (h : RK z w v n cs) (hz : w.heap.size ≤ w'.heap.size) (hb : ∀ k, blk v = some k → w'.heap[k]? = w.heap[k]?) : RK z w' v n cs := by
  refine ⟨h.1, ?_⟩
  rcases h.2 with h1 | ⟨g, cap, rfl, h2, h3, h4⟩
  · exact .inl h1
  · refine .inr ⟨g, cap, rfl, h2, h3, fun hc => ?_⟩
    obtain ⟨h5, h6, h7⟩ := h4 hc
    have hk := hb g (by cases cap with | zero => omega | succ c => rfl)
    refine ⟨by omega, fun j u hu => ?_, fun j hj => ?_⟩
    · rw [World.cell?_of_block (a := ⟨g, j, none⟩) hk]; exact h6 j u hu
    · rw [World.cell?_of_block (a := ⟨g, j, none⟩) hk, World.frozen?_of_block (a := ⟨g, j, none⟩) hk]; exact h7 j hj
theorem RK.below {z n : Nat} {w w' : World} {v : Value} {cs : List Value} (h : RK z w v n cs) (hb : Below w.heap.size w w') : RK z w' v n cs :=
  h.same hb.size fun k hk => hb.block k (h.lt k hk)
theorem RK.alloc {z n : Nat} {w : World} {v : Value} {cs : List Value} (h : RK z w v n cs) (o : Obj) : RK z (w.alloc o) v n cs := h.below ((Below.refl _ _).alloc (Nat.le_refl _) _)
theorem RK.kept {z n : Nat} {w w' : World} {v : Value} {cs : List Value} {row : Option Nat} (h : RK z w v n cs) (hg : w.grownBy w' row) (hne : ∀ k, blk v = some k → row ≠ some k) : RK z w' v n cs :=
  h.same hg.size fun k hk => hg.block k (h.lt k hk) (fun e => hne k hk e.symm)
theorem RK.set {z n : Nat} {w : World} {v : Value} {cs : List Value} (h : RK z w v n cs) (p : Addr) (u : Value) (hne : ∀ k, blk v = some k → k ≠ p.block) : RK z (w.setCell p u) v n cs :=
  h.same (by simp) fun k hk => Below.heap_setCell w p u k (hne k hk)
theorem RK.len {z n : Nat} {w : World} {v : Value} {cs : List Value} (h : RK z w v n cs) : ∃ ao cap, v = .slice ao n cap ∧ n ≤ cap ∧ cap ≤ maxLen := by
  rcases h.2 with ⟨rfl, rfl⟩ | ⟨g, cap, rfl, h2, h3, _⟩
  · exact ⟨none, 0, rfl, Nat.le_refl _, by decide⟩
  · exact ⟨_, cap, rfl, h2, h3⟩
/-- A cell of it. -/
theorem RK.cell {z n g cap : Nat} {w : World} {cs : List Value} (h : RK z w (.slice (some ⟨g, 0, none⟩) n cap) n cs) (j : Nat) (u : Value) (hj : cs[j]? = some u) : w.cell? ⟨g, j, none⟩ = some u := by
  rcases h.2 with ⟨h1, _⟩ | ⟨g', cap', h1, h2, h3, h4⟩
  · simp at h1
  · simp only [Value.slice.injEq, Option.some.injEq, Addr.mk.injEq, and_true, true_and] at h1
    obtain ⟨rfl, rfl⟩ := h1
    have hl : j < cs.length := by
      rcases Nat.lt_or_ge j cs.length with h | h
      · exact h
      · simp [List.getElem?_eq_none h] at hj
    rw [h.1] at hl
    have : 0 < n := by
      rcases Nat.eq_zero_or_pos n with h | h
      · subst h; simp at hl
      · exact h
    exact (h4 (by omega)).2.1 j u hj
theorem RK.free {z n g cap : Nat} {w : World} {cs : List Value} (h : RK z w (.slice (some ⟨g, 0, none⟩) n cap) n cs) (j : Nat) (hj : j < n * z) : w.frozen? ⟨g, j, none⟩ = false := by
  rcases h.2 with ⟨h1, _⟩ | ⟨g', cap', h1, h2, h3, h4⟩
  · simp at h1
  · simp only [Value.slice.injEq, Option.some.injEq, Addr.mk.injEq, and_true, true_and] at h1
    obtain ⟨rfl, rfl⟩ := h1
    have : 0 < n := by
      rcases Nat.eq_zero_or_pos n with h | h
      · subst h; simp at hj
      · exact h
    exact ((h4 (by omega)).2.2 j (Nat.lt_of_lt_of_le hj (Nat.mul_le_mul_right _ h2))).2
/-- Where an element stands. -/
theorem RK.at_ {z n : Nat} {w : World} {v : Value} {cs : List Value} (h : RK z w v n cs) (hn : 0 < n) : ∃ g cap, v = .slice (some ⟨g, 0, none⟩) n cap ∧ n ≤ cap ∧ cap ≤ maxLen ∧ g < w.heap.size ∧ blk v = some g := by
  rcases h.2 with ⟨_, rfl⟩ | ⟨g, cap, rfl, h2, h3, h4⟩
  · omega
  · exact ⟨g, cap, rfl, h2, h3, (h4 (by omega)).1, by cases cap with | zero => omega | succ c => rfl⟩
/-- v[:i:i]. -/
theorem RK.cut {z n g cap : Nat} {w : World} {cs : List Value} (h : RK z w (.slice (some ⟨g, 0, none⟩) n cap) n cs) (i : Nat) (hi : i ≤ n) : RK z w (.slice (some ⟨g, 0, none⟩) i i) i (cs.take (i * z)) := by
  refine ⟨by rw [List.length_take, h.1]; exact Nat.min_eq_left (Nat.mul_le_mul_right _ hi), .inr ⟨g, i, rfl, Nat.le_refl _, ?_, fun hc => ?_⟩⟩
  · obtain ⟨_, _, h1, h2, h3⟩ := h.len
    simp only [Value.slice.injEq, true_and] at h1
    omega
  · rcases h.2 with ⟨h1, _⟩ | ⟨g', cap', h1, h2, h3, h4⟩
    · simp at h1
    · simp only [Value.slice.injEq, Option.some.injEq, Addr.mk.injEq, and_true, true_and] at h1
      obtain ⟨rfl, rfl⟩ := h1
      obtain ⟨h5, h6, h7⟩ := h4 (by omega)
      refine ⟨h5, fun j u hu => ?_, fun j hj => h7 j (Nat.lt_of_lt_of_le hj (Nat.mul_le_mul_right _ (by omega)))⟩
      rw [List.getElem?_take] at hu
      split at hu
      · exact h6 j u hu
      · cases hu
theorem RK.of_own {z base n : Nat} {e : TypeId} {w : World} {v : Value} {cs : List Value} (h : w.ownsRow base e z v n cs) : RK z w v n cs := by
  refine ⟨h.1, ?_⟩
  rcases h.2 with h1 | ⟨g, cap, cur, rfl, h2, h3, h4, h5, h6, h7⟩
  · exact .inl h1
  · refine .inr ⟨g, cap, rfl, h4, h5, fun _ => ⟨lt_of_block h3, fun j u hu => ?_, fun j hj => ⟨?_, h.frozenAt j⟩⟩⟩
    · have hj : j < n * z := by
        rcases Nat.lt_or_ge j cs.length with h' | h'
        · rw [h.1] at h'; exact h'
        · simp [List.getElem?_eq_none h'] at hu
      rw [h.cellAt j hj]; exact hu
    · have : j < cur.size := by omega
      simp [World.cell?, h3, this]
theorem blk_own {v : Value} {j : Nat} (h : blk v = some j) : v.ownBlock = some j := by
  unfold blk at h
  split at h
  · simpa [Value.ownBlock] using h
  · cases h
/-- The row of v' is v's, or a new one. -/
def Fresh (w : World) (v v' : Value) : Prop := ∀ k, blk v' = some k → blk v = some k ∨ w.heap.size ≤ k
theorem Fresh.refl (w : World) (v : Value) : Fresh w v v := fun _ h => .inl h
/-- append(v, x...), whatever v is, x's cells in memory. -/
theorem run_append_rk {P : Program} {w : World} {v : Value} {z n m : Nat} {cs ks : List Value} (h : RK z w v n cs) (T ty E : TypeId) (i : TypeInfo) (zero : Value) (bytes : Nat) (hT : P.underlying T = some (.slice E)) (hi : P.info? E = some i) (hz : i.zero = some zero) (hsz : i.size = z) (hby : i.bytes = bytes) (hzs : zero.cells.size = z) (hz0 : 0 < z)
    (ad : Addr) (c : Nat) (hkl : ks.length = m * z) (hk : ∀ j u, ks[j]? = some u → w.cell? (ad.add j) = some u) (h1 : ∀ u ∈ ks, u.oneCell' = true) (h63 : n + m ≤ maxLen) (hbytes : (n + m) * bytes ≤ 140737488355328) :
    ∃ v' w', (Builtin.append_ #[T, T] ty #[v, .slice (some ad) m c]).run P w = .ok v' w' ∧ RK z w' v' (n + m) (cs ++ ks) ∧ w.grownBy w' (blk v) ∧ Fresh w v v' := by
  rcases h.2 with ⟨rfl, rfl⟩ | ⟨g, cap, rfl, h2, h3, h4⟩
  · have hcs : cs = [] := List.length_eq_zero_iff.1 (by rw [h.1]; simp)
    subst hcs
    obtain ⟨v', w', hr, ho, hg, _, hb⟩ := run_append_own_at (P := P) w w.heap.size T ty E i zero z bytes hT hi hz hsz hby hzs hz0 (.slice none 0 0) 0 [] (World.ownsRow_nil _ _ _ _) ad m c ks hkl hk h1 h63 hbytes (Nat.le_refl _)
    refine ⟨v', w', hr, RK.of_own ho, hg, fun j hj => .inr ?_⟩
    exact (ho.lt j (blk_own hj)).1
  · by_cases hr : n + m ≤ cap
    · rcases Nat.eq_zero_or_pos cap with hc0 | hc0
      · subst hc0
        obtain ⟨rfl, rfl⟩ : n = 0 ∧ m = 0 := by omega
        have hcs : cs = [] := List.length_eq_zero_iff.1 (by rw [h.1]; simp)
        have hks : ks = [] := List.length_eq_zero_iff.1 (by rw [hkl]; simp)
        subst hcs hks
        have hrun := run_append_room_cells (P := P) w T ty E i hT hi g 0 0 0 ad 0 c [] (by simp) (by simp) (by simp) (by omega) (by simp) (by simp)
        exact ⟨_, _, hrun, h, World.grownBy.refl _ _, Fresh.refl _ _⟩
      · obtain ⟨h5, h6, h7⟩ := h4 hc0
        have hin : ∀ j, j < ks.length → n * z + j < cap * z := fun j hj => by
          rw [hkl] at hj
          have := Nat.mul_le_mul_right z hr
          rw [Nat.add_mul] at this
          omega
        have hrun := run_append_room_cells (P := P) w T ty E i hT hi g 0 n cap ad m c ks (by rw [hsz, hkl]) hk h1 hr (fun j hj => by rw [hsz, Nat.zero_add]; exact (h7 _ (hin j hj)).1) (fun j hj => by rw [hsz, Nat.zero_add]; exact (h7 _ (hin j hj)).2)
        rw [hsz, Nat.zero_add] at hrun
        obtain ⟨f1, f2, f3, f4, f5⟩ := setCells_facts g ks (n * z) w
        have hbk : blk (.slice (some ⟨g, 0, none⟩) n cap) = some g := by cases cap with | zero => omega | succ c => rfl
        have hst := World.cell?_setCells_in g ks (n * z) w (fun j hj => (h7 _ (hin j hj)).1)
        refine ⟨_, _, hrun, ⟨by rw [List.length_append, h.1, hkl, Nat.add_mul], .inr ⟨g, cap, rfl, hr, h3, fun _ => ⟨by rw [f4]; exact h5, fun j u hu => ?_, fun j hj => ?_⟩⟩⟩, ⟨f1, f2, f3, by omega, fun k hk hne => f5 k (fun e => hne (by rw [hbk, e]))⟩, fun k hk => .inl ?_⟩
        · by_cases hj : j < n * z
          · rw [World.cell?_setCells_out g _ _ _ _ (fun _ _ => .inl hj)]
            rw [List.getElem?_append_left (by rw [h.1]; exact hj)] at hu
            exact h6 j u hu
          · obtain ⟨d, rfl⟩ : ∃ d, j = n * z + d := ⟨j - n * z, by omega⟩
            rw [List.getElem?_append_right (by rw [h.1]; omega), h.1, show n * z + d - n * z = d from by omega] at hu
            have hd : d < ks.length := by
              rcases Nat.lt_or_ge d ks.length with h' | h'
              · exact h'
              · simp [List.getElem?_eq_none h'] at hu
            rw [hst d hd, ← hu, List.getElem?_eq_getElem hd]
        · rw [World.frozen?_setCells]
          refine ⟨?_, (h7 j hj).2⟩
          by_cases hj2 : j < n * z ∨ n * z + ks.length ≤ j
          · rw [World.cell?_setCells_out g _ _ _ _ (fun _ _ => hj2)]
            exact (h7 j hj).1
          · obtain ⟨d, rfl⟩ : ∃ d, j = n * z + d := ⟨j - n * z, by omega⟩
            rw [hst d (by omega)]; rfl
        · rw [hbk]
          cases cap with
          | zero => omega
          | succ c => simpa [blk] using hk
    · have holds : ∀ j u, cs[j]? = some u → w.cell? ((⟨g, 0, none⟩ : Addr).add j) = some u := fun j u hu => by
        rw [Addr.add_lit, Nat.zero_add]
        have hl : j < cs.length := by
          rcases Nat.lt_or_ge j cs.length with h' | h'
          · exact h'
          · simp [List.getElem?_eq_none h'] at hu
        rw [h.1] at hl
        have hn : 0 < n := by
          rcases Nat.eq_zero_or_pos n with h' | h'
          · subst h'; simp at hl
          · exact h'
        exact (h4 (by omega)).2.1 j u hu
      obtain ⟨v', w', hrun, ho, hg⟩ := run_append_arg_grows (P := P) w T ty E i zero z bytes hT hi hz hsz hby hzs hz0 ⟨g, 0, none⟩ n cap cs h.1 holds ad m c ks hkl hk (by omega) h63 hbytes
      refine ⟨v', w', hrun, RK.of_own ho, ⟨hg.os, hg.tape, hg.output, hg.size, fun k hk hne => hg.block k hk (by simp)⟩, fun j hj => .inr ?_⟩
      exact (ho.lt j (blk_own hj)).1
/-- The operation append, met by its run. -/
theorem wp_append_of_run {P : Program} {o : Oper} {a : Act} {w : World} {K : Act → World → Prop} {Q : Exit → Act → World → Prop} (s x : Operand) (T : TypeId) (ho : o.op = .call { callee := .builtin .append, args := #[s, x], argTypes := #[T, T] }) (v u v' : Value) (w' : World)
    (hs : a.eval s = v) (hx : a.eval x = u) (hr : (Builtin.append_ #[T, T] o.type #[v, u]).run P w = .ok v' w') (h : K (a.put o.dst v') w') : o.wp P a w K Q := by
  unfold Oper.wp execOp
  simp only [ho, resolve, invoke, builtin, Sem.run_bind, Sem.run_pure, Result.andThen_ok, List.map_toArray, List.map_cons, List.map_nil, hs, hx, hr]
  exact h
/-- .. as a step of a region that draws its order. -/
theorem step_append_of_run {P : Program} {ops : Array Oper} {o : Oper} {a : Act} {w : World} {K : Act → World → Prop} {Q : Exit → Act → World → Prop} {E : Prop} (hgd : o.guard = none) (s x : Operand) (T : TypeId) (ho : o.op = .call { callee := .builtin .append, args := #[s, x], argTypes := #[T, T] }) (v u v' : Value) (w' : World)
    (hs : a.eval s = v) (hx : a.eval x = u) (hr : (Builtin.append_ #[T, T] o.type #[v, u]).run P w = .ok v' w') (h : K (a.put o.dst v') w') : if Region.wanted o (yielded ops a.tmps) = true then Oper.wp P o a w K Q else E := by
  have hw : Region.wanted o (yielded ops a.tmps) = true := by simp [Region.wanted, hgd]
  rw [if_pos hw]
  exact wp_append_of_run s x T ho v u v' w' hs hx hr h
/-- .. by RK's law: in a plain region and in one that draws its order. -/
theorem step_append_rk {P : Program} {w : World} {v : Value} {z n m : Nat} {cs ks : List Value} {ops : Array Oper} {o : Oper} {a : Act} {K : Act → World → Prop} {Q : Exit → Act → World → Prop} {E' : Prop} (hgd : o.guard = none) (s x : Operand) (T : TypeId) (ho : o.op = .call { callee := .builtin .append, args := #[s, x], argTypes := #[T, T] })
    (h : RK z w v n cs) (E : TypeId) (i : TypeInfo) (zero : Value) (bytes : Nat) (hT : P.underlying T = some (.slice E)) (hi : P.info? E = some i) (hz : i.zero = some zero) (hsz : i.size = z) (hby : i.bytes = bytes) (hzs : zero.cells.size = z) (hz0 : 0 < z)
    (ad : Addr) (c : Nat) (hs : a.eval s = v) (hx : a.eval x = .slice (some ad) m c) (hkl : ks.length = m * z) (hk : ∀ j u, ks[j]? = some u → w.cell? (ad.add j) = some u) (h1 : ∀ u ∈ ks, u.oneCell' = true) (h63 : n + m ≤ maxLen) (hbytes : (n + m) * bytes ≤ 140737488355328)
    (hK : ∀ v' w', RK z w' v' (n + m) (cs ++ ks) → w.grownBy w' (blk v) → Fresh w v v' → K (a.put o.dst v') w') : if Region.wanted o (yielded ops a.tmps) = true then Oper.wp P o a w K Q else E' := by
  obtain ⟨v', w', hr, k1, k2, k3⟩ := run_append_rk h T o.type E i zero bytes hT hi hz hsz hby hzs hz0 ad c hkl hk h1 h63 hbytes
  exact step_append_of_run hgd s x T ho v _ v' w' hs hx hr (hK v' w' k1 k2 k3)
theorem wpList_append_rk {P : Program} {w : World} {v : Value} {z n m : Nat} {cs ks : List Value} {ops : Array Oper} {rest : List Oper} {o : Oper} {a : Act} {Q : Exit → Act → World → Prop} (hgd : o.guard = none) (s x : Operand) (T : TypeId) (ho : o.op = .call { callee := .builtin .append, args := #[s, x], argTypes := #[T, T] })
    (h : RK z w v n cs) (E : TypeId) (i : TypeInfo) (zero : Value) (bytes : Nat) (hT : P.underlying T = some (.slice E)) (hi : P.info? E = some i) (hz : i.zero = some zero) (hsz : i.size = z) (hby : i.bytes = bytes) (hzs : zero.cells.size = z) (hz0 : 0 < z)
    (ad : Addr) (c : Nat) (hs : a.eval s = v) (hx : a.eval x = .slice (some ad) m c) (hkl : ks.length = m * z) (hk : ∀ j u, ks[j]? = some u → w.cell? (ad.add j) = some u) (h1 : ∀ u ∈ ks, u.oneCell' = true) (h63 : n + m ≤ maxLen) (hbytes : (n + m) * bytes ≤ 140737488355328)
    (hK : ∀ v' w', RK z w' v' (n + m) (cs ++ ks) → w.grownBy w' (blk v) → Fresh w v v' → wpList P ops Q rest (a.put o.dst v') w') : wpList P ops Q (o :: rest) a w := by
  refine wpList_plain hgd fun K' hK' => ?_
  obtain ⟨v', w', hr, k1, k2, k3⟩ := run_append_rk h T o.type E i zero bytes hT hi hz hsz hby hzs hz0 ad c hkl hk h1 h63 hbytes
  exact wp_append_of_run s x T ho v _ v' w' hs hx hr (hK' _ _ (hK v' w' k1 k2 k3))
end Go.Proofs.YtpfoekfbcpinlaaGreatDoor
/- append(v, u...): a row onto a row, nil or not. -/
namespace Go.Proofs.YtpfoekfbcpinlaaGreatDoor
open Go.RowKit
set_option linter.unusedVariables false

theorem run_append_rk_nil {P : Program} {w : World} {v : Value} {z n : Nat} {cs : List Value} (h : RK z w v n cs) (T ty E : TypeId) (i : TypeInfo) (hT : P.underlying T = some (.slice E)) (hi : P.info? E = some i) :
    (Builtin.append_ #[T, T] ty #[v, .slice none 0 0]).run P w = .ok v w := by
  rcases h.2 with ⟨rfl, rfl⟩ | ⟨g, cap, rfl, hnc, _⟩
  · simp [Builtin.append_, run_underlying hT, sizeOf, typeInfo, hi, Builtin.lenOf, Builtin.firstCells]
  · simp [Builtin.append_, run_underlying hT, sizeOf, typeInfo, hi, Builtin.lenOf, Builtin.firstCells, hnc, storeCells]
theorem run_append_rks {P : Program} {w : World} {v u : Value} {z n m : Nat} {cs ks : List Value} (h : RK z w v n cs) (hu : RK z w u m ks) (T ty E : TypeId) (i : TypeInfo) (zero : Value) (bytes : Nat) (hT : P.underlying T = some (.slice E)) (hi : P.info? E = some i) (hz : i.zero = some zero) (hsz : i.size = z) (hby : i.bytes = bytes) (hzs : zero.cells.size = z) (hz0 : 0 < z)
    (h1 : ∀ u ∈ ks, u.oneCell' = true) (h63 : n + m ≤ maxLen) (hbytes : (n + m) * bytes ≤ 140737488355328) :
    ∃ v' w', (Builtin.append_ #[T, T] ty #[v, u]).run P w = .ok v' w' ∧ RK z w' v' (n + m) (cs ++ ks) ∧ w.grownBy w' (blk v) ∧ Fresh w v v' := by
  rcases hu.2 with ⟨rfl, rfl⟩ | ⟨g, cap, rfl, hnc, hcm, hc⟩
  · have hks : ks = [] := List.length_eq_zero_iff.1 (by rw [hu.1]; simp)
    subst hks
    exact ⟨v, w, run_append_rk_nil h T ty E i hT hi, by simpa using h, World.grownBy.refl _ _, Fresh.refl _ _⟩
  · refine run_append_rk h T ty E i zero bytes hT hi hz hsz hby hzs hz0 ⟨g, 0, none⟩ cap hu.1 (fun j x hx => ?_) h1 h63 hbytes
    rw [Addr.add_lit, Nat.zero_add]
    exact hu.cell j x hx
theorem step_append_rks {P : Program} {w : World} {v u : Value} {z n m : Nat} {cs ks : List Value} {ops : Array Oper} {o : Oper} {a : Act} {K : Act → World → Prop} {Q : Exit → Act → World → Prop} {E' : Prop} (hgd : o.guard = none) (s x : Operand) (T : TypeId) (ho : o.op = .call { callee := .builtin .append, args := #[s, x], argTypes := #[T, T] })
    (h : RK z w v n cs) (hu : RK z w u m ks) (E : TypeId) (i : TypeInfo) (zero : Value) (bytes : Nat) (hT : P.underlying T = some (.slice E)) (hi : P.info? E = some i) (hz : i.zero = some zero) (hsz : i.size = z) (hby : i.bytes = bytes) (hzs : zero.cells.size = z) (hz0 : 0 < z)
    (hs : a.eval s = v) (hx : a.eval x = u) (h1 : ∀ u ∈ ks, u.oneCell' = true) (h63 : n + m ≤ maxLen) (hbytes : (n + m) * bytes ≤ 140737488355328)
    (hK : ∀ v' w', RK z w' v' (n + m) (cs ++ ks) → w.grownBy w' (blk v) → Fresh w v v' → K (a.put o.dst v') w') : if Region.wanted o (yielded ops a.tmps) = true then Oper.wp P o a w K Q else E' := by
  obtain ⟨v', w', hr, k1, k2, k3⟩ := run_append_rks h hu T o.type E i zero bytes hT hi hz hsz hby hzs hz0 h1 h63 hbytes
  exact step_append_of_run hgd s x T ho v _ v' w' hs hx hr (hK v' w' k1 k2 k3)
theorem wpList_append_rks {P : Program} {w : World} {v u : Value} {z n m : Nat} {cs ks : List Value} {ops : Array Oper} {rest : List Oper} {o : Oper} {a : Act} {Q : Exit → Act → World → Prop} (hgd : o.guard = none) (s x : Operand) (T : TypeId) (ho : o.op = .call { callee := .builtin .append, args := #[s, x], argTypes := #[T, T] })
    (h : RK z w v n cs) (hu : RK z w u m ks) (E : TypeId) (i : TypeInfo) (zero : Value) (bytes : Nat) (hT : P.underlying T = some (.slice E)) (hi : P.info? E = some i) (hz : i.zero = some zero) (hsz : i.size = z) (hby : i.bytes = bytes) (hzs : zero.cells.size = z) (hz0 : 0 < z)
    (hs : a.eval s = v) (hx : a.eval x = u) (h1 : ∀ u ∈ ks, u.oneCell' = true) (h63 : n + m ≤ maxLen) (hbytes : (n + m) * bytes ≤ 140737488355328)
    (hK : ∀ v' w', RK z w' v' (n + m) (cs ++ ks) → w.grownBy w' (blk v) → Fresh w v v' → wpList P ops Q rest (a.put o.dst v') w') : wpList P ops Q (o :: rest) a w := by
  refine wpList_plain hgd fun K hK' => ?_
  obtain ⟨v', w', hr, k1, k2, k3⟩ := run_append_rks h hu T o.type E i zero bytes hT hi hz hsz hby hzs hz0 h1 h63 hbytes
  exact wp_append_of_run s x T ho v _ v' w' hs hx hr (hK' _ _ (hK v' w' k1 k2 k3))
/-- .. with what is made as a slice, its length and its cells as they are wanted. -/
theorem wpList_append_sl {P : Program} {w : World} {v u : Value} {z n m : Nat} {cs ks : List Value} {ops : Array Oper} {rest : List Oper} {o : Oper} {a : Act} {Q : Exit → Act → World → Prop} (hgd : o.guard = none) (s x : Operand) (T : TypeId) (ho : o.op = .call { callee := .builtin .append, args := #[s, x], argTypes := #[T, T] })
    (h : RK z w v n cs) (hu : RK z w u m ks) (E : TypeId) (i : TypeInfo) (zero : Value) (bytes : Nat) (hT : P.underlying T = some (.slice E)) (hi : P.info? E = some i) (hz : i.zero = some zero) (hsz : i.size = z) (hby : i.bytes = bytes) (hzs : zero.cells.size = z) (hz0 : 0 < z)
    (hs : a.eval s = v) (hx : a.eval x = u) (h1 : ∀ u ∈ ks, u.oneCell' = true) (h63 : n + m ≤ maxLen) (hbytes : (n + m) * bytes ≤ 140737488355328) (p : Nat) (ls : List Value) (hp : n + m = p) (hl : cs ++ ks = ls)
    (hK : ∀ ao cap w', RK z w' (.slice ao p cap) p ls → w.grownBy w' (blk v) → Fresh w v (.slice ao p cap) → wpList P ops Q rest (a.put o.dst (.slice ao p cap)) w') : wpList P ops Q (o :: rest) a w := by
  subst hp hl
  refine wpList_append_rks hgd s x T ho h hu E i zero bytes hT hi hz hsz hby hzs hz0 hs hx h1 h63 hbytes fun v' w' r1 g1 f1 => ?_
  obtain ⟨ao, cap, rfl, _, _⟩ := r1.len
  exact hK ao cap w' r1 g1 f1
theorem step_append_sl {P : Program} {w : World} {v u : Value} {z n m : Nat} {cs ks : List Value} {ops : Array Oper} {o : Oper} {a : Act} {K : Act → World → Prop} {Q : Exit → Act → World → Prop} {E' : Prop} (hgd : o.guard = none) (s x : Operand) (T : TypeId) (ho : o.op = .call { callee := .builtin .append, args := #[s, x], argTypes := #[T, T] })
    (h : RK z w v n cs) (hu : RK z w u m ks) (E : TypeId) (i : TypeInfo) (zero : Value) (bytes : Nat) (hT : P.underlying T = some (.slice E)) (hi : P.info? E = some i) (hz : i.zero = some zero) (hsz : i.size = z) (hby : i.bytes = bytes) (hzs : zero.cells.size = z) (hz0 : 0 < z)
    (hs : a.eval s = v) (hx : a.eval x = u) (h1 : ∀ u ∈ ks, u.oneCell' = true) (h63 : n + m ≤ maxLen) (hbytes : (n + m) * bytes ≤ 140737488355328) (p : Nat) (ls : List Value) (hp : n + m = p) (hl : cs ++ ks = ls)
    (hK : ∀ ao cap w', RK z w' (.slice ao p cap) p ls → w.grownBy w' (blk v) → Fresh w v (.slice ao p cap) → K (a.put o.dst (.slice ao p cap)) w') : if Region.wanted o (yielded ops a.tmps) = true then Oper.wp P o a w K Q else E' := by
  subst hp hl
  refine step_append_rks hgd s x T ho h hu E i zero bytes hT hi hz hsz hby hzs hz0 hs hx h1 h63 hbytes fun v' w' r1 g1 f1 => ?_
  obtain ⟨ao, cap, rfl, _, _⟩ := r1.len
  exact hK ao cap w' r1 g1 f1
end Go.Proofs.YtpfoekfbcpinlaaGreatDoor
/- What is appended: a slice that is read alone (a cut of one, or nil); append's law with the slice that it makes named; two appends onto a fresh slice in a region that draws its order. -/
namespace Go.Proofs.YtpfoekfbcpinlaaGreatDoor
open Go.RowKit
set_option linter.unusedVariables false

theorem src_lt {w : World} {k : Nat} {o : Obj} (h : w.heap[k]? = some o) : k < w.heap.size := by
  rcases Nat.lt_or_ge k w.heap.size with h' | h'
  · exact h'
  · simp [Array.getElem?_eq_none h'] at h
/-- The slice u reads as m elements of z cells each. -/
def Src (z : Nat) (w : World) (u : Value) (m : Nat) (ks : List Value) : Prop :=
  ks.length = m * z ∧ ((u = .slice none 0 0 ∧ m = 0) ∨ ∃ ad c, u = .slice (some ad) m c ∧ ∀ j x, ks[j]? = some x → w.cell? (ad.add j) = some x)
theorem RK.src {z m : Nat} {w : World} {u : Value} {ks : List Value} (h : RK z w u m ks) : Src z w u m ks := by
  refine ⟨h.1, ?_⟩
  rcases h.2 with ⟨rfl, rfl⟩ | ⟨g, cap, rfl, _, _, _⟩
  · exact .inl ⟨rfl, rfl⟩
  · refine .inr ⟨_, _, rfl, fun j x hx => ?_⟩
    rw [Addr.add_lit, Nat.zero_add]
    exact h.cell j x hx
/-- u[:i] and u[i:]. -/
theorem RK.src_take {z n g cap : Nat} {w : World} {cs : List Value} (h : RK z w (.slice (some ⟨g, 0, none⟩) n cap) n cs) (i : Nat) (hi : i ≤ n) : Src z w (.slice (some ⟨g, 0, none⟩) i cap) i (cs.take (i * z)) := by
  refine ⟨by rw [List.length_take, h.1]; exact Nat.min_eq_left (Nat.mul_le_mul_right _ hi), .inr ⟨_, _, rfl, fun j x hx => ?_⟩⟩
  rw [Addr.add_lit, Nat.zero_add]
  rw [List.getElem?_take] at hx
  split at hx
  · exact h.cell j x hx
  · cases hx
theorem RK.src_drop {z n g cap : Nat} {w : World} {cs : List Value} (h : RK z w (.slice (some ⟨g, 0, none⟩) n cap) n cs) (i : Nat) (hi : i ≤ n) (hc : n ≤ cap) : Src z w (.slice (if cap = i then some ⟨g, 0, none⟩ else some ⟨g, i * z, none⟩) (n - i) (cap - i)) (n - i) (cs.drop (i * z)) := by
  refine ⟨by rw [List.length_drop, h.1, Nat.sub_mul], ?_⟩
  by_cases he : cap = i
  · rw [if_pos he]
    refine .inr ⟨_, _, rfl, fun j x hx => ?_⟩
    have : cs.drop (i * z) = [] := List.drop_eq_nil_of_le (by rw [h.1]; exact Nat.mul_le_mul_right _ (by omega))
    rw [this] at hx
    simp at hx
  · rw [if_neg he]
    refine .inr ⟨_, _, rfl, fun j x hx => ?_⟩
    rw [List.getElem?_drop] at hx
    rw [Addr.add_lit]
    exact h.cell _ x hx
theorem Src.below {z m : Nat} {w w' : World} {u : Value} {ks : List Value} (h : Src z w u m ks) (hb : Below w.heap.size w w') : Src z w' u m ks := by
  refine ⟨h.1, ?_⟩
  rcases h.2 with h1 | ⟨ad, c, rfl, h2⟩
  · exact .inl h1
  · exact .inr ⟨ad, c, rfl, fun j x hx => (hb.cell (World.block_lt_of_cell? _ _ (h2 j x hx))).trans (h2 j x hx)⟩
theorem Src.at_ {z m : Nat} {w w' : World} {u : Value} {ks : List Value} (h : Src z w u m ks) (hw : ∀ a x, w.cell? a = some x → w'.cell? a = some x) : Src z w' u m ks := by
  refine ⟨h.1, ?_⟩
  rcases h.2 with h1 | ⟨ad, c, rfl, h2⟩
  · exact .inl h1
  · exact .inr ⟨ad, c, rfl, fun j x hx => hw _ _ (h2 j x hx)⟩
theorem run_append_src {P : Program} {w : World} {v u : Value} {z n m : Nat} {cs ks : List Value} (h : RK z w v n cs) (hu : Src z w u m ks) (T ty E : TypeId) (i : TypeInfo) (zero : Value) (bytes : Nat) (hT : P.underlying T = some (.slice E)) (hi : P.info? E = some i) (hz : i.zero = some zero) (hsz : i.size = z) (hby : i.bytes = bytes) (hzs : zero.cells.size = z) (hz0 : 0 < z)
    (h1 : ∀ u ∈ ks, u.oneCell' = true) (h63 : n + m ≤ maxLen) (hbytes : (n + m) * bytes ≤ 140737488355328) (p : Nat) (ls : List Value) (hp : n + m = p) (hl : cs ++ ks = ls) :
    ∃ ao cap w', (Builtin.append_ #[T, T] ty #[v, u]).run P w = .ok (.slice ao p cap) w' ∧ RK z w' (.slice ao p cap) p ls ∧ w.grownBy w' (blk v) ∧ Fresh w v (.slice ao p cap) := by
  subst hp hl
  rcases hu.2 with ⟨rfl, rfl⟩ | ⟨ad, c, rfl, hc⟩
  · have hks : ks = [] := List.length_eq_zero_iff.1 (by rw [hu.1]; simp)
    subst hks
    have hr := run_append_rk_nil h T ty E i hT hi
    obtain ⟨ao, cap, rfl, _, _⟩ := h.len
    exact ⟨ao, cap, w, hr, by simpa using h, World.grownBy.refl _ _, Fresh.refl _ _⟩
  · obtain ⟨v', w', hr, k1, k2, k3⟩ := run_append_rk h T ty E i zero bytes hT hi hz hsz hby hzs hz0 ad c hu.1 hc h1 h63 hbytes
    obtain ⟨ao, cap, rfl, _, _⟩ := k1.len
    exact ⟨ao, cap, w', hr, k1, k2, k3⟩
theorem wpList_append_src {P : Program} {w : World} {v u : Value} {z n m : Nat} {cs ks : List Value} {ops : Array Oper} {rest : List Oper} {o : Oper} {a : Act} {Q : Exit → Act → World → Prop} (hgd : o.guard = none) (s x : Operand) (T : TypeId) (ho : o.op = .call { callee := .builtin .append, args := #[s, x], argTypes := #[T, T] })
    (h : RK z w v n cs) (hu : Src z w u m ks) (E : TypeId) (i : TypeInfo) (zero : Value) (bytes : Nat) (hT : P.underlying T = some (.slice E)) (hi : P.info? E = some i) (hz : i.zero = some zero) (hsz : i.size = z) (hby : i.bytes = bytes) (hzs : zero.cells.size = z) (hz0 : 0 < z)
    (hs : a.eval s = v) (hx : a.eval x = u) (h1 : ∀ u ∈ ks, u.oneCell' = true) (h63 : n + m ≤ maxLen) (hbytes : (n + m) * bytes ≤ 140737488355328) (p : Nat) (ls : List Value) (hp : n + m = p) (hl : cs ++ ks = ls)
    (hK : ∀ ao cap w', RK z w' (.slice ao p cap) p ls → w.grownBy w' (blk v) → Fresh w v (.slice ao p cap) → wpList P ops Q rest (a.put o.dst (.slice ao p cap)) w') : wpList P ops Q (o :: rest) a w := by
  refine wpList_plain hgd fun K hK' => ?_
  obtain ⟨ao, cap, w', hr, k1, k2, k3⟩ := run_append_src h hu T o.type E i zero bytes hT hi hz hsz hby hzs hz0 h1 h63 hbytes p ls hp hl
  exact wp_append_of_run s x T ho v _ _ w' hs hx hr (hK' _ _ (hK ao cap w' k1 k2 k3))
theorem step_append_src {P : Program} {w : World} {v u : Value} {z n m : Nat} {cs ks : List Value} {ops : Array Oper} {o : Oper} {a : Act} {K : Act → World → Prop} {Q : Exit → Act → World → Prop} {E' : Prop} (hgd : o.guard = none) (s x : Operand) (T : TypeId) (ho : o.op = .call { callee := .builtin .append, args := #[s, x], argTypes := #[T, T] })
    (h : RK z w v n cs) (hu : Src z w u m ks) (E : TypeId) (i : TypeInfo) (zero : Value) (bytes : Nat) (hT : P.underlying T = some (.slice E)) (hi : P.info? E = some i) (hz : i.zero = some zero) (hsz : i.size = z) (hby : i.bytes = bytes) (hzs : zero.cells.size = z) (hz0 : 0 < z)
    (hs : a.eval s = v) (hx : a.eval x = u) (h1 : ∀ u ∈ ks, u.oneCell' = true) (h63 : n + m ≤ maxLen) (hbytes : (n + m) * bytes ≤ 140737488355328) (p : Nat) (ls : List Value) (hp : n + m = p) (hl : cs ++ ks = ls)
    (hK : ∀ ao cap w', RK z w' (.slice ao p cap) p ls → w.grownBy w' (blk v) → Fresh w v (.slice ao p cap) → K (a.put o.dst (.slice ao p cap)) w') : if Region.wanted o (yielded ops a.tmps) = true then Oper.wp P o a w K Q else E' := by
  obtain ⟨ao, cap, w', hr, k1, k2, k3⟩ := run_append_src h hu T o.type E i zero bytes hT hi hz hsz hby hzs hz0 h1 h63 hbytes p ls hp hl
  exact step_append_of_run hgd s x T ho v _ _ w' hs hx hr (hK ao cap w' k1 k2 k3)
/-- An element that was laid into a block of its own. -/
theorem src_one {z q : Nat} {W : World} {cs : Array Value} {T : TypeId} (h : W.heap[q]? = some (.cells cs T (0, 0))) (hz : cs.size = z) : Src z W (.slice (some ⟨q, 0, none⟩) 1 1) 1 cs.toList := by
  refine ⟨by simpa using hz, .inr ⟨_, _, rfl, fun j x hx => ?_⟩⟩
  rw [Addr.add_lit, Nat.zero_add]
  simp [World.cell?, h]
  simpa using hx
/-- What is left behind an append onto a fresh slice: w2 is w with new blocks; the slice v lies in a new one. -/
structure New (B : Nat) (w w2 : World) (v : Value) : Prop where
  below : Below B w w2
  new : ∀ k, blk v = some k → B ≤ k
theorem New.of {B : Nat} {w W w2 : World} {u v : Value} (h : Below B w W) (hB : B ≤ W.heap.size) (hg : W.grownBy w2 (blk u)) (hf : Fresh W u v) (hu : ∀ k, blk u = some k → B ≤ k) : New B w w2 v :=
  ⟨h.grown hg hB hu, fun k hk => (hf k hk).elim (hu k) (fun h1 => by omega)⟩
theorem blk_none (q : Nat) : ∀ B k, blk (.slice (some ⟨q, 0, none⟩) 0 0) = some k → B ≤ k := fun B k hk => by simp [blk] at hk
theorem heap_second (w : World) (o1 o2 : Obj) : ((w.alloc o1).alloc o2).heap[w.heap.size + 1]? = some o2 := by
  have := heap_alloc_new (w.alloc o1) o2
  simpa using this
theorem heap_first (w : World) (o1 o2 : Obj) : ((w.alloc o1).alloc o2).heap[w.heap.size]? = some o1 :=
  (Below.heap_alloc _ o2 _ (by simp)).trans (heap_alloc_new w o1)
/-- A block that was there before an append onto a fresh slice. -/
theorem kept_over {W w2 : World} {q n : Nat} {o : Obj} (hg : W.grownBy w2 (blk (.slice (some ⟨n, 0, none⟩) 0 0))) (h : W.heap[q]? = some o) : w2.heap[q]? = some o :=
  (hg.block q (src_lt h) (fun e => by simp [blk] at e)).trans h
end Go.Proofs.YtpfoekfbcpinlaaGreatDoor
/- Plain law: heads: which may be, their bytes, what bytes are read as. No program in sight. -/
namespace Go.Proofs.YtpfoekfbcpinlaaGreatDoor.Hd
open Go.Proofs.YtpfoekfbcpinlaaGreatDoor.Var
set_option linter.unusedVariables false

/-! ### Varints, whole and least -/
theorem uvI_pre (pre r : List UInt8) : uvI (pre ++ r) (pre.length : Nat) = ((go r 0 0).1, if (go r 0 0).2.2 = 0 then pre.length + (go r 0 0).2.1 else 0, (go r 0 0).2.2) := by
  unfold uvI
  rw [if_neg (by simp; omega), Int.toNat_natCast]
  unfold uv
  rw [List.drop_left]
theorem uvI_put (pre post : List UInt8) {n : Nat} (h : n < 18446744073709551616) : uvI (pre ++ (vb n ++ post)) (pre.length : Nat) = (n, pre.length + (vb n).length, 0) := by
  rw [uvI_pre, go_vb post (vb n).length n 0 0 rfl (by have := vb_len10 h; omega) (by simpa using h)]
  simp
theorem rV_put (pre post : List UInt8) {n most : Nat} (hn : n ≤ most) (hm : most < 18446744073709551616) : rVarint (pre ++ (vb n ++ post)) pre.length 0 most = (n, pre.length + (vb n).length, 0) := by
  unfold rVarint
  rw [if_pos rfl, uvI_put pre post (by omega), if_pos rfl, if_neg (by omega)]
theorem go_value {l : List UInt8} : ∀ (i acc : Nat), acc < 2 ^ (7 * i) → (go l i acc).2.2 = 0 → i < (go l i acc).2.1 ∧ (go l i acc).1 < 2 ^ (7 * (go l i acc).2.1) := by
  induction l with
  | nil => intro i acc _ h; simp [go] at h
  | cons b r ih =>
    intro i acc hacc h
    have hb := UInt8.toNat_lt b
    have h4 : 128 * 2 ^ (7 * i) = 2 ^ (7 * (i + 1)) := by rw [Nat.mul_add, Nat.pow_add, Nat.mul_comm]
    by_cases h1 : i = 9 ∧ 1 < b.toNat
    · rw [go, if_pos h1] at h; simp at h
    · by_cases h2 : b.toNat < 128
      · rw [go, if_neg h1, if_pos h2]
        refine ⟨Nat.lt_succ_self i, ?_⟩
        show acc + b.toNat * 2 ^ (7 * i) < 2 ^ (7 * (i + 1))
        have h3 : (b.toNat + 1) * 2 ^ (7 * i) ≤ 128 * 2 ^ (7 * i) := Nat.mul_le_mul_right _ (by omega)
        rw [Nat.add_mul] at h3
        omega
      · rw [go, if_neg h1, if_neg h2] at h ⊢
        have h3 : (b.toNat - 128 + 1) * 2 ^ (7 * i) ≤ 128 * 2 ^ (7 * i) := Nat.mul_le_mul_right _ (by omega)
        have := ih (i + 1) (acc + (b.toNat - 128) * 2 ^ (7 * i)) (by rw [Nat.add_mul] at h3; omega) h
        exact ⟨by omega, this.2⟩
theorem rV_least (l : List UInt8) (p e most : Nat) (hp : p ≤ l.length) (h : (rVarint l p e most).2.2 = 0) : e = 0 ∧ (rVarint l p e most).1 ≤ most ∧ p + (vb (rVarint l p e most).1).length ≤ (rVarint l p e most).2.1 ∧ (rVarint l p e most).2.1 ≤ l.length := by
  have hf := uvI_facts l p hp
  unfold rVarint at h ⊢
  by_cases he : e = 0
  · rw [if_pos he] at h ⊢
    by_cases h0 : (uvI l p).2.2 = 0
    · rw [if_pos h0] at h ⊢
      by_cases hm : most < (uvI l p).1
      · rw [if_pos hm] at h; simp at h
      · rw [if_neg hm] at h ⊢
        refine ⟨he, by simp only []; omega, ?_, hf.2.1⟩
        simp only []
        have hl : l.take p ++ l.drop p = l := List.take_append_drop p l
        have hk : (l.take p).length = p := by rw [List.length_take]; omega
        have hu := uvI_pre (l.take p) (l.drop p)
        rw [hl, hk] at hu
        rw [hu] at h0 ⊢
        simp only [] at h0 ⊢
        rw [if_pos h0]
        obtain ⟨g1, g2⟩ := go_value 0 0 (by decide) h0
        obtain ⟨k, hk1⟩ : ∃ k, (go (l.drop p) 0 0).2.1 = k + 1 := ⟨(go (l.drop p) 0 0).2.1 - 1, by omega⟩
        rw [hk1] at g2 ⊢
        have := vb_le k _ (by rw [show (128 : Nat) = 2 ^ 7 from rfl, ← Nat.pow_mul]; exact g2)
        omega
    · rw [if_neg h0] at h; exact absurd h h0
  · rw [if_neg he] at h; exact absurd h he
theorem rV_stuck (l : List UInt8) (p e most : Nat) (he : e ≠ 0) : rVarint l p e most = (0, p, e) := by unfold rVarint; rw [if_neg he]
theorem rV_le (l : List UInt8) (p e most : Nat) (hp : p ≤ l.length) : (rVarint l p e most).2.1 ≤ l.length := by
  have hf := uvI_facts l p hp
  unfold rVarint
  split
  · split
    · split
      · exact hp
      · exact hf.2.1
    · exact hp
  · exact hp

/-! ### Heads -/
structure HV where
  gen : Int
  base : Int
  snap : Int
  log : List Int
def HV.tapes (h : HV) : List Int := if h.snap = 0 then h.log else h.snap :: h.log
/-- Do those tapes may be, behind those that were seen? -/
def mayT (seen : List Int) : List Int → Bool
  | [] => true
  | t :: r => (decide (2 ≤ t) && decide (t < 32) && !seen.contains t) && mayT (t :: seen) r
def HV.first (h : HV) : Bool := decide (1 ≤ h.gen ∧ h.gen ≤ 1099511627776 ∧ 0 ≤ h.base ∧ h.base ≤ 1099511627776 ∧ h.log ≠ [] ∧ ¬ (h.snap = 0 ∧ 0 < h.base))
def HV.may (h : HV) : Bool := h.first && mayT [] h.tapes
theorem mayT_iff : ∀ (l seen : List Int), mayT seen l = true ↔ (∀ t ∈ l, 2 ≤ t ∧ t < 32 ∧ t ∉ seen) ∧ l.Nodup
  | [], seen => by simp [mayT]
  | t :: r, seen => by
    rw [mayT, Bool.and_eq_true, mayT_iff r (t :: seen)]
    simp only [Bool.and_eq_true, decide_eq_true_eq, Bool.not_eq_true', List.contains_eq_mem, decide_eq_false_iff_not, List.mem_cons, not_or, List.nodup_cons, forall_eq_or_imp]
    constructor
    · rintro ⟨⟨⟨a, b⟩, c⟩, d, e⟩
      exact ⟨⟨⟨a, b, c⟩, fun u hu => ⟨(d u hu).1, (d u hu).2.1, (d u hu).2.2.2⟩⟩, fun hm => (d t hm).2.2.1 rfl, e⟩
    · rintro ⟨⟨⟨a, b, c⟩, d⟩, e, f⟩
      exact ⟨⟨⟨a, b⟩, c⟩, fun u hu => ⟨(d u hu).1, (d u hu).2.1, fun hx => e (hx ▸ hu), (d u hu).2.2⟩, f⟩
/-- The tapes that are none of heads. -/
def R : List Int := (List.range 30).map fun (k : Nat) => (k : Int) + 2
theorem R_count {a : Int} (h : 2 ≤ a ∧ a < 32) : R.count a = 1 := by
  obtain ⟨k, rfl⟩ : ∃ k : Nat, a = (k : Int) + 2 := ⟨(a - 2).toNat, by omega⟩
  have hk : k < 30 := by omega
  exact (by decide : ∀ k : Fin 30, R.count ((k.val : Int) + 2) = 1) ⟨k, hk⟩
theorem countP_or (p q : Int → Bool) : ∀ (l : List Int), (∀ x ∈ l, ¬ (p x = true ∧ q x = true)) → l.countP (fun x => p x || q x) = l.countP p + l.countP q
  | [], _ => rfl
  | x :: r, h => by
    have ih := countP_or p q r (fun y hy => h y (List.mem_cons_of_mem _ hy))
    have hx := h x (List.mem_cons_self ..)
    rw [List.countP_cons, List.countP_cons, List.countP_cons, ih]
    cases hp : p x <;> cases hq : q x
    · simp
    · simp; omega
    · simp; omega
    · exact absurd ⟨hp, hq⟩ hx
theorem count_in : ∀ (l : List Int), l.Nodup → (∀ t ∈ l, 2 ≤ t ∧ t < 32) → R.countP (fun t => l.contains t) = l.length
  | [], _, _ => by decide
  | a :: r, hn, hr => by
    rw [List.nodup_cons] at hn
    have ih := count_in r hn.2 (fun t ht => hr t (List.mem_cons_of_mem _ ht))
    have h1 : (fun t => (a :: r).contains t) = fun t => (t == a) || r.contains t := by
      funext t
      exact List.contains_cons
    rw [h1, countP_or _ _ _ (fun x _ hx => hn.1 (by have h2 := hx.1; have h3 := hx.2; rw [beq_iff_eq] at h2; subst h2; simpa using h3)), ih, List.length_cons]
    have := R_count (hr a (List.mem_cons_self ..))
    rw [List.count] at this
    omega
def HV.uses (h : HV) (t : Int) : Bool := (decide (t ≠ 0) && decide (h.snap = t)) || h.log.contains t
def HV.free (h : HV) : List Int := R.filter fun t => !h.uses t
theorem uses_tapes (h : HV) (t : Int) (ht : t ≠ 0) : h.uses t = h.tapes.contains t := by
  unfold HV.uses HV.tapes
  by_cases h0 : h.snap = 0
  · rw [if_pos h0, h0]
    simp [ht, Ne.symm ht]
  · rw [if_neg h0]
    by_cases h1 : h.snap = t
    · simp [h1, ht]
    · simp [h1, ht, Ne.symm h1]
theorem R_ne {t : Int} (h : t ∈ R) : t ≠ 0 := by
  obtain ⟨k, _, rfl⟩ := List.mem_map.1 h
  omega
/-- A head that may be: its tapes and the free ones are all. -/
theorem parted (h : HV) (hm : h.may = true) : h.tapes.length + h.free.length = 30 := by
  unfold HV.may at hm
  rw [Bool.and_eq_true] at hm
  obtain ⟨h1, h2⟩ := (mayT_iff _ _).1 hm.2
  have hc := count_in h.tapes h2 (fun t ht => ⟨(h1 t ht).1, (h1 t ht).2.1⟩)
  have hs := List.length_eq_countP_add_countP (fun t => h.tapes.contains t) (l := R)
  have hR : R.length = 30 := by decide
  have hf : h.free.length = R.countP (fun t => !h.tapes.contains t) := by
    unfold HV.free
    rw [← List.countP_eq_length_filter]
    exact List.countP_congr fun t ht => by rw [uses_tapes h t (R_ne ht)]
  have he : R.countP (fun t => !h.tapes.contains t) = R.countP (fun t => decide ¬ (h.tapes.contains t = true)) := List.countP_congr fun t _ => by simp
  omega
theorem HV.few {h : HV} (hm : h.may = true) : h.tapes.length ≤ 30 ∧ h.log.length ≤ 30 := by
  have := parted h hm
  have hl : h.log.length ≤ h.tapes.length := by unfold HV.tapes; split <;> simp
  omega

/-! ### Bytes -/
def logB (l : List Int) : List UInt8 := l.flatMap fun t => vb t.toNat
def HV.enc (h : HV) : List UInt8 := vb h.gen.toNat ++ (vb h.base.toNat ++ (vb h.snap.toNat ++ (vb h.log.length ++ logB h.log)))
def readN (l : List UInt8) : Nat → Nat → Nat → List Int × Nat × Nat
  | 0, p, e => ([], p, e)
  | k + 1, p, e => ((rVarint l p e 31).1 :: (readN l k (rVarint l p e 31).2.1 (rVarint l p e 31).2.2).1, (readN l k (rVarint l p e 31).2.1 (rVarint l p e 31).2.2).2)
theorem readN_len (l : List UInt8) : ∀ k p e, (readN l k p e).1.length = k
  | 0, _, _ => rfl
  | k + 1, p, e => by rw [readN, List.length_cons, readN_len l k]
theorem readN_put (post : List UInt8) : ∀ (q : List Int) (pre : List UInt8), (∀ t ∈ q, 0 ≤ t ∧ t ≤ 31) → readN (pre ++ (logB q ++ post)) q.length pre.length 0 = (q, pre.length + (logB q).length, 0)
  | [], pre, _ => by simp [readN, logB]
  | t :: r, pre, h => by
    have ht := h t (List.mem_cons_self ..)
    have hc : logB (t :: r) = vb t.toNat ++ logB r := by simp [logB]
    have hv := rV_put pre (logB r ++ post) (n := t.toNat) (most := 31) (by omega) (by decide)
    have hr := readN_put post r (pre ++ vb t.toNat) (fun u hu => h u (List.mem_cons_of_mem _ hu))
    rw [List.append_assoc, List.length_append] at hr
    rw [hc, List.append_assoc, List.length_cons, readN, hv]
    simp only [hr, List.length_append]
    refine Prod.ext ?_ (Prod.ext ?_ rfl)
    · simp only [List.cons.injEq, and_true]; omega
    · simp only []; omega
theorem readN_least (l : List UInt8) : ∀ k p e, p ≤ l.length → (readN l k p e).2.2 = 0 → e = 0 ∧ p + (logB (readN l k p e).1).length ≤ (readN l k p e).2.1 ∧ (readN l k p e).2.1 ≤ l.length
  | 0, p, e, hp, h => ⟨h, by simp [readN, logB], hp⟩
  | k + 1, p, e, hp, h => by
    rw [readN] at h ⊢
    have hle := rV_le l p e 31 hp
    obtain ⟨i1, i2, i3⟩ := readN_least l k _ _ hle h
    obtain ⟨j1, j2, j3, j4⟩ := rV_least l p e 31 hp i1
    refine ⟨j1, ?_, i3⟩
    have hc : ∀ (t : Nat) (r : List Int), (logB ((t : Int) :: r)).length = (vb t).length + (logB r).length := fun t r => by simp [logB]
    simp only [hc]
    omega
end Go.Proofs.YtpfoekfbcpinlaaGreatDoor.Hd
/- Plain law: what bytes are read as a head; of a head's bytes it is that head; of any others' the head's bytes are no more. -/
namespace Go.Proofs.YtpfoekfbcpinlaaGreatDoor.Hd
open Go.Proofs.YtpfoekfbcpinlaaGreatDoor.Var
set_option linter.unusedVariables false

def HV.zero : HV := ⟨0, 0, 0, []⟩
def decA (l : List UInt8) : Nat × Nat × Nat := rVarint l 0 0 1099511627776
def decB (l : List UInt8) : Nat × Nat × Nat := rVarint l (decA l).2.1 (decA l).2.2 1099511627776
def decC (l : List UInt8) : Nat × Nat × Nat := rVarint l (decB l).2.1 (decB l).2.2 31
def decD (l : List UInt8) : Nat × Nat × Nat := rVarint l (decC l).2.1 (decC l).2.2 31
def decQ (l : List UInt8) : List Int × Nat × Nat := readN l (decD l).1 (decD l).2.1 (decD l).2.2
def decE (l : List UInt8) : Nat := if (decQ l).2.2 = 0 ∧ (decQ l).2.1 < l.length then 4 else (decQ l).2.2
def decH (l : List UInt8) : HV := ⟨(decA l).1, (decB l).1, (decC l).1, (decQ l).1⟩
def decV (l : List UInt8) : HV × Nat := if decE l = 0 then (if (decH l).may = true then (decH l, 0) else (HV.zero, 4)) else (HV.zero, decE l)
theorem may_first {h : HV} (hm : h.may = true) : 1 ≤ h.gen ∧ h.gen ≤ 1099511627776 ∧ 0 ≤ h.base ∧ h.base ≤ 1099511627776 ∧ h.log ≠ [] ∧ ¬ (h.snap = 0 ∧ 0 < h.base) := by
  unfold HV.may HV.first at hm
  rw [Bool.and_eq_true, decide_eq_true_eq] at hm
  exact hm.1
theorem may_tapes {h : HV} (hm : h.may = true) : (0 ≤ h.snap ∧ h.snap < 32) ∧ ∀ t ∈ h.log, 2 ≤ t ∧ t < 32 := by
  unfold HV.may at hm
  rw [Bool.and_eq_true] at hm
  obtain ⟨h1, _⟩ := (mayT_iff _ _).1 hm.2
  unfold HV.tapes at h1
  by_cases h0 : h.snap = 0
  · rw [if_pos h0] at h1
    exact ⟨by omega, fun t ht => ⟨(h1 t ht).1, (h1 t ht).2.1⟩⟩
  · rw [if_neg h0] at h1
    have := h1 _ (List.mem_cons_self ..)
    exact ⟨by omega, fun t ht => ⟨(h1 t (List.mem_cons_of_mem _ ht)).1, (h1 t (List.mem_cons_of_mem _ ht)).2.1⟩⟩
theorem dec_enc {h : HV} (hm : h.may = true) : decV h.enc = (h, 0) := by
  obtain ⟨g1, g2, b1, b2, _, _⟩ := may_first hm
  obtain ⟨⟨s1, s2⟩, ht⟩ := may_tapes hm
  have hn := (HV.few hm).2
  have hA : decA h.enc = (h.gen.toNat, (vb h.gen.toNat).length, 0) := by
    have := rV_put [] (vb h.base.toNat ++ (vb h.snap.toNat ++ (vb h.log.length ++ logB h.log))) (n := h.gen.toNat) (most := 1099511627776) (by omega) (by decide)
    simpa [decA, HV.enc] using this
  have hB : decB h.enc = (h.base.toNat, (vb h.gen.toNat ++ vb h.base.toNat).length, 0) := by
    have := rV_put (vb h.gen.toNat) (vb h.snap.toNat ++ (vb h.log.length ++ logB h.log)) (n := h.base.toNat) (most := 1099511627776) (by omega) (by decide)
    unfold decB
    rw [hA]
    simpa [HV.enc] using this
  have hC : decC h.enc = (h.snap.toNat, (vb h.gen.toNat ++ vb h.base.toNat ++ vb h.snap.toNat).length, 0) := by
    have := rV_put (vb h.gen.toNat ++ vb h.base.toNat) (vb h.log.length ++ logB h.log) (n := h.snap.toNat) (most := 31) (by omega) (by decide)
    unfold decC
    rw [hB]
    simpa [HV.enc, Nat.add_assoc] using this
  have hD : decD h.enc = (h.log.length, (vb h.gen.toNat ++ vb h.base.toNat ++ vb h.snap.toNat ++ vb h.log.length).length, 0) := by
    have := rV_put (vb h.gen.toNat ++ vb h.base.toNat ++ vb h.snap.toNat) (logB h.log) (n := h.log.length) (most := 31) (by omega) (by decide)
    unfold decD
    rw [hC]
    simpa [HV.enc, Nat.add_assoc] using this
  have hQ : decQ h.enc = (h.log, h.enc.length, 0) := by
    have := readN_put [] h.log (vb h.gen.toNat ++ vb h.base.toNat ++ vb h.snap.toNat ++ vb h.log.length) (fun t hx => by have := ht t hx; omega)
    unfold decQ
    rw [hD]
    simpa [HV.enc, Nat.add_assoc] using this
  have hE : decE h.enc = 0 := by unfold decE; rw [hQ, if_neg (by simp)]
  have hH : decH h.enc = h := by
    obtain ⟨hg, hb, hs, hl⟩ := h
    unfold decH
    rw [hA, hB, hC, hQ]
    simp only [HV.mk.injEq, and_true]
    exact ⟨by simp only [] at g1; omega, by simp only [] at b1; omega, by simp only [] at s1; omega⟩
  unfold decV
  rw [if_pos hE, hH, if_pos hm]
theorem dec_may {l : List UInt8} {h : HV} (hd : decV l = (h, 0)) : h.may = true ∧ h.enc.length ≤ l.length := by
  unfold decV at hd
  by_cases hE : decE l = 0
  · rw [if_pos hE] at hd
    by_cases hm : (decH l).may = true
    · rw [if_pos hm] at hd
      obtain rfl := (Prod.mk.inj hd).1
      refine ⟨hm, ?_⟩
      unfold decE at hE
      have h0 : (decQ l).2.2 = 0 := by
        split at hE
        · omega
        · exact hE
      have lA : (decA l).2.1 ≤ l.length := rV_le l 0 0 _ (Nat.zero_le _)
      have lB : (decB l).2.1 ≤ l.length := rV_le l _ _ _ lA
      have lC : (decC l).2.1 ≤ l.length := rV_le l _ _ _ lB
      have lD : (decD l).2.1 ≤ l.length := rV_le l _ _ _ lC
      obtain ⟨q1, q2, q3⟩ := readN_least l _ _ _ lD h0
      obtain ⟨d1, d2, d3, _⟩ := rV_least l _ _ 31 lC q1
      obtain ⟨c1, c2, c3, _⟩ := rV_least l _ _ 31 lB d1
      obtain ⟨b1, b2, b3, _⟩ := rV_least l _ _ 1099511627776 lA c1
      obtain ⟨_, a2, a3, _⟩ := rV_least l 0 0 1099511627776 (Nat.zero_le _) b1
      have hl : (decQ l).1.length = (decD l).1 := readN_len l _ _ _
      change (decQ l).2.1 ≤ l.length at q3
      change _ + (logB (decQ l).1).length ≤ (decQ l).2.1 at q2
      change _ + (vb (decD l).1).length ≤ (decD l).2.1 at d3
      change _ + (vb (decC l).1).length ≤ (decC l).2.1 at c3
      change _ + (vb (decB l).1).length ≤ (decB l).2.1 at b3
      change _ + (vb (decA l).1).length ≤ (decA l).2.1 at a3
      unfold HV.enc decH
      simp only [List.length_append, Int.toNat_natCast, hl]
      omega
    · rw [if_neg hm] at hd
      simp at hd
  · rw [if_neg hE] at hd
    exact absurd (Prod.mk.inj hd).2 hE
theorem dec_no {l : List UInt8} {h : HV} {e : Nat} (hd : decV l = (h, e)) (he : e ≠ 0) : h = HV.zero := by
  unfold decV at hd
  split at hd
  · split at hd
    · exact absurd (Prod.mk.inj hd).2.symm he
    · exact (Prod.mk.inj hd).1.symm
  · exact (Prod.mk.inj hd).1.symm
end Go.Proofs.YtpfoekfbcpinlaaGreatDoor.Hd
/- Heads that come in; a row of numbers searched; whether a tape is a head's. -/
namespace Go.Proofs.YtpfoekfbcpinlaaGreatDoor
open Go.RowKit
set_option linter.unusedVariables false

/-- A row of numbers in the world. -/
def IntsAt (w : World) (ao : Option Addr) (len : Nat) (f : Nat → Int) : Prop := ∀ W, Below w.heap.size w W → ∀ j, j < len → ∃ a, ao = some a ∧ W.cell? (a.add j) = some (.int .i64 (f j))
theorem IntsAt.below {w w' : World} {ao : Option Addr} {len : Nat} {f : Nat → Int} (h : IntsAt w ao len f) (hb : Below w.heap.size w w') : IntsAt w' ao len f := fun W hW => h W (hb.trans (hW.mono hb.size))
def rowI (f : Nat → Int) (n : Nat) : List Int := (List.range n).map f
theorem rowI_succ (f : Nat → Int) (n : Nat) : rowI f (n + 1) = rowI f n ++ [f n] := by simp [rowI, List.range_succ]
theorem rowI_len (f : Nat → Int) (n : Nat) : (rowI f n).length = n := by simp [rowI]
theorem rowI_mem {f : Nat → Int} {n : Nat} {t : Int} : t ∈ rowI f n ↔ ∃ k, k < n ∧ f k = t := by simp [rowI]
structure HdV where
  gen : Int
  base : Int
  snap : Int
  lo : Option Addr
  ll : Nat
  lc : Nat
  lf : Nat → Int
def HdV.v (q : HdV) : Value := .agg #[.int .i64 q.gen, .int .i64 q.base, .int .i64 q.snap, .slice q.lo q.ll q.lc]
def HdV.hv (q : HdV) : Hd.HV := ⟨q.gen, q.base, q.snap, rowI q.lf q.ll⟩
def i64 (n : Int) : Prop := -9223372036854775808 ≤ n ∧ n ≤ 9223372036854775807
def HdV.ok (q : HdV) : Prop := i64 q.gen ∧ i64 q.base ∧ i64 q.snap ∧ q.ll ≤ maxLen ∧ ∀ j, j < q.ll → i64 (q.lf j)
set_option maxRecDepth 20000 in
theorem Index_any (ao : Option Addr) (len cap : Nat) (f : Nat → Int) (t : Int) (w : World) (hl : len ≤ maxLen) (hf : IntsAt w ao len f) :
    Calls Tryz.prog 122 #[.slice ao len cap, .int .i64 t] w fun e w' => (∃ r : Int, e = .returned (.int .i64 r) ∧ decide (0 ≤ r) = decide (t ∈ rowI f len)) ∧ ∃ m, w' = w.drewN m := by
  unfold maxLen at hl
  have HF := Kp.mk (hf w (Below.refl _ _))
  clear hf
  go_enter Tryz.func122, Tryz.ntmps122
  go_wp2
  go_loopw [8] (fun i wr => ∃ k m : Nat, k ≤ len ∧ i = .int .i64 k ∧ (∀ j, j < k → f j ≠ t) ∧ wr = w.drewN m) (fun i _ => len - (intOf i).toNat)
  case atStart => exact ⟨0, 0, by omega, rfl, fun j hj => absurd hj (Nat.not_lt_zero j), rfl⟩
  case round =>
    obtain ⟨k, md, hk, rfl, hno, rfl⟩ := hrel
    have HNo := Kp.mk hno
    clear hno
    by_cases hkl : k < len
    · obtain ⟨a, rfl, hc⟩ := HF.out k hkl
      have hk0 : (0 : Int) ≤ (k : Int) := by omega
      have hk1 : (k : Int) < (len : Int) := by omega
      by_cases he : f k = t
      · have HE := Kp.mk he
        rw [he] at hc
        clear he
        go_wp2
        go_ret
        refine ⟨⟨(k : Int), by trivial, ?_⟩, _, rfl⟩
        rw [decide_eq_true (by omega), decide_eq_true (rowI_mem.2 ⟨k, hkl, HE.out⟩)]
      · have HE : Kp (∀ j, j < k + 1 → f j ≠ t) := ⟨fun j hj => by
          by_cases h : j < k
          · exact HNo.out j h
          · obtain rfl : j = k := by omega
            exact he⟩
        have he' : decide (t = f k) = false := by rw [decide_eq_false_iff_not]; exact fun h => he h.symm
        have he'' : (t == f k) = false := by rw [beq_eq_false_iff_ne]; exact fun h => he h.symm
        clear he
        generalize f k = u at hc he' he''
        go_wp2
        go_roundw
        case rel => exact ⟨k + 1, _, by omega, by go_num, HE.out, rfl⟩
        case measure => simp [intOf]; omega
    · obtain rfl : k = len := by omega
      go_wp2
      go_ret
      refine ⟨⟨-1, by trivial, ?_⟩, _, rfl⟩
      rw [decide_eq_false (by omega), decide_eq_false (fun h => by obtain ⟨j, hj, hx⟩ := rowI_mem.1 h; exact HNo.out j hj hx)]
theorem Contains_any (ao : Option Addr) (len cap : Nat) (f : Nat → Int) (t : Int) (w : World) (hl : len ≤ maxLen) (hf : IntsAt w ao len f) :
    Calls Tryz.prog 104 #[.slice ao len cap, .int .i64 t] w fun e w' => e = .returned (.bool (decide (t ∈ rowI f len))) ∧ ∃ m, w' = w.drewN m := by
  have HI := Kp.mk (Index_any ao len cap f t w hl hf)
  clear hf
  obtain ⟨B, hB⟩ : ∃ B, decide (t ∈ rowI f len) = B := ⟨_, rfl⟩
  rw [hB] at HI ⊢
  clear hB
  go_enter Tryz.func104, Tryz.ntmps104
  go_wp2_with fail
  refine HI.out.mono ?_
  rintro e w' ⟨⟨r, rfl, hr⟩, m, rfl⟩
  go_wp2
  go_ret
  exact ⟨by trivial, _, rfl⟩
theorem tape_any (t : Int) (w : World) : Calls Tryz.prog 134 #[.int .i64 t] w fun e w' => e = .returned (.bool (decide (2 ≤ t) && decide (t < 32))) ∧ w' = w := by
  by_cases h1 : 2 ≤ t
  · by_cases h2 : t < 32
    · have t1 : decide (2 ≤ t) = true := decide_eq_true h1
      have t2 : decide (t < 32) = true := decide_eq_true h2
      rw [t1, t2]
      go_enter Tryz.func134, Tryz.ntmps134
      go_wp2
      go_ret
      exact ⟨by trivial, rfl⟩
    · have t1 : decide (2 ≤ t) = true := decide_eq_true h1
      have t2 : decide (t < 32) = false := decide_eq_false h2
      rw [t1, t2]
      go_enter Tryz.func134, Tryz.ntmps134
      go_wp2
      go_ret
      exact ⟨by trivial, rfl⟩
  · have t1 : decide (2 ≤ t) = false := decide_eq_false h1
    rw [t1]
    go_enter Tryz.func134, Tryz.ntmps134
    go_wp2
    go_ret
    exact ⟨by trivial, rfl⟩
set_option maxHeartbeats 1000000 in
theorem Uses_any (q : HdV) (t : Int) (w : World) (hl : q.ll ≤ maxLen) (hf : IntsAt w q.lo q.ll q.lf) :
    Calls Tryz.prog 79 #[q.v, .int .i64 t] w fun e w' => e = .returned (.bool (q.hv.uses t)) ∧ Below w.heap.size w w' := by
  obtain ⟨gen, base, snap, lo, ll, lc, lf⟩ := q
  unfold HdV.v
  simp only [] at hl hf
  have HC := Kp.mk (fun W (hW : Below w.heap.size w W) => Contains_any lo ll lc lf t W hl (hf.below hW))
  have hb0 : Below w.heap.size w (w.alloc (.cells #[.int .i64 gen, .int .i64 base, .int .i64 snap, .slice lo ll lc] 38)) := (Below.refl _ _).alloc (Nat.le_refl _) _
  have HB := Kp.mk hb0
  clear hf hb0
  by_cases hA : t ≠ 0 ∧ snap = t
  · obtain ⟨hz, rfl⟩ := hA
    have hv : (HdV.hv ⟨gen, base, snap, lo, ll, lc, lf⟩).uses snap = true := by simp [Hd.HV.uses, HdV.hv, hz]
    rw [hv]
    clear hv
    go_enter Tryz.func79, Tryz.ntmps79
    go_wp2
    go_ret
    exact ⟨by trivial, HB.out⟩
  · have hv : (HdV.hv ⟨gen, base, snap, lo, ll, lc, lf⟩).uses t = decide (t ∈ rowI lf ll) := by
      unfold Hd.HV.uses HdV.hv
      have : (decide (t ≠ 0) && decide (snap = t)) = false := by
        rw [Bool.and_eq_false_iff]
        by_cases h0 : t = 0
        · exact .inl (by simp [h0])
        · exact .inr (decide_eq_false (fun h => hA ⟨h0, h⟩))
      simp only [this, Bool.false_or, List.contains_eq_mem]
    rw [hv]
    clear hv
    obtain ⟨B, hB⟩ : ∃ B, decide (t ∈ rowI lf ll) = B := ⟨_, rfl⟩
    rw [hB] at HC ⊢
    clear hB
    by_cases hz : t = 0
    · subst hz
      go_enter Tryz.func79, Tryz.ntmps79
      go_wp2_with fail
      refine (HC.out _ HB.out).mono ?_
      rintro e w' ⟨rfl, m, rfl⟩
      go_wp2
      go_ret
      exact ⟨by trivial, ⟨HB.out.os, HB.out.tape, HB.out.output, HB.out.size, HB.out.block⟩⟩
    · have hs : ¬ snap = t := fun h => hA ⟨hz, h⟩
      clear hA
      go_enter Tryz.func79, Tryz.ntmps79
      go_wp2_with fail
      refine (HC.out _ HB.out).mono ?_
      rintro e w' ⟨rfl, m, rfl⟩
      go_wp2
      go_ret
      have e1 : (snap == t) = false := by rw [beq_eq_false_iff_ne]; exact hs
      exact ⟨by show Ending.returned (Value.bool (t != 0 && snap == t || B)) = _; rw [e1, Bool.and_false, Bool.false_or], ⟨HB.out.os, HB.out.tape, HB.out.output, HB.out.size, HB.out.block⟩⟩
end Go.Proofs.YtpfoekfbcpinlaaGreatDoor
/- A head's tapes; which heads may be. -/
namespace Go.Proofs.YtpfoekfbcpinlaaGreatDoor
open Go.RowKit
set_option linter.unusedVariables false

theorem RK.block {z n q : Nat} {W : World} {cs : Array Value} {T : TypeId} (h : W.heap[q]? = some (.cells cs T (0, 0))) (hz : cs.size = n * z) (hn : n ≤ maxLen) : RK z W (.slice (some ⟨q, 0, none⟩) n n) n cs.toList := by
  refine ⟨by simpa using hz, .inr ⟨q, n, rfl, Nat.le_refl _, hn, fun _ => ⟨src_lt h, fun j u hu => ?_, fun j hj => ?_⟩⟩⟩
  · simp [World.cell?, h]; simpa using hu
  · have : j < cs.size := by omega
    simp [World.cell?, World.frozen?, h, this]
def numL (f : Nat → Int) (n : Nat) : List Value := (rowI f n).map fun x => .int .i64 x
theorem numL_len (f : Nat → Int) (n : Nat) : (numL f n).length = n := by simp [numL, rowI_len]
theorem numL_get (f : Nat → Int) (n j : Nat) (h : j < n) : (numL f n)[j]? = some (.int .i64 (f j)) := by
  simp [numL, rowI, h]
theorem num_one (l : List Int) : ∀ u ∈ l.map (fun x => Value.int .i64 x), u.oneCell' = true := by
  intro u hu
  obtain ⟨x, _, rfl⟩ := List.mem_map.1 hu
  rfl
theorem infoInt : (Tryz.prog.info? 3).map (fun i => (i.zero, i.size, i.bytes)) = some (some (.int .i64 0), 1, 8) := by kernel_rfl
/-- Numbers in the world, as what is appended. -/
theorem IntsAt.src {w : World} {ao : Option Addr} {len cap : Nat} {f : Nat → Int} (h : IntsAt w ao len f) (hs : (ao = none ∧ len = 0 ∧ cap = 0) ∨ ∃ a, ao = some a) (W : World) (hb : Below w.heap.size w W) : Src 1 W (.slice ao len cap) len (numL f len) := by
  refine ⟨by rw [numL_len]; omega, ?_⟩
  rcases hs with ⟨rfl, rfl, rfl⟩ | ⟨a, rfl⟩
  · exact .inl ⟨rfl, rfl⟩
  · refine .inr ⟨a, cap, rfl, fun j u hu => ?_⟩
    have hj : j < len := by
      have := (List.getElem?_eq_some_iff.1 hu).1
      rwa [numL_len] at this
    rw [numL_get f len j hj] at hu
    obtain rfl := Option.some.inj hu
    obtain ⟨a', ha', hc⟩ := h W hb j hj
    obtain rfl := Option.some.inj ha'
    exact hc
theorem RK.ints {W : World} {g n cap : Nat} {f : Nat → Int} (hr : RK 1 W (.slice (some ⟨g, 0, none⟩) n cap) n (numL f n)) : IntsAt W (some ⟨g, 0, none⟩) n f := fun W' hb j hj => by
  refine ⟨_, rfl, ?_⟩
  rw [Addr.add_lit, Nat.zero_add]
  exact (hr.below hb).cell j _ (numL_get f n j hj)
/-- A number ahead of others. -/
def ahead (x : Int) (f : Nat → Int) : Nat → Int
  | 0 => x
  | k + 1 => f k
theorem rowI_ahead (x : Int) (f : Nat → Int) (n : Nat) : rowI (ahead x f) (n + 1) = x :: rowI f n := by
  unfold rowI
  rw [List.range_succ_eq_map, List.map_cons, List.map_map]
  rfl
set_option maxHeartbeats 1000000 in
theorem tapes_any (q : HdV) (w : World) (hl : q.ll + 1 ≤ maxLen) (h47 : (q.ll + 1) * 8 ≤ 140737488355328) (hs : (q.lo = none ∧ q.ll = 0 ∧ q.lc = 0) ∨ ∃ a, q.lo = some a) (hf : IntsAt w q.lo q.ll q.lf) :
    Calls Tryz.prog 133 #[q.v] w fun e w' => ∃ ao n cap g, e = .returned (.slice ao n cap) ∧ rowI g n = q.hv.tapes ∧ n ≤ q.ll + 1 ∧ Below w.heap.size w w' ∧ ((ao = q.lo ∧ n = q.ll ∧ g = q.lf) ∨ ∃ gb, ao = some ⟨gb, 0, none⟩ ∧ w.heap.size ≤ gb ∧ RK 1 w' (.slice ao n cap) n (numL g n)) := by
  obtain ⟨gen, base, snap, lo, ll, lc, lf⟩ := q
  unfold HdV.v HdV.hv Hd.HV.tapes
  simp only [] at hl h47 hs hf ⊢
  have hb0 : Below w.heap.size w (w.alloc (.cells #[.int .i64 gen, .int .i64 base, .int .i64 snap, .slice lo ll lc] 38)) := (Below.refl _ _).alloc (Nat.le_refl _) _
  have HB := Kp.mk hb0
  by_cases h0 : snap = 0
  · subst h0
    rw [if_pos rfl]
    clear hf hb0 hs
    go_enter Tryz.func133, Tryz.ntmps133
    go_wp2
    go_ret
    exact ⟨lo, ll, lc, lf, by trivial, rfl, by omega, HB.out, .inl ⟨rfl, rfl, rfl⟩⟩
  · rw [if_neg h0]
    have hb1 : Below w.heap.size w ((w.alloc (.cells #[.int .i64 gen, .int .i64 base, .int .i64 snap, .slice lo ll lc] 38)).alloc (.cells #[.int .i64 snap] 3)) := hb0.alloc (by simp) _
    have HB1 := Kp.mk hb1
    have HR : Kp (RK 1 ((w.alloc (.cells #[.int .i64 gen, .int .i64 base, .int .i64 snap, .slice lo ll lc] 38)).alloc (.cells #[.int .i64 snap] 3)) (.slice (some ⟨w.heap.size + 1, 0, none⟩) 1 1) 1 [.int .i64 snap]) := ⟨RK.block (heap_second w _ _) rfl (by decide)⟩
    have HSrc := Kp.mk (hf.src (cap := lc) hs _ hb1)
    have HAd : Kp ([.int .i64 snap] ++ numL lf ll = numL (ahead snap lf) (ll + 1)) := ⟨by unfold numL; rw [rowI_ahead]; rfl⟩
    have HOne := Kp.mk (num_one (rowI lf ll))
    obtain ⟨i0, hi0, hi1, hi2, hi3⟩ := info_parts infoInt
    have HI := Kp.mk (And.intro hi0 (And.intro hi1 (And.intro hi2 hi3)))
    have HLM : Kp (1 + ll ≤ maxLen ∧ (1 + ll) * 8 ≤ 140737488355328) := ⟨by omega⟩
    clear hf hb0 hb1 hs hi0 hi1 hi2 hi3 hl h47
    go_enter Tryz.func133, Tryz.ntmps133
    go_wp2_with (at_builtin; go_loud (refine wpList_append_src rfl _ _ 36 rfl HR.out HSrc.out 3 i0 _ 8 Tryz.underlying36 HI.out.1 HI.out.2.1 HI.out.2.2.1 HI.out.2.2.2 rfl (by decide) rfl rfl HOne.out HLM.out.1 HLM.out.2 (ll + 1) _ (by omega) HAd.out ?_; intro ao cap w3 k1 k2 k3; have K1 := Kp.mk k1; have K2 := Kp.mk (HB1.out.grown k2 (by simp; omega) (fun j e => by simp [blk] at e; omega)); have K3 : Kp (∀ j, blk (.slice ao (ll + 1) cap) = some j → w.heap.size ≤ j) := ⟨fun j e => (k3 j e).elim (fun h => by simp [blk] at h; omega) (fun h => by simp at h; omega)⟩; clear k1 k2 k3))
    go_ret
    obtain ⟨g, cp, he, _, _, _, hbk⟩ := K1.out.at_ (by omega)
    have hgb := K3.out g hbk
    simp only [Value.slice.injEq] at he
    obtain ⟨rfl, _, rfl⟩ := he
    exact ⟨_, ll + 1, _, ahead snap lf, by trivial, rowI_ahead _ _ _, Nat.le_refl _, K2.out, .inr ⟨g, rfl, hgb, K1.out⟩⟩
end Go.Proofs.YtpfoekfbcpinlaaGreatDoor
