/- The walks of package bits, part 6: Reader's Zag, Fixed, Raw. -/
import Derived.Test.YtdclfffjiokenaaDoorReaderTwo
namespace Go.Proofs.YtdclfffjiokenaaDoor
open Go.RowKit
set_option linter.unusedVariables false

namespace Var
def rZag (l : List UInt8) (p e : Nat) (least most : Int) : Int × Nat × Nat :=
  if e = 0 then (if (uvI l p).2.2 = 0 then (if zag (uvI l p).1 < least ∨ most < zag (uvI l p).1 then (0, p, 40) else (zag (uvI l p).1, (uvI l p).2.1, 0)) else (0, p, (uvI l p).2.2)) else (0, p, e)
def rFixed (l : List UInt8) (p e : Nat) (size : Int) : Nat × Nat × Nat :=
  if e = 0 then (if (fixI l p size).2.2 = 0 then fixI l p size else (0, p, (fixI l p size).2.2)) else (0, p, e)
def rRaw (l : List UInt8) (p e : Nat) (n : Int) : List UInt8 × Nat × Nat :=
  if e = 0 then (if n < 0 then ([], p, 1) else if ((l.length - p : Nat) : Int) < n then ([], p, 8) else ((l.drop p).take n.toNat, p + n.toNat, 0)) else ([], p, e)
theorem fixI_facts (l : List UInt8) (p : Nat) (size : Int) (hp : p ≤ l.length) : (fixI l p size).1 < 18446744073709551616 ∧ (fixI l p size).2.1 ≤ l.length ∧ (fixI l p size).2.2 ≤ 8 ∧ ((fixI l p size).2.2 = 0 → p < (fixI l p size).2.1) ∧ ((fixI l p size).2.2 ≠ 0 → (fixI l p size).1 = 0) := by
  unfold fixI
  split
  · simp
  · rename_i h1
    split
    · simp
    · rename_i h2
      have hz : size.toNat = 4 ∨ size.toNat = 8 := by omega
      have hlen : ((l.drop (p : Int).toNat).take size.toNat).length = size.toNat := by simp; omega
      have hf := fv_lt ((l.drop (p : Int).toNat).take size.toNat)
      rw [hlen] at hf
      refine ⟨?_, by simp; omega, by simp, fun _ => by simp; omega, fun h => absurd rfl h⟩
      have : 256 ^ size.toNat ≤ 256 ^ 8 := Nat.pow_le_pow_right (by decide) (by omega)
      have e : 256 ^ 8 = 18446744073709551616 := rfl
      show fv _ < _
      omega
end Var
set_option maxRecDepth 20000 in
theorem RFixed_any (g : Nat) (s : ByteArray) (p e : Nat) (size : Int) (w : World) (h : Rd w g s p e) (hp : p ≤ s.size) (hs : s.size ≤ 140737488351232) :
    Calls Tryd.prog 29 #[.pointer (some ⟨g, 0, none⟩), .int .i64 size] w fun r w' => r = .returned (.int .u64 ((Var.rFixed s.data.toList p e size).1 : Nat)) ∧ Rd w' g s (Var.rFixed s.data.toList p e size).2.1 (Var.rFixed s.data.toList p e size).2.2 ∧ w.grownBy w' (some g) := by
  have HG := Kp.mk (good_any g s p e w h)
  by_cases he : e = 0
  · subst he
    have HU : Kp (∀ w, Calls Tryd.prog 43 #[.string s, .int .i64 p, .int .i64 size] w fun e w' => e = tup3 (Var.fixI s.data.toList p size) ∧ w = w') := ⟨fun w => Fixed_any s p size w hs (by omega) (by omega)⟩
    have hf := Var.fixI_facts s.data.toList p size (by rw [data_len]; exact hp)
    unfold tup3 at HU
    unfold Var.rFixed
    rw [if_pos rfl]
    generalize Var.fixI s.data.toList p size = x at HU hf ⊢
    obtain ⟨n, k, e1⟩ := x
    obtain ⟨f1, f2, f3, f4, f5⟩ := hf
    simp only [] at f1 f2 f3 f4 f5 ⊢
    rw [data_len] at f2
    have HT : Kp (∀ (q e1 : Nat) (ve : Int), ve = (e1 : Int) → Calls Tryd.prog 44 #[.pointer (some ⟨g, 0, none⟩), .int .i64 (q : Nat), .int .i64 ve] w.drew fun r w' => r = .returned (.bool (decide (e1 = 0))) ∧ (if e1 = 0 then Rd w' g s q 0 else Rd w' g s p e1) ∧ w.drew.grownBy w' (some g)) := ⟨fun q e1 ve hve => by subst hve; exact take_any g s p 0 q e1 w.drew h⟩
    have hc0 := h.drew.c0
    have hc1 := h.drew.c1
    have h' := Kp.mk h
    have f5' := Kp.mk f5
    clear h f4 f5
    obtain ⟨r3, hr3⟩ : ∃ r3, (if e1 = 0 then (n, k, e1) else (0, p, e1)) = r3 := ⟨_, rfl⟩
    rw [hr3]
    have HR3 := Kp.mk hr3
    clear hr3
    go_enter Tryd.func29, Tryd.ntmps29
    go_wp2_with fail
    refine HG.out.mono ?_
    rintro e w' ⟨rfl, rfl⟩
    go_wp2_with fail
    go_region_held3 (fun w' => w'.cell? ⟨g, 0, none⟩ = some (.string s) ∧ w'.cell? ⟨g, 1, none⟩ = some (.int .i64 p)) (go_keep)
      (first | (go_at_call 43; refine (HU.out _).mono ?_; rintro e w' ⟨rfl, rfl⟩))
    clear hc0 hc1
    by_cases h1 : e1 = 0
    · have hr : Kp (r3 = (n, k, e1)) := ⟨by rw [← HR3.out, if_pos h1]⟩
      have h1' := Kp.mk h1
      clear h1
      go_wp2_with fail
      refine (HT.out k e1 _ rfl).mono ?_
      rintro e w' ⟨rfl, t1, t2⟩
      rw [if_pos h1'.out] at t1
      go_wp2
      go_ret
      exact ⟨by rw [hr.out]; rfl, by rw [hr.out, h1'.out]; exact t1, grown_trans' (grown_drew w _) t2⟩
    · have hr : r3 = (0, p, e1) := by rw [← HR3.out, if_neg h1]
      have hn0 : n = 0 := f5'.out h1
      go_wp2_with fail
      refine (HT.out k e1 _ rfl).mono ?_
      rintro e w' ⟨rfl, t1, t2⟩
      rw [if_neg h1] at t1
      go_wp2
      go_ret
      exact ⟨by rw [hr]; rfl, by rw [hr]; exact t1, grown_trans' (grown_drew w _) t2⟩
  · unfold Var.rFixed
    rw [if_neg he]
    have hd : decide (e = 0) = false := by simp [he]
    rw [hd] at HG
    have h' := Kp.mk h
    clear h
    go_enter Tryd.func29, Tryd.ntmps29
    go_wp2_with fail
    refine HG.out.mono ?_
    rintro e w' ⟨rfl, rfl⟩
    go_wp2
    go_ret
    exact ⟨rfl, h'.out, World.grownBy.refl _ _⟩
end Go.Proofs.YtdclfffjiokenaaDoor
