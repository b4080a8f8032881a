/- The walks of package bits, part 5: what a Reader reads. -/
import Derived.Test.YtmfigoffkopohaaReader
namespace Go.Proofs.Ytmfigoffkopohaa
open Go.RowKit
set_option linter.unusedVariables false

namespace Var
/-- A reader's varint: the number, where it stands, its error. -/
def rVarint (l : List UInt8) (p e most : Nat) : Nat × Nat × Nat :=
  if e = 0 then (if (uvI l p).2.2 = 0 then (if most < (uvI l p).1 then (0, p, 40) else ((uvI l p).1, (uvI l p).2.1, 0)) else (0, p, (uvI l p).2.2)) else (0, p, e)
theorem uvI_facts (l : List UInt8) (p : Nat) (hp : p ≤ l.length) : (uvI l p).1 < 18446744073709551616 ∧ (uvI l p).2.1 ≤ l.length ∧ (uvI l p).2.2 ≤ 8 ∧ ((uvI l p).2.2 = 0 → p < (uvI l p).2.1) := by
  have h := uv_bounds (l := l.drop p) 0 0 (by omega) (by simp)
  obtain ⟨h1, h2, h3, h4, h5⟩ := h
  have e : uvI l p = ((go (l.drop p) 0 0).1, if (go (l.drop p) 0 0).2.2 = 0 then p + (go (l.drop p) 0 0).2.1 else 0, (go (l.drop p) 0 0).2.2) := by
    unfold uvI
    rw [if_neg (by simp; omega), Int.toNat_natCast]
    rfl
  rw [e]
  simp only [List.length_drop] at h2
  refine ⟨by simpa using h1, ?_, ?_, ?_⟩
  · show (if (go (l.drop p) 0 0).2.2 = 0 then p + (go (l.drop p) 0 0).2.1 else 0) ≤ l.length
    split <;> omega
  · show (go (l.drop p) 0 0).2.2 ≤ 8
    omega
  · show (go (l.drop p) 0 0).2.2 = 0 → p < (if (go (l.drop p) 0 0).2.2 = 0 then p + (go (l.drop p) 0 0).2.1 else 0)
    intro h
    rw [if_pos h]
    have := h5 h
    omega
end Var
theorem grown_trans' {w w1 w2 : World} {row : Option Nat} (h : w.grownBy w1 row) (h1 : w1.grownBy w2 row) : w.grownBy w2 row :=
  ⟨h1.os.trans h.os, h1.tape.trans h.tape, h1.output.trans h.output, Nat.le_trans h.size h1.size, fun k hk hne => by rw [h1.block k (Nat.lt_of_lt_of_le hk h.size) hne, h.block k hk hne]⟩
theorem grown_drew (w : World) (row : Option Nat) : w.grownBy w.drew row := ⟨rfl, rfl, rfl, Nat.le_refl _, fun _ _ _ => rfl⟩
set_option maxRecDepth 20000 in
theorem Varint_any (g : Nat) (s : ByteArray) (p e most : Nat) (w : World) (h : Rd w g s p e) (hp : p ≤ s.size) (hs : s.size ≤ 140737488351232) (hm : most < 18446744073709551616) :
    Calls Try.prog 41 #[.pointer (some ⟨g, 0, none⟩), .int .u64 most] w fun r w' => r = .returned (.int .u64 ((Var.rVarint s.data.toList p e most).1 : Nat)) ∧ Rd w' g s (Var.rVarint s.data.toList p e most).2.1 (Var.rVarint s.data.toList p e most).2.2 ∧ w.grownBy w' (some g) := by
  have HG := Kp.mk (good_any g s p e w h)
  by_cases he : e = 0
  · subst he
    have HU : Kp (∀ w, Calls Try.prog 14 #[.string s, .int .i64 p] w fun e w' => e = tup3 (Var.uvI s.data.toList p) ∧ w = w') := ⟨fun w => Uvarint_any s p w hs (by omega) (by omega)⟩
    have hf := Var.uvI_facts s.data.toList p (by rw [data_len]; exact hp)
    unfold tup3 at HU
    unfold Var.rVarint
    rw [if_pos rfl]
    generalize Var.uvI s.data.toList p = x at HU hf ⊢
    obtain ⟨n, k, e1⟩ := x
    obtain ⟨f1, f2, f3, f4⟩ := hf
    simp only [] at f1 f2 f3 f4 ⊢
    rw [data_len] at f2
    have HT : Kp (∀ (q e1 : Nat) (ve : Int), ve = (e1 : Int) → Calls Try.prog 53 #[.pointer (some ⟨g, 0, none⟩), .int .i64 (q : Nat), .int .i64 ve] w.drew fun r w' => r = .returned (.bool (decide (e1 = 0))) ∧ (if e1 = 0 then Rd w' g s q 0 else Rd w' g s p e1) ∧ w.drew.grownBy w' (some g)) := ⟨fun q e1 ve hve => by subst hve; exact take_any g s p 0 q e1 w.drew h⟩
    have hc0 := h.drew.c0
    have hc1 := h.drew.c1
    have h' := Kp.mk h
    clear h f4
    obtain ⟨r3, hr3⟩ : ∃ r3, (if e1 = 0 then (if most < n then (0, p, 40) else (n, k, 0)) else (0, p, e1)) = r3 := ⟨_, rfl⟩
    rw [hr3]
    have HR3 := Kp.mk hr3
    clear hr3
    go_enter Try.func41, Try.ntmps41
    go_wp2_with fail
    refine HG.out.mono ?_
    rintro e w' ⟨rfl, rfl⟩
    go_wp2_with fail
    go_region_held3 (fun w' => w'.cell? ⟨g, 0, none⟩ = some (.string s) ∧ w'.cell? ⟨g, 1, none⟩ = some (.int .i64 p)) (go_keep)
      (first | (go_at_call 14; refine (HU.out _).mono ?_; rintro e w' ⟨rfl, rfl⟩))
    clear hc0 hc1
    by_cases h1 : e1 = 0
    · have t0 : ((e1 : Int) == 0) = true := by rw [beq_iff_eq]; omega
      by_cases h2 : most < n
      · have hr : r3 = (0, p, 40) := by rw [← HR3.out, if_pos h1, if_pos h2]
        go_wp2_with fail
        refine (HT.out k 40 40 rfl).mono ?_
        rintro e w' ⟨rfl, t1, t2⟩
        go_wp2
        go_ret
        exact ⟨by rw [hr]; rfl, by rw [hr]; exact t1, grown_trans' (grown_drew w _) t2⟩
      · have hr : r3 = (n, k, 0) := by rw [← HR3.out, if_pos h1, if_neg h2]
        go_wp2_with fail
        refine (HT.out k 0 0 rfl).mono ?_
        rw [show decide ((0 : Nat) = 0) = true from rfl]
        rintro e w' ⟨rfl, t1, t2⟩
        rw [if_pos rfl] at t1
        go_wp2
        go_ret
        exact ⟨by rw [hr]; rfl, by rw [hr]; exact t1, grown_trans' (grown_drew w _) t2⟩
    · have hr : r3 = (0, p, e1) := by rw [← HR3.out, if_neg h1]
      have t0 : ((e1 : Int) == 0) = false := by rw [beq_eq_false_iff_ne]; omega
      have hd : decide (e1 = 0) = false := by simp [h1]
      go_wp2_with fail
      refine (HT.out k e1 _ rfl).mono ?_
      rw [hd]
      rintro e w' ⟨rfl, t1, t2⟩
      rw [if_neg h1] at t1
      go_wp2
      go_ret
      exact ⟨by rw [hr]; rfl, by rw [hr]; exact t1, grown_trans' (grown_drew w _) t2⟩
  · unfold Var.rVarint
    rw [if_neg he]
    have hd : decide (e = 0) = false := by simp [he]
    rw [hd] at HG
    have h' := Kp.mk h
    clear h
    go_enter Try.func41, Try.ntmps41
    go_wp2_with fail
    refine HG.out.mono ?_
    rintro e w' ⟨rfl, rfl⟩
    go_wp2
    go_ret
    exact ⟨rfl, h'.out, World.grownBy.refl _ _⟩
end Go.Proofs.Ytmfigoffkopohaa
