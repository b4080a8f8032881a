/- The walks of package bits, part 7: Reader's Raw, Byte, Text, End, New. -/
import Derived.Test.YtdclfffjiokenaaDoorReaderThree
namespace Go.Proofs.YtdclfffjiokenaaDoor
open Go.RowKit
set_option linter.unusedVariables false

theorem bytes_ext {a b : ByteArray} (h : a.data.toList = b.data.toList) : a = b := by
  obtain ⟨⟨a⟩⟩ := a
  obtain ⟨⟨b⟩⟩ := b
  simp at h
  subst h
  rfl
set_option maxRecDepth 20000 in
theorem Raw_any (g : Nat) (s : ByteArray) (p e : Nat) (n : Int) (w : World) (h : Rd w g s p e) (hp : p ≤ s.size) (hs : s.size ≤ 140737488351232) :
    Calls Tryd.prog 31 #[.pointer (some ⟨g, 0, none⟩), .int .i64 n] w fun r w' => r = .returned (.string (B (Var.rRaw s.data.toList p e n).1)) ∧ Rd w' g s (Var.rRaw s.data.toList p e n).2.1 (Var.rRaw s.data.toList p e n).2.2 ∧ w.grownBy w' (some g) := by
  have HG := Kp.mk (good_any g s p e w h)
  have HL := Kp.mk (Left_any g s p e w h hp hs)
  have h' := Kp.mk h
  by_cases he : e = 0
  · subst he
    have HG : Kp _ := HG
    by_cases hn : n < 0
    · have HV : Kp (Var.rRaw s.data.toList p 0 n = ([], p, 1)) := ⟨by simp [Var.rRaw, hn]⟩
      have HS := Kp.mk (h.set2 1)
      have hc := h.c2
      have hf := h.free 2
      clear h
      go_enter Tryd.func31, Tryd.ntmps31
      go_wp2_with fail
      refine HG.out.mono ?_
      rintro e w' ⟨rfl, rfl⟩
      go_wp2
      go_ret
      exact ⟨by rw [HV.out]; rfl, by rw [HV.out]; exact HS.out, grown_set _ _ _ _⟩
    by_cases hl : ((s.size - p : Nat) : Int) < n
    · have HV : Kp (Var.rRaw s.data.toList p 0 n = ([], p, 8)) := ⟨by unfold Var.rRaw; rw [if_pos rfl, if_neg hn, if_pos (by rw [data_len]; exact hl)]⟩
      have HS := Kp.mk (h.drew.set2 8)
      have hc := h.drew.c2
      have hf := h.drew.free 2
      clear h
      go_enter Tryd.func31, Tryd.ntmps31
      go_wp2_with fail
      refine HG.out.mono ?_
      rintro e w' ⟨rfl, rfl⟩
      go_wp2_with fail
      refine HL.out.mono ?_
      rintro e w' ⟨rfl, rfl⟩
      go_wp2
      go_ret
      exact ⟨by rw [HV.out]; rfl, by rw [HV.out]; exact HS.out, grown_trans' (grown_drew w _) (grown_set _ _ _ _)⟩
    obtain ⟨m, rfl⟩ := Int.eq_ofNat_of_zero_le (show 0 ≤ n by omega)
    have hpm : p + m ≤ s.size := by omega
    have HV : Kp (Var.rRaw s.data.toList p 0 m = ((s.data.toList.drop p).take m, p + m, 0)) := ⟨by unfold Var.rRaw; rw [if_pos rfl, if_neg hn, if_neg (by rw [data_len]; exact hl)]; rfl⟩
    have HX : Kp (s.extract p (p + m) = B ((s.data.toList.drop p).take m)) := ⟨bytes_ext (by rw [extract_list, B_list])⟩
    have hset := h.drew.set1 (p + m)
    have HS := Kp.mk hset
    have hc := h.drew.c1
    have hf := h.drew.free 1
    have hcast : (((p + m : Nat) : Int)) = (p : Int) + m := Int.natCast_add p m
    have hs2 := h.set1 (p + m)
    have hd0 : (w.setCell ⟨g, 1, none⟩ (.int .i64 ((p : Int) + m))).drew.drew.cell? ⟨g, 0, none⟩ = some (.string s) := by rw [← hcast]; exact hs2.drew.drew.c0
    have hd1 : (w.setCell ⟨g, 1, none⟩ (.int .i64 ((p : Int) + m))).drew.drew.cell? ⟨g, 1, none⟩ = some (.int .i64 ((p : Int) + m)) := by rw [← hcast]; exact hs2.drew.drew.c1
    rw [hcast] at HS
    clear hs2
    clear h hset hn hl
    go_enter Tryd.func31, Tryd.ntmps31
    go_wp2_with fail
    refine HG.out.mono ?_
    rintro e w' ⟨rfl, rfl⟩
    go_wp2_with fail
    refine HL.out.mono ?_
    rintro e w' ⟨rfl, rfl⟩
    go_wp2
    obtain ⟨q, hq⟩ : ∃ q : Int, (p : Int) + m = q := ⟨_, rfl⟩
    obtain ⟨M, hM⟩ : ∃ M : Int, (m : Int) = M := ⟨_, rfl⟩
    obtain ⟨P, hP⟩ : ∃ P : Int, (p : Int) = P := ⟨_, rfl⟩
    have hw : wrap64 (q - M) = P := by rw [← hq, ← hM, ← hP, Int.add_sub_cancel]; unfold wrap64; omega
    have hP0 : 0 ≤ P := by omega
    have hPq : P ≤ q := by omega
    have hqs : q ≤ (s.size : Int) := by omega
    have hPn : Kp (P.toNat = p) := ⟨by omega⟩
    have hqn : Kp (q.toNat = p + m) := ⟨by omega⟩
    rw [hq] at hd0 hd1 HS ⊢
    rw [hM]
    clear hM hP hq hpm hcast
    have HX2 : Kp (s.extract P.toNat q.toNat = B ((s.data.toList.drop p).take m)) := ⟨by rw [hPn.out, hqn.out]; exact HX.out⟩
    go_region
    go_wp2
    go_ret
    exact ⟨by rw [HV.out, ← HX2.out]; rfl, by rw [HV.out]; exact HS.out.drew, grown_trans' (grown_trans' (grown_drew w _) (grown_set _ _ _ _)) (grown_drew _ _)⟩
  · have HV : Kp (Var.rRaw s.data.toList p e n = ([], p, e)) := ⟨by unfold Var.rRaw; rw [if_neg he]⟩
    have hd : decide (e = 0) = false := by simp [he]
    rw [hd] at HG
    clear h
    go_enter Tryd.func31, Tryd.ntmps31
    go_wp2_with fail
    refine HG.out.mono ?_
    rintro e w' ⟨rfl, rfl⟩
    go_wp2
    go_ret
    exact ⟨by rw [HV.out]; rfl, by rw [HV.out]; exact h'.out, World.grownBy.refl _ _⟩
namespace Var
/-- A reader's text, of most bytes at most. -/
def rText (l : List UInt8) (p e : Nat) (most : Int) : List UInt8 × Nat × Nat :=
  if e = 0 then
    (if (rVarint l p 0 most.toNat).2.2 = 0 then
      (if l.length - (rVarint l p 0 most.toNat).2.1 < (rVarint l p 0 most.toNat).1 then ([], p, 8)
       else rRaw l (rVarint l p 0 most.toNat).2.1 0 ((rVarint l p 0 most.toNat).1 : Nat))
     else ([], (rVarint l p 0 most.toNat).2.1, (rVarint l p 0 most.toNat).2.2))
  else ([], p, e)
theorem rVarint_facts (l : List UInt8) (p most : Nat) (hp : p ≤ l.length) : (rVarint l p 0 most).1 < 18446744073709551616 ∧ (rVarint l p 0 most).2.1 ≤ l.length ∧ (rVarint l p 0 most).2.2 ≤ 40 ∧ p ≤ (rVarint l p 0 most).2.1 ∧ (rVarint l p 0 most).1 ≤ most := by
  obtain ⟨h1, h2, h3, h4⟩ := uvI_facts l p hp
  unfold rVarint
  rw [if_pos rfl]
  split
  · split
    · simp; omega
    · simp; omega
  · simp; omega
end Var
end Go.Proofs.YtdclfffjiokenaaDoor
