/- The walks of package bits, part 4: a Reader, as it lies in memory, and its small methods. -/
import Derived.Test.YtdclfffjiokenaaDoorBitsAwake
import Derived.Deep.RegionHeld3
namespace Go.Proofs.YtdclfffjiokenaaDoor
open Go.RowKit
set_option linter.unusedVariables false

/-- A Reader lies in block g. -/
def Rd (w : World) (g : Nat) (s : ByteArray) (p e : Nat) : Prop := w.heap[g]? = some (.cells #[.string s, .int .i64 p, .int .i64 e] 79 (0, 0))
theorem Rd.c0 {w : World} {g : Nat} {s : ByteArray} {p e : Nat} (h : Rd w g s p e) : w.cell? ⟨g, 0, none⟩ = some (.string s) := by unfold Rd at h; simp [World.cell?, h]
theorem Rd.c1 {w : World} {g : Nat} {s : ByteArray} {p e : Nat} (h : Rd w g s p e) : w.cell? ⟨g, 1, none⟩ = some (.int .i64 p) := by unfold Rd at h; simp [World.cell?, h]
theorem Rd.c2 {w : World} {g : Nat} {s : ByteArray} {p e : Nat} (h : Rd w g s p e) : w.cell? ⟨g, 2, none⟩ = some (.int .i64 e) := by unfold Rd at h; simp [World.cell?, h]
theorem Rd.free {w : World} {g : Nat} {s : ByteArray} {p e : Nat} (h : Rd w g s p e) (j : Nat) : w.frozen? ⟨g, j, none⟩ = false := by unfold Rd at h; simp [World.frozen?, h]
theorem Rd.lt {w : World} {g : Nat} {s : ByteArray} {p e : Nat} (h : Rd w g s p e) : g < w.heap.size := lt_of_block h
theorem Rd.drew {w : World} {g : Nat} {s : ByteArray} {p e : Nat} (h : Rd w g s p e) : Rd w.drew g s p e := h
theorem Rd.set1 {w : World} {g : Nat} {s : ByteArray} {p e : Nat} (h : Rd w g s p e) (q : Nat) : Rd (w.setCell ⟨g, 1, none⟩ (.int .i64 q)) g s q e := by
  have hlt := h.lt
  unfold Rd at *
  show (w.heap.modify g _)[g]? = _
  rw [Array.getElem?_modify]
  simp [h]
theorem Rd.set2 {w : World} {g : Nat} {s : ByteArray} {p e : Nat} (h : Rd w g s p e) (q : Nat) : Rd (w.setCell ⟨g, 2, none⟩ (.int .i64 q)) g s p q := by
  have hlt := h.lt
  unfold Rd at *
  show (w.heap.modify g _)[g]? = _
  rw [Array.getElem?_modify]
  simp [h]
theorem grown_set (w : World) (g j : Nat) (v : Value) : w.grownBy (w.setCell ⟨g, j, none⟩ v) (some g) :=
  ⟨rfl, rfl, rfl, by simp, fun k _ hne => Below.heap_setCell w ⟨g, j, none⟩ v k (fun e => hne (by rw [e]))⟩
theorem Left_any (g : Nat) (s : ByteArray) (p e : Nat) (w : World) (h : Rd w g s p e) (hp : p ≤ s.size) (hs : s.size ≤ 140737488351232) :
    Calls Tryd.prog 30 #[.pointer (some ⟨g, 0, none⟩)] w fun r w' => r = .returned (.int .i64 ((s.size - p : Nat) : Int)) ∧ w.drew = w' := by
  have hc0 := h.drew.c0
  have hc1 := h.drew.c1
  have hd : ((s.size - p : Nat) : Int) = (s.size : Int) - p := by omega
  rw [hd]
  clear h
  go_enter Tryd.func30, Tryd.ntmps30
  go_wp2
  go_region
  all_goals go_wp2
  all_goals go_ret
  all_goals exact ⟨rfl, rfl⟩
theorem good_any (g : Nat) (s : ByteArray) (p e : Nat) (w : World) (h : Rd w g s p e) :
    Calls Tryd.prog 42 #[.pointer (some ⟨g, 0, none⟩)] w fun r w' => r = .returned (.bool (decide (e = 0))) ∧ w = w' := by
  have hc := h.c2
  clear h
  go_enter Tryd.func42, Tryd.ntmps42
  go_wp2
  go_ret
  refine ⟨ret_bool ?_, rfl⟩
  rw [Bool.eq_iff_iff]; simp
theorem take_any (g : Nat) (s : ByteArray) (p e : Nat) (q e1 : Nat) (w : World) (h : Rd w g s p e) :
    Calls Tryd.prog 44 #[.pointer (some ⟨g, 0, none⟩), .int .i64 q, .int .i64 e1] w fun r w' => r = .returned (.bool (decide (e1 = 0))) ∧ (if e1 = 0 then Rd w' g s q e else Rd w' g s p e1) ∧ w.grownBy w' (some g) := by
  by_cases h0 : e1 = 0
  · subst h0
    have HR := Kp.mk (h.set1 q)
    have hc := h.c1
    have hf := h.free 1
    clear h
    go_enter Tryd.func44, Tryd.ntmps44
    go_wp2
    go_ret
    exact ⟨rfl, HR.out, grown_set _ _ _ _⟩
  · have HR := Kp.mk (h.set2 e1)
    have hc := h.c2
    have hf := h.free 2
    have t : ((e1 : Int) != 0) = true := by rw [bne_iff_ne]; omega
    clear h
    go_enter Tryd.func44, Tryd.ntmps44
    go_wp2
    go_ret
    exact ⟨by simp, HR.out, grown_set _ _ _ _⟩
end Go.Proofs.YtdclfffjiokenaaDoor
