/- The laws' all. -/
import Derived.Test.YtdclfffjiokenaaDoorFrameOne
import Derived.Deep.RegionWith
namespace Go.Proofs.YtdclfffjiokenaaDoor
open Go.RowKit
set_option linter.unusedVariables false

def sameF (f g : FrV) : Bool := decide (f.k = g.k) && (decide (f.p = g.p) && decide ((f.a : Int) = (g.a : Int)))
theorem sameF_iff (f g : FrV) : sameF f g = true ↔ f = g := by
  obtain ⟨k, p, a⟩ := f
  obtain ⟨k', p', a'⟩ := g
  simp [sameF]
  omega
def allF : List FrV → List FrV → Bool
  | [], [] => true
  | f :: l, g :: m => sameF f g && allF l m
  | _, _ => false
theorem allF_iff (l m : List FrV) : allF l m = true ↔ l = m := by
  induction l generalizing m with
  | nil => cases m <;> simp [allF]
  | cons f l ih => cases m with
    | nil => simp [allF]
    | cons g m => simp [allF, sameF_iff, ih]
theorem cells_get (l : List FrV) (i : Nat) (h : i < l.length) : (l.flatMap FrV.cells)[i * 3]? = some (.int .u8 l[i].k) ∧ (l.flatMap FrV.cells)[i * 3 + 1]? = some (.string (B l[i].p)) ∧ (l.flatMap FrV.cells)[i * 3 + 2]? = some (.int .i64 l[i].a) := by
  induction l generalizing i with
  | nil => simp at h
  | cons f l ih =>
    cases i with
    | zero => simp [FrV.cells]
    | succ i =>
      have := ih i (by simpa using h)
      simp only [List.flatMap_cons, FrV.cells, List.getElem_cons_succ] at this ⊢
      rw [show (i + 1) * 3 = 3 + i * 3 from by omega, show 3 + i * 3 + 1 = 3 + (i * 3 + 1) from by omega, show 3 + i * 3 + 2 = 3 + (i * 3 + 2) from by omega]
      rw [List.getElem?_append_right (by simp), List.getElem?_append_right (by simp), List.getElem?_append_right (by simp)]
      simpa using this
theorem take_step (l m : List FrV) (k : Nat) (h1 : k < l.length) (h2 : k < m.length) (h : l.take k = m.take k) (he : l[k] = m[k]) : l.take (k + 1) = m.take (k + 1) := by
  rw [List.take_succ_eq_append_getElem h1, List.take_succ_eq_append_getElem h2, h, he]
set_option maxRecDepth 100000 in
set_option maxHeartbeats 2000000 in
theorem all_any (u v : Value) (l m : List FrV) (w : World) (hu : RK 3 w u l.length (l.flatMap FrV.cells)) (hv : RK 3 w v m.length (m.flatMap FrV.cells)) (hl : l.length ≤ 1000000000000) (hlk : ∀ f ∈ l, f.k < 256) (hmk : ∀ f ∈ m, f.k < 256) :
    Calls Tryd.prog 16 #[u, v] w fun e w' => e = .returned (.bool (allF l m)) ∧ Below w.heap.size w w' := by
  obtain ⟨a0, c0, rfl, _, _⟩ := hu.len
  obtain ⟨a1, c1, rfl, _, _⟩ := hv.len
  by_cases hlen : l.length = m.length
  · have hz : l.length = 0 ∨ 0 < l.length := by omega
    have HU := Kp.mk hu
    have HV := Kp.mk hv
    clear hu hv
    have t1 : ((l.length : Int) != (m.length : Int)) = false := by simp; omega
    have HL := Kp.mk hlen
    clear hlen
    go_enter Tryd.func16, Tryd.ntmps16
    go_wp2
    go_loopw [5] (fun i wr => ∃ k : Nat, k ≤ l.length ∧ i = .int .i64 k ∧ Kp (l.take k = m.take k) ∧ Below w.heap.size w wr) (fun i _ => l.length - (intOf i).toNat)
    case atStart => exact ⟨0, by omega, rfl, ⟨by simp⟩, Below.refl _ _⟩
    case round =>
      have hlen := HL.out
      obtain ⟨k, hk, rfl, hT, hb⟩ := hrel
      by_cases hkl : k < l.length
      · have hkm : k < m.length := by omega
        have hu := HU.out.below hb
        have hv := HV.out.below hb
        obtain ⟨g0, d0, hg0, _, _, _, _⟩ := hu.at_ (by omega)
        obtain ⟨g1, d1, hg1, _, _, _, _⟩ := hv.at_ (by omega)
        simp only [Value.slice.injEq] at hg0 hg1
        obtain ⟨rfl, _, rfl⟩ := hg0
        obtain ⟨rfl, _, rfl⟩ := hg1
        obtain ⟨x0, x1, x2⟩ := cells_get l k hkl
        obtain ⟨y0, y1, y2⟩ := cells_get m k hkm
        have p0 := hu.cell _ _ x0
        have p1 := hu.cell _ _ x1
        have p2 := hu.cell _ _ x2
        have q0 := hv.cell _ _ y0
        have q1 := hv.cell _ _ y1
        have q2 := hv.cell _ _ y2
        have hfk := hlk _ (List.getElem_mem hkl)
        have hgk := hmk _ (List.getElem_mem hkm)
        have HStep := Kp.mk (take_step l m k hkl hkm hT.out)
        have HNo : Kp (sameF l[k] m[k] = false → allF l m = false) := ⟨fun h => by
          cases hc : allF l m with
          | false => rfl
          | true =>
            have e := (allF_iff l m).1 hc
            subst e
            rw [(sameF_iff _ _).2 rfl] at h
            cases h⟩
        have HYes : Kp (sameF l[k] m[k] = true → l[k] = m[k]) := ⟨(sameF_iff _ _).1⟩
        have HS : Kp (∀ w, Calls Tryd.prog 22 #[.agg #[.int .u8 l[k].k, .string (B l[k].p), .int .i64 l[k].a], .agg #[.int .u8 m[k].k, .string (B m[k].p), .int .i64 m[k].a]] w fun e w' => e = .returned (.bool (sameF l[k] m[k])) ∧ Below w.heap.size w w') := ⟨fun w => same_of _ _ _ _ _ _ w hfk hgk⟩
        have HBw := Kp.mk hb
        have hzb := hb.size
        clear hu hv x0 x1 x2 y0 y1 y2 hb hT hlen
        generalize sameF l[k] m[k] = sb at *
        generalize l[k] = f at *
        generalize m[k] = g at *
        obtain ⟨f1, f2, f3⟩ := f
        obtain ⟨h1, h2, h3⟩ := g
        cases sb with
        | false =>
          go_wp2
          go_region_with (go_at_call 22; go_loud (refine (HS.out _).mono ?_; rintro e w1 ⟨rfl, hb1⟩))
          all_goals go_wp2
          all_goals go_ret
          all_goals exact ⟨by rw [HNo.out (by trivial)]; rfl, HBw.out.drew.trans (hb1.mono hzb)⟩
        | true =>
          go_wp2
          go_region_with (go_at_call 22; go_loud (refine (HS.out _).mono ?_; rintro e w1 ⟨rfl, hb1⟩))
          all_goals go_wp2
          all_goals go_roundw
          all_goals first | exact ⟨k + 1, by omega, by go_num, ⟨HStep.out (HYes.out (by trivial))⟩, HBw.out.drew.trans (hb1.mono hzb)⟩ | (simp [intOf]; omega)
      · obtain rfl : k = l.length := by omega
        have HA : Kp (allF l m = true) := ⟨(allF_iff l m).2 (by have := hT.out; rwa [List.take_of_length_le (Nat.le_refl _), List.take_of_length_le (by omega)] at this)⟩
        go_wp2
        go_ret
        exact ⟨by rw [HA.out]; rfl, hb⟩
  · have HV : Kp (allF l m = false) := ⟨by
      cases hc : allF l m with
      | false => rfl
      | true => exact absurd (by rw [(allF_iff l m).1 hc]) hlen⟩
    have t1 : ((l.length : Int) != (m.length : Int)) = true := by simp; omega
    go_enter Tryd.func16, Tryd.ntmps16
    go_wp2
    go_ret
    exact ⟨by rw [HV.out]; rfl, Below.refl _ _⟩
end Go.Proofs.YtdclfffjiokenaaDoor
