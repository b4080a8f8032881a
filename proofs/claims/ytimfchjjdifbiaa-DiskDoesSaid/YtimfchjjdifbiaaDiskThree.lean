/- What is handed to act; act. -/
import Derived.Test.YtimfchjjdifbiaaDiskTwo
namespace Go.Proofs.Ytimfchjjdifbiaa
open Go.RowKit
set_option linter.unusedVariables false

theorem always_any (b : ByteArray) (f : Int) (w : World) : Calls Try.prog 42 #[.agg #[.string b, .int .i64 f]] w fun e w' => e = .returned (.int .i64 0) ∧ Below w.heap.size w w' := by
  go_enter Try.func42, Try.ntmps42
  go_wp2
  go_ret
  exact ⟨rfl, (Below.refl _ _).alloc (Nat.le_refl _) _⟩
theorem nothing_any (p : Addr) (w : World) : Calls Try.prog 43 #[.pointer (some p)] w fun e w' => e = .returned (.tuple #[]) ∧ w = w' := by
  go_enter Try.func43, Try.ntmps43
  go_wp2
  go_end0
  exact ⟨rfl, rfl⟩
theorem sync_any (g t : Nat) (D : DiskV) (w : World) (h : DiskAt w g D) (ht : t < 32) (hm : (D.tp t).b.size ≤ 1048576) :
    Calls Try.prog 38 #[.pointer (some ⟨g, t * 2, none⟩)] w fun e w' => e = .returned (.tuple #[]) ∧ DiskAt w' g (setT D t ⟨(D.tp t).b, (D.tp t).b.size⟩) ∧ Chg w w' g := by
  have kb := h.tb t ht
  have kf := h.tf t ht
  have ff := h.free (t * 2 + 1)
  have H := Kp.mk (h.set_f t ht (D.tp t).b.size)
  clear h
  generalize (D.tp t).b = b at *
  generalize (D.tp t).firm = f at *
  go_enter Try.func38, Try.ntmps38
  go_wp2
  go_end0
  exact ⟨rfl, H.out, Chg.set _ _ _ _⟩
theorem wipe_do (g t : Nat) (D : DiskV) (w : World) (h : DiskAt w g D) (ht : t < 32) :
    Calls Try.prog 46 #[.pointer (some ⟨g, t * 2, none⟩)] w fun e w' => e = .returned (.tuple #[]) ∧ DiskAt w' g (setT D t ⟨⟨#[]⟩, 0⟩) ∧ Chg w w' g := by
  have kb := h.tb t ht
  have kf := h.tf t ht
  have fb := h.free (t * 2)
  have ff := h.free (t * 2 + 1)
  have H := Kp.mk (h.set_t t ht ⟨#[]⟩ 0)
  clear h
  generalize (D.tp t).b = b at *
  generalize (D.tp t).firm = f at *
  go_enter Try.func46, Try.ntmps46
  go_wp2
  go_end0
  exact ⟨rfl, H.out, (Chg.set _ _ _ _).trans (Chg.set _ _ _ _)⟩
/-- What Trim asks. -/
def trimMay (b : ByteArray) (n : Int) : Int := if n < 0 ∨ (b.size : Int) < n then 1 else 0
theorem trim_may (b : ByteArray) (f n : Int) (B : Nat) (w : World) (hc : w.cell? ⟨B, 0, none⟩ = some (.int .i64 n)) (hb : b.size ≤ 1048576) :
    Calls Try.prog 44 #[.agg #[.string b, .int .i64 f], .pointer (some ⟨B, 0, none⟩)] w fun e w' => e = .returned (.int .i64 (trimMay b n)) ∧ Below w.heap.size w w' := by
  have hc' : ∀ o, (w.alloc o).cell? ⟨B, 0, none⟩ = some (.int .i64 n) := fun o => by rw [World.cell?_alloc_lt _ _ _ (World.block_lt_of_cell? _ _ hc)]; exact hc
  clear hc
  by_cases h0 : n < 0
  · have hV : Kp (trimMay b n = 1) := ⟨by unfold trimMay; rw [if_pos (.inl h0)]⟩
    have t1 : decide (n < 0) = true := by rw [decide_eq_true_eq]; exact h0
    go_enter Try.func44, Try.ntmps44
    go_wp2
    go_ret
    exact ⟨by rw [hV.out] <;> rfl, (Below.refl _ _).alloc (Nat.le_refl _) _⟩
  · have t1 : decide (n < 0) = false := by rw [decide_eq_false_iff_not]; exact h0
    by_cases h1 : (b.size : Int) < n
    · have hV : Kp (trimMay b n = 1) := ⟨by unfold trimMay; rw [if_pos (.inr h1)]⟩
      have t2 : decide ((b.size : Int) < n) = true := by rw [decide_eq_true_eq]; exact h1
      go_enter Try.func44, Try.ntmps44
      go_wp2
      go_ret
      exact ⟨by rw [hV.out] <;> rfl, (Below.refl _ _).alloc (Nat.le_refl _) _⟩
    · have hV : Kp (trimMay b n = 0) := ⟨by unfold trimMay; rw [if_neg (by omega)]⟩
      have t2 : decide ((b.size : Int) < n) = false := by rw [decide_eq_false_iff_not]; exact h1
      go_enter Try.func44, Try.ntmps44
      go_wp2
      go_ret
      exact ⟨by rw [hV.out] <;> rfl, (Below.refl _ _).alloc (Nat.le_refl _) _⟩
theorem trim_do (g t B : Nat) (D : DiskV) (n : Nat) (w : World) (h : DiskAt w g D) (ht : t < 32) (hc : w.cell? ⟨B, 0, none⟩ = some (.int .i64 n)) (hn : n ≤ (D.tp t).b.size) (hm : (D.tp t).b.size ≤ 1048576) :
    Calls Try.prog 45 #[.pointer (some ⟨g, t * 2, none⟩), .pointer (some ⟨B, 0, none⟩)] w fun e w' => e = .returned (.tuple #[]) ∧ DiskAt w' g (setT D t ⟨(D.tp t).b.extract 0 n, n⟩) ∧ Chg w w' g := by
  have kb := h.tb t ht
  have kf := h.tf t ht
  have fb := h.free (t * 2)
  have ff := h.free (t * 2 + 1)
  have H := Kp.mk (h.set_t t ht ((D.tp t).b.extract 0 n) n)
  clear h
  generalize (D.tp t).b = b at *
  generalize (D.tp t).firm = f at *
  have i1 : (0 : Int) ≤ (n : Int) := by omega
  have i2 : (n : Int) ≤ (b.size : Int) := by omega
  go_enter Try.func45, Try.ntmps45
  go_wp2
  go_region
  all_goals go_wp2
  all_goals go_end0
  all_goals exact ⟨rfl, H.out, ((Chg.of_below ((Below.refl _ _).drew) _).trans (Chg.set _ _ _ _)).trans (Chg.set _ _ _ _)⟩
theorem write_do (g t B : Nat) (D : DiskV) (s : ByteArray) (w : World) (h : DiskAt w g D) (ht : t < 32) (hc : w.cell? ⟨B, 0, none⟩ = some (.string s)) (hs : s.size ≤ 1048576) (hm : (D.tp t).b.size ≤ 1048576) :
    Calls Try.prog 39 #[.pointer (some ⟨g, t * 2, none⟩), .pointer (some ⟨B, 0, none⟩)] w fun e w' => e = .returned (.tuple #[]) ∧ DiskAt w' g (setT D t ⟨(D.tp t).b ++ s, (D.tp t).firm⟩) ∧ Chg w w' g := by
  have kb := h.tb t ht
  have fb := h.free (t * 2)
  have H := Kp.mk (h.set_b t ht ((D.tp t).b ++ s))
  clear h
  generalize (D.tp t).b = b at *
  generalize (D.tp t).firm = f at *
  go_enter Try.func39, Try.ntmps39
  go_wp2
  go_region
  all_goals go_wp2
  all_goals go_end0
  all_goals exact ⟨rfl, H.out, (Chg.of_below ((Below.refl _ _).drew) _).trans (Chg.set _ _ _ _)⟩
/-- What Write asks. -/
def writeMay (D : DiskV) (b s : ByteArray) : Int := if (1048576 : Int) - b.size < s.size then 40 else if D.cap - used D.tp 32 < s.size then 44 else 0
theorem write_may (g : Nat) (D : DiskV) (b s : ByteArray) (f : Int) (B C : Nat) (w : World) (h : DiskAt w g D) (ho : Ok D) (hc : w.cell? ⟨B, 0, none⟩ = some (.string s)) (hd : w.cell? ⟨C, 0, none⟩ = some (.pointer (some ⟨g, 0, none⟩))) (hs : s.size ≤ maxLen) (hb : b.size ≤ 1048576) :
    Calls Try.prog 41 #[.agg #[.string b, .int .i64 f], .pointer (some ⟨B, 0, none⟩), .pointer (some ⟨C, 0, none⟩)] w fun e w' => e = .returned (.int .i64 (writeMay D b s)) ∧ Below w.heap.size w w' := by
  have hc' : ∀ o, (w.alloc o).cell? ⟨B, 0, none⟩ = some (.string s) := fun o => by rw [World.cell?_alloc_lt _ _ _ (World.block_lt_of_cell? _ _ hc)]; exact hc
  have hd' : ∀ o, (w.alloc o).cell? ⟨C, 0, none⟩ = some (.pointer (some ⟨g, 0, none⟩)) := fun o => by rw [World.cell?_alloc_lt _ _ _ (World.block_lt_of_cell? _ _ hd)]; exact hd
  unfold maxLen at hs
  have hu0 := used_le ho.most 32 (Nat.le_refl _)
  have hcap := ho.cap
  have hcap2 := ho.cap2
  by_cases h1 : (1048576 : Int) - b.size < s.size
  · have hV : Kp (writeMay D b s = 40) := ⟨by unfold writeMay; rw [if_pos h1]⟩
    have t1 : decide ((1048576 : Int) - (b.size : Int) < (s.size : Int)) = true := by rw [decide_eq_true_eq]; exact h1
    clear h ho hc hd
    go_enter Try.func41, Try.ntmps41
    go_wp2
    go_ret
    exact ⟨by rw [hV.out] <;> rfl, (Below.refl _ _).alloc (Nat.le_refl _) _⟩
  · have t1 : decide ((1048576 : Int) - (b.size : Int) < (s.size : Int)) = false := by rw [decide_eq_false_iff_not]; exact h1
    have HU := Kp.mk (fun W hW => Used_any g D W hW ho.most)
    have HD : Kp (∀ o, DiskAt (w.alloc o).drew g D) := ⟨fun o => h.alloc o⟩
    have k64 : ∀ o, (w.alloc o).cell? ⟨g, 64, none⟩ = some (.int .i64 D.cap) := fun o => (h.alloc o).c64
    have HK : Kp (∀ w', Below w.heap.size w w' → w'.cell? ⟨B, 0, none⟩ = some (.string s) ∧ w'.cell? ⟨C, 0, none⟩ = some (.pointer (some ⟨g, 0, none⟩)) ∧ w'.cell? ⟨g, 64, none⟩ = some (.int .i64 D.cap)) := ⟨fun w' hb =>
      ⟨(hb.cell (p := ⟨B, 0, none⟩) (World.block_lt_of_cell? _ _ hc)).trans hc, (hb.cell (p := ⟨C, 0, none⟩) (World.block_lt_of_cell? _ _ hd)).trans hd, (hb.cell (p := ⟨g, 64, none⟩) h.lt).trans h.c64⟩⟩
    have HV : Kp (writeMay D b s = if D.cap - used D.tp 32 < s.size then 44 else 0) := ⟨by unfold writeMay; rw [if_neg h1]⟩
    generalize D.cap = cap at *
    generalize used D.tp 32 = U at hu0 HU HV
    obtain ⟨z, hz⟩ : ∃ z, decide (cap - (U : Int) < (s.size : Int)) = z := ⟨_, rfl⟩
    have HV2 : Kp (writeMay D b s = if z = true then 44 else 0) := ⟨by rw [HV.out, ← hz]; simp only [decide_eq_true_eq]⟩
    have n1 : IntKind.i64.wrap (cap - (U : Int)) = cap - (U : Int) := by rw [IntKind.wrap_i64]; omega
    clear h ho hc hd h1 HV
    go_enter Try.func41, Try.ntmps41
    go_wp2
    go_region_held3 (fun w' => w'.cell? ⟨B, 0, none⟩ = some (.string s) ∧ w'.cell? ⟨C, 0, none⟩ = some (.pointer (some ⟨g, 0, none⟩)) ∧ w'.cell? ⟨g, 64, none⟩ = some (.int .i64 cap)) (go_keep)
      (first
        | (go_at_call 13; refine (HU.out _ (HD.out _)).mono ?_; rintro e w1 ⟨rfl, hb1⟩; have B1 := Kp.mk ((((Below.refl w.heap.size w).alloc (Nat.le_refl _) (.cells #[.string b, .int .i64 f] 56)).drew).trans (hb1.mono (by simp))); obtain ⟨q1, q2, q3⟩ := HK.out _ B1.out; clear hb1))
    cases z
    all_goals go_wp2
    all_goals go_ret
    all_goals exact ⟨by rw [HV2.out] <;> rfl, B1.out⟩
end Go.Proofs.Ytimfchjjdifbiaa
