/- The reference's disk: Load. -/
import Derived.Test.YtimfchjjdifbiaaDRefBack
import Derived.Test.YtimfchjjdifbiaaDRefWrite
namespace Go.Proofs.Ytimfchjjdifbiaa
open Go.RowKit
set_option linter.unusedVariables false

theorem rLoad_arg (c : Int) (ao : Option Addr) (len cap : Nat) (w : World) (hl : len ≤ maxLen) (h : c < 0 ∨ 32 < len) :
    Calls Try.prog 7 #[.int .i64 c, .slice ao len cap] w fun e w' => e = .returned (.tuple #[.pointer none, .int .i64 1]) ∧ w = w' := by
  unfold maxLen at hl
  by_cases h0 : c < 0
  · have p1 : decide (c < 0) = true := by rw [decide_eq_true_eq]; exact h0
    clear h
    go_enter Try.func7, Try.ntmps7
    go_wp2
    go_ret2
    exact ⟨rfl, rfl⟩
  · have p1 : decide (c < 0) = false := by rw [decide_eq_false_iff_not]; exact h0
    have p2 : decide ((32 : Int) < (len : Int)) = true := by rw [decide_eq_true_eq]; omega
    have p2' : decide (32 < len) = true := by rw [decide_eq_true_eq]; omega
    clear h
    go_enter Try.func7, Try.ntmps7
    go_wp2
    go_ret2
    exact ⟨rfl, rfl⟩
/-- What Load answers behind its first test. -/
def rloadV (f : Nat → ByteArray × ByteArray) (c : Int) (len : Nat) (e : Ending) (w w' : World) : Prop :=
  (big f len ∧ e = .returned (.tuple #[.pointer none, .int .i64 40])) ∨ (¬ big f len ∧ c < used (loadT f len) 32 ∧ e = .returned (.tuple #[.pointer none, .int .i64 44])) ∨
    (¬ big f len ∧ (used (loadT f len) 32 : Int) ≤ c ∧ ∃ g q, e = .returned (.tuple #[.pointer (some ⟨g, 0, none⟩), .int .i64 0]) ∧ RDAt w' g q 32 (refOf (loadD f c len)) ∧ w.heap.size ≤ g ∧ w.heap.size ≤ q)
def z32 : Array Value := (List.replicate 64 (Value.string ⟨#[]⟩)).toArray
theorem make32 (w : World) : (Instr.makeSlice 22 (.int .i64 32) (.int .i64 32)).run Try.prog w = .ok (.slice (some ⟨w.heap.size, 0, none⟩) 32 32) (w.alloc (.cells z32 50 (0, 0))) := by kernel_rfl
theorem rk_cells {z n q : Nat} {w : World} {cs : Array Value} {T : TypeId} (h : w.heap[q]? = some (.cells cs T (0, 0))) (hz : cs.size = n * z) (hn : n ≤ maxLen) : RK z w (.slice (some ⟨q, 0, none⟩) n n) n cs.toList := by
  refine ⟨by simpa using hz, .inr ⟨q, n, rfl, Nat.le_refl _, hn, fun _ => ⟨src_lt h, fun j u hu => ?_, fun j hj => ⟨?_, by simp [World.frozen?, h]⟩⟩⟩⟩
  · simp [World.cell?, h]
    simpa using hu
  · have : j < cs.size := by omega
    simp [World.cell?, h, this]
def loadR (f : Nat → ByteArray × ByteArray) (c : Int) (k : Nat) : RefV := ⟨fun t => if t < k then f t else (⟨#[]⟩, ⟨#[]⟩), c, false, -1⟩
theorem told_two (x y : ByteArray) : told ⟨x ++ y, x.size⟩ = (x, y) := by
  unfold told
  simp only [Prod.mk.injEq, ByteArray.size_append]
  constructor
  · rw [ByteArray.extract_append]
    rw [show y.extract (0 - x.size) (x.size - x.size) = ⟨#[]⟩ from by apply ByteArray.ext; apply Array.ext'; simp, ByteArray.extract_zero_size]
    exact ByteArray.append_empty
  · rw [ByteArray.extract_append]
    rw [show x.size - x.size = 0 from by omega, show x.size + y.size - x.size = y.size from by omega, ByteArray.extract_zero_size]
    rw [show x.extract x.size (x.size + y.size) = ⟨#[]⟩ from by apply ByteArray.ext; apply Array.ext'; simp]
    exact ByteArray.empty_append
theorem loadR_ref (f : Nat → ByteArray × ByteArray) (c : Int) (k : Nat) : refOf (loadD f c k) = loadR f c k := by
  unfold refOf loadD loadR
  simp only [Bool.false_eq_true, if_false, RefV.mk.injEq, and_true]
  funext t
  unfold loadT
  by_cases h : t < k
  · rw [if_pos h, if_pos h, told_two]
  · rw [if_neg h, if_neg h]
    exact told_firm ⟨#[]⟩
theorem loadR_succ (f : Nat → ByteArray × ByteArray) (c : Int) (k : Nat) : loadR f c (k + 1) = setR (loadR f c k) k (f k) := by
  unfold loadR setR
  simp only [RefV.mk.injEq, and_true]
  funext t
  by_cases h : t = k
  · subst h; rw [if_pos (by omega), if_pos rfl]
  · rw [if_neg h]
    by_cases h2 : t < k
    · rw [if_pos (by omega), if_pos h2]
    · rw [if_neg (by omega), if_neg h2]
theorem loadR_most (f : Nat → ByteArray × ByteArray) (c : Int) (k : Nat) (h : ¬ big f k) : ∀ j, j < 32 → ((loadR f c k).t j).1.size + ((loadR f c k).t j).2.size ≤ 1048576 := by
  intro j _
  unfold loadR
  simp only []
  split
  · rename_i hj
    rcases Nat.lt_or_ge 1048576 ((f j).1.size + (f j).2.size) with h1 | h1
    · exact absurd ⟨j, hj, h1⟩ h
    · exact h1
  · show 0 + 0 ≤ _; decide
theorem loadR_used (f : Nat → ByteArray × ByteArray) (c : Int) (len : Nat) : ∀ k, usedR (loadR f c len).t k = used (loadT f len) k
  | 0 => rfl
  | k + 1 => by
    rw [usedR, used, loadR_used f c len k]
    unfold loadR loadT
    simp only []
    split
    · rw [ByteArray.size_append]; omega
    · rfl
set_option maxRecDepth 20000 in
theorem loadR_zero (w : World) (c : Int) (f : Nat → ByteArray × ByteArray) : RDAt ((w.alloc (.cells z32 50 (0, 0))).alloc (.cells #[.slice (some ⟨w.heap.size, 0, none⟩) 32 32, .int .i64 c, .bool false, .int .i64 (-1)] 42)) (w.heap.size + 1) w.heap.size 32 (loadR f c 0) := by
  refine ⟨heap_second w _ _, ?_, by omega⟩
  have h := rk_cells (z := 2) (n := 32) (heap_first w (.cells z32 50 (0, 0)) (.cells #[.slice (some ⟨w.heap.size, 0, none⟩) 32 32, .int .i64 c, .bool false, .int .i64 (-1)] 42)) rfl (by decide)
  have e : z32.toList = trF (loadR f c 0).t := by
    have : (loadR f c 0).t = fun _ => (⟨#[]⟩, ⟨#[]⟩) := by funext t; unfold loadR; simp
    rw [this]; rfl
  rw [e] at h
  exact h
theorem _root_.Go.Below.drewN {B : Nat} {a w : World} (h : Below B a w) (n : Nat) : Below B a (w.drewN n) := ⟨h.os, h.tape, h.output, h.size, h.block⟩
set_option maxRecDepth 20000 in
set_option maxHeartbeats 1000000 in
theorem rLoad_go (c : Int) (ao : Option Addr) (len cap : Nat) (f : Nat → ByteArray × ByteArray) (w : World) (hl : len ≤ 32) (h0 : 0 ≤ c) (h1 : c ≤ 9223372036854775807) (hf : TapesIn w ao len f) :
    Calls Try.prog 7 #[.int .i64 c, .slice ao len cap] w fun e w' => rloadV f c len e w w' ∧ Below w.heap.size w w' := by
  have p1 : decide (c < 0) = false := by rw [decide_eq_false_iff_not]; omega
  have p2 : decide ((32 : Int) < (len : Int)) = false := by rw [decide_eq_false_iff_not]; omega
  have p2' : decide (32 < len) = false := by rw [decide_eq_false_iff_not]; omega
  have HF := Kp.mk hf
  have R0 := Kp.mk (loadR_zero w c f)
  have hmk := make32 w
  have B0 : Kp (Below w.heap.size w ((w.alloc (.cells z32 50 (0, 0))).alloc (.cells #[.slice (some ⟨w.heap.size, 0, none⟩) 32 32, .int .i64 c, .bool false, .int .i64 (-1)] 42))) := ⟨((Below.refl _ _).alloc (Nat.le_refl _) _).alloc (by simp) _⟩
  clear hf
  go_enter Try.func7, Try.ntmps7
  go_wp2
  clear p1 p2 p2' hmk
  generalize (w.alloc (.cells z32 50 (0, 0))).alloc (.cells #[.slice (some ⟨w.heap.size, 0, none⟩) 32 32, .int .i64 c, .bool false, .int .i64 (-1)] 42) = w0 at R0 B0 ⊢
  go_loopw [7] (fun i wr => ∃ k : Nat, i = .int .i64 k ∧ k ≤ len ∧ ¬ big f k ∧ RDAt wr (w.heap.size + 1) w.heap.size 32 (loadR f c k) ∧ Below w.heap.size w wr) (fun i _ => len - (intOf i).toNat)
  case atStart => exact ⟨0, rfl, by omega, fun ⟨i, hi, _⟩ => absurd hi (Nat.not_lt_zero i), R0.out, B0.out⟩
  case round =>
    obtain ⟨k, rfl, hk, hnb, hd, hb⟩ := hrel
    have HD := Kp.mk hd
    have HB := Kp.mk hb
    have HNB := Kp.mk hnb
    by_cases hk2 : k < len
    · obtain ⟨a, rfl, z1, z2, y1, y2⟩ := HF.out _ hb k hk2
      have HS := Kp.mk (loadR_succ f c k)
      have HBig : Kp (1048576 < (f k).1.size + (f k).2.size → big f len) := ⟨fun h => ⟨k, hk2, h⟩⟩
      have HNB2 : Kp (¬ 1048576 < (f k).1.size + (f k).2.size → ¬ big f (k + 1)) := ⟨fun h ⟨i, hi, h3⟩ => by
        by_cases e : i = k
        · subst e; exact h h3
        · exact HNB.out ⟨i, by omega, h3⟩⟩
      generalize f k = p at z1 z2 y1 y2 HS HBig HNB2
      obtain ⟨x, y⟩ := p
      simp only [] at z1 z2 y1 y2 HS HBig HNB2
      have j1 : (0 : Int) ≤ (k : Int) := by omega
      have j2 : (k : Int) < (len : Int) := by omega
      have j3 : (k : Int) < 32 := by omega
      have k0 := hd.c0
      have s1 := hd.a1 k (by omega)
      have s2 := hd.a2 k (by omega)
      have r1 := hd.freeq (k * 2) (by omega)
      have r2 := hd.freeq (k * 2 + 1) (by omega)
      have HP := Kp.mk (fun m => RDAt.putT (w := wr.drewN m) hd k (by omega) x y)
      clear hd hb hnb
      by_cases hbig : 1048576 < x.size + y.size
      · have q1 : decide ((1048576 : Int) < (x.size : Int) + (y.size : Int)) = true := by rw [decide_eq_true_eq]; omega
        go_wp2_with fail
        go_quiet (fail)
        go_wp2
        go_ret2
        exact ⟨.inl ⟨HBig.out hbig, rfl⟩, ⟨HB.out.os, HB.out.tape, HB.out.output, HB.out.size, HB.out.block⟩⟩
      · have q1 : decide ((1048576 : Int) < (x.size : Int) + (y.size : Int)) = false := by rw [decide_eq_false_iff_not]; omega
        go_wp2_with fail
        go_quiet (fail)
        go_wp2
        go_region
        all_goals go_wp2
        all_goals go_roundw
        case rel => exact ⟨k + 1, by go_num, by omega, HNB2.out hbig, by rw [HS.out]; exact HP.out _, ((Below.drewN HB.out _).setCell (p := ⟨w.heap.size, k * 2, none⟩) (Nat.le_refl _) _).setCell (p := ⟨w.heap.size, k * 2 + 1, none⟩) (Nat.le_refl _) _⟩
        case measure => simp [intOf]; omega
    · obtain rfl : k = len := by omega
      have HU := Kp.mk (rUsed_any _ _ _ _ wr hd (loadR_most f c k hnb))
      rw [loadR_used] at HU
      have HUL := used_le (tp := loadT f k) (fun t _ => load_most f k hnb t) 32 (Nat.le_refl _)
      have HFin : Kp (∀ m, RDAt (wr.drewN m) (w.heap.size + 1) w.heap.size 32 (refOf (loadD f c k))) := ⟨fun m => by rw [loadR_ref]; exact hd⟩
      have HBm : Kp (∀ m, Below w.heap.size w (wr.drewN m)) := ⟨fun m => ⟨hb.os, hb.tape, hb.output, hb.size, hb.block⟩⟩
      clear hd hb hnb R0 B0
      go_wp2_with fail
      refine HU.out.mono ?_
      rintro e w5 ⟨rfl, m5, rfl⟩
      by_cases hfull : c < (used (loadT f k) 32 : Int)
      · have q1 : decide (c < (used (loadT f k) 32 : Int)) = true := by rw [decide_eq_true_eq]; exact hfull
        have HY : Kp (∀ m, rloadV f c k (.returned (.tuple #[.pointer none, .int .i64 44])) w (wr.drewN m)) := ⟨fun m => .inr (.inl ⟨HNB.out, hfull, rfl⟩)⟩
        generalize used (loadT f k) 32 = U at HUL q1
        clear hfull
        go_wp2
        go_ret2
        exact ⟨HY.out _, HBm.out _⟩
      · have q1 : decide (c < (used (loadT f k) 32 : Int)) = false := by rw [decide_eq_false_iff_not]; exact hfull
        have HY : Kp (∀ m, rloadV f c k (.returned (.tuple #[.pointer (some ⟨w.heap.size + 1, 0, none⟩), .int .i64 0])) w (wr.drewN m)) := ⟨fun m => .inr (.inr ⟨HNB.out, by omega, _, _, rfl, HFin.out m, by omega, Nat.le_refl _⟩)⟩
        generalize used (loadT f k) 32 = U at HUL q1
        clear hfull
        go_wp2
        go_ret2
        exact ⟨HY.out _, HBm.out _⟩
end Go.Proofs.Ytimfchjjdifbiaa
