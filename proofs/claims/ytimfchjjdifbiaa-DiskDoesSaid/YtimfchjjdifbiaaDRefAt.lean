/- The reference's disk as it lies in memory: a block of four cells, and a row of 32 tapes of two cells each. -/
import Derived.Test.YtimfchjjdifbiaaDRef
namespace Go.Proofs.Ytimfchjjdifbiaa
open Go.RowKit
set_option linter.unusedVariables false

/-- The row of 32 tapes. -/
def trF (f : Nat → ByteArray × ByteArray) : List Value := trow ((List.range 32).map f)
theorem trF_len (f : Nat → ByteArray × ByteArray) : (trF f).length = 64 := by unfold trF; rw [trow_len]; simp
theorem trF_get (f : Nat → ByteArray × ByteArray) (k : Nat) (hk : k < 32) : (trF f)[k * 2]? = some (.string (f k).1) ∧ (trF f)[k * 2 + 1]? = some (.string (f k).2) := by
  have := trow_get ((List.range 32).map f) k (by simpa using hk)
  simpa [trF] using this
theorem trF_ext {l : List Value} {f : Nat → ByteArray × ByteArray} (hl : l.length = 64) (h : ∀ k, k < 32 → l[k * 2]? = some (.string (f k).1) ∧ l[k * 2 + 1]? = some (.string (f k).2)) : l = trF f := by
  apply List.ext_getElem?
  intro j
  by_cases hj : j < 64
  · obtain ⟨h1, h2⟩ := h (j / 2) (by omega)
    obtain ⟨g1, g2⟩ := trF_get f (j / 2) (by omega)
    by_cases he : j % 2 = 0
    · rw [show j / 2 * 2 = j from by omega] at h1 g1
      rw [h1, g1]
    · rw [show j / 2 * 2 + 1 = j from by omega] at h2 g2
      rw [h2, g2]
  · rw [List.getElem?_eq_none (by omega), List.getElem?_eq_none (by rw [trF_len]; omega)]
def putF (f : Nat → ByteArray × ByteArray) (t : Nat) (x : ByteArray × ByteArray) : Nat → ByteArray × ByteArray := fun k => if k = t then x else f k
theorem trF_set1 (f : Nat → ByteArray × ByteArray) (t : Nat) (ht : t < 32) (x : ByteArray) : (trF f).set (t * 2) (.string x) = trF (putF f t (x, (f t).2)) := by
  refine trF_ext (by rw [List.length_set, trF_len]) fun k hk => ?_
  obtain ⟨g1, g2⟩ := trF_get f k hk
  rw [List.getElem?_set, List.getElem?_set, trF_len]
  unfold putF
  by_cases e : k = t
  · subst e
    rw [if_neg (show ¬ k * 2 = k * 2 + 1 by omega)]
    simp only [if_true]
    rw [if_pos (show k * 2 < 64 by omega)]
    exact ⟨rfl, g2⟩
  · rw [if_neg (show ¬ t * 2 = k * 2 by omega), if_neg (show ¬ t * 2 = k * 2 + 1 by omega)]
    simp only [if_neg e]
    exact ⟨g1, g2⟩
theorem trF_set2 (f : Nat → ByteArray × ByteArray) (t : Nat) (ht : t < 32) (x : ByteArray) : (trF f).set (t * 2 + 1) (.string x) = trF (putF f t ((f t).1, x)) := by
  refine trF_ext (by rw [List.length_set, trF_len]) fun k hk => ?_
  obtain ⟨g1, g2⟩ := trF_get f k hk
  rw [List.getElem?_set, List.getElem?_set, trF_len]
  unfold putF
  by_cases e : k = t
  · subst e
    rw [if_neg (show ¬ k * 2 + 1 = k * 2 by omega)]
    simp only [if_true]
    rw [if_pos (show k * 2 + 1 < 64 by omega)]
    exact ⟨g1, rfl⟩
  · rw [if_neg (show ¬ t * 2 + 1 = k * 2 by omega), if_neg (show ¬ t * 2 + 1 = k * 2 + 1 by omega)]
    simp only [if_neg e]
    exact ⟨g1, g2⟩
theorem putF_twice (f : Nat → ByteArray × ByteArray) (t : Nat) (x y : ByteArray × ByteArray) : putF (putF f t x) t y = putF f t y := by
  funext k
  unfold putF
  split <;> rfl
theorem putF_same (f : Nat → ByteArray × ByteArray) (t : Nat) (x : ByteArray × ByteArray) : putF f t x t = x := by unfold putF; rw [if_pos rfl]
theorem setR_put (R : RefV) (t : Nat) (x : ByteArray × ByteArray) : setR R t x = { R with t := putF R.t t x } := rfl
/-- The reference's disk lies in block g, its tapes in block q. -/
def RDAt (w : World) (g q cp : Nat) (R : RefV) : Prop :=
  w.heap[g]? = some (.cells #[.slice (some ⟨q, 0, none⟩) 32 cp, .int .i64 R.cap, .bool R.dark, .int .i64 R.left] 42 (0, 0)) ∧ RK 2 w (.slice (some ⟨q, 0, none⟩) 32 cp) 32 (trF R.t) ∧ q ≠ g
section
variable {w w' : World} {g q cp : Nat} {R : RefV}
theorem RDAt.cap (h : RDAt w g q cp R) : 32 ≤ cp ∧ cp ≤ maxLen := by
  obtain ⟨_, _, h1, h2, h3⟩ := h.2.1.len
  simp only [Value.slice.injEq, true_and] at h1
  omega
theorem RDAt.blk (h : RDAt w g q cp R) : blk (.slice (some ⟨q, 0, none⟩) 32 cp) = some q := by
  have := h.cap.1
  cases cp with
  | zero => omega
  | succ c => rfl
theorem RDAt.lt (h : RDAt w g q cp R) : g < w.heap.size := lt_of_block' h.1
theorem RDAt.ltq (h : RDAt w g q cp R) : q < w.heap.size := h.2.1.lt q h.blk
theorem RDAt.c0 (h : RDAt w g q cp R) : w.cell? ⟨g, 0, none⟩ = some (.slice (some ⟨q, 0, none⟩) 32 cp) := by simp [World.cell?, h.1]
theorem RDAt.c1 (h : RDAt w g q cp R) : w.cell? ⟨g, 1, none⟩ = some (.int .i64 R.cap) := by simp [World.cell?, h.1]
theorem RDAt.c2 (h : RDAt w g q cp R) : w.cell? ⟨g, 2, none⟩ = some (.bool R.dark) := by simp [World.cell?, h.1]
theorem RDAt.c3 (h : RDAt w g q cp R) : w.cell? ⟨g, 3, none⟩ = some (.int .i64 R.left) := by simp [World.cell?, h.1]
theorem RDAt.free (h : RDAt w g q cp R) (j : Nat) : w.frozen? ⟨g, j, none⟩ = false := by simp [World.frozen?, h.1]
theorem RDAt.a1 (h : RDAt w g q cp R) (k : Nat) (hk : k < 32) : w.cell? ⟨q, k * 2, none⟩ = some (.string (R.t k).1) := h.2.1.cell _ _ (trF_get R.t k hk).1
theorem RDAt.a2 (h : RDAt w g q cp R) (k : Nat) (hk : k < 32) : w.cell? ⟨q, k * 2 + 1, none⟩ = some (.string (R.t k).2) := h.2.1.cell _ _ (trF_get R.t k hk).2
theorem RDAt.freeq (h : RDAt w g q cp R) (j : Nat) (hj : j < 64) : w.frozen? ⟨q, j, none⟩ = false := h.2.1.free j hj
theorem RDAt.same (h : RDAt w g q cp R) (hz : w.heap.size ≤ w'.heap.size) (hg : w'.heap[g]? = w.heap[g]?) (hq : w'.heap[q]? = w.heap[q]?) : RDAt w' g q cp R :=
  ⟨hg.trans h.1, h.2.1.same hz (fun k hk => by rw [h.blk] at hk; cases hk; exact hq), h.2.2⟩
theorem RDAt.below (h : RDAt w g q cp R) (hb : Below w.heap.size w w') : RDAt w' g q cp R := h.same hb.size (hb.block g h.lt) (hb.block q h.ltq)
theorem RDAt.alloc (h : RDAt w g q cp R) (o : Obj) : RDAt (w.alloc o) g q cp R := h.below ((Below.refl _ _).alloc (Nat.le_refl _) _)
theorem RDAt.drew (h : RDAt w g q cp R) : RDAt w.drew g q cp R := h
theorem rd_cells {a b c d : Value} {T : TypeId} (h : w.heap[g]? = some (.cells #[a, b, c, d] T (0, 0))) (j : Nat) (u : Value) : (w.setCell ⟨g, j, none⟩ u).heap[g]? = some (.cells (#[a, b, c, d].setIfInBounds j u) T (0, 0)) := by
  show (w.heap.modify g _)[g]? = _
  rw [Array.getElem?_modify]
  simp [h]
theorem RDAt.row (h : RDAt w g q cp R) (j : Nat) (u : Value) : RK 2 (w.setCell ⟨g, j, none⟩ u) (.slice (some ⟨q, 0, none⟩) 32 cp) 32 (trF R.t) :=
  h.2.1.set _ _ fun k hk e => by rw [h.blk] at hk; cases hk; exact h.2.2 e
theorem RDAt.set_dark (h : RDAt w g q cp R) (x : Bool) : RDAt (w.setCell ⟨g, 2, none⟩ (.bool x)) g q cp { R with dark := x } := ⟨rd_cells h.1 2 _, h.row _ _, h.2.2⟩
theorem RDAt.set_left (h : RDAt w g q cp R) (x : Int) : RDAt (w.setCell ⟨g, 3, none⟩ (.int .i64 x)) g q cp { R with left := x } := ⟨rd_cells h.1 3 _, h.row _ _, h.2.2⟩
theorem RDAt.put (h : RDAt w g q cp R) (j : Nat) (hj : j < 64) (u : Value) (f : Nat → ByteArray × ByteArray) (hf : (trF R.t).set j u = trF f) : RDAt (w.setCell ⟨q, j, none⟩ u) g q cp { R with t := f } :=
  ⟨(Below.heap_setCell w ⟨q, j, none⟩ u g (fun e => h.2.2 e.symm)).trans h.1, by have := h.2.1.put j u (by omega); rw [hf] at this; exact this, h.2.2⟩
theorem RDAt.put1 (h : RDAt w g q cp R) (k : Nat) (hk : k < 32) (x : ByteArray) : RDAt (w.setCell ⟨q, k * 2, none⟩ (.string x)) g q cp { R with t := putF R.t k (x, (R.t k).2) } :=
  h.put _ (by omega) _ _ (trF_set1 R.t k hk x)
theorem RDAt.put2 (h : RDAt w g q cp R) (k : Nat) (hk : k < 32) (x : ByteArray) : RDAt (w.setCell ⟨q, k * 2 + 1, none⟩ (.string x)) g q cp { R with t := putF R.t k ((R.t k).1, x) } :=
  h.put _ (by omega) _ _ (trF_set2 R.t k hk x)
theorem RDAt.putT (h : RDAt w g q cp R) (k : Nat) (hk : k < 32) (x y : ByteArray) : RDAt ((w.setCell ⟨q, k * 2, none⟩ (.string x)).setCell ⟨q, k * 2 + 1, none⟩ (.string y)) g q cp (setR R k (x, y)) := by
  have := (h.put1 k hk x).put2 k hk y
  simp only [putF_twice, putF_same] at this
  exact this
end
/-- What a call may do: write blocks g and q, lay new ones. -/
structure Chg2 (w w' : World) (g q : Nat) : Prop where
  os : w'.os = w.os
  tape : w'.tape = w.tape
  output : w'.output = w.output
  size : w.heap.size ≤ w'.heap.size
  block : ∀ k, k < w.heap.size → k ≠ g → k ≠ q → w'.heap[k]? = w.heap[k]?
theorem Chg2.trans {w w1 w2 : World} {g q : Nat} (h : Chg2 w w1 g q) (h1 : Chg2 w1 w2 g q) : Chg2 w w2 g q :=
  ⟨h1.os.trans h.os, h1.tape.trans h.tape, h1.output.trans h.output, Nat.le_trans h.size h1.size, fun k hk a b => (h1.block k (Nat.lt_of_lt_of_le hk h.size) a b).trans (h.block k hk a b)⟩
theorem Chg2.of_below {w w' : World} (h : Below w.heap.size w w') (g q : Nat) : Chg2 w w' g q := ⟨h.os, h.tape, h.output, h.size, fun k hk _ _ => h.block k hk⟩
theorem Chg2.refl (w : World) (g q : Nat) : Chg2 w w g q := Chg2.of_below (Below.refl _ _) g q
theorem Chg2.alloc (w : World) (o : Obj) (g q : Nat) : Chg2 w (w.alloc o) g q := Chg2.of_below ((Below.refl _ _).alloc (Nat.le_refl _) _) g q
theorem Chg2.setg (w : World) (g q j : Nat) (v : Value) : Chg2 w (w.setCell ⟨g, j, none⟩ v) g q := ⟨rfl, rfl, rfl, by simp, fun k _ a _ => Below.heap_setCell w ⟨g, j, none⟩ v k a⟩
theorem Chg2.setq (w : World) (g q j : Nat) (v : Value) : Chg2 w (w.setCell ⟨q, j, none⟩ v) g q := ⟨rfl, rfl, rfl, by simp, fun k _ _ b => Below.heap_setCell w ⟨q, j, none⟩ v k b⟩
theorem Chg2.drewN (w : World) (n g q : Nat) : Chg2 w (w.drewN n) g q := ⟨rfl, rfl, rfl, Nat.le_refl _, fun _ _ _ _ => rfl⟩
theorem Chg2.of_chg {w w' : World} {g : Nat} (h : Chg w w' g) (q : Nat) : Chg2 w w' g q := ⟨h.os, h.tape, h.output, h.size, fun k hk a _ => h.block k hk (fun e => a (Option.some.inj e))⟩
theorem Chg2.below {B g q : Nat} {w0 w w' : World} (h : Chg2 w w' g q) (h0 : Below B w0 w) (hB : B ≤ w.heap.size) (hg : B ≤ g) (hq : B ≤ q) : Below B w0 w' :=
  ⟨h.os.trans h0.os, h.tape.trans h0.tape, h.output.trans h0.output, Nat.le_trans h0.size h.size, fun k hk => (h.block k (by omega) (by omega) (by omega)).trans (h0.block k hk)⟩
theorem Chg2.disk {w w' : World} {g q k : Nat} {D : DiskV} (h : Chg2 w w' g q) (d : DiskAt w k D) (h1 : k ≠ g) (h2 : k ≠ q) : DiskAt w' k D := d.same (h.block k d.lt h1 h2)
theorem Chg2.ref {w w' : World} {g q k p cp : Nat} {R : RefV} (h : Chg2 w w' g q) (d : RDAt w k p cp R) (h1 : k ≠ g) (h2 : k ≠ q) (h3 : p ≠ g) (h4 : p ≠ q) : RDAt w' k p cp R :=
  d.same h.size (h.block k d.lt h1 h2) (h.block p d.ltq h3 h4)
theorem Chg.ref {w w' : World} {g k p cp : Nat} {R : RefV} (h : Chg w w' g) (d : RDAt w k p cp R) (h1 : k ≠ g) (h3 : p ≠ g) : RDAt w' k p cp R :=
  d.same h.size (h.block k d.lt (fun e => h1 (Option.some.inj e))) (h.block p d.ltq (fun e => h3 (Option.some.inj e)))
end Go.Proofs.Ytimfchjjdifbiaa
