/- A stand-in disk, as it lies in memory: one block of 68 cells. -/
import Derived.Test.YtimfchjjdifbiaaSrc
import Derived.WalkKit
import Derived.OwnWalk
import Derived.Laws.AppendOwn
import Derived.Laws.OwnMore
import Derived.Maps.AppendAt
import Derived.Below
import Derived.OneCell
import Derived.KernelRfl
import Derived.Laws.Rows
import Derived.Deep.MidRow
import Derived.Deep.RegionHeld3
import Derived.Deep.QuietTactic
import Derived.BigQuiet
namespace Go.Proofs.Ytimfchjjdifbiaa
open Go.RowKit
set_option linter.unusedVariables false

theorem lt_of_block' {w : World} {k : Nat} {o : Obj} (h : w.heap[k]? = some o) : k < w.heap.size := by
  rcases Nat.lt_or_ge k w.heap.size with h' | h'
  · exact h'
  · simp [Array.getElem?_eq_none h'] at h
structure TapeV where
  b : ByteArray
  firm : Nat
structure DiskV where
  tp : Nat → TapeV
  cap : Int
  counts : Bool
  left : Int
  down : Bool
def setT (D : DiskV) (t : Nat) (x : TapeV) : DiskV := { D with tp := fun k => if k = t then x else D.tp k }
theorem setT_same (D : DiskV) (t : Nat) (x : TapeV) : (setT D t x).tp t = x := by simp [setT]
theorem setT_other (D : DiskV) (t k : Nat) (x : TapeV) (h : k ≠ t) : (setT D t x).tp k = D.tp k := by simp [setT, h]
theorem setT_twice (D : DiskV) (t : Nat) (x y : TapeV) : setT (setT D t x) t y = setT D t y := by
  unfold setT
  simp only [DiskV.mk.injEq, and_true]
  funext k
  split <;> rfl
/-- The cells of a disk. -/
def Lay (D : DiskV) (cs : Array Value) : Prop :=
  cs.size = 68 ∧ (∀ t, t < 32 → cs[t * 2]? = some (.string (D.tp t).b) ∧ cs[t * 2 + 1]? = some (.int .i64 (D.tp t).firm)) ∧
    cs[64]? = some (.int .i64 D.cap) ∧ cs[65]? = some (.bool D.counts) ∧ cs[66]? = some (.int .i64 D.left) ∧ cs[67]? = some (.bool D.down)
theorem get_set (cs : Array Value) (i j : Nat) (v : Value) (h : i < cs.size) : (cs.setIfInBounds i v)[j]? = if i = j then some v else cs[j]? := by
  rw [Array.getElem?_setIfInBounds]
  split
  · rename_i e; subst e; simp
  · rfl
theorem Lay.set_b {D : DiskV} {cs : Array Value} (h : Lay D cs) (t : Nat) (ht : t < 32) (s : ByteArray) : Lay (setT D t ⟨s, (D.tp t).firm⟩) (cs.setIfInBounds (t * 2) (.string s)) := by
  obtain ⟨h0, h1, h2, h3, h4, h5⟩ := h
  refine ⟨by simpa using h0, fun k hk => ?_, ?_, ?_, ?_, ?_⟩
  · rw [get_set _ _ _ _ (by omega), get_set _ _ _ _ (by omega)]
    by_cases e : k = t
    · subst e
      rw [if_pos rfl, if_neg (by omega), setT_same]
      exact ⟨rfl, (h1 k hk).2⟩
    · rw [if_neg (by omega), if_neg (by omega), setT_other _ _ _ _ e]
      exact h1 k hk
  all_goals rw [get_set _ _ _ _ (by omega), if_neg (by omega)]; assumption
theorem Lay.set_f {D : DiskV} {cs : Array Value} (h : Lay D cs) (t : Nat) (ht : t < 32) (n : Nat) : Lay (setT D t ⟨(D.tp t).b, n⟩) (cs.setIfInBounds (t * 2 + 1) (.int .i64 n)) := by
  obtain ⟨h0, h1, h2, h3, h4, h5⟩ := h
  refine ⟨by simpa using h0, fun k hk => ?_, ?_, ?_, ?_, ?_⟩
  · rw [get_set _ _ _ _ (by omega), get_set _ _ _ _ (by omega)]
    by_cases e : k = t
    · subst e
      rw [if_pos rfl, if_neg (by omega), setT_same]
      exact ⟨(h1 k hk).1, rfl⟩
    · rw [if_neg (by omega), if_neg (by omega), setT_other _ _ _ _ e]
      exact h1 k hk
  all_goals rw [get_set _ _ _ _ (by omega), if_neg (by omega)]; assumption
theorem Lay.set_c {D : DiskV} {cs : Array Value} (h : Lay D cs) (x : Bool) : Lay { D with counts := x } (cs.setIfInBounds 65 (.bool x)) := by
  obtain ⟨h0, h1, h2, h3, h4, h5⟩ := h
  refine ⟨by simpa using h0, fun k hk => ?_, ?_, ?_, ?_, ?_⟩
  · rw [get_set _ _ _ _ (by omega), get_set _ _ _ _ (by omega), if_neg (by omega), if_neg (by omega)]
    exact h1 k hk
  · rw [get_set _ _ _ _ (by omega), if_neg (by omega)]; exact h2
  · rw [get_set _ _ _ _ (by omega), if_pos rfl]
  · rw [get_set _ _ _ _ (by omega), if_neg (by omega)]; exact h4
  · rw [get_set _ _ _ _ (by omega), if_neg (by omega)]; exact h5
theorem Lay.set_l {D : DiskV} {cs : Array Value} (h : Lay D cs) (x : Int) : Lay { D with left := x } (cs.setIfInBounds 66 (.int .i64 x)) := by
  obtain ⟨h0, h1, h2, h3, h4, h5⟩ := h
  refine ⟨by simpa using h0, fun k hk => ?_, ?_, ?_, ?_, ?_⟩
  · rw [get_set _ _ _ _ (by omega), get_set _ _ _ _ (by omega), if_neg (by omega), if_neg (by omega)]
    exact h1 k hk
  · rw [get_set _ _ _ _ (by omega), if_neg (by omega)]; exact h2
  · rw [get_set _ _ _ _ (by omega), if_neg (by omega)]; exact h3
  · rw [get_set _ _ _ _ (by omega), if_pos rfl]
  · rw [get_set _ _ _ _ (by omega), if_neg (by omega)]; exact h5
theorem Lay.set_d {D : DiskV} {cs : Array Value} (h : Lay D cs) (x : Bool) : Lay { D with down := x } (cs.setIfInBounds 67 (.bool x)) := by
  obtain ⟨h0, h1, h2, h3, h4, h5⟩ := h
  refine ⟨by simpa using h0, fun k hk => ?_, ?_, ?_, ?_, ?_⟩
  · rw [get_set _ _ _ _ (by omega), get_set _ _ _ _ (by omega), if_neg (by omega), if_neg (by omega)]
    exact h1 k hk
  · rw [get_set _ _ _ _ (by omega), if_neg (by omega)]; exact h2
  · rw [get_set _ _ _ _ (by omega), if_neg (by omega)]; exact h3
  · rw [get_set _ _ _ _ (by omega), if_neg (by omega)]; exact h4
  · rw [get_set _ _ _ _ (by omega), if_pos rfl]
/-- A disk lies in block g. -/
def DiskAt (w : World) (g : Nat) (D : DiskV) : Prop := ∃ cs, w.heap[g]? = some (.cells cs 59 (0, 0)) ∧ Lay D cs
section
variable {w w' : World} {g : Nat} {D : DiskV}
theorem DiskAt.lt (h : DiskAt w g D) : g < w.heap.size := by obtain ⟨cs, h1, _⟩ := h; exact lt_of_block' h1
theorem DiskAt.same (h : DiskAt w g D) (hb : w'.heap[g]? = w.heap[g]?) : DiskAt w' g D := by obtain ⟨cs, h1, h2⟩ := h; exact ⟨cs, hb.trans h1, h2⟩
theorem DiskAt.below (h : DiskAt w g D) (hb : Below w.heap.size w w') : DiskAt w' g D := h.same (hb.block g h.lt)
theorem DiskAt.alloc (h : DiskAt w g D) (o : Obj) : DiskAt (w.alloc o) g D := h.below ((Below.refl _ _).alloc (Nat.le_refl _) _)
theorem DiskAt.drew (h : DiskAt w g D) : DiskAt w.drew g D := h
theorem DiskAt.free (h : DiskAt w g D) (j : Nat) : w.frozen? ⟨g, j, none⟩ = false := by obtain ⟨cs, h1, _⟩ := h; simp [World.frozen?, h1]
theorem DiskAt.tb (h : DiskAt w g D) (t : Nat) (ht : t < 32) : w.cell? ⟨g, t * 2, none⟩ = some (.string (D.tp t).b) := by obtain ⟨cs, h1, _, h2, _⟩ := h; rw [cell_of_row w g _ cs _ _ h1]; exact (h2 t ht).1
theorem DiskAt.tf (h : DiskAt w g D) (t : Nat) (ht : t < 32) : w.cell? ⟨g, t * 2 + 1, none⟩ = some (.int .i64 (D.tp t).firm) := by obtain ⟨cs, h1, _, h2, _⟩ := h; rw [cell_of_row w g _ cs _ _ h1]; exact (h2 t ht).2
theorem DiskAt.c64 (h : DiskAt w g D) : w.cell? ⟨g, 64, none⟩ = some (.int .i64 D.cap) := by obtain ⟨cs, h1, _, _, h2, _⟩ := h; rw [cell_of_row w g _ cs _ _ h1]; exact h2
theorem DiskAt.c65 (h : DiskAt w g D) : w.cell? ⟨g, 65, none⟩ = some (.bool D.counts) := by obtain ⟨cs, h1, _, _, _, h2, _⟩ := h; rw [cell_of_row w g _ cs _ _ h1]; exact h2
theorem DiskAt.c66 (h : DiskAt w g D) : w.cell? ⟨g, 66, none⟩ = some (.int .i64 D.left) := by obtain ⟨cs, h1, _, _, _, _, h2, _⟩ := h; rw [cell_of_row w g _ cs _ _ h1]; exact h2
theorem DiskAt.c67 (h : DiskAt w g D) : w.cell? ⟨g, 67, none⟩ = some (.bool D.down) := by obtain ⟨cs, h1, _, _, _, _, _, h2⟩ := h; rw [cell_of_row w g _ cs _ _ h1]; exact h2
theorem DiskAt.set_b (h : DiskAt w g D) (t : Nat) (ht : t < 32) (s : ByteArray) : DiskAt (w.setCell ⟨g, t * 2, none⟩ (.string s)) g (setT D t ⟨s, (D.tp t).firm⟩) := by
  obtain ⟨cs, h1, h2⟩ := h; exact ⟨_, heap_setCell_same w g _ cs _ _ h1, h2.set_b t ht s⟩
theorem DiskAt.set_f (h : DiskAt w g D) (t : Nat) (ht : t < 32) (n : Nat) : DiskAt (w.setCell ⟨g, t * 2 + 1, none⟩ (.int .i64 n)) g (setT D t ⟨(D.tp t).b, n⟩) := by
  obtain ⟨cs, h1, h2⟩ := h; exact ⟨_, heap_setCell_same w g _ cs _ _ h1, h2.set_f t ht n⟩
theorem DiskAt.set_t (h : DiskAt w g D) (t : Nat) (ht : t < 32) (s : ByteArray) (n : Nat) : DiskAt ((w.setCell ⟨g, t * 2, none⟩ (.string s)).setCell ⟨g, t * 2 + 1, none⟩ (.int .i64 n)) g (setT D t ⟨s, n⟩) := by
  have := (h.set_b t ht s).set_f t ht n
  rw [setT_twice, setT_same] at this
  exact this
theorem DiskAt.set_c (h : DiskAt w g D) (x : Bool) : DiskAt (w.setCell ⟨g, 65, none⟩ (.bool x)) g { D with counts := x } := by
  obtain ⟨cs, h1, h2⟩ := h; exact ⟨_, heap_setCell_same w g _ cs _ _ h1, h2.set_c x⟩
theorem DiskAt.set_l (h : DiskAt w g D) (x : Int) : DiskAt (w.setCell ⟨g, 66, none⟩ (.int .i64 x)) g { D with left := x } := by
  obtain ⟨cs, h1, h2⟩ := h; exact ⟨_, heap_setCell_same w g _ cs _ _ h1, h2.set_l x⟩
theorem DiskAt.set_d (h : DiskAt w g D) (x : Bool) : DiskAt (w.setCell ⟨g, 67, none⟩ (.bool x)) g { D with down := x } := by
  obtain ⟨cs, h1, h2⟩ := h; exact ⟨_, heap_setCell_same w g _ cs _ _ h1, h2.set_d x⟩
end
/-- What a call may do: write block g, lay new ones. -/
def Chg (w w' : World) (g : Nat) : Prop := w.grownBy w' (some g)
theorem Chg.trans {w w1 w2 : World} {g : Nat} (h : Chg w w1 g) (h1 : Chg w1 w2 g) : Chg w w2 g :=
  ⟨h1.os.trans h.os, h1.tape.trans h.tape, h1.output.trans h.output, Nat.le_trans h.size h1.size, fun k hk hne => by rw [h1.block k (Nat.lt_of_lt_of_le hk h.size) hne, h.block k hk hne]⟩
theorem Chg.of_below {w w' : World} (h : Below w.heap.size w w') (g : Nat) : Chg w w' g := ⟨h.os, h.tape, h.output, h.size, fun k hk _ => h.block k hk⟩
theorem Chg.refl (w : World) (g : Nat) : Chg w w g := Chg.of_below (Below.refl _ _) g
theorem Chg.set (w : World) (g j : Nat) (v : Value) : Chg w (w.setCell ⟨g, j, none⟩ v) g := ⟨rfl, rfl, rfl, by simp, fun k _ hne => Below.heap_setCell w ⟨g, j, none⟩ v k (fun e => hne (by rw [e]))⟩
theorem Chg.alloc (w : World) (o : Obj) (g : Nat) : Chg w (w.alloc o) g := Chg.of_below ((Below.refl _ _).alloc (Nat.le_refl _) _) g
theorem Chg.below {B g : Nat} {w0 w w' : World} (h : Chg w w' g) (h0 : Below B w0 w) (hB : B ≤ w.heap.size) (hg : B ≤ g) : Below B w0 w' := h0.grown h hB (fun k hk => by cases hk; exact hg)
theorem Chg.other {w w' : World} {g k : Nat} {D : DiskV} (h : Chg w w' g) (d : DiskAt w k D) (hne : k ≠ g) : DiskAt w' k D := d.same (h.block k d.lt (fun e => hne (Option.some.inj e)))
/-- What the tapes are in all. -/
def used (tp : Nat → TapeV) : Nat → Nat
  | 0 => 0
  | k + 1 => used tp k + (tp k).b.size
/-- What holds of every disk that was made. -/
structure Ok (D : DiskV) : Prop where
  firm : ∀ t, t < 32 → (D.tp t).firm ≤ (D.tp t).b.size
  most : ∀ t, t < 32 → (D.tp t).b.size ≤ 1048576
  cap : 0 ≤ D.cap
  cap2 : D.cap ≤ 9223372036854775807
  room : (used D.tp 32 : Int) ≤ D.cap
  left : -1 ≤ D.left
  left2 : D.left ≤ 9223372036854775807
  ready : D.counts = true → D.down = false → 0 ≤ D.left
theorem used_le {tp : Nat → TapeV} (h : ∀ t, t < 32 → (tp t).b.size ≤ 1048576) : ∀ k, k ≤ 32 → used tp k ≤ k * 1048576
  | 0, _ => by simp [used]
  | k + 1, hk => by
    have := used_le h k (by omega)
    have := h k (by omega)
    rw [used]; omega
/-- A tape's value out of the array of all. -/
theorem run_index_tape {P : Program} {T E : TypeId} {i : TypeInfo} {cs : Array Value} {D : DiskV} (hT : P.underlying T = some (.array 32 E)) (hE : (match P.underlying E with | some (.struct _) => true | _ => false) = true) (hi : P.info? E = some i) (hs : i.size = 2) (h : Lay D cs) (t : Nat) (ht : t < 32) (w : World) :
    (Instr.index T (.agg (cs.extract 0 64)) (.int .i64 t)).run P w = .ok (.agg #[.string (D.tp t).b, .int .i64 (D.tp t).firm]) w := by
  have hagg : (isAgg E).run P w = .ok true w := by
    unfold isAgg
    cases hu : P.underlying E with
    | none => simp [hu] at hE
    | some d =>
      rw [Sem.run_bind, run_underlying hu w]
      cases d <;> simp_all
  have hx : (cs.extract 0 64).extract (t * 2) (t * 2 + 2) = #[.string (D.tp t).b, .int .i64 (D.tp t).firm] := by
    obtain ⟨h0, h1, _⟩ := h
    obtain ⟨a, b⟩ := h1 t ht
    apply Array.ext_getElem?
    intro j
    rw [Array.getElem?_extract, Array.getElem?_extract]
    match j with
    | 0 =>
      rw [if_pos (by simp [h0]; omega), if_pos (by simp [h0]; omega)]
      simpa using a
    | 1 =>
      rw [if_pos (by simp [h0]; omega), if_pos (by simp [h0]; omega)]
      simpa using b
    | j + 2 =>
      rw [if_neg (by simp [h0]; omega)]
      simp
  simp [Instr.index, asIntOf, run_underlying hT, part, hagg, sizeOf, typeInfo, hi, hs, ht]
  simpa using hx
end Go.Proofs.Ytimfchjjdifbiaa
