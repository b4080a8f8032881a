/- A stand-in disk, as it lies in memory: one block of 68 cells. -/
import Derived.Test.YtpfoekfbcpinlaaGreatDoorFrameRead
import Derived.WalkKit
import Derived.OwnWalk
import Derived.Laws.AppendOwn
import Derived.Laws.OwnMore
import Derived.Maps.AppendAt
import Derived.Below
import Derived.OneCell
import Derived.KernelRfl
import Derived.Laws.Rows
import Derived.Deep.MidRow
import Derived.Deep.RegionHeld3
import Derived.Deep.QuietTactic
import Derived.BigQuiet
import Derived.Test.YtpfoekfbcpinlaaGreatDoorFr
namespace Go.Proofs.YtpfoekfbcpinlaaGreatDoor
open Go.RowKit
set_option linter.unusedVariables false

theorem lt_of_block' {w : World} {k : Nat} {o : Obj} (h : w.heap[k]? = some o) : k < w.heap.size := by
  rcases Nat.lt_or_ge k w.heap.size with h' | h'
  · exact h'
  · simp [Array.getElem?_eq_none h'] at h
structure TapeV where
  b : ByteArray
  firm : Nat
structure DiskV where
  tp : Nat → TapeV
  cap : Int
  counts : Bool
  left : Int
  down : Bool
def setT (D : DiskV) (t : Nat) (x : TapeV) : DiskV := { D with tp := fun k => if k = t then x else D.tp k }
theorem setT_same (D : DiskV) (t : Nat) (x : TapeV) : (setT D t x).tp t = x := by simp [setT]
theorem setT_other (D : DiskV) (t k : Nat) (x : TapeV) (h : k ≠ t) : (setT D t x).tp k = D.tp k := by simp [setT, h]
theorem setT_twice (D : DiskV) (t : Nat) (x y : TapeV) : setT (setT D t x) t y = setT D t y := by
  unfold setT
  simp only [DiskV.mk.injEq, and_true]
  funext k
  split <;> rfl
/-- The cells of a disk. -/
def Lay (D : DiskV) (cs : Array Value) : Prop :=
  cs.size = 68 ∧ (∀ t, t < 32 → cs[t * 2]? = some (.string (D.tp t).b) ∧ cs[t * 2 + 1]? = some (.int .i64 (D.tp t).firm)) ∧
    cs[64]? = some (.int .i64 D.cap) ∧ cs[65]? = some (.bool D.counts) ∧ cs[66]? = some (.int .i64 D.left) ∧ cs[67]? = some (.bool D.down)
theorem get_set (cs : Array Value) (i j : Nat) (v : Value) (h : i < cs.size) : (cs.setIfInBounds i v)[j]? = if i = j then some v else cs[j]? := by
  rw [Array.getElem?_setIfInBounds]
  split
  · rename_i e; subst e; simp
  · rfl
theorem Lay.set_b {D : DiskV} {cs : Array Value} (h : Lay D cs) (t : Nat) (ht : t < 32) (s : ByteArray) : Lay (setT D t ⟨s, (D.tp t).firm⟩) (cs.setIfInBounds (t * 2) (.string s)) := by
  obtain ⟨h0, h1, h2, h3, h4, h5⟩ := h
  refine ⟨by simpa using h0, fun k hk => ?_, ?_, ?_, ?_, ?_⟩
  · rw [get_set _ _ _ _ (by omega), get_set _ _ _ _ (by omega)]
    by_cases e : k = t
    · subst e
      rw [if_pos rfl, if_neg (by omega), setT_same]
      exact ⟨rfl, (h1 k hk).2⟩
    · rw [if_neg (by omega), if_neg (by omega), setT_other _ _ _ _ e]
      exact h1 k hk
  all_goals rw [get_set _ _ _ _ (by omega), if_neg (by omega)]; assumption
theorem Lay.set_f {D : DiskV} {cs : Array Value} (h : Lay D cs) (t : Nat) (ht : t < 32) (n : Nat) : Lay (setT D t ⟨(D.tp t).b, n⟩) (cs.setIfInBounds (t * 2 + 1) (.int .i64 n)) := by
  obtain ⟨h0, h1, h2, h3, h4, h5⟩ := h
  refine ⟨by simpa using h0, fun k hk => ?_, ?_, ?_, ?_, ?_⟩
  · rw [get_set _ _ _ _ (by omega), get_set _ _ _ _ (by omega)]
    by_cases e : k = t
    · subst e
      rw [if_pos rfl, if_neg (by omega), setT_same]
      exact ⟨(h1 k hk).1, rfl⟩
    · rw [if_neg (by omega), if_neg (by omega), setT_other _ _ _ _ e]
      exact h1 k hk
  all_goals rw [get_set _ _ _ _ (by omega), if_neg (by omega)]; assumption
theorem Lay.set_c {D : DiskV} {cs : Array Value} (h : Lay D cs) (x : Bool) : Lay { D with counts := x } (cs.setIfInBounds 65 (.bool x)) := by
  obtain ⟨h0, h1, h2, h3, h4, h5⟩ := h
  refine ⟨by simpa using h0, fun k hk => ?_, ?_, ?_, ?_, ?_⟩
  · rw [get_set _ _ _ _ (by omega), get_set _ _ _ _ (by omega), if_neg (by omega), if_neg (by omega)]
    exact h1 k hk
  · rw [get_set _ _ _ _ (by omega), if_neg (by omega)]; exact h2
  · rw [get_set _ _ _ _ (by omega), if_pos rfl]
  · rw [get_set _ _ _ _ (by omega), if_neg (by omega)]; exact h4
  · rw [get_set _ _ _ _ (by omega), if_neg (by omega)]; exact h5
theorem Lay.set_l {D : DiskV} {cs : Array Value} (h : Lay D cs) (x : Int) : Lay { D with left := x } (cs.setIfInBounds 66 (.int .i64 x)) := by
  obtain ⟨h0, h1, h2, h3, h4, h5⟩ := h
  refine ⟨by simpa using h0, fun k hk => ?_, ?_, ?_, ?_, ?_⟩
  · rw [get_set _ _ _ _ (by omega), get_set _ _ _ _ (by omega), if_neg (by omega), if_neg (by omega)]
    exact h1 k hk
  · rw [get_set _ _ _ _ (by omega), if_neg (by omega)]; exact h2
  · rw [get_set _ _ _ _ (by omega), if_neg (by omega)]; exact h3
  · rw [get_set _ _ _ _ (by omega), if_pos rfl]
  · rw [get_set _ _ _ _ (by omega), if_neg (by omega)]; exact h5
theorem Lay.set_d {D : DiskV} {cs : Array Value} (h : Lay D cs) (x : Bool) : Lay { D with down := x } (cs.setIfInBounds 67 (.bool x)) := by
  obtain ⟨h0, h1, h2, h3, h4, h5⟩ := h
  refine ⟨by simpa using h0, fun k hk => ?_, ?_, ?_, ?_, ?_⟩
  · rw [get_set _ _ _ _ (by omega), get_set _ _ _ _ (by omega), if_neg (by omega), if_neg (by omega)]
    exact h1 k hk
  · rw [get_set _ _ _ _ (by omega), if_neg (by omega)]; exact h2
  · rw [get_set _ _ _ _ (by omega), if_neg (by omega)]; exact h3
  · rw [get_set _ _ _ _ (by omega), if_neg (by omega)]; exact h4
  · rw [get_set _ _ _ _ (by omega), if_pos rfl]
/-- A disk lies in block g. -/
def DiskAt (w : World) (g : Nat) (D : DiskV) : Prop := ∃ cs, w.heap[g]? = some (.cells cs 90 (0, 0)) ∧ Lay D cs
section
variable {w w' : World} {g : Nat} {D : DiskV}
theorem DiskAt.lt (h : DiskAt w g D) : g < w.heap.size := by obtain ⟨cs, h1, _⟩ := h; exact lt_of_block' h1
theorem DiskAt.same (h : DiskAt w g D) (hb : w'.heap[g]? = w.heap[g]?) : DiskAt w' g D := by obtain ⟨cs, h1, h2⟩ := h; exact ⟨cs, hb.trans h1, h2⟩
theorem DiskAt.below (h : DiskAt w g D) (hb : Below w.heap.size w w') : DiskAt w' g D := h.same (hb.block g h.lt)
theorem DiskAt.alloc (h : DiskAt w g D) (o : Obj) : DiskAt (w.alloc o) g D := h.below ((Below.refl _ _).alloc (Nat.le_refl _) _)
theorem DiskAt.drew (h : DiskAt w g D) : DiskAt w.drew g D := h
theorem DiskAt.free (h : DiskAt w g D) (j : Nat) : w.frozen? ⟨g, j, none⟩ = false := by obtain ⟨cs, h1, _⟩ := h; simp [World.frozen?, h1]
theorem DiskAt.tb (h : DiskAt w g D) (t : Nat) (ht : t < 32) : w.cell? ⟨g, t * 2, none⟩ = some (.string (D.tp t).b) := by obtain ⟨cs, h1, _, h2, _⟩ := h; rw [cell_of_row w g _ cs _ _ h1]; exact (h2 t ht).1
theorem DiskAt.tf (h : DiskAt w g D) (t : Nat) (ht : t < 32) : w.cell? ⟨g, t * 2 + 1, none⟩ = some (.int .i64 (D.tp t).firm) := by obtain ⟨cs, h1, _, h2, _⟩ := h; rw [cell_of_row w g _ cs _ _ h1]; exact (h2 t ht).2
theorem DiskAt.c64 (h : DiskAt w g D) : w.cell? ⟨g, 64, none⟩ = some (.int .i64 D.cap) := by obtain ⟨cs, h1, _, _, h2, _⟩ := h; rw [cell_of_row w g _ cs _ _ h1]; exact h2
theorem DiskAt.c65 (h : DiskAt w g D) : w.cell? ⟨g, 65, none⟩ = some (.bool D.counts) := by obtain ⟨cs, h1, _, _, _, h2, _⟩ := h; rw [cell_of_row w g _ cs _ _ h1]; exact h2
theorem DiskAt.c66 (h : DiskAt w g D) : w.cell? ⟨g, 66, none⟩ = some (.int .i64 D.left) := by obtain ⟨cs, h1, _, _, _, _, h2, _⟩ := h; rw [cell_of_row w g _ cs _ _ h1]; exact h2
theorem DiskAt.c67 (h : DiskAt w g D) : w.cell? ⟨g, 67, none⟩ = some (.bool D.down) := by obtain ⟨cs, h1, _, _, _, _, _, h2⟩ := h; rw [cell_of_row w g _ cs _ _ h1]; exact h2
theorem DiskAt.set_b (h : DiskAt w g D) (t : Nat) (ht : t < 32) (s : ByteArray) : DiskAt (w.setCell ⟨g, t * 2, none⟩ (.string s)) g (setT D t ⟨s, (D.tp t).firm⟩) := by
  obtain ⟨cs, h1, h2⟩ := h; exact ⟨_, heap_setCell_same w g _ cs _ _ h1, h2.set_b t ht s⟩
theorem DiskAt.set_f (h : DiskAt w g D) (t : Nat) (ht : t < 32) (n : Nat) : DiskAt (w.setCell ⟨g, t * 2 + 1, none⟩ (.int .i64 n)) g (setT D t ⟨(D.tp t).b, n⟩) := by
  obtain ⟨cs, h1, h2⟩ := h; exact ⟨_, heap_setCell_same w g _ cs _ _ h1, h2.set_f t ht n⟩
theorem DiskAt.set_t (h : DiskAt w g D) (t : Nat) (ht : t < 32) (s : ByteArray) (n : Nat) : DiskAt ((w.setCell ⟨g, t * 2, none⟩ (.string s)).setCell ⟨g, t * 2 + 1, none⟩ (.int .i64 n)) g (setT D t ⟨s, n⟩) := by
  have := (h.set_b t ht s).set_f t ht n
  rw [setT_twice, setT_same] at this
  exact this
theorem DiskAt.set_c (h : DiskAt w g D) (x : Bool) : DiskAt (w.setCell ⟨g, 65, none⟩ (.bool x)) g { D with counts := x } := by
  obtain ⟨cs, h1, h2⟩ := h; exact ⟨_, heap_setCell_same w g _ cs _ _ h1, h2.set_c x⟩
theorem DiskAt.set_l (h : DiskAt w g D) (x : Int) : DiskAt (w.setCell ⟨g, 66, none⟩ (.int .i64 x)) g { D with left := x } := by
  obtain ⟨cs, h1, h2⟩ := h; exact ⟨_, heap_setCell_same w g _ cs _ _ h1, h2.set_l x⟩
theorem DiskAt.set_d (h : DiskAt w g D) (x : Bool) : DiskAt (w.setCell ⟨g, 67, none⟩ (.bool x)) g { D with down := x } := by
  obtain ⟨cs, h1, h2⟩ := h; exact ⟨_, heap_setCell_same w g _ cs _ _ h1, h2.set_d x⟩
end
/-- What a call may do: write block g, lay new ones. -/
def Chg (w w' : World) (g : Nat) : Prop := w.grownBy w' (some g)
theorem Chg.trans {w w1 w2 : World} {g : Nat} (h : Chg w w1 g) (h1 : Chg w1 w2 g) : Chg w w2 g :=
  ⟨h1.os.trans h.os, h1.tape.trans h.tape, h1.output.trans h.output, Nat.le_trans h.size h1.size, fun k hk hne => by rw [h1.block k (Nat.lt_of_lt_of_le hk h.size) hne, h.block k hk hne]⟩
theorem Chg.of_below {w w' : World} (h : Below w.heap.size w w') (g : Nat) : Chg w w' g := ⟨h.os, h.tape, h.output, h.size, fun k hk _ => h.block k hk⟩
theorem Chg.refl (w : World) (g : Nat) : Chg w w g := Chg.of_below (Below.refl _ _) g
theorem Chg.set (w : World) (g j : Nat) (v : Value) : Chg w (w.setCell ⟨g, j, none⟩ v) g := ⟨rfl, rfl, rfl, by simp, fun k _ hne => Below.heap_setCell w ⟨g, j, none⟩ v k (fun e => hne (by rw [e]))⟩
theorem Chg.alloc (w : World) (o : Obj) (g : Nat) : Chg w (w.alloc o) g := Chg.of_below ((Below.refl _ _).alloc (Nat.le_refl _) _) g
theorem Chg.below {B g : Nat} {w0 w w' : World} (h : Chg w w' g) (h0 : Below B w0 w) (hB : B ≤ w.heap.size) (hg : B ≤ g) : Below B w0 w' := h0.grown h hB (fun k hk => by cases hk; exact hg)
theorem Chg.other {w w' : World} {g k : Nat} {D : DiskV} (h : Chg w w' g) (d : DiskAt w k D) (hne : k ≠ g) : DiskAt w' k D := d.same (h.block k d.lt (fun e => hne (Option.some.inj e)))
/-- What the tapes are in all. -/
def used (tp : Nat → TapeV) : Nat → Nat
  | 0 => 0
  | k + 1 => used tp k + (tp k).b.size
/-- What holds of every disk that was made. -/
structure Ok (D : DiskV) : Prop where
  firm : ∀ t, t < 32 → (D.tp t).firm ≤ (D.tp t).b.size
  most : ∀ t, t < 32 → (D.tp t).b.size ≤ 1048576
  cap : 0 ≤ D.cap
  cap2 : D.cap ≤ 9223372036854775807
  room : (used D.tp 32 : Int) ≤ D.cap
  left : -1 ≤ D.left
  left2 : D.left ≤ 9223372036854775807
  ready : D.counts = true → D.down = false → 0 ≤ D.left
theorem used_le {tp : Nat → TapeV} (h : ∀ t, t < 32 → (tp t).b.size ≤ 1048576) : ∀ k, k ≤ 32 → used tp k ≤ k * 1048576
  | 0, _ => by simp [used]
  | k + 1, hk => by
    have := used_le h k (by omega)
    have := h k (by omega)
    rw [used]; omega
/-- A tape's value out of the array of all. -/
theorem run_index_tape {P : Program} {T E : TypeId} {i : TypeInfo} {cs : Array Value} {D : DiskV} (hT : P.underlying T = some (.array 32 E)) (hE : (match P.underlying E with | some (.struct _) => true | _ => false) = true) (hi : P.info? E = some i) (hs : i.size = 2) (h : Lay D cs) (t : Nat) (ht : t < 32) (w : World) :
    (Instr.index T (.agg (cs.extract 0 64)) (.int .i64 t)).run P w = .ok (.agg #[.string (D.tp t).b, .int .i64 (D.tp t).firm]) w := by
  have hagg : (isAgg E).run P w = .ok true w := by
    unfold isAgg
    cases hu : P.underlying E with
    | none => simp [hu] at hE
    | some d =>
      rw [Sem.run_bind, run_underlying hu w]
      cases d <;> simp_all
  have hx : (cs.extract 0 64).extract (t * 2) (t * 2 + 2) = #[.string (D.tp t).b, .int .i64 (D.tp t).firm] := by
    obtain ⟨h0, h1, _⟩ := h
    obtain ⟨a, b⟩ := h1 t ht
    apply Array.ext_getElem?
    intro j
    rw [Array.getElem?_extract, Array.getElem?_extract]
    match j with
    | 0 =>
      rw [if_pos (by simp [h0]; omega), if_pos (by simp [h0]; omega)]
      simpa using a
    | 1 =>
      rw [if_pos (by simp [h0]; omega), if_pos (by simp [h0]; omega)]
      simpa using b
    | j + 2 =>
      rw [if_neg (by simp [h0]; omega)]
      simp
  simp [Instr.index, asIntOf, run_underlying hT, part, hagg, sizeOf, typeInfo, hi, hs, ht]
  simpa using hx
end Go.Proofs.YtpfoekfbcpinlaaGreatDoor
/- Which heads may be: the walk. -/
namespace Go.Proofs.YtpfoekfbcpinlaaGreatDoor
open Go.RowKit
set_option linter.unusedVariables false

/-- The array of what was seen. -/
def SeenAt (w : World) (s : Nat) (f : Nat → Int) : Prop := ∃ cs : Array Value, w.heap[s]? = some (.cells cs 162 (0, 0)) ∧ cs.size = 32 ∧ ∀ t, t < 32 → cs[t]? = some (.int .i64 (f t))
theorem SeenAt.cell {w : World} {s : Nat} {f : Nat → Int} (h : SeenAt w s f) (t : Nat) (ht : t < 32) : w.cell? ⟨s, t, none⟩ = some (.int .i64 (f t)) := by
  obtain ⟨cs, h1, _, h3⟩ := h
  simp [World.cell?, h1, h3 t ht]
theorem SeenAt.free {w : World} {s : Nat} {f : Nat → Int} (h : SeenAt w s f) (t : Nat) : w.frozen? ⟨s, t, none⟩ = false := by
  obtain ⟨cs, h1, _, _⟩ := h
  simp [World.frozen?, h1]
theorem SeenAt.lt {w : World} {s : Nat} {f : Nat → Int} (h : SeenAt w s f) : s < w.heap.size := by
  obtain ⟨cs, h1, _, _⟩ := h
  exact lt_of_block h1
theorem SeenAt.below {w w' : World} {s : Nat} {f : Nat → Int} (h : SeenAt w s f) (hb : Below w.heap.size w w') : SeenAt w' s f := by
  have hl := h.lt
  obtain ⟨cs, h1, h2⟩ := h
  exact ⟨cs, (hb.block s hl).trans h1, h2⟩
theorem SeenAt.set {w : World} {s : Nat} {f : Nat → Int} (h : SeenAt w s f) (t : Nat) (ht : t < 32) (x : Int) : SeenAt (w.setCell ⟨s, t, none⟩ (.int .i64 x)) s (fun j => if j = t then x else f j) := by
  obtain ⟨cs, h1, h2, h3⟩ := h
  refine ⟨_, heap_setCell_same w s _ cs _ _ h1, by simpa using h2, fun j hj => ?_⟩
  rw [get_set _ _ _ _ (by omega)]
  by_cases e : t = j
  · subst e; simp
  · rw [if_neg (by omega)]
    rw [h3 j hj]
    simp only []
    rw [if_neg (by omega)]
/-- Were the first k tapes good, and no one twice? -/
def Fine (g : Nat → Int) (k : Nat) : Prop := (∀ t ∈ rowI g k, 2 ≤ t ∧ t < 32) ∧ (rowI g k).Nodup
theorem Fine.may {g : Nat → Int} {n : Nat} (h : Fine g n) : Hd.mayT [] (rowI g n) = true :=
  (Hd.mayT_iff _ _).2 ⟨fun t ht => ⟨(h.1 t ht).1, (h.1 t ht).2, by simp⟩, h.2⟩
theorem Fine.succ {g : Nat → Int} {k : Nat} (h : Fine g k) (h1 : 2 ≤ g k ∧ g k < 32) (h2 : g k ∉ rowI g k) : Fine g (k + 1) := by
  unfold Fine
  rw [rowI_succ]
  refine ⟨fun t ht => ?_, ?_⟩
  · rcases List.mem_append.1 ht with h3 | h3
    · exact h.1 t h3
    · rw [List.mem_singleton] at h3; subst h3; exact h1
  · refine List.nodup_append.2 ⟨h.2, by simp, fun a ha b hb e => ?_⟩
    rw [List.mem_singleton] at hb
    subst hb; subst e
    exact h2 ha
theorem not_may {g : Nat → Int} {n k : Nat} (hk : k < n) (h : ¬ (2 ≤ g k ∧ g k < 32) ∨ g k ∈ rowI g k) : Hd.mayT [] (rowI g n) = false := by
  rw [Bool.eq_false_iff]
  intro hm
  obtain ⟨h1, h2⟩ := (Hd.mayT_iff _ _).1 hm
  have hin : g k ∈ rowI g n := rowI_mem.2 ⟨k, hk, rfl⟩
  rcases h with h | h
  · exact h ⟨(h1 _ hin).1, (h1 _ hin).2.1⟩
  · obtain ⟨j, hj, e⟩ := rowI_mem.1 h
    have := List.pairwise_iff_getElem.1 h2 j k (by rw [rowI_len]; omega) (by rw [rowI_len]; omega) hj
    simp [rowI] at this
    exact this e
/-- The row of tapes: it came in, or lies behind what was seen. -/
def RowIn (w wr : World) (s : Nat) (ao : Option Addr) (n cap : Nat) (g : Nat → Int) : Prop := IntsAt w ao n g ∨ ∃ gb, ao = some ⟨gb, 0, none⟩ ∧ s < gb ∧ RK 1 wr (.slice ao n cap) n (numL g n)
theorem RowIn.cell {w wr : World} {s n cap : Nat} {ao : Option Addr} {g : Nat → Int} (h : RowIn w wr s ao n cap g) (hb : Below w.heap.size w wr) (j : Nat) (hj : j < n) : ∃ a, ao = some a ∧ wr.cell? (a.add j) = some (.int .i64 (g j)) := by
  rcases h with h | ⟨gb, rfl, _, h⟩
  · exact h wr hb j hj
  · refine ⟨_, rfl, ?_⟩
    rw [Addr.add_lit, Nat.zero_add]
    exact h.cell j _ (numL_get g n j hj)
theorem RowIn.set {w wr : World} {s n cap : Nat} {ao : Option Addr} {g : Nat → Int} (h : RowIn w wr s ao n cap g) (t : Nat) (v : Value) : RowIn w (wr.setCell ⟨s, t, none⟩ v) s ao n cap g := by
  rcases h with h | ⟨gb, rfl, hs, h⟩
  · exact .inl h
  · refine .inr ⟨gb, rfl, hs, h.set _ _ fun k hk => ?_⟩
    cases cap with
    | zero => simp [blk] at hk
    | succ c => simp [blk] at hk; simp only []; omega
def seenF (g : Nat → Int) (k : Nat) : Nat → Int := fun t => if (t : Int) ∈ rowI g k then 1 else 0
theorem seenF_yes {g : Nat → Int} {k t : Nat} (h : (t : Int) ∈ rowI g k) : seenF g k t = 1 := if_pos h
theorem seenF_no {g : Nat → Int} {k t : Nat} (h : (t : Int) ∉ rowI g k) : seenF g k t = 0 := if_neg h
theorem seenF_succ {g : Nat → Int} {k t : Nat} (h : g k = (t : Int)) : (fun j => if j = t then 1 else seenF g k j) = seenF g (k + 1) := by
  funext j
  unfold seenF
  rw [rowI_succ, h]
  by_cases e : j = t
  · subst e; simp
  · have : ¬ ((j : Int) = (t : Int)) := by omega
    simp [e, this]
theorem zero32 : (#[.int .i64 0, .int .i64 0, .int .i64 0, .int .i64 0, .int .i64 0, .int .i64 0, .int .i64 0, .int .i64 0, .int .i64 0, .int .i64 0, .int .i64 0, .int .i64 0, .int .i64 0, .int .i64 0, .int .i64 0, .int .i64 0, .int .i64 0, .int .i64 0, .int .i64 0, .int .i64 0, .int .i64 0, .int .i64 0, .int .i64 0, .int .i64 0, .int .i64 0, .int .i64 0, .int .i64 0, .int .i64 0, .int .i64 0, .int .i64 0, .int .i64 0, .int .i64 0] : Array Value) = Array.replicate 32 (.int .i64 0) := rfl
set_option maxRecDepth 20000 in
set_option maxHeartbeats 4000000 in
theorem May_any (q : HdV) (w : World) (hl : q.ll + 1 ≤ maxLen) (h47 : (q.ll + 1) * 8 ≤ 140737488355328) (hs : (q.lo = none ∧ q.ll = 0 ∧ q.lc = 0) ∨ ∃ a, q.lo = some a) (hf : IntsAt w q.lo q.ll q.lf) :
    Calls Tryz.prog 120 #[q.v] w fun e w' => e = .returned (.bool q.hv.may) ∧ Below w.heap.size w w' := by
  have HT := Kp.mk (fun W (hW : Below w.heap.size w W) => tapes_any q W hl h47 hs (hf.below hW))
  obtain ⟨gen, base, snap, lo, ll, lc, lf⟩ := q
  have HB0 : Kp (Below w.heap.size w (w.alloc (.cells #[.int .i64 gen, .int .i64 base, .int .i64 snap, .slice lo ll lc] 38))) := ⟨(Below.refl _ _).alloc (Nat.le_refl _) _⟩
  have hm : (HdV.hv ⟨gen, base, snap, lo, ll, lc, lf⟩).may = (decide (1 ≤ gen ∧ gen ≤ 1099511627776 ∧ 0 ≤ base ∧ base ≤ 1099511627776 ∧ rowI lf ll ≠ [] ∧ ¬ (snap = 0 ∧ 0 < base)) && Hd.mayT [] (HdV.hv ⟨gen, base, snap, lo, ll, lc, lf⟩).tapes) := rfl
  rw [hm]
  have hne : rowI lf ll ≠ [] ↔ ll ≠ 0 := by
    have := rowI_len lf ll
    constructor
    · intro h e; subst e; exact h rfl
    · intro h e; rw [e] at this; exact h (by simpa using this.symm)
  clear hm
  unfold HdV.v at HT ⊢
  simp only [] at HT hl h47 hf ⊢
  have HF := Kp.mk hf
  clear hs hf
  generalize hM : Hd.mayT [] (HdV.hv ⟨gen, base, snap, lo, ll, lc, lf⟩).tapes = M
  have HM := Kp.mk hM
  clear hM
  unfold maxLen at hl
  by_cases c1 : gen < 1
  · rw [decide_eq_false (by omega), Bool.false_and]
    have t1 : decide (gen < 1) = true := decide_eq_true (by omega)
    clear HT
    go_enter Tryz.func120, Tryz.ntmps120
    go_wp2
    go_ret
    exact ⟨by trivial, HB0.out⟩
  by_cases c2 : 1099511627776 < gen
  · rw [decide_eq_false (by omega), Bool.false_and]
    have t1 : decide (gen < 1) = false := decide_eq_false (by omega)
    have t2 : decide (1099511627776 < gen) = true := decide_eq_true (by omega)
    clear HT
    go_enter Tryz.func120, Tryz.ntmps120
    go_wp2
    go_ret
    exact ⟨by trivial, HB0.out⟩
  by_cases c3 : base < 0
  · rw [decide_eq_false (by omega), Bool.false_and]
    have t1 : decide (gen < 1) = false := decide_eq_false (by omega)
    have t2 : decide (1099511627776 < gen) = false := decide_eq_false (by omega)
    have t3 : decide (base < 0) = true := decide_eq_true (by omega)
    clear HT
    go_enter Tryz.func120, Tryz.ntmps120
    go_wp2
    go_ret
    exact ⟨by trivial, HB0.out⟩
  by_cases c4 : 1099511627776 < base
  · rw [decide_eq_false (by omega), Bool.false_and]
    have t1 : decide (gen < 1) = false := decide_eq_false (by omega)
    have t2 : decide (1099511627776 < gen) = false := decide_eq_false (by omega)
    have t3 : decide (base < 0) = false := decide_eq_false (by omega)
    have t4 : decide (1099511627776 < base) = true := decide_eq_true (by omega)
    clear HT
    go_enter Tryz.func120, Tryz.ntmps120
    go_wp2
    go_ret
    exact ⟨by trivial, HB0.out⟩
  have t1 : decide (gen < 1) = false := decide_eq_false (by omega)
  have t2 : decide (1099511627776 < gen) = false := decide_eq_false (by omega)
  have t3 : decide (base < 0) = false := decide_eq_false (by omega)
  have t4 : decide (1099511627776 < base) = false := decide_eq_false (by omega)
  by_cases c5 : ll = 0
  · rw [decide_eq_false (fun h => (hne.1 h.2.2.2.2.1) c5), Bool.false_and]
    subst c5
    clear HT
    go_enter Tryz.func120, Tryz.ntmps120
    go_wp2
    go_ret
    exact ⟨by trivial, HB0.out⟩
  have t5 : ((ll : Int) == 0) = false := by rw [beq_eq_false_iff_ne]; omega
  by_cases c6 : snap = 0 ∧ 0 < base
  · rw [decide_eq_false (fun h => h.2.2.2.2.2 c6), Bool.false_and]
    obtain ⟨rfl, c7⟩ := c6
    have t6 : decide (0 < base) = true := decide_eq_true (by omega)
    clear HT
    go_enter Tryz.func120, Tryz.ntmps120
    go_wp2
    go_ret
    exact ⟨by trivial, HB0.out⟩
  rw [decide_eq_true (show 1 ≤ gen ∧ gen ≤ 1099511627776 ∧ 0 ≤ base ∧ base ≤ 1099511627776 ∧ rowI lf ll ≠ [] ∧ ¬ (snap = 0 ∧ 0 < base) from ⟨by omega, by omega, by omega, by omega, hne.2 c5, c6⟩), Bool.true_and]
  clear hne
  by_cases h0 : snap = 0
  · have t7 : decide (0 < base) = false := decide_eq_false (fun h => c6 ⟨h0, h⟩)
    subst h0
    clear c6
    go_enter Tryz.func120, Tryz.ntmps120
    go_wp2_with fail
    refine (HT.out _ (HB0.out.alloc (by simp) _)).mono ?_
    rintro e w2 ⟨ao, n, cap, g, rfl, hg, hn, b2, hw⟩
    have hs0 : SeenAt ((w.alloc (.cells #[.int .i64 gen, .int .i64 base, .int .i64 0, .slice lo ll lc] 38)).alloc (.cells #[.int .i64 0, .int .i64 0, .int .i64 0, .int .i64 0, .int .i64 0, .int .i64 0, .int .i64 0, .int .i64 0, .int .i64 0, .int .i64 0, .int .i64 0, .int .i64 0, .int .i64 0, .int .i64 0, .int .i64 0, .int .i64 0, .int .i64 0, .int .i64 0, .int .i64 0, .int .i64 0, .int .i64 0, .int .i64 0, .int .i64 0, .int .i64 0, .int .i64 0, .int .i64 0, .int .i64 0, .int .i64 0, .int .i64 0, .int .i64 0, .int .i64 0, .int .i64 0] 162)) (w.heap.size + 1) (fun _ => 0) := ⟨_, heap_second w _ _, rfl, fun t ht => by rw [zero32, Array.getElem?_replicate, if_pos ht]⟩
    have S2 : Kp (SeenAt w2 (w.heap.size + 1) (seenF g 0)) := ⟨hs0.below b2⟩
    have B2 := Kp.mk ((HB0.out.alloc (by simp) (.cells #[.int .i64 0, .int .i64 0, .int .i64 0, .int .i64 0, .int .i64 0, .int .i64 0, .int .i64 0, .int .i64 0, .int .i64 0, .int .i64 0, .int .i64 0, .int .i64 0, .int .i64 0, .int .i64 0, .int .i64 0, .int .i64 0, .int .i64 0, .int .i64 0, .int .i64 0, .int .i64 0, .int .i64 0, .int .i64 0, .int .i64 0, .int .i64 0, .int .i64 0, .int .i64 0, .int .i64 0, .int .i64 0, .int .i64 0, .int .i64 0, .int .i64 0, .int .i64 0] 162)).trans (b2.mono (by simp; omega)))
    have HM2 : Kp (Hd.mayT [] (rowI g n) = M) := ⟨by rw [hg]; exact HM.out⟩
    have HW : Kp (RowIn w w2 (w.heap.size + 1) ao n cap g) := ⟨by
      rcases hw with ⟨rfl, rfl, rfl⟩ | ⟨gb, h1, h2, h3⟩
      · exact .inl HF.out
      · exact .inr ⟨gb, h1, by simp at h2; omega, h3⟩⟩
    clear hs0 hw hg HM HT b2 t1 t2 t3 t4 t5 t7 HF HB0
    have hn' : n ≤ 9223372036854775807 := by omega
    clear hn hl h47
    go_wp2
    go_loopw [43] (fun i wr => ∃ k : Nat, k ≤ n ∧ i = .int .i64 k ∧ Fine g k ∧ SeenAt wr (w.heap.size + 1) (seenF g k) ∧ Below w.heap.size w wr ∧ RowIn w wr (w.heap.size + 1) ao n cap g) (fun i _ => n - (intOf i).toNat)
    case atStart => exact ⟨0, by omega, rfl, ⟨fun t ht => by simp [rowI] at ht, by simp [rowI]⟩, S2.out, B2.out, HW.out⟩
    case round =>
      clear S2 B2 HW
      obtain ⟨k, hk, rfl, hfi, hse, hbl, hro⟩ := hrel
      by_cases hkl : k < n
      · obtain ⟨a, rfl, hc⟩ := hro.cell hbl k hkl
        have hk0 : (0 : Int) ≤ (k : Int) := by omega
        have hk1 : (k : Int) < (n : Int) := by omega
        by_cases hgd : 2 ≤ g k ∧ g k < 32
        · obtain ⟨j, hj⟩ : ∃ j : Nat, g k = (j : Int) := ⟨(g k).toNat, by omega⟩
          have hj2 : 2 ≤ j := by omega
          have hj32 : j < 32 := by omega
          rw [hj] at hc
          have HTp : Kp (∀ W, Calls Tryz.prog 134 #[.int .i64 (j : Int)] W fun e w' => e = .returned (.bool true) ∧ W = w') := ⟨fun W => (tape_any (j : Int) W).mono fun e w' h => by
            rw [decide_eq_true (by omega), decide_eq_true (by omega)] at h
            exact ⟨h.1, h.2.symm⟩⟩
          have hcl := hse.cell j hj32
          have hfr := hse.free j
          have hj0 : (0 : Int) ≤ (j : Int) := by omega
          have hj1 : (j : Int) < 32 := by omega
          by_cases hin : (j : Int) ∈ rowI g k
          · rw [seenF_yes hin] at hcl
            have HNo : Kp (M = false) := ⟨by rw [← HM2.out]; exact not_may hkl (.inr (by rw [hj]; exact hin))⟩
            have HBl := Kp.mk hbl
            clear hfi hse hbl hro hj hin hgd
            go_wp2_with fail
            refine (HTp.out _).mono ?_
            rintro e w' ⟨rfl, rfl⟩
            go_wp2
            go_ret
            exact ⟨ret_bool HNo.out.symm, HBl.out⟩
          · rw [seenF_no hin] at hcl
            have HFi := Kp.mk (hfi.succ hgd (by rw [hj]; exact hin))
            have HSe : Kp (SeenAt (wr.setCell ⟨w.heap.size + 1, j, none⟩ (.int .i64 1)) (w.heap.size + 1) (seenF g (k + 1))) := ⟨by rw [← seenF_succ hj]; exact hse.set j hj32 1⟩
            have HBl := Kp.mk (hbl.setCell (p := ⟨w.heap.size + 1, j, none⟩) (Nat.le_succ _) (.int .i64 1))
            have HRo := Kp.mk (hro.set j (.int .i64 1))
            clear hfi hse hbl hro hj hin hgd
            go_wp2_with fail
            refine (HTp.out _).mono ?_
            rintro e w' ⟨rfl, rfl⟩
            go_wp2
            go_roundw
            case rel => exact ⟨k + 1, by omega, by go_num, HFi.out, HSe.out, HBl.out, HRo.out⟩
            case measure => simp [intOf]; omega
        · have HTp : Kp (∀ W, Calls Tryz.prog 134 #[.int .i64 (g k)] W fun e w' => e = .returned (.bool false) ∧ W = w') := ⟨fun W => (tape_any (g k) W).mono fun e w' h => by
            rw [show (decide (2 ≤ g k) && decide (g k < 32)) = false from by rw [← Bool.decide_and]; exact decide_eq_false hgd] at h
            exact ⟨h.1, h.2.symm⟩⟩
          have HNo : Kp (M = false) := ⟨by rw [← HM2.out]; exact not_may hkl (.inl hgd)⟩
          have HBl := Kp.mk hbl
          clear hfi hse hbl hro hgd
          generalize g k = t at hc HTp
          go_wp2_with fail
          refine (HTp.out _).mono ?_
          rintro e w' ⟨rfl, rfl⟩
          go_wp2
          go_ret
          exact ⟨ret_bool HNo.out.symm, HBl.out⟩
      · obtain rfl : k = n := by omega
        have HYes : Kp (M = true) := ⟨by rw [← HM2.out]; exact hfi.may⟩
        have HBl := Kp.mk hbl
        clear hfi hse hbl hro
        go_wp2
        go_ret
        exact ⟨ret_bool HYes.out.symm, HBl.out⟩
  · have t6 : (snap == 0) = false := by rw [beq_eq_false_iff_ne]; exact h0
    clear c6
    go_enter Tryz.func120, Tryz.ntmps120
    go_wp2_with fail
    refine (HT.out _ (HB0.out.alloc (by simp) _)).mono ?_
    rintro e w2 ⟨ao, n, cap, g, rfl, hg, hn, b2, hw⟩
    have hs0 : SeenAt ((w.alloc (.cells #[.int .i64 gen, .int .i64 base, .int .i64 snap, .slice lo ll lc] 38)).alloc (.cells #[.int .i64 0, .int .i64 0, .int .i64 0, .int .i64 0, .int .i64 0, .int .i64 0, .int .i64 0, .int .i64 0, .int .i64 0, .int .i64 0, .int .i64 0, .int .i64 0, .int .i64 0, .int .i64 0, .int .i64 0, .int .i64 0, .int .i64 0, .int .i64 0, .int .i64 0, .int .i64 0, .int .i64 0, .int .i64 0, .int .i64 0, .int .i64 0, .int .i64 0, .int .i64 0, .int .i64 0, .int .i64 0, .int .i64 0, .int .i64 0, .int .i64 0, .int .i64 0] 162)) (w.heap.size + 1) (fun _ => 0) := ⟨_, heap_second w _ _, rfl, fun t ht => by rw [zero32, Array.getElem?_replicate, if_pos ht]⟩
    have S2 : Kp (SeenAt w2 (w.heap.size + 1) (seenF g 0)) := ⟨hs0.below b2⟩
    have B2 := Kp.mk ((HB0.out.alloc (by simp) (.cells #[.int .i64 0, .int .i64 0, .int .i64 0, .int .i64 0, .int .i64 0, .int .i64 0, .int .i64 0, .int .i64 0, .int .i64 0, .int .i64 0, .int .i64 0, .int .i64 0, .int .i64 0, .int .i64 0, .int .i64 0, .int .i64 0, .int .i64 0, .int .i64 0, .int .i64 0, .int .i64 0, .int .i64 0, .int .i64 0, .int .i64 0, .int .i64 0, .int .i64 0, .int .i64 0, .int .i64 0, .int .i64 0, .int .i64 0, .int .i64 0, .int .i64 0, .int .i64 0] 162)).trans (b2.mono (by simp; omega)))
    have HM2 : Kp (Hd.mayT [] (rowI g n) = M) := ⟨by rw [hg]; exact HM.out⟩
    have HW : Kp (RowIn w w2 (w.heap.size + 1) ao n cap g) := ⟨by
      rcases hw with ⟨rfl, rfl, rfl⟩ | ⟨gb, h1, h2, h3⟩
      · exact .inl HF.out
      · exact .inr ⟨gb, h1, by simp at h2; omega, h3⟩⟩
    clear hs0 hw hg HM HT b2 t1 t2 t3 t4 t5 t6 HF HB0
    have hn' : n ≤ 9223372036854775807 := by omega
    clear hn hl h47
    go_wp2
    go_loopw [43] (fun i wr => ∃ k : Nat, k ≤ n ∧ i = .int .i64 k ∧ Fine g k ∧ SeenAt wr (w.heap.size + 1) (seenF g k) ∧ Below w.heap.size w wr ∧ RowIn w wr (w.heap.size + 1) ao n cap g) (fun i _ => n - (intOf i).toNat)
    case atStart => exact ⟨0, by omega, rfl, ⟨fun t ht => by simp [rowI] at ht, by simp [rowI]⟩, S2.out, B2.out, HW.out⟩
    case round =>
      clear S2 B2 HW
      obtain ⟨k, hk, rfl, hfi, hse, hbl, hro⟩ := hrel
      by_cases hkl : k < n
      · obtain ⟨a, rfl, hc⟩ := hro.cell hbl k hkl
        have hk0 : (0 : Int) ≤ (k : Int) := by omega
        have hk1 : (k : Int) < (n : Int) := by omega
        by_cases hgd : 2 ≤ g k ∧ g k < 32
        · obtain ⟨j, hj⟩ : ∃ j : Nat, g k = (j : Int) := ⟨(g k).toNat, by omega⟩
          have hj2 : 2 ≤ j := by omega
          have hj32 : j < 32 := by omega
          rw [hj] at hc
          have HTp : Kp (∀ W, Calls Tryz.prog 134 #[.int .i64 (j : Int)] W fun e w' => e = .returned (.bool true) ∧ W = w') := ⟨fun W => (tape_any (j : Int) W).mono fun e w' h => by
            rw [decide_eq_true (by omega), decide_eq_true (by omega)] at h
            exact ⟨h.1, h.2.symm⟩⟩
          have hcl := hse.cell j hj32
          have hfr := hse.free j
          have hj0 : (0 : Int) ≤ (j : Int) := by omega
          have hj1 : (j : Int) < 32 := by omega
          by_cases hin : (j : Int) ∈ rowI g k
          · rw [seenF_yes hin] at hcl
            have HNo : Kp (M = false) := ⟨by rw [← HM2.out]; exact not_may hkl (.inr (by rw [hj]; exact hin))⟩
            have HBl := Kp.mk hbl
            clear hfi hse hbl hro hj hin hgd
            go_wp2_with fail
            refine (HTp.out _).mono ?_
            rintro e w' ⟨rfl, rfl⟩
            go_wp2
            go_ret
            exact ⟨ret_bool HNo.out.symm, HBl.out⟩
          · rw [seenF_no hin] at hcl
            have HFi := Kp.mk (hfi.succ hgd (by rw [hj]; exact hin))
            have HSe : Kp (SeenAt (wr.setCell ⟨w.heap.size + 1, j, none⟩ (.int .i64 1)) (w.heap.size + 1) (seenF g (k + 1))) := ⟨by rw [← seenF_succ hj]; exact hse.set j hj32 1⟩
            have HBl := Kp.mk (hbl.setCell (p := ⟨w.heap.size + 1, j, none⟩) (Nat.le_succ _) (.int .i64 1))
            have HRo := Kp.mk (hro.set j (.int .i64 1))
            clear hfi hse hbl hro hj hin hgd
            go_wp2_with fail
            refine (HTp.out _).mono ?_
            rintro e w' ⟨rfl, rfl⟩
            go_wp2
            go_roundw
            case rel => exact ⟨k + 1, by omega, by go_num, HFi.out, HSe.out, HBl.out, HRo.out⟩
            case measure => simp [intOf]; omega
        · have HTp : Kp (∀ W, Calls Tryz.prog 134 #[.int .i64 (g k)] W fun e w' => e = .returned (.bool false) ∧ W = w') := ⟨fun W => (tape_any (g k) W).mono fun e w' h => by
            rw [show (decide (2 ≤ g k) && decide (g k < 32)) = false from by rw [← Bool.decide_and]; exact decide_eq_false hgd] at h
            exact ⟨h.1, h.2.symm⟩⟩
          have HNo : Kp (M = false) := ⟨by rw [← HM2.out]; exact not_may hkl (.inl hgd)⟩
          have HBl := Kp.mk hbl
          clear hfi hse hbl hro hgd
          generalize g k = t at hc HTp
          go_wp2_with fail
          refine (HTp.out _).mono ?_
          rintro e w' ⟨rfl, rfl⟩
          go_wp2
          go_ret
          exact ⟨ret_bool HNo.out.symm, HBl.out⟩
      · obtain rfl : k = n := by omega
        have HYes : Kp (M = true) := ⟨by rw [← HM2.out]; exact hfi.may⟩
        have HBl := Kp.mk hbl
        clear hfi hse hbl hro
        go_wp2
        go_ret
        exact ⟨ret_bool HYes.out.symm, HBl.out⟩
end Go.Proofs.YtpfoekfbcpinlaaGreatDoor
/- A head's bytes: the walk of Encode, of Size. -/
namespace Go.Proofs.YtpfoekfbcpinlaaGreatDoor
open Go.RowKit
set_option linter.unusedVariables false

/-- A head that comes in, as it lies in the world. -/
structure HdAt (w : World) (q : HdV) : Prop where
  len : q.ll + 1 ≤ maxLen
  h47 : (q.ll + 1) * 8 ≤ 140737488355328
  nil : (q.lo = none ∧ q.ll = 0 ∧ q.lc = 0) ∨ ∃ a, q.lo = some a
  row : IntsAt w q.lo q.ll q.lf
theorem HdAt.below {w w' : World} {q : HdV} (h : HdAt w q) (hb : Below w.heap.size w w') : HdAt w' q := ⟨h.len, h.h47, h.nil, h.row.below hb⟩
theorem May_at {w : World} {q : HdV} (h : HdAt w q) : Calls Tryz.prog 120 #[q.v] w fun e w' => e = .returned (.bool q.hv.may) ∧ Below w.heap.size w w' := May_any q w h.len h.h47 h.nil h.row
/-- Bytes that a call has put, in a row of its own. -/
def Own (B : Nat) (w0 wr : World) (v : Value) (l : List UInt8) : Prop := BRow wr B v l ∧ Below B w0 wr ∧ B ≤ wr.heap.size ∧ ∀ k, v.ownBlock = some k → B ≤ k
theorem Own.start (w0 : World) : Own w0.heap.size w0 w0 (.slice none 0 0) [] := ⟨BRow.nil _ _, Below.refl _ _, Nat.le_refl _, fun k h => by simp [Value.ownBlock] at h⟩
theorem putOwn {B : Nat} {w0 wr : World} {v : Value} {l : List UInt8} (x : Int) (h : Own B w0 wr v l) (hl : l.length ≤ 140737488355000) (h0 : 0 ≤ x) (h1 : x < 18446744073709551616) :
    Calls Tryz.prog 121 #[v, .int .u64 x] wr fun e w' => ∃ v', e = .returned v' ∧ Own B w0 w' v' (l ++ Var.vb x.toNat) := by
  obtain ⟨n, rfl⟩ := Int.eq_ofNat_of_zero_le h0
  obtain ⟨a, b, c, d⟩ := h
  refine (PutUvarint_any v B l n wr a c hl (by omega)).mono fun e w' ⟨v', he, h1, h2, h3⟩ => ⟨v', he, ?_⟩
  rw [Int.toNat_natCast]
  exact ⟨h1, b.grown h2 c d, Nat.le_trans c h2.size, fun k hk => (h3 k hk).elim (d k) (fun h => by omega)⟩
def f4 (a b c d : Int) : Nat → Int
  | 0 => a
  | 1 => b
  | 2 => c
  | _ => d
theorem f4_row (a b c d : Int) : rowI (f4 a b c d) 4 = [a, b, c, d] := rfl
theorem f4_cells {W : World} {b : Nat} {c0 c1 c2 c3 : Int} {T : TypeId} (h : W.heap[b]? = some (.cells #[.int .i64 c0, .int .i64 c1, .int .i64 c2, .int .i64 c3] T (0, 0))) (k : Nat) (hk : k < 4) : W.cell? ⟨b, k, none⟩ = some (.int .i64 (f4 c0 c1 c2 c3 k)) := by
  obtain ⟨h0, h1, h2, h3⟩ := cells4 h
  match k, hk with
  | 0, _ => exact h0
  | 1, _ => exact h1
  | 2, _ => exact h2
  | 3, _ => exact h3
theorem logB_succ (f : Nat → Int) (k : Nat) : Hd.logB (rowI f (k + 1)) = Hd.logB (rowI f k) ++ Var.vb (f k).toNat := by
  unfold Hd.logB
  rw [rowI_succ, List.flatMap_append]
  simp
theorem logB_len : ∀ (l : List Int), (∀ t ∈ l, t < 18446744073709551616) → (Hd.logB l).length ≤ 10 * l.length
  | [], _ => by simp [Hd.logB]
  | t :: r, h => by
    have h1 := logB_len r (fun u hu => h u (List.mem_cons_of_mem _ hu))
    have h2 := h t (List.mem_cons_self ..)
    have h3 := Var.vb_len10 (n := t.toNat) (by omega)
    have hc : (Hd.logB (t :: r)).length = (Var.vb t.toNat).length + (Hd.logB r).length := by simp [Hd.logB]
    rw [hc, List.length_cons]
    omega
theorem enc_eq (gen base snap : Int) (f : Nat → Int) (n : Nat) : (⟨gen, base, snap, rowI f n⟩ : Hd.HV).enc = Hd.logB (rowI (f4 gen base snap n) 4) ++ Hd.logB (rowI f n) := by
  rw [f4_row]
  simp [Hd.HV.enc, Hd.logB, rowI_len]
theorem Encode_no (q : HdV) (w : World) (h : HdAt w q) (hm : q.hv.may = false) :
    Calls Tryz.prog 100 #[q.v] w fun e w' => e = .returned (.tuple #[.string ⟨#[]⟩, .int .i64 4]) ∧ Below w.heap.size w w' := by
  have HM := Kp.mk (fun W (hW : Below w.heap.size w W) => May_at (h.below hW))
  rw [hm] at HM
  clear h hm
  obtain ⟨gen, base, snap, lo, ll, lc, lf⟩ := q
  unfold HdV.v at HM ⊢
  simp only [] at HM ⊢
  have HB1 := Kp.mk ((Below.refl w.heap.size w).alloc (Nat.le_refl _) (.cells #[.int .i64 gen, .int .i64 base, .int .i64 snap, .slice lo ll lc] 38))
  go_enter Tryz.func100, Tryz.ntmps100
  go_wp2_with fail
  refine (HM.out _ HB1.out).mono ?_
  rintro e w2 ⟨rfl, b2⟩
  have B2 := Kp.mk (HB1.out.trans (b2.mono HB1.out.size))
  clear b2
  go_wp2
  go_ret2
  exact ⟨by trivial, B2.out⟩
set_option maxRecDepth 20000 in
set_option maxHeartbeats 2000000 in
theorem Encode_yes (q : HdV) (w : World) (h : HdAt w q) (hm : q.hv.may = true) :
    Calls Tryz.prog 100 #[q.v] w fun e w' => e = .returned (.tuple #[.string (B q.hv.enc), .int .i64 0]) ∧ Below w.heap.size w w' := by
  have HM := Kp.mk (fun W (hW : Below w.heap.size w W) => May_at (h.below hW))
  rw [hm] at HM
  obtain ⟨g1, g2, b1, b2, hne, _⟩ := Hd.may_first hm
  obtain ⟨⟨s1, s2⟩, ht⟩ := Hd.may_tapes hm
  have hn := (Hd.HV.few hm).2
  obtain ⟨gen, base, snap, lo, ll, lc, lf⟩ := q
  have HROW := Kp.mk h.row
  have HEN := Kp.mk (enc_eq gen base snap lf ll)
  unfold HdV.v at HM ⊢
  unfold HdV.hv at ht g1 g2 b1 b2 s1 s2 hn ⊢
  simp only [rowI_len] at HM g1 g2 b1 b2 s1 s2 hn ht HROW ⊢
  rw [HEN.out]
  obtain ⟨pre, hpre⟩ : ∃ p, Hd.logB (rowI (f4 gen base snap ll) 4) = p := ⟨_, rfl⟩
  rw [hpre]
  have HPre := Kp.mk hpre
  clear hpre
  have HT : Kp (∀ k, k < ll → 2 ≤ lf k ∧ lf k < 32) := ⟨fun k hk => ht _ (rowI_mem.2 ⟨k, hk, rfl⟩)⟩
  have HF : Kp (∀ k, k < 4 → 0 ≤ f4 gen base snap ll k ∧ f4 gen base snap ll k ≤ 1099511627776) := ⟨fun k hk => by
    match k, hk with
    | 0, _ => exact ⟨by show 0 ≤ gen; omega, g2⟩
    | 1, _ => exact ⟨b1, b2⟩
    | 2, _ => exact ⟨s1, by show snap ≤ _; omega⟩
    | 3, _ => exact ⟨by show (0 : Int) ≤ ll; omega, by show (ll : Int) ≤ _; omega⟩⟩
  have HS := Kp.mk (fun k => logB_succ (f4 gen base snap ll) k)
  have HS2 := Kp.mk (fun k => logB_succ lf k)
  have HL4 : Kp (∀ k, k ≤ 4 → (Hd.logB (rowI (f4 gen base snap ll) k)).length ≤ 40) := ⟨fun k hk => by
    have := logB_len (rowI (f4 gen base snap ll) k) (fun t hx => by
      obtain ⟨j, hj, rfl⟩ := rowI_mem.1 hx
      have := (HF.out j (by omega)).2
      omega)
    rw [rowI_len] at this
    omega⟩
  have HLL : Kp (∀ k, k ≤ ll → (Hd.logB (rowI lf k)).length ≤ 300) := ⟨fun k hk => by
    have := logB_len (rowI lf k) (fun t hx => by
      obtain ⟨j, hj, rfl⟩ := rowI_mem.1 hx
      have := (HT.out j (by omega)).2
      omega)
    rw [rowI_len] at this
    omega⟩
  have hbx := heap_alloc_new w (.cells #[.int .i64 gen, .int .i64 base, .int .i64 snap, .slice lo ll lc] 38)
  have HB1 := Kp.mk ((Below.refl w.heap.size w).alloc (Nat.le_refl _) (.cells #[.int .i64 gen, .int .i64 base, .int .i64 snap, .slice lo ll lc] 38))
  clear h hm hne ht g1 g2 b1 b2 s1 s2 HEN
  go_enter Tryz.func100, Tryz.ntmps100
  go_wp2_with fail
  refine (HM.out _ HB1.out).mono ?_
  rintro e w2 ⟨rfl, b2⟩
  have B2 := Kp.mk (HB1.out.trans (b2.mono HB1.out.size))
  have hlt := B2.out.size
  obtain ⟨k0, k1, k2, k3⟩ := cells4 ((b2.block _ (by simp)).trans hbx)
  have HC4 : Kp (∀ W, Below (w2.heap.size + 1) (w2.alloc (.cells #[.int .i64 gen, .int .i64 base, .int .i64 snap, .int .i64 ll] 2)) W → W.cell? ⟨w.heap.size, 3, none⟩ = some (.slice lo ll lc) ∧ ∀ k, k < 4 → W.cell? ⟨w2.heap.size, k, none⟩ = some (.int .i64 (f4 gen base snap ll k))) := ⟨fun W hW => by
    have hw1 : w.heap.size < w2.heap.size := by have := b2.size; simp at this; omega
    refine ⟨?_, f4_cells ((hW.block _ (by omega)).trans (heap_alloc_new w2 _))⟩
    have := hW.cell (p := ⟨w.heap.size, 3, none⟩) (by simp only []; omega)
    rw [this]
    have h2 := ((Below.refl w2.heap.size w2).alloc (Nat.le_refl _) (.cells #[.int .i64 gen, .int .i64 base, .int .i64 snap, .int .i64 ll] 2)).cell (p := ⟨w.heap.size, 3, none⟩) (by simp only []; omega)
    rw [h2]
    exact k3⟩
  have HB3 : Kp (Below w.heap.size w (w2.alloc (.cells #[.int .i64 gen, .int .i64 base, .int .i64 snap, .int .i64 ll] 2))) := ⟨B2.out.alloc hlt _⟩
  have HO3 : Kp (Own (w2.heap.size + 1) (w2.alloc (.cells #[.int .i64 gen, .int .i64 base, .int .i64 snap, .int .i64 ll] 2)) (w2.alloc (.cells #[.int .i64 gen, .int .i64 base, .int .i64 snap, .int .i64 ll] 2)) (.slice none 0 0) []) := ⟨by
    have := Own.start (w2.alloc (.cells #[.int .i64 gen, .int .i64 base, .int .i64 snap, .int .i64 ll] 2))
    rwa [show (w2.alloc (.cells #[.int .i64 gen, .int .i64 base, .int .i64 snap, .int .i64 ll] 2)).heap.size = w2.heap.size + 1 from by simp] at this⟩
  have HQ : Kp (w.heap.size ≤ w2.heap.size) := ⟨hlt⟩
  clear b2 hbx HM
  go_wp2
  generalize w2.alloc (.cells #[.int .i64 gen, .int .i64 base, .int .i64 snap, .int .i64 ll] 2) = w3 at *
  generalize f4 gen base snap ll = F at *
  clear k0 k1 k2 k3 B2 HB1 hlt
  generalize hq : w2.heap.size = q4 at *
  generalize hq2 : w.heap.size = q0 at *
  go_loopw [4, 23] (fun v i wr => ∃ k : Nat, k ≤ 4 ∧ i = .int .i64 k ∧ Own (q4 + 1) w3 wr v (Hd.logB (rowI F k))) (fun _ i _ => 4 - (intOf i).toNat)
  case atStart => exact ⟨0, by omega, rfl, HO3.out⟩
  case round =>
    clear HO3
    obtain ⟨k, hk, rfl, ho⟩ := hrel
    have HO := Kp.mk ho
    by_cases hkl : k < 4
    · have hk0 : (0 : Int) ≤ (k : Int) := by omega
      have hk1 : (k : Int) < 4 := by omega
      have hc := (HC4.out _ ho.2.1).2 k hkl
      obtain ⟨hx0, hx1⟩ := HF.out k hkl
      have HSk := Kp.mk (HS.out k)
      have HLk := Kp.mk (HL4.out k hk)
      clear ho
      generalize F k = x at hc hx0 hx1 HSk
      go_wp2_with fail
      refine (putOwn x HO.out (by have := HLk.out; omega) hx0 (by omega)).mono ?_
      rintro e w5 ⟨v5, rfl, o5⟩
      rw [← HSk.out] at o5
      have O5 := Kp.mk o5
      clear o5
      go_wp2
      go_roundw
      case rel => exact ⟨k + 1, by omega, by go_num, O5.out⟩
      case measure => simp [intOf]; omega
    · obtain rfl : k = 4 := by omega
      rw [show ((4 : Nat) : Int) = 4 from rfl]
      have hc3 := (HC4.out _ ho.2.1).1
      have HI : Kp (∀ W, Below (q4 + 1) w3 W → IntsAt W lo ll lf) := ⟨fun W hW => HROW.out.below (by rw [hq2]; exact HB3.out.trans (hW.mono (by have := HQ.out; omega)))⟩
      have HO' := Kp.mk ho
      clear ho HO HC4 HROW HF HS
      have HL4k := Kp.mk (HL4.out 4 (Nat.le_refl _))
      clear HL4
      rw [HPre.out] at HL4k HO'
      clear HPre
      go_wp2
      go_loopw [4, 35] (fun v i wr => ∃ k : Nat, k ≤ ll ∧ i = .int .i64 k ∧ Own (q4 + 1) w3 wr v (pre ++ Hd.logB (rowI lf k))) (fun _ i _ => ll - (intOf i).toNat)
      case atStart => exact ⟨0, by omega, rfl, by have := HO'.out; simpa [rowI, Hd.logB] using this⟩
      case round =>
        clear HO'
        obtain ⟨k, hk, rfl, ho⟩ := hrel
        have HO := Kp.mk ho
        have HLk := Kp.mk (HLL.out k hk)
        by_cases hkl : k < ll
        · have hk0 : (0 : Int) ≤ (k : Int) := by omega
          have hk1 : (k : Int) < (ll : Int) := by omega
          obtain ⟨a, rfl, hc⟩ := HI.out _ ho.2.1 _ (Below.refl _ _) k hkl
          obtain ⟨hx0, hx1⟩ := HT.out k hkl
          have HSk := Kp.mk (HS2.out k)
          clear ho
          generalize lf k = x at hc hx0 hx1 HSk
          go_wp2_with fail
          refine (putOwn x HO.out (by rw [List.length_append]; have := HLk.out; have := HL4k.out; omega) (by omega) (by omega)).mono ?_
          rintro e w5 ⟨v5, rfl, o5⟩
          rw [List.append_assoc, ← HSk.out] at o5
          have O5 := Kp.mk o5
          clear o5
          go_wp2
          go_roundw
          case rel => exact ⟨k + 1, by omega, by go_num, O5.out⟩
          case measure => simp [intOf]; omega
        · obtain rfl : k = ll := by omega
          have hc := ho.1.string 9 Tryz.underlying9
          have HBe : Kp (Below q0 w wr) := ⟨HB3.out.trans (ho.2.1.mono (by have := HQ.out; omega))⟩
          clear ho
          go_wp2
          go_ret2
          exact ⟨rfl, by rw [hq2]; exact HBe.out⟩
/-- Encode's answer. -/
def encV (h : Hd.HV) : ByteArray × Nat := if h.may = true then (B h.enc, 0) else (⟨#[]⟩, 4)
theorem Encode_any (q : HdV) (w : World) (h : HdAt w q) :
    Calls Tryz.prog 100 #[q.v] w fun e w' => e = .returned (.tuple #[.string (encV q.hv).1, .int .i64 (encV q.hv).2]) ∧ Below w.heap.size w w' := by
  unfold encV
  cases hm : q.hv.may
  · simp only [Bool.false_eq_true, if_false]
    exact Encode_no q w h hm
  · simp only [if_true]
    exact Encode_yes q w h hm
def HSize (h : Hd.HV) : Nat := if h.may = true then h.enc.length + 9 else 0
theorem enc_len {h : Hd.HV} (hm : h.may = true) : h.enc.length ≤ 340 := by
  obtain ⟨g1, g2, b1, b2, hne, _⟩ := Hd.may_first hm
  obtain ⟨⟨s1, s2⟩, ht⟩ := Hd.may_tapes hm
  have hn := (Hd.HV.few hm).2
  have h1 := logB_len h.log (fun t hx => by have := ht t hx; omega)
  have v1 := Var.vb_len10 (n := h.gen.toNat) (by omega)
  have v2 := Var.vb_len10 (n := h.base.toNat) (by omega)
  have v3 := Var.vb_len10 (n := h.snap.toNat) (by omega)
  have v4 := Var.vb_len10 (n := h.log.length) (by omega)
  simp only [Hd.HV.enc, List.length_append]
  omega
theorem HSize_any (q : HdV) (w : World) (h : HdAt w q) :
    Calls Tryz.prog 71 #[q.v] w fun e w' => e = .returned (.int .i64 (HSize q.hv : Nat)) ∧ Below w.heap.size w w' := by
  have HE := Kp.mk (fun W (hW : Below w.heap.size w W) => Encode_any q W (h.below hW))
  have hb : Below w.heap.size w (w.alloc (.cells #[.int .i64 q.gen, .int .i64 q.base, .int .i64 q.snap, .slice q.lo q.ll q.lc] 38)) := (Below.refl _ _).alloc (Nat.le_refl _) _
  have HB := Kp.mk hb
  unfold HSize
  unfold encV at HE
  cases hm : q.hv.may
  · rw [hm] at HE
    simp only [Bool.false_eq_true, if_false] at HE ⊢
    unfold HdV.v at HE ⊢
    clear hm h hb
    go_enter Tryz.func71, Tryz.ntmps71
    go_wp2_with fail
    refine (HE.out _ HB.out).mono ?_
    rintro e w2 ⟨rfl, b2⟩
    have B2 := Kp.mk (HB.out.trans (b2.mono HB.out.size))
    clear b2
    go_wp2
    go_ret
    exact ⟨by trivial, B2.out⟩
  · rw [hm] at HE
    simp only [if_true] at HE ⊢
    have hl := enc_len hm
    have hbs : (B q.hv.enc).size = q.hv.enc.length := B_size _
    have HZ : Kp (∀ W, Calls Tryz.prog 101 #[.int .i64 (q.hv.enc.length : Nat)] W fun e w' => e = .returned (.int .i64 ((q.hv.enc.length + 9 : Nat) : Int)) ∧ W = w') := ⟨fun W => (Size_any (q.hv.enc.length : Nat) W (by omega) (by omega)).mono fun e w' h => by
      rw [sizeV, if_neg (by omega)] at h
      exact h⟩
    generalize B q.hv.enc = s at hbs HE
    generalize q.hv.enc.length = n at hbs HZ hl ⊢
    unfold HdV.v at HE ⊢
    have HS := Kp.mk hbs
    clear hm h hb hbs
    go_enter Tryz.func71, Tryz.ntmps71
    go_wp2_with fail
    refine (HE.out _ HB.out).mono ?_
    rintro e w2 ⟨rfl, b2⟩
    have B2 := Kp.mk (HB.out.trans (b2.mono HB.out.size))
    clear b2
    go_wp2_with fail
    rw [HS.out]
    refine (HZ.out _).mono ?_
    rintro e w' ⟨rfl, rfl⟩
    go_wp2
    go_ret
    exact ⟨by trivial, B2.out⟩
end Go.Proofs.YtpfoekfbcpinlaaGreatDoor
/- Decode, the state: a reader, a head's box that grows, what is read. -/
namespace Go.Proofs.YtpfoekfbcpinlaaGreatDoor
open Go.RowKit
set_option linter.unusedVariables false

theorem rV_facts (l : List UInt8) (p e most : Nat) (hp : p ≤ l.length) (he : e ≤ 42) : (Var.rVarint l p e most).1 ≤ most ∧ (Var.rVarint l p e most).2.1 ≤ l.length ∧ (Var.rVarint l p e most).2.2 ≤ 42 := by
  by_cases h : e = 0
  · subst h
    obtain ⟨h1, h2, h3, h4, h5⟩ := Var.rVarint_facts l p most hp
    exact ⟨h5, h2, by omega⟩
  · rw [Hd.rV_stuck l p e most h]
    exact ⟨Nat.zero_le _, hp, he⟩
theorem readN_snoc (l : List UInt8) : ∀ (k p e : Nat), Hd.readN l (k + 1) p e = ((Hd.readN l k p e).1 ++ [((Var.rVarint l (Hd.readN l k p e).2.1 (Hd.readN l k p e).2.2 31).1 : Int)], (Var.rVarint l (Hd.readN l k p e).2.1 (Hd.readN l k p e).2.2 31).2)
  | 0, p, e => by simp [Hd.readN]
  | k + 1, p, e => by
    have ih := readN_snoc l k (Var.rVarint l p e 31).2.1 (Var.rVarint l p e 31).2.2
    rw [Hd.readN, ih, Hd.readN]
    simp only [List.cons_append]
theorem readN_facts (l : List UInt8) : ∀ (k p e : Nat), p ≤ l.length → e ≤ 42 → (Hd.readN l k p e).2.1 ≤ l.length ∧ (Hd.readN l k p e).2.2 ≤ 42 ∧ ∀ t ∈ (Hd.readN l k p e).1, 0 ≤ t ∧ t ≤ 31
  | 0, p, e, hp, he => by simp [Hd.readN]; omega
  | k + 1, p, e, hp, he => by
    obtain ⟨h1, h2, h3⟩ := rV_facts l p e 31 hp he
    obtain ⟨i1, i2, i3⟩ := readN_facts l k _ _ h2 h3
    rw [Hd.readN]
    refine ⟨i1, i2, fun t ht => ?_⟩
    rcases List.mem_cons.1 ht with rfl | ht
    · omega
    · exact i3 t ht
def numC (l : List Int) : List Value := l.map fun x => .int .i64 x
/-- A head of the call's own: its row may be written. -/
structure HdOwn (B : Nat) (w : World) (q : HdV) : Prop where
  row : RK 1 w (.slice q.lo q.ll q.lc) q.ll (numL q.lf q.ll)
  new : ∀ k, blk (.slice q.lo q.ll q.lc) = some k → B ≤ k
  few : q.ll ≤ 31
theorem HdOwn.at' {B : Nat} {w : World} {q : HdV} (h : HdOwn B w q) : HdAt w q := by
  have hf := h.few
  refine ⟨by unfold maxLen; omega, by omega, ?_, fun W hW j hj => ?_⟩
  · rcases h.row.2 with ⟨h1, h2⟩ | ⟨g, cap, h1, _⟩
    · simp only [Value.slice.injEq] at h1
      exact .inl h1
    · simp only [Value.slice.injEq] at h1
      exact .inr ⟨_, h1.1⟩
  · obtain ⟨g, cap, h1, _⟩ := h.row.at_ (by omega)
    simp only [Value.slice.injEq] at h1
    obtain ⟨e1, _, e2⟩ := h1
    have hr := h.row
    rw [e1] at hr
    refine ⟨_, e1, ?_⟩
    rw [Addr.add_lit, Nat.zero_add]
    exact (hr.below hW).cell j _ (numL_get _ _ _ hj)
theorem HdOwn.below {B : Nat} {w w' : World} {q : HdV} (h : HdOwn B w q) (hb : Below w.heap.size w w') : HdOwn B w' q := ⟨h.row.below hb, h.new, h.few⟩
theorem HdOwn.mono {B C : Nat} {w : World} {q : HdV} (h : HdOwn B w q) (hc : C ≤ B) : HdOwn C w q := ⟨h.row, fun k hk => Nat.le_trans hc (h.new k hk), h.few⟩
def HdV.zero : HdV := ⟨0, 0, 0, none, 0, 0, fun _ => 0⟩
theorem HdOwn.zero (B : Nat) (w : World) : HdOwn B w HdV.zero := ⟨RK.nil 1 w, fun k hk => by simp [HdV.zero, blk] at hk, by decide⟩
theorem HdOwn.set {B : Nat} {w : World} {q : HdV} (h : HdOwn B w q) (p : Addr) (u : Value) (hp : p.block < B) : HdOwn B (w.setCell p u) q := ⟨h.row.set p u (fun k hk => by have := h.new k hk; omega), h.new, h.few⟩
theorem numC_numL {l : List Int} {g : Nat → Int} {n : Nat} (h : rowI g n = l) : numL g n = numC l := by rw [← h]; rfl
theorem exists_row (l : List Int) (n : Nat) (h : l.length = n) : ∃ g : Nat → Int, rowI g n = l := by
  subst h
  refine ⟨fun j => l.getD j 0, ?_⟩
  apply List.ext_getElem (by rw [rowI_len])
  intro i h1 h2
  simp [rowI, h2]
structure DecS (w1 wr : World) (g b5 : Nat) (s : ByteArray) (p e : Nat) (gen base snap : Int) (ao : Option Addr) (n cap : Nat) (l : List Int) : Prop where
  rd : Rd wr g s p e
  box : wr.heap[b5]? = some (.cells #[.int .i64 gen, .int .i64 base, .int .i64 snap, .slice ao n cap] 38 (0, 0))
  row : RK 1 wr (.slice ao n cap) n (numC l)
  new : ∀ k, blk (.slice ao n cap) = some k → b5 < k
  below : Below w1.heap.size w1 wr
  hg : w1.heap.size ≤ g
  gb : g < b5
section
variable {w1 wr : World} {g b5 : Nat} {s : ByteArray} {p e : Nat} {gen base snap : Int} {ao : Option Addr} {n cap : Nat} {l : List Int}
theorem DecS.drew (h : DecS w1 wr g b5 s p e gen base snap ao n cap l) : DecS w1 wr.drew g b5 s p e gen base snap ao n cap l :=
  ⟨h.rd, h.box, h.row, h.new, ⟨h.below.os, h.below.tape, h.below.output, h.below.size, h.below.block⟩, h.hg, h.gb⟩
theorem DecS.blt (h : DecS w1 wr g b5 s p e gen base snap ao n cap l) : b5 < wr.heap.size := lt_of_block' h.box
theorem DecS.free (h : DecS w1 wr g b5 s p e gen base snap ao n cap l) (j : Nat) : wr.frozen? ⟨b5, j, none⟩ = false := by simp [World.frozen?, h.box]
theorem DecS.read (h : DecS w1 wr g b5 s p e gen base snap ao n cap l) {w5 : World} {p' e' : Nat} (hr : Rd w5 g s p' e') (hg : wr.grownBy w5 (some g)) : DecS w1 w5 g b5 s p' e' gen base snap ao n cap l := by
  have hgb := h.gb
  have hgg := h.hg
  refine ⟨hr, (hg.block b5 h.blt (fun e => by cases e; omega)).trans h.box, h.row.kept hg (fun k hk e => ?_), h.new, h.below.grown hg h.below.size (fun k e => by cases e; exact h.hg), h.hg, h.gb⟩
  cases e
  have := h.new _ hk
  omega
theorem DecS.alloc (h : DecS w1 wr g b5 s p e gen base snap ao n cap l) (o : Obj) : DecS w1 (wr.alloc o) g b5 s p e gen base snap ao n cap l := by
  have hb : Below wr.heap.size wr (wr.alloc o) := (Below.refl _ _).alloc (Nat.le_refl _) _
  exact ⟨(hb.block g h.rd.lt).trans h.rd, (hb.block b5 h.blt).trans h.box, h.row.below hb, h.new, h.below.trans (hb.mono h.below.size), h.hg, h.gb⟩
theorem DecS.grown (h : DecS w1 wr g b5 s p e gen base snap ao n cap l) {w6 : World} {a2 : Option Addr} {m c2 : Nat} {l' : List Int} (r1 : RK 1 w6 (.slice a2 m c2) m (numC l')) (g1 : wr.grownBy w6 (blk (.slice ao n cap))) (f1 : Fresh wr (.slice ao n cap) (.slice a2 m c2)) :
    w6.heap[b5]? = some (.cells #[.int .i64 gen, .int .i64 base, .int .i64 snap, .slice ao n cap] 38 (0, 0)) ∧ DecS w1 (w6.setCell ⟨b5, 3, none⟩ (.slice a2 m c2)) g b5 s p e gen base snap a2 m c2 l' := by
  have hgb := h.gb
  have hgg := h.hg
  have hbl := h.blt
  have hbox := (g1.block b5 h.blt (fun e => by have := h.new b5 e.symm; omega)).trans h.box
  have hrd : Rd w6 g s p e := (g1.block g h.rd.lt (fun e => by have := h.new g e.symm; omega)).trans h.rd
  have hnew : ∀ k, blk (.slice a2 m c2) = some k → b5 < k := fun k hk => (f1 k hk).elim (h.new k) (fun h => by omega)
  have hb6 : Below w1.heap.size w1 w6 := h.below.grown g1 h.below.size (fun k e => by have := h.new k e; omega)
  refine ⟨hbox, ?_, ?_, r1.set _ _ (fun k hk e => ?_), hnew, hb6.setCell (p := ⟨b5, 3, none⟩) (by show w1.heap.size ≤ b5; omega) _, h.hg, h.gb⟩
  · exact (Below.heap_setCell w6 ⟨b5, 3, none⟩ _ g (by show g ≠ b5; omega)).trans hrd
  · exact heap_setCell_same w6 b5 3 _ _ _ hbox
  · have := hnew k hk
    simp only [] at e
    omega
theorem DecS.set1 (h : DecS w1 wr g b5 s p e gen base snap ao n cap l) (x : Int) : DecS w1 (wr.setCell ⟨b5, 1, none⟩ (.int .i64 x)) g b5 s p e gen x snap ao n cap l := by
  have hgb := h.gb
  have hgg := h.hg
  refine ⟨(Below.heap_setCell wr ⟨b5, 1, none⟩ _ g (by show g ≠ b5; omega)).trans h.rd, heap_setCell_same wr b5 1 _ _ _ h.box, h.row.set _ _ (fun k hk e => ?_), h.new, h.below.setCell (p := ⟨b5, 1, none⟩) (by show w1.heap.size ≤ b5; omega) _, h.hg, h.gb⟩
  have := h.new k hk
  simp only [] at e
  omega
theorem DecS.set2 (h : DecS w1 wr g b5 s p e gen base snap ao n cap l) (x : Int) : DecS w1 (wr.setCell ⟨b5, 2, none⟩ (.int .i64 x)) g b5 s p e gen base x ao n cap l := by
  have hgb := h.gb
  have hgg := h.hg
  refine ⟨(Below.heap_setCell wr ⟨b5, 2, none⟩ _ g (by show g ≠ b5; omega)).trans h.rd, heap_setCell_same wr b5 2 _ _ _ h.box, h.row.set _ _ (fun k hk e => ?_), h.new, h.below.setCell (p := ⟨b5, 2, none⟩) (by show w1.heap.size ≤ b5; omega) _, h.hg, h.gb⟩
  have := h.new k hk
  simp only [] at e
  omega
end
end Go.Proofs.YtpfoekfbcpinlaaGreatDoor
