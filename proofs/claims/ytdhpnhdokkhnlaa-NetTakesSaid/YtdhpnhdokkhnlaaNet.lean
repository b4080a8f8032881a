/- Package net: a message, a Net, as they lie in memory; New, at, Len, Count. -/
import Derived.Test.YtdhpnhdokkhnlaaRow
import Derived.Deep.RegionHeld3
namespace Go.Proofs.Ytdhpnhdokkhnlaa
open Go.RowKit
set_option linter.unusedVariables false

/-- A message. -/
structure MailV where
  id : Int
  frm : Int
  to : Int
  data : ByteArray
def MailV.v (m : MailV) : Value := .agg #[.int .i64 m.id, .int .i64 m.frm, .int .i64 m.to, .string m.data]
def mv (m : MailV) : List Value := [.int .i64 m.id, .int .i64 m.frm, .int .i64 m.to, .string m.data]
def rows (l : List MailV) : List Value := l.flatMap mv
theorem rows_len (l : List MailV) : (rows l).length = l.length * 4 := by
  unfold rows
  induction l with
  | nil => rfl
  | cons m r ih => rw [List.flatMap_cons, List.length_append, ih, List.length_cons]; simp [mv]; omega
theorem rows_append (l k : List MailV) : rows (l ++ k) = rows l ++ rows k := by simp [rows]
theorem rows_take (l : List MailV) : ∀ i, (rows l).take (i * 4) = rows (l.take i) := by
  induction l with
  | nil => intro i; simp [rows]
  | cons m r ih =>
    intro i
    cases i with
    | zero => simp [rows]
    | succ i =>
      have e : rows (m :: r) = mv m ++ rows r := by simp [rows]
      have e2 : rows ((m :: r).take (i + 1)) = mv m ++ rows (r.take i) := by simp [rows]
      rw [e, e2, ← ih, List.take_append]
      have : (mv m).length = 4 := rfl
      rw [this, List.take_of_length_le (by rw [this]; omega)]
      congr 2
      omega
theorem rows_drop (l : List MailV) : ∀ i, (rows l).drop (i * 4) = rows (l.drop i) := by
  induction l with
  | nil => intro i; simp [rows]
  | cons m r ih =>
    intro i
    cases i with
    | zero => simp [rows]
    | succ i =>
      have e : rows (m :: r) = mv m ++ rows r := by simp [rows]
      rw [List.drop_succ_cons, ← ih, e, List.drop_append]
      have : (mv m).length = 4 := rfl
      rw [this, List.drop_eq_nil_of_le (by rw [this]; omega), List.nil_append]
      congr 1
      omega
theorem rows_get (l : List MailV) (i : Nat) (h : i < l.length) : (rows l)[i * 4]? = some (.int .i64 l[i].id) ∧ (rows l)[i * 4 + 1]? = some (.int .i64 l[i].frm) ∧ (rows l)[i * 4 + 2]? = some (.int .i64 l[i].to) ∧ (rows l)[i * 4 + 3]? = some (.string l[i].data) := by
  have hd : ∀ c, (rows l)[i * 4 + c]? = (rows (l.drop i))[c]? := fun c => by rw [← rows_drop, List.getElem?_drop]
  have e : l.drop i = l[i] :: l.drop (i + 1) := List.drop_eq_getElem_cons h
  have e2 : rows (l.drop i) = mv l[i] ++ rows (l.drop (i + 1)) := by rw [e, rows, List.flatMap_cons]; rfl
  refine ⟨?_, ?_, ?_, ?_⟩
  · have := hd 0; rw [e2] at this; exact this
  · have := hd 1; rw [e2] at this; exact this
  · have := hd 2; rw [e2] at this; exact this
  · have := hd 3; rw [e2] at this; exact this
theorem rows_one (l : List MailV) : ∀ u ∈ rows l, u.oneCell' = true := by
  intro u hu
  simp only [rows, List.mem_flatMap] at hu
  obtain ⟨m, _, hm⟩ := hu
  simp only [mv, List.mem_cons, List.not_mem_nil, or_false] at hm
  rcases hm with rfl | rfl | rfl | rfl <;> rfl
/-- A Net. -/
structure NetV where
  sent : Int
  doubled : Int
  taken : Int
  lost : Int
  nodes : Int
  last : Int
  l : List MailV
/-- A Net lies in block g; its row of messages is v. -/
def NetAt (w : World) (g : Nat) (v : Value) (N : NetV) : Prop :=
  w.heap[g]? = some (.cells #[.int .i64 N.sent, .int .i64 N.doubled, .int .i64 N.taken, .int .i64 N.lost, .int .i64 N.nodes, v, .int .i64 N.last] 65 (0, 0)) ∧ RK 4 w v N.l.length (rows N.l) ∧ blk v ≠ some g
section
variable {w w' : World} {g : Nat} {v : Value} {N : NetV}
theorem NetAt.lt (h : NetAt w g v N) : g < w.heap.size := lt_of_block h.1
theorem NetAt.c0 (h : NetAt w g v N) : w.cell? ⟨g, 0, none⟩ = some (.int .i64 N.sent) := by simp [World.cell?, h.1]
theorem NetAt.c1 (h : NetAt w g v N) : w.cell? ⟨g, 1, none⟩ = some (.int .i64 N.doubled) := by simp [World.cell?, h.1]
theorem NetAt.c2 (h : NetAt w g v N) : w.cell? ⟨g, 2, none⟩ = some (.int .i64 N.taken) := by simp [World.cell?, h.1]
theorem NetAt.c3 (h : NetAt w g v N) : w.cell? ⟨g, 3, none⟩ = some (.int .i64 N.lost) := by simp [World.cell?, h.1]
theorem NetAt.c4 (h : NetAt w g v N) : w.cell? ⟨g, 4, none⟩ = some (.int .i64 N.nodes) := by simp [World.cell?, h.1]
theorem NetAt.c5 (h : NetAt w g v N) : w.cell? ⟨g, 5, none⟩ = some v := by simp [World.cell?, h.1]
theorem NetAt.c6 (h : NetAt w g v N) : w.cell? ⟨g, 6, none⟩ = some (.int .i64 N.last) := by simp [World.cell?, h.1]
theorem NetAt.free (h : NetAt w g v N) (j : Nat) : w.frozen? ⟨g, j, none⟩ = false := by simp [World.frozen?, h.1]
theorem NetAt.drew (h : NetAt w g v N) : NetAt w.drew g v N := h
theorem NetAt.same (h : NetAt w g v N) (hz : w.heap.size ≤ w'.heap.size) (hg : w'.heap[g]? = w.heap[g]?) (hb : ∀ k, blk v = some k → w'.heap[k]? = w.heap[k]?) : NetAt w' g v N :=
  ⟨by rw [hg]; exact h.1, h.2.1.same hz hb, h.2.2⟩
theorem NetAt.below (h : NetAt w g v N) (hb : Below w.heap.size w w') : NetAt w' g v N := h.same hb.size (hb.block g h.lt) fun k hk => hb.block k (h.2.1.lt k hk)
theorem NetAt.alloc (h : NetAt w g v N) (o : Obj) : NetAt (w.alloc o) g v N := h.below ((Below.refl _ _).alloc (Nat.le_refl _) _)
theorem set_cells (h : w.heap[g]? = some (.cells #[.int .i64 N.sent, .int .i64 N.doubled, .int .i64 N.taken, .int .i64 N.lost, .int .i64 N.nodes, v, .int .i64 N.last] 65 (0, 0))) (j : Nat) (u : Value) :
    (w.setCell ⟨g, j, none⟩ u).heap[g]? = some (.cells (#[.int .i64 N.sent, .int .i64 N.doubled, .int .i64 N.taken, .int .i64 N.lost, .int .i64 N.nodes, v, .int .i64 N.last].setIfInBounds j u) 65 (0, 0)) := by
  show (w.heap.modify g _)[g]? = _
  rw [Array.getElem?_modify]
  simp [h]
theorem NetAt.row (h : NetAt w g v N) (j : Nat) (u : Value) : RK 4 (w.setCell ⟨g, j, none⟩ u) v N.l.length (rows N.l) := h.2.1.set _ _ fun k hk e => h.2.2 (by rw [hk, e])
theorem NetAt.set0 (h : NetAt w g v N) (x : Int) : NetAt (w.setCell ⟨g, 0, none⟩ (.int .i64 x)) g v { N with sent := x } := ⟨set_cells h.1 0 _, h.row _ _, h.2.2⟩
theorem NetAt.set1 (h : NetAt w g v N) (x : Int) : NetAt (w.setCell ⟨g, 1, none⟩ (.int .i64 x)) g v { N with doubled := x } := ⟨set_cells h.1 1 _, h.row _ _, h.2.2⟩
theorem NetAt.set2 (h : NetAt w g v N) (x : Int) : NetAt (w.setCell ⟨g, 2, none⟩ (.int .i64 x)) g v { N with taken := x } := ⟨set_cells h.1 2 _, h.row _ _, h.2.2⟩
theorem NetAt.set3 (h : NetAt w g v N) (x : Int) : NetAt (w.setCell ⟨g, 3, none⟩ (.int .i64 x)) g v { N with lost := x } := ⟨set_cells h.1 3 _, h.row _ _, h.2.2⟩
theorem NetAt.set6 (h : NetAt w g v N) (x : Int) : NetAt (w.setCell ⟨g, 6, none⟩ (.int .i64 x)) g v { N with last := x } := ⟨set_cells h.1 6 _, h.row _ _, h.2.2⟩
end
/-- What a call may do to a Net: write its block, and its row's; lay new blocks. -/
def Upd (w w' : World) (g : Nat) (v v' : Value) : Prop :=
  w'.os = w.os ∧ w'.tape = w.tape ∧ w'.output = w.output ∧ w.heap.size ≤ w'.heap.size ∧ (∀ k, k < w.heap.size → k ≠ g → blk v ≠ some k → w'.heap[k]? = w.heap[k]?) ∧ Fresh w v v'
theorem Upd.trans {w w1 w2 : World} {g : Nat} {v v1 v2 : Value} (h : Upd w w1 g v v1) (h1 : Upd w1 w2 g v1 v2) : Upd w w2 g v v2 := by
  obtain ⟨a1, a2, a3, a4, a5, a6⟩ := h
  obtain ⟨b1, b2, b3, b4, b5, b6⟩ := h1
  refine ⟨b1.trans a1, b2.trans a2, b3.trans a3, Nat.le_trans a4 b4, fun k hk hg hv => ?_, fun k hk => ?_⟩
  · rw [b5 k (by omega) hg (fun e => by rcases a6 k e with h | h; exact hv h; omega), a5 k hk hg hv]
  · rcases b6 k hk with h | h
    · exact a6 k h
    · exact .inr (by omega)
theorem Upd.of_below {w w' : World} (h : Below w.heap.size w w') (g : Nat) (v : Value) : Upd w w' g v v := ⟨h.os, h.tape, h.output, h.size, fun k hk _ _ => h.block k hk, Fresh.refl _ _⟩
theorem Upd.refl (w : World) (g : Nat) (v : Value) : Upd w w g v v := Upd.of_below (Below.refl _ _) g v
theorem Upd.of_grown {w w' : World} {g : Nat} (h : w.grownBy w' (some g)) (v : Value) : Upd w w' g v v := ⟨h.os, h.tape, h.output, h.size, fun k hk hne _ => h.block k hk (fun e => hne (Option.some.inj e)), Fresh.refl _ _⟩
theorem Upd.set (w : World) (g j : Nat) (u v : Value) : Upd w (w.setCell ⟨g, j, none⟩ u) g v v := Upd.of_grown (grown_set w g j u) v
theorem Upd.below {B : Nat} {w0 w w' : World} {g : Nat} {v v' : Value} (h0 : Below B w0 w) (h : Upd w w' g v v') (hB : B ≤ w.heap.size) (hg : B ≤ g) (hv : ∀ k, blk v = some k → B ≤ k) : Below B w0 w' ∧ ∀ k, blk v' = some k → B ≤ k := by
  obtain ⟨a1, a2, a3, a4, a5, a6⟩ := h
  refine ⟨h0.trans ⟨a1, a2, a3, a4, fun k hk => a5 k (by omega) (by omega) (fun e => by have := hv k e; omega)⟩, fun k hk => ?_⟩
  rcases a6 k hk with h | h
  · exact hv k h
  · omega
theorem Upd.of_row {w w' : World} {v v' : Value} (g : Nat) (h : w.grownBy w' (blk v)) (hf : Fresh w v v') : Upd w w' g v v' := ⟨h.os, h.tape, h.output, h.size, fun k hk _ hne => h.block k hk (fun e => hne e.symm), hf⟩
/-- A Net's row, appended to and stored. -/
theorem NetAt.push {w w' : World} {g : Nat} {v v' : Value} {N : NetV} {l : List MailV} (h : NetAt w g v N) (hr : RK 4 w' v' l.length (rows l)) (hg : w.grownBy w' (blk v)) (hf : Fresh w v v') :
    w'.cell? ⟨g, 5, none⟩ = some v ∧ w'.frozen? ⟨g, 5, none⟩ = false ∧ NetAt (w'.setCell ⟨g, 5, none⟩ v') g v' { N with l := l } ∧ Upd w (w'.setCell ⟨g, 5, none⟩ v') g v v' := by
  have hb : w'.heap[g]? = w.heap[g]? := hg.block g h.lt (fun e => h.2.2 e.symm)
  have hne : blk v' ≠ some g := fun e => by
    rcases hf g e with h1 | h1
    · exact h.2.2 h1
    · have := h.lt; omega
  refine ⟨by rw [World.cell?_of_block (a := ⟨g, 5, none⟩) hb]; exact h.c5, by rw [World.frozen?_of_block (a := ⟨g, 5, none⟩) hb]; exact h.free 5, ⟨?_, hr.set _ _ (fun k hk e => hne (by rw [hk, e])), hne⟩, (Upd.of_row g hg hf).trans (Upd.set _ _ _ _ _)⟩
  exact set_cells (by rw [hb]; exact h.1) 5 v'
theorem infoMail : (Try.prog.info? 38).map (fun i => (i.zero, i.size, i.bytes)) = some (some (.agg #[.int .i64 0, .int .i64 0, .int .i64 0, .string ⟨#[]⟩]), 4, 40) := by kernel_rfl
theorem New_ok (n : Int) (w : World) (h1 : 2 ≤ n) (h2 : n ≤ 5) :
    Calls Try.prog 11 #[.int .i64 n] w fun e w' => e = .returned (.tuple #[.pointer (some ⟨w.heap.size, 0, none⟩), .int .i64 0]) ∧ NetAt w' w.heap.size (.slice none 0 0) ⟨0, 0, 0, 0, n, 0, []⟩ ∧ Below w.heap.size w w' := by
  go_enter Try.func11, Try.ntmps11
  go_wp2
  go_ret2
  refine ⟨rfl, ⟨?_, RK.nil _ _, by simp [blk]⟩, (Below.refl _ _).alloc (Nat.le_refl _) _⟩
  exact heap_alloc_new w _
theorem New_no (n : Int) (w : World) (h : n < 2 ∨ 5 < n) :
    Calls Try.prog 11 #[.int .i64 n] w fun e w' => e = .returned (.tuple #[.pointer none, .int .i64 1]) ∧ w = w' := by
  by_cases h1 : n < 2
  · go_enter Try.func11, Try.ntmps11
    go_wp2
    go_ret2
    exact ⟨rfl, rfl⟩
  · have h2 : 5 < n := by omega
    have t1 : decide (n < 2) = false := by rw [decide_eq_false_iff_not]; exact h1
    go_enter Try.func11, Try.ntmps11
    go_wp2
    go_ret2
    exact ⟨rfl, rfl⟩
/-- What at answers. -/
def atV (N : NetV) (i : Int) : Int := if i < 0 ∨ (N.l.length : Int) ≤ i then 5 else 0
theorem at_any (g : Nat) (v : Value) (N : NetV) (i : Int) (w : World) (h : NetAt w g v N) :
    Calls Try.prog 27 #[.pointer (some ⟨g, 0, none⟩), .int .i64 i] w fun e w' => e = .returned (.int .i64 (atV N i)) ∧ w = w' := by
  have hc := h.c5
  obtain ⟨ao, cap, hv, h2, h3⟩ := h.2.1.len
  rw [hv] at hc
  unfold maxLen at h3
  clear h hv
  by_cases h0 : i < 0
  · have hV : Kp (atV N i = 5) := ⟨by unfold atV; rw [if_pos (.inl h0)]⟩
    have t1 : decide (i < 0) = true := by rw [decide_eq_true_eq]; exact h0
    go_enter Try.func27, Try.ntmps27
    go_wp2
    go_ret
    exact ⟨by rw [hV.out]; rfl, rfl⟩
  · have t1 : decide (i < 0) = false := by rw [decide_eq_false_iff_not]; exact h0
    by_cases h4 : (N.l.length : Int) ≤ i
    · have hV : Kp (atV N i = 5) := ⟨by unfold atV; rw [if_pos (.inr h4)]⟩
      have t2 : decide ((N.l.length : Int) ≤ i) = true := by rw [decide_eq_true_eq]; exact h4
      generalize N.l.length = n at hc h2 h4 t2
      go_enter Try.func27, Try.ntmps27
      go_wp2
      go_ret
      exact ⟨by rw [hV.out]; rfl, rfl⟩
    · have hV : Kp (atV N i = 0) := ⟨by unfold atV; rw [if_neg (by omega)]⟩
      have t2 : decide ((N.l.length : Int) ≤ i) = false := by rw [decide_eq_false_iff_not]; exact h4
      generalize N.l.length = n at hc h2 h4 t2
      go_enter Try.func27, Try.ntmps27
      go_wp2
      go_ret
      exact ⟨by rw [hV.out]; rfl, rfl⟩
theorem Len_any (g : Nat) (v : Value) (N : NetV) (w : World) (h : NetAt w g v N) :
    Calls Try.prog 17 #[.pointer (some ⟨g, 0, none⟩)] w fun e w' => e = .returned (.int .i64 (N.l.length : Nat)) ∧ w = w' := by
  have hc := h.c5
  obtain ⟨ao, cap, hv, h2, h3⟩ := h.2.1.len
  rw [hv] at hc
  unfold maxLen at h3
  clear h hv
  generalize N.l.length = n at hc h2 ⊢
  go_enter Try.func17, Try.ntmps17
  go_wp2
  go_ret
  exact ⟨rfl, rfl⟩
end Go.Proofs.Ytdhpnhdokkhnlaa
