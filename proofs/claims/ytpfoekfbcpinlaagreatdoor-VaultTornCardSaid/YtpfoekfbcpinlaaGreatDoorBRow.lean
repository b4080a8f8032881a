/- A slice of bytes that a call may write and append to, whatever made it: nil, a new row, '[]byte(s)'. Its text, stores, appends of bytes and of a string. -/
import Derived.Test.YtpfoekfbcpinlaaGreatDoorBytes
import Derived.Lib.ConvBytes
import Derived.Lib.AppendStr
import Derived.Below
import Derived.ArgAppend
import Derived.OneCell
namespace Go.Proofs.YtpfoekfbcpinlaaGreatDoor
open Go.RowKit
set_option linter.unusedVariables false

structure Kp (p : Prop) : Prop where
  out : p
def BRow (w : World) (base : Nat) (v : Value) (l : List UInt8) : Prop :=
  (v = .slice none 0 0 ∧ l = []) ∨
  ∃ g cap, v = .slice (some ⟨g, 0, none⟩) l.length cap ∧ base ≤ g ∧ g < w.heap.size ∧ l.length ≤ cap ∧ cap ≤ maxLen ∧
    (∀ j u, (by8 l)[j]? = some u → w.cell? ⟨g, j, none⟩ = some u) ∧ ∀ j, j < cap → (w.cell? ⟨g, j, none⟩).isSome = true ∧ w.frozen? ⟨g, j, none⟩ = false
theorem BRow.nil (w : World) (base : Nat) : BRow w base (.slice none 0 0) [] := .inl ⟨rfl, rfl⟩
theorem BRow.of_own {w : World} {base : Nat} {v : Value} {n : Nat} {l : List UInt8} (h : w.ownsRow base 5 1 v n (by8 l)) : BRow w base v l := by
  have hn : l.length = n := by have := h.1; rw [by8_length] at this; omega
  rcases h.2 with ⟨h1, h2⟩ | ⟨g, cap, cur, h1, h2, h3, h4, h5, h6, h7⟩
  · exact .inl ⟨h1, List.length_eq_zero_iff.1 (by omega)⟩
  · subst h1
    subst hn
    refine .inr ⟨g, cap, rfl, h2, lt_of_block h3, h4, h5, fun j u hu => ?_, fun j hj => ⟨?_, h.frozenAt j⟩⟩
    · have hj : j < l.length := by
        rcases Nat.lt_or_ge j l.length with h | h
        · exact h
        · simp [List.getElem?_eq_none (show (by8 l).length ≤ j by rw [by8_length]; exact h)] at hu
      rw [h.cellAt j (by omega)]; exact hu
    · have : j < cur.size := by omega
      simp [World.cell?, h3, this]
theorem BRow.len {w : World} {base : Nat} {v : Value} {l : List UInt8} (h : BRow w base v l) : ∃ a cap, v = .slice a l.length cap := by
  rcases h with ⟨rfl, rfl⟩ | ⟨g, cap, rfl, _⟩
  · exact ⟨none, 0, rfl⟩
  · exact ⟨_, cap, rfl⟩
theorem BRow.lower {w : World} {base base' : Nat} {v : Value} {l : List UInt8} (h : BRow w base v l) (hb : base' ≤ base) : BRow w base' v l := by
  rcases h with h | ⟨g, cap, h1, h2, h3⟩
  · exact .inl h
  · exact .inr ⟨g, cap, h1, Nat.le_trans hb h2, h3⟩
theorem BRow.below {w w' : World} {base : Nat} {v : Value} {l : List UInt8} (h : BRow w base v l) (hb : Below w.heap.size w w') : BRow w' base v l := by
  rcases h with h | ⟨g, cap, h1, h2, h3, h4, h5, h6, h7⟩
  · exact .inl h
  · refine .inr ⟨g, cap, h1, h2, Nat.lt_of_lt_of_le h3 hb.size, h4, h5, fun j u hu => ?_, fun j hj => ?_⟩
    · rw [hb.cell (p := ⟨g, j, none⟩) h3]; exact h6 j u hu
    · rw [hb.cell (p := ⟨g, j, none⟩) h3, hb.frozen (p := ⟨g, j, none⟩) h3]; exact h7 j hj
theorem BRow.drew {w : World} {base : Nat} {v : Value} {l : List UInt8} (h : BRow w base v l) : BRow w.drew base v l := h
/-- Another row grew. -/
theorem BRow.kept {w w' : World} {base : Nat} {v : Value} {l : List UInt8} {row : Option Nat} (h : BRow w base v l) (hg : w.grownBy w' row) (hne : v.ownBlock = none ∨ v.ownBlock ≠ row) : BRow w' base v l := by
  rcases h with h | ⟨g, cap, h1, h2, h3, h4, h5, h6, h7⟩
  · exact .inl h
  · subst h1
    have hb : w'.heap[g]? = w.heap[g]? := hg.block g h3 (by
      rcases hne with h | h
      · simp [Value.ownBlock] at h
      · exact h)
    refine .inr ⟨g, cap, rfl, h2, Nat.lt_of_lt_of_le h3 hg.size, h4, h5, fun j u hu => ?_, fun j hj => ?_⟩
    · rw [World.cell?_of_block (a := ⟨g, j, none⟩) hb]; exact h6 j u hu
    · rw [World.cell?_of_block (a := ⟨g, j, none⟩) hb, World.frozen?_of_block (a := ⟨g, j, none⟩) hb]; exact h7 j hj
theorem BRow.string {w : World} {base : Nat} {v : Value} {l : List UInt8} (h : BRow w base v l) (dst : TypeId) (hd : Tryz.prog.underlying dst = some .string) :
    (convert 109 dst v).run Tryz.prog w = .ok (.string ⟨l.toArray⟩) w := by
  rcases h with ⟨rfl, rfl⟩ | ⟨g, cap, rfl, _, _, _, _, h6, _⟩
  · rw [run_convert_bytes_nil w 109 5 Tryz.underlying109 Tryz.underlying5 0 0 dst hd]
    rfl
  · rw [run_convert_bytes_arg w 109 5 Tryz.underlying109 Tryz.underlying5 g 0 l.length cap (l.map fun b => (b.toNat : Int)) (by simp) (fun i hi => by
      rw [Nat.zero_add, h6 i _ (by8_get l i hi)]
      simp [List.getD, List.getElem?_eq_getElem hi]) dst hd, str_of_nums]
theorem BRow.cell {w : World} {base g n cap : Nat} {l : List UInt8} (h : BRow w base (.slice (some ⟨g, 0, none⟩) n cap) l) (j : Nat) (hj : j < l.length) :
    w.cell? ⟨g, j, none⟩ = some (.int .u8 ((l[j].toNat : Nat) : Int)) ∧ w.frozen? ⟨g, j, none⟩ = false := by
  rcases h with ⟨h, _⟩ | ⟨g', cap', h1, h2, h3, h4, h5, h6, h7⟩
  · simp at h
  · simp only [Value.slice.injEq, Option.some.injEq, Addr.mk.injEq, and_true] at h1
    obtain ⟨rfl, rfl, rfl⟩ := h1
    exact ⟨h6 j _ (by8_get l j hj), (h7 j (by omega)).2⟩
theorem BRow.stored {w : World} {base g n cap : Nat} {l : List UInt8} (h : BRow w base (.slice (some ⟨g, 0, none⟩) n cap) l) (j : Nat) (hj : j < l.length) (b : UInt8) :
    BRow (w.setCell ⟨g, j, none⟩ (.int .u8 (b.toNat : Int))) base (.slice (some ⟨g, 0, none⟩) n cap) (l.set j b) := by
  rcases h with ⟨h, _⟩ | ⟨g', cap', h1, h2, h3, h4, h5, h6, h7⟩
  · simp at h
  · simp only [Value.slice.injEq, Option.some.injEq, Addr.mk.injEq, and_true] at h1
    obtain ⟨rfl, rfl, rfl⟩ := h1
    have hj' := h6 j _ (by8_get l j hj)
    refine .inr ⟨g, cap, by simp, h2, by simpa using h3, by simpa using h4, h5, fun i u hu => ?_, fun i hi => ?_⟩
    · rw [← by8_set] at hu
      by_cases e : i = j
      · subst e
        rw [List.getElem?_set_self (by rw [by8_length]; exact hj)] at hu
        rw [World.cell?_setCell_same _ _ _ hj', ← hu]
      · rw [World.cell?_setCell_other _ _ _ _ (by simp <;> omega)]
        rw [List.getElem?_set_ne (by omega)] at hu
        exact h6 i u hu
    · rw [World.frozen?_setCell]
      refine ⟨?_, (h7 i hi).2⟩
      by_cases e : i = j
      · subst e
        rw [World.cell?_setCell_same _ _ _ hj']; rfl
      · rw [World.cell?_setCell_other _ _ _ _ (by simp <;> omega)]; exact (h7 i hi).1
theorem BRow.made (w : World) (s : ByteArray) (hs : s.size ≤ maxLen) : BRow (Lib.bytesWorld w 5 s) w.heap.size (.slice (some ⟨w.heap.size, 0, none⟩) s.size (grownCap w s.size 0 5)) s.data.toList := by
  have hsz : (Lib.bytesCells w 5 s).size = grownCap w s.size 0 5 := by
    have := grownCap_ge w s.size 0 5
    simp [Lib.bytesCells]
    omega
  refine .inr ⟨w.heap.size, grownCap w s.size 0 5, by simp, Nat.le_refl _, by rw [Lib.bytesWorld_size]; omega, by simpa using grownCap_ge w s.size 0 5, grownCap_le_maxLen w s.size 0 _ hs, fun j u hu => ?_, fun j hj => ⟨?_, ?_⟩⟩
  · have hj : j < s.size := by
      rcases Nat.lt_or_ge j s.size with h | h
      · exact h
      · simp [List.getElem?_eq_none (show (by8 s.data.toList).length ≤ j by rw [by8_length]; simpa using h)] at hu
    have e := by8_get s.data.toList j (by simpa using hj)
    rw [e] at hu
    rw [Lib.bytesWorld_cell w 5 s j hj, ← hu]
    simp [List.getD, hj]
  · have : j < (Lib.bytesCells w 5 s).size := by omega
    simp [World.cell?, Lib.bytesWorld_at_new, this]
  · simp [World.frozen?, Lib.bytesWorld_at_new]
    omega
theorem below_bytes (w : World) (s : ByteArray) : Below w.heap.size w (Lib.bytesWorld w 5 s) :=
  ⟨rfl, rfl, rfl, by rw [Lib.bytesWorld_size]; omega, fun k hk => Lib.bytesWorld_at_old w 5 s k hk⟩
/-- The row of v' is v's, or a new one. -/
def NewOr (w : World) (v v' : Value) : Prop := ∀ k, v'.ownBlock = some k → v.ownBlock = some k ∨ w.heap.size ≤ k
theorem NewOr.refl (w : World) (v : Value) : NewOr w v v := fun _ h => .inl h
theorem NewOr.trans {w w1 : World} {v v1 v2 : Value} {row : Option Nat} (h : NewOr w v v1) (h1 : NewOr w1 v1 v2) (hg : w.grownBy w1 row) : NewOr w v v2 := fun k hk => by
  rcases h1 k hk with h2 | h2
  · exact h k h2
  · exact .inr (Nat.le_trans hg.size h2)
theorem grown_trans {w w1 w2 : World} {v v1 : Value} (hg : w.grownBy w1 v.ownBlock) (hn : NewOr w v v1) (hg1 : w1.grownBy w2 v1.ownBlock) : w.grownBy w2 v.ownBlock :=
  ⟨hg1.os.trans hg.os, hg1.tape.trans hg.tape, hg1.output.trans hg.output, Nat.le_trans hg.size hg1.size, fun k hk hne => by
    rw [hg1.block k (Nat.lt_of_lt_of_le hk hg.size) (fun h => by
      rcases hn k h.symm with h2 | h2
      · exact hne h2.symm
      · omega), hg.block k hk hne]⟩
theorem setCells_facts (g : Nat) : ∀ (vs : List Value) (o : Nat) (w : World), (w.setCells g o vs).os = w.os ∧ (w.setCells g o vs).tape = w.tape ∧ (w.setCells g o vs).output = w.output ∧ (w.setCells g o vs).heap.size = w.heap.size ∧ ∀ k, k ≠ g → (w.setCells g o vs).heap[k]? = w.heap[k]?
  | [], _, w => ⟨rfl, rfl, rfl, rfl, fun _ _ => rfl⟩
  | v :: r, o, w => by
    obtain ⟨h1, h2, h3, h4, h5⟩ := setCells_facts g r (o + 1) (w.setCell ⟨g, o, none⟩ v)
    exact ⟨h1, h2, h3, by rw [World.setCells, h4]; simp, fun k hk => by rw [World.setCells, h5 k hk]; exact Below.heap_setCell w ⟨g, o, none⟩ v k hk⟩
theorem room_row {w : World} {base g cap : Nat} {l k : List UInt8} (h1 : base ≤ g) (h2 : g < w.heap.size) (h3 : l.length + k.length ≤ cap) (h4 : cap ≤ maxLen) (h5 : ∀ j u, (by8 l)[j]? = some u → w.cell? ⟨g, j, none⟩ = some u)
    (h6 : ∀ j, j < cap → (w.cell? ⟨g, j, none⟩).isSome = true ∧ w.frozen? ⟨g, j, none⟩ = false) : BRow (w.setCells g l.length (by8 k)) base (.slice (some ⟨g, 0, none⟩) (l.length + k.length) cap) (l ++ k) := by
  obtain ⟨f1, f2, f3, f4, f5⟩ := setCells_facts g (by8 k) l.length w
  have hin := World.cell?_setCells_in g (by8 k) l.length w (fun j hj => (h6 (l.length + j) (by rw [by8_length] at hj; omega)).1)
  refine .inr ⟨g, cap, by simp, h1, by rw [f4]; exact h2, by simpa using h3, h4, fun j u hu => ?_, fun j hj => ?_⟩
  · rw [by8_append] at hu
    by_cases hj : j < l.length
    · rw [World.cell?_setCells_out g _ _ _ _ (fun _ _ => .inl hj)]
      rw [List.getElem?_append_left (by rw [by8_length]; exact hj)] at hu
      exact h5 j u hu
    · obtain ⟨i, rfl⟩ : ∃ i, j = l.length + i := ⟨j - l.length, by omega⟩
      rw [List.getElem?_append_right (by rw [by8_length]; omega), by8_length, show l.length + i - l.length = i from by omega] at hu
      have hi : i < (by8 k).length := by
        rcases Nat.lt_or_ge i (by8 k).length with h | h
        · exact h
        · simp [List.getElem?_eq_none h] at hu
      rw [hin i hi, ← hu, List.getElem?_eq_getElem hi]
  · rw [World.frozen?_setCells]
    refine ⟨?_, (h6 j hj).2⟩
    by_cases hj2 : j < l.length ∨ l.length + k.length ≤ j
    · rw [World.cell?_setCells_out g _ _ _ _ (fun _ _ => by rw [by8_length]; simpa using hj2)]
      exact (h6 j hj).1
    · obtain ⟨i, rfl⟩ : ∃ i, j = l.length + i := ⟨j - l.length, by omega⟩
      rw [hin i (by rw [by8_length]; omega)]; rfl
/-- append(v, x...), x bytes in memory. -/
theorem run_append_brow {w : World} {base : Nat} {v : Value} {l : List UInt8} (h : BRow w base v l) (hbase : base ≤ w.heap.size) (ad : Addr) (c : Nat) (k : List UInt8) (hk : ∀ j u, (by8 k)[j]? = some u → w.cell? (ad.add j) = some u) (hlen : l.length + k.length ≤ 140737488355328) (ty : TypeId) :
    ∃ v' w', (Builtin.append_ #[109, 109] ty #[v, .slice (some ad) k.length c]).run Tryz.prog w = .ok v' w' ∧ BRow w' base v' (l ++ k) ∧ w.grownBy w' v.ownBlock ∧ NewOr w v v' := by
  obtain ⟨i0, hi, hz0, hz1, hz2⟩ := info_parts infoByte
  rcases h with ⟨rfl, rfl⟩ | ⟨g, cap, rfl, h1, h2, h3, h4, h5, h6⟩
  · obtain ⟨v', w', hr, ho, hg, _, hb⟩ := run_append_own_at (P := Tryz.prog) w base 109 ty 5 i0 (.int .u8 0) 1 1 Tryz.underlying109 hi hz0 hz1 hz2 rfl (by decide) (.slice none 0 0) 0 [] (World.ownsRow_nil _ _ _ _) ad k.length c (by8 k) (by rw [by8_length, Nat.mul_one]) hk (by8_one k) (by unfold maxLen; simp at hlen; omega) (by simp at hlen; omega) hbase
    refine ⟨v', w', hr, BRow.of_own ho, hg, fun j hj => ?_⟩
    rcases hb with hb | hb
    · exact .inl (hb ▸ hj)
    · rw [hb] at hj; simp only [Option.some.injEq] at hj; exact .inr (by omega)
  · by_cases hr : l.length + k.length ≤ cap
    · have hrun := run_append_room_cells (P := Tryz.prog) w 109 ty 5 i0 Tryz.underlying109 hi g 0 l.length cap ad k.length c (by8 k) (by rw [hz1, by8_length, Nat.mul_one]) hk (by8_one k) hr
        (fun j hj => by rw [hz1, Nat.zero_add, Nat.mul_one]; rw [by8_length] at hj; exact (h6 (l.length + j) (by omega)).1) (fun j hj => by rw [hz1, Nat.zero_add, Nat.mul_one]; rw [by8_length] at hj; exact (h6 (l.length + j) (by omega)).2)
      rw [hz1, Nat.zero_add, Nat.mul_one] at hrun
      obtain ⟨f1, f2, f3, f4, f5⟩ := setCells_facts g (by8 k) l.length w
      exact ⟨_, _, hrun, room_row h1 h2 hr h4 h5 h6, ⟨f1, f2, f3, by omega, fun j hj hne => f5 j (fun e => hne (by simp [Value.ownBlock, e]))⟩, fun j hj => .inl hj⟩
    · obtain ⟨v', w', hrun, ho, hg⟩ := run_append_arg_grows (P := Tryz.prog) w 109 ty 5 i0 (.int .u8 0) 1 1 Tryz.underlying109 hi hz0 hz1 hz2 rfl (by decide) ⟨g, 0, none⟩ l.length cap (by8 l) (by rw [by8_length, Nat.mul_one])
        (fun j u hu => by rw [Addr.add_lit, Nat.zero_add]; exact h5 j u hu) ad k.length c (by8 k) (by rw [by8_length, Nat.mul_one]) hk (by omega) (by unfold maxLen; omega) (by omega)
      rw [← by8_append] at ho
      refine ⟨v', w', hrun, (BRow.of_own ho).lower hbase, ⟨hg.os, hg.tape, hg.output, hg.size, fun j hj hne => hg.block j hj (by simp)⟩, fun j hj => .inr (ho.lt j hj).1⟩
theorem BRow.alloc {w : World} {base : Nat} {v : Value} {l : List UInt8} (h : BRow w base v l) (o : Obj) : BRow (w.alloc o) base v l := h.below ((Below.refl _ _).alloc (Nat.le_refl _) _)
/-- At the walk: append of one byte that lies in a new block of one cell. -/
theorem wpList_append_byte {w : World} (W : World) {ops : Array Oper} {rest : List Oper} {o : Oper} {a : Act} {Q : Exit → Act → World → Prop} (hgd : o.guard = none) (s x : Operand)
    (ho : o.op = .call { callee := .builtin .append, args := #[s, x], argTypes := #[109, 109] }) (base : Nat) (v : Value) (l : List UInt8) (h : BRow w base v l) (hbase : base ≤ w.heap.size)
    (n : Int) (b : UInt8) (hW : W = w.alloc (.cells #[.int .u8 n] 5 (0, 0))) (hs : a.eval s = v) (hx : a.eval x = .slice (some ⟨w.heap.size, 0, none⟩) 1 1) (hn : n = (b.toNat : Int)) (hlen : l.length + 1 ≤ 140737488355328)
    (K : ∀ v' w', BRow w' base v' (l ++ [b]) → w.grownBy w' v.ownBlock → NewOr w v v' → wpList Tryz.prog ops Q rest (a.put o.dst v') w') : wpList Tryz.prog ops Q (o :: rest) a W := by
  subst hW
  subst hn
  refine wpList_plain hgd fun K' hK => ?_
  obtain ⟨v', w', hr, h2, h3, h4⟩ := run_append_brow (h.alloc (.cells #[.int .u8 (b.toNat : Int)] 5 (0, 0))) (by simp; omega) ⟨w.heap.size, 0, none⟩ 1 [b] (cell_one_new w _ _) hlen o.type
  have hg : w.grownBy w' v.ownBlock := ⟨h3.os, h3.tape, h3.output, Nat.le_trans (by simp) h3.size, fun k hk hne => by
    rw [h3.block k (by simp; omega) hne, Below.heap_alloc w _ k hk]⟩
  have hno : NewOr w v v' := fun k hk => (h4 k hk).imp id (fun h => Nat.le_trans (by simp) h)
  have hx' : a.eval x = .slice (some ⟨w.heap.size, 0, none⟩) [b].length 1 := hx
  unfold Oper.wp execOp
  simp only [ho, resolve, invoke, builtin, Sem.run_bind, Sem.run_pure, Result.andThen_ok, List.map_toArray, List.map_cons, List.map_nil, hs, hx', hr]
  exact hK _ _ (K v' w' h2 hg hno)
theorem str_cells (s : ByteArray) : Lib.strCells s = by8 s.data.toList := rfl
/-- append(v, s...). -/
theorem run_append_brow_string {w : World} {base : Nat} {v : Value} {l : List UInt8} (h : BRow w base v l) (hbase : base ≤ w.heap.size) (s : ByteArray) (hlen : l.length + s.size ≤ 140737488355328) (ty : TypeId) :
    ∃ v' w', (Builtin.append_ #[109, 9] ty #[v, .string s]).run Tryz.prog w = .ok v' w' ∧ BRow w' base v' (l ++ s.data.toList) ∧ w.grownBy w' v.ownBlock ∧ NewOr w v v' := by
  obtain ⟨i0, hi, hz0, hz1, hz2⟩ := info_parts infoByte
  rcases h with ⟨rfl, rfl⟩ | ⟨g, cap, rfl, h1, h2, h3, h4, h5, h6⟩
  · obtain ⟨v', w', hr, ho, hg, _⟩ := Lib.run_append_own_string (P := Tryz.prog) w w.heap.size 109 9 ty 5 i0 Tryz.underlying109 Tryz.underlying9 hi hz0 hz1 hz2 (.slice none 0 0) 0 [] (World.ownsRow_nil _ _ _ _) s (by unfold maxLen; simp at hlen; omega) (by simp at hlen; omega) (Nat.le_refl _)
    rw [str_cells] at ho
    exact ⟨v', w', hr, (BRow.of_own ho).lower hbase, hg, fun j hj => .inr (ho.lt j hj).1⟩
  · by_cases hr : l.length + s.size ≤ cap
    · have hf := Lib.run_firstCells_string (P := Tryz.prog) w i0.size s
      have hst := run_storeCells_cells (P := Tryz.prog) g l.length (Lib.strCells s) 0 w (fun j hj => by rw [Lib.strCells_length] at hj; exact (h6 (l.length + 0 + j) (by omega)).1) (fun j hj => by rw [Lib.strCells_length] at hj; exact (h6 (l.length + 0 + j) (by omega)).2) (Lib.strCells_oneCell s)
      simp only [Nat.add_zero] at hst
      rw [hz1] at hf
      have hrun : (Builtin.append_ #[109, 9] ty #[.slice (some ⟨g, 0, none⟩) l.length cap, .string s]).run Tryz.prog w = .ok (.slice (some ⟨g, 0, none⟩) (l.length + s.size) cap) (w.setCells g l.length (Lib.strCells s)) := by
        simp [Builtin.append_, run_underlying Tryz.underlying109, run_underlying Tryz.underlying9, sizeOf, typeInfo, hi, Builtin.lenOf, hr, hf, Addr.add_lit, hst, hz1]
      rw [str_cells] at hrun
      obtain ⟨f1, f2, f3, f4, f5⟩ := setCells_facts g (by8 s.data.toList) l.length w
      refine ⟨_, _, hrun, ?_, ⟨f1, f2, f3, by omega, fun j hj hne => f5 j (fun e => hne (by simp [Value.ownBlock, e]))⟩, fun j hj => .inl hj⟩
      have := room_row (k := s.data.toList) h1 h2 (by simpa using hr) h4 h5 h6
      simpa using this
    · have hge := grownCap_ge w (l.length + s.size) cap 5
      have hrun := Lib.run_append_grow_string (P := Tryz.prog) w 109 9 ty 5 i0 (.int .u8 0) Tryz.underlying109 Tryz.underlying9 hi hz0 ⟨g, 0, none⟩ l.length cap (by8 l) (by rw [by8_length, hz1, Nat.mul_one])
        (fun j u hu => by rw [Addr.add_lit, Nat.zero_add]; exact h5 j u hu) s (by omega) (by omega) (growslice_fits (by omega) (by rw [hz2]; omega))
      have hbel : w.grownBy (w.drew.alloc (.cells ((by8 l).toArray ++ (Lib.strCells s).toArray ++ Builtin.zeroCells (Value.int .u8 0).cells (grownCap w (l.length + s.size) cap 5 - (l.length + s.size))) 5)) (Value.slice (some ⟨g, 0, none⟩) l.length cap).ownBlock :=
        ⟨rfl, rfl, rfl, by simp, fun k hk _ => Below.heap_alloc w.drew _ k hk⟩
      have hown : (w.drew.alloc (.cells ((by8 l).toArray ++ (Lib.strCells s).toArray ++ Builtin.zeroCells (Value.int .u8 0).cells (grownCap w (l.length + s.size) cap 5 - (l.length + s.size))) 5)).ownsRow w.heap.size 5 1 (.slice (some ⟨w.heap.size, 0, none⟩) (l.length + s.size) (grownCap w (l.length + s.size) cap 5)) (l.length + s.size) (by8 (l ++ s.data.toList)) := by
        refine ⟨by rw [by8_length]; simp, .inr ⟨w.heap.size, _, _, rfl, Nat.le_refl _, heap_alloc_new w.drew _, hge, grownCap_le_maxLen w _ _ _ (by unfold maxLen; omega), ?_, ?_⟩⟩
        · simp only [Array.size_append, List.size_toArray, size_zeroCells, by8_length, Lib.strCells_length]
          simp [Value.cells]
          omega
        · have e : (l.length + s.size) * 1 = (by8 l ++ Lib.strCells s).length := by simp [by8_length, Lib.strCells_length]
          rw [by8_append, ← str_cells, e]
          simp only [Array.toList_append]
          exact List.take_left
      exact ⟨_, _, hrun, (BRow.of_own hown).lower hbase, hbel, fun j hj => .inr (by simp [Value.ownBlock] at hj; omega)⟩
end Go.Proofs.YtpfoekfbcpinlaaGreatDoor
