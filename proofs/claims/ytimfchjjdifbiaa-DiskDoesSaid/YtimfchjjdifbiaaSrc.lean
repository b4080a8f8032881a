/- What is appended: a slice that is read alone (a cut of one, or nil); append's law with the slice that it makes named; two appends onto a fresh slice in a region that draws its order. -/
import Derived.Test.YtimfchjjdifbiaaRowRow
namespace Go.Proofs.Ytimfchjjdifbiaa
open Go.RowKit
set_option linter.unusedVariables false

theorem src_lt {w : World} {k : Nat} {o : Obj} (h : w.heap[k]? = some o) : k < w.heap.size := by
  rcases Nat.lt_or_ge k w.heap.size with h' | h'
  · exact h'
  · simp [Array.getElem?_eq_none h'] at h
/-- The slice u reads as m elements of z cells each. -/
def Src (z : Nat) (w : World) (u : Value) (m : Nat) (ks : List Value) : Prop :=
  ks.length = m * z ∧ ((u = .slice none 0 0 ∧ m = 0) ∨ ∃ ad c, u = .slice (some ad) m c ∧ ∀ j x, ks[j]? = some x → w.cell? (ad.add j) = some x)
theorem RK.src {z m : Nat} {w : World} {u : Value} {ks : List Value} (h : RK z w u m ks) : Src z w u m ks := by
  refine ⟨h.1, ?_⟩
  rcases h.2 with ⟨rfl, rfl⟩ | ⟨g, cap, rfl, _, _, _⟩
  · exact .inl ⟨rfl, rfl⟩
  · refine .inr ⟨_, _, rfl, fun j x hx => ?_⟩
    rw [Addr.add_lit, Nat.zero_add]
    exact h.cell j x hx
/-- u[:i] and u[i:]. -/
theorem RK.src_take {z n g cap : Nat} {w : World} {cs : List Value} (h : RK z w (.slice (some ⟨g, 0, none⟩) n cap) n cs) (i : Nat) (hi : i ≤ n) : Src z w (.slice (some ⟨g, 0, none⟩) i cap) i (cs.take (i * z)) := by
  refine ⟨by rw [List.length_take, h.1]; exact Nat.min_eq_left (Nat.mul_le_mul_right _ hi), .inr ⟨_, _, rfl, fun j x hx => ?_⟩⟩
  rw [Addr.add_lit, Nat.zero_add]
  rw [List.getElem?_take] at hx
  split at hx
  · exact h.cell j x hx
  · cases hx
theorem RK.src_drop {z n g cap : Nat} {w : World} {cs : List Value} (h : RK z w (.slice (some ⟨g, 0, none⟩) n cap) n cs) (i : Nat) (hi : i ≤ n) (hc : n ≤ cap) : Src z w (.slice (if cap = i then some ⟨g, 0, none⟩ else some ⟨g, i * z, none⟩) (n - i) (cap - i)) (n - i) (cs.drop (i * z)) := by
  refine ⟨by rw [List.length_drop, h.1, Nat.sub_mul], ?_⟩
  by_cases he : cap = i
  · rw [if_pos he]
    refine .inr ⟨_, _, rfl, fun j x hx => ?_⟩
    have : cs.drop (i * z) = [] := List.drop_eq_nil_of_le (by rw [h.1]; exact Nat.mul_le_mul_right _ (by omega))
    rw [this] at hx
    simp at hx
  · rw [if_neg he]
    refine .inr ⟨_, _, rfl, fun j x hx => ?_⟩
    rw [List.getElem?_drop] at hx
    rw [Addr.add_lit]
    exact h.cell _ x hx
theorem Src.below {z m : Nat} {w w' : World} {u : Value} {ks : List Value} (h : Src z w u m ks) (hb : Below w.heap.size w w') : Src z w' u m ks := by
  refine ⟨h.1, ?_⟩
  rcases h.2 with h1 | ⟨ad, c, rfl, h2⟩
  · exact .inl h1
  · exact .inr ⟨ad, c, rfl, fun j x hx => (hb.cell (World.block_lt_of_cell? _ _ (h2 j x hx))).trans (h2 j x hx)⟩
theorem Src.at_ {z m : Nat} {w w' : World} {u : Value} {ks : List Value} (h : Src z w u m ks) (hw : ∀ a x, w.cell? a = some x → w'.cell? a = some x) : Src z w' u m ks := by
  refine ⟨h.1, ?_⟩
  rcases h.2 with h1 | ⟨ad, c, rfl, h2⟩
  · exact .inl h1
  · exact .inr ⟨ad, c, rfl, fun j x hx => hw _ _ (h2 j x hx)⟩
theorem run_append_src {P : Program} {w : World} {v u : Value} {z n m : Nat} {cs ks : List Value} (h : RK z w v n cs) (hu : Src z w u m ks) (T ty E : TypeId) (i : TypeInfo) (zero : Value) (bytes : Nat) (hT : P.underlying T = some (.slice E)) (hi : P.info? E = some i) (hz : i.zero = some zero) (hsz : i.size = z) (hby : i.bytes = bytes) (hzs : zero.cells.size = z) (hz0 : 0 < z)
    (h1 : ∀ u ∈ ks, u.oneCell' = true) (h63 : n + m ≤ maxLen) (hbytes : (n + m) * bytes ≤ 140737488355328) (p : Nat) (ls : List Value) (hp : n + m = p) (hl : cs ++ ks = ls) :
    ∃ ao cap w', (Builtin.append_ #[T, T] ty #[v, u]).run P w = .ok (.slice ao p cap) w' ∧ RK z w' (.slice ao p cap) p ls ∧ w.grownBy w' (blk v) ∧ Fresh w v (.slice ao p cap) := by
  subst hp hl
  rcases hu.2 with ⟨rfl, rfl⟩ | ⟨ad, c, rfl, hc⟩
  · have hks : ks = [] := List.length_eq_zero_iff.1 (by rw [hu.1]; simp)
    subst hks
    have hr := run_append_rk_nil h T ty E i hT hi
    obtain ⟨ao, cap, rfl, _, _⟩ := h.len
    exact ⟨ao, cap, w, hr, by simpa using h, World.grownBy.refl _ _, Fresh.refl _ _⟩
  · obtain ⟨v', w', hr, k1, k2, k3⟩ := run_append_rk h T ty E i zero bytes hT hi hz hsz hby hzs hz0 ad c hu.1 hc h1 h63 hbytes
    obtain ⟨ao, cap, rfl, _, _⟩ := k1.len
    exact ⟨ao, cap, w', hr, k1, k2, k3⟩
theorem wpList_append_src {P : Program} {w : World} {v u : Value} {z n m : Nat} {cs ks : List Value} {ops : Array Oper} {rest : List Oper} {o : Oper} {a : Act} {Q : Exit → Act → World → Prop} (hgd : o.guard = none) (s x : Operand) (T : TypeId) (ho : o.op = .call { callee := .builtin .append, args := #[s, x], argTypes := #[T, T] })
    (h : RK z w v n cs) (hu : Src z w u m ks) (E : TypeId) (i : TypeInfo) (zero : Value) (bytes : Nat) (hT : P.underlying T = some (.slice E)) (hi : P.info? E = some i) (hz : i.zero = some zero) (hsz : i.size = z) (hby : i.bytes = bytes) (hzs : zero.cells.size = z) (hz0 : 0 < z)
    (hs : a.eval s = v) (hx : a.eval x = u) (h1 : ∀ u ∈ ks, u.oneCell' = true) (h63 : n + m ≤ maxLen) (hbytes : (n + m) * bytes ≤ 140737488355328) (p : Nat) (ls : List Value) (hp : n + m = p) (hl : cs ++ ks = ls)
    (hK : ∀ ao cap w', RK z w' (.slice ao p cap) p ls → w.grownBy w' (blk v) → Fresh w v (.slice ao p cap) → wpList P ops Q rest (a.put o.dst (.slice ao p cap)) w') : wpList P ops Q (o :: rest) a w := by
  refine wpList_plain hgd fun K hK' => ?_
  obtain ⟨ao, cap, w', hr, k1, k2, k3⟩ := run_append_src h hu T o.type E i zero bytes hT hi hz hsz hby hzs hz0 h1 h63 hbytes p ls hp hl
  exact wp_append_of_run s x T ho v _ _ w' hs hx hr (hK' _ _ (hK ao cap w' k1 k2 k3))
theorem step_append_src {P : Program} {w : World} {v u : Value} {z n m : Nat} {cs ks : List Value} {ops : Array Oper} {o : Oper} {a : Act} {K : Act → World → Prop} {Q : Exit → Act → World → Prop} {E' : Prop} (hgd : o.guard = none) (s x : Operand) (T : TypeId) (ho : o.op = .call { callee := .builtin .append, args := #[s, x], argTypes := #[T, T] })
    (h : RK z w v n cs) (hu : Src z w u m ks) (E : TypeId) (i : TypeInfo) (zero : Value) (bytes : Nat) (hT : P.underlying T = some (.slice E)) (hi : P.info? E = some i) (hz : i.zero = some zero) (hsz : i.size = z) (hby : i.bytes = bytes) (hzs : zero.cells.size = z) (hz0 : 0 < z)
    (hs : a.eval s = v) (hx : a.eval x = u) (h1 : ∀ u ∈ ks, u.oneCell' = true) (h63 : n + m ≤ maxLen) (hbytes : (n + m) * bytes ≤ 140737488355328) (p : Nat) (ls : List Value) (hp : n + m = p) (hl : cs ++ ks = ls)
    (hK : ∀ ao cap w', RK z w' (.slice ao p cap) p ls → w.grownBy w' (blk v) → Fresh w v (.slice ao p cap) → K (a.put o.dst (.slice ao p cap)) w') : if Region.wanted o (yielded ops a.tmps) = true then Oper.wp P o a w K Q else E' := by
  obtain ⟨ao, cap, w', hr, k1, k2, k3⟩ := run_append_src h hu T o.type E i zero bytes hT hi hz hsz hby hzs hz0 h1 h63 hbytes p ls hp hl
  exact step_append_of_run hgd s x T ho v _ _ w' hs hx hr (hK ao cap w' k1 k2 k3)
/-- An element that was laid into a block of its own. -/
theorem src_one {z q : Nat} {W : World} {cs : Array Value} {T : TypeId} (h : W.heap[q]? = some (.cells cs T (0, 0))) (hz : cs.size = z) : Src z W (.slice (some ⟨q, 0, none⟩) 1 1) 1 cs.toList := by
  refine ⟨by simpa using hz, .inr ⟨_, _, rfl, fun j x hx => ?_⟩⟩
  rw [Addr.add_lit, Nat.zero_add]
  simp [World.cell?, h]
  simpa using hx
/-- What is left behind an append onto a fresh slice: w2 is w with new blocks; the slice v lies in a new one. -/
structure New (B : Nat) (w w2 : World) (v : Value) : Prop where
  below : Below B w w2
  new : ∀ k, blk v = some k → B ≤ k
theorem New.of {B : Nat} {w W w2 : World} {u v : Value} (h : Below B w W) (hB : B ≤ W.heap.size) (hg : W.grownBy w2 (blk u)) (hf : Fresh W u v) (hu : ∀ k, blk u = some k → B ≤ k) : New B w w2 v :=
  ⟨h.grown hg hB hu, fun k hk => (hf k hk).elim (hu k) (fun h1 => by omega)⟩
theorem blk_none (q : Nat) : ∀ B k, blk (.slice (some ⟨q, 0, none⟩) 0 0) = some k → B ≤ k := fun B k hk => by simp [blk] at hk
theorem heap_second (w : World) (o1 o2 : Obj) : ((w.alloc o1).alloc o2).heap[w.heap.size + 1]? = some o2 := by
  have := heap_alloc_new (w.alloc o1) o2
  simpa using this
theorem heap_first (w : World) (o1 o2 : Obj) : ((w.alloc o1).alloc o2).heap[w.heap.size]? = some o1 :=
  (Below.heap_alloc _ o2 _ (by simp)).trans (heap_alloc_new w o1)
/-- A block that was there before an append onto a fresh slice. -/
theorem kept_over {W w2 : World} {q n : Nat} {o : Obj} (hg : W.grownBy w2 (blk (.slice (some ⟨n, 0, none⟩) 0 0))) (h : W.heap[q]? = some o) : w2.heap[q]? = some o :=
  (hg.block q (src_lt h) (fun e => by simp [blk] at e)).trans h
end Go.Proofs.Ytimfchjjdifbiaa
