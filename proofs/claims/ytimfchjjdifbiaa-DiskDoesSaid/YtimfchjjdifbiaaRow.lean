/- A slice that a call may write and append to, whatever made it, of elements of any number of cells: nil, a new row, a cut of one. Its cells, its cuts, append. -/
import Derived.Test.YtimfchjjdifbiaaProg
import Derived.WalkKit
import Derived.OwnWalk
import Derived.Laws.AppendOwn
import Derived.Laws.OwnMore
import Derived.Maps.AppendAt
import Derived.Below
import Derived.ArgAppend
import Derived.OneCell
import Derived.KernelRfl
namespace Go.Proofs.Ytimfchjjdifbiaa
open Go.RowKit
set_option linter.unusedVariables false

structure Kp (p : Prop) : Prop where
  out : p
/-- The slice v has n elements, whose cells are cs, of z cells each. -/
def RK (z : Nat) (w : World) (v : Value) (n : Nat) (cs : List Value) : Prop :=
  cs.length = n * z ∧ ((v = .slice none 0 0 ∧ n = 0) ∨ ∃ g cap, v = .slice (some ⟨g, 0, none⟩) n cap ∧ n ≤ cap ∧ cap ≤ maxLen ∧
    (0 < cap → g < w.heap.size ∧ (∀ j u, cs[j]? = some u → w.cell? ⟨g, j, none⟩ = some u) ∧ ∀ j, j < cap * z → (w.cell? ⟨g, j, none⟩).isSome = true ∧ w.frozen? ⟨g, j, none⟩ = false))
/-- The block that is written, if something is appended. -/
def blk : Value → Option Nat
  | .slice (some a) _ (_ + 1) => some a.block
  | _ => none
theorem RK.nil (z : Nat) (w : World) : RK z w (.slice none 0 0) 0 [] := ⟨by simp, .inl ⟨rfl, rfl⟩⟩
theorem RK.empty (z : Nat) (w : World) (g : Nat) : RK z w (.slice (some ⟨g, 0, none⟩) 0 0) 0 [] := ⟨by simp, .inr ⟨g, 0, rfl, Nat.le_refl _, by decide, fun h => by omega⟩⟩
theorem RK.drew {z n : Nat} {w : World} {v : Value} {cs : List Value} (h : RK z w v n cs) : RK z w.drew v n cs := h
theorem RK.lt {z n : Nat} {w : World} {v : Value} {cs : List Value} (h : RK z w v n cs) : ∀ k, blk v = some k → k < w.heap.size := by
  intro k hk
  rcases h.2 with ⟨rfl, _⟩ | ⟨g, cap, rfl, _, _, h4⟩
  · simp [blk] at hk
  · cases cap with
    | zero => simp [blk] at hk
    | succ c =>
      simp [blk] at hk
      subst hk
      exact (h4 (by omega)).1
/-- It is kept where its block is. -/
theorem RK.same {z n : Nat} {w w' : World} {v : Value} {cs : List Value} (h : RK z w v n cs) (hz : w.heap.size ≤ w'.heap.size) (hb : ∀ k, blk v = some k → w'.heap[k]? = w.heap[k]?) : RK z w' v n cs := by
  refine ⟨h.1, ?_⟩
  rcases h.2 with h1 | ⟨g, cap, rfl, h2, h3, h4⟩
  · exact .inl h1
  · refine .inr ⟨g, cap, rfl, h2, h3, fun hc => ?_⟩
    obtain ⟨h5, h6, h7⟩ := h4 hc
    have hk := hb g (by cases cap with | zero => omega | succ c => rfl)
    refine ⟨by omega, fun j u hu => ?_, fun j hj => ?_⟩
    · rw [World.cell?_of_block (a := ⟨g, j, none⟩) hk]; exact h6 j u hu
    · rw [World.cell?_of_block (a := ⟨g, j, none⟩) hk, World.frozen?_of_block (a := ⟨g, j, none⟩) hk]; exact h7 j hj
theorem RK.below {z n : Nat} {w w' : World} {v : Value} {cs : List Value} (h : RK z w v n cs) (hb : Below w.heap.size w w') : RK z w' v n cs :=
  h.same hb.size fun k hk => hb.block k (h.lt k hk)
theorem RK.alloc {z n : Nat} {w : World} {v : Value} {cs : List Value} (h : RK z w v n cs) (o : Obj) : RK z (w.alloc o) v n cs := h.below ((Below.refl _ _).alloc (Nat.le_refl _) _)
theorem RK.kept {z n : Nat} {w w' : World} {v : Value} {cs : List Value} {row : Option Nat} (h : RK z w v n cs) (hg : w.grownBy w' row) (hne : ∀ k, blk v = some k → row ≠ some k) : RK z w' v n cs :=
  h.same hg.size fun k hk => hg.block k (h.lt k hk) (fun e => hne k hk e.symm)
theorem RK.set {z n : Nat} {w : World} {v : Value} {cs : List Value} (h : RK z w v n cs) (p : Addr) (u : Value) (hne : ∀ k, blk v = some k → k ≠ p.block) : RK z (w.setCell p u) v n cs :=
  h.same (by simp) fun k hk => Below.heap_setCell w p u k (hne k hk)
theorem RK.len {z n : Nat} {w : World} {v : Value} {cs : List Value} (h : RK z w v n cs) : ∃ ao cap, v = .slice ao n cap ∧ n ≤ cap ∧ cap ≤ maxLen := by
  rcases h.2 with ⟨rfl, rfl⟩ | ⟨g, cap, rfl, h2, h3, _⟩
  · exact ⟨none, 0, rfl, Nat.le_refl _, by decide⟩
  · exact ⟨_, cap, rfl, h2, h3⟩
/-- A cell of it. -/
theorem RK.cell {z n g cap : Nat} {w : World} {cs : List Value} (h : RK z w (.slice (some ⟨g, 0, none⟩) n cap) n cs) (j : Nat) (u : Value) (hj : cs[j]? = some u) : w.cell? ⟨g, j, none⟩ = some u := by
  rcases h.2 with ⟨h1, _⟩ | ⟨g', cap', h1, h2, h3, h4⟩
  · simp at h1
  · simp only [Value.slice.injEq, Option.some.injEq, Addr.mk.injEq, and_true, true_and] at h1
    obtain ⟨rfl, rfl⟩ := h1
    have hl : j < cs.length := by
      rcases Nat.lt_or_ge j cs.length with h | h
      · exact h
      · simp [List.getElem?_eq_none h] at hj
    rw [h.1] at hl
    have : 0 < n := by
      rcases Nat.eq_zero_or_pos n with h | h
      · subst h; simp at hl
      · exact h
    exact (h4 (by omega)).2.1 j u hj
theorem RK.free {z n g cap : Nat} {w : World} {cs : List Value} (h : RK z w (.slice (some ⟨g, 0, none⟩) n cap) n cs) (j : Nat) (hj : j < n * z) : w.frozen? ⟨g, j, none⟩ = false := by
  rcases h.2 with ⟨h1, _⟩ | ⟨g', cap', h1, h2, h3, h4⟩
  · simp at h1
  · simp only [Value.slice.injEq, Option.some.injEq, Addr.mk.injEq, and_true, true_and] at h1
    obtain ⟨rfl, rfl⟩ := h1
    have : 0 < n := by
      rcases Nat.eq_zero_or_pos n with h | h
      · subst h; simp at hj
      · exact h
    exact ((h4 (by omega)).2.2 j (Nat.lt_of_lt_of_le hj (Nat.mul_le_mul_right _ h2))).2
/-- Where an element stands. -/
theorem RK.at_ {z n : Nat} {w : World} {v : Value} {cs : List Value} (h : RK z w v n cs) (hn : 0 < n) : ∃ g cap, v = .slice (some ⟨g, 0, none⟩) n cap ∧ n ≤ cap ∧ cap ≤ maxLen ∧ g < w.heap.size ∧ blk v = some g := by
  rcases h.2 with ⟨_, rfl⟩ | ⟨g, cap, rfl, h2, h3, h4⟩
  · omega
  · exact ⟨g, cap, rfl, h2, h3, (h4 (by omega)).1, by cases cap with | zero => omega | succ c => rfl⟩
/-- v[:i:i]. -/
theorem RK.cut {z n g cap : Nat} {w : World} {cs : List Value} (h : RK z w (.slice (some ⟨g, 0, none⟩) n cap) n cs) (i : Nat) (hi : i ≤ n) : RK z w (.slice (some ⟨g, 0, none⟩) i i) i (cs.take (i * z)) := by
  refine ⟨by rw [List.length_take, h.1]; exact Nat.min_eq_left (Nat.mul_le_mul_right _ hi), .inr ⟨g, i, rfl, Nat.le_refl _, ?_, fun hc => ?_⟩⟩
  · obtain ⟨_, _, h1, h2, h3⟩ := h.len
    simp only [Value.slice.injEq, true_and] at h1
    omega
  · rcases h.2 with ⟨h1, _⟩ | ⟨g', cap', h1, h2, h3, h4⟩
    · simp at h1
    · simp only [Value.slice.injEq, Option.some.injEq, Addr.mk.injEq, and_true, true_and] at h1
      obtain ⟨rfl, rfl⟩ := h1
      obtain ⟨h5, h6, h7⟩ := h4 (by omega)
      refine ⟨h5, fun j u hu => ?_, fun j hj => h7 j (Nat.lt_of_lt_of_le hj (Nat.mul_le_mul_right _ (by omega)))⟩
      rw [List.getElem?_take] at hu
      split at hu
      · exact h6 j u hu
      · cases hu
theorem RK.of_own {z base n : Nat} {e : TypeId} {w : World} {v : Value} {cs : List Value} (h : w.ownsRow base e z v n cs) : RK z w v n cs := by
  refine ⟨h.1, ?_⟩
  rcases h.2 with h1 | ⟨g, cap, cur, rfl, h2, h3, h4, h5, h6, h7⟩
  · exact .inl h1
  · refine .inr ⟨g, cap, rfl, h4, h5, fun _ => ⟨lt_of_block h3, fun j u hu => ?_, fun j hj => ⟨?_, h.frozenAt j⟩⟩⟩
    · have hj : j < n * z := by
        rcases Nat.lt_or_ge j cs.length with h' | h'
        · rw [h.1] at h'; exact h'
        · simp [List.getElem?_eq_none h'] at hu
      rw [h.cellAt j hj]; exact hu
    · have : j < cur.size := by omega
      simp [World.cell?, h3, this]
theorem blk_own {v : Value} {j : Nat} (h : blk v = some j) : v.ownBlock = some j := by
  unfold blk at h
  split at h
  · simpa [Value.ownBlock] using h
  · cases h
/-- The row of v' is v's, or a new one. -/
def Fresh (w : World) (v v' : Value) : Prop := ∀ k, blk v' = some k → blk v = some k ∨ w.heap.size ≤ k
theorem Fresh.refl (w : World) (v : Value) : Fresh w v v := fun _ h => .inl h
theorem setCells_facts (g : Nat) : ∀ (vs : List Value) (o : Nat) (w : World), (w.setCells g o vs).os = w.os ∧ (w.setCells g o vs).tape = w.tape ∧ (w.setCells g o vs).output = w.output ∧ (w.setCells g o vs).heap.size = w.heap.size ∧ ∀ k, k ≠ g → (w.setCells g o vs).heap[k]? = w.heap[k]?
  | [], _, w => ⟨rfl, rfl, rfl, rfl, fun _ _ => rfl⟩
  | v :: r, o, w => by
    obtain ⟨h1, h2, h3, h4, h5⟩ := setCells_facts g r (o + 1) (w.setCell ⟨g, o, none⟩ v)
    exact ⟨h1, h2, h3, by rw [World.setCells, h4]; simp, fun k hk => by rw [World.setCells, h5 k hk]; exact Below.heap_setCell w ⟨g, o, none⟩ v k hk⟩
/-- append(v, x...), whatever v is, x's cells in memory. -/
theorem run_append_rk {P : Program} {w : World} {v : Value} {z n m : Nat} {cs ks : List Value} (h : RK z w v n cs) (T ty E : TypeId) (i : TypeInfo) (zero : Value) (bytes : Nat) (hT : P.underlying T = some (.slice E)) (hi : P.info? E = some i) (hz : i.zero = some zero) (hsz : i.size = z) (hby : i.bytes = bytes) (hzs : zero.cells.size = z) (hz0 : 0 < z)
    (ad : Addr) (c : Nat) (hkl : ks.length = m * z) (hk : ∀ j u, ks[j]? = some u → w.cell? (ad.add j) = some u) (h1 : ∀ u ∈ ks, u.oneCell' = true) (h63 : n + m ≤ maxLen) (hbytes : (n + m) * bytes ≤ 140737488355328) :
    ∃ v' w', (Builtin.append_ #[T, T] ty #[v, .slice (some ad) m c]).run P w = .ok v' w' ∧ RK z w' v' (n + m) (cs ++ ks) ∧ w.grownBy w' (blk v) ∧ Fresh w v v' := by
  rcases h.2 with ⟨rfl, rfl⟩ | ⟨g, cap, rfl, h2, h3, h4⟩
  · have hcs : cs = [] := List.length_eq_zero_iff.1 (by rw [h.1]; simp)
    subst hcs
    obtain ⟨v', w', hr, ho, hg, _, hb⟩ := run_append_own_at (P := P) w w.heap.size T ty E i zero z bytes hT hi hz hsz hby hzs hz0 (.slice none 0 0) 0 [] (World.ownsRow_nil _ _ _ _) ad m c ks hkl hk h1 h63 hbytes (Nat.le_refl _)
    refine ⟨v', w', hr, RK.of_own ho, hg, fun j hj => .inr ?_⟩
    exact (ho.lt j (blk_own hj)).1
  · by_cases hr : n + m ≤ cap
    · rcases Nat.eq_zero_or_pos cap with hc0 | hc0
      · subst hc0
        obtain ⟨rfl, rfl⟩ : n = 0 ∧ m = 0 := by omega
        have hcs : cs = [] := List.length_eq_zero_iff.1 (by rw [h.1]; simp)
        have hks : ks = [] := List.length_eq_zero_iff.1 (by rw [hkl]; simp)
        subst hcs hks
        have hrun := run_append_room_cells (P := P) w T ty E i hT hi g 0 0 0 ad 0 c [] (by simp) (by simp) (by simp) (by omega) (by simp) (by simp)
        exact ⟨_, _, hrun, h, World.grownBy.refl _ _, Fresh.refl _ _⟩
      · obtain ⟨h5, h6, h7⟩ := h4 hc0
        have hin : ∀ j, j < ks.length → n * z + j < cap * z := fun j hj => by
          rw [hkl] at hj
          have := Nat.mul_le_mul_right z hr
          rw [Nat.add_mul] at this
          omega
        have hrun := run_append_room_cells (P := P) w T ty E i hT hi g 0 n cap ad m c ks (by rw [hsz, hkl]) hk h1 hr (fun j hj => by rw [hsz, Nat.zero_add]; exact (h7 _ (hin j hj)).1) (fun j hj => by rw [hsz, Nat.zero_add]; exact (h7 _ (hin j hj)).2)
        rw [hsz, Nat.zero_add] at hrun
        obtain ⟨f1, f2, f3, f4, f5⟩ := setCells_facts g ks (n * z) w
        have hbk : blk (.slice (some ⟨g, 0, none⟩) n cap) = some g := by cases cap with | zero => omega | succ c => rfl
        have hst := World.cell?_setCells_in g ks (n * z) w (fun j hj => (h7 _ (hin j hj)).1)
        refine ⟨_, _, hrun, ⟨by rw [List.length_append, h.1, hkl, Nat.add_mul], .inr ⟨g, cap, rfl, hr, h3, fun _ => ⟨by rw [f4]; exact h5, fun j u hu => ?_, fun j hj => ?_⟩⟩⟩, ⟨f1, f2, f3, by omega, fun k hk hne => f5 k (fun e => hne (by rw [hbk, e]))⟩, fun k hk => .inl ?_⟩
        · by_cases hj : j < n * z
          · rw [World.cell?_setCells_out g _ _ _ _ (fun _ _ => .inl hj)]
            rw [List.getElem?_append_left (by rw [h.1]; exact hj)] at hu
            exact h6 j u hu
          · obtain ⟨d, rfl⟩ : ∃ d, j = n * z + d := ⟨j - n * z, by omega⟩
            rw [List.getElem?_append_right (by rw [h.1]; omega), h.1, show n * z + d - n * z = d from by omega] at hu
            have hd : d < ks.length := by
              rcases Nat.lt_or_ge d ks.length with h' | h'
              · exact h'
              · simp [List.getElem?_eq_none h'] at hu
            rw [hst d hd, ← hu, List.getElem?_eq_getElem hd]
        · rw [World.frozen?_setCells]
          refine ⟨?_, (h7 j hj).2⟩
          by_cases hj2 : j < n * z ∨ n * z + ks.length ≤ j
          · rw [World.cell?_setCells_out g _ _ _ _ (fun _ _ => hj2)]
            exact (h7 j hj).1
          · obtain ⟨d, rfl⟩ : ∃ d, j = n * z + d := ⟨j - n * z, by omega⟩
            rw [hst d (by omega)]; rfl
        · rw [hbk]
          cases cap with
          | zero => omega
          | succ c => simpa [blk] using hk
    · have holds : ∀ j u, cs[j]? = some u → w.cell? ((⟨g, 0, none⟩ : Addr).add j) = some u := fun j u hu => by
        rw [Addr.add_lit, Nat.zero_add]
        have hl : j < cs.length := by
          rcases Nat.lt_or_ge j cs.length with h' | h'
          · exact h'
          · simp [List.getElem?_eq_none h'] at hu
        rw [h.1] at hl
        have hn : 0 < n := by
          rcases Nat.eq_zero_or_pos n with h' | h'
          · subst h'; simp at hl
          · exact h'
        exact (h4 (by omega)).2.1 j u hu
      obtain ⟨v', w', hrun, ho, hg⟩ := run_append_arg_grows (P := P) w T ty E i zero z bytes hT hi hz hsz hby hzs hz0 ⟨g, 0, none⟩ n cap cs h.1 holds ad m c ks hkl hk (by omega) h63 hbytes
      refine ⟨v', w', hrun, RK.of_own ho, ⟨hg.os, hg.tape, hg.output, hg.size, fun k hk hne => hg.block k hk (by simp)⟩, fun j hj => .inr ?_⟩
      exact (ho.lt j (blk_own hj)).1
/-- The operation append, met by its run. -/
theorem wp_append_of_run {P : Program} {o : Oper} {a : Act} {w : World} {K : Act → World → Prop} {Q : Exit → Act → World → Prop} (s x : Operand) (T : TypeId) (ho : o.op = .call { callee := .builtin .append, args := #[s, x], argTypes := #[T, T] }) (v u v' : Value) (w' : World)
    (hs : a.eval s = v) (hx : a.eval x = u) (hr : (Builtin.append_ #[T, T] o.type #[v, u]).run P w = .ok v' w') (h : K (a.put o.dst v') w') : o.wp P a w K Q := by
  unfold Oper.wp execOp
  simp only [ho, resolve, invoke, builtin, Sem.run_bind, Sem.run_pure, Result.andThen_ok, List.map_toArray, List.map_cons, List.map_nil, hs, hx, hr]
  exact h
/-- .. as a step of a region that draws its order. -/
theorem step_append_of_run {P : Program} {ops : Array Oper} {o : Oper} {a : Act} {w : World} {K : Act → World → Prop} {Q : Exit → Act → World → Prop} {E : Prop} (hgd : o.guard = none) (s x : Operand) (T : TypeId) (ho : o.op = .call { callee := .builtin .append, args := #[s, x], argTypes := #[T, T] }) (v u v' : Value) (w' : World)
    (hs : a.eval s = v) (hx : a.eval x = u) (hr : (Builtin.append_ #[T, T] o.type #[v, u]).run P w = .ok v' w') (h : K (a.put o.dst v') w') : if Region.wanted o (yielded ops a.tmps) = true then Oper.wp P o a w K Q else E := by
  have hw : Region.wanted o (yielded ops a.tmps) = true := by simp [Region.wanted, hgd]
  rw [if_pos hw]
  exact wp_append_of_run s x T ho v u v' w' hs hx hr h
/-- .. by RK's law: in a plain region and in one that draws its order. -/
theorem step_append_rk {P : Program} {w : World} {v : Value} {z n m : Nat} {cs ks : List Value} {ops : Array Oper} {o : Oper} {a : Act} {K : Act → World → Prop} {Q : Exit → Act → World → Prop} {E' : Prop} (hgd : o.guard = none) (s x : Operand) (T : TypeId) (ho : o.op = .call { callee := .builtin .append, args := #[s, x], argTypes := #[T, T] })
    (h : RK z w v n cs) (E : TypeId) (i : TypeInfo) (zero : Value) (bytes : Nat) (hT : P.underlying T = some (.slice E)) (hi : P.info? E = some i) (hz : i.zero = some zero) (hsz : i.size = z) (hby : i.bytes = bytes) (hzs : zero.cells.size = z) (hz0 : 0 < z)
    (ad : Addr) (c : Nat) (hs : a.eval s = v) (hx : a.eval x = .slice (some ad) m c) (hkl : ks.length = m * z) (hk : ∀ j u, ks[j]? = some u → w.cell? (ad.add j) = some u) (h1 : ∀ u ∈ ks, u.oneCell' = true) (h63 : n + m ≤ maxLen) (hbytes : (n + m) * bytes ≤ 140737488355328)
    (hK : ∀ v' w', RK z w' v' (n + m) (cs ++ ks) → w.grownBy w' (blk v) → Fresh w v v' → K (a.put o.dst v') w') : if Region.wanted o (yielded ops a.tmps) = true then Oper.wp P o a w K Q else E' := by
  obtain ⟨v', w', hr, k1, k2, k3⟩ := run_append_rk h T o.type E i zero bytes hT hi hz hsz hby hzs hz0 ad c hkl hk h1 h63 hbytes
  exact step_append_of_run hgd s x T ho v _ v' w' hs hx hr (hK v' w' k1 k2 k3)
theorem wpList_append_rk {P : Program} {w : World} {v : Value} {z n m : Nat} {cs ks : List Value} {ops : Array Oper} {rest : List Oper} {o : Oper} {a : Act} {Q : Exit → Act → World → Prop} (hgd : o.guard = none) (s x : Operand) (T : TypeId) (ho : o.op = .call { callee := .builtin .append, args := #[s, x], argTypes := #[T, T] })
    (h : RK z w v n cs) (E : TypeId) (i : TypeInfo) (zero : Value) (bytes : Nat) (hT : P.underlying T = some (.slice E)) (hi : P.info? E = some i) (hz : i.zero = some zero) (hsz : i.size = z) (hby : i.bytes = bytes) (hzs : zero.cells.size = z) (hz0 : 0 < z)
    (ad : Addr) (c : Nat) (hs : a.eval s = v) (hx : a.eval x = .slice (some ad) m c) (hkl : ks.length = m * z) (hk : ∀ j u, ks[j]? = some u → w.cell? (ad.add j) = some u) (h1 : ∀ u ∈ ks, u.oneCell' = true) (h63 : n + m ≤ maxLen) (hbytes : (n + m) * bytes ≤ 140737488355328)
    (hK : ∀ v' w', RK z w' v' (n + m) (cs ++ ks) → w.grownBy w' (blk v) → Fresh w v v' → wpList P ops Q rest (a.put o.dst v') w') : wpList P ops Q (o :: rest) a w := by
  refine wpList_plain hgd fun K' hK' => ?_
  obtain ⟨v', w', hr, k1, k2, k3⟩ := run_append_rk h T o.type E i zero bytes hT hi hz hsz hby hzs hz0 ad c hkl hk h1 h63 hbytes
  exact wp_append_of_run s x T ho v _ v' w' hs hx hr (hK' _ _ (hK v' w' k1 k2 k3))
theorem grown_trans' {w w1 w2 : World} {row : Option Nat} (h : w.grownBy w1 row) (h1 : w1.grownBy w2 row) : w.grownBy w2 row :=
  ⟨h1.os.trans h.os, h1.tape.trans h.tape, h1.output.trans h.output, Nat.le_trans h.size h1.size, fun k hk hne => by rw [h1.block k (Nat.lt_of_lt_of_le hk h.size) hne, h.block k hk hne]⟩
theorem grown_drew (w : World) (row : Option Nat) : w.grownBy w.drew row := ⟨rfl, rfl, rfl, Nat.le_refl _, fun _ _ _ => rfl⟩
theorem grown_set (w : World) (g j : Nat) (v : Value) : w.grownBy (w.setCell ⟨g, j, none⟩ v) (some g) :=
  ⟨rfl, rfl, rfl, by simp, fun k _ hne => Below.heap_setCell w ⟨g, j, none⟩ v k (fun e => hne (by rw [e]))⟩
theorem ret_bool {a b : Bool} (h : a = b) : Ending.returned (.bool a) = .returned (.bool b) := by rw [h]
end Go.Proofs.Ytimfchjjdifbiaa
