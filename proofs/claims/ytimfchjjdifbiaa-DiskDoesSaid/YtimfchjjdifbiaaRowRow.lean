/- append(v, u...): a row onto a row, nil or not. -/
import Derived.Test.YtimfchjjdifbiaaRow
import Derived.Laws.OwnMore
namespace Go.Proofs.Ytimfchjjdifbiaa
open Go.RowKit
set_option linter.unusedVariables false

theorem run_append_rk_nil {P : Program} {w : World} {v : Value} {z n : Nat} {cs : List Value} (h : RK z w v n cs) (T ty E : TypeId) (i : TypeInfo) (hT : P.underlying T = some (.slice E)) (hi : P.info? E = some i) :
    (Builtin.append_ #[T, T] ty #[v, .slice none 0 0]).run P w = .ok v w := by
  rcases h.2 with ⟨rfl, rfl⟩ | ⟨g, cap, rfl, hnc, _⟩
  · simp [Builtin.append_, run_underlying hT, sizeOf, typeInfo, hi, Builtin.lenOf, Builtin.firstCells]
  · simp [Builtin.append_, run_underlying hT, sizeOf, typeInfo, hi, Builtin.lenOf, Builtin.firstCells, hnc, storeCells]
theorem run_append_rks {P : Program} {w : World} {v u : Value} {z n m : Nat} {cs ks : List Value} (h : RK z w v n cs) (hu : RK z w u m ks) (T ty E : TypeId) (i : TypeInfo) (zero : Value) (bytes : Nat) (hT : P.underlying T = some (.slice E)) (hi : P.info? E = some i) (hz : i.zero = some zero) (hsz : i.size = z) (hby : i.bytes = bytes) (hzs : zero.cells.size = z) (hz0 : 0 < z)
    (h1 : ∀ u ∈ ks, u.oneCell' = true) (h63 : n + m ≤ maxLen) (hbytes : (n + m) * bytes ≤ 140737488355328) :
    ∃ v' w', (Builtin.append_ #[T, T] ty #[v, u]).run P w = .ok v' w' ∧ RK z w' v' (n + m) (cs ++ ks) ∧ w.grownBy w' (blk v) ∧ Fresh w v v' := by
  rcases hu.2 with ⟨rfl, rfl⟩ | ⟨g, cap, rfl, hnc, hcm, hc⟩
  · have hks : ks = [] := List.length_eq_zero_iff.1 (by rw [hu.1]; simp)
    subst hks
    exact ⟨v, w, run_append_rk_nil h T ty E i hT hi, by simpa using h, World.grownBy.refl _ _, Fresh.refl _ _⟩
  · refine run_append_rk h T ty E i zero bytes hT hi hz hsz hby hzs hz0 ⟨g, 0, none⟩ cap hu.1 (fun j x hx => ?_) h1 h63 hbytes
    rw [Addr.add_lit, Nat.zero_add]
    exact hu.cell j x hx
theorem step_append_rks {P : Program} {w : World} {v u : Value} {z n m : Nat} {cs ks : List Value} {ops : Array Oper} {o : Oper} {a : Act} {K : Act → World → Prop} {Q : Exit → Act → World → Prop} {E' : Prop} (hgd : o.guard = none) (s x : Operand) (T : TypeId) (ho : o.op = .call { callee := .builtin .append, args := #[s, x], argTypes := #[T, T] })
    (h : RK z w v n cs) (hu : RK z w u m ks) (E : TypeId) (i : TypeInfo) (zero : Value) (bytes : Nat) (hT : P.underlying T = some (.slice E)) (hi : P.info? E = some i) (hz : i.zero = some zero) (hsz : i.size = z) (hby : i.bytes = bytes) (hzs : zero.cells.size = z) (hz0 : 0 < z)
    (hs : a.eval s = v) (hx : a.eval x = u) (h1 : ∀ u ∈ ks, u.oneCell' = true) (h63 : n + m ≤ maxLen) (hbytes : (n + m) * bytes ≤ 140737488355328)
    (hK : ∀ v' w', RK z w' v' (n + m) (cs ++ ks) → w.grownBy w' (blk v) → Fresh w v v' → K (a.put o.dst v') w') : if Region.wanted o (yielded ops a.tmps) = true then Oper.wp P o a w K Q else E' := by
  obtain ⟨v', w', hr, k1, k2, k3⟩ := run_append_rks h hu T o.type E i zero bytes hT hi hz hsz hby hzs hz0 h1 h63 hbytes
  exact step_append_of_run hgd s x T ho v _ v' w' hs hx hr (hK v' w' k1 k2 k3)
theorem wpList_append_rks {P : Program} {w : World} {v u : Value} {z n m : Nat} {cs ks : List Value} {ops : Array Oper} {rest : List Oper} {o : Oper} {a : Act} {Q : Exit → Act → World → Prop} (hgd : o.guard = none) (s x : Operand) (T : TypeId) (ho : o.op = .call { callee := .builtin .append, args := #[s, x], argTypes := #[T, T] })
    (h : RK z w v n cs) (hu : RK z w u m ks) (E : TypeId) (i : TypeInfo) (zero : Value) (bytes : Nat) (hT : P.underlying T = some (.slice E)) (hi : P.info? E = some i) (hz : i.zero = some zero) (hsz : i.size = z) (hby : i.bytes = bytes) (hzs : zero.cells.size = z) (hz0 : 0 < z)
    (hs : a.eval s = v) (hx : a.eval x = u) (h1 : ∀ u ∈ ks, u.oneCell' = true) (h63 : n + m ≤ maxLen) (hbytes : (n + m) * bytes ≤ 140737488355328)
    (hK : ∀ v' w', RK z w' v' (n + m) (cs ++ ks) → w.grownBy w' (blk v) → Fresh w v v' → wpList P ops Q rest (a.put o.dst v') w') : wpList P ops Q (o :: rest) a w := by
  refine wpList_plain hgd fun K hK' => ?_
  obtain ⟨v', w', hr, k1, k2, k3⟩ := run_append_rks h hu T o.type E i zero bytes hT hi hz hsz hby hzs hz0 h1 h63 hbytes
  exact wp_append_of_run s x T ho v _ v' w' hs hx hr (hK' _ _ (hK v' w' k1 k2 k3))
/-- .. with what is made as a slice, its length and its cells as they are wanted. -/
theorem wpList_append_sl {P : Program} {w : World} {v u : Value} {z n m : Nat} {cs ks : List Value} {ops : Array Oper} {rest : List Oper} {o : Oper} {a : Act} {Q : Exit → Act → World → Prop} (hgd : o.guard = none) (s x : Operand) (T : TypeId) (ho : o.op = .call { callee := .builtin .append, args := #[s, x], argTypes := #[T, T] })
    (h : RK z w v n cs) (hu : RK z w u m ks) (E : TypeId) (i : TypeInfo) (zero : Value) (bytes : Nat) (hT : P.underlying T = some (.slice E)) (hi : P.info? E = some i) (hz : i.zero = some zero) (hsz : i.size = z) (hby : i.bytes = bytes) (hzs : zero.cells.size = z) (hz0 : 0 < z)
    (hs : a.eval s = v) (hx : a.eval x = u) (h1 : ∀ u ∈ ks, u.oneCell' = true) (h63 : n + m ≤ maxLen) (hbytes : (n + m) * bytes ≤ 140737488355328) (p : Nat) (ls : List Value) (hp : n + m = p) (hl : cs ++ ks = ls)
    (hK : ∀ ao cap w', RK z w' (.slice ao p cap) p ls → w.grownBy w' (blk v) → Fresh w v (.slice ao p cap) → wpList P ops Q rest (a.put o.dst (.slice ao p cap)) w') : wpList P ops Q (o :: rest) a w := by
  subst hp hl
  refine wpList_append_rks hgd s x T ho h hu E i zero bytes hT hi hz hsz hby hzs hz0 hs hx h1 h63 hbytes fun v' w' r1 g1 f1 => ?_
  obtain ⟨ao, cap, rfl, _, _⟩ := r1.len
  exact hK ao cap w' r1 g1 f1
theorem step_append_sl {P : Program} {w : World} {v u : Value} {z n m : Nat} {cs ks : List Value} {ops : Array Oper} {o : Oper} {a : Act} {K : Act → World → Prop} {Q : Exit → Act → World → Prop} {E' : Prop} (hgd : o.guard = none) (s x : Operand) (T : TypeId) (ho : o.op = .call { callee := .builtin .append, args := #[s, x], argTypes := #[T, T] })
    (h : RK z w v n cs) (hu : RK z w u m ks) (E : TypeId) (i : TypeInfo) (zero : Value) (bytes : Nat) (hT : P.underlying T = some (.slice E)) (hi : P.info? E = some i) (hz : i.zero = some zero) (hsz : i.size = z) (hby : i.bytes = bytes) (hzs : zero.cells.size = z) (hz0 : 0 < z)
    (hs : a.eval s = v) (hx : a.eval x = u) (h1 : ∀ u ∈ ks, u.oneCell' = true) (h63 : n + m ≤ maxLen) (hbytes : (n + m) * bytes ≤ 140737488355328) (p : Nat) (ls : List Value) (hp : n + m = p) (hl : cs ++ ks = ls)
    (hK : ∀ ao cap w', RK z w' (.slice ao p cap) p ls → w.grownBy w' (blk v) → Fresh w v (.slice ao p cap) → K (a.put o.dst (.slice ao p cap)) w') : if Region.wanted o (yielded ops a.tmps) = true then Oper.wp P o a w K Q else E' := by
  subst hp hl
  refine step_append_rks hgd s x T ho h hu E i zero bytes hT hi hz hsz hby hzs hz0 hs hx h1 h63 hbytes fun v' w' r1 g1 f1 => ?_
  obtain ⟨ao, cap, rfl, _, _⟩ := r1.len
  exact hK ao cap w' r1 g1 f1
end Go.Proofs.Ytimfchjjdifbiaa
