/- A net and a map of letters beside it, through the acts. -/
import Derived.Test.YtdhpnhdokkhnlaaLetter
import Derived.Test.YtdhpnhdokkhnlaaNetCount
namespace Go.Proofs.Ytdhpnhdokkhnlaa
open Go.RowKit Go.Maps
set_option linter.unusedVariables false

structure TkS (w0 : World) (g B : Nat) (W : World) (v : Value) (N : NetV) (c : Lit → Nat) (m : Nat) : Prop where
  net : NetAt W g v N
  sm : Sm N m
  fine : Fine N
  own : ∃ n D, Own W B n D ∧ n ≤ m ∧ Bal D c
  ne : g ≠ B
  nb : blk v ≠ some B
  below : Below w0.heap.size w0 W
  newv : ∀ k, blk v = some k → w0.heap.size ≤ k
  newg : w0.heap.size ≤ g
  newB : w0.heap.size ≤ B
variable {w0 W W' : World} {g B m : Nat} {v : Value} {N : NetV} {c : Lit → Nat}
theorem Own.lt {n : Nat} {D : DataW Unit} (h : Own W B n D) : B < W.heap.size := World.ownsMap.lt h
theorem TkS.stay (h : TkS w0 g B W v N c m) (hb : Below W.heap.size W W') : TkS w0 g B W' v N c m := by
  obtain ⟨n, D, h1, h2, h3⟩ := h.own
  exact ⟨h.net.below hb, h.sm, h.fine, ⟨n, D, h1.same (hb.block B h1.lt), h2, h3⟩, h.ne, h.nb, h.below.trans (hb.mono h.below.size), h.newv, h.newg, h.newB⟩
theorem TkS.drew (h : TkS w0 g B W v N c m) : TkS w0 g B W.drew v N c m := by
  obtain ⟨n, D, h1, h2, h3⟩ := h.own
  exact ⟨h.net.drew, h.sm, h.fine, ⟨n, D, h1, h2, h3⟩, h.ne, h.nb, h.below.drew, h.newv, h.newg, h.newB⟩
theorem TkS.up (h : TkS w0 g B W v N c m) {m' : Nat} (hm : m ≤ m') : TkS w0 g B W v N c m' := by
  obtain ⟨n, D, h1, h2, h3⟩ := h.own
  exact ⟨h.net, h.sm.mono (by omega), h.fine, ⟨n, D, h1, by omega, h3⟩, h.ne, h.nb, h.below, h.newv, h.newg, h.newB⟩
theorem TkS.net' (h : TkS w0 g B W v N c m) {v' : Value} {M : NetV} (hn : NetAt W' g v' M) (hu : Upd W W' g v v') (hs : Sm M (m + 1 : Nat)) (hf : Fine M) : TkS w0 g B W' v' M c (m + 1) := by
  obtain ⟨n, D, h1, h2, h3⟩ := h.own
  obtain ⟨hb, hv⟩ := hu.below h.below h.below.size h.newg h.newv
  refine ⟨hn, hs, hf, ⟨n, D, h1.same (hu.keep h1.lt (fun e => h.ne e.symm) h.nb), by omega, h3⟩, h.ne, fun e => ?_, hb, hv, h.newg, h.newB⟩
  rcases hu.2.2.2.2.2 B e with h4 | h4
  · exact h.nb h4
  · have := h1.lt; omega
/-- A block that stands beside them. -/
structure Bx (g B : Nat) (W : World) (v : Value) (b : Nat) (o : Obj) : Prop where
  at_ : W.heap[b]? = some o
  ng : b ≠ g
  nB : b ≠ B
  nv : blk v ≠ some b
variable {b : Nat} {o : Obj}
theorem Bx.new (h : TkS w0 g B W v N c m) (o : Obj) : Bx g B (W.alloc o) v W.heap.size o := by
  obtain ⟨n, D, h1, _⟩ := h.own
  have h2 := h.net.lt
  have h3 := h1.lt
  exact ⟨heap_alloc_new W o, by omega, by omega, fun e => by have := h.net.2.1.lt _ e; omega⟩
theorem Bx.stay (h : Bx g B W v b o) (hb : Below W.heap.size W W') : Bx g B W' v b o := ⟨(hb.block b (lt_of_block' h.at_)).trans h.at_, h.ng, h.nB, h.nv⟩
theorem Bx.drew (h : Bx g B W v b o) : Bx g B W.drew v b o := ⟨h.at_, h.ng, h.nB, h.nv⟩
theorem Bx.upd (h : Bx g B W v b o) {v' : Value} (hu : Upd W W' g v v') : Bx g B W' v' b o := by
  obtain ⟨h1, h2⟩ := blk_upd h.at_ hu h.ng h.nv
  exact ⟨h1, h.ng, h.nB, h2⟩
theorem Bx.map (h : Bx g B W v b o) (hg : W.grownBy W' (some B)) : Bx g B W' v b o := ⟨(hg.block b (lt_of_block' h.at_) (fun e => h.nB (Option.some.inj e))).trans h.at_, h.ng, h.nB, h.nv⟩
/-- A slice that stands beside them. -/
def Ap (g B : Nat) (v u : Value) : Prop := ∀ k, blk u = some k → (k ≠ g ∧ blk v ≠ some k) ∧ k ≠ B
theorem Ap.new (h : TkS w0 g B W v N c m) {u : Value} (hf : ∀ k, blk u = some k → W.heap.size ≤ k) : Ap g B v u := fun k hk => by
  obtain ⟨n, D, h1, _⟩ := h.own
  have h2 := h.net.lt
  have h3 := h1.lt
  have h4 := hf k hk
  exact ⟨⟨by omega, fun e => by have := h.net.2.1.lt _ e; omega⟩, by omega⟩
theorem Ap.upd {u v' : Value} {z n : Nat} {cs : List Value} (h : Ap g B v u) (hr : RK z W u n cs) (hu : Upd W W' g v v') : RK z W' u n cs ∧ Ap g B v' u := by
  obtain ⟨h1, h2⟩ := hr.upd hu (fun k hk => (h k hk).1)
  exact ⟨h1, fun k hk => ⟨h2 k hk, (h k hk).2⟩⟩
theorem Ap.map {u : Value} {z n : Nat} {cs : List Value} (h : Ap g B v u) (hr : RK z W u n cs) (hg : W.grownBy W' (some B)) : RK z W' u n cs :=
  hr.kept hg (fun k hk e => (h k hk).2 (Option.some.inj e).symm)
/-- A number of the map, turned. -/
theorem TkS.step (h : TkS w0 g B W v N c m) (hm : m < 1000000) {c' : Lit → Nat} {key : Value} {kl : Lit} (hkey : keyOf Try.prog 40 key = some kl) (ho : ∀ k', k' ≠ kl → c' k' = c k') (hc : c' kl < 1000000) :
    ∃ (st : Value) (v0 : Value) (W1 W2 : World), (Instr.lookup 49 (.map (some B)) key false).run Try.prog W = .ok (.int .i64 (c kl : Nat)) W ∧
      (Instr.mapEntry 49 (.map (some B)) key).run Try.prog W = .ok (.tuple #[v0, st]) W1 ∧
      (Instr.lookup 49 (.map (some B)) key false).run Try.prog W1 = .ok (.int .i64 (c kl : Nat)) W1 ∧
      (Instr.entryStore 49 (.map (some B)) st (.int .i64 (c' kl : Nat))).run Try.prog W1 = .ok () W2 ∧ TkS w0 g B W2 v N c' (m + 1) ∧ W.grownBy W2 (some B) := by
  obtain ⟨n, D, h1, h2, h3⟩ := h.own
  obtain ⟨st, v0, W1, W2, D2, e1, e2, e3, e4, h4, h5, h6⟩ := map_step h1 (by unfold maxLen; omega) h3 hkey ho hc
  refine ⟨st, v0, W1, W2, e1, e2, e3, e4, ⟨?_, h.sm.mono (by omega), h.fine, ⟨n + 1, D2, h4, by omega, h5⟩, h.ne, h.nb, h.below.grown h6 h.below.size (fun k e => by have := Option.some.inj e; have := h.newB; omega), h.newv, h.newg, h.newB⟩, h6⟩
  exact h.net.same h6.size (h6.block g h.net.lt (fun e => h.ne (Option.some.inj e))) (fun k hk => h6.block k (h.net.2.1.lt k hk) (fun e => h.nb (by rw [hk, e])))
theorem TkS.look (h : TkS w0 g B W v N c m) {key : Value} {kl : Lit} (hkey : keyOf Try.prog 40 key = some kl) :
    (Instr.lookup 49 (.map (some B)) key false).run Try.prog W = .ok (.int .i64 (c kl : Nat)) W := by
  obtain ⟨n, D, h1, h2, h3⟩ := h.own
  exact run_look h1 h3 hkey
end Go.Proofs.Ytdhpnhdokkhnlaa
