/- net's Count. -/
import Derived.Test.YtdhpnhdokkhnlaaNetLaw
namespace Go.Proofs.Ytdhpnhdokkhnlaa
open Go.RowKit
set_option linter.unusedVariables false

set_option maxRecDepth 20000 in
theorem Count_any (g : Nat) (v : Value) (N : NetV) (w : World) (h : NetAt w g v N) :
    Calls Try.prog 19 #[.pointer (some ⟨g, 0, none⟩)] w fun e w' => e = .returned (.agg #[.int .i64 N.sent, .int .i64 N.doubled, .int .i64 N.taken, .int .i64 N.lost]) ∧ Below w.heap.size w w' := by
  have k0 : ∀ o, (w.alloc o).cell? ⟨g, 0, none⟩ = some (.int .i64 N.sent) := fun o => (h.alloc o).c0
  have k1 : ∀ o, (w.alloc o).cell? ⟨g, 1, none⟩ = some (.int .i64 N.doubled) := fun o => (h.alloc o).c1
  have k2 : ∀ o, (w.alloc o).cell? ⟨g, 2, none⟩ = some (.int .i64 N.taken) := fun o => (h.alloc o).c2
  have k3 : ∀ o, (w.alloc o).cell? ⟨g, 3, none⟩ = some (.int .i64 N.lost) := fun o => (h.alloc o).c3
  have hg := h.lt
  clear h
  go_enter Try.func19, Try.ntmps19
  go_wp2
  refine bodyPost_ret (v := .agg #[.int .i64 N.sent, .int .i64 N.doubled, .int .i64 N.taken, .int .i64 N.lost]) (by simp [results, Try.results19, go_sem]) rfl ⟨rfl, (Below.refl _ _).alloc (Nat.le_refl _) _⟩
end Go.Proofs.Ytdhpnhdokkhnlaa
