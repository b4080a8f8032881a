/- The walk of DiskApart: it returns true, and leaves what was there. -/
import Derived.Test.YtinjagebogifpaaApartCore
namespace Go.Proofs.Ytinjagebogifpaa
open Go.RowKit Go.ChangeShapes Go.WideShapes
set_option linter.unusedVariables false

theorem walkDiskApart {H : Type} {enc : TypeId × Value → H} {b0 b1 b2 : Nat} {d e e2 : DataW H} {ps qs qs2 : List MemPlace} {ts : List TypeId} {ds : List (DataW H)} (w : World) (c : Int) (hc : (Lit.int .i64 c).wf = true) (u : Value) (hu : Value.okWide Try.prog w .any b0 22 u) (hU : DataW.Trod enc Try.prog w 0 (fun _ => true) true 22 u d ps)
    (v : Value) (hv : Value.okWide Try.prog w .any b1 23 v) (hV : DataW.Trod enc Try.prog w 0 (fun _ => true) true 23 v e qs) (k : Value) (hk : Value.okWide Try.prog w .any b2 33 k) (hK : DataW.Trod enc Try.prog w 0 (fun _ => true) true 33 k e2 qs2)
    (hweigh : (DataW.weightsEach Try.prog ts ds).all (· ≤ reachBytes) = true) (ht : ts[2]? = some 23 := by rfl) (hd : ds[2]? = some e := by rfl) :
    Calls Try.prog 4 #[.int .i64 c, u, v, k] w fun e w' => e = .returned (.bool true) ∧ Below w.heap.size w w' := by
  obtain ⟨_, _, _, hu'⟩ := Go.WideShapes.okWide_slice Try.underlying22 hu
  obtain ⟨_, _, _, hv'⟩ := Go.WideShapes.okWide_slice Try.underlying23 hv
  have hsh := acts_shape (by rw [hv']; rfl) hV
  obtain ⟨bo, lb, cb, g, rfl, hlb, hg⟩ := tapes_open (by rw [hu']; rfl) hU
  obtain ⟨ao, len, cap, f, rfl, hl, hf⟩ := acts_open (by rw [hv']; rfl) hV
  obtain ⟨cs, rfl, hcs⟩ := Go.WideShapes.okWide_struct Try.underlying33 hk
  have h5 : cs.size = 5 := hcs.trans (by kernel_rfl)
  obtain ⟨c0, c1, c2, c3, c4, rfl⟩ : ∃ c0 c1 c2 c3 c4, cs = #[c0, c1, c2, c3, c4] := by
    obtain ⟨l⟩ := cs
    match l, h5 with
    | [x0, x1, x2, x3, x4], _ => exact ⟨x0, x1, x2, x3, x4, rfl⟩
  obtain ⟨fuel, hK⟩ := hK
  obtain ⟨q, hq, hqv, hqk⟩ := act_open (show DataW.trod enc Try.prog w 0 (fun _ => true) true fuel 33 [c0, c1, c2, c3, c4] = some (e2, qs2) from hK)
  rw [hqv]
  have hrb : reachBytes = 140737488351232 := by decide
  have hlen : len * 64 ≤ reachBytes ∧ ((ao = none ∧ len = 0 ∧ cap = 0) ∨ ∃ a, ao = some a) := by
    rcases hsh with h | ⟨a, len', cap', elems, sp, h, rfl, hel⟩
    · simp only [Value.slice.injEq] at h
      obtain ⟨rfl, rfl, rfl⟩ := h
      exact ⟨by omega, .inl ⟨rfl, rfl, rfl⟩⟩
    · simp only [Value.slice.injEq] at h
      obtain ⟨rfl, rfl, rfl⟩ := h
      have := sized_slice hweigh ht hd Try.underlying23
      rw [bytesAct, hel] at this
      exact ⟨by omega, .inr ⟨_, rfl⟩⟩
  obtain ⟨h64, hs⟩ := hlen
  have hl1 : len + 1 ≤ maxLen := by unfold maxLen; omega
  have h47 : (len + 1) * 64 ≤ 140737488355328 := by omega
  by_cases h0 : costA (more f len q) (len + 1) + costT g lb < 20000
  · by_cases h1 : len ≤ 200
    · exact apart_core w c bo lb cb g ao len cap f q hlb hl1 h47 hg hf hs hq hqk h0 h1 (wf_i64 hc).2
    · exact apart_big1 w c bo lb cb g ao len cap f q hlb hl1 h47 hg hf hs hq hqk h0 (by omega)
  · exact apart_big0 w c bo lb cb g ao len cap f q hlb hl1 h47 hg hf hs hq hqk (by omega)
end Go.Proofs.Ytinjagebogifpaa
