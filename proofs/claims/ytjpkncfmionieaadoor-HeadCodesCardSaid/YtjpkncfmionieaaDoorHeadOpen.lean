/- Heads that come in, as data that can be read. -/
import Derived.Test.YtjpkncfmionieaaDoorHeadAwake
namespace Go.Proofs.YtjpkncfmionieaaDoor
open Go.RowKit Go.ChangeShapes Go.WideShapes Go.Deep
set_option linter.unusedVariables false

set_option maxRecDepth 100000 in
theorem ints_open {H : Type} {enc : TypeId × Value → H} {w : World} {base : Nat} {spare : Nat → Bool} {held : Bool} {fuel : Nat} {c : Value} {x : DataW H × List MemPlace} (h : DataW.trod enc Tryd.prog w base spare held fuel 22 [c] = some x) :
    ∃ (ko : Option Addr) (kl kc : Nat) (kf : Nat → Int), c = .slice ko kl kc ∧ kl ≤ maxLen ∧ ((ko = none ∧ kl = 0 ∧ kc = 0) ∨ ∃ a, ko = some a) ∧ IntsAt w ko kl kf ∧ ∀ j, j < kl → i64 (kf j) := by
  rcases open_slice Tryd.underlying22 h with ⟨h0, _⟩ | ⟨a, len, cap, m, n, D, Pl, hcs, _, hlc, hcm, hm, _, hi⟩
  · exact ⟨none, 0, 0, fun _ => 0, by simpa using h0, by decide, .inl ⟨rfl, rfl, rfl⟩, fun W _ i hi => absurd hi (Nat.not_lt_zero i), fun i hi => absurd hi (Nat.not_lt_zero i)⟩
  · have hk : Tryd.prog.cellsOf 3 = 1 := by kernel_rfl
    have hex : ∀ i, ∃ q : Int, i < len → w.cell? (a.add i) = some (.int .i64 q) ∧ i64 q := fun i => by
      by_cases hl : i < len
      · obtain ⟨cs', h1, h2⟩ := hi i (by rw [hm]; split <;> omega)
        rw [hk] at h1
        obtain ⟨_, hcl, hat⟩ := World.cells?_some h1
        match cs', hcl with
        | [z], _ =>
          obtain ⟨n0, r0, _, w0⟩ := DataW.trod_int Tryd.underlying3 h2
          simp only [List.cons.injEq, and_true] at r0
          subst r0
          refine ⟨n0, fun _ => ⟨?_, wf_i64 w0⟩⟩
          have := hat 0 (by decide)
          rw [add_mul_one] at this
          exact this
      · exact ⟨0, fun h => absurd h hl⟩
    obtain ⟨kf, hf⟩ := Classical.axiomOfChoice hex
    exact ⟨some a, len, cap, kf, by simpa using hcs, by omega, .inr ⟨_, rfl⟩, fun W hW i hi => ⟨a, rfl, cell_below (hf i hi).1 hW⟩, fun i hi => (hf i hi).2⟩
/-- A head that came in. -/
structure HdIn (w : World) (q : HdV) : Prop where
  ok : q.ok
  nil : (q.lo = none ∧ q.ll = 0 ∧ q.lc = 0) ∨ ∃ a, q.lo = some a
  row : IntsAt w q.lo q.ll q.lf
theorem HdIn.below {w W : World} {q : HdV} (h : HdIn w q) (hb : Below w.heap.size w W) : HdIn W q := ⟨h.ok, h.nil, h.row.below hb⟩
theorem HdIn.at' {w : World} {q : HdV} (h : HdIn w q) (hl : q.ll ≤ 100) : HdAt w q := ⟨by unfold maxLen; omega, by omega, h.nil, h.row⟩
set_option maxRecDepth 100000 in
theorem head_open {H : Type} {enc : TypeId × Value → H} {w : World} {base : Nat} {spare : Nat → Bool} {held : Bool} {c0 c1 c2 c3 : Value} {x : DataW H × List MemPlace} {fuel : Nat}
    (h : DataW.trod enc Tryd.prog w base spare held fuel 24 [c0, c1, c2, c3] = some x) : ∃ q : HdV, Value.agg #[c0, c1, c2, c3] = q.v ∧ HdIn w q := by
  obtain ⟨xs, n, _, _, _, hxl, hf⟩ := DataW.trod_struct Tryd.underlying24 h
  have g0 := hf 0 _ rfl
  have g1 := hf 1 _ rfl
  have g2 := hf 2 _ rfl
  have g3 := hf 3 _ rfl
  have k_int : Tryd.prog.cellsOf 3 = 1 := by kernel_rfl
  have k_i64 : Tryd.prog.cellsOf 2 = 1 := by kernel_rfl
  have k_ints : Tryd.prog.cellsOf 22 = 1 := by kernel_rfl
  match xs, hxl with
  | [y0, y1, y2, y3], _ =>
    have e0 : DataW.trod enc Tryd.prog w base spare held n 2 [c0] = some y0 := by simpa [k_int, k_i64, k_ints] using g0
    have e1 : DataW.trod enc Tryd.prog w base spare held n 2 [c1] = some y1 := by simpa [k_int, k_i64, k_ints] using g1
    have e2 : DataW.trod enc Tryd.prog w base spare held n 3 [c2] = some y2 := by simpa [k_int, k_i64, k_ints] using g2
    have e3 : DataW.trod enc Tryd.prog w base spare held n 22 [c3] = some y3 := by simpa [k_int, k_i64, k_ints] using g3
    obtain ⟨n0, r0, _, w0⟩ := DataW.trod_int Tryd.underlying2 e0
    obtain ⟨n1, r1, _, w1⟩ := DataW.trod_int Tryd.underlying2 e1
    obtain ⟨n2, r2, _, w2⟩ := DataW.trod_int Tryd.underlying3 e2
    obtain ⟨ko, kl, kc, kf, r3, hkl, hs, hk, h64⟩ := ints_open e3
    simp only [List.cons.injEq, and_true] at r0 r1 r2
    subst r0 r1 r2 r3
    exact ⟨⟨n0, n1, n2, ko, kl, kc, kf⟩, rfl, ⟨wf_i64 w0, wf_i64 w1, wf_i64 w2, hkl, h64⟩, hs, hk⟩
set_option maxRecDepth 100000 in
theorem head_param {H : Type} {enc : TypeId × Value → H} {w : World} {b : Nat} {v : Value} {d : DataW H} {ps : List MemPlace} (hv : Value.okWide Tryd.prog w .any b 24 v) (hV : DataW.Trod enc Tryd.prog w 0 (fun _ => true) true 24 v d ps) : ∃ q : HdV, v = q.v ∧ HdIn w q := by
  obtain ⟨cs, rfl, hcs⟩ := Go.WideShapes.okWide_struct Tryd.underlying24 hv
  have h4 : cs.size = 4 := hcs.trans (by kernel_rfl)
  obtain ⟨c0, c1, c2, c3, rfl⟩ : ∃ c0 c1 c2 c3, cs = #[c0, c1, c2, c3] := by
    obtain ⟨l⟩ := cs
    match l, h4 with
    | [x0, x1, x2, x3], _ => exact ⟨x0, x1, x2, x3, rfl⟩
  obtain ⟨fuel, hV⟩ := hV
  exact head_open (show DataW.trod enc Tryd.prog w 0 (fun _ => true) true fuel 24 [c0, c1, c2, c3] = some (d, ps) from hV)
end Go.Proofs.YtjpkncfmionieaaDoor
