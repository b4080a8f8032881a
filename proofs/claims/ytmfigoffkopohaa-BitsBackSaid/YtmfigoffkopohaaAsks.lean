/- A row of Asks that came in: its cells. -/
import Derived.Test.YtmfigoffkopohaaLawAsk
import Derived.Deep.Slices
import Derived.Deep.Fields
import Derived.ChangeSame
namespace Go.Proofs.Ytmfigoffkopohaa
open Go.RowKit Go.ChangeShapes Go.WideShapes Go.Deep
set_option linter.unusedVariables false

theorem wf_u8 {n : Int} (h : (Lit.int .u8 n).wf = true) : ∃ k : Nat, n = k ∧ k < 256 := by
  have h' : 0 ≤ n ∧ n < 256 := by
    simp [Lit.wf, IntKind.min, IntKind.max, IntKind.signed, IntKind.bits] at h
    omega
  exact ⟨n.toNat, by omega, by omega⟩
/-- An Ask lies at a place. -/
def AskAt (w : World) (a : Addr) (q : AskV) : Prop := w.cell? (a.add 0) = some (.int .u8 q.what) ∧ w.cell? (a.add 1) = some (.int .u64 q.n) ∧ w.cell? (a.add 2) = some (.int .i64 q.a) ∧ w.cell? (a.add 3) = some (.int .i64 q.b)
theorem ask_cells {H : Type} {enc : TypeId × Value → H} {w : World} {base : Nat} {spare : Nat → Bool} {held : Bool} {fuel : Nat} {a : Addr} {cs : List Value} {x : DataW H × List MemPlace}
    (hc : w.cells? base a 4 = some cs) (h : DataW.trod enc Try.prog w base spare held fuel 70 cs = some x) : ∃ q : AskV, q.ok ∧ AskAt w a q := by
  obtain ⟨_, hcl, hat⟩ := World.cells?_some hc
  obtain ⟨xs, n, _, _, _, hxl, hf⟩ := DataW.trod_struct Try.underlying70 h
  match cs, hcl with
  | [c0, c1, c2, c3], _ =>
    have g0 := hf 0 _ rfl
    have g1 := hf 1 _ rfl
    have g2 := hf 2 _ rfl
    have g3 := hf 3 _ rfl
    have k0 : Try.prog.cellsOf 5 = 1 := by kernel_rfl
    have k1 : Try.prog.cellsOf 22 = 1 := by kernel_rfl
    have k2 : Try.prog.cellsOf 2 = 1 := by kernel_rfl
    match xs, hxl with
    | [y0, y1, y2, y3], _ =>
      have e0 : DataW.trod enc Try.prog w base spare held n 5 [c0] = some y0 := by simpa [k0] using g0
      have e1 : DataW.trod enc Try.prog w base spare held n 22 [c1] = some y1 := by simpa [k1] using g1
      have e2 : DataW.trod enc Try.prog w base spare held n 2 [c2] = some y2 := by simpa [k2] using g2
      have e3 : DataW.trod enc Try.prog w base spare held n 2 [c3] = some y3 := by simpa [k2] using g3
      obtain ⟨n0, r0, _, w0⟩ := DataW.trod_int Try.underlying5 e0
      obtain ⟨n1, r1, _, w1⟩ := DataW.trod_int Try.underlying22 e1
      obtain ⟨n2, r2, _, w2⟩ := DataW.trod_int Try.underlying2 e2
      obtain ⟨n3, r3, _, w3⟩ := DataW.trod_int Try.underlying2 e3
      simp only [List.cons.injEq, and_true] at r0 r1 r2 r3
      subst r0 r1 r2 r3
      obtain ⟨m0, rfl, b0⟩ := wf_u8 w0
      obtain ⟨m1, rfl, b1⟩ := u64_nat w1
      exact ⟨⟨m0, m1, n2, n3⟩, ⟨b0, b1, i64_int w2, i64_int w3⟩, hat 0 (by decide), hat 1 (by decide), hat 2 (by decide), hat 3 (by decide)⟩
/-- The row of Asks. -/
theorem asks_open {H : Type} {enc : TypeId × Value → H} {w : World} {base : Nat} {spare : Nat → Bool} {held : Bool} {v : Value} {d : DataW H} {ps : List MemPlace}
    (hv : v.cells.toList = [v]) (h : DataW.Trod enc Try.prog w base spare held 63 v d ps) :
    v = .slice none 0 0 ∨ ∃ (a : Addr) (len cap : Nat) (f : Nat → AskV), v = .slice (some a) len cap ∧ len ≤ maxLen ∧ ∀ i, i < len → (f i).ok ∧ AskAt w (a.add (i * 4)) (f i) := by
  obtain ⟨fuel, h⟩ := h
  rw [hv] at h
  rcases open_slice Try.underlying63 h with ⟨h0, _⟩ | ⟨a, len, cap, m, n, D, Pl, hcs, _, hlc, hcm, hm, _, hi⟩
  · left; simpa using h0
  · right
    have hk : Try.prog.cellsOf 70 = 4 := by kernel_rfl
    have hex : ∀ i, ∃ q : AskV, i < len → q.ok ∧ AskAt w (a.add (i * 4)) q := fun i => by
      by_cases hl : i < len
      · obtain ⟨cs', h1, h2⟩ := hi i (by rw [hm]; split <;> omega)
        rw [hk] at h1
        obtain ⟨q, hq⟩ := ask_cells h1 h2
        exact ⟨q, fun _ => hq⟩
      · exact ⟨⟨0, 0, 0, 0⟩, fun h => absurd h hl⟩
    obtain ⟨f, hf⟩ := Classical.axiomOfChoice hex
    exact ⟨a, len, cap, f, by simpa using hcs, by omega, hf⟩
end Go.Proofs.Ytmfigoffkopohaa
