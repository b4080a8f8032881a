/- A row of Acts that came in: its cells; long. -/
import Derived.Test.YtdhpnhdokkhnlaaNetFive
import Derived.Deep.Slices
import Derived.Deep.Fields
import Derived.ChangeSame
import Derived.Deep.QuietTactic
import Derived.BigQuiet
namespace Go.Proofs.Ytdhpnhdokkhnlaa
open Go.RowKit Go.ChangeShapes Go.WideShapes Go.Deep
set_option linter.unusedVariables false

theorem wf_u8 {n : Int} (h : (Lit.int .u8 n).wf = true) : ∃ k : Nat, n = k ∧ k < 256 := by
  have h' : 0 ≤ n ∧ n < 256 := by
    simp [Lit.wf, IntKind.min, IntKind.max, IntKind.signed, IntKind.bits] at h
    omega
  exact ⟨n.toNat, by omega, by omega⟩
theorem wf_u16 {n : Int} (h : (Lit.int .u16 n).wf = true) : ∃ k : Nat, n = k ∧ k < 65536 := by
  have h' : 0 ≤ n ∧ n < 65536 := by
    simp [Lit.wf, IntKind.min, IntKind.max, IntKind.signed, IntKind.bits] at h
    omega
  exact ⟨n.toNat, by omega, by omega⟩
theorem wf_i64 {a : Int} (h : (Lit.int .i64 a).wf = true) : -9223372036854775808 ≤ a ∧ a ≤ 9223372036854775807 := by
  simp [Lit.wf, IntKind.min, IntKind.max, IntKind.signed, IntKind.bits] at h
  omega
structure ActV where
  what : Nat
  frm : Int
  to : Int
  i : Int
  s : ByteArray
  times : Nat
def ActV.v (q : ActV) : Value := .agg #[.int .u8 q.what, .int .i64 q.frm, .int .i64 q.to, .int .i64 q.i, .string q.s, .int .u16 q.times]
def ActV.ok (q : ActV) : Prop := q.what < 256 ∧ (-9223372036854775808 ≤ q.frm ∧ q.frm ≤ 9223372036854775807) ∧ (-9223372036854775808 ≤ q.to ∧ q.to ≤ 9223372036854775807) ∧ (-9223372036854775808 ≤ q.i ∧ q.i ≤ 9223372036854775807) ∧ q.s.size ≤ maxLen ∧ q.times < 65536
def ActAt (w : World) (a : Addr) (q : ActV) : Prop := w.cell? (a.add 0) = some (.int .u8 q.what) ∧ w.cell? (a.add 1) = some (.int .i64 q.frm) ∧ w.cell? (a.add 2) = some (.int .i64 q.to) ∧ w.cell? (a.add 3) = some (.int .i64 q.i) ∧ w.cell? (a.add 4) = some (.string q.s) ∧ w.cell? (a.add 5) = some (.int .u16 q.times)
theorem act_cells {H : Type} {enc : TypeId × Value → H} {w : World} {base : Nat} {spare : Nat → Bool} {held : Bool} {fuel : Nat} {a : Addr} {cs : List Value} {x : DataW H × List MemPlace}
    (hc : w.cells? base a 6 = some cs) (h : DataW.trod enc Try.prog w base spare held fuel 33 cs = some x) : ∃ q : ActV, q.ok ∧ ActAt w a q := by
  obtain ⟨_, hcl, hat⟩ := World.cells?_some hc
  obtain ⟨xs, n, _, _, _, hxl, hf⟩ := DataW.trod_struct Try.underlying33 h
  match cs, hcl with
  | [c0, c1, c2, c3, c4, c5], _ =>
    have g0 := hf 0 _ rfl
    have g1 := hf 1 _ rfl
    have g2 := hf 2 _ rfl
    have g3 := hf 3 _ rfl
    have g4 := hf 4 _ rfl
    have g5 := hf 5 _ rfl
    have k_int : Try.prog.cellsOf 3 = 1 := by kernel_rfl
    have k_string : Try.prog.cellsOf 9 = 1 := by kernel_rfl
    have k_uint16 : Try.prog.cellsOf 31 = 1 := by kernel_rfl
    have k_uint8 : Try.prog.cellsOf 5 = 1 := by kernel_rfl
    match xs, hxl with
    | [y0, y1, y2, y3, y4, y5], _ =>
      have e0 : DataW.trod enc Try.prog w base spare held n 5 [c0] = some y0 := by simpa [k_int, k_string, k_uint16, k_uint8] using g0
      have e1 : DataW.trod enc Try.prog w base spare held n 3 [c1] = some y1 := by simpa [k_int, k_string, k_uint16, k_uint8] using g1
      have e2 : DataW.trod enc Try.prog w base spare held n 3 [c2] = some y2 := by simpa [k_int, k_string, k_uint16, k_uint8] using g2
      have e3 : DataW.trod enc Try.prog w base spare held n 3 [c3] = some y3 := by simpa [k_int, k_string, k_uint16, k_uint8] using g3
      have e4 : DataW.trod enc Try.prog w base spare held n 9 [c4] = some y4 := by simpa [k_int, k_string, k_uint16, k_uint8] using g4
      have e5 : DataW.trod enc Try.prog w base spare held n 31 [c5] = some y5 := by simpa [k_int, k_string, k_uint16, k_uint8] using g5
      obtain ⟨n0, r0, _, w0⟩ := DataW.trod_int Try.underlying5 e0
      obtain ⟨n1, r1, _, w1⟩ := DataW.trod_int Try.underlying3 e1
      obtain ⟨n2, r2, _, w2⟩ := DataW.trod_int Try.underlying3 e2
      obtain ⟨n3, r3, _, w3⟩ := DataW.trod_int Try.underlying3 e3
      obtain ⟨n4, r4, _, w4⟩ := DataW.trod_string Try.underlying9 e4
      obtain ⟨n5, r5, _, w5⟩ := DataW.trod_int Try.underlying31 e5
      simp only [List.cons.injEq, and_true] at r0 r1 r2 r3 r4 r5
      subst r0 r1 r2 r3 r4 r5
      obtain ⟨m0, rfl, b0⟩ := wf_u8 w0
      obtain ⟨m5, rfl, b5⟩ := wf_u16 w5
      exact ⟨⟨m0, n1, n2, n3, n4, m5⟩, ⟨b0, wf_i64 w1, wf_i64 w2, wf_i64 w3, w4, b5⟩, hat 0 (by decide), hat 1 (by decide), hat 2 (by decide), hat 3 (by decide), hat 4 (by decide), hat 5 (by decide)⟩
theorem acts_open {H : Type} {enc : TypeId × Value → H} {w : World} {base : Nat} {spare : Nat → Bool} {held : Bool} {v : Value} {d : DataW H} {ps : List MemPlace}
    (hv : v.cells.toList = [v]) (h : DataW.Trod enc Try.prog w base spare held 22 v d ps) :
    ∃ (ao : Option Addr) (len cap : Nat) (f : Nat → ActV), v = .slice ao len cap ∧ len ≤ maxLen ∧ ∀ i, i < len → ∃ a, ao = some a ∧ (f i).ok ∧ ActAt w (a.add (i * 6)) (f i) := by
  obtain ⟨fuel, h⟩ := h
  rw [hv] at h
  rcases open_slice Try.underlying22 h with ⟨h0, _⟩ | ⟨a, len, cap, m, n, D, Pl, hcs, _, hlc, hcm, hm, _, hi⟩
  · exact ⟨none, 0, 0, fun _ => ⟨0, 0, 0, 0, ⟨#[]⟩, 0⟩, by simpa using h0, by decide, fun i hi => absurd hi (Nat.not_lt_zero i)⟩
  · have hk : Try.prog.cellsOf 33 = 6 := by kernel_rfl
    have hex : ∀ i, ∃ q : ActV, i < len → q.ok ∧ ActAt w (a.add (i * 6)) q := fun i => by
      by_cases hl : i < len
      · obtain ⟨cs', h1, h2⟩ := hi i (by rw [hm]; split <;> omega)
        rw [hk] at h1
        obtain ⟨q, hq⟩ := act_cells h1 h2
        exact ⟨q, fun _ => hq⟩
      · exact ⟨⟨0, 0, 0, 0, ⟨#[]⟩, 0⟩, fun h => absurd h hl⟩
    obtain ⟨f, hf⟩ := Classical.axiomOfChoice hex
    exact ⟨some a, len, cap, f, by simpa using hcs, by omega, fun i hi => ⟨a, rfl, hf i hi⟩⟩
theorem ActAt.lt {w : World} {a : Addr} {q : ActV} (h : ActAt w a q) : a.block < w.heap.size := by
  have h0 := h.1
  unfold World.cell? at h0
  rcases Nat.lt_or_ge a.block w.heap.size with h | h
  · exact h
  · simp [Addr.add, Array.getElem?_eq_none h] at h0
theorem ActAt.below {w w' : World} {a : Addr} {q : ActV} (h : ActAt w a q) (hb : Below w.heap.size w w') : ActAt w' a q := by
  have hl := h.lt
  obtain ⟨h0, h1, h2, h3, h4, h5⟩ := h
  exact ⟨by rw [hb.cell (p := a.add 0) hl]; exact h0, by rw [hb.cell (p := a.add 1) hl]; exact h1, by rw [hb.cell (p := a.add 2) hl]; exact h2, by rw [hb.cell (p := a.add 3) hl]; exact h3, by rw [hb.cell (p := a.add 4) hl]; exact h4, by rw [hb.cell (p := a.add 5) hl]; exact h5⟩
/-- What the acts cost. -/
def cost (f : Nat → ActV) : Nat → Nat
  | 0 => 0
  | k + 1 => cost f k + (20 + min (f k).s.size 20000 + (f k).times % 300)
theorem cost_mono (f : Nat → ActV) {a b : Nat} (h : a ≤ b) : cost f a ≤ cost f b := by
  induction b with
  | zero => obtain rfl : a = 0 := by omega
            exact Nat.le_refl _
  | succ b ih =>
    by_cases e : a = b + 1
    · subst e; exact Nat.le_refl _
    · have := ih (by omega)
      rw [cost]; omega
set_option maxRecDepth 20000 in
theorem long_any (w : World) (ao : Option Addr) (len cap : Nat) (f : Nat → ActV) (hl : len ≤ maxLen) (hf : ∀ i, i < len → ∃ a, ao = some a ∧ (f i).ok ∧ ActAt w (a.add (i * 6)) (f i)) :
    Calls Try.prog 9 #[.slice ao len cap] w fun e w' => e = .returned (.bool (decide (20000 ≤ cost f len))) ∧ ∃ m, w' = w.drewN m := by
  unfold maxLen at hl
  have HF := Kp.mk hf
  clear hf
  obtain ⟨B, hB⟩ : ∃ B, decide (20000 ≤ cost f len) = B := ⟨_, rfl⟩
  rw [hB]
  have HB := Kp.mk hB
  clear hB
  go_enter Try.func9, Try.ntmps9
  go_wp2
  go_loopw [3, 4] (fun n i wr => ∃ k m : Nat, k ≤ len ∧ i = .int .i64 k ∧ n = .int .i64 (cost f k) ∧ cost f k < 40320 ∧ wr = w.drewN m) (fun _ i _ => len - (intOf i).toNat)
  case atStart => exact ⟨0, 0, by omega, rfl, rfl, by simp [cost], rfl⟩
  case round =>
    obtain ⟨k, md, hk, rfl, rfl, hc, rfl⟩ := hrel
    by_cases hkl : k < len
    · by_cases h6 : cost f k < 20000
      · obtain ⟨a, rfl, hok, hat⟩ := HF.out k hkl
        have hs := hok.2.2.2.2.1
        have ht := hok.2.2.2.2.2
        unfold maxLen at hs
        obtain ⟨_, _, _, _, c4, c5⟩ := hat
        have c4 : w.cell? ⟨(a.add (k * 6)).block, (a.add (k * 6)).off + 4, none⟩ = some (.string (f k).s) := c4
        have c5 : w.cell? ⟨(a.add (k * 6)).block, (a.add (k * 6)).off + 5, none⟩ = some (.int .u16 (f k).times) := c5
        have HC : Kp (cost f (k + 1) = cost f k + (20 + min (f k).s.size 20000 + (f k).times % 300)) := ⟨rfl⟩
        have t1 : decide ((cost f k : Int) < 20000) = true := by rw [decide_eq_true_eq]; omega
        clear hok
        generalize f k = q at c4 c5 hs ht HC
        obtain ⟨qw, qf, qt, qi, qs, qm⟩ := q
        simp only [] at c4 c5 hs ht HC
        generalize cost f k = C at h6 hc HC t1
        have hmin : min (qs.size : Int) 20000 = ((min qs.size 20000 : Nat) : Int) := by omega
        have hmx : min qs.size 20000 ≤ 20000 := Nat.min_le_right _ _
        have HM : Kp (∀ m, min qs.size 20000 = m → (if (20000 : Int) < (qs.size : Int) then (20000 : Int) else (qs.size : Int)) = (m : Int)) := ⟨fun m e => by split <;> omega⟩
        obtain ⟨m, hm⟩ : ∃ m, min qs.size 20000 = m := ⟨_, rfl⟩
        have HM := Kp.mk (HM.out m hm)
        rw [hm] at hmin hmx HC
        clear hm
        have hk0 : (0 : Int) ≤ (k : Int) := by omega
        have hk1 : (k : Int) < (len : Int) := by omega
        have n1 : IntKind.i64.wrap ((C : Int) + 20) = ((C + 20 : Nat) : Int) := by rw [IntKind.wrap_i64]; omega
        have n2 : (qm : Int).tmod 300 = ((qm % 300 : Nat) : Int) := by rw [Int.tmod_eq_emod_of_nonneg (by omega)]; omega
        have n3 : IntKind.u16.wrap ((qm % 300 : Nat) : Int) = ((qm % 300 : Nat) : Int) := by rw [IntKind.wrap_u16]; omega
        have n4 : IntKind.i64.wrap ((qm % 300 : Nat) : Int) = ((qm % 300 : Nat) : Int) := by rw [IntKind.wrap_i64]; omega
        have hz : qm % 300 < 300 := Nat.mod_lt _ (by decide)
        generalize qm % 300 = z at HC n2 n3 n4 hz
        have n5 : IntKind.i64.wrap (((C + 20 : Nat) : Int) + (m : Int)) = ((C + 20 + m : Nat) : Int) := by rw [IntKind.wrap_i64]; omega
        have n6 : IntKind.i64.wrap (((C + 20 + m : Nat) : Int) + (z : Int)) = ((C + 20 + m + z : Nat) : Int) := by rw [IntKind.wrap_i64]; omega
        go_wp2_with fail
        go_quiet (fail)
        clear n1 n2 n3 n4 n5 n6
        go_wp2
        go_roundw
        case rel => exact ⟨k + 1, _, by omega, by go_num, by rw [HC.out, HM.out]; go_num, by rw [HC.out]; omega, rfl⟩
        case measure => simp [intOf]; omega
      · have HC : Kp (true = B) := ⟨by rw [← HB.out]; symm; rw [decide_eq_true_eq]; have := cost_mono f hk; omega⟩
        have t1 : decide ((cost f k : Int) < 20000) = false := by rw [decide_eq_false_iff_not]; omega
        have t2 : decide ((20000 : Int) ≤ (cost f k : Int)) = true := by rw [decide_eq_true_eq]; omega
        generalize cost f k = C at h6 hc t1 t2
        go_wp2
        go_ret
        exact ⟨ret_bool HC.out, _, rfl⟩
    · obtain rfl : k = len := by omega
      have HC : Kp (decide ((20000 : Int) ≤ (cost f k : Int)) = B) := ⟨by rw [← HB.out, Bool.eq_iff_iff, decide_eq_true_eq, decide_eq_true_eq]; omega⟩
      generalize cost f k = C at hc HC
      go_wp2
      go_ret
      exact ⟨ret_bool HC.out, _, rfl⟩
end Go.Proofs.Ytdhpnhdokkhnlaa
