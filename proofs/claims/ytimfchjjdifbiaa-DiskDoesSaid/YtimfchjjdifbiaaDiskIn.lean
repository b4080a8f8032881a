/- What comes in: a row of acts, each with a row of numbers; a row of tapes; long. -/
import Derived.Test.YtimfchjjdifbiaaDiskLoad
import Derived.Deep.Slices
import Derived.Deep.Fields
import Derived.ChangeSame
namespace Go.Proofs.Ytimfchjjdifbiaa
open Go.RowKit Go.ChangeShapes Go.WideShapes Go.Deep
set_option linter.unusedVariables false

theorem wf_u8 {n : Int} (h : (Lit.int .u8 n).wf = true) : ∃ k : Nat, n = k ∧ k < 256 := by
  have h' : 0 ≤ n ∧ n < 256 := by
    simp [Lit.wf, IntKind.min, IntKind.max, IntKind.signed, IntKind.bits] at h
    omega
  exact ⟨n.toNat, by omega, by omega⟩
theorem wf_i64 {a : Int} (h : (Lit.int .i64 a).wf = true) : -9223372036854775808 ≤ a ∧ a ≤ 9223372036854775807 := by
  simp [Lit.wf, IntKind.min, IntKind.max, IntKind.signed, IntKind.bits] at h
  omega
theorem add_mul_one (a : Addr) (j : Nat) : (a.add (j * 1)).add 0 = a.add j := by
  obtain ⟨b, o, s⟩ := a
  unfold Addr.add
  cases s <;> simp
/-- A row of numbers at a slice. -/
def KeepAt (w : World) (ko : Option Addr) (kl : Nat) (kf : Nat → Int) : Prop := ∀ j, j < kl → ∃ a, ko = some a ∧ w.cell? (a.add j) = some (.int .i64 (kf j))
theorem keep_open {H : Type} {enc : TypeId × Value → H} {w : World} {base : Nat} {spare : Nat → Bool} {held : Bool} {fuel : Nat} {c : Value} {x : DataW H × List MemPlace} (h : DataW.trod enc Try.prog w base spare held fuel 37 [c] = some x) :
    ∃ (ko : Option Addr) (kl kc : Nat) (kf : Nat → Int), c = .slice ko kl kc ∧ kl ≤ maxLen ∧ KeepAt w ko kl kf := by
  rcases open_slice Try.underlying37 h with ⟨h0, _⟩ | ⟨a, len, cap, m, n, D, Pl, hcs, _, hlc, hcm, hm, _, hi⟩
  · exact ⟨none, 0, 0, fun _ => 0, by simpa using h0, by decide, fun i hi => absurd hi (Nat.not_lt_zero i)⟩
  · have hk : Try.prog.cellsOf 3 = 1 := by kernel_rfl
    have hex : ∀ i, ∃ q : Int, i < len → w.cell? (a.add i) = some (.int .i64 q) := fun i => by
      by_cases hl : i < len
      · obtain ⟨cs', h1, h2⟩ := hi i (by rw [hm]; split <;> omega)
        rw [hk] at h1
        obtain ⟨_, hcl, hat⟩ := World.cells?_some h1
        match cs', hcl with
        | [z], _ =>
          obtain ⟨n0, r0, _, w0⟩ := DataW.trod_int Try.underlying3 h2
          simp only [List.cons.injEq, and_true] at r0
          subst r0
          refine ⟨n0, fun _ => ?_⟩
          have := hat 0 (by decide)
          rw [add_mul_one] at this
          exact this
      · exact ⟨0, fun h => absurd h hl⟩
    obtain ⟨kf, hf⟩ := Classical.axiomOfChoice hex
    exact ⟨some a, len, cap, kf, by simpa using hcs, by omega, fun i hi => ⟨a, rfl, hf i hi⟩⟩
structure ActV where
  what : Nat
  t : Int
  n : Int
  s : ByteArray
  ko : Option Addr
  kl : Nat
  kc : Nat
  kf : Nat → Int
def ActV.v (q : ActV) : Value := .agg #[.int .u8 q.what, .int .i64 q.t, .int .i64 q.n, .string q.s, .slice q.ko q.kl q.kc]
def ActV.ok (q : ActV) : Prop := q.what < 256 ∧ (-9223372036854775808 ≤ q.t ∧ q.t ≤ 9223372036854775807) ∧ (-9223372036854775808 ≤ q.n ∧ q.n ≤ 9223372036854775807) ∧ q.s.size ≤ maxLen ∧ q.kl ≤ maxLen
/-- An act at a place. -/
def ActAt (w : World) (a : Addr) (q : ActV) : Prop :=
  w.cell? a = some (.int .u8 q.what) ∧ w.cell? ⟨a.block, a.off + 1, none⟩ = some (.int .i64 q.t) ∧ w.cell? ⟨a.block, a.off + 2, none⟩ = some (.int .i64 q.n) ∧ w.cell? ⟨a.block, a.off + 3, none⟩ = some (.string q.s) ∧ w.cell? ⟨a.block, a.off + 4, none⟩ = some (.slice q.ko q.kl q.kc) ∧ KeepAt w q.ko q.kl q.kf
theorem cell_below {w W : World} {a : Addr} {v : Value} (h : w.cell? a = some v) (hb : Below w.heap.size w W) : W.cell? a = some v := (hb.cell (World.block_lt_of_cell? w a h)).trans h
theorem KeepAt.below {w W : World} {ko : Option Addr} {kl : Nat} {kf : Nat → Int} (h : KeepAt w ko kl kf) (hb : Below w.heap.size w W) : KeepAt W ko kl kf := fun j hj => by
  obtain ⟨a, h1, h2⟩ := h j hj
  exact ⟨a, h1, cell_below h2 hb⟩
theorem ActAt.below {w W : World} {a : Addr} {q : ActV} (h : ActAt w a q) (hb : Below w.heap.size w W) : ActAt W a q := by
  obtain ⟨h0, h1, h2, h3, h4, h5⟩ := h
  exact ⟨cell_below h0 hb, cell_below h1 hb, cell_below h2 hb, cell_below h3 hb, cell_below h4 hb, h5.below hb⟩
theorem act_cells {H : Type} {enc : TypeId × Value → H} {w : World} {base : Nat} {spare : Nat → Bool} {held : Bool} {fuel : Nat} {a : Addr} {cs : List Value} {x : DataW H × List MemPlace}
    (hc : w.cells? base a 5 = some cs) (h : DataW.trod enc Try.prog w base spare held fuel 39 cs = some x) : ∃ q : ActV, q.ok ∧ ActAt w a q := by
  obtain ⟨_, hcl, hat⟩ := World.cells?_some hc
  obtain ⟨xs, n, _, _, _, hxl, hf⟩ := DataW.trod_struct Try.underlying39 h
  match cs, hcl with
  | [c0, c1, c2, c3, c4], _ =>
    have g0 := hf 0 _ rfl
    have g1 := hf 1 _ rfl
    have g2 := hf 2 _ rfl
    have g3 := hf 3 _ rfl
    have g4 := hf 4 _ rfl
    have k_int : Try.prog.cellsOf 3 = 1 := by kernel_rfl
    have k_string : Try.prog.cellsOf 9 = 1 := by kernel_rfl
    have k_ints : Try.prog.cellsOf 37 = 1 := by kernel_rfl
    have k_uint8 : Try.prog.cellsOf 5 = 1 := by kernel_rfl
    match xs, hxl with
    | [y0, y1, y2, y3, y4], _ =>
      have e0 : DataW.trod enc Try.prog w base spare held n 5 [c0] = some y0 := by simpa [k_int, k_string, k_ints, k_uint8] using g0
      have e1 : DataW.trod enc Try.prog w base spare held n 3 [c1] = some y1 := by simpa [k_int, k_string, k_ints, k_uint8] using g1
      have e2 : DataW.trod enc Try.prog w base spare held n 3 [c2] = some y2 := by simpa [k_int, k_string, k_ints, k_uint8] using g2
      have e3 : DataW.trod enc Try.prog w base spare held n 9 [c3] = some y3 := by simpa [k_int, k_string, k_ints, k_uint8] using g3
      have e4 : DataW.trod enc Try.prog w base spare held n 37 [c4] = some y4 := by simpa [k_int, k_string, k_ints, k_uint8] using g4
      obtain ⟨n0, r0, _, w0⟩ := DataW.trod_int Try.underlying5 e0
      obtain ⟨n1, r1, _, w1⟩ := DataW.trod_int Try.underlying3 e1
      obtain ⟨n2, r2, _, w2⟩ := DataW.trod_int Try.underlying3 e2
      obtain ⟨n3, r3, _, w3⟩ := DataW.trod_string Try.underlying9 e3
      obtain ⟨ko, kl, kc, kf, r4, hkl, hk⟩ := keep_open e4
      simp only [List.cons.injEq, and_true] at r0 r1 r2 r3
      subst r0 r1 r2 r3 r4
      obtain ⟨m0, rfl, b0⟩ := wf_u8 w0
      have h0 := hat 0 (by decide)
      rw [show a.add 0 = a from by obtain ⟨b, o, s⟩ := a; unfold Addr.add; cases s <;> simp] at h0
      exact ⟨⟨m0, n1, n2, n3, ko, kl, kc, kf⟩, ⟨b0, wf_i64 w1, wf_i64 w2, w3, hkl⟩, h0, hat 1 (by decide), hat 2 (by decide), hat 3 (by decide), hat 4 (by decide), hk⟩
/-- A row of acts that came in. -/
def ActsIn (w : World) (ao : Option Addr) (len : Nat) (f : Nat → ActV) : Prop := ∀ W, Below w.heap.size w W → ∀ i, i < len → ∃ a, ao = some a ∧ (f i).ok ∧ ActAt W (a.add (i * 5)) (f i)
theorem acts_open {H : Type} {enc : TypeId × Value → H} {w : World} {base : Nat} {spare : Nat → Bool} {held : Bool} {v : Value} {d : DataW H} {ps : List MemPlace}
    (hv : v.cells.toList = [v]) (h : DataW.Trod enc Try.prog w base spare held 23 v d ps) :
    ∃ (ao : Option Addr) (len cap : Nat) (f : Nat → ActV), v = .slice ao len cap ∧ len ≤ maxLen ∧ ActsIn w ao len f := by
  obtain ⟨fuel, h⟩ := h
  rw [hv] at h
  rcases open_slice Try.underlying23 h with ⟨h0, _⟩ | ⟨a, len, cap, m, n, D, Pl, hcs, _, hlc, hcm, hm, _, hi⟩
  · exact ⟨none, 0, 0, fun _ => ⟨0, 0, 0, ⟨#[]⟩, none, 0, 0, fun _ => 0⟩, by simpa using h0, by decide, fun W _ i hi => absurd hi (Nat.not_lt_zero i)⟩
  · have hk : Try.prog.cellsOf 39 = 5 := by kernel_rfl
    have hex : ∀ i, ∃ q : ActV, i < len → q.ok ∧ ActAt w (a.add (i * 5)) q := fun i => by
      by_cases hl : i < len
      · obtain ⟨cs', h1, h2⟩ := hi i (by rw [hm]; split <;> omega)
        rw [hk] at h1
        obtain ⟨q, hq⟩ := act_cells h1 h2
        exact ⟨q, fun _ => hq⟩
      · exact ⟨⟨0, 0, 0, ⟨#[]⟩, none, 0, 0, fun _ => 0⟩, fun h => absurd h hl⟩
    obtain ⟨f, hf⟩ := Classical.axiomOfChoice hex
    exact ⟨some a, len, cap, f, by simpa using hcs, by omega, fun W hW i hi => ⟨a, rfl, (hf i hi).1, (hf i hi).2.below hW⟩⟩
/-- A row of tapes that came in, of any sizes. -/
def TapesAt (w : World) (ao : Option Addr) (len : Nat) (f : Nat → ByteArray × ByteArray) : Prop :=
  ∀ W, Below w.heap.size w W → ∀ i, i < len → ∃ a, ao = some a ∧ (f i).1.size ≤ maxLen ∧ (f i).2.size ≤ maxLen ∧ W.cell? (a.add (i * 2)) = some (.string (f i).1) ∧ W.cell? ⟨(a.add (i * 2)).block, (a.add (i * 2)).off + 1, none⟩ = some (.string (f i).2)
theorem tapes_open {H : Type} {enc : TypeId × Value → H} {w : World} {base : Nat} {spare : Nat → Bool} {held : Bool} {v : Value} {d : DataW H} {ps : List MemPlace}
    (hv : v.cells.toList = [v]) (h : DataW.Trod enc Try.prog w base spare held 22 v d ps) :
    ∃ (ao : Option Addr) (len cap : Nat) (f : Nat → ByteArray × ByteArray), v = .slice ao len cap ∧ len ≤ maxLen ∧ TapesAt w ao len f := by
  obtain ⟨fuel, h⟩ := h
  rw [hv] at h
  rcases open_slice Try.underlying22 h with ⟨h0, _⟩ | ⟨a, len, cap, m, n, D, Pl, hcs, _, hlc, hcm, hm, _, hi⟩
  · exact ⟨none, 0, 0, fun _ => (⟨#[]⟩, ⟨#[]⟩), by simpa using h0, by decide, fun W _ i hi => absurd hi (Nat.not_lt_zero i)⟩
  · have hk : Try.prog.cellsOf 50 = 2 := by kernel_rfl
    have hex : ∀ i, ∃ q : ByteArray × ByteArray, i < len → q.1.size ≤ maxLen ∧ q.2.size ≤ maxLen ∧ w.cell? (a.add (i * 2)) = some (.string q.1) ∧ w.cell? ⟨(a.add (i * 2)).block, (a.add (i * 2)).off + 1, none⟩ = some (.string q.2) := fun i => by
      by_cases hl : i < len
      · obtain ⟨cs', h1, h2⟩ := hi i (by rw [hm]; split <;> omega)
        rw [hk] at h1
        obtain ⟨_, hcl, hat⟩ := World.cells?_some h1
        obtain ⟨xs, n, _, _, _, hxl, hf⟩ := DataW.trod_struct Try.underlying50 h2
        match cs', hcl with
        | [c0, c1], _ =>
          have g0 := hf 0 _ rfl
          have g1 := hf 1 _ rfl
          have k_string : Try.prog.cellsOf 9 = 1 := by kernel_rfl
          match xs, hxl with
          | [y0, y1], _ =>
            have e0 : DataW.trod enc Try.prog w base spare held n 9 [c0] = some y0 := by simpa [k_string] using g0
            have e1 : DataW.trod enc Try.prog w base spare held n 9 [c1] = some y1 := by simpa [k_string] using g1
            obtain ⟨n0, r0, _, w0⟩ := DataW.trod_string Try.underlying9 e0
            obtain ⟨n1, r1, _, w1⟩ := DataW.trod_string Try.underlying9 e1
            simp only [List.cons.injEq, and_true] at r0 r1
            subst r0 r1
            have h0 := hat 0 (by decide)
            generalize a.add (i * 2) = p at h0 hat
            rw [show p.add 0 = p from by obtain ⟨b, o, s⟩ := p; unfold Addr.add; cases s <;> simp] at h0
            exact ⟨(n0, n1), fun _ => ⟨w0, w1, h0, hat 1 (by decide)⟩⟩
      · exact ⟨(⟨#[]⟩, ⟨#[]⟩), fun h => absurd h hl⟩
    obtain ⟨f, hf⟩ := Classical.axiomOfChoice hex
    exact ⟨some a, len, cap, f, by simpa using hcs, by omega, fun W hW i hi => by
      obtain ⟨h1, h2, h3, h4⟩ := hf i hi
      exact ⟨a, rfl, h1, h2, cell_below h3 hW, cell_below h4 hW⟩⟩
/-- What acts, and tapes, cost. -/
def costA (f : Nat → ActV) : Nat → Nat
  | 0 => 0
  | k + 1 => costA f k + (20 + min (f k).s.size 20000 + min (f k).kl 20000)
def costT (f : Nat → ByteArray × ByteArray) : Nat → Nat
  | 0 => 0
  | k + 1 => costT f k + (20 + min (f k).1.size 20000 + min (f k).2.size 20000)
theorem costA_mono (f : Nat → ActV) {a b : Nat} (h : a ≤ b) : costA f a ≤ costA f b := by
  induction b with
  | zero => obtain rfl : a = 0 := by omega
            exact Nat.le_refl _
  | succ b ih =>
    by_cases e : a = b + 1
    · subst e; exact Nat.le_refl _
    · have := ih (by omega)
      rw [costA]; omega
theorem costT_mono (f : Nat → ByteArray × ByteArray) {a b : Nat} (h : a ≤ b) : costT f a ≤ costT f b := by
  induction b with
  | zero => obtain rfl : a = 0 := by omega
            exact Nat.le_refl _
  | succ b ih =>
    by_cases e : a = b + 1
    · subst e; exact Nat.le_refl _
    · have := ih (by omega)
      rw [costT]; omega
theorem small_act (f : Nat → ActV) (n i : Nat) (h : costA f n < 20000) (hi : i < n) : (f i).s.size < 20000 ∧ (f i).kl < 20000 := by
  have h1 := costA_mono f (show i + 1 ≤ n from hi)
  rw [costA] at h1
  omega
theorem small_tape (f : Nat → ByteArray × ByteArray) (n i : Nat) (h : costT f n < 20000) (hi : i < n) : (f i).1.size < 20000 ∧ (f i).2.size < 20000 := by
  have h1 := costT_mono f (show i + 1 ≤ n from hi)
  rw [costT] at h1
  omega
theorem TapesAt.small {w : World} {ao : Option Addr} {len : Nat} {f : Nat → ByteArray × ByteArray} (h : TapesAt w ao len f) (hc : costT f len < 20000) : TapesIn w ao len f := fun W hW i hi => by
  obtain ⟨a, h1, _, _, h2, h3⟩ := h W hW i hi
  obtain ⟨s1, s2⟩ := small_tape f len i hc hi
  exact ⟨a, h1, by omega, by omega, h2, h3⟩
set_option maxRecDepth 20000 in
set_option maxHeartbeats 1000000 in
theorem long_any (w : World) (ao : Option Addr) (len cap : Nat) (f : Nat → ActV) (bo : Option Addr) (lb cb : Nat) (g : Nat → ByteArray × ByteArray) (hl : len ≤ maxLen) (hf : ActsIn w ao len f) (hlb : lb ≤ maxLen) (hg : TapesAt w bo lb g) :
    Calls Try.prog 4 #[.slice ao len cap, .slice bo lb cb] w fun e w' => e = .returned (.bool (decide (20000 ≤ costA f len + costT g lb))) ∧ ∃ m, w' = w.drewN m := by
  unfold maxLen at hl hlb
  have HF : Kp (∀ i, i < len → ∃ a, ao = some a ∧ (f i).ok ∧ ActAt w (a.add (i * 5)) (f i)) := ⟨hf w (Below.refl _ _)⟩
  have HGT : Kp (∀ i, i < lb → ∃ a, bo = some a ∧ (g i).1.size ≤ maxLen ∧ (g i).2.size ≤ maxLen ∧ w.cell? (a.add (i * 2)) = some (.string (g i).1) ∧ w.cell? ⟨(a.add (i * 2)).block, (a.add (i * 2)).off + 1, none⟩ = some (.string (g i).2)) := ⟨hg w (Below.refl _ _)⟩
  clear hf hg
  obtain ⟨B, hB⟩ : ∃ B, decide (20000 ≤ costA f len + costT g lb) = B := ⟨_, rfl⟩
  rw [hB]
  have HB := Kp.mk hB
  clear hB
  have two : ∀ {k n : Int} {c : Nat}, True := fun {_ _ _} => trivial
  clear two
  go_enter Try.func4, Try.ntmps4
  go_wp2
  go_loopw [5, 6] (fun n i wr => ∃ k m : Nat, k ≤ len ∧ i = .int .i64 k ∧ n = .int .i64 (costA f k) ∧ costA f k < 60040 ∧ wr = w.drewN m) (fun _ i _ => len - (intOf i).toNat)
  case atStart => exact ⟨0, 0, by omega, rfl, rfl, by simp [costA], rfl⟩
  case round =>
    obtain ⟨k, md, hk, rfl, rfl, hc, rfl⟩ := hrel
    by_cases hgo : k < len ∧ costA f k < 20000
    · obtain ⟨hkl, h6⟩ := hgo
      obtain ⟨a, rfl, hok, hat⟩ := HF.out k hkl
      have hs := hok.2.2.2.1
      have ht := hok.2.2.2.2
      unfold maxLen at hs ht
      obtain ⟨_, _, _, c3, c4, _⟩ := hat
      have HC : Kp (costA f (k + 1) = costA f k + (20 + min (f k).s.size 20000 + min (f k).kl 20000)) := ⟨rfl⟩
      have t1 : decide ((costA f k : Int) < 20000) = true := by rw [decide_eq_true_eq]; omega
      clear hok
      generalize f k = q at c3 c4 hs ht HC
      obtain ⟨qw, qt, qn, qs, qo, ql, qc, qf⟩ := q
      simp only [] at c3 c4 hs ht HC
      generalize costA f k = C at h6 hc HC t1
      have HM : Kp (∀ z m : Nat, min z 20000 = m → (if (20000 : Int) < (z : Int) then (20000 : Int) else (z : Int)) = (m : Int)) := ⟨fun z m e => by split <;> omega⟩
      obtain ⟨m1, hm1⟩ : ∃ m, min qs.size 20000 = m := ⟨_, rfl⟩
      obtain ⟨m2, hm2⟩ : ∃ m, min ql 20000 = m := ⟨_, rfl⟩
      have hmin1 : min (qs.size : Int) 20000 = (m1 : Int) := by omega
      have hmin2 : min (ql : Int) 20000 = (m2 : Int) := by omega
      have hb1 : m1 ≤ 20000 := by omega
      have hb2 : m2 ≤ 20000 := by omega
      have HM1 := Kp.mk (HM.out _ m1 hm1)
      have HM2 := Kp.mk (HM.out _ m2 hm2)
      rw [hm1, hm2] at HC
      clear hm1 hm2 HM
      have hk0 : (0 : Int) ≤ (k : Int) := by omega
      have hk1 : (k : Int) < (len : Int) := by omega
      have n1 : IntKind.i64.wrap ((C : Int) + 20) = ((C + 20 : Nat) : Int) := by rw [IntKind.wrap_i64]; omega
      have n5 : IntKind.i64.wrap (((C + 20 : Nat) : Int) + (m1 : Int)) = ((C + 20 + m1 : Nat) : Int) := by rw [IntKind.wrap_i64]; omega
      have n6 : IntKind.i64.wrap (((C + 20 + m1 : Nat) : Int) + (m2 : Int)) = ((C + 20 + m1 + m2 : Nat) : Int) := by rw [IntKind.wrap_i64]; omega
      go_wp2_with fail
      go_quiet (fail)
      clear n1 n5 n6
      go_wp2
      go_roundw
      case rel => exact ⟨k + 1, _, by omega, by go_num, by rw [HC.out, HM1.out, HM2.out]; go_num, by rw [HC.out]; omega, rfl⟩
      case measure => simp [intOf]; omega
    · have HB2 : Kp (decide (20000 ≤ costA f k + costT g lb) = B) := ⟨by
        rw [← HB.out, Bool.eq_iff_iff, decide_eq_true_eq, decide_eq_true_eq]
        by_cases hkl : k < len
        · have := costA_mono f hk
          have : ¬ costA f k < 20000 := fun h => hgo ⟨hkl, h⟩
          omega
        · obtain rfl : k = len := by omega
          omega⟩
      by_cases hkl : k < len
      · have h6 : ¬ costA f k < 20000 := fun h => hgo ⟨hkl, h⟩
        have t1 : decide ((costA f k : Int) < 20000) = false := by rw [decide_eq_false_iff_not]; omega
        generalize costA f k = C at h6 hc t1 HB2
        have hc' := hc
        clear hc
        go_wp2
        obtain ⟨wo, hwo⟩ : ∃ wo : World, wo = w.drewN md := ⟨_, rfl⟩
        go_loopw [5, 7] (fun n i wr => ∃ j m : Nat, j ≤ lb ∧ i = .int .i64 j ∧ n = .int .i64 (C + costT g j) ∧ C + costT g j < 100100 ∧ wr = w.drewN m) (fun _ i _ => lb - (intOf i).toNat)
        case atStart => exact ⟨0, md, by omega, rfl, by simp [costT], by simp only [costT]; omega, rfl⟩
        case round =>
          obtain ⟨j, me, hj, rfl, rfl, hc2, rfl⟩ := hrel
          by_cases hgo2 : j < lb ∧ C + costT g j < 20000
          · obtain ⟨hjl, h6⟩ := hgo2
            obtain ⟨a, rfl, hs, ht, c0, c1⟩ := HGT.out j hjl
            unfold maxLen at hs ht
            have HC2 : Kp (costT g (j + 1) = costT g j + (20 + min (g j).1.size 20000 + min (g j).2.size 20000)) := ⟨rfl⟩
            have t1 : decide ((C : Int) + (costT g j : Int) < 20000) = true := by rw [decide_eq_true_eq]; omega
            generalize g j = q at c0 c1 hs ht HC2
            obtain ⟨qs, ql⟩ := q
            simp only [] at c0 c1 hs ht HC2
            generalize costT g j = E at h6 hc2 HC2 t1 ⊢
            have HM : Kp (∀ z m : Nat, min z 20000 = m → (if (20000 : Int) < (z : Int) then (20000 : Int) else (z : Int)) = (m : Int)) := ⟨fun z m e => by split <;> omega⟩
            obtain ⟨m1, hm1⟩ : ∃ m, min qs.size 20000 = m := ⟨_, rfl⟩
            obtain ⟨m2, hm2⟩ : ∃ m, min ql.size 20000 = m := ⟨_, rfl⟩
            have hmin1 : min (qs.size : Int) 20000 = (m1 : Int) := by omega
            have hmin2 : min (ql.size : Int) 20000 = (m2 : Int) := by omega
            have hb1 : m1 ≤ 20000 := by omega
            have hb2 : m2 ≤ 20000 := by omega
            have HM1 := Kp.mk (HM.out _ m1 hm1)
            have HM2 := Kp.mk (HM.out _ m2 hm2)
            rw [hm1, hm2] at HC2
            clear hm1 hm2 HM
            have hk0 : (0 : Int) ≤ (j : Int) := by omega
            have hk1 : (j : Int) < (lb : Int) := by omega
            have n1 : IntKind.i64.wrap ((C : Int) + (E : Int) + 20) = ((C + E + 20 : Nat) : Int) := by rw [IntKind.wrap_i64]; omega
            have n5 : IntKind.i64.wrap (((C + E + 20 : Nat) : Int) + (m1 : Int)) = ((C + E + 20 + m1 : Nat) : Int) := by rw [IntKind.wrap_i64]; omega
            have n6 : IntKind.i64.wrap (((C + E + 20 + m1 : Nat) : Int) + (m2 : Int)) = ((C + E + 20 + m1 + m2 : Nat) : Int) := by rw [IntKind.wrap_i64]; omega
            go_wp2_with fail
            go_quiet (fail)
            clear n1 n5 n6
            go_wp2
            go_roundw
            case rel => exact ⟨j + 1, _, by omega, by go_num, by rw [HC2.out, HM1.out, HM2.out]; go_num, by rw [HC2.out]; omega, rfl⟩
            case measure => simp [intOf]; omega
          · have HC3 : Kp (decide ((20000 : Int) ≤ (C : Int) + (costT g j : Int)) = B) := ⟨by
              rw [← HB2.out, Bool.eq_iff_iff, decide_eq_true_eq, decide_eq_true_eq]
              by_cases hjl : j < lb
              · have := costT_mono g hj
                have : ¬ C + costT g j < 20000 := fun h => hgo2 ⟨hjl, h⟩
                omega
              · obtain rfl : j = lb := by omega
                omega⟩
            by_cases hjl : j < lb
            · have h6 : ¬ C + costT g j < 20000 := fun h => hgo2 ⟨hjl, h⟩
              have t1 : decide ((C : Int) + (costT g j : Int) < 20000) = false := by rw [decide_eq_false_iff_not]; omega
              generalize costT g j = E at h6 hc2 t1 HC3 ⊢
              go_wp2
              go_ret
              exact ⟨ret_bool HC3.out, _, rfl⟩
            · obtain rfl : j = lb := by omega
              generalize costT g j = E at hc2 HC3 ⊢
              go_wp2
              go_ret
              exact ⟨ret_bool HC3.out, _, rfl⟩
      · obtain rfl : k = len := by omega
        generalize costA f k = C at hc HB2
        have hc' := hc
        clear hc
        go_wp2
        obtain ⟨wo, hwo⟩ : ∃ wo : World, wo = w.drewN md := ⟨_, rfl⟩
        go_loopw [5, 7] (fun n i wr => ∃ j m : Nat, j ≤ lb ∧ i = .int .i64 j ∧ n = .int .i64 (C + costT g j) ∧ C + costT g j < 100100 ∧ wr = w.drewN m) (fun _ i _ => lb - (intOf i).toNat)
        case atStart => exact ⟨0, md, by omega, rfl, by simp [costT], by simp only [costT]; omega, rfl⟩
        case round =>
          obtain ⟨j, me, hj, rfl, rfl, hc2, rfl⟩ := hrel
          by_cases hgo2 : j < lb ∧ C + costT g j < 20000
          · obtain ⟨hjl, h6⟩ := hgo2
            obtain ⟨a, rfl, hs, ht, c0, c1⟩ := HGT.out j hjl
            unfold maxLen at hs ht
            have HC2 : Kp (costT g (j + 1) = costT g j + (20 + min (g j).1.size 20000 + min (g j).2.size 20000)) := ⟨rfl⟩
            have t1 : decide ((C : Int) + (costT g j : Int) < 20000) = true := by rw [decide_eq_true_eq]; omega
            generalize g j = q at c0 c1 hs ht HC2
            obtain ⟨qs, ql⟩ := q
            simp only [] at c0 c1 hs ht HC2
            generalize costT g j = E at h6 hc2 HC2 t1 ⊢
            have HM : Kp (∀ z m : Nat, min z 20000 = m → (if (20000 : Int) < (z : Int) then (20000 : Int) else (z : Int)) = (m : Int)) := ⟨fun z m e => by split <;> omega⟩
            obtain ⟨m1, hm1⟩ : ∃ m, min qs.size 20000 = m := ⟨_, rfl⟩
            obtain ⟨m2, hm2⟩ : ∃ m, min ql.size 20000 = m := ⟨_, rfl⟩
            have hmin1 : min (qs.size : Int) 20000 = (m1 : Int) := by omega
            have hmin2 : min (ql.size : Int) 20000 = (m2 : Int) := by omega
            have hb1 : m1 ≤ 20000 := by omega
            have hb2 : m2 ≤ 20000 := by omega
            have HM1 := Kp.mk (HM.out _ m1 hm1)
            have HM2 := Kp.mk (HM.out _ m2 hm2)
            rw [hm1, hm2] at HC2
            clear hm1 hm2 HM
            have hk0 : (0 : Int) ≤ (j : Int) := by omega
            have hk1 : (j : Int) < (lb : Int) := by omega
            have n1 : IntKind.i64.wrap ((C : Int) + (E : Int) + 20) = ((C + E + 20 : Nat) : Int) := by rw [IntKind.wrap_i64]; omega
            have n5 : IntKind.i64.wrap (((C + E + 20 : Nat) : Int) + (m1 : Int)) = ((C + E + 20 + m1 : Nat) : Int) := by rw [IntKind.wrap_i64]; omega
            have n6 : IntKind.i64.wrap (((C + E + 20 + m1 : Nat) : Int) + (m2 : Int)) = ((C + E + 20 + m1 + m2 : Nat) : Int) := by rw [IntKind.wrap_i64]; omega
            go_wp2_with fail
            go_quiet (fail)
            clear n1 n5 n6
            go_wp2
            go_roundw
            case rel => exact ⟨j + 1, _, by omega, by go_num, by rw [HC2.out, HM1.out, HM2.out]; go_num, by rw [HC2.out]; omega, rfl⟩
            case measure => simp [intOf]; omega
          · have HC3 : Kp (decide ((20000 : Int) ≤ (C : Int) + (costT g j : Int)) = B) := ⟨by
              rw [← HB2.out, Bool.eq_iff_iff, decide_eq_true_eq, decide_eq_true_eq]
              by_cases hjl : j < lb
              · have := costT_mono g hj
                have : ¬ C + costT g j < 20000 := fun h => hgo2 ⟨hjl, h⟩
                omega
              · obtain rfl : j = lb := by omega
                omega⟩
            by_cases hjl : j < lb
            · have h6 : ¬ C + costT g j < 20000 := fun h => hgo2 ⟨hjl, h⟩
              have t1 : decide ((C : Int) + (costT g j : Int) < 20000) = false := by rw [decide_eq_false_iff_not]; omega
              generalize costT g j = E at h6 hc2 t1 HC3 ⊢
              go_wp2
              go_ret
              exact ⟨ret_bool HC3.out, _, rfl⟩
            · obtain rfl : j = lb := by omega
              generalize costT g j = E at hc2 HC3 ⊢
              go_wp2
              go_ret
              exact ⟨ret_bool HC3.out, _, rfl⟩
end Go.Proofs.Ytimfchjjdifbiaa
