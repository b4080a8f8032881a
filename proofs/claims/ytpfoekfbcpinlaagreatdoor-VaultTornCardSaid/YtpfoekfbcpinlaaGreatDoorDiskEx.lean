/- What comes in: a row of acts, each with a row of numbers; a row of tapes; long. -/
import Derived.Test.YtpfoekfbcpinlaaGreatDoorDiskLoad
import Derived.Deep.Slices
import Derived.Deep.Fields
import Derived.ChangeSame
namespace Go.Proofs.YtpfoekfbcpinlaaGreatDoor
open Go.RowKit Go.ChangeShapes Go.WideShapes Go.Deep
set_option linter.unusedVariables false

theorem wf_u8 {n : Int} (h : (Lit.int .u8 n).wf = true) : ∃ k : Nat, n = k ∧ k < 256 := by
  have h' : 0 ≤ n ∧ n < 256 := by
    simp [Lit.wf, IntKind.min, IntKind.max, IntKind.signed, IntKind.bits] at h
    omega
  exact ⟨n.toNat, by omega, by omega⟩
theorem wf_i64 {a : Int} (h : (Lit.int .i64 a).wf = true) : -9223372036854775808 ≤ a ∧ a ≤ 9223372036854775807 := by
  simp [Lit.wf, IntKind.min, IntKind.max, IntKind.signed, IntKind.bits] at h
  omega
theorem add_mul_one (a : Addr) (j : Nat) : (a.add (j * 1)).add 0 = a.add j := by
  obtain ⟨b, o, s⟩ := a
  unfold Addr.add
  cases s <;> simp
/-- A row of numbers at a slice. -/
def KeepAt (w : World) (ko : Option Addr) (kl : Nat) (kf : Nat → Int) : Prop := ∀ j, j < kl → ∃ a, ko = some a ∧ w.cell? (a.add j) = some (.int .i64 (kf j))
theorem keep_open {H : Type} {enc : TypeId × Value → H} {w : World} {base : Nat} {spare : Nat → Bool} {held : Bool} {fuel : Nat} {c : Value} {x : DataW H × List MemPlace} (h : DataW.trod enc Tryz.prog w base spare held fuel 36 [c] = some x) :
    ∃ (ko : Option Addr) (kl kc : Nat) (kf : Nat → Int), c = .slice ko kl kc ∧ kl ≤ maxLen ∧ KeepAt w ko kl kf := by
  rcases open_slice Tryz.underlying36 h with ⟨h0, _⟩ | ⟨a, len, cap, m, n, D, Pl, hcs, _, hlc, hcm, hm, _, hi⟩
  · exact ⟨none, 0, 0, fun _ => 0, by simpa using h0, by decide, fun i hi => absurd hi (Nat.not_lt_zero i)⟩
  · have hk : Tryz.prog.cellsOf 3 = 1 := by kernel_rfl
    have hex : ∀ i, ∃ q : Int, i < len → w.cell? (a.add i) = some (.int .i64 q) := fun i => by
      by_cases hl : i < len
      · obtain ⟨cs', h1, h2⟩ := hi i (by rw [hm]; split <;> omega)
        rw [hk] at h1
        obtain ⟨_, hcl, hat⟩ := World.cells?_some h1
        match cs', hcl with
        | [z], _ =>
          obtain ⟨n0, r0, _, w0⟩ := DataW.trod_int Tryz.underlying3 h2
          simp only [List.cons.injEq, and_true] at r0
          subst r0
          refine ⟨n0, fun _ => ?_⟩
          have := hat 0 (by decide)
          rw [add_mul_one] at this
          exact this
      · exact ⟨0, fun h => absurd h hl⟩
    obtain ⟨kf, hf⟩ := Classical.axiomOfChoice hex
    exact ⟨some a, len, cap, kf, by simpa using hcs, by omega, fun i hi => ⟨a, rfl, hf i hi⟩⟩
structure ActV where
  what : Nat
  t : Int
  n : Int
  s : ByteArray
  ko : Option Addr
  kl : Nat
  kc : Nat
  kf : Nat → Int
def ActV.v (q : ActV) : Value := .agg #[.int .u8 q.what, .int .i64 q.t, .int .i64 q.n, .string q.s, .slice q.ko q.kl q.kc]
def ActV.ok (q : ActV) : Prop := q.what < 256 ∧ (-9223372036854775808 ≤ q.t ∧ q.t ≤ 9223372036854775807) ∧ (-9223372036854775808 ≤ q.n ∧ q.n ≤ 9223372036854775807) ∧ q.s.size ≤ maxLen ∧ q.kl ≤ maxLen
/-- An act at a place. -/
def ActAt (w : World) (a : Addr) (q : ActV) : Prop :=
  w.cell? a = some (.int .u8 q.what) ∧ w.cell? ⟨a.block, a.off + 1, none⟩ = some (.int .i64 q.t) ∧ w.cell? ⟨a.block, a.off + 2, none⟩ = some (.int .i64 q.n) ∧ w.cell? ⟨a.block, a.off + 3, none⟩ = some (.string q.s) ∧ w.cell? ⟨a.block, a.off + 4, none⟩ = some (.slice q.ko q.kl q.kc) ∧ KeepAt w q.ko q.kl q.kf
theorem cell_below {w W : World} {a : Addr} {v : Value} (h : w.cell? a = some v) (hb : Below w.heap.size w W) : W.cell? a = some v := (hb.cell (World.block_lt_of_cell? w a h)).trans h
theorem KeepAt.below {w W : World} {ko : Option Addr} {kl : Nat} {kf : Nat → Int} (h : KeepAt w ko kl kf) (hb : Below w.heap.size w W) : KeepAt W ko kl kf := fun j hj => by
  obtain ⟨a, h1, h2⟩ := h j hj
  exact ⟨a, h1, cell_below h2 hb⟩
theorem ActAt.below {w W : World} {a : Addr} {q : ActV} (h : ActAt w a q) (hb : Below w.heap.size w W) : ActAt W a q := by
  obtain ⟨h0, h1, h2, h3, h4, h5⟩ := h
  exact ⟨cell_below h0 hb, cell_below h1 hb, cell_below h2 hb, cell_below h3 hb, cell_below h4 hb, h5.below hb⟩
/-- A row of acts that came in. -/
def ActsIn (w : World) (ao : Option Addr) (len : Nat) (f : Nat → ActV) : Prop := ∀ W, Below w.heap.size w W → ∀ i, i < len → ∃ a, ao = some a ∧ (f i).ok ∧ ActAt W (a.add (i * 5)) (f i)
/-- A row of tapes that came in, of any sizes. -/
def TapesAt (w : World) (ao : Option Addr) (len : Nat) (f : Nat → ByteArray × ByteArray) : Prop :=
  ∀ W, Below w.heap.size w W → ∀ i, i < len → ∃ a, ao = some a ∧ (f i).1.size ≤ maxLen ∧ (f i).2.size ≤ maxLen ∧ W.cell? (a.add (i * 2)) = some (.string (f i).1) ∧ W.cell? ⟨(a.add (i * 2)).block, (a.add (i * 2)).off + 1, none⟩ = some (.string (f i).2)
set_option maxRecDepth 100000 in
theorem tapes_open {H : Type} {enc : TypeId × Value → H} {w : World} {base : Nat} {spare : Nat → Bool} {held : Bool} {v : Value} {d : DataW H} {ps : List MemPlace}
    (hv : v.cells.toList = [v]) (h : DataW.Trod enc Tryz.prog w base spare held 44 v d ps) :
    ∃ (ao : Option Addr) (len cap : Nat) (f : Nat → ByteArray × ByteArray), v = .slice ao len cap ∧ len ≤ maxLen ∧ TapesAt w ao len f := by
  obtain ⟨fuel, h⟩ := h
  rw [hv] at h
  rcases open_slice Tryz.underlying44 h with ⟨h0, _⟩ | ⟨a, len, cap, m, n, D, Pl, hcs, _, hlc, hcm, hm, _, hi⟩
  · exact ⟨none, 0, 0, fun _ => (⟨#[]⟩, ⟨#[]⟩), by simpa using h0, by decide, fun W _ i hi => absurd hi (Nat.not_lt_zero i)⟩
  · have hk : Tryz.prog.cellsOf 97 = 2 := by kernel_rfl
    have hex : ∀ i, ∃ q : ByteArray × ByteArray, i < len → q.1.size ≤ maxLen ∧ q.2.size ≤ maxLen ∧ w.cell? (a.add (i * 2)) = some (.string q.1) ∧ w.cell? ⟨(a.add (i * 2)).block, (a.add (i * 2)).off + 1, none⟩ = some (.string q.2) := fun i => by
      by_cases hl : i < len
      · obtain ⟨cs', h1, h2⟩ := hi i (by rw [hm]; split <;> omega)
        rw [hk] at h1
        obtain ⟨_, hcl, hat⟩ := World.cells?_some h1
        obtain ⟨xs, n, _, _, _, hxl, hf⟩ := DataW.trod_struct Tryz.underlying97 h2
        match cs', hcl with
        | [c0, c1], _ =>
          have g0 := hf 0 _ rfl
          have g1 := hf 1 _ rfl
          have k_string : Tryz.prog.cellsOf 9 = 1 := by kernel_rfl
          match xs, hxl with
          | [y0, y1], _ =>
            have e0 : DataW.trod enc Tryz.prog w base spare held n 9 [c0] = some y0 := by simpa [k_string] using g0
            have e1 : DataW.trod enc Tryz.prog w base spare held n 9 [c1] = some y1 := by simpa [k_string] using g1
            obtain ⟨n0, r0, _, w0⟩ := DataW.trod_string Tryz.underlying9 e0
            obtain ⟨n1, r1, _, w1⟩ := DataW.trod_string Tryz.underlying9 e1
            simp only [List.cons.injEq, and_true] at r0 r1
            subst r0 r1
            have h0 := hat 0 (by decide)
            generalize a.add (i * 2) = p at h0 hat
            rw [show p.add 0 = p from by obtain ⟨b, o, s⟩ := p; unfold Addr.add; cases s <;> simp] at h0
            exact ⟨(n0, n1), fun _ => ⟨w0, w1, h0, hat 1 (by decide)⟩⟩
      · exact ⟨(⟨#[]⟩, ⟨#[]⟩), fun h => absurd h hl⟩
    obtain ⟨f, hf⟩ := Classical.axiomOfChoice hex
    exact ⟨some a, len, cap, f, by simpa using hcs, by omega, fun W hW i hi => by
      obtain ⟨h1, h2, h3, h4⟩ := hf i hi
      exact ⟨a, rfl, h1, h2, cell_below h3 hW, cell_below h4 hW⟩⟩
/-- What acts, and tapes, cost. -/
def costA (f : Nat → ActV) : Nat → Nat
  | 0 => 0
  | k + 1 => costA f k + (20 + min (f k).s.size 20000 + min (f k).kl 20000)
def costT (f : Nat → ByteArray × ByteArray) : Nat → Nat
  | 0 => 0
  | k + 1 => costT f k + (20 + min (f k).1.size 20000 + min (f k).2.size 20000)
theorem costA_mono (f : Nat → ActV) {a b : Nat} (h : a ≤ b) : costA f a ≤ costA f b := by
  induction b with
  | zero => obtain rfl : a = 0 := by omega
            exact Nat.le_refl _
  | succ b ih =>
    by_cases e : a = b + 1
    · subst e; exact Nat.le_refl _
    · have := ih (by omega)
      rw [costA]; omega
theorem costT_mono (f : Nat → ByteArray × ByteArray) {a b : Nat} (h : a ≤ b) : costT f a ≤ costT f b := by
  induction b with
  | zero => obtain rfl : a = 0 := by omega
            exact Nat.le_refl _
  | succ b ih =>
    by_cases e : a = b + 1
    · subst e; exact Nat.le_refl _
    · have := ih (by omega)
      rw [costT]; omega
theorem small_act (f : Nat → ActV) (n i : Nat) (h : costA f n < 20000) (hi : i < n) : (f i).s.size < 20000 ∧ (f i).kl < 20000 := by
  have h1 := costA_mono f (show i + 1 ≤ n from hi)
  rw [costA] at h1
  omega
theorem small_tape (f : Nat → ByteArray × ByteArray) (n i : Nat) (h : costT f n < 20000) (hi : i < n) : (f i).1.size < 20000 ∧ (f i).2.size < 20000 := by
  have h1 := costT_mono f (show i + 1 ≤ n from hi)
  rw [costT] at h1
  omega
theorem TapesAt.small {w : World} {ao : Option Addr} {len : Nat} {f : Nat → ByteArray × ByteArray} (h : TapesAt w ao len f) (hc : costT f len < 20000) : TapesIn w ao len f := fun W hW i hi => by
  obtain ⟨a, h1, _, _, h2, h3⟩ := h W hW i hi
  obtain ⟨s1, s2⟩ := small_tape f len i hc hi
  exact ⟨a, h1, by omega, by omega, h2, h3⟩
end Go.Proofs.YtpfoekfbcpinlaaGreatDoor
/- do: what comes of an act; what is there behind acts stays as disks are; made; has. -/
namespace Go.Proofs.YtpfoekfbcpinlaaGreatDoor
open Go.RowKit
set_option linter.unusedVariables false

/-! ### Disks stay as they are made -/
theorem used_set (tp : Nat → TapeV) (t : Nat) (x : TapeV) : ∀ k, used (fun j => if j = t then x else tp j) k + (if t < k then (tp t).b.size else 0) = used tp k + (if t < k then x.b.size else 0)
  | 0 => by simp [used]
  | k + 1 => by
    have ih := used_set tp t x k
    show used _ k + (if k = t then x else tp k).b.size + _ = used tp k + (tp k).b.size + _
    by_cases h : k = t
    · subst h
      rw [if_pos rfl, if_pos (by omega), if_pos (by omega)]
      rw [if_neg (by omega), if_neg (by omega)] at ih
      omega
    · rw [if_neg h]
      by_cases h2 : t < k
      · rw [if_pos (by omega), if_pos (by omega)]
        rw [if_pos h2, if_pos h2] at ih
        omega
      · rw [if_neg (by omega), if_neg (by omega)]
        rw [if_neg h2, if_neg h2] at ih
        omega
theorem used_setT (D : DiskV) (t : Nat) (x : TapeV) (ht : t < 32) : used (setT D t x).tp 32 + (D.tp t).b.size = used D.tp 32 + x.b.size := by
  have := used_set D.tp t x 32
  rw [if_pos ht, if_pos ht] at this
  exact this
theorem Ok.set {D : DiskV} (h : Ok D) (t : Nat) (ht : t < 32) (x : TapeV) (h1 : x.firm ≤ x.b.size) (h2 : x.b.size ≤ 1048576) (h3 : (used D.tp 32 : Int) + x.b.size - (D.tp t).b.size ≤ D.cap) : Ok (setT D t x) := by
  have hu := used_setT D t x ht
  refine ⟨fun k hk => ?_, fun k hk => ?_, h.cap, h.cap2, ?_, h.left, h.left2, h.ready⟩
  · by_cases e : k = t
    · subst e; rw [setT_same]; exact h1
    · rw [setT_other _ _ _ _ e]; exact h.firm k hk
  · by_cases e : k = t
    · subst e; rw [setT_same]; exact h2
    · rw [setT_other _ _ _ _ e]; exact h.most k hk
  · show (used (setT D t x).tp 32 : Int) ≤ D.cap
    omega
theorem Ok.fails {D : DiskV} (h : Ok D) (hd : D.down = false) : Ok (failsV D).2 := by
  unfold failsV
  split
  · exact h
  · rename_i hc
    have hr := h.ready (by simpa using hc) hd
    have := h.left2
    refine ⟨h.firm, h.most, h.cap, h.cap2, h.room, ?_, ?_, ?_⟩
    · show -1 ≤ D.left - 1; omega
    · show D.left - 1 ≤ _; omega
    · intro _ h2
      have h2 : decide (D.left - 1 < 0) = false := h2
      rw [decide_eq_false_iff_not] at h2
      show 0 ≤ D.left - 1
      omega
theorem fails_cap (D : DiskV) : (failsV D).2.cap = D.cap := by unfold failsV; split <;> rfl
theorem Ok.op {D : DiskV} (h : Ok D) (t may : Int) (dov torn : TapeV → TapeV)
    (h1 : ∀ k : Nat, t = k → k < 32 → may = 0 → (dov (D.tp k)).firm ≤ (dov (D.tp k)).b.size ∧ (dov (D.tp k)).b.size ≤ 1048576 ∧ (used D.tp 32 : Int) + (dov (D.tp k)).b.size - (D.tp k).b.size ≤ D.cap)
    (h2 : ∀ k : Nat, t = k → k < 32 → may = 0 → (torn (D.tp k)).firm ≤ (torn (D.tp k)).b.size ∧ (torn (D.tp k)).b.size ≤ 1048576 ∧ (used D.tp 32 : Int) + (torn (D.tp k)).b.size - (D.tp k).b.size ≤ D.cap) : Ok (opV D t may dov torn).2 := by
  unfold opV
  split
  · exact h
  · rename_i hd
    split
    · exact h
    · rename_i ht
      split
      · exact h
      · rename_i hm
        obtain ⟨k, rfl, hk⟩ : ∃ k : Nat, t = k ∧ k < 32 := ⟨t.toNat, by omega, by omega⟩
        have hm0 : may = 0 := by omega
        rw [Int.toNat_natCast]
        have hf := h.fails (by simpa using hd)
        split
        · obtain ⟨a, b, c⟩ := h2 k rfl hk hm0
          exact hf.set k hk _ a b (by rw [fails_tp, fails_cap]; exact c)
        · obtain ⟨a, b, c⟩ := h1 k rfl hk hm0
          exact hf.set k hk _ a b (by rw [fails_tp, fails_cap]; exact c)
theorem Ok.id_torn {D : DiskV} (h : Ok D) (k : Nat) (hk : k < 32) : (id (D.tp k)).firm ≤ (id (D.tp k)).b.size ∧ (id (D.tp k)).b.size ≤ 1048576 ∧ (used D.tp 32 : Int) + (id (D.tp k)).b.size - (D.tp k).b.size ≤ D.cap :=
  ⟨h.firm k hk, h.most k hk, by have := h.room; show (used D.tp 32 : Int) + (D.tp k).b.size - (D.tp k).b.size ≤ D.cap; omega⟩
theorem Ok.sync {D : DiskV} (h : Ok D) (t : Int) : Ok (syncV D t).2 :=
  h.op t 0 _ id (fun k _ hk _ => ⟨Nat.le_refl _, h.most k hk, by have := h.room; show (used D.tp 32 : Int) + (D.tp k).b.size - (D.tp k).b.size ≤ D.cap; omega⟩) (fun k _ hk _ => h.id_torn k hk)
theorem Ok.wipe {D : DiskV} (h : Ok D) (t : Int) : Ok (wipeV D t).2 :=
  h.op t 0 _ id (fun k _ hk _ => ⟨Nat.le_refl _, Nat.zero_le _, by have := h.room; show (used D.tp 32 : Int) + ((0 : Nat) : Int) - (D.tp k).b.size ≤ D.cap; omega⟩) (fun k _ hk _ => h.id_torn k hk)
theorem Ok.trim {D : DiskV} (h : Ok D) (t n : Int) : Ok (trimV D t n).2 :=
  h.op t _ _ id (fun k hk1 hk hm => by
    subst hk1
    rw [Int.toNat_natCast] at hm
    have hn : 0 ≤ n ∧ n ≤ ((D.tp k).b.size : Int) := by unfold trimMay at hm; split at hm <;> omega
    have := h.room
    have := h.most k hk
    have he : ((D.tp k).b.extract 0 n.toNat).size = n.toNat := extract_size _ _ (by omega)
    exact ⟨by show n.toNat ≤ ((D.tp k).b.extract 0 n.toNat).size; omega, by show ((D.tp k).b.extract 0 n.toNat).size ≤ _; omega, by show (used D.tp 32 : Int) + ((D.tp k).b.extract 0 n.toNat).size - (D.tp k).b.size ≤ D.cap; omega⟩) (fun k _ hk _ => h.id_torn k hk)
theorem Ok.write {D : DiskV} (h : Ok D) (t : Int) (s : ByteArray) : Ok (writeV D t s).2 := by
  have key : ∀ k : Nat, t = k → k < 32 → writeMay D (D.tp t.toNat).b s = 0 → (D.tp k).firm ≤ ((D.tp k).b ++ s).size ∧ ((D.tp k).b ++ s).size ≤ 1048576 ∧ (used D.tp 32 : Int) + ((D.tp k).b ++ s).size - (D.tp k).b.size ≤ D.cap := fun k hk1 hk hm => by
    subst hk1
    rw [Int.toNat_natCast] at hm
    have := h.firm k hk
    have hsz : ((D.tp k).b ++ s).size = (D.tp k).b.size + s.size := ByteArray.size_append
    unfold writeMay at hm
    split at hm
    · omega
    · split at hm
      · omega
      · omega
  exact h.op t _ _ _ key key
theorem Ok.failV {D : DiskV} (h : Ok D) (n : Int) (hn : n ≤ 9223372036854775807) : Ok (failV D n).2 := by
  unfold Go.Proofs.YtpfoekfbcpinlaaGreatDoor.failV
  split
  · exact h
  · split
    · exact h
    · rename_i h0
      exact ⟨h.firm, h.most, h.cap, h.cap2, h.room, by show -1 ≤ n; omega, hn, fun _ _ => by show 0 ≤ n; omega⟩
theorem used_mono {a b : Nat → TapeV} (h : ∀ t, t < 32 → (a t).b.size ≤ (b t).b.size) : ∀ k, k ≤ 32 → used a k ≤ used b k
  | 0, _ => Nat.le_refl _
  | k + 1, hk => by
    have := used_mono h k (by omega)
    have := h k (by omega)
    rw [used, used]; omega
/-- A tape behind a Back: what was firm, and a beginning of what was loose; all of it is firm. -/
theorem back_tape (D : DiskV) (h : ∀ t, t < 32 → (D.tp t).firm ≤ (D.tp t).b.size) (kl : Nat) (kf : Nat → Int) : ∀ k t, t < k → k ≤ 32 → ∃ n, (D.tp t).firm ≤ n ∧ n ≤ (D.tp t).b.size ∧ (backT kl kf D.tp k).1 t = ⟨(D.tp t).b.extract 0 n, n⟩
  | 0, _, h1, _ => absurd h1 (Nat.not_lt_zero _)
  | k + 1, t, h1, h2 => by
    show ∃ n, _ ∧ _ ∧ (if t = k then (backS kl kf (D.tp k) (backT kl kf D.tp k).2).1 else (backT kl kf D.tp k).1 t) = _
    by_cases e : t = k
    · subst e
      rw [if_pos rfl]
      have hf := h t (by omega)
      unfold backS
      by_cases e2 : (D.tp t).b.size = (D.tp t).firm
      · rw [if_pos e2]
        refine ⟨(D.tp t).firm, Nat.le_refl _, hf, ?_⟩
        show D.tp t = ⟨(D.tp t).b.extract 0 (D.tp t).firm, (D.tp t).firm⟩
        rw [← e2, ByteArray.extract_zero_size]
        rw [e2]
      · rw [if_neg e2]
        have := backN_le kl kf (D.tp t) (backT kl kf D.tp t).2
        exact ⟨_, Nat.le_add_right _ _, by omega, rfl⟩
    · rw [if_neg e]
      exact back_tape D h kl kf k t (by omega) (by omega)
theorem Ok.back {D : DiskV} (h : Ok D) (kl : Nat) (kf : Nat → Int) : Ok (backV D kl kf) := by
  have hb := fun t ht => back_tape D h.firm kl kf 32 t ht (Nat.le_refl _)
  have hs : ∀ t, t < 32 → ((backT kl kf D.tp 32).1 t).b.size ≤ (D.tp t).b.size ∧ ((backT kl kf D.tp 32).1 t).firm ≤ ((backT kl kf D.tp 32).1 t).b.size := fun t ht => by
    obtain ⟨n, h1, h2, h3⟩ := hb t ht
    rw [h3]
    simp only [extract_size _ _ h2]
    omega
  refine ⟨fun t ht => (hs t ht).2, fun t ht => Nat.le_trans (hs t ht).1 (h.most t ht), h.cap, h.cap2, ?_, by show (-1 : Int) ≤ 0; decide, by show (0 : Int) ≤ _; decide, fun h => by cases h⟩
  have := used_mono (fun t ht => (hs t ht).1) 32 (Nat.le_refl _)
  have := h.room
  show (used (backT kl kf D.tp 32).1 32 : Int) ≤ D.cap
  omega
/-! ### do -/
/-- What comes of an act. -/
def doV (D : DiskV) (a : ActV) : (ByteArray × Int) × DiskV :=
  match a.what with
  | 0 => ((⟨#[]⟩, (writeV D a.t a.s).1), (writeV D a.t a.s).2)
  | 1 => ((⟨#[]⟩, (syncV D a.t).1), (syncV D a.t).2)
  | 2 => ((⟨#[]⟩, (trimV D a.t a.n).1), (trimV D a.t a.n).2)
  | 3 => ((⟨#[]⟩, (wipeV D a.t).1), (wipeV D a.t).2)
  | 4 => (readV D a.t, D)
  | 5 => ((⟨#[]⟩, (failV D a.n).1), (failV D a.n).2)
  | _ + 6 => ((⟨#[]⟩, 0), backV D a.kl a.kf)
theorem Ok.act {D : DiskV} (h : Ok D) (a : ActV) (ha : a.ok) : Ok (doV D a).2 := by
  unfold doV
  split
  · exact h.write _ _
  · exact h.sync _
  · exact h.trim _ _
  · exact h.wipe _
  · exact h
  · exact h.failV _ ha.2.2.1.2
  · exact h.back _ _
theorem cells5 {w : World} {k : Nat} {a b c d e : Value} {t : TypeId} (h : w.heap[k]? = some (.cells #[a, b, c, d, e] t (0, 0))) : w.cell? ⟨k, 0, none⟩ = some a ∧ w.cell? ⟨k, 1, none⟩ = some b ∧ w.cell? ⟨k, 2, none⟩ = some c ∧ w.cell? ⟨k, 3, none⟩ = some d ∧ w.cell? ⟨k, 4, none⟩ = some e := by
  refine ⟨?_, ?_, ?_, ?_, ?_⟩ <;> simp [World.cell?, h]
end Go.Proofs.YtpfoekfbcpinlaaGreatDoor
/- The chapter's example; has; awake; made. -/
namespace Go.Proofs.YtpfoekfbcpinlaaGreatDoor
open Go.RowKit
set_option linter.unusedVariables false

def sABCD : ByteArray := ⟨#[97, 98, 99, 100]⟩
def sEFG : ByteArray := ⟨#[101, 102, 103]⟩
def ex0 : DiskV := ⟨fun _ => blank, 10, false, 0, false⟩
def ex1 : DiskV := (writeV ex0 2 sABCD).2
def ex2 : DiskV := (syncV ex1 2).2
def ex3 : DiskV := (writeV ex2 2 sEFG).2
theorem ok_ex0 : Ok ex0 := ⟨fun _ _ => Nat.le_refl _, fun _ _ => Nat.zero_le _, by decide, by decide, by decide, by decide, by decide, fun h => by cases h⟩
theorem ok_ex1 : Ok ex1 := ok_ex0.write _ _
theorem ok_ex2 : Ok ex2 := ok_ex1.sync _
theorem ok_ex3 : Ok ex3 := ok_ex2.write _ _
theorem ex1_0 : (writeV ex0 2 sABCD).1 = 0 := by rfl
theorem ex2_0 : (syncV ex1 2).1 = 0 := by rfl
theorem ex3_0 : (writeV ex2 2 sEFG).1 = 0 := by rfl
theorem keep_one (w : World) : ∀ W, (∀ k, k = w.heap.size → W.heap[k]? = some (.cells #[.int .i64 2] 3 (0, 0))) → KeepAt W (some ⟨w.heap.size, 0, none⟩) 1 (fun _ => 2) := fun W h j hj => by
  obtain rfl : j = 0 := by omega
  refine ⟨_, rfl, ?_⟩
  rw [Addr.add_lit, Nat.zero_add, cell_of_row _ _ _ _ _ _ (h _ rfl)]
  rfl
def exA : DiskV := backV ex3 1 (fun _ => 2)
def exB : DiskV := backV ex3 0 (fun _ => 0)
def exC : DiskV := (failV ex3 1).2
def exD : DiskV := (syncV exC 2).2
def exE : DiskV := (writeV exD 2 ⟨#[104]⟩).2
theorem ok_exB : Ok exB := ok_ex3.back _ _
theorem ok_exC : Ok exC := ok_ex3.failV 1 (by decide)
theorem ok_exD : Ok exD := ok_exC.sync _
theorem ok_exE : Ok exE := ok_exD.write _ _
/-! ### made -/
theorem op_cap (D : DiskV) (t may : Int) (dov torn : TapeV → TapeV) : (opV D t may dov torn).2.cap = D.cap := by
  unfold opV
  split
  · rfl
  · split
    · rfl
    · split
      · rfl
      · split <;> exact fails_cap D
theorem do_cap (D : DiskV) (a : ActV) : (doV D a).2.cap = D.cap := by
  unfold doV
  split
  · exact op_cap _ _ _ _ _
  · exact op_cap _ _ _ _ _
  · exact op_cap _ _ _ _ _
  · exact op_cap _ _ _ _ _
  · rfl
  · show (failV D a.n).2.cap = D.cap
    unfold failV
    split
    · rfl
    · split <;> rfl
  · rfl
/-- Load, of any tapes. -/
theorem dLoad_any (c : Int) (ao : Option Addr) (len cap : Nat) (f : Nat → ByteArray × ByteArray) (w : World) (hl : len ≤ maxLen) (hc : c ≤ 9223372036854775807) (hf : TapesIn w ao len f) :
    Calls Tryz.prog 30 #[.int .i64 c, .slice ao len cap] w fun e w' => ((∃ er, (er = 1 ∨ er = 40 ∨ er = 44) ∧ e = .returned (.tuple #[.pointer none, .int .i64 er])) ∨
      (0 ≤ c ∧ e = .returned (.tuple #[.pointer (some ⟨w.heap.size, 0, none⟩), .int .i64 0]) ∧ DiskAt w' w.heap.size (loadD f c len) ∧ Ok (loadD f c len))) ∧ Below w.heap.size w w' := by
  by_cases h : c < 0 ∨ 32 < len
  · refine (Load_arg c ao len cap w hl h).mono fun e w' ⟨he, hw⟩ => ?_
    subst hw
    exact ⟨.inl ⟨1, .inl rfl, he⟩, Below.refl _ _⟩
  · refine (Load_go c ao len cap f w (by omega) (by omega) hc hf).mono fun e w' ⟨hv, hb⟩ => ⟨?_, hb⟩
    rcases hv with ⟨_, he⟩ | ⟨_, _, he⟩ | ⟨hn, hr, he, hd⟩
    · exact .inl ⟨40, .inr (.inl rfl), he⟩
    · exact .inl ⟨44, .inr (.inr rfl), he⟩
    · exact .inr ⟨by omega, he, hd, load_ok f c len hn (by omega) hc hr⟩
end Go.Proofs.YtpfoekfbcpinlaaGreatDoor
