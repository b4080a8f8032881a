/- For VaultTorn: texts that came in, tapes that are the same. -/
import Derived.Test.YtpfoekfbcpinlaaGreatDoorVpTorn
import Derived.Test.YtpfoekfbcpinlaaGreatDoorRefReadBig
namespace Go.Proofs.YtpfoekfbcpinlaaGreatDoor
open Go.RowKit Go.ChangeShapes Go.WideShapes Go.Deep
set_option linter.unusedVariables false

theorem strs_open {H : Type} {enc : TypeId × Value → H} {w : World} {base : Nat} {spare : Nat → Bool} {held : Bool} {v : Value} {d : DataW H} {ps : List MemPlace}
    (hv : v.cells.toList = [v]) (h : DataW.Trod enc Tryz.prog w base spare held 22 v d ps) :
    ∃ (ao : Option Addr) (len cap : Nat) (f : Nat → ByteArray), v = .slice ao len cap ∧ len ≤ maxLen ∧ ((ao = none ∧ len = 0 ∧ cap = 0) ∨ ∃ a, ao = some a) ∧ StrIn w ao len f ∧ ∀ i, i < len → (f i).size ≤ maxLen := by
  obtain ⟨fuel, h⟩ := h
  rw [hv] at h
  rcases open_slice Tryz.underlying22 h with ⟨h0, _⟩ | ⟨a, len, cap, m, n, D, Pl, hcs, _, hlc, hcm, hm, _, hi⟩
  · exact ⟨none, 0, 0, fun _ => ⟨#[]⟩, by simpa using h0, by decide, .inl ⟨rfl, rfl, rfl⟩, fun W _ i hi => absurd hi (Nat.not_lt_zero i), fun i hi => absurd hi (Nat.not_lt_zero i)⟩
  · have hk : Tryz.prog.cellsOf 9 = 1 := by kernel_rfl
    have hex : ∀ i, ∃ q : ByteArray, i < len → w.cell? (a.add i) = some (.string q) ∧ q.size ≤ maxLen := fun i => by
      by_cases hl : i < len
      · obtain ⟨cs', h1, h2⟩ := hi i (by rw [hm]; split <;> omega)
        rw [hk] at h1
        obtain ⟨_, hcl, hat⟩ := World.cells?_some h1
        match cs', hcl with
        | [z], _ =>
          obtain ⟨n0, r0, _, w0⟩ := DataW.trod_string Tryz.underlying9 h2
          simp only [List.cons.injEq, and_true] at r0
          subst r0
          refine ⟨n0, fun _ => ⟨?_, w0⟩⟩
          have := hat 0 (by decide)
          rw [add_mul_one] at this
          exact this
      · exact ⟨⟨#[]⟩, fun h => absurd h hl⟩
    obtain ⟨f, hf⟩ := Classical.axiomOfChoice hex
    exact ⟨some a, len, cap, f, by simpa using hcs, by omega, .inr ⟨_, rfl⟩, fun W hW i hi => ⟨a, rfl, cell_below (hf i hi).1 hW⟩, fun i hi => (hf i hi).2⟩
/-- The texts as lists of bytes. -/
def txtL (f : Nat → ByteArray) (n : Nat) : List (List UInt8) := (List.range n).map fun j => (f j).data.toList
theorem txtL_len (f : Nat → ByteArray) (n : Nat) : (txtL f n).length = n := by simp [txtL]
theorem txtL_get (f : Nat → ByteArray) {n j : Nat} (h : j < n) : (txtL f n).getD j [] = (f j).data.toList := by
  unfold txtL
  rw [List.getD_eq_getElem?_getD, List.getElem?_map, List.getElem?_range h]; rfl
theorem txtL_succ (f : Nat → ByteArray) (n : Nat) : txtL f (n + 1) = txtL f n ++ [(f n).data.toList] := by
  unfold txtL
  rw [List.range_succ, List.map_append]; rfl
theorem StrIn.src {w : World} {ao : Option Addr} {len cap : Nat} {f : Nat → ByteArray} (h : StrIn w ao len f) (hs : (ao = none ∧ len = 0 ∧ cap = 0) ∨ ∃ a, ao = some a) (W : World) (hb : Below w.heap.size w W) : Src 1 W (.slice ao len cap) len (recC (txtL f len)) := by
  refine ⟨by rw [recC_len, txtL_len]; omega, ?_⟩
  rcases hs with ⟨rfl, rfl, rfl⟩ | ⟨a, rfl⟩
  · exact .inl ⟨rfl, rfl⟩
  · refine .inr ⟨a, cap, rfl, fun j x hx => ?_⟩
    have hj : j < len := by
      rcases Nat.lt_or_ge j len with h1 | h1
      · exact h1
      · rw [List.getElem?_eq_none (by rw [recC_len, txtL_len]; exact h1)] at hx; cases hx
    obtain ⟨a', e, hc⟩ := h W hb j hj
    obtain rfl := Option.some.inj e
    have hg := recC_get (txtL f len) j (by rw [txtL_len]; exact hj)
    rw [hg] at hx
    obtain rfl := Option.some.inj hx
    rw [hc]
    have : (txtL f len)[j]'(by rw [txtL_len]; exact hj) = (f j).data.toList := by simp [txtL]
    rw [this, Vp.B_of]
def costT10 (f : Nat → ByteArray) : Nat → Nat
  | 0 => 0
  | k + 1 => costT10 f k + (30 + min 3000 (f k).size)
def sumT10 (f : Nat → ByteArray) : Nat → Nat
  | 0 => 0
  | k + 1 => sumT10 f k + ((f k).size + 9)
theorem costT10_mono (f : Nat → ByteArray) {a b : Nat} (h : a ≤ b) : costT10 f a ≤ costT10 f b := by
  induction b with
  | zero => obtain rfl : a = 0 := by omega
            exact Nat.le_refl _
  | succ b ih =>
    by_cases e : a = b + 1
    · subst e; exact Nat.le_refl _
    · have := ih (by omega)
      show _ ≤ costT10 f b + _
      omega
theorem costT10_small (f : Nat → ByteArray) (n i : Nat) (h : costT10 f n < 3000) (hi : i < n) : (f i).size < 3000 := by
  have h1 := costT10_mono f (show i + 1 ≤ n by omega)
  have h2 : costT10 f (i + 1) = costT10 f i + (30 + min 3000 (f i).size) := rfl
  omega
theorem sumT10_cost (f : Nat → ByteArray) (n : Nat) (h : costT10 f n < 3000) : ∀ k, k ≤ n → sumT10 f k + 21 * k = costT10 f k
  | 0, _ => rfl
  | k + 1, hk => by
    have ih := sumT10_cost f n h k (by omega)
    have := costT10_small f n k h (by omega)
    show sumT10 f k + ((f k).size + 9) + 21 * (k + 1) = costT10 f k + (30 + min 3000 (f k).size)
    omega
set_option maxRecDepth 20000 in
set_option maxHeartbeats 1000000 in
/-- Tapes that are the same. -/
theorem Tapes_yes (D : DiskV) (ao bo : Option Addr) (ca cb : Nat) (w : World) (ha : RK 2 w (.slice ao 32 ca) 32 (trow (tapesL D 32))) (hb : RK 2 w (.slice bo 32 cb) 32 (trow (tapesL D 32))) :
    Calls Tryz.prog 18 #[.slice ao 32 ca, .slice bo 32 cb] w fun e w' => e = .returned (.bool true) ∧ ∃ n, w' = w.drewN n := by
  obtain ⟨qa, rfl, hqa⟩ := tape_row ha
  obtain ⟨qb, rfl, hqb⟩ := tape_row hb
  have HA := Kp.mk (fun k hk => hqa w (Below.refl _ _) k hk)
  have HB := Kp.mk (fun k hk => hqb w (Below.refl _ _) k hk)
  clear ha hb hqa hqb
  go_enter Tryz.func18, Tryz.ntmps18
  go_wp2
  go_loopw [5] (fun i wr => ∃ (k m : Nat), i = .int .i64 k ∧ k ≤ 32 ∧ wr = w.drewN m) (fun i _ => 32 - (intOf i).toNat)
  case atStart => exact ⟨0, 0, rfl, by omega, rfl⟩
  case round =>
    obtain ⟨k, m, rfl, hk, rfl⟩ := hrel
    by_cases hk2 : k < 32
    · obtain ⟨a1, a2⟩ := HA.out k hk2
      obtain ⟨b1, b2⟩ := HB.out k hk2
      have i1 : (0 : Int) ≤ (k : Int) := by omega
      have i2 : (k : Int) < 32 := by omega
      generalize told (D.tp k) = p at a1 a2 b1 b2
      obtain ⟨x, y⟩ := p
      simp only [] at a1 a2 b1 b2
      go_wp2_with fail
      go_quiet (fail)
      go_wp2
      go_roundw
      case rel => exact ⟨k + 1, _, by go_num, by omega, rfl⟩
      case measure => simp [intOf]; omega
    · obtain rfl : k = 32 := by omega
      go_wp2
      go_ret
      exact ⟨rfl, _, rfl⟩
end Go.Proofs.YtpfoekfbcpinlaaGreatDoor
