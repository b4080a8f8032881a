/- The reference: whether tapes, and disks, are the same. -/
import Derived.Test.YtimfchjjdifbiaaDRefCopy
import Derived.Test.YtimfchjjdifbiaaDRefLoad
import Derived.BigQuiet
namespace Go.Proofs.Ytimfchjjdifbiaa
open Go.RowKit
set_option linter.unusedVariables false

/-- The first k tapes are the same. -/
def tapesTo (f g : Nat → ByteArray × ByteArray) (k : Nat) : Prop := ∀ i, i < k → (f i).1 = (g i).1 ∧ (f i).2 = (g i).2
theorem tapesB_iff (f g : Nat → ByteArray × ByteArray) : tapesB f g = true ↔ tapesTo f g 32 := by
  unfold tapesB tapesTo
  rw [List.all_eq_true]
  constructor
  · intro h i hi
    have := h i (by simpa using hi)
    rw [Bool.and_eq_true, beq_iff_eq, beq_iff_eq] at this
    exact ⟨bytes_inj this.1, bytes_inj this.2⟩
  · intro h i hi
    obtain ⟨h1, h2⟩ := h i (by simpa using hi)
    rw [h1, h2]
    simp
set_option maxRecDepth 20000 in
set_option maxHeartbeats 1000000 in
theorem rTapes_any (f g : Nat → ByteArray × ByteArray) (ao bo : Option Addr) (ca cb : Nat) (w : World) (ha : RK 2 w (.slice ao 32 ca) 32 (trF f)) (hb : RK 2 w (.slice bo 32 cb) 32 (trF g)) :
    Calls Try.prog 36 #[.slice ao 32 ca, .slice bo 32 cb] w fun e w' => e = .returned (.bool (tapesB f g)) ∧ ∃ n, w' = w.drewN n := by
  obtain ⟨qa, ca', hva, _, _, _, _⟩ := ha.at_ (by decide)
  obtain ⟨qb, cb', hvb, _, _, _, _⟩ := hb.at_ (by decide)
  simp only [Value.slice.injEq] at hva hvb
  obtain ⟨rfl, _, rfl⟩ := hva
  obtain ⟨rfl, _, rfl⟩ := hvb
  have HA1 := Kp.mk (fun k hk => ha.cell _ _ (trF_get f k hk).1)
  have HA2 := Kp.mk (fun k hk => ha.cell _ _ (trF_get f k hk).2)
  have HB1 := Kp.mk (fun k hk => hb.cell _ _ (trF_get g k hk).1)
  have HB2 := Kp.mk (fun k hk => hb.cell _ _ (trF_get g k hk).2)
  have HN : Kp (∀ k, k < 32 → ¬ ((f k).1 = (g k).1 ∧ (f k).2 = (g k).2) → tapesB f g = false) := ⟨fun k hk h => by
    rw [← Bool.not_eq_true, tapesB_iff]
    exact fun h1 => h (h1 k hk)⟩
  have HY : Kp (tapesTo f g 32 → tapesB f g = true) := ⟨(tapesB_iff f g).2⟩
  generalize tapesB f g = B at *
  clear ha hb
  go_enter Try.func36, Try.ntmps36
  go_wp2
  go_loopw [5] (fun i wr => ∃ (k m : Nat), i = .int .i64 k ∧ k ≤ 32 ∧ tapesTo f g k ∧ wr = w.drewN m) (fun i _ => 32 - (intOf i).toNat)
  case atStart => exact ⟨0, 0, rfl, by omega, fun i hi => absurd hi (Nat.not_lt_zero i), rfl⟩
  case round =>
    obtain ⟨k, m, rfl, hk, ht, rfl⟩ := hrel
    have T := Kp.mk ht
    clear ht
    by_cases hk2 : k < 32
    · have a1 := HA1.out k hk2
      have a2 := HA2.out k hk2
      have b1 := HB1.out k hk2
      have b2 := HB2.out k hk2
      have i1 : (0 : Int) ≤ (k : Int) := by omega
      have i2 : (k : Int) < 32 := by omega
      have HN1 := Kp.mk (HN.out k hk2)
      have HT1 : Kp ((f k).1 = (g k).1 ∧ (f k).2 = (g k).2 → tapesTo f g (k + 1)) := ⟨fun h i hi => by
        by_cases e : i = k
        · subst e; exact h
        · exact T.out i (by omega)⟩
      generalize f k = p at a1 a2 HN1 HT1
      generalize g k = r at b1 b2 HN1 HT1
      obtain ⟨x, y⟩ := p
      obtain ⟨x', y'⟩ := r
      simp only [] at a1 a2 b1 b2 HN1 HT1
      by_cases hx : x = x'
      · subst hx
        by_cases hy : y = y'
        · subst hy
          go_wp2_with fail
          go_quiet (fail)
          go_wp2
          go_roundw
          case rel => exact ⟨k + 1, _, by go_num, by omega, HT1.out (by first | exact ⟨rfl, rfl⟩ | exact ⟨trivial, trivial⟩ | exact ⟨trivial, rfl⟩), rfl⟩
          case measure => simp [intOf]; omega
        · have hB := HN1.out (fun h => hy h.2)
          subst hB
          have t2 : (y.toList == y'.toList) = false := by rw [beq_eq_false_iff_ne]; exact fun e => hy (bytes_inj e)
          go_wp2_with fail
          go_quiet (fail)
          go_wp2
          go_ret
          exact ⟨rfl, _, World.drewN_drewN ..⟩
      · have hB := HN1.out (fun h => hx h.1)
        subst hB
        have t1 : (x.toList == x'.toList) = false := by rw [beq_eq_false_iff_ne]; exact fun e => hx (bytes_inj e)
        go_wp2_with fail
        go_quiet (fail)
        go_wp2
        go_ret
        exact ⟨rfl, _, World.drewN_drewN ..⟩
    · obtain rfl : k = 32 := by omega
      have hB := HY.out T.out
      subst hB
      go_wp2
      go_ret
      exact ⟨rfl, _, rfl⟩
set_option maxRecDepth 20000 in
set_option maxHeartbeats 1000000 in
theorem rSame_any (g q cp h p dp : Nat) (R Q : RefV) (w : World) (hR : RDAt w g q cp R) (hQ : RDAt w h p dp Q) :
    Calls Try.prog 19 #[.pointer (some ⟨g, 0, none⟩), .pointer (some ⟨h, 0, none⟩)] w fun e w' => e = .returned (.bool (sameR R Q)) ∧ ∃ n, w' = w.drewN n := by
  have k0 := hR.c0
  have k1 := hR.c1
  have k2 := hR.c2
  have k3 := hR.c3
  have j0 := hQ.c0
  have j1 := hQ.c1
  have j2 := hQ.c2
  have j3 := hQ.c3
  have HT := Kp.mk (fun n => rTapes_any R.t Q.t _ _ cp dp (w.drewN n) hR.2.1 hQ.2.1)
  have HV : Kp (sameR R Q = (tapesB R.t Q.t && (R.cap == Q.cap && (R.dark == Q.dark && (R.dark || R.left == Q.left))))) := ⟨rfl⟩
  clear hR hQ
  generalize tapesB R.t Q.t = B at *
  generalize R.cap = rc at *
  generalize R.dark = rd at *
  generalize R.left = rl at *
  generalize Q.cap = qc at *
  generalize Q.dark = qd at *
  generalize Q.left = ql at *
  generalize sameR R Q = S at *
  obtain ⟨c1, hc1⟩ : ∃ c1, (rc == qc) = c1 := ⟨_, rfl⟩
  obtain ⟨c2, hc2⟩ : ∃ c2, (rl == ql) = c2 := ⟨_, rfl⟩
  rw [hc1, hc2] at HV
  cases B
  · obtain rfl : S = false := by rw [HV.out]; rfl
    go_enter Try.func19, Try.ntmps19
    go_wp2_with fail
    go_quiet ((go_at_call 36; exact Calls.quiet_of (HT.out _)))
    go_wp2
    go_ret
    exact ⟨rfl, _, rfl⟩
  · cases c1
    · obtain rfl : S = false := by rw [HV.out]; rfl
      go_enter Try.func19, Try.ntmps19
      go_wp2_with fail
      go_quiet ((go_at_call 36; exact Calls.quiet_of (HT.out _)))
      go_wp2
      go_ret
      exact ⟨rfl, _, rfl⟩
    · by_cases hd : rd = qd
      · subst hd
        cases rd
        · cases c2
          · obtain rfl : S = false := by rw [HV.out]; rfl
            go_enter Try.func19, Try.ntmps19
            go_wp2_with fail
            go_quiet ((go_at_call 36; exact Calls.quiet_of (HT.out _)))
            go_wp2
            go_ret
            exact ⟨rfl, _, rfl⟩
          · obtain rfl : S = true := by rw [HV.out]; rfl
            go_enter Try.func19, Try.ntmps19
            go_wp2_with fail
            go_quiet ((go_at_call 36; exact Calls.quiet_of (HT.out _)))
            go_wp2
            go_ret
            exact ⟨rfl, _, rfl⟩
        · obtain rfl : S = true := by rw [HV.out]; rfl
          go_enter Try.func19, Try.ntmps19
          go_wp2_with fail
          go_quiet ((go_at_call 36; exact Calls.quiet_of (HT.out _)))
          go_wp2
          go_ret
          exact ⟨rfl, _, rfl⟩
      · have hd2 : (rd == qd) = false := by rw [beq_eq_false_iff_ne]; exact hd
        obtain rfl : S = false := by rw [HV.out, hd2]; rfl
        go_enter Try.func19, Try.ntmps19
        go_wp2_with fail
        go_quiet ((go_at_call 36; exact Calls.quiet_of (HT.out _)))
        go_wp2
        go_ret
        exact ⟨rfl, _, rfl⟩
end Go.Proofs.Ytimfchjjdifbiaa
