/- told: what comes of an act, by the reference; tapes: the same tapes, written over. -/
import Derived.Test.YtimfchjjdifbiaaDRefSame
namespace Go.Proofs.Ytimfchjjdifbiaa
open Go.RowKit
set_option linter.unusedVariables false

theorem Chg2.cell {w W : World} {g q B : Nat} {v : Value} (h : Chg2 w W g q) (hc : w.cell? ⟨B, 0, none⟩ = some v) (h1 : B ≠ g) (h2 : B ≠ q) : W.cell? ⟨B, 0, none⟩ = some v :=
  (World.cell?_of_block (a := ⟨B, 0, none⟩) (h.block B (World.block_lt_of_cell? _ _ hc) h1 h2)).trans hc
set_option maxRecDepth 20000 in
set_option maxHeartbeats 2000000 in
theorem rtold_any (g q cp : Nat) (R : RefV) (a : ActV) (w : World) (h : RDAt w g q cp R) (ho : OkR R) (ha : a.ok) (hs : a.s.size ≤ 1099511627776) (hk : ∀ W, Chg2 w W g q → KeepAt W a.ko a.kl a.kf) :
    Calls Try.prog 11 #[.pointer (some ⟨g, 0, none⟩), a.v] w fun e w' => e = .returned (.tuple #[.string (tellR R a).1.1, .int .i64 (tellR R a).1.2]) ∧ RDAt w' g q cp (tellR R a).2 ∧ Chg2 w w' g q := by
  obtain ⟨qw, qt, qn, qs, ko, kl, kc, kf⟩ := a
  obtain ⟨h1, _, _, h4, h5⟩ := ha
  simp only [] at h1 h4 h5 hk hs
  unfold ActV.v
  simp only []
  have HDA := Kp.mk (fun o => h.alloc o)
  match qw with
  | 0 =>
    rw [show (((0 : Nat) : Int)) = 0 from rfl]
    have HC := Kp.mk (fun o => rWrite_any g q cp R qt qs _ (h.alloc o) ho hs)
    unfold tellR
    simp only []
    generalize writeR R qt qs = r at HC ⊢
    obtain ⟨r1, r2⟩ := r
    simp only [] at HC ⊢
    clear h ho hk
    go_enter Try.func11, Try.ntmps11
    go_wp2_with fail
    refine (HC.out _).mono ?_
    rintro e w1 ⟨rfl, d1, c1⟩
    have H := Kp.mk (And.intro d1 ((Chg2.alloc w _ g q).trans c1))
    clear d1 c1
    go_wp2
    go_ret2
    exact ⟨rfl, H.out.1, H.out.2⟩
  | 1 =>
    rw [show (((1 : Nat) : Int)) = 1 from rfl]
    have HC := Kp.mk (fun o => rSync_any g q cp R qt _ (h.alloc o) ho)
    unfold tellR
    simp only []
    generalize syncR R qt = r at HC ⊢
    obtain ⟨r1, r2⟩ := r
    simp only [] at HC ⊢
    clear h ho hk
    go_enter Try.func11, Try.ntmps11
    go_wp2_with fail
    refine (HC.out _).mono ?_
    rintro e w1 ⟨rfl, d1, c1⟩
    have H := Kp.mk (And.intro d1 ((Chg2.alloc w _ g q).trans c1))
    clear d1 c1
    go_wp2
    go_ret2
    exact ⟨rfl, H.out.1, H.out.2⟩
  | 2 =>
    rw [show (((2 : Nat) : Int)) = 2 from rfl]
    have HC := Kp.mk (fun o => rTrim_any g q cp R qt qn _ (h.alloc o) ho)
    unfold tellR
    simp only []
    generalize trimR R qt qn = r at HC ⊢
    obtain ⟨r1, r2⟩ := r
    simp only [] at HC ⊢
    clear h ho hk
    go_enter Try.func11, Try.ntmps11
    go_wp2_with fail
    refine (HC.out _).mono ?_
    rintro e w1 ⟨rfl, d1, c1⟩
    have H := Kp.mk (And.intro d1 ((Chg2.alloc w _ g q).trans c1))
    clear d1 c1
    go_wp2
    go_ret2
    exact ⟨rfl, H.out.1, H.out.2⟩
  | 3 =>
    rw [show (((3 : Nat) : Int)) = 3 from rfl]
    have HC := Kp.mk (fun o => rWipe_any g q cp R qt _ (h.alloc o) ho)
    unfold tellR
    simp only []
    generalize wipeR R qt = r at HC ⊢
    obtain ⟨r1, r2⟩ := r
    simp only [] at HC ⊢
    clear h ho hk
    go_enter Try.func11, Try.ntmps11
    go_wp2_with fail
    refine (HC.out _).mono ?_
    rintro e w1 ⟨rfl, d1, c1⟩
    have H := Kp.mk (And.intro d1 ((Chg2.alloc w _ g q).trans c1))
    clear d1 c1
    go_wp2
    go_ret2
    exact ⟨rfl, H.out.1, H.out.2⟩
  | 4 =>
    rw [show (((4 : Nat) : Int)) = 4 from rfl]
    have HC := Kp.mk (fun o => rRead_any g q cp R qt _ (h.alloc o) ho)
    unfold tellR
    simp only []
    generalize readR R qt = r at HC ⊢
    obtain ⟨r1, r2⟩ := r
    simp only [] at HC ⊢
    clear h ho hk
    go_enter Try.func11, Try.ntmps11
    go_wp2_with fail
    refine (HC.out _).mono ?_
    rintro e w1 ⟨rfl, m, rfl⟩
    go_wp2
    go_ret2
    exact ⟨rfl, HDA.out _, (Chg2.alloc _ _ _ _).trans (Chg2.drewN _ _ _ _)⟩
  | 5 =>
    rw [show (((5 : Nat) : Int)) = 5 from rfl]
    have HC := Kp.mk (fun o => rFail_any g q cp R qn _ (h.alloc o))
    unfold tellR
    simp only []
    generalize failR R qn = r at HC ⊢
    obtain ⟨r1, r2⟩ := r
    simp only [] at HC ⊢
    clear h ho hk
    go_enter Try.func11, Try.ntmps11
    go_wp2_with fail
    refine (HC.out _).mono ?_
    rintro e w1 ⟨rfl, d1, c1⟩
    have H := Kp.mk (And.intro d1 ((Chg2.alloc w _ g q).trans c1))
    clear d1 c1
    go_wp2
    go_ret2
    exact ⟨rfl, H.out.1, H.out.2⟩
  | z + 6 =>
    have HC := Kp.mk (fun o => rBack_any g q cp R ko kl kc kf _ (h.alloc o) ho h5 (fun W hW => hk W ((Chg2.alloc w o g q).trans hW)))
    have zz0 : (((z + 6 : Nat) : Int) == 0) = false := by rw [beq_eq_false_iff_ne]; omega
    have zz1 : (((z + 6 : Nat) : Int) == 1) = false := by rw [beq_eq_false_iff_ne]; omega
    have zz2 : (((z + 6 : Nat) : Int) == 2) = false := by rw [beq_eq_false_iff_ne]; omega
    have zz3 : (((z + 6 : Nat) : Int) == 3) = false := by rw [beq_eq_false_iff_ne]; omega
    have zz4 : (((z + 6 : Nat) : Int) == 4) = false := by rw [beq_eq_false_iff_ne]; omega
    have zz5 : (((z + 6 : Nat) : Int) == 5) = false := by rw [beq_eq_false_iff_ne]; omega
    have hv : tellR R ⟨z + 6, qt, qn, qs, ko, kl, kc, kf⟩ = ((⟨#[]⟩, 0), backR R kl kf) := rfl
    rw [hv]
    simp only []
    generalize backR R kl kf = r2 at HC ⊢
    clear h ho hk hv
    generalize ((z + 6 : Nat) : Int) = qw at *
    go_enter Try.func11, Try.ntmps11
    go_wp2_with fail
    refine (HC.out _).mono ?_
    rintro e w1 ⟨rfl, d1, c1⟩
    have H := Kp.mk (And.intro d1 ((Chg2.alloc w _ g q).trans c1))
    clear d1 c1
    go_wp2
    go_ret2
    exact ⟨rfl, H.out.1, H.out.2⟩
/-- tapes: whether they are the same; the first row is written over. -/
theorem RK.spoil {g cap n k : Nat} {w : World} {cs : List Value} (h : RK 2 w (.slice (some ⟨g, 0, none⟩) n cap) n cs) (hk : k < n) (a b : Value) :
    RK 2 ((w.setCell ⟨g, k * 2, none⟩ a).setCell ⟨g, k * 2 + 1, none⟩ b) (.slice (some ⟨g, 0, none⟩) n cap) n ((cs.set (k * 2) a).set (k * 2 + 1) b) := (h.put (k * 2) a (by omega)).put (k * 2 + 1) b (by omega)
def spoilt : ByteArray := ⟨#[115, 112, 111, 105, 108, 116]⟩
set_option maxRecDepth 20000 in
set_option maxHeartbeats 1000000 in
theorem tapes_any (f g : Nat → ByteArray × ByteArray) (B : Nat) (ao bo : Option Addr) (ca cb : Nat) (w : World) (ha : RK 2 w (.slice ao 32 ca) 32 (trF f)) (hb : RK 2 w (.slice bo 32 cb) 32 (trF g)) (hB : ∀ k, blk (.slice ao 32 ca) = some k → B ≤ k) (hz : B ≤ w.heap.size) :
    Calls Try.prog 16 #[.slice ao 32 ca, .slice bo 32 cb] w fun e w' => e = .returned (.bool (tapesB f g)) ∧ Below B w w' := by
  have HT := Kp.mk (rTapes_any f g ao bo ca cb w ha hb)
  obtain ⟨qa, ca', hva, _, _, _, hbk⟩ := ha.at_ (by decide)
  have hBq := hB _ hbk
  simp only [Value.slice.injEq] at hva
  obtain ⟨rfl, _, rfl⟩ := hva
  have HA : Kp (RK 2 w (.slice (some ⟨qa, 0, none⟩) 32 ca) 32 (trF f)) := ⟨ha⟩
  generalize tapesB f g = S at *
  clear ha hb hB hbk
  go_enter Try.func16, Try.ntmps16
  go_wp2_with fail
  refine HT.out.mono ?_
  rintro e w1 ⟨rfl, m1, rfl⟩
  go_wp2
  go_loopw [6] (fun i wr => ∃ (k : Nat) (cs : List Value), i = .int .i64 k ∧ k ≤ 32 ∧ RK 2 wr (.slice (some ⟨qa, 0, none⟩) 32 ca) 32 cs ∧ Below B w wr) (fun i _ => 32 - (intOf i).toNat)
  case atStart => exact ⟨0, _, rfl, by omega, HA.out, Below.drewN (Below.refl _ _) _⟩
  case round =>
    obtain ⟨k, cs, rfl, hk, hr, hb⟩ := hrel
    have BB := Kp.mk hb
    clear hb
    by_cases hk2 : k < 32
    · have i1 : (0 : Int) ≤ (k : Int) := by omega
      have i2 : (k : Int) < 32 := by omega
      obtain ⟨u1, y1⟩ := Option.isSome_iff_exists.1 (hr.isCell (k * 2) (by omega))
      obtain ⟨u2, y2⟩ := Option.isSome_iff_exists.1 (hr.isCell (k * 2 + 1) (by omega))
      have f1 := hr.free (k * 2) (by omega)
      have f2 := hr.free (k * 2 + 1) (by omega)
      have HP := Kp.mk (hr.spoil hk2 (.string spoilt) (.string ⟨#[]⟩))
      clear hr
      unfold spoilt at HP
      go_wp2
      go_roundw
      case rel => exact ⟨k + 1, _, by go_num, by omega, HP.out, (BB.out.setCell (p := ⟨qa, k * 2, none⟩) hBq _).setCell (p := ⟨qa, k * 2 + 1, none⟩) hBq _⟩
      case measure => simp [intOf]; omega
    · obtain rfl : k = 32 := by omega
      clear hr
      go_wp2
      go_ret
      exact ⟨rfl, BB.out⟩
end Go.Proofs.Ytimfchjjdifbiaa
