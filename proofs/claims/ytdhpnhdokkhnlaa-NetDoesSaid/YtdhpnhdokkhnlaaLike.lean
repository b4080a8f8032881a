/- like: a net and the document's of one value are alike. -/
import Derived.Test.YtdhpnhdokkhnlaaBoth
import Derived.Test.YtdhpnhdokkhnlaaNetCopy
import Derived.Deep.QuietTactic
import Derived.BigQuiet
namespace Go.Proofs.Ytdhpnhdokkhnlaa
open Go.RowKit
set_option linter.unusedVariables false

/-- A cell of a row is written. -/
theorem RK.put {z n g cap : Nat} {w : World} {cs : List Value} (h : RK z w (.slice (some ⟨g, 0, none⟩) n cap) n cs) (j : Nat) (x : Value) (hj : j < n * z) : RK z (w.setCell ⟨g, j, none⟩ x) (.slice (some ⟨g, 0, none⟩) n cap) n (cs.set j x) := by
  refine ⟨by rw [List.length_set]; exact h.1, .inr ⟨g, cap, rfl, ?_, ?_, fun hc => ?_⟩⟩
  · obtain ⟨_, _, h1, h2, h3⟩ := h.len
    simp only [Value.slice.injEq, true_and] at h1
    omega
  · obtain ⟨_, _, h1, h2, h3⟩ := h.len
    simp only [Value.slice.injEq, true_and] at h1
    omega
  · rcases h.2 with ⟨h1, _⟩ | ⟨g', cap', h1, h2, h3, h4⟩
    · simp at h1
    · simp only [Value.slice.injEq, Option.some.injEq, Addr.mk.injEq, and_true, true_and] at h1
      obtain ⟨rfl, rfl⟩ := h1
      obtain ⟨h5, h6, h7⟩ := h4 hc
      have hin := h7 j (Nat.lt_of_lt_of_le hj (Nat.mul_le_mul_right _ h2))
      refine ⟨by simpa using h5, fun k u hu => ?_, fun k hk => ?_⟩
      · by_cases he : j = k
        · subst he
          rw [List.getElem?_set_self (by rw [h.1]; exact hj)] at hu
          cases hu
          obtain ⟨y, hy⟩ := Option.isSome_iff_exists.1 hin.1
          exact World.cell?_setCell_same _ _ _ hy
        · rw [List.getElem?_set_ne he] at hu
          have hne : (⟨g, j, none⟩ : Addr) ≠ ⟨g, k, none⟩ := fun e => by cases e; exact he rfl
          rw [World.cell?_setCell_other _ _ _ _ hne]
          exact h6 k u hu
      · obtain ⟨a1, a2⟩ := h7 k hk
        refine ⟨?_, by rw [World.frozen?_setCell]; exact a2⟩
        obtain ⟨y, hy⟩ := Option.isSome_iff_exists.1 a1
        obtain ⟨v', hv'⟩ := cell?_setCell_some (w := w) (p := ⟨g, j, none⟩) (x := x) (q := ⟨g, k, none⟩) (v := y) hy
        rw [hv']; rfl
/-- A message of a row is written over: the ones behind it stay. -/
theorem RK.over {g cap n p : Nat} {w : World} {cs ds : List Value} (h : RK 4 w (.slice (some ⟨g, 0, none⟩) n cap) n cs) (hp : p < n) (hd : ∀ j, p * 4 ≤ j → cs[j]? = ds[j]?) (a b c d : Value) :
    ∃ cs', RK 4 ((((w.setCell ⟨g, p * 4, none⟩ a).setCell ⟨g, p * 4 + 1, none⟩ b).setCell ⟨g, p * 4 + 2, none⟩ c).setCell ⟨g, p * 4 + 3, none⟩ d) (.slice (some ⟨g, 0, none⟩) n cap) n cs' ∧ ∀ j, (p + 1) * 4 ≤ j → cs'[j]? = ds[j]? := by
  refine ⟨_, (((h.put (p * 4) a (by omega)).put (p * 4 + 1) b (by omega)).put (p * 4 + 2) c (by omega)).put (p * 4 + 3) d (by omega), fun j hj => ?_⟩
  rw [List.getElem?_set_ne (by omega), List.getElem?_set_ne (by omega), List.getElem?_set_ne (by omega), List.getElem?_set_ne (by omega)]
  exact hd j (by omega)
theorem below_over {B g p : Nat} {w0 w : World} (h : Below B w0 w) (hg : B ≤ g) (a b c d : Value) : Below B w0 ((((w.setCell ⟨g, p * 4, none⟩ a).setCell ⟨g, p * 4 + 1, none⟩ b).setCell ⟨g, p * 4 + 2, none⟩ c).setCell ⟨g, p * 4 + 3, none⟩ d) :=
  (((h.setCell (p := ⟨g, p * 4, none⟩) hg a).setCell (p := ⟨g, p * 4 + 1, none⟩) hg b).setCell (p := ⟨g, p * 4 + 2, none⟩) hg c).setCell (p := ⟨g, p * 4 + 3, none⟩) hg d
theorem below_drewN {B : Nat} {a w : World} (h : Below B a w) (n : Nat) : Below B a (w.drewN n) := ⟨h.os, h.tape, h.output, h.size, h.block⟩
set_option maxRecDepth 20000 in
set_option maxHeartbeats 1000000 in
theorem like_any (g h : Nat) (v u : Value) (N : NetV) (w : World) (d : NetAt w g v N) (x : RefAt w h u N) (hl : N.l.length ≤ 256) :
    Calls Try.prog 23 #[.pointer (some ⟨g, 0, none⟩), .pointer (some ⟨h, 0, none⟩)] w fun e w' => e = .returned (.bool true) ∧ Below w.heap.size w w' := by
  have HM := Kp.mk (Mails_any g v N w d (by omega))
  have HLen := Kp.mk (fun wx hx => (Len_any g v N wx hx).mono fun e w' (hw : _ ∧ wx = w') => And.intro hw.1 hw.2.symm)
  have HC := Kp.mk (fun wx hx => Count_any g v N wx hx)
  have D := Kp.mk d
  have X := Kp.mk x
  obtain ⟨au, cu, hu, _, _⟩ := x.2.1.len
  subst hu
  clear d x
  go_enter Try.func23, Try.ntmps23
  go_wp2_with fail
  refine HM.out.mono ?_
  rintro e w1 ⟨vc, rfl, r1, b1, f1⟩
  have D1 := Kp.mk (D.out.below b1)
  have X1 := Kp.mk (X.out.below b1)
  have B1 : Kp (Below w.heap.size w w1) := ⟨⟨b1.os, b1.tape, b1.output, b1.size, b1.block⟩⟩
  have F1 := Kp.mk f1
  obtain ⟨ac, cc, hvc, _, _⟩ := r1.len
  subst hvc
  have R1 := Kp.mk r1
  clear r1 b1 f1 HM
  have x1 := X1.out.c1
  have z1 : ((N.l.length : Int) == (N.l.length : Int)) = true := by simp
  go_wp2_with fail
  go_quiet ((go_at_call 17; exact Calls.quiet_of_same (HLen.out _ D1.out)))
  go_wp2
  clear x1
  go_loopw [6] (fun k wr => ∃ (p : Nat) (cs : List Value), k = .int .i64 p ∧ p ≤ N.l.length ∧ RK 4 wr (.slice ac N.l.length cc) N.l.length cs ∧ (∀ j, p * 4 ≤ j → cs[j]? = (rows N.l)[j]?) ∧ Below w.heap.size w wr) (fun k _ => N.l.length - (intOf k).toNat)
  case atStart => exact ⟨0, rows N.l, rfl, by omega, R1.out, fun _ _ => rfl, below_drewN B1.out _⟩
  case round =>
    obtain ⟨p, cs, rfl, hp, hr, hcs, hb⟩ := hrel
    have D2 := Kp.mk (D.out.below hb)
    have X2 := Kp.mk (X.out.below hb)
    have B2 := Kp.mk hb
    clear D1 X1 B1 R1
    by_cases hpl : p < N.l.length
    · obtain ⟨s0, s1, s2, s3⟩ := rows_get N.l p hpl
      obtain ⟨gc, cc', hvc, _, _, _, hbc⟩ := hr.at_ (by omega)
      obtain ⟨gu, cu', hvu, _, _, _, _⟩ := X2.out.2.1.at_ (by omega)
      simp only [Value.slice.injEq] at hvc hvu
      obtain ⟨rfl, _, rfl⟩ := hvc
      obtain ⟨rfl, _, rfl⟩ := hvu
      have HGC : Kp (w.heap.size ≤ gc) := ⟨F1.out gc hbc⟩
      have y0 := hr.cell _ _ ((hcs _ (Nat.le_refl _)).trans s0)
      have y1 := hr.cell _ _ ((hcs _ (by omega)).trans s1)
      have y2 := hr.cell _ _ ((hcs _ (by omega)).trans s2)
      have y3 := hr.cell _ _ ((hcs _ (by omega)).trans s3)
      have g0 := hr.free (p * 4) (by omega)
      have g1 := hr.free (p * 4 + 1) (by omega)
      have g2 := hr.free (p * 4 + 2) (by omega)
      have g3 := hr.free (p * 4 + 3) (by omega)
      have x1 := X2.out.c1
      have u0 := X2.out.2.1.cell _ _ s0
      have u1 := X2.out.2.1.cell _ _ s1
      have u2 := X2.out.2.1.cell _ _ s2
      have u3 := X2.out.2.1.cell _ _ s3
      have HO := Kp.mk (fun m => RK.over (w := wr.drewN m) hr hpl hcs (.int .i64 (-7)) (.int .i64 0) (.int .i64 0) (.string ⟨#[]⟩))
      clear hr hcs hb s0 s1 s2 s3 hbc
      generalize N.l[p] = m at y0 y1 y2 y3 u0 u1 u2 u3
      obtain ⟨mi, mf, mt, md⟩ := m
      simp only [] at y0 y1 y2 y3 u0 u1 u2 u3
      have i0 : (0 : Int) ≤ (p : Int) := by omega
      have i1 : (p : Int) < (N.l.length : Int) := by omega
      go_wp2_with fail
      go_quiet (fail)
      go_wp2
      go_roundw
      case rel =>
        obtain ⟨cs', o1, o2⟩ := HO.out _
        exact ⟨p + 1, cs', by go_num, by omega, o1, o2, below_over (below_drewN B2.out _) HGC.out _ _ _ _⟩
      case measure => simp [intOf]; omega
    · obtain rfl : p = N.l.length := by omega
      clear hr hcs hb
      go_wp2_with fail
      refine (HC.out _ D2.out).mono ?_
      rintro e w3 ⟨rfl, b3⟩
      have X3 := X2.out.below b3
      have k3 : ∀ o, (w3.alloc o).cell? ⟨h, 3, none⟩ = some (.int .i64 N.sent) := fun o => (X3.alloc o).c3
      have k4 : ∀ o, (w3.alloc o).cell? ⟨h, 4, none⟩ = some (.int .i64 N.doubled) := fun o => (X3.alloc o).c4
      have k5 : ∀ o, (w3.alloc o).cell? ⟨h, 5, none⟩ = some (.int .i64 N.taken) := fun o => (X3.alloc o).c5
      have k6 : ∀ o, (w3.alloc o).cell? ⟨h, 6, none⟩ = some (.int .i64 N.lost) := fun o => (X3.alloc o).c6
      have B3 := Kp.mk (B2.out.trans (b3.mono B2.out.size))
      clear X3 b3
      go_wp2_with fail
      go_quiet (fail)
      go_wp2
      go_ret
      exact ⟨by trivial, below_drewN (B3.out.alloc B3.out.size _) _⟩
end Go.Proofs.Ytdhpnhdokkhnlaa
