/- both: an act is done by a net and by the document's: the answers are the same, and the values behind it. -/
import Derived.Test.YtdhpnhdokkhnlaaPair
namespace Go.Proofs.Ytdhpnhdokkhnlaa
open Go.RowKit
set_option linter.unusedVariables false

theorem Two.kept {w w' : World} {g h : Nat} {v v' u u' : Value} {B : Nat} {o : Obj} (t : Two w w' g v v' h u u') (hB : w.heap[B]? = some o) (hn : ¬ feet g v h u B) : w'.heap[B]? = some o ∧ ¬ feet g v' h u' B :=
  ⟨(t.frm.block B (lt_of_block' hB) hn).trans hB, fun e => (t.new B e).elim hn fun h1 => by have := lt_of_block' hB; omega⟩
theorem cells6 {w : World} {k : Nat} {a b c d e f : Value} {t : TypeId} (h : w.heap[k]? = some (.cells #[a, b, c, d, e, f] t (0, 0))) : w.cell? ⟨k, 0, none⟩ = some a ∧ w.cell? ⟨k, 1, none⟩ = some b ∧ w.cell? ⟨k, 2, none⟩ = some c ∧ w.cell? ⟨k, 3, none⟩ = some d ∧ w.cell? ⟨k, 4, none⟩ = some e ∧ w.cell? ⟨k, 5, none⟩ = some f := by
  refine ⟨?_, ?_, ?_, ?_, ?_, ?_⟩ <;> simp [World.cell?, h]
set_option maxRecDepth 20000 in
set_option maxHeartbeats 1000000 in
theorem both_send (g h : Nat) (v u : Value) (N : NetV) (qf qt qi : Int) (qs : ByteArray) (qm : Nat) (w : World) (d : Duo w g v h u N) (hs : Sm N 900000000000) (hqs : qs.size ≤ maxLen) (hqm : qm < 65536) :
    Calls Try.prog 22 #[.pointer (some ⟨g, 0, none⟩), .pointer (some ⟨h, 0, none⟩), ActV.v ⟨0, qf, qt, qi, qs, qm⟩] w fun e w' => e = .returned (.bool true) ∧ ∃ v' u', Duo w' g v' h u' (sendN N ⟨0, qf, qt, qi, qs, qm⟩ (qm % 300 + 1)) ∧ Two w w' g v v' h u u' := by
  unfold ActV.v
  simp only []
  rw [show ((0 : Nat) : Int) = 0 from rfl]
  have HD : Kp (∀ o, Duo (w.alloc o) g v h u N ∧ Two w (w.alloc o) g v v h u u) := ⟨fun o => ⟨d.below ((Below.refl _ _).alloc (Nat.le_refl _) _), Two.of_below ((Below.refl _ _).alloc (Nat.le_refl _) _) _ _ _ _⟩⟩
  have HN : Kp (¬ feet g v h u w.heap.size) := ⟨fun e => by have := d.lt _ e; omega⟩
  clear d
  have n2 : (qm : Int).tmod 300 = ((qm % 300 : Nat) : Int) := by rw [Int.tmod_eq_emod_of_nonneg (by omega)]; omega
  have n3 : IntKind.u16.wrap ((qm % 300 : Nat) : Int) = ((qm % 300 : Nat) : Int) := by rw [IntKind.wrap_u16]; omega
  have n4 : IntKind.i64.wrap ((qm % 300 : Nat) : Int) = ((qm % 300 : Nat) : Int) := by rw [IntKind.wrap_i64]; omega
  have hz : qm % 300 < 300 := Nat.mod_lt _ (by decide)
  obtain ⟨z, hze⟩ : ∃ z, qm % 300 = z := ⟨_, rfl⟩
  rw [hze] at n2 n3 n4 hz ⊢
  clear hze
  have hsq := Kp.mk (fun j => Sm_sendN hs ⟨0, qf, qt, qi, qs, qm⟩ j)
  clear hs
  go_enter Try.func22, Try.ntmps22
  go_wp2
  have D0 := Kp.mk (HD.out (.cells #[.int .u8 0, .int .i64 qf, .int .i64 qt, .int .i64 qi, .string qs, .int .u16 qm] 33)).1
  have T0 := Kp.mk (HD.out (.cells #[.int .u8 0, .int .i64 qf, .int .i64 qt, .int .i64 qi, .string qs, .int .u16 qm] 33)).2
  have B0 := Kp.mk (heap_alloc_new w (.cells #[.int .u8 0, .int .i64 qf, .int .i64 qt, .int .i64 qi, .string qs, .int .u16 qm] 33))
  clear HD
  generalize w.alloc (.cells #[.int .u8 0, .int .i64 qf, .int .i64 qt, .int .i64 qi, .string qs, .int .u16 qm] 33) = w0 at D0 T0 B0 ⊢
  go_loopw [7] (fun k wr => ∃ (j : Nat) (v1 u1 : Value), k = .int .i64 j ∧ j ≤ z + 1 ∧ Duo wr g v1 h u1 (sendN N ⟨0, qf, qt, qi, qs, qm⟩ j) ∧ Two w0 wr g v v1 h u u1) (fun k _ => z + 1 - (intOf k).toNat)
  case atStart => exact ⟨0, v, u, rfl, by omega, D0.out, Two.of_below (Below.refl _ _) _ _ _ _⟩
  case round =>
    obtain ⟨j, v1, u1, rfl, hj, d1, t1⟩ := hrel
    have hbx := t1.kept B0.out HN.out
    obtain ⟨c0, c1, c2, c3, c4, c5⟩ := cells6 hbx.1
    have D1 := Kp.mk d1
    have T1 := Kp.mk t1
    by_cases hjz : j ≤ z
    · have HC := Kp.mk (Send_any g v1 _ qf qt qs _ d1.net ((hsq.out j).mono (by omega)) hqs)
      have HC2 := Kp.mk (fun wx hx => RefSend_any h u1 _ qf qt qs wx hx ((hsq.out j).mono (by omega)) hqs)
      have HM : Kp (sendN N ⟨0, qf, qt, qi, qs, qm⟩ (j + 1) = (sendV (sendN N ⟨0, qf, qt, qi, qs, qm⟩ j) qf qt qs).2) := ⟨rfl⟩
      generalize sendV (sendN N ⟨0, qf, qt, qi, qs, qm⟩ j) qf qt qs = r at HC HC2 HM
      obtain ⟨⟨id, er⟩, M⟩ := r
      simp only [] at HC HC2 HM
      have hg : w.heap.size ≠ g ∧ blk v1 ≠ some w.heap.size := ⟨fun e => hbx.2 (.inl (.inl e)), fun e => hbx.2 (.inl (.inr e))⟩
      have HG := Kp.mk hg
      have HBX := Kp.mk hbx
      clear d1 t1 hbx hg
      have q1 : decide ((j : Int) ≤ (z : Int)) = true := by rw [decide_eq_true_eq]; omega
      have q1' : decide (j ≤ z) = true := by rw [decide_eq_true_eq]; omega
      go_wp2_with fail
      refine HC.out.mono ?_
      rintro e w3 ⟨rfl, v3, n3', u3⟩
      have e3 := cells6 ((u3.keep (lt_of_block' HBX.out.1) HG.out.1 HG.out.2).trans HBX.out.1)
      obtain ⟨y0, y1, y2, y3, y4, y5⟩ := e3
      have N3 := Kp.mk n3'
      have T3 := Kp.mk (T1.out.trans (Two.left u3))
      have R3 := Kp.mk (D1.out.ref.beside D1.out.apart u3)
      clear n3' u3 c0 c1 c2 c3 c4 c5
      go_wp2_with fail
      refine (HC2.out _ R3.out.1).mono ?_
      rintro e w4 ⟨rfl, u4, n4', x4⟩
      have D4 : Kp (Duo w4 g v3 h u4 M) := ⟨⟨(N3.out.beside R3.out.2 x4).1, n4', (N3.out.beside R3.out.2 x4).2⟩⟩
      have T4 := Kp.mk (T3.out.trans (Two.right x4))
      clear n4' x4 y0 y1 y2 y3 y4 y5
      go_wp2
      go_roundw
      case rel => exact ⟨j + 1, v3, u4, by go_num, by omega, by rw [HM.out]; exact D4.out, T4.out⟩
      case measure => simp [intOf]; omega
    · obtain rfl : j = z + 1 := by omega
      clear d1 t1 hbx
      have q1 : decide (((z + 1 : Nat) : Int) ≤ (z : Int)) = false := by rw [decide_eq_false_iff_not]; omega
      go_wp2
      go_ret
      exact ⟨rfl, v1, u1, D1.out, T0.out.trans T1.out⟩
set_option maxRecDepth 20000 in
set_option maxHeartbeats 1000000 in
theorem both_take (g h : Nat) (v u : Value) (N : NetV) (qf qt qi : Int) (qs : ByteArray) (qm : Nat) (w : World) (d : Duo w g v h u N) (hs : Sm N 900000000000) (hqs : qs.size ≤ maxLen) (hqm : qm < 65536) :
    Calls Try.prog 22 #[.pointer (some ⟨g, 0, none⟩), .pointer (some ⟨h, 0, none⟩), ActV.v ⟨1, qf, qt, qi, qs, qm⟩] w fun e w' => e = .returned (.bool true) ∧ ∃ v' u', Duo w' g v' h u' ((takeV N qi).2) ∧ Two w w' g v v' h u u' := by
  unfold ActV.v
  simp only []
  rw [show ((1 : Nat) : Int) = 1 from rfl]
  have HD : Kp (∀ o, Duo (w.alloc o) g v h u N ∧ Two w (w.alloc o) g v v h u u) := ⟨fun o => ⟨d.below ((Below.refl _ _).alloc (Nat.le_refl _) _), Two.of_below ((Below.refl _ _).alloc (Nat.le_refl _) _) _ _ _ _⟩⟩
  have HN : Kp (¬ feet g v h u w.heap.size) := ⟨fun e => by have := d.lt _ e; omega⟩
  have HS := Kp.mk (hs.mono (show (900000000000 : Int) ≤ 1000000000000 by decide))
  clear d hs
  have HC := Kp.mk (fun wx hx => Take_any g v N qi wx hx HS.out)
  have HC2 := Kp.mk (fun wx hx => RefTake_any h u N qi wx hx HS.out)
  generalize takeV N qi = r at HC HC2 ⊢
  obtain ⟨⟨⟨mi, mf, mt, md⟩, er⟩, M⟩ := r
  simp only [MailV.v] at HC HC2 ⊢
  obtain ⟨k0, k1, k2, k3, k4, k5⟩ := cells6 (heap_alloc_new w (.cells #[.int .u8 1, .int .i64 qf, .int .i64 qt, .int .i64 qi, .string qs, .int .u16 qm] 33))
  go_enter Try.func22, Try.ntmps22
  go_wp2_with fail
  refine (HC.out _ (HD.out _).1.net).mono ?_
  rintro e w3 ⟨rfl, v3, n3, u3⟩
  have e3 := (u3.keep (k := w.heap.size) (by simp) (fun e => HN.out (.inl (.inl e))) (fun e => HN.out (.inl (.inr e)))).trans (heap_alloc_new w (.cells #[.int .u8 1, .int .i64 qf, .int .i64 qt, .int .i64 qi, .string qs, .int .u16 qm] 33))
  have y3 : ∀ o, (w3.alloc o).cell? ⟨w.heap.size, 3, none⟩ = some (.int .i64 qi) := fun o => (cells6 ((Below.heap_alloc _ o _ (lt_of_block' e3)).trans e3)).2.2.2.1
  have N3 := Kp.mk n3
  have T3 := Kp.mk ((HD.out (.cells #[.int .u8 1, .int .i64 qf, .int .i64 qt, .int .i64 qi, .string qs, .int .u16 qm] 33)).2.trans (Two.left u3))
  have R3 := Kp.mk ((HD.out (.cells #[.int .u8 1, .int .i64 qf, .int .i64 qt, .int .i64 qi, .string qs, .int .u16 qm] 33)).1.ref.beside (HD.out (.cells #[.int .u8 1, .int .i64 qf, .int .i64 qt, .int .i64 qi, .string qs, .int .u16 qm] 33)).1.apart u3)
  clear n3 u3 e3 k0 k1 k2 k3 k4 k5
  go_wp2_with fail
  refine (HC2.out _ (R3.out.1.alloc _)).mono ?_
  rintro e w4 ⟨rfl, u4, n4, x4⟩
  have e4 := (x4.keep (k := w3.heap.size) (by simp) (fun e => by have := R3.out.1.foot_lt _ (.inl e); omega) (fun e => by have := R3.out.1.foot_lt _ (.inr e); omega)).trans (heap_alloc_new w3 (.cells #[.int .i64 mi, .int .i64 mf, .int .i64 mt, .string md] 38))
  have z0 : ∀ o, (w4.alloc o).cell? ⟨w3.heap.size, 0, none⟩ = some (.int .i64 mi) := fun o => (cells4 ((Below.heap_alloc _ o _ (lt_of_block' e4)).trans e4)).1.1
  have z1 : ∀ o, (w4.alloc o).cell? ⟨w3.heap.size, 1, none⟩ = some (.int .i64 mf) := fun o => (cells4 ((Below.heap_alloc _ o _ (lt_of_block' e4)).trans e4)).1.2.1
  have z2 : ∀ o, (w4.alloc o).cell? ⟨w3.heap.size, 2, none⟩ = some (.int .i64 mt) := fun o => (cells4 ((Below.heap_alloc _ o _ (lt_of_block' e4)).trans e4)).1.2.2.1
  have z3 : ∀ o, (w4.alloc o).cell? ⟨w3.heap.size, 3, none⟩ = some (.string md) := fun o => (cells4 ((Below.heap_alloc _ o _ (lt_of_block' e4)).trans e4)).1.2.2.2
  have D4 : Kp (Duo w4 g v3 h u4 M) := ⟨⟨((N3.out.alloc _).beside R3.out.2 x4).1, n4, ((N3.out.alloc _).beside R3.out.2 x4).2⟩⟩
  have T4 := Kp.mk ((T3.out.trans (Two.of_below ((Below.refl _ _).alloc (Nat.le_refl _) _) _ _ _ _)).trans (Two.right x4))
  clear n4 x4 e4 y3
  go_wp2
  go_ret
  exact ⟨by trivial, v3, u4, D4.out.below ((Below.refl _ _).alloc (Nat.le_refl _) _), T4.out.trans (Two.of_below ((Below.refl _ _).alloc (Nat.le_refl _) _) _ _ _ _)⟩
set_option maxRecDepth 20000 in
set_option maxHeartbeats 1000000 in
theorem both_twice (g h : Nat) (v u : Value) (N : NetV) (qw : Nat) (hw3 : 3 ≤ qw) (qf qt qi : Int) (qs : ByteArray) (qm : Nat) (w : World) (d : Duo w g v h u N) (hs : Sm N 900000000000) (hqs : qs.size ≤ maxLen) (hqm : qm < 65536) :
    Calls Try.prog 22 #[.pointer (some ⟨g, 0, none⟩), .pointer (some ⟨h, 0, none⟩), ActV.v ⟨qw, qf, qt, qi, qs, qm⟩] w fun e w' => e = .returned (.bool true) ∧ ∃ v' u', Duo w' g v' h u' ((twiceV N qi).2) ∧ Two w w' g v v' h u u' := by
  unfold ActV.v
  simp only []
  have HD : Kp (∀ o, Duo (w.alloc o) g v h u N ∧ Two w (w.alloc o) g v v h u u) := ⟨fun o => ⟨d.below ((Below.refl _ _).alloc (Nat.le_refl _) _), Two.of_below ((Below.refl _ _).alloc (Nat.le_refl _) _) _ _ _ _⟩⟩
  have HN : Kp (¬ feet g v h u w.heap.size) := ⟨fun e => by have := d.lt _ e; omega⟩
  have HS := Kp.mk (hs.mono (show (900000000000 : Int) ≤ 1000000000000 by decide))
  clear d hs
  have HC := Kp.mk (fun wx hx => Twice_any g v N qi wx hx HS.out)
  have HC2 := Kp.mk (fun wx hx => RefTwice_any h u N qi wx hx HS.out)
  generalize twiceV N qi = r at HC HC2 ⊢
  obtain ⟨⟨id, er⟩, M⟩ := r
  simp only [] at HC HC2 ⊢
  have zz0 : ((qw : Int) == 0) = false := by rw [beq_eq_false_iff_ne]; omega
  have zz1 : ((qw : Int) == 1) = false := by rw [beq_eq_false_iff_ne]; omega
  have zz2 : ((qw : Int) == 2) = false := by rw [beq_eq_false_iff_ne]; omega
  obtain ⟨k0, k1, k2, k3, k4, k5⟩ := cells6 (heap_alloc_new w (.cells #[.int .u8 qw, .int .i64 qf, .int .i64 qt, .int .i64 qi, .string qs, .int .u16 qm] 33))
  go_enter Try.func22, Try.ntmps22
  go_wp2_with fail
  refine (HC.out _ (HD.out _).1.net).mono ?_
  rintro e w3 ⟨rfl, v3, n3, u3⟩
  have e3 := (u3.keep (k := w.heap.size) (by simp) (fun e => HN.out (.inl (.inl e))) (fun e => HN.out (.inl (.inr e)))).trans (heap_alloc_new w (.cells #[.int .u8 qw, .int .i64 qf, .int .i64 qt, .int .i64 qi, .string qs, .int .u16 qm] 33))
  have y3 := (cells6 e3).2.2.2.1
  have N3 := Kp.mk n3
  have T3 := Kp.mk ((HD.out (.cells #[.int .u8 qw, .int .i64 qf, .int .i64 qt, .int .i64 qi, .string qs, .int .u16 qm] 33)).2.trans (Two.left u3))
  have R3 := Kp.mk ((HD.out (.cells #[.int .u8 qw, .int .i64 qf, .int .i64 qt, .int .i64 qi, .string qs, .int .u16 qm] 33)).1.ref.beside (HD.out (.cells #[.int .u8 qw, .int .i64 qf, .int .i64 qt, .int .i64 qi, .string qs, .int .u16 qm] 33)).1.apart u3)
  clear n3 u3 e3 k0 k1 k2 k3 k4 k5
  go_wp2_with fail
  refine (HC2.out _ R3.out.1).mono ?_
  rintro e w4 ⟨rfl, u4, n4, x4⟩
  have D4 : Kp (Duo w4 g v3 h u4 M) := ⟨⟨(N3.out.beside R3.out.2 x4).1, n4, (N3.out.beside R3.out.2 x4).2⟩⟩
  have T4 := Kp.mk (T3.out.trans (Two.right x4))
  clear n4 x4 y3
  go_wp2
  go_ret
  exact ⟨by trivial, v3, u4, D4.out, T4.out⟩
set_option maxRecDepth 20000 in
set_option maxHeartbeats 1000000 in
theorem both_lose (g h : Nat) (v u : Value) (N : NetV) (qf qt qi : Int) (qs : ByteArray) (qm : Nat) (w : World) (d : Duo w g v h u N) (hs : Sm N 900000000000) (hqs : qs.size ≤ maxLen) (hqm : qm < 65536) :
    Calls Try.prog 22 #[.pointer (some ⟨g, 0, none⟩), .pointer (some ⟨h, 0, none⟩), ActV.v ⟨2, qf, qt, qi, qs, qm⟩] w fun e w' => e = .returned (.bool true) ∧ ∃ v' u', Duo w' g v' h u' ((loseV N qi).2) ∧ Two w w' g v v' h u u' := by
  unfold ActV.v
  simp only []
  rw [show ((2 : Nat) : Int) = 2 from rfl]
  have HD : Kp (∀ o, Duo (w.alloc o) g v h u N ∧ Two w (w.alloc o) g v v h u u) := ⟨fun o => ⟨d.below ((Below.refl _ _).alloc (Nat.le_refl _) _), Two.of_below ((Below.refl _ _).alloc (Nat.le_refl _) _) _ _ _ _⟩⟩
  have HN : Kp (¬ feet g v h u w.heap.size) := ⟨fun e => by have := d.lt _ e; omega⟩
  have HS := Kp.mk (hs.mono (show (900000000000 : Int) ≤ 1000000000000 by decide))
  clear d hs
  have HC := Kp.mk (fun v wx hx => Lose_any g v N qi wx hx HS.out)
  have HC2 := Kp.mk (fun u wx hx => RefLose_any h u N qi wx hx HS.out)
  generalize loseV N qi = r at HC HC2 ⊢
  obtain ⟨er, M⟩ := r
  simp only [] at HC HC2 ⊢
  go_enter Try.func22, Try.ntmps22
  have k0 := (cells6 (heap_alloc_new w (.cells #[.int .u8 2, .int .i64 qf, .int .i64 qt, .int .i64 qi, .string qs, .int .u16 qm] 33))).1
  go_wp2_with fail
  have D0 := Kp.mk (HD.out (.cells #[.int .u8 2, .int .i64 qf, .int .i64 qt, .int .i64 qi, .string qs, .int .u16 qm] 33)).1
  have T0 := Kp.mk (HD.out (.cells #[.int .u8 2, .int .i64 qf, .int .i64 qt, .int .i64 qi, .string qs, .int .u16 qm] 33)).2
  have B0 := Kp.mk (heap_alloc_new w (.cells #[.int .u8 2, .int .i64 qf, .int .i64 qt, .int .i64 qi, .string qs, .int .u16 qm] 33))
  clear HD k0
  generalize w.alloc (.cells #[.int .u8 2, .int .i64 qf, .int .i64 qt, .int .i64 qi, .string qs, .int .u16 qm] 33) = w0 at D0 T0 B0 ⊢
  have k3 := (cells6 B0.out).2.2.2.1
  have TD : Kp (Two w0 w0.drew g v v h u u) := ⟨Two.of_below ((Below.refl _ _).drew) _ _ _ _⟩
  go_region_held3 (fun w' => w'.cell? ⟨w.heap.size, 3, none⟩ = some (.int .i64 qi)) (go_keep)
    (first
      | (go_at_call 18; refine (HC.out _ _ D0.out.net.drew).mono ?_; rintro e w3 ⟨rfl, v3, n3, u3⟩; have T3 := Kp.mk (TD.out.trans (Two.left u3)); have y3 := (cells6 (T3.out.kept B0.out HN.out).1).2.2.2.1; have N3 := Kp.mk n3; have R3 := Kp.mk (D0.out.ref.drew.beside D0.out.apart u3); clear n3 u3)
      | (go_at_call 31; refine (HC2.out _ _ R3.out.1).mono ?_; rintro e w4 ⟨rfl, u4, n4, x4⟩; have D4 : Kp (Duo w4 g v3 h u4 M) := ⟨⟨(N3.out.beside R3.out.2 x4).1, n4, (N3.out.beside R3.out.2 x4).2⟩⟩; have T4 := Kp.mk (T3.out.trans (Two.right x4)); have y4 := (cells6 (T4.out.kept B0.out HN.out).1).2.2.2.1; clear n4 x4)
      | (go_at_call 31; refine (HC2.out _ _ D0.out.ref.drew).mono ?_; rintro e w3 ⟨rfl, u3, n3, x3⟩; have T3 := Kp.mk (TD.out.trans (Two.right x3)); have y3 := (cells6 (T3.out.kept B0.out HN.out).1).2.2.2.1; have R3 := Kp.mk n3; have N3 := Kp.mk (D0.out.net.drew.beside D0.out.apart x3); clear n3 x3)
      | (go_at_call 18; refine (HC.out _ _ N3.out.1).mono ?_; rintro e w4 ⟨rfl, v4, n4, x4⟩; have D4 : Kp (Duo w4 g v4 h u3 M) := ⟨⟨n4, (R3.out.beside N3.out.2 x4).1, (R3.out.beside N3.out.2 x4).2⟩⟩; have T4 := Kp.mk (T3.out.trans (Two.left x4)); have y4 := (cells6 (T4.out.kept B0.out HN.out).1).2.2.2.1; clear n4 x4))
  all_goals go_wp2
  all_goals go_ret
  all_goals exact ⟨by trivial, _, _, D4.out, T0.out.trans T4.out⟩
theorem both_any (g h : Nat) (v u : Value) (N : NetV) (a : ActV) (ha : a.ok) (w : World) (d : Duo w g v h u N) (hs : Sm N 900000000000) :
    Calls Try.prog 22 #[.pointer (some ⟨g, 0, none⟩), .pointer (some ⟨h, 0, none⟩), a.v] w fun e w' => e = .returned (.bool true) ∧ ∃ v' u', Duo w' g v' h u' (actV N a) ∧ Two w w' g v v' h u u' := by
  obtain ⟨qw, qf, qt, qi, qs, qm⟩ := a
  obtain ⟨h1, _, _, _, h5, h6⟩ := ha
  simp only [] at h1 h5 h6
  unfold actV
  simp only []
  match qw with
  | 0 => exact both_send g h v u N qf qt qi qs qm w d hs h5 h6
  | 1 => exact both_take g h v u N qf qt qi qs qm w d hs h5 h6
  | 2 => exact both_lose g h v u N qf qt qi qs qm w d hs h5 h6
  | k + 3 =>
    rw [if_neg (by omega), if_neg (by omega), if_neg (by omega)]
    exact both_twice g h v u N (k + 3) (by omega) qf qt qi qs qm w d hs h5 h6
end Go.Proofs.Ytdhpnhdokkhnlaa
