/- do: what comes of an act; what is there behind acts stays as disks are; made; has. -/
import Derived.Test.YtimfchjjdifbiaaDiskIn
namespace Go.Proofs.Ytimfchjjdifbiaa
open Go.RowKit
set_option linter.unusedVariables false

/-! ### Disks stay as they are made -/
theorem used_set (tp : Nat → TapeV) (t : Nat) (x : TapeV) : ∀ k, used (fun j => if j = t then x else tp j) k + (if t < k then (tp t).b.size else 0) = used tp k + (if t < k then x.b.size else 0)
  | 0 => by simp [used]
  | k + 1 => by
    have ih := used_set tp t x k
    show used _ k + (if k = t then x else tp k).b.size + _ = used tp k + (tp k).b.size + _
    by_cases h : k = t
    · subst h
      rw [if_pos rfl, if_pos (by omega), if_pos (by omega)]
      rw [if_neg (by omega), if_neg (by omega)] at ih
      omega
    · rw [if_neg h]
      by_cases h2 : t < k
      · rw [if_pos (by omega), if_pos (by omega)]
        rw [if_pos h2, if_pos h2] at ih
        omega
      · rw [if_neg (by omega), if_neg (by omega)]
        rw [if_neg h2, if_neg h2] at ih
        omega
theorem used_setT (D : DiskV) (t : Nat) (x : TapeV) (ht : t < 32) : used (setT D t x).tp 32 + (D.tp t).b.size = used D.tp 32 + x.b.size := by
  have := used_set D.tp t x 32
  rw [if_pos ht, if_pos ht] at this
  exact this
theorem Ok.set {D : DiskV} (h : Ok D) (t : Nat) (ht : t < 32) (x : TapeV) (h1 : x.firm ≤ x.b.size) (h2 : x.b.size ≤ 1048576) (h3 : (used D.tp 32 : Int) + x.b.size - (D.tp t).b.size ≤ D.cap) : Ok (setT D t x) := by
  have hu := used_setT D t x ht
  refine ⟨fun k hk => ?_, fun k hk => ?_, h.cap, h.cap2, ?_, h.left, h.left2, h.ready⟩
  · by_cases e : k = t
    · subst e; rw [setT_same]; exact h1
    · rw [setT_other _ _ _ _ e]; exact h.firm k hk
  · by_cases e : k = t
    · subst e; rw [setT_same]; exact h2
    · rw [setT_other _ _ _ _ e]; exact h.most k hk
  · show (used (setT D t x).tp 32 : Int) ≤ D.cap
    omega
theorem Ok.fails {D : DiskV} (h : Ok D) (hd : D.down = false) : Ok (failsV D).2 := by
  unfold failsV
  split
  · exact h
  · rename_i hc
    have hr := h.ready (by simpa using hc) hd
    have := h.left2
    refine ⟨h.firm, h.most, h.cap, h.cap2, h.room, ?_, ?_, ?_⟩
    · show -1 ≤ D.left - 1; omega
    · show D.left - 1 ≤ _; omega
    · intro _ h2
      have h2 : decide (D.left - 1 < 0) = false := h2
      rw [decide_eq_false_iff_not] at h2
      show 0 ≤ D.left - 1
      omega
theorem fails_cap (D : DiskV) : (failsV D).2.cap = D.cap := by unfold failsV; split <;> rfl
theorem Ok.op {D : DiskV} (h : Ok D) (t may : Int) (dov torn : TapeV → TapeV)
    (h1 : ∀ k : Nat, t = k → k < 32 → may = 0 → (dov (D.tp k)).firm ≤ (dov (D.tp k)).b.size ∧ (dov (D.tp k)).b.size ≤ 1048576 ∧ (used D.tp 32 : Int) + (dov (D.tp k)).b.size - (D.tp k).b.size ≤ D.cap)
    (h2 : ∀ k : Nat, t = k → k < 32 → may = 0 → (torn (D.tp k)).firm ≤ (torn (D.tp k)).b.size ∧ (torn (D.tp k)).b.size ≤ 1048576 ∧ (used D.tp 32 : Int) + (torn (D.tp k)).b.size - (D.tp k).b.size ≤ D.cap) : Ok (opV D t may dov torn).2 := by
  unfold opV
  split
  · exact h
  · rename_i hd
    split
    · exact h
    · rename_i ht
      split
      · exact h
      · rename_i hm
        obtain ⟨k, rfl, hk⟩ : ∃ k : Nat, t = k ∧ k < 32 := ⟨t.toNat, by omega, by omega⟩
        have hm0 : may = 0 := by omega
        rw [Int.toNat_natCast]
        have hf := h.fails (by simpa using hd)
        split
        · obtain ⟨a, b, c⟩ := h2 k rfl hk hm0
          exact hf.set k hk _ a b (by rw [fails_tp, fails_cap]; exact c)
        · obtain ⟨a, b, c⟩ := h1 k rfl hk hm0
          exact hf.set k hk _ a b (by rw [fails_tp, fails_cap]; exact c)
theorem Ok.id_torn {D : DiskV} (h : Ok D) (k : Nat) (hk : k < 32) : (id (D.tp k)).firm ≤ (id (D.tp k)).b.size ∧ (id (D.tp k)).b.size ≤ 1048576 ∧ (used D.tp 32 : Int) + (id (D.tp k)).b.size - (D.tp k).b.size ≤ D.cap :=
  ⟨h.firm k hk, h.most k hk, by have := h.room; show (used D.tp 32 : Int) + (D.tp k).b.size - (D.tp k).b.size ≤ D.cap; omega⟩
theorem Ok.sync {D : DiskV} (h : Ok D) (t : Int) : Ok (syncV D t).2 :=
  h.op t 0 _ id (fun k _ hk _ => ⟨Nat.le_refl _, h.most k hk, by have := h.room; show (used D.tp 32 : Int) + (D.tp k).b.size - (D.tp k).b.size ≤ D.cap; omega⟩) (fun k _ hk _ => h.id_torn k hk)
theorem Ok.wipe {D : DiskV} (h : Ok D) (t : Int) : Ok (wipeV D t).2 :=
  h.op t 0 _ id (fun k _ hk _ => ⟨Nat.le_refl _, Nat.zero_le _, by have := h.room; show (used D.tp 32 : Int) + ((0 : Nat) : Int) - (D.tp k).b.size ≤ D.cap; omega⟩) (fun k _ hk _ => h.id_torn k hk)
theorem Ok.trim {D : DiskV} (h : Ok D) (t n : Int) : Ok (trimV D t n).2 :=
  h.op t _ _ id (fun k hk1 hk hm => by
    subst hk1
    rw [Int.toNat_natCast] at hm
    have hn : 0 ≤ n ∧ n ≤ ((D.tp k).b.size : Int) := by unfold trimMay at hm; split at hm <;> omega
    have := h.room
    have := h.most k hk
    have he : ((D.tp k).b.extract 0 n.toNat).size = n.toNat := extract_size _ _ (by omega)
    exact ⟨by show n.toNat ≤ ((D.tp k).b.extract 0 n.toNat).size; omega, by show ((D.tp k).b.extract 0 n.toNat).size ≤ _; omega, by show (used D.tp 32 : Int) + ((D.tp k).b.extract 0 n.toNat).size - (D.tp k).b.size ≤ D.cap; omega⟩) (fun k _ hk _ => h.id_torn k hk)
theorem Ok.write {D : DiskV} (h : Ok D) (t : Int) (s : ByteArray) : Ok (writeV D t s).2 := by
  have key : ∀ k : Nat, t = k → k < 32 → writeMay D (D.tp t.toNat).b s = 0 → (D.tp k).firm ≤ ((D.tp k).b ++ s).size ∧ ((D.tp k).b ++ s).size ≤ 1048576 ∧ (used D.tp 32 : Int) + ((D.tp k).b ++ s).size - (D.tp k).b.size ≤ D.cap := fun k hk1 hk hm => by
    subst hk1
    rw [Int.toNat_natCast] at hm
    have := h.firm k hk
    have hsz : ((D.tp k).b ++ s).size = (D.tp k).b.size + s.size := ByteArray.size_append
    unfold writeMay at hm
    split at hm
    · omega
    · split at hm
      · omega
      · omega
  exact h.op t _ _ _ key key
theorem Ok.failV {D : DiskV} (h : Ok D) (n : Int) (hn : n ≤ 9223372036854775807) : Ok (failV D n).2 := by
  unfold Go.Proofs.Ytimfchjjdifbiaa.failV
  split
  · exact h
  · split
    · exact h
    · rename_i h0
      exact ⟨h.firm, h.most, h.cap, h.cap2, h.room, by show -1 ≤ n; omega, hn, fun _ _ => by show 0 ≤ n; omega⟩
theorem used_mono {a b : Nat → TapeV} (h : ∀ t, t < 32 → (a t).b.size ≤ (b t).b.size) : ∀ k, k ≤ 32 → used a k ≤ used b k
  | 0, _ => Nat.le_refl _
  | k + 1, hk => by
    have := used_mono h k (by omega)
    have := h k (by omega)
    rw [used, used]; omega
/-- A tape behind a Back: what was firm, and a beginning of what was loose; all of it is firm. -/
theorem back_tape (D : DiskV) (h : ∀ t, t < 32 → (D.tp t).firm ≤ (D.tp t).b.size) (kl : Nat) (kf : Nat → Int) : ∀ k t, t < k → k ≤ 32 → ∃ n, (D.tp t).firm ≤ n ∧ n ≤ (D.tp t).b.size ∧ (backT kl kf D.tp k).1 t = ⟨(D.tp t).b.extract 0 n, n⟩
  | 0, _, h1, _ => absurd h1 (Nat.not_lt_zero _)
  | k + 1, t, h1, h2 => by
    show ∃ n, _ ∧ _ ∧ (if t = k then (backS kl kf (D.tp k) (backT kl kf D.tp k).2).1 else (backT kl kf D.tp k).1 t) = _
    by_cases e : t = k
    · subst e
      rw [if_pos rfl]
      have hf := h t (by omega)
      unfold backS
      by_cases e2 : (D.tp t).b.size = (D.tp t).firm
      · rw [if_pos e2]
        refine ⟨(D.tp t).firm, Nat.le_refl _, hf, ?_⟩
        show D.tp t = ⟨(D.tp t).b.extract 0 (D.tp t).firm, (D.tp t).firm⟩
        rw [← e2, ByteArray.extract_zero_size]
        rw [e2]
      · rw [if_neg e2]
        have := backN_le kl kf (D.tp t) (backT kl kf D.tp t).2
        exact ⟨_, Nat.le_add_right _ _, by omega, rfl⟩
    · rw [if_neg e]
      exact back_tape D h kl kf k t (by omega) (by omega)
theorem Ok.back {D : DiskV} (h : Ok D) (kl : Nat) (kf : Nat → Int) : Ok (backV D kl kf) := by
  have hb := fun t ht => back_tape D h.firm kl kf 32 t ht (Nat.le_refl _)
  have hs : ∀ t, t < 32 → ((backT kl kf D.tp 32).1 t).b.size ≤ (D.tp t).b.size ∧ ((backT kl kf D.tp 32).1 t).firm ≤ ((backT kl kf D.tp 32).1 t).b.size := fun t ht => by
    obtain ⟨n, h1, h2, h3⟩ := hb t ht
    rw [h3]
    simp only [extract_size _ _ h2]
    omega
  refine ⟨fun t ht => (hs t ht).2, fun t ht => Nat.le_trans (hs t ht).1 (h.most t ht), h.cap, h.cap2, ?_, by show (-1 : Int) ≤ 0; decide, by show (0 : Int) ≤ _; decide, fun h => by cases h⟩
  have := used_mono (fun t ht => (hs t ht).1) 32 (Nat.le_refl _)
  have := h.room
  show (used (backT kl kf D.tp 32).1 32 : Int) ≤ D.cap
  omega
/-! ### do -/
/-- What comes of an act. -/
def doV (D : DiskV) (a : ActV) : (ByteArray × Int) × DiskV :=
  match a.what with
  | 0 => ((⟨#[]⟩, (writeV D a.t a.s).1), (writeV D a.t a.s).2)
  | 1 => ((⟨#[]⟩, (syncV D a.t).1), (syncV D a.t).2)
  | 2 => ((⟨#[]⟩, (trimV D a.t a.n).1), (trimV D a.t a.n).2)
  | 3 => ((⟨#[]⟩, (wipeV D a.t).1), (wipeV D a.t).2)
  | 4 => (readV D a.t, D)
  | 5 => ((⟨#[]⟩, (failV D a.n).1), (failV D a.n).2)
  | _ + 6 => ((⟨#[]⟩, 0), backV D a.kl a.kf)
theorem Ok.act {D : DiskV} (h : Ok D) (a : ActV) (ha : a.ok) : Ok (doV D a).2 := by
  unfold doV
  split
  · exact h.write _ _
  · exact h.sync _
  · exact h.trim _ _
  · exact h.wipe _
  · exact h
  · exact h.failV _ ha.2.2.1.2
  · exact h.back _ _
theorem cells5 {w : World} {k : Nat} {a b c d e : Value} {t : TypeId} (h : w.heap[k]? = some (.cells #[a, b, c, d, e] t (0, 0))) : w.cell? ⟨k, 0, none⟩ = some a ∧ w.cell? ⟨k, 1, none⟩ = some b ∧ w.cell? ⟨k, 2, none⟩ = some c ∧ w.cell? ⟨k, 3, none⟩ = some d ∧ w.cell? ⟨k, 4, none⟩ = some e := by
  refine ⟨?_, ?_, ?_, ?_, ?_⟩ <;> simp [World.cell?, h]
set_option maxRecDepth 20000 in
set_option maxHeartbeats 2000000 in
theorem do_any (g : Nat) (D : DiskV) (a : ActV) (w : World) (h : DiskAt w g D) (ho : Ok D) (ha : a.ok) (hk : ∀ W, Chg w W g → KeepAt W a.ko a.kl a.kf) :
    Calls Try.prog 10 #[.pointer (some ⟨g, 0, none⟩), a.v] w fun e w' => e = .returned (.tuple #[.string (doV D a).1.1, .int .i64 (doV D a).1.2]) ∧ DiskAt w' g (doV D a).2 ∧ Chg w w' g := by
  obtain ⟨qw, qt, qn, qs, ko, kl, kc, kf⟩ := a
  obtain ⟨h1, _, _, h4, h5⟩ := ha
  simp only [] at h1 h4 h5 hk
  unfold ActV.v
  simp only []
  have HDA := Kp.mk (fun o => h.alloc o)
  match qw with
  | 0 =>
    rw [show (((0 : Nat) : Int)) = 0 from rfl]
    have HC := Kp.mk (fun o => Write_any g D qt qs _ (h.alloc o) ho h4)
    unfold doV
    simp only []
    generalize writeV D qt qs = r at HC ⊢
    obtain ⟨r1, r2⟩ := r
    simp only [] at HC ⊢
    clear h ho hk
    go_enter Try.func10, Try.ntmps10
    go_wp2_with fail
    refine (HC.out _).mono ?_
    rintro e w1 ⟨rfl, d1, c1⟩
    have H := Kp.mk (And.intro d1 ((Chg.alloc w _ g).trans c1))
    clear d1 c1
    go_wp2
    go_ret2
    exact ⟨rfl, H.out.1, H.out.2⟩
  | 1 =>
    rw [show (((1 : Nat) : Int)) = 1 from rfl]
    have HC := Kp.mk (fun o => Sync_any g D qt _ (h.alloc o) ho)
    unfold doV
    simp only []
    generalize syncV D qt = r at HC ⊢
    obtain ⟨r1, r2⟩ := r
    simp only [] at HC ⊢
    clear h ho hk
    go_enter Try.func10, Try.ntmps10
    go_wp2_with fail
    refine (HC.out _).mono ?_
    rintro e w1 ⟨rfl, d1, c1⟩
    have H := Kp.mk (And.intro d1 ((Chg.alloc w _ g).trans c1))
    clear d1 c1
    go_wp2
    go_ret2
    exact ⟨rfl, H.out.1, H.out.2⟩
  | 2 =>
    rw [show (((2 : Nat) : Int)) = 2 from rfl]
    have HC := Kp.mk (fun o => Trim_any g D qt qn _ (h.alloc o) ho)
    unfold doV
    simp only []
    generalize trimV D qt qn = r at HC ⊢
    obtain ⟨r1, r2⟩ := r
    simp only [] at HC ⊢
    clear h ho hk
    go_enter Try.func10, Try.ntmps10
    go_wp2_with fail
    refine (HC.out _).mono ?_
    rintro e w1 ⟨rfl, d1, c1⟩
    have H := Kp.mk (And.intro d1 ((Chg.alloc w _ g).trans c1))
    clear d1 c1
    go_wp2
    go_ret2
    exact ⟨rfl, H.out.1, H.out.2⟩
  | 3 =>
    rw [show (((3 : Nat) : Int)) = 3 from rfl]
    have HC := Kp.mk (fun o => Wipe_any g D qt _ (h.alloc o) ho)
    unfold doV
    simp only []
    generalize wipeV D qt = r at HC ⊢
    obtain ⟨r1, r2⟩ := r
    simp only [] at HC ⊢
    clear h ho hk
    go_enter Try.func10, Try.ntmps10
    go_wp2_with fail
    refine (HC.out _).mono ?_
    rintro e w1 ⟨rfl, d1, c1⟩
    have H := Kp.mk (And.intro d1 ((Chg.alloc w _ g).trans c1))
    clear d1 c1
    go_wp2
    go_ret2
    exact ⟨rfl, H.out.1, H.out.2⟩
  | 4 =>
    rw [show (((4 : Nat) : Int)) = 4 from rfl]
    have HC := Kp.mk (fun o => Read_any g D qt _ (h.alloc o))
    unfold doV
    simp only []
    generalize readV D qt = r at HC ⊢
    obtain ⟨r1, r2⟩ := r
    simp only [] at HC ⊢
    clear h ho hk
    go_enter Try.func10, Try.ntmps10
    go_wp2_with fail
    refine (HC.out _).mono ?_
    rintro e w1 ⟨rfl, rfl⟩
    go_wp2
    go_ret2
    exact ⟨rfl, HDA.out _, Chg.alloc _ _ _⟩
  | 5 =>
    rw [show (((5 : Nat) : Int)) = 5 from rfl]
    have HC := Kp.mk (fun o => Fail_any g D qn _ (h.alloc o))
    unfold doV
    simp only []
    generalize failV D qn = r at HC ⊢
    obtain ⟨r1, r2⟩ := r
    simp only [] at HC ⊢
    clear h ho hk
    go_enter Try.func10, Try.ntmps10
    go_wp2_with fail
    refine (HC.out _).mono ?_
    rintro e w1 ⟨rfl, d1, c1⟩
    have H := Kp.mk (And.intro d1 ((Chg.alloc w _ g).trans c1))
    clear d1 c1
    go_wp2
    go_ret2
    exact ⟨rfl, H.out.1, H.out.2⟩
  | z + 6 =>
    have HC := Kp.mk (fun o => Back_any g D ko kl kc kf _ (h.alloc o) ho h5 (fun W hW => hk W ((Chg.alloc w o g).trans hW)))
    have zz0 : (((z + 6 : Nat) : Int) == 0) = false := by rw [beq_eq_false_iff_ne]; omega
    have zz1 : (((z + 6 : Nat) : Int) == 1) = false := by rw [beq_eq_false_iff_ne]; omega
    have zz2 : (((z + 6 : Nat) : Int) == 2) = false := by rw [beq_eq_false_iff_ne]; omega
    have zz3 : (((z + 6 : Nat) : Int) == 3) = false := by rw [beq_eq_false_iff_ne]; omega
    have zz4 : (((z + 6 : Nat) : Int) == 4) = false := by rw [beq_eq_false_iff_ne]; omega
    have zz5 : (((z + 6 : Nat) : Int) == 5) = false := by rw [beq_eq_false_iff_ne]; omega
    have hv : doV D ⟨z + 6, qt, qn, qs, ko, kl, kc, kf⟩ = ((⟨#[]⟩, 0), backV D kl kf) := rfl
    rw [hv]
    simp only []
    generalize backV D kl kf = r2 at HC ⊢
    clear h ho hk hv
    generalize ((z + 6 : Nat) : Int) = qw at *
    go_enter Try.func10, Try.ntmps10
    go_wp2_with fail
    refine (HC.out _).mono ?_
    rintro e w1 ⟨rfl, d1, c1⟩
    have H := Kp.mk (And.intro d1 ((Chg.alloc w _ g).trans c1))
    clear d1 c1
    go_wp2
    go_ret2
    exact ⟨rfl, H.out.1, H.out.2⟩
end Go.Proofs.Ytimfchjjdifbiaa
