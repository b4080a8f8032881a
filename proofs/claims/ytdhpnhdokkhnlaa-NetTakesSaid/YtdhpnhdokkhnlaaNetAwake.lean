/- The examples that each statement of chapter 17 asks; of. -/
import Derived.Test.YtdhpnhdokkhnlaaNetActs
namespace Go.Proofs.Ytdhpnhdokkhnlaa
open Go.RowKit
set_option linter.unusedVariables false

theorem of_any (m : MailV) (w : World) :
    Calls Try.prog 15 #[m.v] w fun e w' => e = .returned (.agg #[.int .i64 m.frm, .int .i64 m.to, .string m.data]) ∧ Below w.heap.size w w' := by
  obtain ⟨id, frm, to, data⟩ := m
  unfold MailV.v
  simp only []
  go_enter Try.func15, Try.ntmps15
  go_wp2
  refine bodyPost_ret (v := .agg #[.int .i64 frm, .int .i64 to, .string data]) (by simp [results, Try.results15, go_sem]) rfl ⟨rfl, ((Below.refl _ _).alloc (Nat.le_refl _) _).alloc (by simp) _⟩
theorem Upd.keep {w w' : World} {g : Nat} {v v' : Value} (h : Upd w w' g v v') {k : Nat} (hk : k < w.heap.size) (hg : k ≠ g) (hv : blk v ≠ some k) : w'.heap[k]? = w.heap[k]? := h.2.2.2.2.1 k hk hg hv
theorem Upd.size {w w' : World} {g : Nat} {v v' : Value} (h : Upd w w' g v v') : w.heap.size ≤ w'.heap.size := h.2.2.2.1
theorem Send_at (g : Nat) (v : Value) (N N' : NetV) (f t a b : Int) (d : ByteArray) (w : World) (h : NetAt w g v N) (hs : Sm N 1000000000000) (hd : d.size ≤ maxLen) (hv : sendV N f t d = ((a, b), N')) :
    Calls Try.prog 12 #[.pointer (some ⟨g, 0, none⟩), .int .i64 f, .int .i64 t, .string d] w fun e w' => e = .returned (.tuple #[.int .i64 a, .int .i64 b]) ∧ ∃ v', NetAt w' g v' N' ∧ Upd w w' g v v' := by
  have := Send_any g v N f t d w h hs hd
  rw [hv] at this
  exact this
theorem Twice_at (g : Nat) (v : Value) (N N' : NetV) (i a b : Int) (w : World) (h : NetAt w g v N) (hs : Sm N 1000000000000) (hv : twiceV N i = ((a, b), N')) :
    Calls Try.prog 14 #[.pointer (some ⟨g, 0, none⟩), .int .i64 i] w fun e w' => e = .returned (.tuple #[.int .i64 a, .int .i64 b]) ∧ ∃ v', NetAt w' g v' N' ∧ Upd w w' g v v' := by
  have := Twice_any g v N i w h hs
  rw [hv] at this
  exact this
theorem Take_at (g : Nat) (v : Value) (N N' : NetV) (i b : Int) (m : MailV) (w : World) (h : NetAt w g v N) (hs : Sm N 1000000000000) (hv : takeV N i = ((m, b), N')) :
    Calls Try.prog 16 #[.pointer (some ⟨g, 0, none⟩), .int .i64 i] w fun e w' => e = .returned (.tuple #[m.v, .int .i64 b]) ∧ ∃ v', NetAt w' g v' N' ∧ Upd w w' g v v' := by
  have := Take_any g v N i w h hs
  rw [hv] at this
  exact this
def nA : NetV := ⟨1, 0, 0, 0, 4, 1, [⟨1, 0, 3, ⟨#[97]⟩⟩]⟩
def nB : NetV := ⟨2, 0, 0, 0, 4, 2, [⟨1, 0, 3, ⟨#[97]⟩⟩, ⟨2, 1, 3, ⟨#[98]⟩⟩]⟩
def nC : NetV := ⟨2, 1, 0, 0, 4, 3, [⟨1, 0, 3, ⟨#[97]⟩⟩, ⟨2, 1, 3, ⟨#[98]⟩⟩, ⟨3, 0, 3, ⟨#[97]⟩⟩]⟩
def nD : NetV := ⟨2, 1, 1, 0, 4, 3, [⟨1, 0, 3, ⟨#[97]⟩⟩, ⟨3, 0, 3, ⟨#[97]⟩⟩]⟩
set_option maxRecDepth 100000 in
set_option maxHeartbeats 1000000 in
theorem awake_any (w : World) : Calls Try.prog 10 #[] w fun e w' => e = .returned (.bool true) ∧ Below w.heap.size w w' := by
  go_enter Try.func10, Try.ntmps10
  go_wp2_with fail
  refine (New_ok 4 _ (by decide) (by decide)).mono ?_
  rintro e w1 ⟨rfl, h1, hb1⟩
  have HB : Kp (Below w.heap.size w w1 ∧ ∀ k, blk (.slice none 0 0) = some k → w.heap.size ≤ k) := ⟨hb1, fun k hk => by simp [blk] at hk⟩
  obtain ⟨g, hg⟩ : ∃ g, w.heap.size = g := ⟨_, rfl⟩
  have HG : Kp (w.heap.size ≤ g) := ⟨by omega⟩
  rw [hg] at h1 ⊢
  have H := Kp.mk h1
  clear h1 hb1 hg
  go_wp2_with fail
  refine (Send_at g _ _ nA 0 3 1 0 ⟨#[97]⟩ _ H.out (by unfold Sm; decide) (by decide) (by rfl)).mono ?_
  rintro e x2 ⟨rfl, y2, n1, u1⟩
  replace HB := Kp.mk (Upd.below HB.out.1 u1 HB.out.1.size HG.out HB.out.2)
  replace H := Kp.mk n1
  clear n1 u1
  go_wp2_with fail
  refine (Send_at g _ _ nB 1 3 2 0 ⟨#[98]⟩ _ H.out (by unfold Sm; decide) (by decide) (by rfl)).mono ?_
  rintro e x3 ⟨rfl, y3, n1, u1⟩
  replace HB := Kp.mk (Upd.below HB.out.1 u1 HB.out.1.size HG.out HB.out.2)
  replace H := Kp.mk n1
  clear n1 u1
  go_wp2_with fail
  refine (Twice_at g _ _ nC 0 3 0 _ H.out (by unfold Sm; decide) (by rfl)).mono ?_
  rintro e x4 ⟨rfl, y4, n1, u1⟩
  replace HB := Kp.mk (Upd.below HB.out.1 u1 HB.out.1.size HG.out HB.out.2)
  replace H := Kp.mk n1
  clear n1 u1
  go_wp2_with fail
  refine (Take_at g _ _ nD 1 0 ⟨2, 1, 3, ⟨#[98]⟩⟩ _ H.out (by unfold Sm; decide) (by rfl)).mono ?_
  rintro e x5 ⟨rfl, y5, n1, u1⟩
  replace HB := Kp.mk (Upd.below HB.out.1 u1 HB.out.1.size HG.out HB.out.2)
  replace H := Kp.mk n1
  clear n1 u1
  unfold MailV.v
  have HB' : Kp (∀ o, Below w.heap.size w (x5.alloc o)) := ⟨fun o => HB.out.1.trans ((Below.refl _ _).alloc HB.out.1.size o)⟩
  have H' : Kp (∀ o, NetAt (x5.alloc o) g y5 nD) := ⟨fun o => H.out.alloc o⟩
  have hnew := Kp.mk (heap_alloc_new x5 (.cells #[.int .i64 2, .int .i64 1, .int .i64 3, .string ⟨#[98]⟩] 38))
  go_wp2_with fail
  obtain ⟨hb, hhb⟩ : ∃ h, x5.heap.size = h := ⟨_, rfl⟩
  have hz : x5.heap.size < (x5.alloc (.cells #[.int .i64 2, .int .i64 1, .int .i64 3, .string ⟨#[98]⟩] 38)).heap.size := by simp
  rw [hhb] at hz hnew ⊢
  have KM := Kp.mk (And.intro hnew.out hz)
  clear hz hnew hhb
  refine (Send_no g y5 nD 0 0 ⟨#[97]⟩ _ (H'.out _) (by decide) (.inl (.inr (.inr rfl)))).mono ?_
  rw [show (if ¬ ((0 : Int) ≤ 0 ∧ (0 : Int) < nD.nodes) ∨ ¬ ((0 : Int) ≤ 0 ∧ (0 : Int) < nD.nodes) ∨ (0 : Int) = 0 then (1 : Int) else 40) = 1 from rfl]
  rintro e x6 ⟨rfl, b1⟩
  have HB : Kp (Below w.heap.size w x6) := ⟨(HB'.out _).trans (b1.mono (HB'.out _).size)⟩
  have H := Kp.mk ((H'.out _).below b1)
  replace KM := Kp.mk (And.intro ((b1.block hb KM.out.2).trans KM.out.1) (Nat.lt_of_lt_of_le KM.out.2 b1.size))
  clear b1 H' HB'
  go_wp2_with fail
  refine (Send_no g y5 nD 0 4 ⟨#[97]⟩ _ H.out (by decide) (.inl (.inr (.inl (by decide))))).mono ?_
  rw [show (if ¬ ((0 : Int) ≤ 0 ∧ (0 : Int) < nD.nodes) ∨ ¬ ((0 : Int) ≤ 4 ∧ (4 : Int) < nD.nodes) ∨ (0 : Int) = 4 then (1 : Int) else 40) = 1 from rfl]
  rintro e x7 ⟨rfl, b1⟩
  replace HB : Kp (Below w.heap.size w x7) := ⟨HB.out.trans (b1.mono HB.out.size)⟩
  replace H := Kp.mk (H.out.below b1)
  replace KM := Kp.mk (And.intro ((b1.block hb KM.out.2).trans KM.out.1) (Nat.lt_of_lt_of_le KM.out.2 b1.size))
  clear b1
  go_wp2_with fail
  refine (Mails_any g y5 nD _ H.out (by decide)).mono ?_
  rintro e x8 ⟨vl, rfl, r1, b1, _⟩
  replace HB : Kp (Below w.heap.size w x8) := ⟨HB.out.trans (b1.mono HB.out.size)⟩
  obtain ⟨⟨m0, m1, m2, m3⟩, _⟩ := cells4 ((b1.block hb KM.out.2).trans KM.out.1)
  obtain ⟨gl, cap, hv, c1, c2, c3, c4⟩ := r1.at_ (by decide)
  subst hv
  have l0 := r1.cell 0 _ rfl
  have l1 := r1.cell 1 _ rfl
  have l2 := r1.cell 2 _ rfl
  have l3 := r1.cell 3 _ rfl
  have l4 := r1.cell 4 _ rfl
  have l5 := r1.cell 5 _ rfl
  have l6 := r1.cell 6 _ rfl
  have l7 := r1.cell 7 _ rfl
  rw [show nD.l.length = 2 from rfl]
  clear b1 r1 c1 c2 c3 c4 H KM
  go_wp2
  go_ret
  exact ⟨by trivial, HB.out⟩
end Go.Proofs.Ytdhpnhdokkhnlaa
