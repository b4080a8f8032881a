/- The walk of DiskApart as far as its guards; and where they send it away. Printed by tools/apartgen.py. -/
import Derived.Test.YtinjagebogifpaaApart
import Derived.Deep.RegionHeld3
import Derived.Deep.RegionHeldLaw
namespace Go.Proofs.Ytinjagebogifpaa
open Go.RowKit
set_option linter.unusedVariables false

theorem infoAct : (Try.prog.info? 33).map (fun i => (i.zero, i.size, i.bytes)) = some (some (.agg #[.int .u8 0, .int .i64 0, .int .i64 0, .string ⟨#[]⟩, .slice none 0 0]), 5, 64) := by kernel_rfl
theorem grow_below {B n : Nat} {w0 W w2 : World} (hb : Below B w0 W) (hB : B ≤ W.heap.size) (g : W.grownBy w2 (blk (.slice (some ⟨n, 0, none⟩) 0 0))) : Below B w0 w2 := hb.grown g hB (fun k e => by simp [blk] at e)
theorem long_more {w : World} {ao : Option Addr} {len : Nat} {f : Nat → ActV} (hf : ActsIn w ao len f) (hl : len + 1 ≤ maxLen) (q : ActV) (hq : q.ok) (hqk : KeepAt w q.ko q.kl q.kf) (bo : Option Addr) (lb cb : Nat) (g : Nat → ByteArray × ByteArray) (hlb : lb ≤ maxLen) (hg : TapesAt w bo lb g)
    {W : World} {a : Option Addr} {c : Nat} (hr : RK 5 W (.slice a (len + 1) c) (len + 1) (actsL (more f len q) (len + 1))) (hb : Below w.heap.size w W) :
    Calls Try.prog 10 #[.slice a (len + 1) c, .slice bo lb cb] W fun e w' => e = .returned (.bool (decide (20000 ≤ costA (more f len q) (len + 1) + costT g lb))) ∧ Below w.heap.size w w' := by
  obtain ⟨g', cp, he, _, _, _, _⟩ := hr.at_ (by omega)
  simp only [Value.slice.injEq] at he
  obtain ⟨rfl, _, rfl⟩ := he
  have hok : ∀ i, i < len + 1 → (more f len q i).ok := fun i hi => by
    unfold more
    split
    · rename_i h; obtain ⟨_, _, h1, _⟩ := hf w (Below.refl _ _) i h; exact h1
    · exact hq
  have hk : ∀ W', Below W.heap.size W W' → ∀ i, i < len + 1 → KeepAt W' (more f len q i).ko (more f len q i).kl (more f len q i).kf := fun W' hW i hi => by
    have hbw := hb.trans (hW.mono hb.size)
    unfold more
    split
    · rename_i h; obtain ⟨_, _, _, h1⟩ := hf W' hbw i h; exact h1.2.2.2.2.2
    · exact hqk.below hbw
  refine (long_any W _ (len + 1) c (more f len q) bo lb cb g hl (hr.acts hok hk) hlb (fun W' hW => hg W' (hb.trans (hW.mono hb.size)))).mono ?_
  rintro e w' ⟨he, m, rfl⟩
  exact ⟨he, ⟨hb.os, hb.tape, hb.output, hb.size, hb.block⟩⟩
set_option maxRecDepth 100000 in
set_option maxHeartbeats 8000000 in
theorem apart_big0 (w : World) (c : Int) (bo : Option Addr) (lb cb : Nat) (g : Nat → ByteArray × ByteArray) (ao : Option Addr) (len cap : Nat) (f : Nat → ActV) (q : ActV) (hlb : lb ≤ maxLen) (hl : len + 1 ≤ maxLen) (h47 : (len + 1) * 64 ≤ 140737488355328) (hg : TapesAt w bo lb g) (hf : ActsIn w ao len f) (hs : (ao = none ∧ len = 0 ∧ cap = 0) ∨ ∃ a, ao = some a) (hq : q.ok) (hqk : KeepAt w q.ko q.kl q.kf)
    (hbig : 20000 ≤ costA (more f len q) (len + 1) + costT g lb) :
    Calls Try.prog 4 #[.int .i64 c, .slice bo lb cb, .slice ao len cap, q.v] w fun e w' => e = .returned (.bool true) ∧ Below w.heap.size w w' := by
  have hbx := heap_alloc_new w (.cells #[.int .u8 q.what, .int .i64 q.t, .int .i64 q.n, .string q.s, .slice q.ko q.kl q.kc] 33)
  have b1 : Below w.heap.size w (w.alloc (.cells #[.int .u8 q.what, .int .i64 q.t, .int .i64 q.n, .string q.s, .slice q.ko q.kl q.kc] 33)) := (Below.refl _ _).alloc (Nat.le_refl _) _
  have hz1 : (w.alloc (.cells #[.int .u8 q.what, .int .i64 q.t, .int .i64 q.n, .string q.s, .slice q.ko q.kl q.kc] 33)).heap.size = w.heap.size + 1 := by simp
  unfold ActV.v
  go_enter Try.func4, Try.ntmps4
  go_wp2
  obtain ⟨w1, hw1⟩ : ∃ w1, w.alloc (.cells #[.int .u8 q.what, .int .i64 q.t, .int .i64 q.n, .string q.s, .slice q.ko q.kl q.kc] 33) = w1 := ⟨_, rfl⟩
  rw [hw1] at hbx b1 hz1 ⊢
  obtain ⟨b, hbb⟩ : ∃ b, w.heap.size = b := ⟨_, rfl⟩
  have hf1 : ActsIn w1 ao len f := fun W hW => hf W (b1.trans (hW.mono b1.size))
  have hg1 : TapesAt w1 bo lb g := fun W hW => hg W (b1.trans (hW.mono b1.size))
  have hk1 := hqk.below b1
  have HLong := Kp.mk (fun (W : World) (a : Option Addr) (c : Nat) (hr : RK 5 W (.slice a (len + 1) c) (len + 1) (actsL (more f len q) (len + 1))) (hb : Below w1.heap.size w1 W) => long_more hf1 hl q hq hk1 bo lb cb g hlb hg1 hr hb)
  rw [show decide (20000 ≤ costA (more f len q) (len + 1) + costT g lb) = true from by rw [decide_eq_true_eq]; omega] at HLong
  have HSrc : Kp (∀ W, Below w1.heap.size w1 W → Src 5 W (.slice ao len cap) len (actsL f len)) := ⟨fun W hW => by
    refine ⟨actsL_len f len, ?_⟩
    rcases hs with ⟨rfl, rfl, rfl⟩ | ⟨a, rfl⟩
    · exact .inl ⟨rfl, rfl⟩
    · exact .inr ⟨a, cap, rfl, fun j u hu => hf1.cells W hW j u hu⟩⟩
  have HMC : Kp (actsL f len ++ (#[.int .u8 q.what, .int .i64 q.t, .int .i64 q.n, .string q.s, .slice q.ko q.kl q.kc] : Array Value).toList = actsL (more f len q) (len + 1)) := ⟨(more_cells f len q).symm⟩
  have HA1 := Kp.mk (actsL_one f len)
  have HAQ : Kp (∀ u ∈ (#[.int .u8 q.what, .int .i64 q.t, .int .i64 q.n, .string q.s, .slice q.ko q.kl q.kc] : Array Value).toList, u.oneCell' = true) := ⟨by
    have := actsL_one (fun _ => q) 1
    simpa [actsL, actL] using this⟩
  obtain ⟨i0, hi0, hi1, hi2, hi3⟩ := info_parts infoAct
  have HI := Kp.mk (And.intro hi0 (And.intro hi1 (And.intro hi2 hi3)))
  have HLM : Kp (0 + len ≤ maxLen ∧ (0 + len) * 64 ≤ 140737488355328 ∧ len + 1 ≤ maxLen ∧ (len + 1) * 64 ≤ 140737488355328) := ⟨by omega⟩
  have HF := Kp.mk hf1
  have HG := Kp.mk hg1
  have HQ := Kp.mk (And.intro hq hk1)
  have HLB := Kp.mk hlb
  have B1 := Kp.mk b1
  rw [hbb] at hbx hz1
  have HKeep : Kp (∀ W, Below w1.heap.size w1 W → W.cell? ⟨b, 0, none⟩ = some (.int .u8 q.what) ∧ W.cell? ⟨b, 1, none⟩ = some (.int .i64 q.t) ∧ W.cell? ⟨b, 2, none⟩ = some (.int .i64 q.n) ∧ W.cell? ⟨b, 3, none⟩ = some (.string q.s) ∧ W.cell? ⟨b, 4, none⟩ = some (.slice q.ko q.kl q.kc)) := ⟨fun W hW => cells5 ((hW.block b (by omega)).trans hbx)⟩
  have er : Below w1.heap.size w1 w1.drew := (Below.refl _ _).drew
  have e0 : Below w1.heap.size w1 (w1.alloc (.cells #[] 33)).drew := ((Below.refl _ _).alloc (Nat.le_refl _) _).drew
  have e2 : Below w1.heap.size w1 (w1.alloc (.cells #[.int .u8 q.what, .int .i64 q.t, .int .i64 q.n, .string q.s, .slice q.ko q.kl q.kc] 33)).drew := ((Below.refl _ _).alloc (Nat.le_refl _) _).drew
  have e02 : Below w1.heap.size w1 ((w1.alloc (.cells #[] 33)).alloc (.cells #[.int .u8 q.what, .int .i64 q.t, .int .i64 q.n, .string q.s, .slice q.ko q.kl q.kc] 33)).drew := (((Below.refl _ _).alloc (Nat.le_refl _) _).alloc (by simp) _).drew
  have e20 : Below w1.heap.size w1 ((w1.alloc (.cells #[.int .u8 q.what, .int .i64 q.t, .int .i64 q.n, .string q.s, .slice q.ko q.kl q.kc] 33)).alloc (.cells #[] 33)).drew := (((Below.refl _ _).alloc (Nat.le_refl _) _).alloc (by simp) _).drew
  obtain ⟨k0, k1, k2, k3, k4⟩ := HKeep.out w1 (Below.refl _ _)
  clear hf hg hs hq hqk hl h47 hlb hf1 hg1 hk1 b1 hw1 hbx hi0 hi1 hi2 hi3
  go_wp2
  refine wp_region_noPanic ?_
  first
  | (go_region_held_law (fun w' => w'.cell? ⟨b, 0, none⟩ = some (.int .u8 q.what) ∧ w'.cell? ⟨b, 1, none⟩ = some (.int .i64 q.t) ∧ w'.cell? ⟨b, 2, none⟩ = some (.int .i64 q.n) ∧ w'.cell? ⟨b, 3, none⟩ = some (.string q.s) ∧ w'.cell? ⟨b, 4, none⟩ = some (.slice q.ko q.kl q.kc))
    (first
      | exact HKeep.out _ er
      | exact HKeep.out _ e0
      | exact HKeep.out _ e2
      | exact HKeep.out _ e02
      | exact HKeep.out _ e20
      | exact HKeep.out _ b5
      | exact HKeep.out _ b4
      | exact HKeep.out _ B3
      | exact HKeep.out _ B2
      | exact HKeep.out _ (B2.alloc B2.size _))
    (first
      | (refine step_append_src rfl (.tmp 15) (.tmp 16) 23 (by rfl) (RK.empty 5 _ _) (HSrc.out _ e0) 33 i0 _ 64 Try.underlying23 HI.out.1 HI.out.2.1 HI.out.2.2.1 HI.out.2.2.2 rfl (by decide) (by rfl) (by rfl) HA1.out HLM.out.1 HLM.out.2.1 len (actsL f len) (by simp) (by simp) ?_; intro a2 c2 w2 r1 g1 f1; have B2 := grow_below e0 (by simp [World.drew] <;> omega) g1; have N1 : ∀ k, blk (.slice a2 len c2) = some k → w1.heap.size ≤ k := (fun k hk => (f1 k hk).elim (fun h => by simp [blk] at h) (fun h => by simp [World.drew] at h; omega)); clear g1 f1)
      | (refine step_append_src rfl (.tmp 15) (.tmp 16) 23 (by rfl) (RK.empty 5 _ _) (HSrc.out _ e02) 33 i0 _ 64 Try.underlying23 HI.out.1 HI.out.2.1 HI.out.2.2.1 HI.out.2.2.2 rfl (by decide) (by rfl) (by rfl) HA1.out HLM.out.1 HLM.out.2.1 len (actsL f len) (by simp) (by simp) ?_; intro a2 c2 w2 r1 g1 f1; have B2 := grow_below e02 (by simp [World.drew] <;> omega) g1; have N1 : ∀ k, blk (.slice a2 len c2) = some k → w1.heap.size ≤ k := (fun k hk => (f1 k hk).elim (fun h => by simp [blk] at h) (fun h => by simp [World.drew] at h; omega)); have q19 := kept_over g1 (heap_second w1 (.cells #[] 33) (.cells #[.int .u8 q.what, .int .i64 q.t, .int .i64 q.n, .string q.s, .slice q.ko q.kl q.kc] 33)); rw [hz1] at q19; clear g1 f1)
      | (refine step_append_src rfl (.tmp 15) (.tmp 16) 23 (by rfl) (RK.empty 5 _ _) (HSrc.out _ e20) 33 i0 _ 64 Try.underlying23 HI.out.1 HI.out.2.1 HI.out.2.2.1 HI.out.2.2.2 rfl (by decide) (by rfl) (by rfl) HA1.out HLM.out.1 HLM.out.2.1 len (actsL f len) (by simp) (by simp) ?_; intro a2 c2 w2 r1 g1 f1; have B2 := grow_below e20 (by simp [World.drew] <;> omega) g1; have N1 : ∀ k, blk (.slice a2 len c2) = some k → w1.heap.size ≤ k := (fun k hk => (f1 k hk).elim (fun h => by simp [blk] at h) (fun h => by simp [World.drew] at h; omega)); have q19 := kept_over g1 (heap_first w1 (.cells #[.int .u8 q.what, .int .i64 q.t, .int .i64 q.n, .string q.s, .slice q.ko q.kl q.kc] 33) (.cells #[] 33)); rw [hz1] at q19; clear g1 f1)
      | (refine step_append_src rfl (.tmp 17) (.tmp 19) 23 (by rfl) r1 (src_one q19 rfl) 33 i0 _ 64 Try.underlying23 HI.out.1 HI.out.2.1 HI.out.2.2.1 HI.out.2.2.2 rfl (by decide) (by rfl) (by rfl) HAQ.out HLM.out.2.2.1 HLM.out.2.2.2 (len + 1) (actsL (more f len q) (len + 1)) rfl HMC.out ?_; intro a3 c3 w3 r2 g2 f2; have B3 := B2.grown g2 B2.size N1; clear g2 f2)
      | (refine step_append_src rfl (.tmp 17) (.tmp 19) 23 (by rfl) (r1.alloc (.cells #[.int .u8 q.what, .int .i64 q.t, .int .i64 q.n, .string q.s, .slice q.ko q.kl q.kc] 33)) (src_one (heap_alloc_new w2 (.cells #[.int .u8 q.what, .int .i64 q.t, .int .i64 q.n, .string q.s, .slice q.ko q.kl q.kc] 33)) rfl) 33 i0 _ 64 Try.underlying23 HI.out.1 HI.out.2.1 HI.out.2.2.1 HI.out.2.2.2 rfl (by decide) (by rfl) (by rfl) HAQ.out HLM.out.2.2.1 HLM.out.2.2.2 (len + 1) (actsL (more f len q) (len + 1)) rfl HMC.out ?_; intro a3 c3 w3 r2 g2 f2; have B3 := (B2.alloc B2.size _).grown g2 (B2.alloc B2.size _).size N1; clear g2 f2)
      | (go_at_call 10; refine (HLong.out _ _ _ r2 B3).mono ?_; rintro e w4 ⟨rfl, b4⟩)
      | (go_at_call 11; refine (awake_any _).mono ?_; rintro e w5 ⟨rfl, b5'⟩; have b5 := b4.trans (b5'.mono b4.size))))
  | skip
  all_goals (refine NoPanic.normal ?_)
  all_goals (
    have B4 := Kp.mk (B1.out.trans (b4.mono B1.out.size))
    go_wp2_with fail
    refine (awake_any _).mono ?_
    rintro e w5 ⟨rfl, b5⟩
    have B5 := Kp.mk (B4.out.trans (b5.mono B4.out.size))
    clear b5
    go_wp2
    go_ret
    exact ⟨by trivial, B5.out⟩)
set_option maxRecDepth 100000 in
set_option maxHeartbeats 8000000 in
theorem apart_big1 (w : World) (c : Int) (bo : Option Addr) (lb cb : Nat) (g : Nat → ByteArray × ByteArray) (ao : Option Addr) (len cap : Nat) (f : Nat → ActV) (q : ActV) (hlb : lb ≤ maxLen) (hl : len + 1 ≤ maxLen) (h47 : (len + 1) * 64 ≤ 140737488355328) (hg : TapesAt w bo lb g) (hf : ActsIn w ao len f) (hs : (ao = none ∧ len = 0 ∧ cap = 0) ∨ ∃ a, ao = some a) (hq : q.ok) (hqk : KeepAt w q.ko q.kl q.kf)
    (hc : costA (more f len q) (len + 1) + costT g lb < 20000) (hbig : 200 < len) :
    Calls Try.prog 4 #[.int .i64 c, .slice bo lb cb, .slice ao len cap, q.v] w fun e w' => e = .returned (.bool true) ∧ Below w.heap.size w w' := by
  have hbx := heap_alloc_new w (.cells #[.int .u8 q.what, .int .i64 q.t, .int .i64 q.n, .string q.s, .slice q.ko q.kl q.kc] 33)
  have b1 : Below w.heap.size w (w.alloc (.cells #[.int .u8 q.what, .int .i64 q.t, .int .i64 q.n, .string q.s, .slice q.ko q.kl q.kc] 33)) := (Below.refl _ _).alloc (Nat.le_refl _) _
  have hz1 : (w.alloc (.cells #[.int .u8 q.what, .int .i64 q.t, .int .i64 q.n, .string q.s, .slice q.ko q.kl q.kc] 33)).heap.size = w.heap.size + 1 := by simp
  unfold ActV.v
  go_enter Try.func4, Try.ntmps4
  go_wp2
  obtain ⟨w1, hw1⟩ : ∃ w1, w.alloc (.cells #[.int .u8 q.what, .int .i64 q.t, .int .i64 q.n, .string q.s, .slice q.ko q.kl q.kc] 33) = w1 := ⟨_, rfl⟩
  rw [hw1] at hbx b1 hz1 ⊢
  obtain ⟨b, hbb⟩ : ∃ b, w.heap.size = b := ⟨_, rfl⟩
  have hf1 : ActsIn w1 ao len f := fun W hW => hf W (b1.trans (hW.mono b1.size))
  have hg1 : TapesAt w1 bo lb g := fun W hW => hg W (b1.trans (hW.mono b1.size))
  have hk1 := hqk.below b1
  have HLong := Kp.mk (fun (W : World) (a : Option Addr) (c : Nat) (hr : RK 5 W (.slice a (len + 1) c) (len + 1) (actsL (more f len q) (len + 1))) (hb : Below w1.heap.size w1 W) => long_more hf1 hl q hq hk1 bo lb cb g hlb hg1 hr hb)
  rw [show decide (20000 ≤ costA (more f len q) (len + 1) + costT g lb) = false from by rw [decide_eq_false_iff_not]; omega] at HLong
  have t1 : decide ((200 : Int) < (len : Int)) = true := by rw [decide_eq_true_eq]; omega
  have t1' : decide (200 < len) = true := by rw [decide_eq_true_eq]; omega

  have HSrc : Kp (∀ W, Below w1.heap.size w1 W → Src 5 W (.slice ao len cap) len (actsL f len)) := ⟨fun W hW => by
    refine ⟨actsL_len f len, ?_⟩
    rcases hs with ⟨rfl, rfl, rfl⟩ | ⟨a, rfl⟩
    · exact .inl ⟨rfl, rfl⟩
    · exact .inr ⟨a, cap, rfl, fun j u hu => hf1.cells W hW j u hu⟩⟩
  have HMC : Kp (actsL f len ++ (#[.int .u8 q.what, .int .i64 q.t, .int .i64 q.n, .string q.s, .slice q.ko q.kl q.kc] : Array Value).toList = actsL (more f len q) (len + 1)) := ⟨(more_cells f len q).symm⟩
  have HA1 := Kp.mk (actsL_one f len)
  have HAQ : Kp (∀ u ∈ (#[.int .u8 q.what, .int .i64 q.t, .int .i64 q.n, .string q.s, .slice q.ko q.kl q.kc] : Array Value).toList, u.oneCell' = true) := ⟨by
    have := actsL_one (fun _ => q) 1
    simpa [actsL, actL] using this⟩
  obtain ⟨i0, hi0, hi1, hi2, hi3⟩ := info_parts infoAct
  have HI := Kp.mk (And.intro hi0 (And.intro hi1 (And.intro hi2 hi3)))
  have HLM : Kp (0 + len ≤ maxLen ∧ (0 + len) * 64 ≤ 140737488355328 ∧ len + 1 ≤ maxLen ∧ (len + 1) * 64 ≤ 140737488355328) := ⟨by omega⟩
  have HF := Kp.mk hf1
  have HG := Kp.mk hg1
  have HQ := Kp.mk (And.intro hq hk1)
  have HLB := Kp.mk hlb
  have B1 := Kp.mk b1
  rw [hbb] at hbx hz1
  have HKeep : Kp (∀ W, Below w1.heap.size w1 W → W.cell? ⟨b, 0, none⟩ = some (.int .u8 q.what) ∧ W.cell? ⟨b, 1, none⟩ = some (.int .i64 q.t) ∧ W.cell? ⟨b, 2, none⟩ = some (.int .i64 q.n) ∧ W.cell? ⟨b, 3, none⟩ = some (.string q.s) ∧ W.cell? ⟨b, 4, none⟩ = some (.slice q.ko q.kl q.kc)) := ⟨fun W hW => cells5 ((hW.block b (by omega)).trans hbx)⟩
  have er : Below w1.heap.size w1 w1.drew := (Below.refl _ _).drew
  have e0 : Below w1.heap.size w1 (w1.alloc (.cells #[] 33)).drew := ((Below.refl _ _).alloc (Nat.le_refl _) _).drew
  have e2 : Below w1.heap.size w1 (w1.alloc (.cells #[.int .u8 q.what, .int .i64 q.t, .int .i64 q.n, .string q.s, .slice q.ko q.kl q.kc] 33)).drew := ((Below.refl _ _).alloc (Nat.le_refl _) _).drew
  have e02 : Below w1.heap.size w1 ((w1.alloc (.cells #[] 33)).alloc (.cells #[.int .u8 q.what, .int .i64 q.t, .int .i64 q.n, .string q.s, .slice q.ko q.kl q.kc] 33)).drew := (((Below.refl _ _).alloc (Nat.le_refl _) _).alloc (by simp) _).drew
  have e20 : Below w1.heap.size w1 ((w1.alloc (.cells #[.int .u8 q.what, .int .i64 q.t, .int .i64 q.n, .string q.s, .slice q.ko q.kl q.kc] 33)).alloc (.cells #[] 33)).drew := (((Below.refl _ _).alloc (Nat.le_refl _) _).alloc (by simp) _).drew
  obtain ⟨k0, k1, k2, k3, k4⟩ := HKeep.out w1 (Below.refl _ _)
  clear hf hg hs hq hqk hl h47 hlb hf1 hg1 hk1 b1 hw1 hbx hi0 hi1 hi2 hi3
  go_wp2
  refine wp_region_noPanic ?_
  first
  | (go_region_held_law (fun w' => w'.cell? ⟨b, 0, none⟩ = some (.int .u8 q.what) ∧ w'.cell? ⟨b, 1, none⟩ = some (.int .i64 q.t) ∧ w'.cell? ⟨b, 2, none⟩ = some (.int .i64 q.n) ∧ w'.cell? ⟨b, 3, none⟩ = some (.string q.s) ∧ w'.cell? ⟨b, 4, none⟩ = some (.slice q.ko q.kl q.kc))
    (first
      | exact HKeep.out _ er
      | exact HKeep.out _ e0
      | exact HKeep.out _ e2
      | exact HKeep.out _ e02
      | exact HKeep.out _ e20
      | exact HKeep.out _ b5
      | exact HKeep.out _ b4
      | exact HKeep.out _ B3
      | exact HKeep.out _ B2
      | exact HKeep.out _ (B2.alloc B2.size _))
    (first
      | (refine step_append_src rfl (.tmp 15) (.tmp 16) 23 (by rfl) (RK.empty 5 _ _) (HSrc.out _ e0) 33 i0 _ 64 Try.underlying23 HI.out.1 HI.out.2.1 HI.out.2.2.1 HI.out.2.2.2 rfl (by decide) (by rfl) (by rfl) HA1.out HLM.out.1 HLM.out.2.1 len (actsL f len) (by simp) (by simp) ?_; intro a2 c2 w2 r1 g1 f1; have B2 := grow_below e0 (by simp [World.drew] <;> omega) g1; have N1 : ∀ k, blk (.slice a2 len c2) = some k → w1.heap.size ≤ k := (fun k hk => (f1 k hk).elim (fun h => by simp [blk] at h) (fun h => by simp [World.drew] at h; omega)); clear g1 f1)
      | (refine step_append_src rfl (.tmp 15) (.tmp 16) 23 (by rfl) (RK.empty 5 _ _) (HSrc.out _ e02) 33 i0 _ 64 Try.underlying23 HI.out.1 HI.out.2.1 HI.out.2.2.1 HI.out.2.2.2 rfl (by decide) (by rfl) (by rfl) HA1.out HLM.out.1 HLM.out.2.1 len (actsL f len) (by simp) (by simp) ?_; intro a2 c2 w2 r1 g1 f1; have B2 := grow_below e02 (by simp [World.drew] <;> omega) g1; have N1 : ∀ k, blk (.slice a2 len c2) = some k → w1.heap.size ≤ k := (fun k hk => (f1 k hk).elim (fun h => by simp [blk] at h) (fun h => by simp [World.drew] at h; omega)); have q19 := kept_over g1 (heap_second w1 (.cells #[] 33) (.cells #[.int .u8 q.what, .int .i64 q.t, .int .i64 q.n, .string q.s, .slice q.ko q.kl q.kc] 33)); rw [hz1] at q19; clear g1 f1)
      | (refine step_append_src rfl (.tmp 15) (.tmp 16) 23 (by rfl) (RK.empty 5 _ _) (HSrc.out _ e20) 33 i0 _ 64 Try.underlying23 HI.out.1 HI.out.2.1 HI.out.2.2.1 HI.out.2.2.2 rfl (by decide) (by rfl) (by rfl) HA1.out HLM.out.1 HLM.out.2.1 len (actsL f len) (by simp) (by simp) ?_; intro a2 c2 w2 r1 g1 f1; have B2 := grow_below e20 (by simp [World.drew] <;> omega) g1; have N1 : ∀ k, blk (.slice a2 len c2) = some k → w1.heap.size ≤ k := (fun k hk => (f1 k hk).elim (fun h => by simp [blk] at h) (fun h => by simp [World.drew] at h; omega)); have q19 := kept_over g1 (heap_first w1 (.cells #[.int .u8 q.what, .int .i64 q.t, .int .i64 q.n, .string q.s, .slice q.ko q.kl q.kc] 33) (.cells #[] 33)); rw [hz1] at q19; clear g1 f1)
      | (refine step_append_src rfl (.tmp 17) (.tmp 19) 23 (by rfl) r1 (src_one q19 rfl) 33 i0 _ 64 Try.underlying23 HI.out.1 HI.out.2.1 HI.out.2.2.1 HI.out.2.2.2 rfl (by decide) (by rfl) (by rfl) HAQ.out HLM.out.2.2.1 HLM.out.2.2.2 (len + 1) (actsL (more f len q) (len + 1)) rfl HMC.out ?_; intro a3 c3 w3 r2 g2 f2; have B3 := B2.grown g2 B2.size N1; clear g2 f2)
      | (refine step_append_src rfl (.tmp 17) (.tmp 19) 23 (by rfl) (r1.alloc (.cells #[.int .u8 q.what, .int .i64 q.t, .int .i64 q.n, .string q.s, .slice q.ko q.kl q.kc] 33)) (src_one (heap_alloc_new w2 (.cells #[.int .u8 q.what, .int .i64 q.t, .int .i64 q.n, .string q.s, .slice q.ko q.kl q.kc] 33)) rfl) 33 i0 _ 64 Try.underlying23 HI.out.1 HI.out.2.1 HI.out.2.2.1 HI.out.2.2.2 rfl (by decide) (by rfl) (by rfl) HAQ.out HLM.out.2.2.1 HLM.out.2.2.2 (len + 1) (actsL (more f len q) (len + 1)) rfl HMC.out ?_; intro a3 c3 w3 r2 g2 f2; have B3 := (B2.alloc B2.size _).grown g2 (B2.alloc B2.size _).size N1; clear g2 f2)
      | (go_at_call 10; refine (HLong.out _ _ _ r2 B3).mono ?_; rintro e w4 ⟨rfl, b4⟩)
      | (go_at_call 11; refine (awake_any _).mono ?_; rintro e w5 ⟨rfl, b5'⟩; have b5 := b4.trans (b5'.mono b4.size))))
  | skip
  all_goals (refine NoPanic.normal ?_)
  all_goals (
    have B4 := Kp.mk (B1.out.trans (b4.mono B1.out.size))
    go_wp2_with fail
    refine (awake_any _).mono ?_
    rintro e w5 ⟨rfl, b5⟩
    have B5 := Kp.mk (B4.out.trans (b5.mono B4.out.size))
    clear b5
    go_wp2
    go_ret
    exact ⟨by trivial, B5.out⟩)
end Go.Proofs.Ytinjagebogifpaa
