/- The walk of DiskApart where it is not sent away. Printed by tools/apartgen.py. -/
import Derived.Test.YtinjagebogifpaaApartTop
namespace Go.Proofs.Ytinjagebogifpaa
open Go.RowKit
set_option linter.unusedVariables false
theorem RK.over {z n p : Nat} {w w' : World} {v : Value} {cs : List Value} (h : RK z w v n cs) (hc : Chg w w' p) (hp : ∀ k, blk v = some k → k ≠ p) : RK z w' v n cs :=
  h.same hc.size fun k hk => hc.block k (h.lt k hk) (fun e => hp k hk (Option.some.inj e))
theorem tape_at {w : World} {gl cl : Nat} {D : DiskV} (h : RK 2 w (.slice (some ⟨gl, 0, none⟩) 32 cl) 32 (trow (tapesL D 32))) (k : Nat) (hk : k < 32) : w.cell? ⟨gl, k * 2, none⟩ = some (.string (told (D.tp k)).1) ∧ w.cell? ⟨gl, k * 2 + 1, none⟩ = some (.string (told (D.tp k)).2) := by
  have hg := trow_get (tapesL D 32) k (by rw [tapesL_len]; exact hk)
  have he : (tapesL D 32)[k]'(by rw [tapesL_len]; exact hk) = told (D.tp k) := by simp [tapesL]
  rw [he] at hg
  exact ⟨h.cell _ _ hg.1, h.cell _ _ hg.2⟩
set_option maxRecDepth 100000 in
set_option maxHeartbeats 8000000 in
theorem apart_core (w : World) (c : Int) (bo : Option Addr) (lb cb : Nat) (g : Nat → ByteArray × ByteArray) (ao : Option Addr) (len cap : Nat) (f : Nat → ActV) (q : ActV) (hlb : lb ≤ maxLen) (hl : len + 1 ≤ maxLen) (h47 : (len + 1) * 64 ≤ 140737488355328) (hg : TapesAt w bo lb g) (hf : ActsIn w ao len f) (hs : (ao = none ∧ len = 0 ∧ cap = 0) ∨ ∃ a, ao = some a) (hq : q.ok) (hqk : KeepAt w q.ko q.kl q.kf)
    (hc : costA (more f len q) (len + 1) + costT g lb < 20000) (hl2 : len ≤ 200) (hc2 : c ≤ 9223372036854775807) :
    Calls Try.prog 4 #[.int .i64 c, .slice bo lb cb, .slice ao len cap, q.v] w fun e w' => e = .returned (.bool true) ∧ Below w.heap.size w w' := by
  have hbx := heap_alloc_new w (.cells #[.int .u8 q.what, .int .i64 q.t, .int .i64 q.n, .string q.s, .slice q.ko q.kl q.kc] 33)
  have b1 : Below w.heap.size w (w.alloc (.cells #[.int .u8 q.what, .int .i64 q.t, .int .i64 q.n, .string q.s, .slice q.ko q.kl q.kc] 33)) := (Below.refl _ _).alloc (Nat.le_refl _) _
  have hz1 : (w.alloc (.cells #[.int .u8 q.what, .int .i64 q.t, .int .i64 q.n, .string q.s, .slice q.ko q.kl q.kc] 33)).heap.size = w.heap.size + 1 := by simp
  unfold ActV.v
  go_enter Try.func4, Try.ntmps4
  go_wp2
  obtain ⟨w1, hw1⟩ : ∃ w1, w.alloc (.cells #[.int .u8 q.what, .int .i64 q.t, .int .i64 q.n, .string q.s, .slice q.ko q.kl q.kc] 33) = w1 := ⟨_, rfl⟩
  rw [hw1] at hbx b1 hz1 ⊢
  obtain ⟨b, hbb⟩ : ∃ b, w.heap.size = b := ⟨_, rfl⟩
  have hf1 : ActsIn w1 ao len f := fun W hW => hf W (b1.trans (hW.mono b1.size))
  have hg1 : TapesAt w1 bo lb g := fun W hW => hg W (b1.trans (hW.mono b1.size))
  have hk1 := hqk.below b1
  have HLong := Kp.mk (fun (W : World) (a : Option Addr) (c : Nat) (hr : RK 5 W (.slice a (len + 1) c) (len + 1) (actsL (more f len q) (len + 1))) (hb : Below w1.heap.size w1 W) => long_more hf1 hl q hq hk1 bo lb cb g hlb hg1 hr hb)
  rw [show decide (20000 ≤ costA (more f len q) (len + 1) + costT g lb) = false from by rw [decide_eq_false_iff_not]; omega] at HLong
  have t1 : decide ((200 : Int) < (len : Int)) = false := by rw [decide_eq_false_iff_not]; omega
  have t1' : decide (200 < len) = false := by rw [decide_eq_false_iff_not]; omega
  have HGS := Kp.mk (hg1.small (by omega))

  have HSrc : Kp (∀ W, Below w1.heap.size w1 W → Src 5 W (.slice ao len cap) len (actsL f len)) := ⟨fun W hW => by
    refine ⟨actsL_len f len, ?_⟩
    rcases hs with ⟨rfl, rfl, rfl⟩ | ⟨a, rfl⟩
    · exact .inl ⟨rfl, rfl⟩
    · exact .inr ⟨a, cap, rfl, fun j u hu => hf1.cells W hW j u hu⟩⟩
  have HMC : Kp (actsL f len ++ (#[.int .u8 q.what, .int .i64 q.t, .int .i64 q.n, .string q.s, .slice q.ko q.kl q.kc] : Array Value).toList = actsL (more f len q) (len + 1)) := ⟨(more_cells f len q).symm⟩
  have HA1 := Kp.mk (actsL_one f len)
  have HAQ : Kp (∀ u ∈ (#[.int .u8 q.what, .int .i64 q.t, .int .i64 q.n, .string q.s, .slice q.ko q.kl q.kc] : Array Value).toList, u.oneCell' = true) := ⟨by
    have := actsL_one (fun _ => q) 1
    simpa [actsL, actL] using this⟩
  obtain ⟨i0, hi0, hi1, hi2, hi3⟩ := info_parts infoAct
  have HI := Kp.mk (And.intro hi0 (And.intro hi1 (And.intro hi2 hi3)))
  have HLM : Kp (0 + len ≤ maxLen ∧ (0 + len) * 64 ≤ 140737488355328 ∧ len + 1 ≤ maxLen ∧ (len + 1) * 64 ≤ 140737488355328) := ⟨by omega⟩
  have HF := Kp.mk hf1
  have HG := Kp.mk hg1
  have HQ := Kp.mk (And.intro hq hk1)
  have HLB := Kp.mk hlb
  have B1 := Kp.mk b1
  rw [hbb] at hbx hz1
  have HKeep : Kp (∀ W, Below w1.heap.size w1 W → W.cell? ⟨b, 0, none⟩ = some (.int .u8 q.what) ∧ W.cell? ⟨b, 1, none⟩ = some (.int .i64 q.t) ∧ W.cell? ⟨b, 2, none⟩ = some (.int .i64 q.n) ∧ W.cell? ⟨b, 3, none⟩ = some (.string q.s) ∧ W.cell? ⟨b, 4, none⟩ = some (.slice q.ko q.kl q.kc)) := ⟨fun W hW => cells5 ((hW.block b (by omega)).trans hbx)⟩
  have er : Below w1.heap.size w1 w1.drew := (Below.refl _ _).drew
  have e0 : Below w1.heap.size w1 (w1.alloc (.cells #[] 33)).drew := ((Below.refl _ _).alloc (Nat.le_refl _) _).drew
  have e2 : Below w1.heap.size w1 (w1.alloc (.cells #[.int .u8 q.what, .int .i64 q.t, .int .i64 q.n, .string q.s, .slice q.ko q.kl q.kc] 33)).drew := ((Below.refl _ _).alloc (Nat.le_refl _) _).drew
  have e02 : Below w1.heap.size w1 ((w1.alloc (.cells #[] 33)).alloc (.cells #[.int .u8 q.what, .int .i64 q.t, .int .i64 q.n, .string q.s, .slice q.ko q.kl q.kc] 33)).drew := (((Below.refl _ _).alloc (Nat.le_refl _) _).alloc (by simp) _).drew
  have e20 : Below w1.heap.size w1 ((w1.alloc (.cells #[.int .u8 q.what, .int .i64 q.t, .int .i64 q.n, .string q.s, .slice q.ko q.kl q.kc] 33)).alloc (.cells #[] 33)).drew := (((Below.refl _ _).alloc (Nat.le_refl _) _).alloc (by simp) _).drew
  obtain ⟨k0, k1, k2, k3, k4⟩ := HKeep.out w1 (Below.refl _ _)
  clear hf hg hs hq hqk hl h47 hlb hf1 hg1 hk1 b1 hw1 hbx hi0 hi1 hi2 hi3
  go_wp2
  refine wp_region_noPanic ?_
  first
  | (go_region_held_law (fun w' => w'.cell? ⟨b, 0, none⟩ = some (.int .u8 q.what) ∧ w'.cell? ⟨b, 1, none⟩ = some (.int .i64 q.t) ∧ w'.cell? ⟨b, 2, none⟩ = some (.int .i64 q.n) ∧ w'.cell? ⟨b, 3, none⟩ = some (.string q.s) ∧ w'.cell? ⟨b, 4, none⟩ = some (.slice q.ko q.kl q.kc))
    (first
      | exact HKeep.out _ er
      | exact HKeep.out _ e0
      | exact HKeep.out _ e2
      | exact HKeep.out _ e02
      | exact HKeep.out _ e20
      | exact HKeep.out _ b5
      | exact HKeep.out _ b4
      | exact HKeep.out _ B3
      | exact HKeep.out _ B2
      | exact HKeep.out _ (B2.alloc B2.size _))
    (first
      | (refine step_append_src rfl (.tmp 15) (.tmp 16) 23 (by rfl) (RK.empty 5 _ _) (HSrc.out _ e0) 33 i0 _ 64 Try.underlying23 HI.out.1 HI.out.2.1 HI.out.2.2.1 HI.out.2.2.2 rfl (by decide) (by rfl) (by rfl) HA1.out HLM.out.1 HLM.out.2.1 len (actsL f len) (by simp) (by simp) ?_; intro a2 c2 w2 r1 g1 f1; have B2 := grow_below e0 (by simp [World.drew] <;> omega) g1; have N1 : ∀ k, blk (.slice a2 len c2) = some k → w1.heap.size ≤ k := (fun k hk => (f1 k hk).elim (fun h => by simp [blk] at h) (fun h => by simp [World.drew] at h; omega)); clear g1 f1)
      | (refine step_append_src rfl (.tmp 15) (.tmp 16) 23 (by rfl) (RK.empty 5 _ _) (HSrc.out _ e02) 33 i0 _ 64 Try.underlying23 HI.out.1 HI.out.2.1 HI.out.2.2.1 HI.out.2.2.2 rfl (by decide) (by rfl) (by rfl) HA1.out HLM.out.1 HLM.out.2.1 len (actsL f len) (by simp) (by simp) ?_; intro a2 c2 w2 r1 g1 f1; have B2 := grow_below e02 (by simp [World.drew] <;> omega) g1; have N1 : ∀ k, blk (.slice a2 len c2) = some k → w1.heap.size ≤ k := (fun k hk => (f1 k hk).elim (fun h => by simp [blk] at h) (fun h => by simp [World.drew] at h; omega)); have q19 := kept_over g1 (heap_second w1 (.cells #[] 33) (.cells #[.int .u8 q.what, .int .i64 q.t, .int .i64 q.n, .string q.s, .slice q.ko q.kl q.kc] 33)); rw [hz1] at q19; clear g1 f1)
      | (refine step_append_src rfl (.tmp 15) (.tmp 16) 23 (by rfl) (RK.empty 5 _ _) (HSrc.out _ e20) 33 i0 _ 64 Try.underlying23 HI.out.1 HI.out.2.1 HI.out.2.2.1 HI.out.2.2.2 rfl (by decide) (by rfl) (by rfl) HA1.out HLM.out.1 HLM.out.2.1 len (actsL f len) (by simp) (by simp) ?_; intro a2 c2 w2 r1 g1 f1; have B2 := grow_below e20 (by simp [World.drew] <;> omega) g1; have N1 : ∀ k, blk (.slice a2 len c2) = some k → w1.heap.size ≤ k := (fun k hk => (f1 k hk).elim (fun h => by simp [blk] at h) (fun h => by simp [World.drew] at h; omega)); have q19 := kept_over g1 (heap_first w1 (.cells #[.int .u8 q.what, .int .i64 q.t, .int .i64 q.n, .string q.s, .slice q.ko q.kl q.kc] 33) (.cells #[] 33)); rw [hz1] at q19; clear g1 f1)
      | (refine step_append_src rfl (.tmp 17) (.tmp 19) 23 (by rfl) r1 (src_one q19 rfl) 33 i0 _ 64 Try.underlying23 HI.out.1 HI.out.2.1 HI.out.2.2.1 HI.out.2.2.2 rfl (by decide) (by rfl) (by rfl) HAQ.out HLM.out.2.2.1 HLM.out.2.2.2 (len + 1) (actsL (more f len q) (len + 1)) rfl HMC.out ?_; intro a3 c3 w3 r2 g2 f2; have B3 := B2.grown g2 B2.size N1; clear g2 f2)
      | (refine step_append_src rfl (.tmp 17) (.tmp 19) 23 (by rfl) (r1.alloc (.cells #[.int .u8 q.what, .int .i64 q.t, .int .i64 q.n, .string q.s, .slice q.ko q.kl q.kc] 33)) (src_one (heap_alloc_new w2 (.cells #[.int .u8 q.what, .int .i64 q.t, .int .i64 q.n, .string q.s, .slice q.ko q.kl q.kc] 33)) rfl) 33 i0 _ 64 Try.underlying23 HI.out.1 HI.out.2.1 HI.out.2.2.1 HI.out.2.2.2 rfl (by decide) (by rfl) (by rfl) HAQ.out HLM.out.2.2.1 HLM.out.2.2.2 (len + 1) (actsL (more f len q) (len + 1)) rfl HMC.out ?_; intro a3 c3 w3 r2 g2 f2; have B3 := (B2.alloc B2.size _).grown g2 (B2.alloc B2.size _).size N1; clear g2 f2)
      | (go_at_call 10; refine (HLong.out _ _ _ r2 B3).mono ?_; rintro e w4 ⟨rfl, b4⟩)
      | (go_at_call 11; refine (awake_any _).mono ?_; rintro e w5 ⟨rfl, b5'⟩; have b5 := b4.trans (b5'.mono b4.size))))
  | skip
  all_goals (refine NoPanic.normal ?_)
  all_goals (
    have E5 := Kp.mk b5
    have HTI5 : Kp (TapesIn w5 bo lb g) := ⟨fun W hW => HGS.out W (E5.out.trans (hW.mono E5.out.size))⟩
    have HF5 : Kp (ActsIn w5 ao len f) := ⟨fun W hW => HF.out W (E5.out.trans (hW.mono E5.out.size))⟩
    clear k0 k1 k2 k3 k4 b5 b4 t1 t1'
    go_wp2_with fail
    refine (made_any c bo lb cb g ao len cap f _ HLB.out hl2 hc2 HTI5.out HF5.out).mono ?_
    rintro e w6 ⟨hv, hb6⟩
    have E6 := Kp.mk (E5.out.trans (hb6.mono E5.out.size))
    clear hb6
    obtain ⟨k0, k1, k2, k3, k4⟩ := HKeep.out w6 E6.out
    rcases hv with rfl | ⟨p, D, rfl, hp, hd, ho, hcp⟩
    · go_wp2
      go_ret
      exact ⟨by trivial, B1.out.trans (E6.out.mono B1.out.size)⟩
    · have G : Kp (w1.heap.size ≤ p) := ⟨Nat.le_trans E5.out.size hp⟩
      by_cases hq4 : 4 < q.what
      · have t1 : decide ((4 : Int) < (q.what : Int)) = true := by rw [decide_eq_true_eq]; omega
        have t1' : decide (4 < q.what) = true := by rw [decide_eq_true_eq]; omega
        go_wp2
        go_ret
        exact ⟨by trivial, B1.out.trans (E6.out.mono B1.out.size)⟩
      · have t1 : decide ((4 : Int) < (q.what : Int)) = false := by rw [decide_eq_false_iff_not]; omega
        have t1' : decide (4 < q.what) = false := by rw [decide_eq_false_iff_not]; omega
        have D6 := Kp.mk hd
        have O6 := Kp.mk ho
        have OD := Kp.mk (ho.act q HQ.out.1)
        have HAP := Kp.mk (fun i => do_apart D q (by omega) i)
        have hpl := hd.lt
        clear hd ho hp hcp HTI5 HF5 HGS HF HG HLong HSrc HMC HA1 HAQ HI HLM HLB
        go_wp2_with fail
        refine (Tapes_any p D _ D6.out O6.out).mono ?_
        rintro e w7 ⟨lo, lc, rfl, hr, hn⟩
        have D7 := Kp.mk (D6.out.below hn.below)
        have E7 := Kp.mk (E6.out.trans (hn.below.mono E6.out.size))
        obtain ⟨gl, cl, hvl, hlc, hcm, _, hbl⟩ := hr.at_ (by decide)
        have hglp : gl ≠ p := by have := hn.new _ hbl; omega
        simp only [Value.slice.injEq, true_and] at hvl
        obtain ⟨rfl, rfl⟩ := hvl
        unfold maxLen at hcm
        have R7 := Kp.mk hr
        have HBL : Kp (∀ k, blk (.slice (some ⟨gl, 0, none⟩) 32 lc) = some k → k ≠ p) := ⟨fun k hk e => by rw [hbl] at hk; cases hk; exact hglp e⟩
        have HDo := Kp.mk (do_any p D q w7 D7.out O6.out HQ.out.1 (fun W hW => HQ.out.2.below (hW.below E7.out E7.out.size G.out)))
        unfold ActV.v at HDo
        clear hr hn hbl hglp hpl D6 k0 k1 k2 k3 k4 t1 t1'
        generalize doV D q = r at OD HAP HDo
        obtain ⟨⟨r1, r2⟩, E⟩ := r
        simp only [] at OD HAP HDo
        obtain ⟨k0, k1, k2, k3, k4⟩ := HKeep.out w7 E7.out
        go_wp2_with fail
        refine HDo.out.mono ?_
        rintro e w8 ⟨rfl, d8, c8⟩
        have D8 := Kp.mk d8
        have R8 := Kp.mk (R7.out.over c8 HBL.out)
        have E8 := Kp.mk (c8.below E7.out E7.out.size G.out)
        clear d8 c8 HDo D7 R7 E7 k0 k1 k2 k3 k4
        go_wp2_with fail
        refine (Tapes_any p E _ D8.out OD.out).mono ?_
        rintro e w9 ⟨mo, mc, rfl, hr9, hn9⟩
        have R9 := Kp.mk (R8.out.below hn9.below)
        have E9 := Kp.mk (E8.out.trans (hn9.below.mono E8.out.size))
        obtain ⟨gm, cm, hvm, _, hcm9, _, _⟩ := hr9.at_ (by decide)
        simp only [Value.slice.injEq, true_and] at hvm
        obtain ⟨rfl, rfl⟩ := hvm
        unfold maxLen at hcm9
        have M9 := Kp.mk hr9
        clear hr9 hn9 D8 R8 E8
        obtain ⟨k0, k1, k2, k3, k4⟩ := HKeep.out w9 E9.out
        go_wp2
        go_loopw [14] (fun i wr => ∃ j m : Nat, i = .int .i64 j ∧ j ≤ 32 ∧ wr = w9.drewN m) (fun i _ => 32 - (intOf i).toNat)
        case atStart => exact ⟨0, 0, rfl, by omega, rfl⟩
        case round =>
          obtain ⟨j, m, rfl, hj, rfl⟩ := hrel
          by_cases hj2 : j < 32
          · obtain ⟨x0, x1⟩ := tape_at R9.out j hj2
            obtain ⟨v0, v1⟩ := tape_at M9.out j hj2
            have i0 : (0 : Int) ≤ (j : Int) := by omega
            have i1 : (j : Int) < 32 := by omega
            rcases HAP.out j with he | ⟨ht, hn4, her⟩
            · rw [he] at v0 v1
              clear he
              generalize (told (D.tp j)).1 = F at x0 v0
              generalize (told (D.tp j)).2 = L at x1 v1
              have s1 : (F.toList == F.toList) = true := by simp
              have s2 : (L.toList == L.toList) = true := by simp
              go_wp2_with fail
              go_quiet (fail)
              go_wp2
              go_roundw
              case rel => exact ⟨j + 1, _, by go_num, by omega, rfl⟩
              case measure => simp [intOf]; omega
            · generalize (told (D.tp j)).1 = F at x0
              generalize (told (D.tp j)).2 = L at x1
              generalize (told (E.tp j)).1 = F' at v0
              generalize (told (E.tp j)).2 = L' at v1
              rw [ht] at k1
              clear ht
              have e4 : decide ((q.what : Int) = 4) = false := by rw [decide_eq_false_iff_not]; omega
              have e4' : ((q.what : Int) == 4) = false := by rw [beq_eq_false_iff_ne]; omega
              have e4'' : decide (q.what = 4) = false := by rw [decide_eq_false_iff_not]; omega
              cases s1 : (F.toList == F'.toList)
              · rcases her with rfl | ⟨rfl, hw0⟩
                · go_wp2_with fail
                  go_quiet (fail)
                  go_wp2
                  go_roundw
                  case rel => exact ⟨j + 1, _, by go_num, by omega, rfl⟩
                  case measure => simp [intOf]; omega
                · rw [hw0] at k0
                  clear hw0 e4 e4' e4''
                  go_wp2_with fail
                  go_quiet (fail)
                  go_wp2
                  go_roundw
                  case rel => exact ⟨j + 1, _, by go_num, by omega, rfl⟩
                  case measure => simp [intOf]; omega
              · cases s2 : (L.toList == L'.toList)
                · rcases her with rfl | ⟨rfl, hw0⟩
                  · go_wp2_with fail
                    go_quiet (fail)
                    go_wp2
                    go_roundw
                    case rel => exact ⟨j + 1, _, by go_num, by omega, rfl⟩
                    case measure => simp [intOf]; omega
                  · rw [hw0] at k0
                    clear hw0 e4 e4' e4''
                    go_wp2_with fail
                    go_quiet (fail)
                    go_wp2
                    go_roundw
                    case rel => exact ⟨j + 1, _, by go_num, by omega, rfl⟩
                    case measure => simp [intOf]; omega
                · go_wp2_with fail
                  go_quiet (fail)
                  go_wp2
                  go_roundw
                  case rel => exact ⟨j + 1, _, by go_num, by omega, rfl⟩
                  case measure => simp [intOf]; omega
          · obtain rfl : j = 32 := by omega
            go_wp2
            go_ret
            have B9 := B1.out.trans (E9.out.mono B1.out.size)
            exact ⟨by trivial, ⟨B9.os, B9.tape, B9.output, B9.size, B9.block⟩⟩)
end Go.Proofs.Ytinjagebogifpaa
