/- The walk of BitsBack: it returns true, and leaves what was there. -/
import Derived.Test.YtmfigoffkopohaaItemWalk
import Derived.OwnWalk
import Derived.Maps.AppendAt
import Derived.Deep.AppendLies
import Derived.Deep.QuietTactic
import Derived.BigQuiet
namespace Go.Proofs.Ytmfigoffkopohaa
open Go.RowKit
set_option linter.unusedVariables false

theorem infoInt : (Try.prog.info? 3).map (fun i => (i.zero, i.size, i.bytes)) = some (some (.int .i64 0), 1, 8) := by kernel_rfl
theorem qb_same {P : Program} {f : FuncId} {args : Array Value} {w : World} {n : Nat} {v : Value}
    (h : Calls P f args (w.drewN n) fun e w' => e = .returned v ∧ w.drewN n = w') : Calls P f args (w.drewN n) fun e w'' => e = .returned v ∧ ∃ m, w'' = w.drewN m :=
  h.mono fun _ _ ⟨he, hm⟩ => ⟨he, n, hm.symm⟩
theorem belowb {B : Nat} {a w : World} (h : Below B a w) (n : Nat) : Below B a (w.drewN n) := ⟨h.os, h.tape, h.output, h.size, h.block⟩
/-- The ends, as values. -/
def endsV (f : Nat → ItV) (k : Nat) : List Value := (List.range (k + 1)).map fun j => .int .i64 ((ibs f j).length : Nat)
theorem endsV_len (f : Nat → ItV) (k : Nat) : (endsV f k).length = k + 1 := by simp [endsV]
theorem endsV_zero (f : Nat → ItV) : endsV f 0 = [.int .i64 0] := rfl
theorem endsV_succ (f : Nat → ItV) (k : Nat) : endsV f (k + 1) = endsV f k ++ [.int .i64 ((ibs f (k + 1)).length : Nat)] := by
  unfold endsV; rw [List.range_succ (n := k + 1), List.map_append]; rfl
theorem endsV_get (f : Nat → ItV) (k j : Nat) (h : j ≤ k) : (endsV f k)[j]? = some (.int .i64 ((ibs f j).length : Nat)) := by
  unfold endsV; rw [List.getElem?_map, List.getElem?_range (by omega)]; rfl
def Apart (b e : Value) : Prop := ∀ g, b.ownBlock = some g → e.ownBlock ≠ some g
/-- The ends, as cells. -/
def Ends (w : World) (g : Nat) (f : Nat → ItV) (len : Nat) : Prop := g < w.heap.size ∧ ∀ j, j ≤ len → w.cell? ⟨g, j, none⟩ = some (.int .i64 ((ibs f j).length : Nat))
theorem Ends.grown {w w' : World} {g x : Nat} {f : Nat → ItV} {len : Nat} (h : Ends w g f len) (hg : w.grownBy w' (some x)) (hne : g ≠ x) : Ends w' g f len :=
  ⟨Nat.lt_of_lt_of_le h.1 hg.size, fun j hj => by rw [World.cell?_of_block (a := ⟨g, j, none⟩) (hg.block g h.1 (fun h => hne (Option.some.inj h)))]; exact h.2 j hj⟩
theorem Ends.below {w w' : World} {g : Nat} {f : Nat → ItV} {len : Nat} (h : Ends w g f len) (hb : Below w.heap.size w w') : Ends w' g f len :=
  ⟨Nat.lt_of_lt_of_le h.1 hb.size, fun j hj => by rw [hb.cell (p := ⟨g, j, none⟩) h.1]; exact h.2 j hj⟩
theorem row_step {w w1 w2 : World} {B : Nat} {b b' en en' : Value} {l' : List UInt8} {n : Nat} {xs : List Value} {o : Obj} (hB : B ≤ w.heap.size) (hA : Apart b en) (hE : w.ownsRow B 3 1 en n xs) (hg : w.grownBy w1 b.ownBlock) (hn : NewOr w b b') (hb : BRow w1 B b' l')
    (hg2 : (w1.alloc o).grownBy w2 en.ownBlock) (ho : en'.ownBlock = en.ownBlock ∨ en'.ownBlock = some (w1.alloc o).heap.size) : BRow w2 B b' l' ∧ Apart b' en' := by
  have hne : b'.ownBlock = none ∨ b'.ownBlock ≠ en.ownBlock := by
    rcases hb' : b'.ownBlock with _ | k
    · exact .inl rfl
    · refine .inr fun he => ?_
      rcases hn k hb' with h | h
      · exact hA k h he.symm
      · have := (hE.lt k he.symm).2; omega
  refine ⟨(hb.alloc o).kept hg2 hne, fun g hgb he => ?_⟩
  rcases ho with h | h
  · rcases hne with h' | h'
    · rw [h'] at hgb; cases hgb
    · rw [h] at he; rw [he] at h'; exact h' hgb
  · rw [h] at he
    have : g = (w1.alloc o).heap.size := (Option.some.inj he).symm
    rcases hb with ⟨h1, _⟩ | ⟨g', cap, h1, _, h2, _⟩
    · rw [h1] at hgb; simp [Value.ownBlock] at hgb
    · rw [h1] at hgb
      simp [Value.ownBlock] at hgb
      simp at this
      omega
theorem ends_kept {w w1 : World} {B : Nat} {b en : Value} {n : Nat} {xs : List Value} (hA : Apart b en) (hE : w.ownsRow B 3 1 en n xs) (hg : w.grownBy w1 b.ownBlock) : w1.ownsRow B 3 1 en n xs := by
  refine hE.kept hg ?_
  rcases he : en.ownBlock with _ | k
  · exact .inl rfl
  · exact .inr fun h => hA k h.symm he
set_option maxRecDepth 100000 in
set_option maxHeartbeats 1000000 in
theorem back_core (w : World) (ao : Option Addr) (len cap : Nat) (cut : Int) (f : Nat → ItV) (hlm : len ≤ maxLen) (hc : cost f len < 6000) (hf : ∀ i, i < len → ∃ a, ao = some a ∧ (f i).ok ∧ ItAt w (a.add (i * 3)) (f i)) (hcut1 : -9223372036854775808 ≤ cut) (hcut2 : cut ≤ 9223372036854775807) :
    Calls Try.prog 8 #[.slice ao len cap, .int .i64 cut] w fun e w' => e = .returned (.bool true) ∧ Below w.heap.size w w' := by
  have hten := cost_ten f len
  have hl600 : len < 600 := by omega
  have HL := Kp.mk (fun w hf => long_any w ao len cap f hlm hf)
  rw [show decide (6000 ≤ cost f len) = false from by rw [decide_eq_false_iff_not]; omega] at HL
  have HC := Kp.mk hc
  have HLEN : Kp (∀ k, k ≤ len → (ibs f k).length < 6000) := ⟨fun k hk => by
    have h1 := ibs_len f len (fun i hi => by obtain ⟨_, _, h, _⟩ := hf i hi; exact h) hc k hk
    have h2 := cost_mono f hk
    omega⟩
  have HSZ : Kp (∀ i, i < len → (f i).s.size ≤ 6000) := ⟨fun i hi => by
    have h2 := cost_mono f (show i + 1 ≤ len from hi)
    rw [cost] at h2
    omega⟩
  have HF := Kp.mk hf
  obtain ⟨i0, hi0, hz0, hz1, hz2⟩ := info_parts infoInt
  have HI := Kp.mk (And.intro hi0 (And.intro hz0 (And.intro hz1 hz2)))
  clear hf hc hten hlm hi0 hz0 hz1 hz2
  go_enter Try.func8, Try.ntmps8
  go_wp2_with fail
  refine (HL.out _ HF.out).mono ?_
  rintro e w' ⟨rfl, rfl⟩
  go_wp2_with fail
  refine (awake_any _).mono ?_
  rintro e w1 ⟨rfl, hb1⟩
  have HB1 := Kp.mk hb1
  have HE1 : Kp (w1.alloc (.cells #[.int .i64 0] 3) |>.ownsRow w.heap.size 3 1 (.slice (some ⟨w1.heap.size, 0, none⟩) 1 1) 1 [.int .i64 0]) := ⟨World.ownsRow_lit w1 #[.int .i64 0] 1 hb1.size (by decide) rfl⟩
  have HB1' : Kp (Below w.heap.size w (w1.alloc (.cells #[.int .i64 0] 3))) := ⟨hb1.trans ((Below.refl _ _).alloc hb1.size _)⟩
  clear hb1
  go_wp2
  go_loopw [5, 6, 7] (fun b en i wr => ∃ k : Nat, k ≤ len ∧ i = .int .i64 k ∧ BRow wr w.heap.size b (ibs f k) ∧ wr.ownsRow w.heap.size 3 1 en (k + 1) (endsV f k) ∧ Apart b en ∧ Below w.heap.size w wr) (fun _ _ i _ => len - (intOf i).toNat)
  case atStart => exact ⟨0, by omega, rfl, BRow.nil _ _, HE1.out, fun g h => by simp [Value.ownBlock] at h, HB1'.out⟩
  case round =>
    obtain ⟨k, hk, rfl, hbr, her, hap, hb⟩ := hrel
    have HBR := Kp.mk hbr
    have HER := Kp.mk her
    have HAP := Kp.mk hap
    have HB := Kp.mk hb
    clear hbr her hap hb
    by_cases hkl : k < len
    · obtain ⟨a, rfl, hok, hat⟩ := HF.out k hkl
      have hat := hat.below HB.out
      obtain ⟨c0, c1, c2⟩ := hat
      have HS := Kp.mk (HSZ.out k hkl)
      have HLk := Kp.mk (HLEN.out k hk)
      have HLk1 := HLEN.out (k + 1) hkl
      have HA := Kp.mk (add_any (f k) hok _ _ _ _ HBR.out HB.out.size (by have := HLk.out; omega) HS.out)
      have HIB : Kp (ibs f k ++ ib (f k) = ibs f (k + 1)) := ⟨rfl⟩
      rw [HIB.out] at HA
      generalize f k = q at c0 c1 c2 HA
      obtain ⟨what, n, s⟩ := q
      have c0 : wr.cell? (a.add (k * 3)) = some (.int .u8 what) := c0
      have c1 : wr.cell? ⟨(a.add (k * 3)).block, (a.add (k * 3)).off + 1, none⟩ = some (.int .u64 n) := c1
      have c2 : wr.cell? ⟨(a.add (k * 3)).block, (a.add (k * 3)).off + 2, none⟩ = some (.string s) := c2
      clear hok HIB
      go_wp2_with fail
      refine HA.out.mono ?_
      rintro e w2 ⟨v', rfl, h1, h2, h3⟩
      obtain ⟨ba, bc, hv'⟩ := h1.len
      rw [hv'] at h1 h3
      rw [hv']
      clear hv'
      have hER2 : w2.ownsRow w.heap.size 3 1 u6 (k + 1) (endsV f k) := ends_kept HAP.out HER.out h2
      have hB2 : Below w.heap.size w w2 := HB.out.grown h2 HB.out.size (fun j hj => by
        rcases HBR.out with ⟨h, _⟩ | ⟨g, cap, h, hbg, _⟩
        · rw [h] at hj; simp [Value.ownBlock] at hj
        · rw [h] at hj; simp [Value.ownBlock] at hj; omega)
      have HB2 := Kp.mk hB2
      have HSTEP : Kp (∀ (w3 : World) (v2 : Value), (w2.alloc (.cells #[.int .i64 ((ibs f (k + 1)).length : Nat)] 3)).grownBy w3 u6.ownBlock → (v2.ownBlock = u6.ownBlock ∨ v2.ownBlock = some (w2.alloc (.cells #[.int .i64 ((ibs f (k + 1)).length : Nat)] 3)).heap.size) → BRow w3 w.heap.size (.slice ba (ibs f (k + 1)).length bc) (ibs f (k + 1)) ∧ Apart (.slice ba (ibs f (k + 1)).length bc) v2) :=
        ⟨fun w3 v2 hg ho => row_step HB.out.size HAP.out HER.out h2 h3 h1 hg ho⟩
      have HB3 : Kp (∀ (w3 : World), (w2.alloc (.cells #[.int .i64 ((ibs f (k + 1)).length : Nat)] 3)).grownBy w3 u6.ownBlock → Below w.heap.size w w3) := ⟨fun w3 hg =>
        (hB2.trans ((Below.refl _ _).alloc hB2.size _)).grown hg (by simp; exact Nat.le_trans hB2.size (Nat.le_succ _)) (fun j hj => (hER2.lt j hj).1)⟩
      have hbs : w.heap.size ≤ w2.heap.size := hB2.size
      have HEV := Kp.mk (endsV_succ f k)
      generalize (ibs f (k + 1)).length = L at HSTEP HB3 HEV HLk1 ⊢
      have HER2 : Kp (∀ o, (w2.alloc o).ownsRow w.heap.size 3 1 u6 (k + 1) (endsV f k)) := ⟨fun o => hER2.alloc o⟩
      have h63 : k + 1 + 1 ≤ maxLen := by unfold maxLen; omega
      clear h1 h2 h3 hER2 hB2 c0 c1 c2
      go_wp2_with (at_builtin; go_loud (refine wpList_append_own_at _ rfl _ _ 45 rfl w.heap.size 3 i0 (.int .i64 0) 1 8 Try.underlying45 HI.out.1 HI.out.2.1 HI.out.2.2.1 HI.out.2.2.2 rfl (by decide) u6 (k + 1) (endsV f k) rfl (HER2.out _) ⟨w2.heap.size, 0, none⟩ 1 1 [.int .i64 L] rfl rfl (cell_one_new w2 _ _) (by simp [Value.oneCell']) h63 (by omega) (by simp; omega) ?_; intro v2 w3 g1 g2 g3 g4))
      rw [← HEV.out] at g1
      have G1 := Kp.mk g1
      have G2 := Kp.mk (HSTEP.out _ _ g2 g4)
      have G3 := Kp.mk (HB3.out _ g2)
      clear g1 g2 g3 g4
      go_wp2
      go_roundw
      case rel => exact ⟨k + 1, by omega, by go_num, G2.out.1, G1.out, G2.out.2, G3.out⟩
      case measure => simp [intOf]; omega
    · obtain rfl : k = len := by omega
      have hconv : (convert 30 9 u5).run Try.prog wr = .ok (.string (B (ibs f k))) wr := HBR.out.string 9 Try.underlying9
      obtain ⟨ge, ce, hen, hge1, hge2⟩ := World.ownsRow.form HER.out (by omega)
      have her := HER.out
      rw [hen] at her
      have HEN : Kp (Ends wr ge f k) := ⟨hge2, fun j hj => by rw [World.ownsRow.cellAt her j (by omega)]; exact endsV_get f k j hj⟩
      have hsl : Kp ((B (ibs f k)).data.toList = ibs f k) := ⟨B_list _⟩
      have hss : (B (ibs f k)).size = (ibs f k).length := B_size _
      have hs6 := HLEN.out k (Nat.le_refl _)
      rw [← hss] at hs6
      have HSS := Kp.mk hss
      generalize B (ibs f k) = s at hconv hsl hss hs6 HSS
      rw [hen]
      have HGE := Kp.mk (And.intro hge1 hge2)
      clear hge1 hge2 her hen hss HL HE1 HB1 HB1' HBR HER HAP HI
      go_wp2_with fail
      clear hconv
      refine (New_any _ _).mono ?_
      rintro e w2 ⟨rfl, hr2, hb2⟩
      have HB2 : Kp (Below w.heap.size w w2) := ⟨HB.out.trans (hb2.mono HB.out.size)⟩
      have HR2 := Kp.mk hr2
      have HEN2 : Kp (Ends w2 ge f k) := ⟨HEN.out.below hb2⟩
      have hgg : Kp (w.heap.size ≤ wr.heap.size ∧ ge < wr.heap.size) := ⟨HB.out.size, HGE.out.2⟩
      clear hb2 hr2 HEN HB
      generalize wr.heap.size = g at HR2 hgg HGE ⊢
      go_wp2
      go_loopw [10] (fun i wr => ∃ j : Nat, i = .int .i64 j ∧ j ≤ k ∧ Rd wr g s (ibs f j).length 0 ∧ Ends wr ge f k ∧ Below w.heap.size w wr) (fun i _ => k - (intOf i).toNat)
      case atStart => exact ⟨0, rfl, by omega, HR2.out, HEN2.out, HB2.out⟩
      case round =>
        obtain ⟨j, rfl, hj, hr, hen, hb⟩ := hrel
        have HR := Kp.mk hr
        have HEN := Kp.mk hen
        have HB := Kp.mk hb
        clear hr hen hb
        by_cases hjk : j < k
        · obtain ⟨a, rfl, hok, hat⟩ := HF.out j hjk
          have hablt : Kp (a.block < w.heap.size) := ⟨by have := hat.lt; unfold Addr.add at this; split at this <;> simpa using this⟩
          have HAT := Kp.mk hat
          have hat := hat.below HB.out
          obtain ⟨c0, c1, c2⟩ := hat
          have c3 := HEN.out.2 (j + 1) hjk
          have HI := Kp.mk (fun wx hx => is_any g s (ibs f j).length 0 (f j) hok wx hx (by have := ibs_mono f hj; have := HSS.out; omega) (by omega))
          have hw : isV s.data.toList (ibs f j).length 0 (f j) = (true, (ibs f (j + 1)).length, 0) := by
            obtain ⟨post, hpost⟩ := ibs_le f (show j + 1 ≤ k from hjk)
            rw [hsl.out, hpost, ibs, List.append_assoc, is_whole _ _ _ hok, List.length_append]
          rw [hw] at HI
          have HK : Kp (∀ w3, wr.drew.grownBy w3 (some g) → ItAt w3 (a.add (j * 3)) (f j) ∧ w3.cell? ⟨ge, j + 1, none⟩ = some (.int .i64 ((ibs f (j + 1)).length : Nat))) := ⟨fun w3 hg => by
            have hbel : Below w.heap.size w w3 := HB.out.drew.grown hg HB.out.size (fun j hj => by have := Option.some.inj hj; have := hgg.out.1; omega)
            exact ⟨HAT.out.below hbel, (HEN.out.grown (grown_trans' (grown_drew _ _) hg) (by have := hgg.out.2; omega)).2 (j + 1) hjk⟩⟩
          obtain ⟨E, hE⟩ : ∃ E, (ibs f (j + 1)).length = E := ⟨_, rfl⟩
          rw [hE] at c3 HI HK
          have HE := Kp.mk hE
          clear hE hw hok hat
          generalize f j = q at c0 c1 c2 HI HAT HK
          obtain ⟨what, n, t⟩ := q
          have c0 : wr.cell? (a.add (j * 3)) = some (.int .u8 what) := c0
          have c1 : wr.cell? ⟨(a.add (j * 3)).block, (a.add (j * 3)).off + 1, none⟩ = some (.int .u64 n) := c1
          have c2 : wr.cell? ⟨(a.add (j * 3)).block, (a.add (j * 3)).off + 2, none⟩ = some (.string t) := c2
          have HK2 : Kp (∀ w3, wr.drew.grownBy w3 (some g) → w3.cell? (a.add (j * 3)) = some (.int .u8 what) ∧ w3.cell? ⟨(a.add (j * 3)).block, (a.add (j * 3)).off + 1, none⟩ = some (.int .u64 n) ∧ w3.cell? ⟨(a.add (j * 3)).block, (a.add (j * 3)).off + 2, none⟩ = some (.string t) ∧ w3.cell? ⟨ge, j + 1, none⟩ = some (.int .i64 E)) := ⟨fun w3 hg => ⟨(HK.out w3 hg).1.1, (HK.out w3 hg).1.2.1, (HK.out w3 hg).1.2.2, (HK.out w3 hg).2⟩⟩
          have hi0 : (0 : Int) ≤ (j : Int) := by omega
          have hi1 : (j : Int) < (k : Int) := by omega
          have hi2 : (j : Int) + 1 < (k : Int) + 1 := by omega
          have hi3 : IntKind.i64.wrap ((j : Int) + 1) = (j : Int) + 1 := by rw [IntKind.wrap_i64]; omega
          have hi4 : (0 : Int) ≤ (j : Int) + 1 := by omega
          have hi5 : ((j : Int) + 1).toNat = j + 1 := by omega
          go_wp2_with fail
          go_region_held3 (fun w' => w'.cell? (a.add (j * 3)) = some (.int .u8 what) ∧ w'.cell? ⟨(a.add (j * 3)).block, (a.add (j * 3)).off + 1, none⟩ = some (.int .u64 n) ∧ w'.cell? ⟨(a.add (j * 3)).block, (a.add (j * 3)).off + 2, none⟩ = some (.string t) ∧ w'.cell? ⟨ge, j + 1, none⟩ = some (.int .i64 E)) (go_keep)
            (first
              | (go_at_call 32; refine (HI.out _ HR.out.drew).mono ?_; rintro e0 w3 ⟨rfl, t5, t6⟩; have T5 := Kp.mk t5; have T6 := Kp.mk t6; obtain ⟨k0, k1, k2, k3⟩ := HK2.out _ t6; clear t5 t6)
              | (go_at_call 33; refine (At_any g s _ _ _ T5.out).mono ?_; rintro e0 w' ⟨rfl, rfl⟩)
              | (go_at_call 34; refine (Err_any g s _ _ _ T5.out).mono ?_; rintro e0 w' ⟨rfl, rfl⟩))
          clear hi0 hi1 hi2 hi3 hi4 hi5
          go_wp2
          go_roundw
          case rel => exact ⟨j + 1, by go_num, by omega, by rw [HE.out]; exact T5.out, HEN.out.grown (grown_trans' (grown_drew _ _) T6.out) (by have := hgg.out.2; omega), HB.out.drew.grown T6.out HB.out.size (fun j hj => by have := Option.some.inj hj; have := hgg.out.1; omega)⟩
          case measure => simp [intOf]; omega
        · obtain rfl : j = k := by omega
          have HEnd := Kp.mk (End_any g s (ibs f j).length 0 wr HR.out (by rw [HSS.out]; exact Nat.le_refl _) (by omega))
          rw [if_neg (by rw [HSS.out]; omega)] at HEnd
          go_wp2_with fail
          refine HEnd.out.mono ?_
          rintro e0 w3 ⟨rfl, hw3⟩
          have HEN3 : Kp (Ends w3 ge f j) := ⟨by rcases hw3 with rfl | rfl <;> exact HEN.out⟩
          have HB3 : Kp (Below w.heap.size w w3) := ⟨by rcases hw3 with rfl | rfl; exact HB.out; exact HB.out.drew⟩
          clear hw3 HEN HB HEnd HR HR2 HB2 HEN2
          obtain ⟨kk, hkk, hkks⟩ : ∃ kk : Nat, wrap64 ((IntKind.u64.wrap cut).tmod ((s.size : Int) + 1)) = (kk : Int) ∧ kk ≤ s.size := by
            refine ⟨((cut % 18446744073709551616) % ((s.size : Int) + 1)).toNat, ?_, ?_⟩
            · have h1 : 0 ≤ cut % 18446744073709551616 := by omega
              have h2 := Int.emod_nonneg (cut % 18446744073709551616) (show (s.size : Int) + 1 ≠ 0 by omega)
              have h3 := Int.emod_lt_of_pos (cut % 18446744073709551616) (show 0 < (s.size : Int) + 1 by omega)
              rw [IntKind.wrap_u64, Int.tmod_eq_emod_of_nonneg h1]
              unfold wrap64
              omega
            · have h2 := Int.emod_nonneg (cut % 18446744073709551616) (show (s.size : Int) + 1 ≠ 0 by omega)
              have h3 := Int.emod_lt_of_pos (cut % 18446744073709551616) (show 0 < (s.size : Int) + 1 by omega)
              omega
          have hx : (s.extract 0 kk).data.toList = (ibs f j).take kk := by
            have := extract_list s 0 kk
            rw [Nat.zero_add, hsl.out, List.drop_zero] at this
            exact this
          have hxs : (s.extract 0 kk).size = kk := by rw [ByteArray.size_extract]; omega
          have HX := Kp.mk (And.intro hx hxs)
          have HKS := Kp.mk hkks
          have HKK := Kp.mk hkk
          clear hx hxs hkks hkk
          have hkks := HKS.out
          have hkk := HKK.out
          go_wp2_with fail
          rw [hkk]
          clear hkk
          generalize s.extract 0 kk = s2 at HX ⊢
          refine (New_any _ _).mono ?_
          rintro e w4 ⟨rfl, hr4, hb4⟩
          have HB4 : Kp (Below w.heap.size w w4) := ⟨HB3.out.trans (hb4.mono HB3.out.size)⟩
          have HR4 := Kp.mk hr4
          have HEN4 : Kp (Ends w4 ge f j) := ⟨HEN3.out.below hb4⟩
          have hgg3 : Kp (w.heap.size ≤ w3.heap.size ∧ ge < w3.heap.size) := ⟨HB3.out.size, HEN3.out.1⟩
          have hs26 : s2.size < 6000 := by rw [HX.out.2]; omega
          clear hb4 hr4 HEN3 HB3
          generalize w3.heap.size = g2 at HR4 hgg3 ⊢
          go_wp2
          go_loopw [12] (fun i wr => ∃ m : Nat, i = .int .i64 m ∧ m ≤ j ∧ Rd wr g2 s2 (ibs f m).length 0 ∧ (ibs f m).length ≤ kk ∧ Ends wr ge f j ∧ Below w.heap.size w wr) (fun i _ => j - (intOf i).toNat)
          case atStart => exact ⟨0, rfl, by omega, HR4.out, by simp [ibs], HEN4.out, HB4.out⟩
          case round =>
            obtain ⟨m, rfl, hm, hr, hmk, hen, hb⟩ := hrel
            have HR := Kp.mk hr
            have HEN := Kp.mk hen
            have HB := Kp.mk hb
            have HMK := Kp.mk hmk
            clear hr hen hb hmk
            by_cases hmj : m < j
            · obtain ⟨a, rfl, hok, hat⟩ := HF.out m hmj
              have hat := hat.below HB.out
              obtain ⟨c0, c1, c2⟩ := hat
              have HI := Kp.mk (fun wx hx => is_any g2 s2 (ibs f m).length 0 (f m) hok wx hx (by rw [HX.out.2]; exact HMK.out) (by omega))
              have HEG : Kp (∀ w3, wr.grownBy w3 (some g2) → Ends w3 ge f j ∧ Below w.heap.size w w3) := ⟨fun w3 hg => ⟨HEN.out.grown hg (by have := hgg3.out.2; omega), HB.out.grown hg HB.out.size (fun j hj => by have := Option.some.inj hj; have := hgg3.out.1; omega)⟩⟩
              have d1 := HEN.out.2 m hm
              have d2 := HEN.out.2 (m + 1) hmj
              by_cases hwh : (ibs f (m + 1)).length ≤ kk
              · have hw : isV s2.data.toList (ibs f m).length 0 (f m) = (true, (ibs f (m + 1)).length, 0) := by
                  obtain ⟨post, hpost⟩ := ibs_le f (show m + 1 ≤ j from hmj)
                  rw [HX.out.1, hpost, List.take_append, List.take_of_length_le hwh, ibs, List.append_assoc, is_whole _ _ _ hok, List.length_append]
                rw [hw] at HI
                obtain ⟨E, hE⟩ : ∃ E, (ibs f (m + 1)).length = E := ⟨_, rfl⟩
                have HK : Kp (∀ w3, wr.grownBy w3 (some g2) → w3.cell? ⟨ge, m + 1, none⟩ = some (.int .i64 E)) := ⟨fun w3 hg => by rw [← hE]; exact (HEG.out w3 hg).1.2 (m + 1) hmj⟩
                rw [hE] at HI hwh
                have HE := Kp.mk hE
                clear hE hw hok d1 d2
                generalize f m = q at c0 c1 c2 HI
                obtain ⟨what, n, t⟩ := q
                have c0 : wr.cell? (a.add (m * 3)) = some (.int .u8 what) := c0
                have c1 : wr.cell? ⟨(a.add (m * 3)).block, (a.add (m * 3)).off + 1, none⟩ = some (.int .u64 n) := c1
                have c2 : wr.cell? ⟨(a.add (m * 3)).block, (a.add (m * 3)).off + 2, none⟩ = some (.string t) := c2
                go_wp2_with fail
                refine (HI.out _ HR.out).mono ?_
                rintro e0 w5 ⟨rfl, t5, t6⟩
                have T5 := Kp.mk t5
                have T6 := Kp.mk t6
                have d2 := HK.out _ t6
                have t7 : decide (kk < E) = false := by rw [decide_eq_false_iff_not]; omega
                have t8 : decide ((kk : Int) < (E : Int)) = false := by rw [decide_eq_false_iff_not]; omega
                clear t5 t6 c0 c1 c2
                go_wp2_with fail
                go_quiet (first
                  | (go_at_call 33; refine qb_same (At_any g2 s2 _ _ _ T5.out)))
                go_wp2
                go_roundw
                case rel => exact ⟨m + 1, by go_num, by omega, by rw [HE.out]; exact T5.out, by rw [HE.out]; exact hwh, (HEG.out _ T6.out).1, belowb (HEG.out _ T6.out).2 _⟩
                case measure => simp [intOf]; omega
              · have hw : (isV s2.data.toList (ibs f m).length 0 (f m)).2 = ((ibs f m).length, 8) := by
                  obtain ⟨post, hpost⟩ := ibs_le f (show m + 1 ≤ j from hmj)
                  have hmk := HMK.out
                  rw [HX.out.1, hpost, ibs, List.append_assoc, List.take_append, List.take_of_length_le hmk, List.take_append_of_le_length (by rw [ibs, List.length_append] at hwh; omega)]
                  exact is_torn _ _ hok _ (by rw [ibs, List.length_append] at hwh; omega)
                obtain ⟨E, hE⟩ : ∃ E, (ibs f (m + 1)).length = E := ⟨_, rfl⟩
                obtain ⟨D, hD⟩ : ∃ D, (ibs f m).length = D := ⟨_, rfl⟩
                have HK : Kp (∀ w3, wr.grownBy w3 (some g2) → w3.cell? ⟨ge, m + 1, none⟩ = some (.int .i64 E) ∧ w3.cell? ⟨ge, m, none⟩ = some (.int .i64 D)) := ⟨fun w3 hg => ⟨by rw [← hE]; exact (HEG.out w3 hg).1.2 (m + 1) hmj, by rw [← hD]; exact (HEG.out w3 hg).1.2 m hm⟩⟩
                have HR := Kp.mk HR.out
                rw [hD] at HI hw HR
                rw [hE] at hwh
                generalize isV s2.data.toList D 0 (f m) = y at HI hw
                obtain ⟨y1, y2⟩ := y
                simp only [] at hw
                subst hw
                clear hE hD hok d1 d2
                generalize f m = q at c0 c1 c2 HI
                obtain ⟨what, n, t⟩ := q
                have c0 : wr.cell? (a.add (m * 3)) = some (.int .u8 what) := c0
                have c1 : wr.cell? ⟨(a.add (m * 3)).block, (a.add (m * 3)).off + 1, none⟩ = some (.int .u64 n) := c1
                have c2 : wr.cell? ⟨(a.add (m * 3)).block, (a.add (m * 3)).off + 2, none⟩ = some (.string t) := c2
                go_wp2_with fail
                refine (HI.out _ HR.out).mono ?_
                rintro e0 w5 ⟨rfl, t5, t6⟩
                have T5 := Kp.mk t5
                have T6 := Kp.mk t6
                obtain ⟨d2, d1⟩ := HK.out _ t6
                have t7 : decide (kk < E) = true := by rw [decide_eq_true_eq]; omega
                have t8 : decide ((kk : Int) < (E : Int)) = true := by rw [decide_eq_true_eq]; omega
                have h8 : (((8 : Nat) : Int) == 8) = true := rfl
                clear t5 t6 c0 c1 c2
                go_wp2_with fail
                go_quiet (first
                  | (go_at_call 34; refine qb_same (Err_any g2 s2 _ _ _ T5.out))
                  | (go_at_call 33; refine qb_same (At_any g2 s2 _ _ _ T5.out)))
                go_wp2
                go_ret
                exact ⟨rfl, belowb (HEG.out _ T6.out).2 _⟩
            · obtain rfl : m = j := by omega
              have hkk2 : kk = (ibs f m).length := by have h1 := HMK.out; have h2 := HKS.out; have h3 := HSS.out; omega
              have HEnd := Kp.mk (End_any g2 s2 (ibs f m).length 0 wr HR.out (by rw [HX.out.2]; omega) (by omega))
              rw [if_neg (by rw [HX.out.2]; omega)] at HEnd
              go_wp2_with fail
              refine HEnd.out.mono ?_
              rintro e0 w5 ⟨rfl, hw5⟩
              have HB5 : Kp (Below w.heap.size w w5) := ⟨by rcases hw5 with rfl | rfl; exact HB.out; exact HB.out.drew⟩
              clear hw5
              go_wp2
              go_ret
              exact ⟨rfl, HB5.out⟩
set_option maxRecDepth 100000 in
theorem back_big (w : World) (ao : Option Addr) (len cap : Nat) (cut : Int) (f : Nat → ItV) (hlm : len ≤ maxLen) (hc : ¬ cost f len < 6000) (hf : ∀ i, i < len → ∃ a, ao = some a ∧ (f i).ok ∧ ItAt w (a.add (i * 3)) (f i)) :
    Calls Try.prog 8 #[.slice ao len cap, .int .i64 cut] w fun e w' => e = .returned (.bool true) ∧ Below w.heap.size w w' := by
  have HL := Kp.mk (long_any w ao len cap f hlm hf)
  rw [show decide (6000 ≤ cost f len) = true from by rw [decide_eq_true_eq]; omega] at HL
  clear hf hc hlm
  go_enter Try.func8, Try.ntmps8
  go_wp2_with fail
  refine HL.out.mono ?_
  rintro e w' ⟨rfl, rfl⟩
  go_wp2_with fail
  refine (awake_any _).mono ?_
  rintro e w1 ⟨rfl, hb1⟩
  have HB1 := Kp.mk hb1
  clear hb1
  go_wp2
  go_ret
  exact ⟨rfl, HB1.out⟩
theorem walkBitsBack {H : Type} {enc : TypeId × Value → H} {X : Prop} {b0 : Nat} {d : DataW H} {ps : List MemPlace} (w : World) (v : Value) (hval : Value.okWide Try.prog w .any b0 43 v)
    (h : DataW.Trod enc Try.prog w 0 (fun _ => true) true 43 v d ps) (cut : Int) (hcut : (Lit.int .i64 cut).wf = true) (_hweigh : X) :
    Calls Try.prog 8 #[v, .int .i64 cut] w fun e w' => e = .returned (.bool true) ∧ Below w.heap.size w w' := by
  obtain ⟨a0, len0, cap0, hv⟩ := Go.WideShapes.okWide_slice Try.underlying43 hval
  have hc : v.cells.toList = [v] := by rw [hv]; rfl
  obtain ⟨ao, len, cap, f, rfl, hlm, hf⟩ := items_open hc h
  obtain ⟨h1, h2⟩ := i64_int hcut
  by_cases h6 : cost f len < 6000
  · exact back_core w ao len cap cut f hlm h6 hf h1 h2
  · exact back_big w ao len cap cut f hlm h6 hf
end Go.Proofs.Ytmfigoffkopohaa
