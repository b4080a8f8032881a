/- The walk of FrameBent. Printed by tools/bentgen.py. -/
import Derived.Test.YtdclfffjiokenaaDoorWalkFrameTorn
import Derived.Deep.RegionHeld3
import Derived.Deep.RegionWith
import Derived.Deep.QuietTactic
import Derived.BigQuiet
namespace Go.Proofs.YtdclfffjiokenaaDoor
open Go.RowKit
set_option linter.unusedVariables false

theorem u8_xor_nat8 (a b : UInt8) : bits .xor .u8 (a.toNat : Int) (b.toNat : Int) = ((a ^^^ b).toNat : Int) := by
  rw [u8_xor_nat _ _ (UInt8.toNat_lt a) (UInt8.toNat_lt b), Crc.u8_xor_toNat]
theorem xor_ne (a b : UInt8) (h : b.toNat ≠ 0) : a ^^^ b ≠ a := by
  intro e
  apply h
  have := congrArg UInt8.toNat e
  rw [Crc.u8_xor_toNat] at this
  have h2 : a.toNat ^^^ b.toNat = a.toNat ^^^ 0 := by rw [this, Nat.xor_zero]
  exact Crc.xor_cancel_left h2
theorem set_ne (l : List UInt8) (k : Nat) (h : k < l.length) (b : UInt8) (hb : b.toNat ≠ 0) : l.set k (l[k] ^^^ b) ≠ l := by
  intro e
  have this : (l.set k (l[k] ^^^ b))[k]? = l[k]? := by rw [e]
  rw [List.getElem?_set_self h, List.getElem?_eq_getElem h] at this
  exact xor_ne _ _ hb (Option.some.inj this)
set_option maxRecDepth 100000 in
set_option maxHeartbeats 2000000 in
theorem bent_small (w : World) (ao : Option Addr) (len cap : Nat) (f : Nat → PtV) (cut : Int) (b : UInt8) (hlm : len ≤ maxLen) (h0 : 0 < len) (hb0 : b.toNat ≠ 0) (hf : Pts w ao len f) (hc : cost f len < 6000) (ht : Tab w) :
    Calls Tryd.prog 4 #[.slice ao len cap, .int .i64 cut, .int .u8 b.toNat] w fun e w' => e = .returned (.bool true) ∧ Below w.heap.size w w' := by
  have HA := Kp.mk awake_any
  have HT := Kp.mk ht
  have HF := Kp.mk hf
  have HL := Kp.mk (fun w hf => long_any w ao len cap f hlm hf)
  rw [show decide (6000 ≤ cost f len) = false from by rw [decide_eq_false_iff_not]; omega] at HL
  have HR := Kp.mk (fun w hf ht => row_any w ao len cap f hf hc ht)
  have hrc := rowB_cost f len hc
  have hok := parts_ok f len hc
  have h40 := cost_len f len
  have HMo := Kp.mk (fun j k h => rows_mono f (j := j) (k := k) h)
  have HCl := Kp.mk (fun j h => frames_cells f (j := j) (len := len) h)
  have HTk := Kp.mk (fun j h => frames_take f (j := j) (len := len) h)
  have HSm := Kp.mk (small_of f len hc)
  have HSu := Kp.mk (rows_succ f)
  have hfk := framesAt_kind 0 (parts f len) hok
  have HFK := Kp.mk hfk
  have hr0 : 0 < (rowB (parts f len)).length := by
    have h1 := rows_mono f (show 1 ≤ len by omega)
    have h2 : (rowB (parts f 1)).length = (rowB (parts f 0)).length + ((f 0).s.size + 9) := rows_succ f 0
    omega
  obtain ⟨kk, hkk, hkks⟩ : ∃ kk : Nat, wrap64 ((IntKind.u64.wrap cut).tmod ((rowB (parts f len)).length : Int)) = (kk : Int) ∧ kk < (rowB (parts f len)).length := by
    have h1 : 0 ≤ cut % 18446744073709551616 := by omega
    have h2 := Int.emod_nonneg (cut % 18446744073709551616) (show ((rowB (parts f len)).length : Int) ≠ 0 by omega)
    have h3 := Int.emod_lt_of_pos (cut % 18446744073709551616) (show 0 < ((rowB (parts f len)).length : Int) by omega)
    refine ⟨((cut % 18446744073709551616) % ((rowB (parts f len)).length : Int)).toNat, ?_, ?_⟩
    · rw [IntKind.wrap_u64, Int.tmod_eq_emod_of_nonneg h1]
      unfold wrap64
      omega
    · omega
  have HBt := Kp.mk (fun j h1 h2 h3 => scan_bent f len hc kk j ((rowB (parts f len))[kk] ^^^ b) h1 h2 h3 (set_ne _ kk hkks b hb0))
  have hx8 := u8_xor_nat8 (rowB (parts f len))[kk] b
  have hsz : (B (rowB (parts f len))).size = (rowB (parts f len)).length := B_size _
  have hsl : (B (rowB (parts f len))).data.toList = rowB (parts f len) := B_list _
  have HKKS := Kp.mk hkks
  have HLast : Kp (kk < (rowB (parts f len)).length) := ⟨hkks⟩
  have HY : Kp ((rowB (parts f len))[kk]? = some (rowB (parts f len))[kk]) := ⟨List.getElem?_eq_getElem hkks⟩
  have HSt : Kp (∀ W base g cp, BRow W base (.slice (some ⟨g, 0, none⟩) (rowB (parts f len)).length cp) (rowB (parts f len)) → (W.cell? ⟨g, kk, none⟩ = some (.int .u8 (((rowB (parts f len))[kk].toNat : Nat) : Int)) ∧ W.frozen? ⟨g, kk, none⟩ = false) ∧ BRow (W.setCell ⟨g, kk, none⟩ (.int .u8 (((rowB (parts f len))[kk] ^^^ b).toNat : Int))) base (.slice (some ⟨g, 0, none⟩) (rowB (parts f len)).length cp) ((rowB (parts f len)).set kk ((rowB (parts f len))[kk] ^^^ b))) := ⟨fun W base g cp h => ⟨h.cell kk hkks, h.stored kk hkks _⟩⟩
  generalize (rowB (parts f len))[kk] ^^^ b = y at HBt hx8 HSt
  generalize (rowB (parts f len))[kk] = y0 at hx8 HSt HY
  clear HY
  have hlen : len < 150 := by omega
  have HSL := Kp.mk hsl
  have HSZ := Kp.mk hsz
  rw [← hsz] at hkk HSt hkks hrc
  have hS6 : (B (rowB (parts f len))).size < 6000 := by omega
  generalize B (rowB (parts f len)) = S at *
  have tl : ((len : Int) == 0) = false := by simp; omega
  have tb : ((b.toNat : Int) == 0) = false := by simp; omega
  have hb256 := UInt8.toNat_lt b
  clear hf ht hrc hok h40 hlm hc hfk hsl hsz hb0 hr0
  go_enter Tryd.func4, Tryd.ntmps4
  go_wp2_with fail
  refine (HL.out _ HF.out).mono ?_
  rintro e w' ⟨rfl, rfl⟩
  go_wp2_with fail
  refine (HA.out _ HT.out).mono ?_
  rintro e w1 ⟨rfl, b1⟩
  have B1 := Kp.mk b1
  clear b1
  go_wp2_with fail
  refine (HR.out _ (HF.out.below B1.out) (HT.out.below B1.out)).mono ?_
  rintro e w3 ⟨want, rfl, hw3, _, b3⟩
  obtain ⟨gw, cw, rfl, hcw1, hcw2, hgw, _⟩ := hw3.at_ h0
  have HW3 := Kp.mk hw3
  have B3 := Kp.mk (B1.out.trans (b3.mono B1.out.size))
  clear b3 hw3
  have hconv := Lib.run_convert_string_bytes (P := Tryd.prog) w3 9 39 5 S Tryd.underlying9 Tryd.underlying39 Tryd.underlying5
  have HM : Kp (BRow (Lib.bytesWorld w3 5 S) w3.heap.size (.slice (some ⟨w3.heap.size, 0, none⟩) S.size (grownCap w3 S.size 0 5)) (rowB (parts f len))) := ⟨by
    have := BRow.made w3 S (by unfold maxLen; omega)
    rw [HSL.out] at this; exact this⟩
  have HB4 : Kp (Below w.heap.size w (Lib.bytesWorld w3 5 S)) := ⟨B3.out.trans ((below_bytes w3 _).mono B3.out.size)⟩
  have HW4 := Kp.mk (HW3.out.below (below_bytes w3 S))
  have hws : w.heap.size ≤ w3.heap.size := B3.out.size
  have hgne : gw ≠ w3.heap.size := by omega
  generalize grownCap w3 S.size 0 5 = cp at hconv HM
  generalize Lib.bytesWorld w3 5 S = w4 at hconv HM HB4 HW4
  obtain ⟨⟨k1, k2⟩, k3⟩ := HSt.out _ _ _ _ HM.out
  have HBR := Kp.mk k3
  have HW5 := Kp.mk (HW4.out.off (g := w3.heap.size) (j := kk) (u := .int .u8 (y.toNat : Int)) (fun k hk e => by simp [blk] at hk; cases cw <;> simp_all))
  have B5 := Kp.mk (HB4.out.setCell (p := ⟨w3.heap.size, kk, none⟩) hws (.int .u8 (y.toNat : Int)))
  clear k3 HSt
  have hk0 : (0 : Int) ≤ (kk : Int) := by omega
  have hk1 : (kk : Int) < (S.size : Int) := by omega
  have hcv := HBR.out.string 9 Tryd.underlying9
  rw [B_text] at hcv
  obtain ⟨T, hT⟩ : ∃ T, B ((rowB (parts f len)).set kk y) = T := ⟨_, rfl⟩
  have hTl : T.data.toList = (rowB (parts f len)).set kk y := by rw [← hT, B_list]
  have hTs : T.size = S.size := by rw [← data_len, hTl, List.length_set]; exact HSZ.out.symm
  have hscT := scanV_in T 0 (Nat.zero_le _)
  have hBt := HBt.out
  rw [hTl] at hscT
  have HScT := Kp.mk (fun W hW => Scan_any T (0 : Nat) W (by omega) (by omega) (by omega) hW)
  rw [hscT] at HScT
  generalize scanL ((rowB (parts f len)).set kk y) 0 = sc at HScT hBt
  obtain ⟨ml, gd⟩ := sc
  simp only [] at HScT hBt
  have HScan : Kp (∀ W, Below w.heap.size w W → Calls Tryd.prog 15 #[.string T, .int .i64 0] W fun e w' => ∃ v, e = .returned (.tuple #[v, .int .i64 gd]) ∧ RK 3 w' v ml.length (ml.flatMap FrV.cells) ∧ Below W.heap.size W w') := ⟨fun W hW => by
    refine (HScT.out W (HT.out.below hW)).mono ?_
    rintro e w' ⟨v, he, hr, _, hb⟩
    exact ⟨v, he, hr, hb⟩⟩
  clear HScT HBt
  have HBt := Kp.mk hBt
  rw [hT] at hcv
  have HTl := Kp.mk hTl
  have HTeq := Kp.mk hT
  have HTs := Kp.mk hTs
  clear hBt hscT hTl hTs hT
  go_wp2
  have hkL := HLast.out
  go_loop [11] (fun i => ∃ j : Nat, j < len ∧ i = .int .i64 j ∧ (rowB (parts f j)).length ≤ kk) (fun i => len - (intOf i).toNat)
  case atStart => exact ⟨0, h0, rfl, Nat.zero_le _⟩
  case round =>
    obtain ⟨j, hjl, rfl, hat⟩ := hrel
    have hjp : IntKind.i64.wrap ((j : Int) + 1) = (j : Int) + 1 := by rw [IntKind.wrap_i64]; omega
    have hjq : (0 : Int) ≤ (j : Int) + 1 := by omega
    have hjr : ((j : Int) + 1).toNat = j + 1 := by omega
    by_cases hj1 : j + 1 < len
    · have tj : decide ((j : Int) + 1 < (len : Int)) = true := by rw [decide_eq_true_eq]; omega
      have hjs : (j : Int) + 1 < (len : Int) := by omega
      obtain ⟨x0, x1, x2⟩ := HCl.out (j + 1) hj1
      have c2 := HW5.out.cell _ _ x2
      clear x0 x1 x2
      by_cases hle : (rowB (parts f (j + 1))).length ≤ kk
      · have HLE := Kp.mk hle
        have tk : decide (((rowB (parts f (j + 1))).length : Int) ≤ (kk : Int)) = true := by rw [decide_eq_true_eq]; omega
        generalize (rowB (parts f (j + 1))).length = R1 at c2 tk hle
        go_wp2
        go_round
        case rel => exact ⟨j + 1, hj1, by go_num, HLE.out⟩
        case measure => simp [intOf]; omega
      · have hex : kk < (rowB (parts f (j + 1))).length := by omega
        have tk : decide (((rowB (parts f (j + 1))).length : Int) ≤ (kk : Int)) = false := by rw [decide_eq_false_iff_not]; omega
        have HEx := Kp.mk hex
        generalize (rowB (parts f (j + 1))).length = R1 at c2 tk hle hex
        go_wp2_with fail
        clear c2 tk hle hex
        have hex := HEx.out
        refine (HScan.out _ B5.out).mono ?_
        rintro e w6 ⟨m, rfl, hm, hb6⟩
        have HW6 := Kp.mk (HW5.out.below hb6)
        have HR6 := Kp.mk (HBR.out.below hb6)
        have B6 := Kp.mk (B5.out.trans (hb6.mono B5.out.size))
        clear hb6
        obtain ⟨⟨hb1, hb2⟩, hb3⟩ := HBt.out j hjl hat hex
        have hlm : j ≤ ml.length := by
          have := congrArg List.length hb1
          rw [List.length_take, framesAt_length, parts_length] at this
          omega
        have HB1 := Kp.mk hb1
        have HB3 := Kp.mk hb3
        obtain ⟨x0, x1, x2⟩ := HCl.out j hjl
        have c1 := HW6.out.cell _ _ x1
        have c2 := HW6.out.cell _ _ x2
        have HC1 := Kp.mk c1
        have HC2 := Kp.mk c2
        have HHw := Kp.mk (show RK 3 w6 (.slice (some ⟨gw, 0, none⟩) j cw) j ((framesAt 0 (parts f j)).flatMap FrV.cells) from by
          have := HW6.out.head j (Nat.le_of_lt hjl)
          rw [cells_take, HTk.out j (Nat.le_of_lt hjl)] at this
          exact this)
        have HKj : Kp (∀ x ∈ framesAt 0 (parts f j), x.k < 256) := ⟨fun x hx => HFK.out x (by rw [← HTk.out j (Nat.le_of_lt hjl)] at hx; exact List.mem_of_mem_take hx)⟩
        have HAll : Kp (∀ mv, RK 3 w6 mv j ((framesAt 0 (parts f j)).flatMap FrV.cells) → Calls Tryd.prog 16 #[mv, .slice (some ⟨gw, 0, none⟩) j cw] w6.drew fun e w' => e = .returned (.bool true) ∧ Below w6.drew.heap.size w6.drew w') := ⟨fun mv hmv => by
          have := all_any mv (.slice (some ⟨gw, 0, none⟩) j cw) (framesAt 0 (parts f j)) (framesAt 0 (parts f j)) w6.drew (by rw [framesAt_length, parts_length]; exact hmv.drew) (by rw [framesAt_length, parts_length]; exact HHw.out.drew) (by rw [framesAt_length, parts_length]; omega) HKj.out HKj.out
          rw [(allF_iff _ _).2 rfl] at this
          exact this⟩
        have HHm : Kp (∀ gm cm, m = .slice (some ⟨gm, 0, none⟩) ml.length cm → RK 3 w6 (.slice (some ⟨gm, 0, none⟩) j cm) j ((framesAt 0 (parts f j)).flatMap FrV.cells)) := ⟨fun gm cm he => by
          rw [he] at hm
          have := hm.head j hlm
          rw [cells_take, HB1.out] at this
          exact this⟩
        have HK7 : Kp (∀ W, Below w6.drew.heap.size w6.drew W → W.cell? ⟨gw, j * 3 + 2, none⟩ = some (.int .i64 ((rowB (parts f j)).length : Nat))) := ⟨fun W hW => (hW.cell (p := ⟨gw, j * 3 + 2, none⟩) (World.block_lt_of_cell? _ _ HC2.out)).trans HC2.out⟩
        have hms := hm.2
        have hj3 : (j : Int) ≤ (len : Int) := by omega
        have hj4 : (j : Int) < (len : Int) := by omega
        have hj5 : ¬ (ml.length : Int) < (j : Int) := by omega
        have tg : decide ((gd : Int) < ((rowB (parts f j)).length : Int)) = false := by rw [decide_eq_false_iff_not]; omega
        have tm : decide ((ml.length : Int) < (j : Int)) = false := by rw [decide_eq_false_iff_not]; omega
        have tm' : decide (ml.length < j) = false := by rw [decide_eq_false_iff_not]; omega
        have tg' : decide (gd < (rowB (parts f j)).length) = false := by rw [decide_eq_false_iff_not]; omega
        have hjw : (j : Int) ≤ (cw : Int) := by omega
        clear hm hb1 hb3 x0 x1 x2
        rcases hms with ⟨rfl, hj0⟩ | ⟨gm, cm, rfl, hcm, _⟩
        · obtain rfl : j = 0 := by omega
          rw [show ((0 : Nat) : Int) = 0 from rfl]
          have hcast : ((0 : Nat) : Int) = 0 := rfl
          simp only [Nat.zero_mul, Nat.zero_add] at c1 c2 HC1 HC2 HK7
          have HA1 := Kp.mk (HAll.out _ (RK.nil _ _))
          clear HAll HHm
          go_wp2
          go_region_held3 (fun w' => w'.cell? ⟨gw, 2, none⟩ = some (.int .i64 ((rowB (parts f 0)).length : Nat))) (go_keep)
            (first
              | (go_at_call 16; refine HA1.out.mono ?_; rintro e w7 ⟨rfl, b7⟩; have k7 := HK7.out _ b7))
          have HW7 := Kp.mk (HW6.out.drew.below b7)
          have hcv7 := ((HR6.out.drew.below b7).drew).string 9 Tryd.underlying9
          rw [B_text, HTeq.out] at hcv7
          have B7 := Kp.mk (B6.out.drew.trans (b7.mono B6.out.size))
          have HD1 := Kp.mk (show w7.drew.cell? ⟨gw, 1, none⟩ = some (.string (f 0).s) from (b7.cell (p := ⟨gw, 1, none⟩) (World.block_lt_of_cell? _ _ HC1.out)).trans HC1.out)
          have HD2 := Kp.mk (show w7.drew.cell? ⟨gw, 2, none⟩ = some (.int .i64 ((rowB (parts f 0)).length : Nat)) from k7)
          have hRT : (rowB (parts f 0)).length ≤ T.size := by have := HMo.out 0 len (Nat.zero_le _); have := HSZ.out; have := HTs.out; omega
          have HKeep : Kp (∀ W, Below w7.drew.heap.size w7.drew W → (convert 39 9 (.slice (some ⟨w3.heap.size, 0, none⟩) S.size cp)).run Tryd.prog W = .ok (.string T) W ∧ W.cell? ⟨gw, 2, none⟩ = some (.int .i64 ((rowB (parts f 0)).length : Nat))) := ⟨fun W hW => by
            have h1 := (((HR6.out.drew.below b7).drew).below hW).string 9 Tryd.underlying9
            rw [B_text, HTeq.out] at h1
            exact ⟨h1, (hW.cell (p := ⟨gw, 2, none⟩) (World.block_lt_of_cell? _ _ HD2.out)).trans HD2.out⟩⟩
          have HRd := Kp.mk (fun W (hW : Below w.heap.size w W) => Read_any T (rowB (parts f 0)).length W (by have := HTs.out; omega) (by omega) (by omega) (HT.out.below hW))
          have hq6 := HSm.out 0 hjl
          have hgn : ¬ gw = w7.heap.size := by have := World.block_lt_of_cell? _ _ HD1.out; have h : gw < w7.drew.heap.size := this; have : w7.drew.heap.size = w7.heap.size := rfl; omega
          have hgn' : ¬ w7.heap.size = gw := fun e => hgn e.symm
          have hb1 : Below w7.drew.heap.size w7.drew (w7.alloc (.cells #[.int .u8 0, .string ⟨#[]⟩, .int .i64 0] 26)).drew := ((Below.refl _ w7.drew).alloc (Nat.le_refl _) _)
          have hrefl : Below w7.drew.heap.size w7.drew w7.drew := Below.refl _ _
          have BA := Kp.mk (show Below w.heap.size w (w7.alloc (.cells #[.int .u8 0, .string ⟨#[]⟩, .int .i64 0] 26)).drew from (B7.out.alloc B7.out.size _).drew)
          have hge : w7.drew.heap.size ≤ w7.heap.size := Nat.le_refl _
          clear c1 c2 HA1 hcv7 hcv
          by_cases her : (Fr.readL (T.data.toList.drop (rowB (parts f 0)).length)).1 = 0
          · rw [readE_at_ok hRT her] at HRd
            obtain ⟨hb4, hb5⟩ := HB3.out (by rw [← HTl.out]; exact her)
            rw [← HTl.out] at hb4
            have hxp : (frAt T.data.toList (rowB (parts f 0)).length).p.length ≠ (f 0).s.size := hb4
            have t4 : decide ((kk : Int) - ((rowB (parts f 0)).length : Int) < 4) = true := by rw [decide_eq_true_eq]; omega
            generalize frAt T.data.toList (rowB (parts f 0)).length = x at HRd hxp
            obtain ⟨fk, fp, fa⟩ := x
            generalize (⟨fk, fp, fa⟩ : FrV).next = N at HRd
            unfold FrV.v at HRd
            simp only [] at HRd hxp
            have hsf : (B fp).size = fp.length := B_size _
            have tn : (((B fp).size : Int) != ((f 0).s.size : Int)) = true := by simp; omega
            generalize B fp = fb at HRd hsf tn
            clear her hb4 hb5 hxp hsf
            go_wp2
            go_region_held3 (fun w' => (convert 39 9 (.slice (some ⟨w3.heap.size, 0, none⟩) S.size cp)).run Tryd.prog w' = .ok (.string T) w' ∧ w'.cell? ⟨gw, 2, none⟩ = some (.int .i64 ((rowB (parts f 0)).length : Nat)))
              (first
                | exact HKeep.out _ hrefl
                | exact HKeep.out _ hb1
                | exact HKeep.out _ b8
                | exact HKeep.out _ (b8.alloc b8.size _)
                | exact HKeep.out _ (((b8.setCell (p := ⟨w7.heap.size, _, none⟩) hge _).setCell (p := ⟨w7.heap.size, _, none⟩) hge _).setCell (p := ⟨w7.heap.size, _, none⟩) hge _))
              (first
                | (go_at_call 13; refine (HRd.out _ B7.out.drew).mono ?_; rintro e w8 ⟨rfl, b8⟩; have B8 := Kp.mk (B7.out.drew.trans (b8.mono B7.out.drew.size)))
                | (go_at_call 13; refine (HRd.out _ BA.out).mono ?_; rintro e w8 ⟨rfl, b8'⟩; have B8 := Kp.mk (BA.out.trans (b8'.mono BA.out.size)); have b8 : Below w7.drew.heap.size w7.drew w8 := hb1.trans (b8'.mono hb1.size); obtain ⟨⟨z0, z1, z2⟩, z3⟩ := cells3 ((b8'.block w7.heap.size (by simp [World.drew])).trans (heap_alloc_new w7 (.cells #[.int .u8 0, .string ⟨#[]⟩, .int .i64 0] 26))); clear b8'))
            all_goals (
              have k81 : w8.cell? ⟨gw, 1, none⟩ = some (.string (f 0).s) := (b8.cell (p := ⟨gw, 1, none⟩) (World.block_lt_of_cell? _ _ HD1.out)).trans HD1.out
              have k82 : w8.cell? ⟨gw, 2, none⟩ = some (.int .i64 ((rowB (parts f 0)).length : Nat)) := (b8.cell (p := ⟨gw, 2, none⟩) (World.block_lt_of_cell? _ _ HD2.out)).trans HD2.out
              have e1 : ∀ o, (w8.alloc o).cell? ⟨gw, 1, none⟩ = some (.string (f 0).s) := fun o => ((b8.alloc b8.size o).cell (p := ⟨gw, 1, none⟩) (World.block_lt_of_cell? _ _ HD1.out)).trans HD1.out
              have e2 : ∀ o, (w8.alloc o).cell? ⟨gw, 2, none⟩ = some (.int .i64 ((rowB (parts f 0)).length : Nat)) := fun o => ((b8.alloc b8.size o).cell (p := ⟨gw, 2, none⟩) (World.block_lt_of_cell? _ _ HD2.out)).trans HD2.out
              have hbz := B8.out.size
              have hbw := B7.out.size
              go_wp2
              go_quiet (fail)
              go_wp2
              go_ret
              first
                | exact ⟨rfl, (B8.out.alloc hbz _).trans (belowN _ _ _)⟩
                | exact ⟨rfl, (((B8.out.setCell (p := ⟨w7.heap.size, _, none⟩) hbw _).setCell (p := ⟨w7.heap.size, _, none⟩) hbw _).setCell (p := ⟨w7.heap.size, _, none⟩) hbw _).trans (belowN _ _ _)⟩)
          · have hbad := readV_bad (s := T) (a := ((rowB (parts f 0)).length : Nat)) (by rw [readV_at hRT]; exact her)
            rw [readV_at hRT] at hbad
            rw [Fr.readE_bad her (by rw [readV_at hRT]; exact hbad)] at HRd
            generalize (Fr.readL (T.data.toList.drop (rowB (parts f 0)).length)).1 = er at HRd her
            unfold Fr.badE at HRd
            have tn : ((er : Int) != 0) = true := by simp; omega
            clear hbad
            go_wp2
            go_region_held3 (fun w' => (convert 39 9 (.slice (some ⟨w3.heap.size, 0, none⟩) S.size cp)).run Tryd.prog w' = .ok (.string T) w' ∧ w'.cell? ⟨gw, 2, none⟩ = some (.int .i64 ((rowB (parts f 0)).length : Nat)))
              (first
                | exact HKeep.out _ hrefl
                | exact HKeep.out _ hb1
                | exact HKeep.out _ b8
                | exact HKeep.out _ (b8.alloc b8.size _)
                | exact HKeep.out _ (((b8.setCell (p := ⟨w7.heap.size, _, none⟩) hge _).setCell (p := ⟨w7.heap.size, _, none⟩) hge _).setCell (p := ⟨w7.heap.size, _, none⟩) hge _))
              (first
                | (go_at_call 13; refine (HRd.out _ B7.out.drew).mono ?_; rintro e w8 ⟨rfl, b8⟩; have B8 := Kp.mk (B7.out.drew.trans (b8.mono B7.out.drew.size)))
                | (go_at_call 13; refine (HRd.out _ BA.out).mono ?_; rintro e w8 ⟨rfl, b8'⟩; have B8 := Kp.mk (BA.out.trans (b8'.mono BA.out.size)); have b8 : Below w7.drew.heap.size w7.drew w8 := hb1.trans (b8'.mono hb1.size); obtain ⟨⟨z0, z1, z2⟩, z3⟩ := cells3 ((b8'.block w7.heap.size (by simp [World.drew])).trans (heap_alloc_new w7 (.cells #[.int .u8 0, .string ⟨#[]⟩, .int .i64 0] 26))); clear b8'))
            all_goals (
              have hbz := B8.out.size
              have hbw := B7.out.size
              go_wp2
              go_quiet (fail)
              go_wp2
              go_ret
              first
                | exact ⟨rfl, (B8.out.alloc hbz _).trans (belowN _ _ _)⟩
                | exact ⟨rfl, (((B8.out.setCell (p := ⟨w7.heap.size, _, none⟩) hbw _).setCell (p := ⟨w7.heap.size, _, none⟩) hbw _).setCell (p := ⟨w7.heap.size, _, none⟩) hbw _).trans (belowN _ _ _)⟩)
        · have HA1 := Kp.mk (HAll.out _ (HHm.out gm cm rfl))
          have hjm : (j : Int) ≤ (cm : Int) := by omega
          clear HAll HHm
          go_wp2
          go_region_held3 (fun w' => w'.cell? ⟨gw, j * 3 + 2, none⟩ = some (.int .i64 ((rowB (parts f j)).length : Nat))) (go_keep)
            (first
              | (go_at_call 16; refine HA1.out.mono ?_; rintro e w7 ⟨rfl, b7⟩; have k7 := HK7.out _ b7))
          have HW7 := Kp.mk (HW6.out.drew.below b7)
          have hcv7 := ((HR6.out.drew.below b7).drew).string 9 Tryd.underlying9
          rw [B_text, HTeq.out] at hcv7
          have B7 := Kp.mk (B6.out.drew.trans (b7.mono B6.out.size))
          have HD1 := Kp.mk (show w7.drew.cell? ⟨gw, j * 3 + 1, none⟩ = some (.string (f j).s) from (b7.cell (p := ⟨gw, j * 3 + 1, none⟩) (World.block_lt_of_cell? _ _ HC1.out)).trans HC1.out)
          have HD2 := Kp.mk (show w7.drew.cell? ⟨gw, j * 3 + 2, none⟩ = some (.int .i64 ((rowB (parts f j)).length : Nat)) from k7)
          have hRT : (rowB (parts f j)).length ≤ T.size := by have := HMo.out j len (Nat.le_of_lt hjl); have := HSZ.out; have := HTs.out; omega
          have HKeep : Kp (∀ W, Below w7.drew.heap.size w7.drew W → (convert 39 9 (.slice (some ⟨w3.heap.size, 0, none⟩) S.size cp)).run Tryd.prog W = .ok (.string T) W ∧ W.cell? ⟨gw, j * 3 + 2, none⟩ = some (.int .i64 ((rowB (parts f j)).length : Nat))) := ⟨fun W hW => by
            have h1 := (((HR6.out.drew.below b7).drew).below hW).string 9 Tryd.underlying9
            rw [B_text, HTeq.out] at h1
            exact ⟨h1, (hW.cell (p := ⟨gw, j * 3 + 2, none⟩) (World.block_lt_of_cell? _ _ HD2.out)).trans HD2.out⟩⟩
          have HRd := Kp.mk (fun W (hW : Below w.heap.size w W) => Read_any T (rowB (parts f j)).length W (by have := HTs.out; omega) (by omega) (by omega) (HT.out.below hW))
          have hq6 := HSm.out j hjl
          have hgn : ¬ gw = w7.heap.size := by have := World.block_lt_of_cell? _ _ HD1.out; have h : gw < w7.drew.heap.size := this; have : w7.drew.heap.size = w7.heap.size := rfl; omega
          have hgn' : ¬ w7.heap.size = gw := fun e => hgn e.symm
          have hb1 : Below w7.drew.heap.size w7.drew (w7.alloc (.cells #[.int .u8 0, .string ⟨#[]⟩, .int .i64 0] 26)).drew := ((Below.refl _ w7.drew).alloc (Nat.le_refl _) _)
          have hrefl : Below w7.drew.heap.size w7.drew w7.drew := Below.refl _ _
          have BA := Kp.mk (show Below w.heap.size w (w7.alloc (.cells #[.int .u8 0, .string ⟨#[]⟩, .int .i64 0] 26)).drew from (B7.out.alloc B7.out.size _).drew)
          have hge : w7.drew.heap.size ≤ w7.heap.size := Nat.le_refl _
          clear c1 c2 HA1 hcv7 hcv
          by_cases her : (Fr.readL (T.data.toList.drop (rowB (parts f j)).length)).1 = 0
          · rw [readE_at_ok hRT her] at HRd
            obtain ⟨hb4, hb5⟩ := HB3.out (by rw [← HTl.out]; exact her)
            rw [← HTl.out] at hb4
            have hxp : (frAt T.data.toList (rowB (parts f j)).length).p.length ≠ (f j).s.size := hb4
            have t4 : decide ((kk : Int) - ((rowB (parts f j)).length : Int) < 4) = true := by rw [decide_eq_true_eq]; omega
            generalize frAt T.data.toList (rowB (parts f j)).length = x at HRd hxp
            obtain ⟨fk, fp, fa⟩ := x
            generalize (⟨fk, fp, fa⟩ : FrV).next = N at HRd
            unfold FrV.v at HRd
            simp only [] at HRd hxp
            have hsf : (B fp).size = fp.length := B_size _
            have tn : (((B fp).size : Int) != ((f j).s.size : Int)) = true := by simp; omega
            generalize B fp = fb at HRd hsf tn
            clear her hb4 hb5 hxp hsf
            go_wp2
            go_region_held3 (fun w' => (convert 39 9 (.slice (some ⟨w3.heap.size, 0, none⟩) S.size cp)).run Tryd.prog w' = .ok (.string T) w' ∧ w'.cell? ⟨gw, j * 3 + 2, none⟩ = some (.int .i64 ((rowB (parts f j)).length : Nat)))
              (first
                | exact HKeep.out _ hrefl
                | exact HKeep.out _ hb1
                | exact HKeep.out _ b8
                | exact HKeep.out _ (b8.alloc b8.size _)
                | exact HKeep.out _ (((b8.setCell (p := ⟨w7.heap.size, _, none⟩) hge _).setCell (p := ⟨w7.heap.size, _, none⟩) hge _).setCell (p := ⟨w7.heap.size, _, none⟩) hge _))
              (first
                | (go_at_call 13; refine (HRd.out _ B7.out.drew).mono ?_; rintro e w8 ⟨rfl, b8⟩; have B8 := Kp.mk (B7.out.drew.trans (b8.mono B7.out.drew.size)))
                | (go_at_call 13; refine (HRd.out _ BA.out).mono ?_; rintro e w8 ⟨rfl, b8'⟩; have B8 := Kp.mk (BA.out.trans (b8'.mono BA.out.size)); have b8 : Below w7.drew.heap.size w7.drew w8 := hb1.trans (b8'.mono hb1.size); obtain ⟨⟨z0, z1, z2⟩, z3⟩ := cells3 ((b8'.block w7.heap.size (by simp [World.drew])).trans (heap_alloc_new w7 (.cells #[.int .u8 0, .string ⟨#[]⟩, .int .i64 0] 26))); clear b8'))
            all_goals (
              have k81 : w8.cell? ⟨gw, j * 3 + 1, none⟩ = some (.string (f j).s) := (b8.cell (p := ⟨gw, j * 3 + 1, none⟩) (World.block_lt_of_cell? _ _ HD1.out)).trans HD1.out
              have k82 : w8.cell? ⟨gw, j * 3 + 2, none⟩ = some (.int .i64 ((rowB (parts f j)).length : Nat)) := (b8.cell (p := ⟨gw, j * 3 + 2, none⟩) (World.block_lt_of_cell? _ _ HD2.out)).trans HD2.out
              have e1 : ∀ o, (w8.alloc o).cell? ⟨gw, j * 3 + 1, none⟩ = some (.string (f j).s) := fun o => ((b8.alloc b8.size o).cell (p := ⟨gw, j * 3 + 1, none⟩) (World.block_lt_of_cell? _ _ HD1.out)).trans HD1.out
              have e2 : ∀ o, (w8.alloc o).cell? ⟨gw, j * 3 + 2, none⟩ = some (.int .i64 ((rowB (parts f j)).length : Nat)) := fun o => ((b8.alloc b8.size o).cell (p := ⟨gw, j * 3 + 2, none⟩) (World.block_lt_of_cell? _ _ HD2.out)).trans HD2.out
              have hbz := B8.out.size
              have hbw := B7.out.size
              go_wp2
              go_quiet (fail)
              go_wp2
              go_ret
              first
                | exact ⟨rfl, (B8.out.alloc hbz _).trans (belowN _ _ _)⟩
                | exact ⟨rfl, (((B8.out.setCell (p := ⟨w7.heap.size, _, none⟩) hbw _).setCell (p := ⟨w7.heap.size, _, none⟩) hbw _).setCell (p := ⟨w7.heap.size, _, none⟩) hbw _).trans (belowN _ _ _)⟩)
          · have hbad := readV_bad (s := T) (a := ((rowB (parts f j)).length : Nat)) (by rw [readV_at hRT]; exact her)
            rw [readV_at hRT] at hbad
            rw [Fr.readE_bad her (by rw [readV_at hRT]; exact hbad)] at HRd
            generalize (Fr.readL (T.data.toList.drop (rowB (parts f j)).length)).1 = er at HRd her
            unfold Fr.badE at HRd
            have tn : ((er : Int) != 0) = true := by simp; omega
            clear hbad
            go_wp2
            go_region_held3 (fun w' => (convert 39 9 (.slice (some ⟨w3.heap.size, 0, none⟩) S.size cp)).run Tryd.prog w' = .ok (.string T) w' ∧ w'.cell? ⟨gw, j * 3 + 2, none⟩ = some (.int .i64 ((rowB (parts f j)).length : Nat)))
              (first
                | exact HKeep.out _ hrefl
                | exact HKeep.out _ hb1
                | exact HKeep.out _ b8
                | exact HKeep.out _ (b8.alloc b8.size _)
                | exact HKeep.out _ (((b8.setCell (p := ⟨w7.heap.size, _, none⟩) hge _).setCell (p := ⟨w7.heap.size, _, none⟩) hge _).setCell (p := ⟨w7.heap.size, _, none⟩) hge _))
              (first
                | (go_at_call 13; refine (HRd.out _ B7.out.drew).mono ?_; rintro e w8 ⟨rfl, b8⟩; have B8 := Kp.mk (B7.out.drew.trans (b8.mono B7.out.drew.size)))
                | (go_at_call 13; refine (HRd.out _ BA.out).mono ?_; rintro e w8 ⟨rfl, b8'⟩; have B8 := Kp.mk (BA.out.trans (b8'.mono BA.out.size)); have b8 : Below w7.drew.heap.size w7.drew w8 := hb1.trans (b8'.mono hb1.size); obtain ⟨⟨z0, z1, z2⟩, z3⟩ := cells3 ((b8'.block w7.heap.size (by simp [World.drew])).trans (heap_alloc_new w7 (.cells #[.int .u8 0, .string ⟨#[]⟩, .int .i64 0] 26))); clear b8'))
            all_goals (
              have hbz := B8.out.size
              have hbw := B7.out.size
              go_wp2
              go_quiet (fail)
              go_wp2
              go_ret
              first
                | exact ⟨rfl, (B8.out.alloc hbz _).trans (belowN _ _ _)⟩
                | exact ⟨rfl, (((B8.out.setCell (p := ⟨w7.heap.size, _, none⟩) hbw _).setCell (p := ⟨w7.heap.size, _, none⟩) hbw _).setCell (p := ⟨w7.heap.size, _, none⟩) hbw _).trans (belowN _ _ _)⟩)
    · have hex : kk < (rowB (parts f (j + 1))).length := by rw [show j + 1 = len from by omega]; exact HLast.out
      have tj : decide ((j : Int) + 1 < (len : Int)) = false := by rw [decide_eq_false_iff_not]; omega
      have tj' : decide (j + 1 < len) = false := by rw [decide_eq_false_iff_not]; omega
      go_wp2_with fail
      refine (HScan.out _ B5.out).mono ?_
      rintro e w6 ⟨m, rfl, hm, hb6⟩
      have HW6 := Kp.mk (HW5.out.below hb6)
      have HR6 := Kp.mk (HBR.out.below hb6)
      have B6 := Kp.mk (B5.out.trans (hb6.mono B5.out.size))
      clear hb6
      obtain ⟨⟨hb1, hb2⟩, hb3⟩ := HBt.out j hjl hat hex
      have hlm : j ≤ ml.length := by
        have := congrArg List.length hb1
        rw [List.length_take, framesAt_length, parts_length] at this
        omega
      have HB1 := Kp.mk hb1
      have HB3 := Kp.mk hb3
      obtain ⟨x0, x1, x2⟩ := HCl.out j hjl
      have c1 := HW6.out.cell _ _ x1
      have c2 := HW6.out.cell _ _ x2
      have HC1 := Kp.mk c1
      have HC2 := Kp.mk c2
      have HHw := Kp.mk (show RK 3 w6 (.slice (some ⟨gw, 0, none⟩) j cw) j ((framesAt 0 (parts f j)).flatMap FrV.cells) from by
        have := HW6.out.head j (Nat.le_of_lt hjl)
        rw [cells_take, HTk.out j (Nat.le_of_lt hjl)] at this
        exact this)
      have HKj : Kp (∀ x ∈ framesAt 0 (parts f j), x.k < 256) := ⟨fun x hx => HFK.out x (by rw [← HTk.out j (Nat.le_of_lt hjl)] at hx; exact List.mem_of_mem_take hx)⟩
      have HAll : Kp (∀ mv, RK 3 w6 mv j ((framesAt 0 (parts f j)).flatMap FrV.cells) → Calls Tryd.prog 16 #[mv, .slice (some ⟨gw, 0, none⟩) j cw] w6.drew fun e w' => e = .returned (.bool true) ∧ Below w6.drew.heap.size w6.drew w') := ⟨fun mv hmv => by
        have := all_any mv (.slice (some ⟨gw, 0, none⟩) j cw) (framesAt 0 (parts f j)) (framesAt 0 (parts f j)) w6.drew (by rw [framesAt_length, parts_length]; exact hmv.drew) (by rw [framesAt_length, parts_length]; exact HHw.out.drew) (by rw [framesAt_length, parts_length]; omega) HKj.out HKj.out
        rw [(allF_iff _ _).2 rfl] at this
        exact this⟩
      have HHm : Kp (∀ gm cm, m = .slice (some ⟨gm, 0, none⟩) ml.length cm → RK 3 w6 (.slice (some ⟨gm, 0, none⟩) j cm) j ((framesAt 0 (parts f j)).flatMap FrV.cells)) := ⟨fun gm cm he => by
        rw [he] at hm
        have := hm.head j hlm
        rw [cells_take, HB1.out] at this
        exact this⟩
      have HK7 : Kp (∀ W, Below w6.drew.heap.size w6.drew W → W.cell? ⟨gw, j * 3 + 2, none⟩ = some (.int .i64 ((rowB (parts f j)).length : Nat))) := ⟨fun W hW => (hW.cell (p := ⟨gw, j * 3 + 2, none⟩) (World.block_lt_of_cell? _ _ HC2.out)).trans HC2.out⟩
      have hms := hm.2
      have hj3 : (j : Int) ≤ (len : Int) := by omega
      have hj4 : (j : Int) < (len : Int) := by omega
      have hj5 : ¬ (ml.length : Int) < (j : Int) := by omega
      have tg : decide ((gd : Int) < ((rowB (parts f j)).length : Int)) = false := by rw [decide_eq_false_iff_not]; omega
      have tm : decide ((ml.length : Int) < (j : Int)) = false := by rw [decide_eq_false_iff_not]; omega
      have tm' : decide (ml.length < j) = false := by rw [decide_eq_false_iff_not]; omega
      have tg' : decide (gd < (rowB (parts f j)).length) = false := by rw [decide_eq_false_iff_not]; omega
      have hjw : (j : Int) ≤ (cw : Int) := by omega
      clear hm hb1 hb3 x0 x1 x2
      rcases hms with ⟨rfl, hj0⟩ | ⟨gm, cm, rfl, hcm, _⟩
      · obtain rfl : j = 0 := by omega
        rw [show ((0 : Nat) : Int) = 0 from rfl]
        have hcast : ((0 : Nat) : Int) = 0 := rfl
        simp only [Nat.zero_mul, Nat.zero_add] at c1 c2 HC1 HC2 HK7
        have HA1 := Kp.mk (HAll.out _ (RK.nil _ _))
        clear HAll HHm
        go_wp2
        go_region_held3 (fun w' => w'.cell? ⟨gw, 2, none⟩ = some (.int .i64 ((rowB (parts f 0)).length : Nat))) (go_keep)
          (first
            | (go_at_call 16; refine HA1.out.mono ?_; rintro e w7 ⟨rfl, b7⟩; have k7 := HK7.out _ b7))
        have HW7 := Kp.mk (HW6.out.drew.below b7)
        have hcv7 := ((HR6.out.drew.below b7).drew).string 9 Tryd.underlying9
        rw [B_text, HTeq.out] at hcv7
        have B7 := Kp.mk (B6.out.drew.trans (b7.mono B6.out.size))
        have HD1 := Kp.mk (show w7.drew.cell? ⟨gw, 1, none⟩ = some (.string (f 0).s) from (b7.cell (p := ⟨gw, 1, none⟩) (World.block_lt_of_cell? _ _ HC1.out)).trans HC1.out)
        have HD2 := Kp.mk (show w7.drew.cell? ⟨gw, 2, none⟩ = some (.int .i64 ((rowB (parts f 0)).length : Nat)) from k7)
        have hRT : (rowB (parts f 0)).length ≤ T.size := by have := HMo.out 0 len (Nat.zero_le _); have := HSZ.out; have := HTs.out; omega
        have HKeep : Kp (∀ W, Below w7.drew.heap.size w7.drew W → (convert 39 9 (.slice (some ⟨w3.heap.size, 0, none⟩) S.size cp)).run Tryd.prog W = .ok (.string T) W ∧ W.cell? ⟨gw, 2, none⟩ = some (.int .i64 ((rowB (parts f 0)).length : Nat))) := ⟨fun W hW => by
          have h1 := (((HR6.out.drew.below b7).drew).below hW).string 9 Tryd.underlying9
          rw [B_text, HTeq.out] at h1
          exact ⟨h1, (hW.cell (p := ⟨gw, 2, none⟩) (World.block_lt_of_cell? _ _ HD2.out)).trans HD2.out⟩⟩
        have HRd := Kp.mk (fun W (hW : Below w.heap.size w W) => Read_any T (rowB (parts f 0)).length W (by have := HTs.out; omega) (by omega) (by omega) (HT.out.below hW))
        have hq6 := HSm.out 0 hjl
        have hgn : ¬ gw = w7.heap.size := by have := World.block_lt_of_cell? _ _ HD1.out; have h : gw < w7.drew.heap.size := this; have : w7.drew.heap.size = w7.heap.size := rfl; omega
        have hgn' : ¬ w7.heap.size = gw := fun e => hgn e.symm
        have hb1 : Below w7.drew.heap.size w7.drew (w7.alloc (.cells #[.int .u8 0, .string ⟨#[]⟩, .int .i64 0] 26)).drew := ((Below.refl _ w7.drew).alloc (Nat.le_refl _) _)
        have hrefl : Below w7.drew.heap.size w7.drew w7.drew := Below.refl _ _
        have BA := Kp.mk (show Below w.heap.size w (w7.alloc (.cells #[.int .u8 0, .string ⟨#[]⟩, .int .i64 0] 26)).drew from (B7.out.alloc B7.out.size _).drew)
        have hge : w7.drew.heap.size ≤ w7.heap.size := Nat.le_refl _
        clear c1 c2 HA1 hcv7 hcv
        by_cases her : (Fr.readL (T.data.toList.drop (rowB (parts f 0)).length)).1 = 0
        · rw [readE_at_ok hRT her] at HRd
          obtain ⟨hb4, hb5⟩ := HB3.out (by rw [← HTl.out]; exact her)
          rw [← HTl.out] at hb4
          have hxp : (frAt T.data.toList (rowB (parts f 0)).length).p.length ≠ (f 0).s.size := hb4
          have t4 : decide ((kk : Int) - ((rowB (parts f 0)).length : Int) < 4) = true := by rw [decide_eq_true_eq]; omega
          generalize frAt T.data.toList (rowB (parts f 0)).length = x at HRd hxp
          obtain ⟨fk, fp, fa⟩ := x
          generalize (⟨fk, fp, fa⟩ : FrV).next = N at HRd
          unfold FrV.v at HRd
          simp only [] at HRd hxp
          have hsf : (B fp).size = fp.length := B_size _
          have tn : (((B fp).size : Int) != ((f 0).s.size : Int)) = true := by simp; omega
          generalize B fp = fb at HRd hsf tn
          clear her hb4 hb5 hxp hsf
          go_wp2
          go_region_held3 (fun w' => (convert 39 9 (.slice (some ⟨w3.heap.size, 0, none⟩) S.size cp)).run Tryd.prog w' = .ok (.string T) w' ∧ w'.cell? ⟨gw, 2, none⟩ = some (.int .i64 ((rowB (parts f 0)).length : Nat)))
            (first
              | exact HKeep.out _ hrefl
              | exact HKeep.out _ hb1
              | exact HKeep.out _ b8
              | exact HKeep.out _ (b8.alloc b8.size _)
              | exact HKeep.out _ (((b8.setCell (p := ⟨w7.heap.size, _, none⟩) hge _).setCell (p := ⟨w7.heap.size, _, none⟩) hge _).setCell (p := ⟨w7.heap.size, _, none⟩) hge _))
            (first
              | (go_at_call 13; refine (HRd.out _ B7.out.drew).mono ?_; rintro e w8 ⟨rfl, b8⟩; have B8 := Kp.mk (B7.out.drew.trans (b8.mono B7.out.drew.size)))
              | (go_at_call 13; refine (HRd.out _ BA.out).mono ?_; rintro e w8 ⟨rfl, b8'⟩; have B8 := Kp.mk (BA.out.trans (b8'.mono BA.out.size)); have b8 : Below w7.drew.heap.size w7.drew w8 := hb1.trans (b8'.mono hb1.size); obtain ⟨⟨z0, z1, z2⟩, z3⟩ := cells3 ((b8'.block w7.heap.size (by simp [World.drew])).trans (heap_alloc_new w7 (.cells #[.int .u8 0, .string ⟨#[]⟩, .int .i64 0] 26))); clear b8'))
          all_goals (
            have k81 : w8.cell? ⟨gw, 1, none⟩ = some (.string (f 0).s) := (b8.cell (p := ⟨gw, 1, none⟩) (World.block_lt_of_cell? _ _ HD1.out)).trans HD1.out
            have k82 : w8.cell? ⟨gw, 2, none⟩ = some (.int .i64 ((rowB (parts f 0)).length : Nat)) := (b8.cell (p := ⟨gw, 2, none⟩) (World.block_lt_of_cell? _ _ HD2.out)).trans HD2.out
            have e1 : ∀ o, (w8.alloc o).cell? ⟨gw, 1, none⟩ = some (.string (f 0).s) := fun o => ((b8.alloc b8.size o).cell (p := ⟨gw, 1, none⟩) (World.block_lt_of_cell? _ _ HD1.out)).trans HD1.out
            have e2 : ∀ o, (w8.alloc o).cell? ⟨gw, 2, none⟩ = some (.int .i64 ((rowB (parts f 0)).length : Nat)) := fun o => ((b8.alloc b8.size o).cell (p := ⟨gw, 2, none⟩) (World.block_lt_of_cell? _ _ HD2.out)).trans HD2.out
            have hbz := B8.out.size
            have hbw := B7.out.size
            go_wp2
            go_quiet (fail)
            go_wp2
            go_ret
            first
              | exact ⟨rfl, (B8.out.alloc hbz _).trans (belowN _ _ _)⟩
              | exact ⟨rfl, (((B8.out.setCell (p := ⟨w7.heap.size, _, none⟩) hbw _).setCell (p := ⟨w7.heap.size, _, none⟩) hbw _).setCell (p := ⟨w7.heap.size, _, none⟩) hbw _).trans (belowN _ _ _)⟩)
        · have hbad := readV_bad (s := T) (a := ((rowB (parts f 0)).length : Nat)) (by rw [readV_at hRT]; exact her)
          rw [readV_at hRT] at hbad
          rw [Fr.readE_bad her (by rw [readV_at hRT]; exact hbad)] at HRd
          generalize (Fr.readL (T.data.toList.drop (rowB (parts f 0)).length)).1 = er at HRd her
          unfold Fr.badE at HRd
          have tn : ((er : Int) != 0) = true := by simp; omega
          clear hbad
          go_wp2
          go_region_held3 (fun w' => (convert 39 9 (.slice (some ⟨w3.heap.size, 0, none⟩) S.size cp)).run Tryd.prog w' = .ok (.string T) w' ∧ w'.cell? ⟨gw, 2, none⟩ = some (.int .i64 ((rowB (parts f 0)).length : Nat)))
            (first
              | exact HKeep.out _ hrefl
              | exact HKeep.out _ hb1
              | exact HKeep.out _ b8
              | exact HKeep.out _ (b8.alloc b8.size _)
              | exact HKeep.out _ (((b8.setCell (p := ⟨w7.heap.size, _, none⟩) hge _).setCell (p := ⟨w7.heap.size, _, none⟩) hge _).setCell (p := ⟨w7.heap.size, _, none⟩) hge _))
            (first
              | (go_at_call 13; refine (HRd.out _ B7.out.drew).mono ?_; rintro e w8 ⟨rfl, b8⟩; have B8 := Kp.mk (B7.out.drew.trans (b8.mono B7.out.drew.size)))
              | (go_at_call 13; refine (HRd.out _ BA.out).mono ?_; rintro e w8 ⟨rfl, b8'⟩; have B8 := Kp.mk (BA.out.trans (b8'.mono BA.out.size)); have b8 : Below w7.drew.heap.size w7.drew w8 := hb1.trans (b8'.mono hb1.size); obtain ⟨⟨z0, z1, z2⟩, z3⟩ := cells3 ((b8'.block w7.heap.size (by simp [World.drew])).trans (heap_alloc_new w7 (.cells #[.int .u8 0, .string ⟨#[]⟩, .int .i64 0] 26))); clear b8'))
          all_goals (
            have hbz := B8.out.size
            have hbw := B7.out.size
            go_wp2
            go_quiet (fail)
            go_wp2
            go_ret
            first
              | exact ⟨rfl, (B8.out.alloc hbz _).trans (belowN _ _ _)⟩
              | exact ⟨rfl, (((B8.out.setCell (p := ⟨w7.heap.size, _, none⟩) hbw _).setCell (p := ⟨w7.heap.size, _, none⟩) hbw _).setCell (p := ⟨w7.heap.size, _, none⟩) hbw _).trans (belowN _ _ _)⟩)
      · have HA1 := Kp.mk (HAll.out _ (HHm.out gm cm rfl))
        have hjm : (j : Int) ≤ (cm : Int) := by omega
        clear HAll HHm
        go_wp2
        go_region_held3 (fun w' => w'.cell? ⟨gw, j * 3 + 2, none⟩ = some (.int .i64 ((rowB (parts f j)).length : Nat))) (go_keep)
          (first
            | (go_at_call 16; refine HA1.out.mono ?_; rintro e w7 ⟨rfl, b7⟩; have k7 := HK7.out _ b7))
        have HW7 := Kp.mk (HW6.out.drew.below b7)
        have hcv7 := ((HR6.out.drew.below b7).drew).string 9 Tryd.underlying9
        rw [B_text, HTeq.out] at hcv7
        have B7 := Kp.mk (B6.out.drew.trans (b7.mono B6.out.size))
        have HD1 := Kp.mk (show w7.drew.cell? ⟨gw, j * 3 + 1, none⟩ = some (.string (f j).s) from (b7.cell (p := ⟨gw, j * 3 + 1, none⟩) (World.block_lt_of_cell? _ _ HC1.out)).trans HC1.out)
        have HD2 := Kp.mk (show w7.drew.cell? ⟨gw, j * 3 + 2, none⟩ = some (.int .i64 ((rowB (parts f j)).length : Nat)) from k7)
        have hRT : (rowB (parts f j)).length ≤ T.size := by have := HMo.out j len (Nat.le_of_lt hjl); have := HSZ.out; have := HTs.out; omega
        have HKeep : Kp (∀ W, Below w7.drew.heap.size w7.drew W → (convert 39 9 (.slice (some ⟨w3.heap.size, 0, none⟩) S.size cp)).run Tryd.prog W = .ok (.string T) W ∧ W.cell? ⟨gw, j * 3 + 2, none⟩ = some (.int .i64 ((rowB (parts f j)).length : Nat))) := ⟨fun W hW => by
          have h1 := (((HR6.out.drew.below b7).drew).below hW).string 9 Tryd.underlying9
          rw [B_text, HTeq.out] at h1
          exact ⟨h1, (hW.cell (p := ⟨gw, j * 3 + 2, none⟩) (World.block_lt_of_cell? _ _ HD2.out)).trans HD2.out⟩⟩
        have HRd := Kp.mk (fun W (hW : Below w.heap.size w W) => Read_any T (rowB (parts f j)).length W (by have := HTs.out; omega) (by omega) (by omega) (HT.out.below hW))
        have hq6 := HSm.out j hjl
        have hgn : ¬ gw = w7.heap.size := by have := World.block_lt_of_cell? _ _ HD1.out; have h : gw < w7.drew.heap.size := this; have : w7.drew.heap.size = w7.heap.size := rfl; omega
        have hgn' : ¬ w7.heap.size = gw := fun e => hgn e.symm
        have hb1 : Below w7.drew.heap.size w7.drew (w7.alloc (.cells #[.int .u8 0, .string ⟨#[]⟩, .int .i64 0] 26)).drew := ((Below.refl _ w7.drew).alloc (Nat.le_refl _) _)
        have hrefl : Below w7.drew.heap.size w7.drew w7.drew := Below.refl _ _
        have BA := Kp.mk (show Below w.heap.size w (w7.alloc (.cells #[.int .u8 0, .string ⟨#[]⟩, .int .i64 0] 26)).drew from (B7.out.alloc B7.out.size _).drew)
        have hge : w7.drew.heap.size ≤ w7.heap.size := Nat.le_refl _
        clear c1 c2 HA1 hcv7 hcv
        by_cases her : (Fr.readL (T.data.toList.drop (rowB (parts f j)).length)).1 = 0
        · rw [readE_at_ok hRT her] at HRd
          obtain ⟨hb4, hb5⟩ := HB3.out (by rw [← HTl.out]; exact her)
          rw [← HTl.out] at hb4
          have hxp : (frAt T.data.toList (rowB (parts f j)).length).p.length ≠ (f j).s.size := hb4
          have t4 : decide ((kk : Int) - ((rowB (parts f j)).length : Int) < 4) = true := by rw [decide_eq_true_eq]; omega
          generalize frAt T.data.toList (rowB (parts f j)).length = x at HRd hxp
          obtain ⟨fk, fp, fa⟩ := x
          generalize (⟨fk, fp, fa⟩ : FrV).next = N at HRd
          unfold FrV.v at HRd
          simp only [] at HRd hxp
          have hsf : (B fp).size = fp.length := B_size _
          have tn : (((B fp).size : Int) != ((f j).s.size : Int)) = true := by simp; omega
          generalize B fp = fb at HRd hsf tn
          clear her hb4 hb5 hxp hsf
          go_wp2
          go_region_held3 (fun w' => (convert 39 9 (.slice (some ⟨w3.heap.size, 0, none⟩) S.size cp)).run Tryd.prog w' = .ok (.string T) w' ∧ w'.cell? ⟨gw, j * 3 + 2, none⟩ = some (.int .i64 ((rowB (parts f j)).length : Nat)))
            (first
              | exact HKeep.out _ hrefl
              | exact HKeep.out _ hb1
              | exact HKeep.out _ b8
              | exact HKeep.out _ (b8.alloc b8.size _)
              | exact HKeep.out _ (((b8.setCell (p := ⟨w7.heap.size, _, none⟩) hge _).setCell (p := ⟨w7.heap.size, _, none⟩) hge _).setCell (p := ⟨w7.heap.size, _, none⟩) hge _))
            (first
              | (go_at_call 13; refine (HRd.out _ B7.out.drew).mono ?_; rintro e w8 ⟨rfl, b8⟩; have B8 := Kp.mk (B7.out.drew.trans (b8.mono B7.out.drew.size)))
              | (go_at_call 13; refine (HRd.out _ BA.out).mono ?_; rintro e w8 ⟨rfl, b8'⟩; have B8 := Kp.mk (BA.out.trans (b8'.mono BA.out.size)); have b8 : Below w7.drew.heap.size w7.drew w8 := hb1.trans (b8'.mono hb1.size); obtain ⟨⟨z0, z1, z2⟩, z3⟩ := cells3 ((b8'.block w7.heap.size (by simp [World.drew])).trans (heap_alloc_new w7 (.cells #[.int .u8 0, .string ⟨#[]⟩, .int .i64 0] 26))); clear b8'))
          all_goals (
            have k81 : w8.cell? ⟨gw, j * 3 + 1, none⟩ = some (.string (f j).s) := (b8.cell (p := ⟨gw, j * 3 + 1, none⟩) (World.block_lt_of_cell? _ _ HD1.out)).trans HD1.out
            have k82 : w8.cell? ⟨gw, j * 3 + 2, none⟩ = some (.int .i64 ((rowB (parts f j)).length : Nat)) := (b8.cell (p := ⟨gw, j * 3 + 2, none⟩) (World.block_lt_of_cell? _ _ HD2.out)).trans HD2.out
            have e1 : ∀ o, (w8.alloc o).cell? ⟨gw, j * 3 + 1, none⟩ = some (.string (f j).s) := fun o => ((b8.alloc b8.size o).cell (p := ⟨gw, j * 3 + 1, none⟩) (World.block_lt_of_cell? _ _ HD1.out)).trans HD1.out
            have e2 : ∀ o, (w8.alloc o).cell? ⟨gw, j * 3 + 2, none⟩ = some (.int .i64 ((rowB (parts f j)).length : Nat)) := fun o => ((b8.alloc b8.size o).cell (p := ⟨gw, j * 3 + 2, none⟩) (World.block_lt_of_cell? _ _ HD2.out)).trans HD2.out
            have hbz := B8.out.size
            have hbw := B7.out.size
            go_wp2
            go_quiet (fail)
            go_wp2
            go_ret
            first
              | exact ⟨rfl, (B8.out.alloc hbz _).trans (belowN _ _ _)⟩
              | exact ⟨rfl, (((B8.out.setCell (p := ⟨w7.heap.size, _, none⟩) hbw _).setCell (p := ⟨w7.heap.size, _, none⟩) hbw _).setCell (p := ⟨w7.heap.size, _, none⟩) hbw _).trans (belowN _ _ _)⟩)
        · have hbad := readV_bad (s := T) (a := ((rowB (parts f j)).length : Nat)) (by rw [readV_at hRT]; exact her)
          rw [readV_at hRT] at hbad
          rw [Fr.readE_bad her (by rw [readV_at hRT]; exact hbad)] at HRd
          generalize (Fr.readL (T.data.toList.drop (rowB (parts f j)).length)).1 = er at HRd her
          unfold Fr.badE at HRd
          have tn : ((er : Int) != 0) = true := by simp; omega
          clear hbad
          go_wp2
          go_region_held3 (fun w' => (convert 39 9 (.slice (some ⟨w3.heap.size, 0, none⟩) S.size cp)).run Tryd.prog w' = .ok (.string T) w' ∧ w'.cell? ⟨gw, j * 3 + 2, none⟩ = some (.int .i64 ((rowB (parts f j)).length : Nat)))
            (first
              | exact HKeep.out _ hrefl
              | exact HKeep.out _ hb1
              | exact HKeep.out _ b8
              | exact HKeep.out _ (b8.alloc b8.size _)
              | exact HKeep.out _ (((b8.setCell (p := ⟨w7.heap.size, _, none⟩) hge _).setCell (p := ⟨w7.heap.size, _, none⟩) hge _).setCell (p := ⟨w7.heap.size, _, none⟩) hge _))
            (first
              | (go_at_call 13; refine (HRd.out _ B7.out.drew).mono ?_; rintro e w8 ⟨rfl, b8⟩; have B8 := Kp.mk (B7.out.drew.trans (b8.mono B7.out.drew.size)))
              | (go_at_call 13; refine (HRd.out _ BA.out).mono ?_; rintro e w8 ⟨rfl, b8'⟩; have B8 := Kp.mk (BA.out.trans (b8'.mono BA.out.size)); have b8 : Below w7.drew.heap.size w7.drew w8 := hb1.trans (b8'.mono hb1.size); obtain ⟨⟨z0, z1, z2⟩, z3⟩ := cells3 ((b8'.block w7.heap.size (by simp [World.drew])).trans (heap_alloc_new w7 (.cells #[.int .u8 0, .string ⟨#[]⟩, .int .i64 0] 26))); clear b8'))
          all_goals (
            have hbz := B8.out.size
            have hbw := B7.out.size
            go_wp2
            go_quiet (fail)
            go_wp2
            go_ret
            first
              | exact ⟨rfl, (B8.out.alloc hbz _).trans (belowN _ _ _)⟩
              | exact ⟨rfl, (((B8.out.setCell (p := ⟨w7.heap.size, _, none⟩) hbw _).setCell (p := ⟨w7.heap.size, _, none⟩) hbw _).setCell (p := ⟨w7.heap.size, _, none⟩) hbw _).trans (belowN _ _ _)⟩)
theorem bent_long (w : World) (ao : Option Addr) (len cap : Nat) (f : Nat → PtV) (cut : Int) (b : UInt8) (hlm : len ≤ maxLen) (hf : Pts w ao len f) (hc : 6000 ≤ cost f len ∨ len = 0 ∨ b.toNat = 0) (ht : Tab w) :
    Calls Tryd.prog 4 #[.slice ao len cap, .int .i64 cut, .int .u8 b.toNat] w fun e w' => e = .returned (.bool true) ∧ Below w.heap.size w w' := by
  have HA := Kp.mk (awake_any w ht)
  have HL := Kp.mk (long_any w ao len cap f hlm hf)
  by_cases h6 : 6000 ≤ cost f len
  · rw [show decide (6000 ≤ cost f len) = true from by rw [decide_eq_true_eq]; omega] at HL
    go_enter Tryd.func4, Tryd.ntmps4
    go_wp2_with fail
    refine HL.out.mono ?_
    rintro e w' ⟨rfl, rfl⟩
    go_wp2_with fail
    refine HA.out.mono ?_
    rintro e w1 ⟨rfl, b1⟩
    have B1 := Kp.mk b1
    clear b1
    go_wp2
    go_ret
    exact ⟨rfl, B1.out⟩
  · rw [show decide (6000 ≤ cost f len) = false from by rw [decide_eq_false_iff_not]; omega] at HL
    by_cases h7 : len = 0
    · have t7 : ((len : Int) == 0) = true := by simp [h7]
      clear hf hlm hc h6 h7
      go_enter Tryd.func4, Tryd.ntmps4
      go_wp2_with fail
      refine HL.out.mono ?_
      rintro e w' ⟨rfl, rfl⟩
      go_wp2_with fail
      refine HA.out.mono ?_
      rintro e w1 ⟨rfl, b1⟩
      have B1 := Kp.mk b1
      clear b1
      go_wp2
      go_ret
      exact ⟨rfl, B1.out⟩
    · have t7 : ((len : Int) == 0) = false := by simp; omega
      have t8 : ((b.toNat : Int) == 0) = true := by simp only [beq_iff_eq]; omega
      go_enter Tryd.func4, Tryd.ntmps4
      go_wp2_with fail
      refine HL.out.mono ?_
      rintro e w' ⟨rfl, rfl⟩
      go_wp2_with fail
      refine HA.out.mono ?_
      rintro e w1 ⟨rfl, b1⟩
      have B1 := Kp.mk b1
      clear b1
      go_wp2
      go_ret
      exact ⟨rfl, B1.out⟩
theorem walkFrameBent {H : Type} {enc : TypeId × Value → H} {X : Prop} {b0 : Nat} {d : DataW H} {ps : List MemPlace} (w : World) (v : Value) (hval : Value.okWide Tryd.prog w .any b0 22 v)
    (h : DataW.Trod enc Tryd.prog w 0 (fun _ => true) true 22 v d ps) (cut : Int) (hcut : (Lit.int .i64 cut).wf = true) (k : Int) (hk : (Lit.int .u8 k).wf = true) (_hweigh : X) (hL : Tab w) :
    Calls Tryd.prog 4 #[v, .int .i64 cut, .int .u8 k] w fun e w' => e = .returned (.bool true) ∧ Below w.heap.size w w' := by
  obtain ⟨a0, len0, cap0, hv⟩ := Go.WideShapes.okWide_slice Tryd.underlying22 hval
  have hc : v.cells.toList = [v] := by rw [hv]; rfl
  obtain ⟨ao, len, cap, f, rfl, hlm, hf⟩ := parts_open hc h
  obtain ⟨k, rfl, h1⟩ := u8_nat hk
  obtain ⟨b, rfl⟩ : ∃ b : UInt8, k = b.toNat := ⟨UInt8.ofNat k, (Fr.toNat_ofNat' h1).symm⟩
  by_cases h6 : cost f len < 6000 ∧ 0 < len ∧ b.toNat ≠ 0
  · exact bent_small w ao len cap f cut b hlm h6.2.1 h6.2.2 ⟨hf⟩ h6.1 hL
  · exact bent_long w ao len cap f cut b hlm ⟨hf⟩ (by omega) hL
end Go.Proofs.YtdclfffjiokenaaDoor
