/- Plain law: records that are few, added one behind the other; bytes behind them. -/
import Derived.Test.YtpfoekfbcpinlaaGreatDoorVaultLarge
namespace Go.Proofs.YtpfoekfbcpinlaaGreatDoor
open Go.RowKit
set_option linter.unusedVariables false

namespace Vp
/-- A vault of 200 bytes a tape, with n records of S bytes in all. -/
structure Torn (D : DiskV) (h : Hd.HV) (T : Int → List (List UInt8)) (n S : Nat) : Prop where
  inv : Inv D h T ⟨#[]⟩
  nc : D.counts = false
  cap : D.cap = 100000
  snap : h.snap = 0
  base : h.base = 0
  gen : h.gen ≤ h.log.length
  len : (recsOf h T).length = n
  tapes : h.log.length ≤ n + 1
  pairs : 200 * (h.log.length - 1) + (recR (T (lastT h))).length ≤ 2 * S
  used : used D.tp 32 ≤ 14 + S + 400 * (h.log.length - 1)
theorem torn_new : Torn (openD (newD 100000)) firstH (fun _ => []) 0 0 := by
  obtain ⟨o1, o2, o3, o4, o5, o6, o7, o8, o9⟩ := open_new (c := 100000) (by decide) (by decide)
  exact ⟨o5, o7, o8, rfl, rfl, by decide, rfl, by decide, by decide, by rw [o9]; decide⟩
theorem torn_free {D : DiskV} {h : Hd.HV} {T : Int → List (List UInt8)} {n S : Nat} (t : Torn D h T n S) (hl : h.log.length ≤ 29) : h.free ≠ [] := by
  intro e
  have := Hd.parted h t.inv.base.may
  rw [e] at this
  unfold Hd.HV.tapes at this
  rw [if_pos t.snap] at this
  simp at this
  omega
theorem torn_few {D : DiskV} {h : Hd.HV} {T : Int → List (List UInt8)} {n S : Nat} (t : Torn D h T n S) (hs : S + 21 * n < 3100) : h.log.length ≤ 26 := by
  have := t.pairs
  have := t.tapes
  omega
theorem torn_step {D : DiskV} {h : Hd.HV} {T : Int → List (List UInt8)} {n S c : Nat} {b : ByteArray} (t : Torn D h T n S) (hs : S + 21 * n < 3100) (hb : b.size ≤ 3000) (hf : FirmAt D h T c) :
    ∃ D' h' T', addV D h 200 n b = (0, D', h', n + 1) ∧ Torn D' h' T' (n + 1) (S + (b.size + 9)) ∧ recsOf h' T' = recsOf h T ++ [b.data.toList] ∧ FirmAt D' h' T' c := by
  have hfew := torn_few t hs
  have hfr := torn_free t (by omega)
  have hu := t.used
  have hsz : sizeF D (freeT h).toNat ≥ 0 ∧ sizeF D (Hd.otherV D) ≥ 0 := by unfold sizeF; omega
  have hne := log_ne t.inv.base.may
  have hlp : 0 < h.log.length := List.length_pos_iff.2 hne
  have hgen := t.gen
  have hsize := hsize_le (nextH h (freeT h))
  obtain ⟨D', h', T', e1, e2, e3⟩ := add_done (b := b) (m := 200) (n := n) t.inv hf (by decide) t.nc (by
    unfold AddRef TurnRef turnRoom
    rw [t.base, t.cap]
    rintro (e | e | ⟨_, e | e | e⟩ | ⟨_, e⟩)
    · omega
    · omega
    · omega
    · exact hfr e
    · omega
    · omega)
  refine ⟨D', h', T', e1, ?_, e2.recs, e2.firm⟩
  have hbl : b.data.toList.length = b.size := data_len b
  have hp := t.pairs
  have ht := t.tapes
  rcases e2.how with ⟨rfl, rfl, x3, x4, _⟩ | ⟨rfl, rfl, x3, x4, x5, x6⟩
  · refine ⟨e2.inv, e3, e2.cap.trans t.cap, t.snap, t.base, t.gen, by rw [e2.recs, List.length_append, t.len]; rfl, by omega, ?_, by omega⟩
    rw [updT_same, recR_append, List.length_append, recR_one, Fr.fr_length]
    omega
  · have hll : (nextH h (freeT h)).log.length = h.log.length + 1 := by show (h.log ++ [freeT h]).length = _; rw [List.length_append]; rfl
    have hs2 := hsize_le (nextH h (freeT h))
    refine ⟨e2.inv, e3, e2.cap.trans t.cap, t.snap, t.base, ?_, by rw [e2.recs, List.length_append, t.len]; rfl, by rw [hll]; omega, ?_, ?_⟩
    · rw [hll]; show h.gen + 1 ≤ ((h.log.length + 1 : Nat) : Int); omega
    · rw [next_last, updT_same, recR_one, Fr.fr_length, hll]
      omega
    · rw [hll]; omega
/-- Bytes behind the last record, firm. -/
theorem torn_tail {D : DiskV} {h : Hd.HV} {T : Int → List (List UInt8)} {n S : Nat} {tail : ByteArray} (t : Torn D h T n S) (af : AllFirm D) (hs : S + 21 * n < 3100) (hz : tail.size ≤ 3000) (ht : (Fr.readL tail.data.toList).1 ≠ 0) :
    ∃ D1 D2, writeV D (lastT h) tail = (0, D1) ∧ syncV D1 (lastT h) = (0, D2) ∧ openE D2 = 0 ∧ oS D2 = (0, false, ⟨#[]⟩) ∧ (oR D2).1 = recsOf h T ∧ tapesL (openD D2) 32 = tapesL D 32 ∧ Torn (openD D2) h T n S ∧ AllFirm (openD D2) := by
  have i := t.inv
  have hm := i.base.may
  obtain ⟨la, hla, hla', hl2, hl32, hlu⟩ := last_nat hm
  have hfew := torn_few t hs
  have hu := t.used
  have hlast := i.lie.last
  rw [List.append_nil, hla'] at hlast
  have hts : (D.tp la).b.size ≤ 6200 := by
    have hp := t.pairs
    rw [← tx_len, hlast]; omega
  have wo := write_up (D := D) (t := la) (s := tail) i.base.up hl32 (by omega) (by rw [t.cap]; omega)
  rw [← hla] at wo
  have w0 := wo.nc t.nc
  have ok1 : Ok (writeV D (lastT h) tail).2 := i.base.ok.write _ _
  generalize hP1 : writeV D (lastT h) tail = P1 at wo w0 ok1
  obtain ⟨z1, D1⟩ := P1
  obtain ⟨a1, a2⟩ := w0
  simp only [] at a1 a2 ok1
  subst a1
  have up1 : D1.down = false := by rw [a2]; exact i.base.up
  have nc1 : D1.counts = false := by rw [a2]; exact t.nc
  have tp1 : D1.tp = upd D.tp la ⟨(D.tp la).b ++ tail, (D.tp la).firm⟩ := by rw [a2]; rfl
  have so := sync_up (D := D1) (t := la) up1 hl32
  rw [← hla] at so
  have s0 := so.nc nc1
  have ok2 : Ok (syncV D1 (lastT h)).2 := ok1.sync _
  generalize hP2 : syncV D1 (lastT h) = P2 at so s0 ok2
  obtain ⟨z2, D2⟩ := P2
  obtain ⟨c1, c2⟩ := s0
  simp only [] at c1 c2 ok2
  subst c1
  have up2 : D2.down = false := by rw [c2]; exact up1
  have nc2 : D2.counts = false := by rw [c2]; exact nc1
  have cap2 : D2.cap = 100000 := by rw [c2]; show D1.cap = _; rw [a2]; exact t.cap
  have tp2 : D2.tp = upd D.tp la ⟨(D.tp la).b ++ tail, ((D.tp la).b ++ tail).size⟩ := by
    rw [c2, setT_tp, tp1, upd_same, upd_twice]; rfl
  have hoth : ∀ k, k ≠ la → D2.tp k = D.tp k := fun k hk => by rw [tp2, upd_other _ _ hk]
  have hv : (Hd.diskV D2).1 = h ∧ (Hd.diskV D2).2.2 = true := by
    have : Hd.diskV D2 = Hd.diskV D := diskV_tp fun k hk => hoth k (by omega)
    rw [this]; exact i.base.head
  have hne : ∀ t ∈ h.log, t ≠ lastT h → t.toNat ≠ la := fun t ht hne e => hne (by have := log_in hm ht; omega)
  have hl : Lying D2.tp h T ⟨#[]⟩ tail.data.toList := ⟨fun h0 => absurd t.snap h0, fun _ => rfl, fun u hu hn => by rw [hoth _ (hne u hu hn)]; exact i.lie.logs u hu hn, by
    rw [hla', tp2, upd_same, ← hlast]
    show ((D.tp la).b ++ tail).data.toList = _
    rw [ByteArray.data_append, Array.toList_append], i.lie.small, ht⟩
  obtain ⟨e1, e2, e3, e4, e5, e6, e7, e8, e9⟩ := open_nc ok2 up2 nc2 hv hm hl
  have htx : ∀ k, k < 32 → tx ((openD D2).tp k) = tx (D.tp k) := fun k hk => by
    by_cases e : (k : Int) = lastT h
    · have := e5.lie.last
      rw [List.append_nil, ← e, Int.toNat_natCast] at this
      rw [this, show k = la from by omega, hlast, show ((la : Nat) : Int) = lastT h from hla.symm]
    · rw [e9 k hk e, hoth k (by omega)]
      split
      · rename_i hx
        rw [i.blank hx.1 hk hx.2]; rfl
      · rfl
  refine ⟨D1, D2, rfl, hP2, e4, ?_, e3, ?_, ⟨e5, e7, e8.trans cap2, t.snap, t.base, t.gen, t.len, t.tapes, t.pairs, ?_⟩, e6⟩
  · rw [e2, t.snap]; rfl
  · unfold tapesL
    apply List.map_congr_left
    intro k hk
    rw [List.mem_range] at hk
    have h1 := htx k hk
    have h2 : ((openD D2).tp k).b = (D.tp k).b := by rw [b_eq h1, B_of]
    have h3 : (openD D2).tp k = D.tp k := by
      have x1 := e6 k hk
      have x2 := af k hk
      generalize (openD D2).tp k = x at *
      generalize D.tp k = y at *
      obtain ⟨xb, xf⟩ := x
      obtain ⟨yb, yf⟩ := y
      simp only [] at h2 x1 x2
      subst h2
      rw [x1, x2]
    rw [h3]
  · rw [used_same 32 (tp := D.tp) (fun j hj => by rw [← tx_len, htx j hj, tx_len])]; exact hu
end Vp
end Go.Proofs.YtpfoekfbcpinlaaGreatDoor
