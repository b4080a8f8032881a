/- Plain law: records' frames, one behind the other: put together, cut anywhere, scanned. -/
import Derived.Test.YtpfoekfbcpinlaaGreatDoorVaultJoin
import Derived.Test.YtpfoekfbcpinlaaGreatDoorVaultLayJoin
namespace Go.Proofs.YtpfoekfbcpinlaaGreatDoor
open Go.RowKit
set_option linter.unusedVariables false

namespace Vp
def recP (l : List (List UInt8)) : List PartV := l.map fun r => ⟨1, r⟩
/-- The bytes of records. -/
def recR (l : List (List UInt8)) : List UInt8 := rowB (recP l)
def Small (l : List (List UInt8)) : Prop := ∀ r ∈ l, r.length ≤ 262144
theorem Small.nil : Small [] := fun _ h => by simp at h
theorem Small.app {l m : List (List UInt8)} (h : Small l) (h1 : Small m) : Small (l ++ m) := fun r hr => (List.mem_append.1 hr).elim (h r) (h1 r)
theorem Small.one {r : List UInt8} (h : r.length ≤ 262144) : Small [r] := fun x hx => by rw [List.mem_singleton] at hx; rw [hx]; exact h
theorem Small.take {l : List (List UInt8)} (h : Small l) (j : Nat) : Small (l.take j) := fun r hr => h r (List.mem_of_mem_take hr)
theorem recP_ok {l : List (List UInt8)} (h : Small l) : ∀ x ∈ recP l, x.ok := by
  intro x hx
  obtain ⟨r, hr, rfl⟩ := List.mem_map.1 hx
  exact ⟨Nat.le_refl _, (show (1 : Nat) ≤ 3 by decide), h r hr⟩
theorem recR_nil : recR [] = [] := rfl
theorem recR_cons (r : List UInt8) (l : List (List UInt8)) : recR (r :: l) = Fr.fr 1 r ++ recR l := by
  unfold recR recP
  rw [List.map_cons, rowB_cons]; rfl
theorem recR_append (l m : List (List UInt8)) : recR (l ++ m) = recR l ++ recR m := by
  induction l with
  | nil => rfl
  | cons r l ih => rw [List.cons_append, recR_cons, recR_cons, ih, List.append_assoc]
theorem recR_one (r : List UInt8) : recR [r] = Fr.fr 1 r := by rw [recR_cons, recR_nil, List.append_nil]
theorem recR_len0 {l : List (List UInt8)} (h : (recR l).length = 0) : l = [] := by
  cases l with
  | nil => rfl
  | cons r l => rw [recR_cons, List.length_append, Fr.fr_length] at h; omega
theorem frames_k (l : List (List UInt8)) : ∀ q, (framesAt q (recP l)).all (fun f => f.k == 1) = true := by
  induction l with
  | nil => intro q; rfl
  | cons r l ih => intro q; show ((1 == 1) && _) = true; exact ih _
theorem frames_p (l : List (List UInt8)) : ∀ q, (framesAt q (recP l)).map FrV.p = l := by
  induction l with
  | nil => intro q; rfl
  | cons r l ih => intro q; exact congrArg (r :: ·) (ih _)
theorem readL_nil : (Fr.readL []).1 ≠ 0 := by decide
theorem scan_rec {l : List (List UInt8)} (h : Small l) (tail : List UInt8) (ht : (Fr.readL tail).1 ≠ 0) : scanL (recR l ++ tail) 0 = (framesAt 0 (recP l), (recR l).length) := by
  have := scan_row (recP l) (recP_ok h) tail ht []
  simpa [recR] using this
theorem scan_whole {l : List (List UInt8)} (h : Small l) : scanL (recR l) 0 = (framesAt 0 (recP l), (recR l).length) := by
  have := scan_rec h [] readL_nil
  rwa [List.append_nil] at this
/-- Records' bytes cut anywhere. -/
theorem cut_rec : ∀ {l : List (List UInt8)}, Small l → ∀ k, k ≤ (recR l).length → ∃ j tail, j ≤ l.length ∧ (recR l).take k = recR (l.take j) ++ tail ∧ (Fr.readL tail).1 ≠ 0 ∧ ∀ i, i ≤ l.length → (recR (l.take i)).length ≤ k → i ≤ j
  | [], _, k, hk => ⟨0, [], Nat.le_refl _, by simp [recR_nil], readL_nil, fun i hi _ => hi⟩
  | r :: l, h, k, hk => by
    have hr : r.length ≤ 262144 := h r (List.mem_cons_self ..)
    have hl : Small l := fun x hx => h x (List.mem_cons_of_mem _ hx)
    rw [recR_cons] at hk ⊢
    have hf : (Fr.fr 1 r).length = r.length + 9 := Fr.fr_length _ _
    rw [List.length_append, hf] at hk
    rcases Nat.lt_or_ge k (r.length + 9) with h1 | h1
    · refine ⟨0, (Fr.fr 1 r ++ recR l).take k, Nat.zero_le _, by simp [recR_nil], Fr.readL_torn 1 r (recR l) hr h1, fun i hi hik => ?_⟩
      cases i with
      | zero => exact Nat.le_refl _
      | succ i => rw [List.take_succ_cons, recR_cons, List.length_append, hf] at hik; omega
    · obtain ⟨j, tail, hj, he, ht, hm⟩ := cut_rec hl (k - (r.length + 9)) (by omega)
      refine ⟨j + 1, tail, by simpa using hj, ?_, ht, fun i hi hik => ?_⟩
      · rw [List.take_append, List.take_of_length_le (by rw [hf]; exact h1), hf, he, List.take_succ_cons, recR_cons, List.append_assoc]
      · cases i with
        | zero => exact Nat.zero_le _
        | succ i =>
          rw [List.take_succ_cons, recR_cons, List.length_append, hf] at hik
          have := hm i (by simpa using hi) (by omega)
          omega
def partOf (f : FrV) : PartV := ⟨f.k, f.p⟩
/-- What was scanned of any bytes, put together, is the bytes up to there. -/
theorem scan_rows (l : List UInt8) (p : Nat) (hp : p ≤ l.length) : l.drop p = rowB ((scanL l p).1.map partOf) ++ l.drop (scanL l p).2 ∧ (∀ x ∈ (scanL l p).1, (partOf x).ok) ∧ (scanL l p).2 ≤ l.length ∧ p + (rowB ((scanL l p).1.map partOf)).length = (scanL l p).2 ∧ (Fr.readL (l.drop (scanL l p).2)).1 ≠ 0 := by
  induction p using scanL.induct (l := l) with
  | case1 p h ih =>
    have hn := frAt_next h
    obtain ⟨i1, i2, i3, i4, i5⟩ := ih hn.2
    obtain ⟨a, b, c, m, hm⟩ := Fr.readL_is h
    have hx : (frAt l p) = ⟨(Fr.readL (l.drop p)).2.1, (Fr.readL (l.drop p)).2.2, p⟩ := rfl
    have hk : Fr.fr (UInt8.ofNat (Fr.readL (l.drop p)).2.1) (Fr.readL (l.drop p)).2.2 = (partOf (frAt l p)).b := rfl
    have hb : (partOf (frAt l p)).b.length = (Fr.readL (l.drop p)).2.2.length + 9 := PartV.len _
    rw [hk] at hm
    have hnx : (frAt l p).next = p + (partOf (frAt l p)).b.length := by rw [hb]; unfold FrV.next; rw [hx]; simp only []; omega
    have hd : l.drop (frAt l p).next = m := by
      rw [hnx, ← List.drop_drop, hm, List.drop_left' rfl]
    rw [scanL_ok h]
    simp only [List.map_cons]
    refine ⟨?_, ?_, i3, ?_, i5⟩
    · rw [rowB_cons, List.append_assoc, ← i1, hd, hm]
    · intro x hx
      rcases List.mem_cons.1 hx with rfl | hx
      · exact ⟨a, b, c⟩
      · exact i2 x hx
    · rw [rowB_cons, List.length_append]; omega
  | case2 p h =>
    rw [scanL_end h]
    exact ⟨by simp [rowB], fun x hx => by simp at hx, hp, by simp [rowB], h⟩
theorem parts_rec : ∀ {fs : List FrV}, (fs.all fun f => f.k == 1) = true → fs.map partOf = recP (fs.map FrV.p)
  | [], _ => rfl
  | f :: fs, h => by
    rw [List.all_cons, Bool.and_eq_true] at h
    have ih := parts_rec h.2
    have hk : f.k = 1 := by simpa using h.1
    rw [List.map_cons, ih]
    unfold recP partOf
    simp [hk]
/-- Bytes whose frames are all records. -/
theorem scan_only {l : List UInt8} (h : ((scanL l 0).1.all fun f => f.k == 1) = true) : l = recR ((scanL l 0).1.map FrV.p) ++ l.drop (scanL l 0).2 ∧ Small ((scanL l 0).1.map FrV.p) ∧ (recR ((scanL l 0).1.map FrV.p)).length = (scanL l 0).2 ∧ (Fr.readL (l.drop (scanL l 0).2)).1 ≠ 0 ∧ (scanL l 0).2 ≤ l.length := by
  obtain ⟨a, b, c, d, e⟩ := scan_rows l 0 (Nat.zero_le _)
  rw [parts_rec h] at a d
  refine ⟨a, ?_, by unfold recR; omega, e, c⟩
  intro r hr
  obtain ⟨f, hf, rfl⟩ := List.mem_map.1 hr
  exact (b f hf).2.2
end Vp
end Go.Proofs.YtpfoekfbcpinlaaGreatDoor
/- Plain law: what is done on a disk, tape by tape; what a disk that does not fail is left as. -/
namespace Go.Proofs.YtpfoekfbcpinlaaGreatDoor
open Go.RowKit
set_option linter.unusedVariables false

namespace Vp
def upd (tp : Nat → TapeV) (t : Nat) (x : TapeV) : Nat → TapeV := fun k => if k = t then x else tp k
theorem upd_same (tp : Nat → TapeV) (t : Nat) (x : TapeV) : upd tp t x t = x := if_pos rfl
theorem upd_other (tp : Nat → TapeV) {t k : Nat} (x : TapeV) (h : k ≠ t) : upd tp t x k = tp k := if_neg h
theorem upd_id (tp : Nat → TapeV) (t : Nat) : upd tp t (tp t) = tp := by funext k; unfold upd; split <;> simp_all
theorem setT_tp (D : DiskV) (t : Nat) (x : TapeV) : (setT D t x).tp = upd D.tp t x := rfl
def firmT (x : TapeV) : TapeV := ⟨x.b, x.b.size⟩
theorem firmT_id {x : TapeV} (h : x.firm = x.b.size) : firmT x = x := by obtain ⟨b, f⟩ := x; unfold firmT; simp only [] at h ⊢; rw [h]
/-- What comes of a thing done with tape t of a disk that is up: x stands there, or, where it fails, y. -/
structure Op (D : DiskV) (P : Int × DiskV) (t : Nat) (x y : TapeV) : Prop where
  out : (P.1 = 0 ∧ P.2.down = false ∧ P.2.tp = upd D.tp t x) ∨ (P.1 = 45 ∧ P.2.down = true ∧ P.2.tp = upd D.tp t y)
  cap : P.2.cap = D.cap
  cnt : P.2.counts = D.counts
  nc : D.counts = false → P.1 = 0 ∧ P.2 = setT D t x
theorem fails_cnt (D : DiskV) : (failsV D).2.counts = D.counts := by unfold failsV; split <;> rfl
theorem op_up {D : DiskV} {t : Nat} {may : Int} {dov torn : TapeV → TapeV} (hd : D.down = false) (ht : t < 32) (hm : may = 0) : Op D (opV D t may dov torn) t (dov (D.tp t)) (torn (D.tp t)) := by
  have e := Hd.op_eq D t may dov torn hd ht hm
  have hfd := Hd.fails_down hd
  have hft := fails_tp D
  have hfc := fails_cap D
  have hfn := fails_cnt D
  rw [e]
  refine ⟨?_, ?_, ?_, ?_⟩
  · cases hf : (failsV D).1
    · rw [hf] at hfd
      exact .inl ⟨rfl, hfd, by show upd (failsV D).2.tp t _ = _; rw [hft]⟩
    · rw [hf] at hfd
      exact .inr ⟨rfl, hfd, by show upd (failsV D).2.tp t _ = _; rw [hft]⟩
  · split <;> exact hfc
  · split <;> exact hfn
  · intro hc
    rw [Hd.fails_off hc]
    exact ⟨rfl, rfl⟩
theorem sync_up {D : DiskV} {t : Nat} (hd : D.down = false) (ht : t < 32) : Op D (syncV D t) t (firmT (D.tp t)) (D.tp t) := op_up hd ht rfl
theorem wipe_up {D : DiskV} {t : Nat} (hd : D.down = false) (ht : t < 32) : Op D (wipeV D t) t blank (D.tp t) := op_up hd ht rfl
theorem trim_up {D : DiskV} {t n : Nat} (hd : D.down = false) (ht : t < 32) (hn : n ≤ (D.tp t).b.size) : Op D (trimV D t n) t ⟨(D.tp t).b.extract 0 n, n⟩ (D.tp t) := by
  unfold trimV
  rw [Int.toNat_natCast]
  exact op_up hd ht (by unfold trimMay; rw [if_neg (by omega)])
theorem write_up {D : DiskV} {t : Nat} {s : ByteArray} (hd : D.down = false) (ht : t < 32) (h1 : ((D.tp t).b.size : Int) + s.size ≤ 1048576) (h2 : (used D.tp 32 : Int) + s.size ≤ D.cap) : Op D (writeV D t s) t ⟨(D.tp t).b ++ s, (D.tp t).firm⟩ ⟨(D.tp t).b ++ s, (D.tp t).firm⟩ := by
  unfold writeV
  rw [Int.toNat_natCast]
  exact op_up hd ht (by unfold writeMay; rw [if_neg (by omega), if_neg (by omega)])
theorem write_full {D : DiskV} {t : Nat} {s : ByteArray} (hd : D.down = false) (ht : t < 32) (h : writeMay D (D.tp t).b s ≠ 0) : writeV D t s = (writeMay D (D.tp t).b s, D) := by
  unfold writeV
  rw [Int.toNat_natCast]
  exact Hd.op_ref D t _ _ _ hd ht h
theorem op_dark {D : DiskV} {t : Int} {may : Int} {dov torn : TapeV → TapeV} (hd : D.down = true) : opV D t may dov torn = (45, D) := by unfold opV; rw [if_pos hd]
/-- A tape behind a Back: what was firm, and a beginning of what was loose. -/
def Cut (x y : TapeV) : Prop := ∃ k, x.firm ≤ k ∧ k ≤ x.b.size ∧ y = ⟨x.b.extract 0 k, k⟩
theorem Cut.of_firm {x y : TapeV} (h : Cut x y) (hf : x.firm = x.b.size) : y = x := by
  obtain ⟨k, h1, h2, rfl⟩ := h
  obtain rfl : k = x.b.size := by omega
  obtain ⟨b, f⟩ := x
  simp only [] at hf ⊢
  rw [hf, ByteArray.extract_zero_size]
theorem Cut.firm {x y : TapeV} (h : Cut x y) : y.firm = y.b.size := by
  obtain ⟨k, h1, h2, rfl⟩ := h
  exact (extract_size _ _ h2).symm
theorem Cut.list {x y : TapeV} (h : Cut x y) : ∃ k, x.firm ≤ k ∧ k ≤ x.b.size ∧ y.b.data.toList = x.b.data.toList.take k ∧ y.firm = k := by
  obtain ⟨k, h1, h2, rfl⟩ := h
  exact ⟨k, h1, h2, by simp [ByteArray.data_extract], rfl⟩
theorem back_cut {D : DiskV} (ho : Ok D) (kl : Nat) (kf : Nat → Int) {t : Nat} (ht : t < 32) : Cut (D.tp t) ((backV D kl kf).tp t) := by
  show Cut (D.tp t) ((backT kl kf D.tp 32).1 t)
  rw [backT_at _ _ _ _ _ ht]
  have hf := ho.firm t ht
  generalize (backT kl kf D.tp t).2 = turn
  unfold backS
  split
  · rename_i he
    refine ⟨(D.tp t).b.size, hf, Nat.le_refl _, ?_⟩
    rw [ByteArray.extract_zero_size]
    generalize D.tp t = x at he
    obtain ⟨b, f⟩ := x
    simp only [] at he ⊢
    rw [he]
  · have := backN_le kl kf (D.tp t) turn
    exact ⟨_, by omega, by omega, rfl⟩
/-- Two disks that are alike but for their tapes. -/
def withT (D : DiskV) (tp : Nat → TapeV) : DiskV := { D with tp := tp }
theorem setT_with (D : DiskV) (tp : Nat → TapeV) (t : Nat) (x : TapeV) : setT (withT D tp) t x = withT D (upd tp t x) := rfl
theorem told_loose {x : TapeV} (h : x.firm ≤ x.b.size) : (told x).2.size = 0 ↔ x.firm = x.b.size := by
  unfold told
  simp only [ByteArray.size_extract]
  omega
def looseT (D : DiskV) (is : Nat → Bool) (k : Nat) : Nat → TapeV := fun j => if j < k ∧ is j = true then firmT (D.tp j) else D.tp j
theorem loose_nc {D : DiskV} (hf : ∀ t, t < 32 → (D.tp t).firm ≤ (D.tp t).b.size) (hd : D.down = false) (hc : D.counts = false) (is : Nat → Bool) : ∀ k, k ≤ 32 → looseS D is k = (0, withT D (looseT D is k))
  | 0, _ => by
    have : looseT D is 0 = D.tp := by funext j; unfold looseT; rw [if_neg (by omega)]
    rw [this]; rfl
  | k + 1, hk => by
    have ih := loose_nc hf hd hc is k (by omega)
    have hkf := hf k (by omega)
    rw [looseS, ih, if_neg (by simp)]
    have hat : looseT D is k k = D.tp k := by unfold looseT; rw [if_neg (by omega)]
    by_cases h : (told (D.tp k)).2.size = 0 ∨ is k = false
    · rw [if_pos h]
      have : looseT D is (k + 1) = looseT D is k := by
        funext j
        unfold looseT
        by_cases e : j = k
        · subst e
          rw [if_neg (show ¬ (j < j ∧ is j = true) by omega)]
          rcases h with h | h
          · split
            · exact firmT_id ((told_loose hkf).1 h)
            · rfl
          · rw [if_neg (by rw [h]; simp)]
        · have : (j < k + 1) = (j < k) := propext (by omega)
          simp only [this]
      rw [this]
    · rw [if_neg h]
      have hk1 : is k = true := by simpa using fun e => h (.inr e)
      have := (sync_up (D := withT D (looseT D is k)) (t := k) hd (by omega)).nc hc
      simp only []
      rw [Prod.ext_iff]
      refine ⟨this.1, ?_⟩
      rw [this.2, setT_with]
      congr 1
      funext j
      show upd (looseT D is k) k (firmT (looseT D is k k)) j = _
      rw [hat]
      by_cases e : j = k
      · subst e
        rw [upd_same]
        unfold looseT
        rw [if_pos ⟨Nat.lt_succ_self _, hk1⟩]
      · rw [upd_other _ _ e]
        unfold looseT
        have : (j < k + 1) = (j < k) := propext (by omega)
        simp only [this]
theorem loose_none {D : DiskV} {is : Nat → Bool} : ∀ k, (∀ j, j < k → is j = true → (D.tp j).firm = (D.tp j).b.size) → (∀ j, j < k → (D.tp j).firm ≤ (D.tp j).b.size) → looseS D is k = (0, D)
  | 0, _, _ => rfl
  | k + 1, h, hf => by
    rw [looseS, loose_none k (fun j hj => h j (by omega)) (fun j hj => hf j (by omega)), if_neg (by simp)]
    rw [if_pos]
    cases hi : is k
    · exact .inr rfl
    · exact .inl ((told_loose (hf k (by omega))).2 (h k (by omega) hi))
/-- Where one tape alone is loose. -/
theorem loose_one {D : DiskV} (ho : Ok D) {is : Nat → Bool} {a : Nat} (ha : a < 32) (hi : is a = true) (h : ∀ j, j < 32 → j ≠ a → is j = true → (D.tp j).firm = (D.tp j).b.size) :
    looseS D is 32 = if (D.tp a).firm = (D.tp a).b.size then (0, D) else syncV D a := by
  by_cases he : (D.tp a).firm = (D.tp a).b.size
  · rw [if_pos he]
    exact loose_none 32 (fun j hj hij => by by_cases e : j = a; subst e; exact he; exact h j hj e hij) ho.firm
  · rw [if_neg he]
    have h0 : looseS D is a = (0, D) := loose_none a (fun j hj hij => h j (by omega) (by omega) hij) (fun j hj => ho.firm j (by omega))
    have h1 : looseS D is (a + 1) = syncV D a := by
      rw [looseS, h0, if_neg (by simp), if_neg]
      rintro (h | h)
      · exact he ((told_loose (ho.firm a ha)).1 h)
      · rw [hi] at h; cases h
    by_cases h2 : (looseS D is (a + 1)).1 = 0
    · have hup : D.down = false := by
        cases hd : D.down
        · rfl
        · rw [h1] at h2; unfold syncV at h2; rw [op_dark hd] at h2; exact absurd h2 (show ¬ ((45 : Int) = 0) by decide)
      have hS := (sync_up (D := D) (t := a) hup ha)
      rw [h1] at h2
      have htp : (syncV D a).2.tp = upd D.tp a (firmT (D.tp a)) := by
        rcases hS.out with h | h
        · exact h.2.2
        · rw [h.1] at h2; exact absurd h2 (by decide)
      have hgo : ∀ k, a + 1 ≤ k → k ≤ 32 → looseS D is k = syncV D a := by
        intro k
        induction k with
        | zero => intro h; omega
        | succ k ih =>
          intro h3 h4
          by_cases e : k = a
          · subst e; exact h1
          · have := ih (by omega) (by omega)
            rw [looseS, this, if_neg (by rw [h2]; simp), if_pos]
            cases hik : is k
            · exact .inr rfl
            · exact .inl ((told_loose (ho.firm k (by omega))).2 (h k (by omega) e hik))
      exact hgo 32 (by omega) (Nat.le_refl _)
    · rw [looseS_err h2 32 (by omega), h1]
def wipeT (D : DiskV) (h : Hd.HV) (k : Nat) : Nat → TapeV := fun j => if j < k ∧ 2 ≤ j ∧ h.uses j = false then blank else D.tp j
theorem tape_none {x : TapeV} (h : x.firm ≤ x.b.size) (h0 : x.b.size = 0) : x = blank := by
  obtain ⟨b, f⟩ := x
  simp only [] at h h0
  obtain rfl := size0.1 h0
  obtain rfl : f = 0 := by omega
  rfl
theorem wipe_nc {D : DiskV} (hf : ∀ t, t < 32 → (D.tp t).firm ≤ (D.tp t).b.size) (hd : D.down = false) (hc : D.counts = false) (h : Hd.HV) : ∀ k, k ≤ 32 → wipeS D h k = (0, withT D (wipeT D h k))
  | 0, _ => by
    have : wipeT D h 0 = D.tp := by funext j; unfold wipeT; rw [if_neg (by omega)]
    rw [this]; rfl
  | k + 1, hk => by
    have ih := wipe_nc hf hd hc h k (by omega)
    have hkf := hf k (by omega)
    rw [wipeS, ih, if_neg (by simp)]
    by_cases hh : k < 2 ∨ (D.tp k).b.size = 0 ∨ h.uses k = true
    · rw [if_pos hh]
      have : wipeT D h (k + 1) = wipeT D h k := by
        funext j
        unfold wipeT
        by_cases e : j = k
        · subst e
          rw [if_neg (show ¬ (j < j ∧ 2 ≤ j ∧ h.uses j = false) by omega)]
          rcases hh with hh | hh | hh
          · rw [if_neg (by omega)]
          · split
            · exact (tape_none hkf hh).symm
            · rfl
          · rw [if_neg (by rw [hh]; simp)]
        · have : (j < k + 1) = (j < k) := propext (by omega)
          simp only [this]
      rw [this]
    · rw [if_neg hh]
      have hk1 : h.uses k = false := by simpa using fun e => hh (.inr (.inr e))
      have := (wipe_up (D := withT D (wipeT D h k)) (t := k) hd (by omega)).nc hc
      simp only []
      rw [Prod.ext_iff]
      refine ⟨this.1, ?_⟩
      rw [this.2, setT_with]
      congr 1
      funext j
      by_cases e : j = k
      · subst e
        rw [upd_same]
        unfold wipeT
        rw [if_pos ⟨Nat.lt_succ_self _, by omega, hk1⟩]
      · rw [upd_other _ _ e]
        unfold wipeT
        have : (j < k + 1) = (j < k) := propext (by omega)
        simp only [this]
theorem wipe_none {D : DiskV} {h : Hd.HV} (hz : ∀ j : Nat, 2 ≤ j → j < 32 → h.uses j = false → (D.tp j).b.size = 0) : ∀ k, k ≤ 32 → wipeS D h k = (0, D)
  | 0, _ => rfl
  | k + 1, hk => by
    rw [wipeS, wipe_none hz k (by omega), if_neg (by simp), if_pos]
    by_cases h2 : k < 2
    · exact .inl h2
    · cases hu : h.uses k
      · exact .inr (.inl (hz k (by omega) (by omega) hu))
      · exact .inr (.inr rfl)
theorem firm_with {D : DiskV} {tp : Nat → TapeV} (h : ∀ t, t < 32 → (tp t).firm ≤ (tp t).b.size) : ∀ t, t < 32 → ((withT D tp).tp t).firm ≤ ((withT D tp).tp t).b.size := h
end Vp
end Go.Proofs.YtpfoekfbcpinlaaGreatDoor
/- Plain law: what Open finds on tapes that lie as a head names them, and what it leaves. -/
namespace Go.Proofs.YtpfoekfbcpinlaaGreatDoor
open Go.RowKit
set_option linter.unusedVariables false

namespace Vp
abbrev tx (x : TapeV) : List UInt8 := x.b.data.toList
theorem tx_len (x : TapeV) : (tx x).length = x.b.size := data_len _
theorem B_of (b : ByteArray) : B b.data.toList = b := by
  apply ByteArray.ext
  unfold B
  simp
theorem b_eq {x : TapeV} {l : List UInt8} (h : tx x = l) : x.b = B l := by rw [← h]; exact (B_of x.b).symm
/-- The records that a head names. -/
def recsOf (h : Hd.HV) (T : Int → List (List UInt8)) : List (List UInt8) := h.log.flatMap T
/-- The tapes that a head names: the snapshot, the records, and behind the last ones bytes that begin by no frame. -/
structure Lying (tp : Nat → TapeV) (h : Hd.HV) (T : Int → List (List UInt8)) (s : ByteArray) (tail : List UInt8) : Prop where
  snap : h.snap ≠ 0 → tx (tp h.snap.toNat) = Fr.fr 2 s.data.toList ∧ s.size ≤ 262144
  sno : h.snap = 0 → s = ⟨#[]⟩
  logs : ∀ t ∈ h.log, t ≠ lastT h → tx (tp t.toNat) = recR (T t)
  last : tx (tp (lastT h).toNat) = recR (T (lastT h)) ++ tail
  small : ∀ t ∈ h.log, Small (T t)
  torn : (Fr.readL tail).1 ≠ 0
/-- A disk whose head counts, with no bytes on tapes that it does not name. -/
structure Base (D : DiskV) (h : Hd.HV) : Prop where
  ok : Ok D
  up : D.down = false
  may : h.may = true
  two : ∀ k, k < 2 → (D.tp k).firm = (D.tp k).b.size
  free : ∀ t, 2 ≤ t → t < 32 → h.uses (t : Nat) = false → (D.tp t).b.size = 0
  head : (Hd.diskV D).1 = h ∧ (Hd.diskV D).2.2 = true
section head
variable {h : Hd.HV}
theorem log_ne (hm : h.may = true) : h.log ≠ [] := (Hd.may_first hm).2.2.2.2.1
theorem lastT_mem (hm : h.may = true) : lastT h ∈ h.log := by
  unfold lastT
  rw [List.getLastD_eq_getLast?]
  cases hl : h.log.getLast? with
  | none => exact absurd (List.getLast?_eq_none_iff.1 hl) (log_ne hm)
  | some x => exact List.mem_of_getLast? hl
theorem log_in (hm : h.may = true) {t : Int} (ht : t ∈ h.log) : 2 ≤ t ∧ t < 32 := (Hd.may_tapes hm).2 t ht
theorem log_uses {t : Int} (ht : t ∈ h.log) : h.uses t = true := by
  unfold Hd.HV.uses
  rw [List.contains_iff_mem.2 ht, Bool.or_true]
theorem log_cut (hm : h.may = true) : ∃ pre, h.log = pre ++ [lastT h] ∧ lastT h ∉ pre ∧ pre.Nodup := by
  have hne := log_ne hm
  have hl : lastT h = h.log.getLast hne := by
    unfold lastT
    rw [List.getLastD_eq_getLast?, List.getLast?_eq_some_getLast hne]; rfl
  refine ⟨h.log.dropLast, ?_, ?_⟩
  · rw [hl, List.dropLast_concat_getLast]
  · have hnd : h.log.Nodup := by
      unfold Hd.HV.may at hm
      rw [Bool.and_eq_true] at hm
      have := ((Hd.mayT_iff _ _).1 hm.2).2
      unfold Hd.HV.tapes at this
      split at this
      · exact this
      · exact (List.nodup_cons.1 this).2
    have e : h.log = h.log.dropLast ++ [lastT h] := by rw [hl, List.dropLast_concat_getLast]
    rw [e] at hnd
    have := List.nodup_append.1 hnd
    exact ⟨fun hm => this.2.2 _ hm _ (List.mem_singleton.2 rfl) rfl, this.1⟩
theorem snap_in (hm : h.may = true) (h0 : h.snap ≠ 0) : 2 ≤ h.snap ∧ h.snap < 32 ∧ h.snap ∉ h.log ∧ h.uses h.snap = true := by
  have hm' := hm
  unfold Hd.HV.may at hm'
  rw [Bool.and_eq_true] at hm'
  obtain ⟨h1, h2⟩ := (Hd.mayT_iff _ _).1 hm'.2
  unfold Hd.HV.tapes at h1 h2
  rw [if_neg h0] at h1 h2
  have := h1 _ (List.mem_cons_self ..)
  refine ⟨this.1, this.2.1, (List.nodup_cons.1 h2).1, ?_⟩
  unfold Hd.HV.uses
  simp [h0]
theorem uses_iff {t : Int} (ht : t ≠ 0) : h.uses t = true ↔ (h.snap = t ∨ t ∈ h.log) := by
  unfold Hd.HV.uses
  simp [ht]
end head
theorem read_tape {D : DiskV} (hd : D.down = false) {t : Int} (h1 : 0 ≤ t) (h2 : t < 32) : readV D t = ((D.tp t.toNat).b, 0) := by
  unfold readV
  rw [if_neg (by rw [hd]; simp), if_neg (by omega)]
theorem one_fr {b : ByteArray} {s : ByteArray} (h : b.data.toList = Fr.fr 2 s.data.toList) (hs : s.size ≤ 262144) : oneV b 2 = (s, true) := by
  have hr := Fr.readL_fr (k := 2) (p := s.data.toList) [] (by decide) (by decide) (by rw [data_len]; exact hs)
  rw [List.append_nil, show (UInt8.ofNat 2) = 2 from rfl, ← h] at hr
  have hz : b.size = s.size + 9 := by rw [← data_len b, h, Fr.fr_length, data_len]
  unfold oneV
  rw [hr, if_pos ⟨rfl, by rw [data_len, hz], rfl⟩, B_of]
theorem one_inv {b : ByteArray} (h : (oneV b 2).2 = true) : b.data.toList = Fr.fr 2 (oneV b 2).1.data.toList ∧ (oneV b 2).1.size ≤ 262144 := by
  unfold oneV at h ⊢
  split at h
  · rename_i hc
    rw [if_pos hc]
    obtain ⟨a, b', c, m, hm⟩ := Fr.readL_is hc.1
    rw [hc.2.2, show (UInt8.ofNat 2) = 2 from rfl] at hm
    simp only []
    rw [B_list]
    have hl := congrArg List.length hm
    rw [data_len, List.length_append, Fr.fr_length] at hl
    have hm0 : m = [] := List.length_eq_zero_iff.1 (by omega)
    rw [hm0, List.append_nil] at hm
    exact ⟨hm, by rw [B_size]; exact c⟩
  · cases h
theorem snap_lying {D : DiskV} {h : Hd.HV} {T : Int → List (List UInt8)} {s : ByteArray} {tail : List UInt8} (hd : D.down = false) (hm : h.may = true) (hl : Lying D.tp h T s tail) : snapV D h = (0, decide (h.snap ≠ 0), s) := by
  unfold snapV
  by_cases h0 : h.snap = 0
  · rw [if_pos h0, hl.sno h0, decide_eq_false (by simp [h0])]
  · obtain ⟨a, b, _, _⟩ := snap_in hm h0
    rw [if_neg h0, read_tape hd (by omega) b, if_neg (by simp)]
    simp only []
    rw [one_fr (hl.snap h0).1 (hl.snap h0).2, decide_eq_true h0]
    rfl
theorem tape_whole {D : DiskV} {h : Hd.HV} {t : Int} {l : List (List UInt8)} (hd : D.down = false) (h1 : 0 ≤ t) (h2 : t < 32) (hs : Small l) (hx : tx (D.tp t.toNat) = recR l) : tapeV D h t = (l, 0, D) := by
  unfold tapeV
  rw [read_tape hd h1 h2, if_neg (by simp)]
  simp only []
  rw [show (D.tp t.toNat).b.data.toList = recR l from hx, scan_whole hs, frames_k, if_neg (by simp), if_pos (by rw [← hx, tx_len]), frames_p]
theorem tape_torn {D : DiskV} {h : Hd.HV} {l : List (List UInt8)} {tail : List UInt8} (hd : D.down = false) (hc : D.counts = false) (h1 : 0 ≤ lastT h) (h2 : lastT h < 32) (hs : Small l) (ht : (Fr.readL tail).1 ≠ 0) (h0 : tail ≠ []) (hx : tx (D.tp (lastT h).toNat) = recR l ++ tail) :
    tapeV D h (lastT h) = (l, 0, setT D (lastT h).toNat ⟨B (recR l), (recR l).length⟩) := by
  obtain ⟨k, hk⟩ : ∃ k : Nat, lastT h = k := ⟨(lastT h).toNat, by omega⟩
  have hsz : (D.tp k).b.size = (recR l).length + tail.length := by rw [hk, Int.toNat_natCast] at hx; rw [← tx_len, hx, List.length_append]
  have hpos : 0 < tail.length := List.length_pos_iff.2 h0
  unfold tapeV
  rw [read_tape hd h1 h2, if_neg (by simp)]
  simp only []
  rw [show (D.tp (lastT h).toNat).b.data.toList = recR l ++ tail from hx, scan_rec hs tail ht, frames_k, if_neg (by simp), if_neg (by rw [hk, Int.toNat_natCast, hsz]; simp only []; omega), if_neg (by simp), frames_p]
  simp only []
  rw [hk, Int.toNat_natCast]
  have := (trim_up (D := D) (t := k) (n := (recR l).length) hd (by omega) (by rw [hsz]; omega)).nc hc
  rw [Prod.ext_iff]
  refine ⟨rfl, ?_⟩
  rw [Prod.ext_iff]
  refine ⟨this.1, ?_⟩
  simp only []
  rw [this.2]
  congr 2
  apply ByteArray.ext
  have hb : (D.tp k).b = B (recR l ++ tail) := b_eq (by rw [hk, Int.toNat_natCast] at hx; exact hx)
  rw [hb]
  unfold B
  simp [ByteArray.data_extract]
theorem rec_whole {D : DiskV} {h : Hd.HV} {T : Int → List (List UInt8)} (hd : D.down = false) : ∀ k, k ≤ h.log.length → (∀ i, i < k → 0 ≤ h.log.getD i 0 ∧ h.log.getD i 0 < 32 ∧ Small (T (h.log.getD i 0)) ∧ tx (D.tp (h.log.getD i 0).toNat) = recR (T (h.log.getD i 0))) → recS D h k = ((h.log.take k).flatMap T, 0, D)
  | 0, _, _ => by simp [recS]
  | k + 1, hk, hi => by
    have ih := rec_whole (T := T) hd k (by omega) (fun i h => hi i (by omega))
    obtain ⟨a, b, c, d⟩ := hi k (by omega)
    rw [recS, ih, if_neg (by simp)]
    simp only []
    rw [tape_whole hd a b c d, if_neg (by simp)]
    simp only []
    rw [List.take_add_one, List.flatMap_append]
    have : h.log[k]?.toList = [h.log.getD k 0] := by rw [List.getD_eq_getElem?_getD, List.getElem?_eq_getElem (by omega)]; rfl
    rw [this]
    simp
/-- What Open leaves of the last of the log's tapes. -/
def lastD (D : DiskV) (h : Hd.HV) (T : Int → List (List UInt8)) (tail : List UInt8) : DiskV := if tail = [] then D else setT D (lastT h).toNat ⟨B (recR (T (lastT h))), (recR (T (lastT h))).length⟩
theorem rec_lying {D : DiskV} {h : Hd.HV} {T : Int → List (List UInt8)} {s : ByteArray} {tail : List UInt8} (hd : D.down = false) (hm : h.may = true) (hl : Lying D.tp h T s tail) (hc : tail = [] ∨ D.counts = false) : recS D h h.log.length = (recsOf h T, 0, lastD D h T tail) := by
  obtain ⟨pre, hp, hn, _⟩ := log_cut hm
  obtain ⟨la, hla⟩ : ∃ la, la = lastT h := ⟨_, rfl⟩
  have hlt := log_in hm (lastT_mem hm)
  have hlen : h.log.length = pre.length + 1 := by rw [hp, List.length_append]; rfl
  have hk : h.log.getD pre.length 0 = lastT h := by
    rw [← hla] at hp ⊢
    rw [hp, List.getD_eq_getElem?_getD, List.getElem?_append_right (Nat.le_refl _)]; simp
  have h1 : recS D h pre.length = ((h.log.take pre.length).flatMap T, 0, D) := rec_whole hd pre.length (by omega) (fun i hi => by
    have hmem : h.log.getD i 0 ∈ h.log := by rw [List.getD_eq_getElem?_getD, List.getElem?_eq_getElem (by omega)]; exact List.getElem_mem _
    have hne : h.log.getD i 0 ≠ lastT h := fun e => hn (by
      rw [← e]
      have : h.log.getD i 0 = pre[i] := by
        conv => lhs; rw [hp]
        rw [List.getD_eq_getElem?_getD, List.getElem?_append_left hi, List.getElem?_eq_getElem hi]; rfl
      rw [this]; exact List.getElem_mem _)
    have := log_in hm hmem
    exact ⟨by omega, this.2, hl.small _ hmem, hl.logs _ hmem hne⟩)
  have ht : h.log.take pre.length = pre := by
    rw [← hla] at hp
    rw [hp, List.take_left' rfl]
  have hr : recsOf h T = pre.flatMap T ++ T (lastT h) := by
    unfold recsOf
    rw [← hla] at hp ⊢
    rw [hp, List.flatMap_append]
    simp
  rw [hlen, recS, h1, if_neg (by simp), hk, ht, hr]
  simp only []
  unfold lastD
  by_cases h0 : tail = []
  · rw [if_pos h0]
    have hx := hl.last
    rw [h0, List.append_nil] at hx
    rw [tape_whole hd (by omega) hlt.2 (hl.small _ (lastT_mem hm)) hx, if_neg (by simp)]
  · rw [if_neg h0]
    rw [tape_torn hd (hc.resolve_left h0) (by omega) hlt.2 (hl.small _ (lastT_mem hm)) hl.torn h0 hl.last, if_neg (by simp)]
/-- Open, where what is behind its wipe is known. -/
theorem open_from {D : DiskV} {h : Hd.HV} {T : Int → List (List UInt8)} {s : ByteArray} {tail : List UInt8} (e1 : (o1 D).1 = 0) (e2 : (oL D).1 = 0) (e3 : (oW D).1 = 0) (hh : (oL D).2.2 = h) (b : Base (oW D).2 h) (hl : Lying (oW D).2.tp h T s tail) (hc : tail = [] ∨ (oW D).2.counts = false) :
    oS D = (0, decide (h.snap ≠ 0), s) ∧ (oR D).1 = recsOf h T ∧ openE D = (looseS (lastD (oW D).2 h T tail) (fun t => h.uses t) 32).1 ∧ openD D = (looseS (lastD (oW D).2 h T tail) (fun t => h.uses t) 32).2 := by
  have hS : oS D = (0, decide (h.snap ≠ 0), s) := by unfold oS; rw [hh]; exact snap_lying b.up b.may hl
  have hR : oR D = (recsOf h T, 0, lastD (oW D).2 h T tail) := by unfold oR; rw [hh]; exact rec_lying b.up b.may hl hc
  have hF : oF D = looseS (lastD (oW D).2 h T tail) (fun t => h.uses t) 32 := by unfold oF; rw [hR, hh]
  refine ⟨hS, by rw [hR], ?_, ?_⟩
  · unfold openE
    rw [if_neg (by simpa using e1), if_neg (by simpa using e2), if_neg (by simpa using e3), hS, if_neg (by simp), hR, if_neg (by simp), hF]
  · unfold openD
    rw [if_neg (by simpa using e1), if_neg (by simpa using e2), if_neg (by simpa using e3), hS, if_neg (by simp), hR, if_neg (by simp), hF]
theorem vload_is {D : DiskV} {h : Hd.HV} (hd : D.down = false) (hv : (Hd.diskV D).1 = h ∧ (Hd.diskV D).2.2 = true) : vloadV D = (0, D, h) := by
  unfold vloadV
  rw [if_neg (by rw [hd]; simp), if_pos hv.2, hv.1]
theorem disk_bytes {D E : DiskV} (h : ∀ k, k < 2 → (E.tp k).b = (D.tp k).b) : Hd.diskV E = Hd.diskV D := by
  unfold Hd.diskV
  rw [h 0 (by decide), h 1 (by decide)]
theorem firmT_b (x : TapeV) : (firmT x).b = x.b := rfl
theorem two_is {k : Nat} (h : k < 2) : isTwo k = true := by unfold isTwo; rw [decide_eq_true_eq]; exact h
/-- Open up to its wipe, of a disk that does not fail. -/
theorem open_base {D : DiskV} {h : Hd.HV} (ho : Ok D) (hd : D.down = false) (hc : D.counts = false) (hv : (Hd.diskV D).1 = h ∧ (Hd.diskV D).2.2 = true) (hm : h.may = true) :
    (o1 D).1 = 0 ∧ (oL D).1 = 0 ∧ (oW D).1 = 0 ∧ (oL D).2.2 = h ∧ Base (oW D).2 h ∧ (oW D).2.counts = false ∧ (oW D).2.cap = D.cap ∧ (∀ k, k < 2 → (oW D).2.tp k = firmT (D.tp k)) ∧ (∀ t, 2 ≤ t → t < 32 → (oW D).2.tp t = if h.uses (t : Nat) = true then D.tp t else blank) := by
  have h1 := loose_nc ho.firm hd hc isTwo 32 (Nat.le_refl _)
  have hok1 : Ok (withT D (looseT D isTwo 32)) := by have := looseS_ok ho isTwo 32; rw [h1] at this; exact this
  have ht1 : ∀ k, k < 2 → looseT D isTwo 32 k = firmT (D.tp k) := fun k hk => by unfold looseT; rw [if_pos ⟨by omega, two_is hk⟩]
  have ht2 : ∀ k, 2 ≤ k → looseT D isTwo 32 k = D.tp k := fun k hk => by
    unfold looseT
    rw [if_neg]
    rintro ⟨_, h⟩
    unfold isTwo at h
    rw [decide_eq_true_eq] at h
    omega
  have hv1 : Hd.diskV (withT D (looseT D isTwo 32)) = Hd.diskV D := disk_bytes fun k hk => by show (looseT D isTwo 32 k).b = _; rw [ht1 k hk]; rfl
  have hL : oL D = (0, withT D (looseT D isTwo 32), h) := by unfold oL o1; rw [h1]; exact vload_is hd (by rw [hv1]; exact hv)
  have h2 := wipe_nc (D := withT D (looseT D isTwo 32)) hok1.firm hd hc h 32 (Nat.le_refl _)
  have hW : oW D = (0, withT (withT D (looseT D isTwo 32)) (wipeT (withT D (looseT D isTwo 32)) h 32)) := by unfold oW; rw [hL]; exact h2
  have hokW : Ok (oW D).2 := by unfold oW; rw [hL]; exact wipeS_ok hok1 h 32
  have hw1 : ∀ k, k < 2 → (oW D).2.tp k = firmT (D.tp k) := fun k hk => by
    rw [hW]
    show wipeT (withT D (looseT D isTwo 32)) h 32 k = _
    unfold wipeT
    rw [if_neg (by omega)]
    exact ht1 k hk
  have hw2 : ∀ t, 2 ≤ t → t < 32 → (oW D).2.tp t = if h.uses (t : Nat) = true then D.tp t else blank := fun t h1 h2 => by
    rw [hW]
    show wipeT (withT D (looseT D isTwo 32)) h 32 t = _
    unfold wipeT
    cases hu : h.uses (t : Nat)
    · rw [if_pos ⟨h2, h1, rfl⟩, if_neg (by simp)]
    · rw [if_neg (by simp), if_pos rfl]
      exact ht2 t h1
  refine ⟨by unfold o1; rw [h1], by rw [hL], by rw [hW], by rw [hL], ⟨hokW, by rw [hW]; exact hd, hm, fun k hk => by rw [hw1 k hk]; rfl, fun t a b hu => by rw [hw2 t a b, if_neg (by rw [hu]; simp)]; rfl, ?_⟩, by rw [hW]; exact hc, by rw [hW]; rfl, hw1, hw2⟩
  have : Hd.diskV (oW D).2 = Hd.diskV D := disk_bytes fun k hk => by rw [hw1 k hk]; rfl
  rw [this]; exact hv
/-- Open, of a disk that needs no wipe. -/
theorem open_kept {D : DiskV} {h : Hd.HV} (b : Base D h) : (o1 D).1 = 0 ∧ (oL D).1 = 0 ∧ (oW D).1 = 0 ∧ (oL D).2.2 = h ∧ (oW D).2 = D := by
  have h1 : o1 D = (0, D) := loose_none 32 (fun j hj hij => b.two j (by unfold isTwo at hij; rw [decide_eq_true_eq] at hij; exact hij)) b.ok.firm
  have hL : oL D = (0, D, h) := by unfold oL; rw [h1]; exact vload_is b.up b.head
  have hW : oW D = (0, D) := by unfold oW; rw [hL]; exact wipe_none (fun j h2 h3 hu => b.free j h2 h3 hu) 32 (Nat.le_refl _)
  exact ⟨by rw [h1], by rw [hL], by rw [hW], by rw [hL], by rw [hW]⟩
end Vp
end Go.Proofs.YtpfoekfbcpinlaaGreatDoor
/- Plain law: disks as a vault leaves them; Open finds what stands there; whatever Open opens it leaves so. -/
namespace Go.Proofs.YtpfoekfbcpinlaaGreatDoor
open Go.RowKit
set_option linter.unusedVariables false

namespace Vp
/-- A disk as a vault leaves it: all is firm but for records on the log's last tape. -/
structure Inv (D : DiskV) (h : Hd.HV) (T : Int → List (List UInt8)) (s : ByteArray) : Prop where
  base : Base D h
  lie : Lying D.tp h T s []
  firm : ∀ t ∈ h.log, t ≠ lastT h → (D.tp t.toNat).firm = (D.tp t.toNat).b.size
  sfirm : h.snap ≠ 0 → (D.tp h.snap.toNat).firm = (D.tp h.snap.toNat).b.size
  lfirm : ∃ j, j ≤ (T (lastT h)).length ∧ (D.tp (lastT h).toNat).firm = (recR ((T (lastT h)).take j)).length
def AllFirm (D : DiskV) : Prop := ∀ t, t < 32 → (D.tp t).firm = (D.tp t).b.size
theorem Lying.congr {tp tp' : Nat → TapeV} {h : Hd.HV} {T : Int → List (List UInt8)} {s : ByteArray} {tail : List UInt8} (hl : Lying tp h T s tail) (hm : h.may = true) (he : ∀ t : Nat, 2 ≤ t → t < 32 → h.uses t = true → tx (tp' t) = tx (tp t)) : Lying tp' h T s tail := by
  have hg : ∀ t ∈ h.log, tx (tp' t.toNat) = tx (tp t.toNat) := fun t ht => by
    have := log_in hm ht
    exact he t.toNat (by omega) (by omega) (by rw [show ((t.toNat : Nat) : Int) = t from by omega]; exact log_uses ht)
  refine ⟨fun h0 => ?_, hl.sno, fun t ht hne => by rw [hg t ht]; exact hl.logs t ht hne, by rw [hg _ (lastT_mem hm)]; exact hl.last, hl.small, hl.torn⟩
  obtain ⟨a, b, _, d⟩ := snap_in hm h0
  rw [he h.snap.toNat (by omega) (by omega) (by rw [show ((h.snap.toNat : Nat) : Int) = h.snap from by omega]; exact d)]
  exact hl.snap h0
theorem uses_two {h : Hd.HV} (hm : h.may = true) {t : Nat} (hu : h.uses t = true) (h0 : t ≠ 0) : 2 ≤ t := by
  rcases (uses_iff (by omega)).1 hu with h1 | h1
  · have := snap_in hm (by omega); omega
  · have := log_in hm h1; omega
theorem uses_zero {h : Hd.HV} (hm : h.may = true) : h.uses ((0 : Nat) : Int) = false := by
  cases hu : h.uses ((0 : Nat) : Int)
  · rfl
  · unfold Hd.HV.uses at hu
    simp at hu
    have := log_in hm hu
    omega
theorem uses_ge {h : Hd.HV} (hm : h.may = true) {t : Nat} (hu : h.uses t = true) : 2 ≤ t := by
  by_cases h0 : t = 0
  · subst h0; rw [uses_zero hm] at hu; cases hu
  · exact uses_two hm hu h0
theorem last_nat {h : Hd.HV} (hm : h.may = true) : ∃ k : Nat, lastT h = k ∧ (lastT h).toNat = k ∧ 2 ≤ k ∧ k < 32 ∧ h.uses (k : Nat) = true := by
  have := log_in hm (lastT_mem hm)
  refine ⟨(lastT h).toNat, by omega, rfl, by omega, by omega, ?_⟩
  rw [show (((lastT h).toNat : Nat) : Int) = lastT h from by omega]
  exact log_uses (lastT_mem hm)
theorem Inv.others {D : DiskV} {h : Hd.HV} {T : Int → List (List UInt8)} {s : ByteArray} (i : Inv D h T s) {k : Nat} (hk : k < 32) (hne : (k : Int) ≠ lastT h) : (D.tp k).firm = (D.tp k).b.size := by
  by_cases h2 : k < 2
  · exact i.base.two k h2
  · cases hu : h.uses (k : Nat)
    · have := i.base.free k (by omega) hk hu
      have := i.base.ok.firm k hk
      omega
    · rcases (uses_iff (by omega)).1 hu with h1 | h1
      · have := i.sfirm (by omega)
        rwa [h1, Int.toNat_natCast] at this
      · have := i.firm _ h1 hne
        rwa [Int.toNat_natCast] at this
theorem Inv.all {D : DiskV} {h : Hd.HV} {T : Int → List (List UInt8)} {s : ByteArray} (i : Inv D h T s) (hf : (D.tp (lastT h).toNat).firm = (D.tp (lastT h).toNat).b.size) : AllFirm D := by
  intro k hk
  by_cases hne : (k : Int) = lastT h
  · rw [← hne, Int.toNat_natCast] at hf; exact hf
  · exact i.others hk hne
theorem Inv.of_all {D : DiskV} {h : Hd.HV} {T : Int → List (List UInt8)} {s : ByteArray} (b : Base D h) (hl : Lying D.tp h T s []) (hf : AllFirm D) : Inv D h T s := by
  have hat : ∀ t : Int, 2 ≤ t → t < 32 → (D.tp t.toNat).firm = (D.tp t.toNat).b.size := fun t h1 h2 => hf _ (by omega)
  have hlt := log_in b.may (lastT_mem b.may)
  refine ⟨b, hl, fun t ht _ => hat t (log_in b.may ht).1 (log_in b.may ht).2, fun h0 => hat _ (snap_in b.may h0).1 (snap_in b.may h0).2.1, (T (lastT h)).length, Nat.le_refl _, ?_⟩
  rw [List.take_length, hat _ hlt.1 hlt.2, ← tx_len, hl.last, List.append_nil]
/-- What Open answers of a disk as a vault leaves it. -/
theorem open_inv {D : DiskV} {h : Hd.HV} {T : Int → List (List UInt8)} {s : ByteArray} (i : Inv D h T s) :
    (oL D).2.2 = h ∧ oS D = (0, decide (h.snap ≠ 0), s) ∧ (oR D).1 = recsOf h T ∧
    ((openE D = 0 ∧ Inv (openD D) h T s ∧ AllFirm (openD D) ∧ (openD D).cap = D.cap ∧ (openD D).counts = D.counts ∧ (∀ k, k < 32 → tx ((openD D).tp k) = tx (D.tp k)) ∧ (AllFirm D → openD D = D)) ∨
     (openE D = 45 ∧ (openD D).down = true ∧ (openD D).tp = D.tp ∧ D.counts = true)) := by
  obtain ⟨e1, e2, e3, hh, hW⟩ := open_kept i.base
  obtain ⟨hS, hR, hE, hD⟩ := open_from e1 e2 e3 hh (by rw [hW]; exact i.base) (by rw [hW]; exact i.lie) (.inl rfl)
  obtain ⟨la, hla, hla', hl2, hl32, hlu⟩ := last_nat i.base.may
  have hlast : lastD D h T [] = D := by unfold lastD; rw [if_pos rfl]
  rw [hW, hlast] at hE hD
  rw [loose_one i.base.ok hl32 hlu (fun j hj hne _ => i.others hj (by rw [hla]; omega))] at hE hD
  refine ⟨hh, hS, hR, ?_⟩
  by_cases hf : (D.tp la).firm = (D.tp la).b.size
  · rw [if_pos hf] at hE hD
    have hE : openE D = 0 := hE
    have hD : openD D = D := hD
    rw [hE, hD]
    exact .inl ⟨rfl, i, i.all (by rw [hla']; exact hf), rfl, rfl, fun _ _ => rfl, fun _ => rfl⟩
  · rw [if_neg hf] at hE hD
    have hS := sync_up (D := D) (t := la) i.base.up hl32
    rcases hS.out with ⟨a, b, c⟩ | ⟨a, b, c⟩
    · left
      have hok : Ok (syncV D la).2 := i.base.ok.sync _
      have hb : ∀ k, tx ((syncV D la).2.tp k) = tx (D.tp k) := fun k => by
        rw [c]
        by_cases e : k = la
        · subst e; rw [upd_same]; rfl
        · rw [upd_other _ _ e]
      have hbz : ∀ k, ((syncV D la).2.tp k).b.size = (D.tp k).b.size := fun k => by rw [← tx_len, hb, tx_len]
      have hfirm : AllFirm (syncV D la).2 := fun k hk => by
        rw [c]
        by_cases e : k = la
        · subst e; rw [upd_same]; rfl
        · rw [upd_other _ _ e]; exact i.others hk (by rw [hla]; omega)
      have hbase : Base (syncV D la).2 h := ⟨hok, b, i.base.may, fun k hk => hfirm k (by omega), fun t h2 h3 hu => by rw [hbz]; exact i.base.free t h2 h3 hu, by
        have : Hd.diskV (syncV D la).2 = Hd.diskV D := disk_bytes fun k hk => by rw [c, upd_other _ _ (by omega)]
        rw [this]; exact i.base.head⟩
      rw [hE, hD]
      refine ⟨a, Inv.of_all hbase (i.lie.congr i.base.may fun t _ _ _ => hb t) hfirm, hfirm, hS.cap, hS.cnt, fun k _ => hb k, fun hall => absurd (hall la hl32) hf⟩
    · right
      rw [hE, hD]
      refine ⟨a, b, by rw [c, upd_id], ?_⟩
      cases hc : D.counts
      · have := (hS.nc hc).1; rw [a] at this; exact absurd this (by decide)
      · rfl
/-- .. behind a wipe, of a disk that does not fail. -/
theorem open_end {D0 D : DiskV} {h : Hd.HV} {T : Int → List (List UInt8)} {s : ByteArray} {tail : List UInt8} (hW : (oW D0).2 = D) (e1 : (o1 D0).1 = 0) (e2 : (oL D0).1 = 0) (e3 : (oW D0).1 = 0) (hh : (oL D0).2.2 = h) (b : Base D h) (hl : Lying D.tp h T s tail) (hc : D.counts = false) :
    oS D0 = (0, decide (h.snap ≠ 0), s) ∧ (oR D0).1 = recsOf h T ∧ openE D0 = 0 ∧ Inv (openD D0) h T s ∧ AllFirm (openD D0) ∧ (openD D0).counts = false ∧ (openD D0).cap = D.cap ∧ (∀ k : Nat, k < 32 → (k : Int) ≠ lastT h → tx ((openD D0).tp k) = tx (D.tp k)) := by
  obtain ⟨hS, hR, hE, hD⟩ := open_from e1 e2 e3 hh (by rw [hW]; exact b) (by rw [hW]; exact hl) (.inr (by rw [hW]; exact hc))
  rw [hW] at hE hD
  obtain ⟨la, hla, hla', hl2, hl32, hlu⟩ := last_nat b.may
  have hok4 : Ok (lastD D h T tail) := by
    have := (recS_len b.ok h h.log.length).2
    rw [rec_lying b.up b.may hl (.inr hc)] at this
    exact this
  have up4 : (lastD D h T tail).down = false := by unfold lastD; split <;> exact b.up
  have nc4 : (lastD D h T tail).counts = false := by unfold lastD; split <;> exact hc
  have cap4 : (lastD D h T tail).cap = D.cap := by unfold lastD; split <;> rfl
  have oth4 : ∀ k, k ≠ la → (lastD D h T tail).tp k = D.tp k := fun k hk => by
    unfold lastD
    split
    · rfl
    · rw [hla']; exact setT_other _ _ _ _ hk
  have la4 : tx ((lastD D h T tail).tp la) = recR (T (lastT h)) ++ [] := by
    unfold lastD
    split
    · rename_i h0
      have := hl.last
      rw [h0, hla'] at this
      exact this
    · rw [hla', setT_same, List.append_nil]; exact B_list _
  rw [loose_nc hok4.firm up4 nc4 _ 32 (Nat.le_refl _)] at hE hD
  have hD : openD D0 = withT (lastD D h T tail) (looseT (lastD D h T tail) (fun t => h.uses t) 32) := hD
  have hok5 : Ok (openD D0) := by
    have := looseS_ok hok4 (fun t => h.uses t) 32
    rw [loose_nc hok4.firm up4 nc4 _ 32 (Nat.le_refl _)] at this
    rw [hD]; exact this
  have htx : ∀ k, tx ((openD D0).tp k) = tx ((lastD D h T tail).tp k) := fun k => by
    rw [hD]
    show tx (looseT _ _ 32 k) = _
    unfold looseT
    split <;> rfl
  have hsz : ∀ k, ((openD D0).tp k).b.size = ((lastD D h T tail).tp k).b.size := fun k => by rw [← tx_len, htx, tx_len]
  have hfirm : AllFirm (openD D0) := fun k hk => by
    by_cases hu : h.uses (k : Nat) = true
    · have : (openD D0).tp k = firmT ((lastD D h T tail).tp k) := by rw [hD]; show looseT (lastD D h T tail) (fun t => h.uses (t : Nat)) 32 k = _; unfold looseT; rw [if_pos ⟨hk, hu⟩]
      rw [this]; rfl
    · have hne : k ≠ la := fun e => hu (by rw [e]; exact hlu)
      have : (openD D0).tp k = D.tp k := by rw [hD]; show looseT (lastD D h T tail) (fun t => h.uses (t : Nat)) 32 k = _; unfold looseT; rw [if_neg (fun h => hu h.2)]; exact oth4 k hne
      rw [this]
      by_cases h2 : k < 2
      · exact b.two k h2
      · have h0 := b.free k (by omega) hk (by simpa using hu)
        have := b.ok.firm k hk
        omega
  have hl4 : Lying (lastD D h T tail).tp h T s [] := by
    refine ⟨fun h0 => ?_, hl.sno, fun t ht hne => ?_, by rw [hla']; exact la4, hl.small, readL_nil⟩
    · obtain ⟨x1, x2, x3, _⟩ := snap_in b.may h0
      rw [oth4 _ (fun e => x3 (by rw [show h.snap = (la : Int) from by omega, ← hla]; exact lastT_mem b.may))]
      exact hl.snap h0
    · have := log_in b.may ht
      rw [oth4 _ (fun e => hne (by rw [hla]; omega))]
      exact hl.logs t ht hne
  have hbase : Base (openD D0) h := ⟨hok5, by rw [hD]; exact up4, b.may, fun k hk => hfirm k (by omega), fun t h2 h3 hu => by
    have hne : t ≠ la := fun e => by rw [e, hlu] at hu; cases hu
    rw [hsz, oth4 t hne]; exact b.free t h2 h3 hu, by
    have : Hd.diskV (openD D0) = Hd.diskV D := disk_bytes fun k hk => by
      have e1 := htx k
      rw [oth4 k (by omega)] at e1
      have := b_eq e1
      rw [this, B_of]
    rw [this]; exact b.head⟩
  refine ⟨hS, hR, hE, Inv.of_all hbase (hl4.congr b.may fun t _ _ _ => htx t) hfirm, hfirm, by rw [hD]; exact nc4, by rw [hD]; exact cap4, fun k hk hne => by rw [htx, oth4 k (fun e => hne (by rw [hla, e]))]⟩
/-- Open, of a disk that does not fail, whose tapes lie as the head that counts names them. -/
theorem open_nc {D : DiskV} {h : Hd.HV} {T : Int → List (List UInt8)} {s : ByteArray} {tail : List UInt8} (ho : Ok D) (hd : D.down = false) (hc : D.counts = false) (hv : (Hd.diskV D).1 = h ∧ (Hd.diskV D).2.2 = true) (hm : h.may = true) (hl : Lying D.tp h T s tail) :
    (oL D).2.2 = h ∧ oS D = (0, decide (h.snap ≠ 0), s) ∧ (oR D).1 = recsOf h T ∧ openE D = 0 ∧ Inv (openD D) h T s ∧ AllFirm (openD D) ∧ (openD D).counts = false ∧ (openD D).cap = D.cap ∧
    (∀ k : Nat, k < 32 → (k : Int) ≠ lastT h → tx ((openD D).tp k) = if 2 ≤ k ∧ h.uses (k : Nat) = false then [] else tx (D.tp k)) := by
  obtain ⟨e1, e2, e3, hh, b, nc, cap, w1, w2⟩ := open_base ho hd hc hv hm
  have hlW : Lying (oW D).2.tp h T s tail := hl.congr hm fun t h2 h3 hu => by rw [w2 t h2 h3, if_pos hu]
  obtain ⟨a1, a2, a3, a4, a5, a6, a7, a8⟩ := open_end rfl e1 e2 e3 hh b hlW nc
  refine ⟨hh, a1, a2, a3, a4, a5, a6, a7.trans cap, fun k hk hne => ?_⟩
  rw [a8 k hk hne]
  by_cases h2 : k < 2
  · rw [w1 k h2, if_neg (by omega)]; rfl
  · rw [w2 k (by omega) hk]
    cases hu : h.uses (k : Nat)
    · rw [if_neg (by simp), if_pos ⟨by omega, rfl⟩]; rfl
    · rw [if_pos rfl, if_neg (by simp)]
end Vp
end Go.Proofs.YtpfoekfbcpinlaaGreatDoor
/- Plain law: what a Put leaves; what a disk is worth that failed. -/
namespace Go.Proofs.YtpfoekfbcpinlaaGreatDoor
open Go.RowKit
set_option linter.unusedVariables false

namespace Vp
/-- The disk as it is when it is back, if nothing is lost. -/
def lit (D : DiskV) : DiskV := ⟨D.tp, D.cap, false, 0, false⟩
theorem lit_ok {D : DiskV} (h : Ok D) : Ok (lit D) := ⟨h.firm, h.most, h.cap, h.cap2, h.room, by show (-1 : Int) ≤ 0; decide, by show (0 : Int) ≤ _; decide, fun h => by cases h⟩
theorem diskV_tp {D E : DiskV} (h : ∀ k, k < 2 → E.tp k = D.tp k) : Hd.diskV E = Hd.diskV D := disk_bytes fun k hk => by rw [h k hk]
theorem Inv.of_tp {D E : DiskV} {h : Hd.HV} {T : Int → List (List UInt8)} {s : ByteArray} (i : Inv D h T s) (ho : Ok E) (hu : E.down = false) (ht : E.tp = D.tp) : Inv E h T s := by
  have hv : Hd.diskV E = Hd.diskV D := diskV_tp fun k _ => by rw [ht]
  refine ⟨⟨ho, hu, i.base.may, by rw [ht]; exact i.base.two, by rw [ht]; exact i.base.free, by rw [hv]; exact i.base.head⟩, by rw [ht]; exact i.lie, by rw [ht]; exact i.firm, by rw [ht]; exact i.sfirm, by rw [ht]; exact i.lfirm⟩
theorem Inv.lit {D : DiskV} {h : Hd.HV} {T : Int → List (List UInt8)} {s : ByteArray} (i : Inv D h T s) : Inv (lit D) h T s := i.of_tp (lit_ok i.base.ok) rfl rfl
theorem bytes_ok {h : Hd.HV} (hm : h.may = true) : (Hd.bytesV h).size = h.enc.length + 9 ∧ (Hd.bytesV h).size ≤ 400 ∧ (Hd.bytesV h).size = HSize h := by
  have := Hd.bytes_size h
  have := enc_len hm
  refine ⟨by omega, by omega, ?_⟩
  unfold HSize
  rw [if_pos hm]; omega
theorem used_with {D E : DiskV} {t : Nat} {x : TapeV} (ht : t < 32) (h : E.tp = upd D.tp t x) : used E.tp 32 + (D.tp t).b.size = used D.tp 32 + x.b.size := by
  have := used_setT D t x ht
  rw [h]; exact this
/-- A Put, with room for it. -/
structure PutO (D : DiskV) (P : Int × DiskV) (t : Nat) (s : ByteArray) : Prop where
  out : (P.1 = 0 ∧ P.2.down = false ∧ P.2.tp = upd D.tp t ⟨s, s.size⟩) ∨ (P.1 = 45 ∧ P.2.down = true ∧ (P.2.tp = D.tp ∨ P.2.tp = upd D.tp t ⟨s, 0⟩))
  cap : P.2.cap = D.cap
  cnt : P.2.counts = D.counts
  nc : D.counts = false → P.1 = 0
theorem upd_twice (tp : Nat → TapeV) (t : Nat) (x y : TapeV) : upd (upd tp t x) t y = upd tp t y := by funext k; unfold upd; split <;> rfl
theorem put_up {D : DiskV} {h : Hd.HV} (hd : D.down = false) (hm : h.may = true) (hr : (used D.tp 32 : Int) - (D.tp (Hd.otherV D)).b.size + HSize h ≤ D.cap) (ho : Ok D) : PutO D (Hd.putV D h) (Hd.otherV D) (Hd.bytesV h) := by
  have hb := bytes_ok hm
  have ht : Hd.otherV D < 32 := by have := Hd.other_le D; omega
  have hz : (D.tp (Hd.otherV D)).b.size ≤ 1048576 := ho.most _ ht
  unfold Hd.putV
  rw [if_neg (by simp [hm]), if_neg (by simp [hd])]
  generalize Hd.otherV D = t at ht hr hz ⊢
  generalize Hd.bytesV h = s at hb ⊢
  have w := wipe_up (D := D) (t := t) hd ht
  generalize hP1 : wipeV D t = P1 at w ⊢
  obtain ⟨z1, D1⟩ := P1
  rcases w.out with ⟨a1, b1, c1⟩ | ⟨a1, b1, c1⟩
  · simp only [] at a1 b1 c1
    rw [if_neg (by simp [a1])]
    simp only []
    have hu1 := used_with ht c1
    have hz0 : (blank : TapeV).b.size = 0 := rfl
    have t1 : D1.tp t = blank := by rw [c1, upd_same]
    have wr := write_up (D := D1) (t := t) (s := s) b1 ht (by rw [t1, hz0]; omega) (by rw [show D1.cap = D.cap from w.cap]; omega)
    have hx : (⟨(D1.tp t).b ++ s, (D1.tp t).firm⟩ : TapeV) = ⟨s, 0⟩ := by rw [t1]; exact congrArg (fun b => (⟨b, 0⟩ : TapeV)) (show (⟨#[]⟩ : ByteArray) ++ s = s from ByteArray.empty_append)
    rw [hx] at wr
    generalize hP2 : writeV D1 t s = P2 at wr ⊢
    obtain ⟨z2, D2⟩ := P2
    rcases wr.out with ⟨a2, b2, c2⟩ | ⟨a2, b2, c2⟩
    · simp only [] at a2 b2 c2
      rw [if_neg (by simp [a2])]
      have c2' : D2.tp = upd D.tp t ⟨s, 0⟩ := by rw [c2, c1, upd_twice]
      have sy := sync_up (D := D2) (t := t) b2 ht
      have hy : firmT (D2.tp t) = ⟨s, s.size⟩ := by rw [c2', upd_same]; rfl
      rw [hy] at sy
      refine ⟨?_, by rw [sy.cap]; exact wr.cap.trans w.cap, by rw [sy.cnt]; exact wr.cnt.trans w.cnt, fun hc => (sy.nc (by rw [show D2.counts = D1.counts from wr.cnt, show D1.counts = D.counts from w.cnt]; exact hc)).1⟩
      rcases sy.out with ⟨a3, b3, c3⟩ | ⟨a3, b3, c3⟩
      · exact .inl ⟨a3, b3, by rw [c3, c2', upd_twice]⟩
      · exact .inr ⟨a3, b3, .inr (by rw [c3, upd_id, c2'])⟩
    · simp only [] at a2 b2 c2
      rw [if_pos (by simp [a2])]
      refine ⟨.inr ⟨a2, b2, .inr (by show D2.tp = _; rw [c2, c1, upd_twice])⟩, wr.cap.trans w.cap, wr.cnt.trans w.cnt, fun hc => ?_⟩
      have := (wr.nc (by rw [show D1.counts = D.counts from w.cnt]; exact hc)).1
      exact this
  · simp only [] at a1 b1 c1
    rw [if_pos (by simp [a1])]
    refine ⟨.inr ⟨a1, b1, .inl (by show D1.tp = _; rw [c1, upd_id])⟩, w.cap, w.cnt, fun hc => ?_⟩
    exact (w.nc hc).1
/-- What counts behind a Put of a head of a greater generation. -/
theorem put_head {D E : DiskV} {h0 h : Hd.HV} (hv : (Hd.diskV D).1 = h0 ∧ (Hd.diskV D).2.2 = true) (hm : h.may = true) (hg : h0.gen < h.gen) (hE : ∀ k, k < 2 → k ≠ Hd.otherV D → tx (E.tp k) = tx (D.tp k)) (hb : tx (E.tp (Hd.otherV D)) = tx ⟨Hd.bytesV h, 0⟩) : (Hd.diskV E).1 = h ∧ (Hd.diskV E).2.2 = true := by
  have hlt := Hd.other_le D
  have h1 := (Hd.may_first hm).1
  have ho : (E.tp (1 - Hd.otherV D)).b = (D.tp (1 - Hd.otherV D)).b := by rw [b_eq (hE _ (by omega) (by omega)), B_of]
  let E' : DiskV := ⟨fun k => if k = 1 - Hd.otherV D then D.tp k else E.tp k, 0, false, 0, false⟩
  have hE' : Hd.diskV E = Hd.diskV E' := disk_bytes fun k hk => by
    show (E.tp k).b = (if k = 1 - Hd.otherV D then D.tp k else E.tp k).b
    split
    · rename_i e; rw [e]; exact ho
    · rfl
  have hat : (Hd.ofV (E'.tp (Hd.otherV D)).b.data.toList).1 = h := by
    show (Hd.ofV (if Hd.otherV D = 1 - Hd.otherV D then D.tp (Hd.otherV D) else E.tp (Hd.otherV D)).b.data.toList).1 = h
    rw [if_neg (by omega), show (E.tp (Hd.otherV D)).b.data.toList = (Hd.bytesV h).data.toList from hb, Hd.ofV_bytes hm]
  have := (Hd.disk_after (D := D) (E := E') (by show (if 1 - Hd.otherV D = 1 - Hd.otherV D then _ else _) = _; rw [if_pos rfl])).2 h (by omega) (by omega) hat (fun _ => by rw [hv.1]; exact hg)
  rw [hE', this]
  exact ⟨rfl, rfl⟩
/-- .. where the other tape is no head. -/
theorem torn_head {D E : DiskV} (hE : ∀ k, k < 2 → k ≠ Hd.otherV D → tx (E.tp k) = tx (D.tp k)) (hb : (Hd.ofV (tx (E.tp (Hd.otherV D)))).1 = Hd.HV.zero) : Hd.diskV E = Hd.diskV D := by
  have hlt := Hd.other_le D
  have ho : (E.tp (1 - Hd.otherV D)).b = (D.tp (1 - Hd.otherV D)).b := by rw [b_eq (hE _ (by omega) (by omega)), B_of]
  let E' : DiskV := ⟨fun k => if k = 1 - Hd.otherV D then D.tp k else E.tp k, 0, false, 0, false⟩
  have hE' : Hd.diskV E = Hd.diskV E' := disk_bytes fun k hk => by
    show (E.tp k).b = (if k = 1 - Hd.otherV D then D.tp k else E.tp k).b
    split
    · rename_i e; rw [e]; exact ho
    · rfl
  have hat : (Hd.ofV (E'.tp (Hd.otherV D)).b.data.toList).1 = Hd.HV.zero := by
    show (Hd.ofV (if Hd.otherV D = 1 - Hd.otherV D then D.tp (Hd.otherV D) else E.tp (Hd.otherV D)).b.data.toList).1 = _
    rw [if_neg (by omega)]; exact hb
  rw [hE']
  exact (Hd.disk_after (D := D) (E := E') (by show (if 1 - Hd.otherV D = 1 - Hd.otherV D then _ else _) = _; rw [if_pos rfl])).1 hat
/-- What is on a disk that came back from D: of each tape what was firm, and a beginning of what was loose. -/
def Cuts (D E : DiskV) : Prop := ∀ k, k < 32 → Cut (D.tp k) (E.tp k)
/-- Whatever of it stays: a vault on it finds what P says. -/
def Back1 (D : DiskV) (P : Hd.HV → List (List UInt8) → ByteArray → Prop) : Prop :=
  ∀ E, Cuts D E → ∃ h T s tail, ((Hd.diskV E).1 = h ∧ (Hd.diskV E).2.2 = true) ∧ h.may = true ∧ Lying E.tp h T s tail ∧ P h (recsOf h T) s
theorem Back1.mono {D : DiskV} {P Q : Hd.HV → List (List UInt8) → ByteArray → Prop} (h : Back1 D P) (hq : ∀ h l s, P h l s → Q h l s) : Back1 D Q := fun E hE => by
  obtain ⟨a, b, c, d, e, f, g, i⟩ := h E hE
  exact ⟨a, b, c, d, e, f, g, hq _ _ _ i⟩
theorem Back1.tp {D D' : DiskV} {P : Hd.HV → List (List UInt8) → ByteArray → Prop} (h : Back1 D P) (ht : D'.tp = D.tp) : Back1 D' P := fun E hE => h E (fun k hk => by rw [← ht]; exact hE k hk)
def updT (T : Int → List (List UInt8)) (t : Int) (l : List (List UInt8)) : Int → List (List UInt8) := fun u => if u = t then l else T u
theorem updT_same (T : Int → List (List UInt8)) (t : Int) (l : List (List UInt8)) : updT T t l t = l := if_pos rfl
theorem updT_other (T : Int → List (List UInt8)) {t u : Int} (l : List (List UInt8)) (h : u ≠ t) : updT T t l u = T u := if_neg h
theorem recs_pre {h : Hd.HV} {T : Int → List (List UInt8)} (hm : h.may = true) : ∃ pre, ∀ l, recsOf h (updT T (lastT h) l) = pre ++ l ∧ recsOf h T = pre ++ T (lastT h) := by
  obtain ⟨pre, hp, hn, _⟩ := log_cut hm
  obtain ⟨la, hla⟩ : ∃ la, la = lastT h := ⟨_, rfl⟩
  rw [← hla] at hp hn ⊢
  refine ⟨pre.flatMap T, fun l => ⟨?_, ?_⟩⟩
  · unfold recsOf
    rw [hp, List.flatMap_append]
    have e1 : pre.flatMap (updT T la l) = pre.flatMap T := by
      rw [List.flatMap_def, List.flatMap_def]
      congr 1
      exact List.map_congr_left fun u hu => updT_other _ _ (fun e => hn (e ▸ hu))
    rw [e1]
    simp [updT_same]
  · unfold recsOf
    rw [hp, List.flatMap_append]
    simp
/-- The records of a disk as a vault leaves it that are surely firm, and what a vault finds where it came back. -/
theorem Inv.back {D D' : DiskV} {h : Hd.HV} {T : Int → List (List UInt8)} {s : ByteArray} (i : Inv D h T s) (ht : ∀ k, k < 32 → h.uses (k : Nat) = true ∨ k < 2 → D'.tp k = D.tp k) {j0 : Nat} (hj : j0 ≤ (T (lastT h)).length) (hf : (D.tp (lastT h).toNat).firm = (recR ((T (lastT h)).take j0)).length) :
    Back1 D' fun h' l s' => h' = h ∧ s' = s ∧ ∃ j, j0 ≤ j ∧ j ≤ (T (lastT h)).length ∧ l = recsOf h (updT T (lastT h) ((T (lastT h)).take j)) := by
  intro E hE
  obtain ⟨la, hla, hla', hl2, hl32, hlu⟩ := last_nat i.base.may
  have hsame : ∀ k, k < 32 → (h.uses (k : Nat) = true ∨ k < 2) → k ≠ la → E.tp k = D.tp k := fun k hk hu hne => by
    have := (hE k hk)
    rw [ht k hk hu] at this
    exact this.of_firm (i.others hk (by rw [hla]; omega))
  have hcl := hE la hl32
  rw [ht la hl32 (.inl hlu)] at hcl
  obtain ⟨k, k1, k2, k3, k4⟩ := hcl.list
  have hlast := i.lie.last
  rw [List.append_nil, hla'] at hlast
  have hsm := i.lie.small _ (lastT_mem i.base.may)
  rw [show (D.tp la).b.data.toList = recR (T (lastT h)) from hlast] at k3
  have hz : (D.tp la).b.size = (recR (T (lastT h))).length := by rw [← tx_len, hlast]
  obtain ⟨j, tail, hj1, he, htail, hmono⟩ := cut_rec hsm k (by omega)
  rw [hla'] at hf
  have hj2 := hmono j0 hj (by omega)
  refine ⟨h, updT T (lastT h) ((T (lastT h)).take j), s, tail, ?_, i.base.may, ⟨fun h0 => ?_, i.lie.sno, fun t htl hne => ?_, ?_, fun t htl => ?_, htail⟩, rfl, rfl, j, hj2, hj1, rfl⟩
  · have : Hd.diskV E = Hd.diskV D := diskV_tp fun k hk => hsame k (by omega) (.inr hk) (by omega)
    rw [this]; exact i.base.head
  · obtain ⟨a, b, c, d⟩ := snap_in i.base.may h0
    have : E.tp h.snap.toNat = D.tp h.snap.toNat := hsame _ (by omega) (.inl (by rw [show ((h.snap.toNat : Nat) : Int) = h.snap from by omega]; exact d)) (fun e => c (by rw [show h.snap = (la : Int) from by omega, ← hla]; exact lastT_mem i.base.may))
    rw [this]; exact i.lie.snap h0
  · have := log_in i.base.may htl
    have : E.tp t.toNat = D.tp t.toNat := hsame _ (by omega) (.inl (by rw [show ((t.toNat : Nat) : Int) = t from by omega]; exact log_uses htl)) (fun e => hne (by rw [hla]; omega))
    rw [this, updT_other _ _ hne]; exact i.lie.logs t htl hne
  · rw [hla', updT_same]
    show (E.tp la).b.data.toList = _
    rw [k3, he]
  · by_cases e : t = lastT h
    · rw [e, updT_same]; exact hsm.take j
    · rw [updT_other _ _ e]; exact i.lie.small t htl
end Vp
end Go.Proofs.YtpfoekfbcpinlaaGreatDoor
/- Plain law: Sync, Add. -/
namespace Go.Proofs.YtpfoekfbcpinlaaGreatDoor
open Go.RowKit
set_option linter.unusedVariables false

namespace Vp
/-- So many records, at least, are firm. -/
def FirmAt (D : DiskV) (h : Hd.HV) (T : Int → List (List UInt8)) (c : Nat) : Prop :=
  ∃ j, j ≤ (T (lastT h)).length ∧ (D.tp (lastT h).toNat).firm = (recR ((T (lastT h)).take j)).length ∧ c ≤ (recsOf h (updT T (lastT h) ((T (lastT h)).take j))).length
theorem recs_len {h : Hd.HV} {T : Int → List (List UInt8)} (hm : h.may = true) : ∃ p, p + (T (lastT h)).length = (recsOf h T).length ∧ ∀ j, j ≤ (T (lastT h)).length → recsOf h (updT T (lastT h) ((T (lastT h)).take j)) = (recsOf h T).take (p + j) := by
  obtain ⟨pre, hp⟩ := recs_pre (T := T) hm
  refine ⟨pre.length, by rw [(hp []).2, List.length_append], fun j hj => ?_⟩
  rw [(hp _).1, (hp []).2, List.take_append, show pre.length + j - pre.length = j from by omega, List.take_of_length_le (l := pre) (by omega)]
theorem FirmAt.le {D : DiskV} {h : Hd.HV} {T : Int → List (List UInt8)} {c : Nat} (hm : h.may = true) (hf : FirmAt D h T c) : c ≤ (recsOf h T).length := by
  obtain ⟨j, h1, _, h3⟩ := hf
  obtain ⟨p, hp, hr⟩ := recs_len (T := T) hm
  rw [hr j h1, List.length_take] at h3
  omega
theorem FirmAt.less {D : DiskV} {h : Hd.HV} {T : Int → List (List UInt8)} {c d : Nat} (hf : FirmAt D h T c) (hd : d ≤ c) : FirmAt D h T d := by
  obtain ⟨j, h1, h2, h3⟩ := hf
  exact ⟨j, h1, h2, by omega⟩
/-- What a vault finds of it, back. -/
theorem Inv.finds {D D' : DiskV} {h : Hd.HV} {T : Int → List (List UInt8)} {s : ByteArray} {c : Nat} (i : Inv D h T s) (ht : ∀ k, k < 32 → h.uses (k : Nat) = true ∨ k < 2 → D'.tp k = D.tp k) (hf : FirmAt D h T c) :
    Back1 D' fun h' l s' => h' = h ∧ s' = s ∧ ∃ k, c ≤ k ∧ k ≤ (recsOf h T).length ∧ l = (recsOf h T).take k := by
  obtain ⟨j0, h1, h2, h3⟩ := hf
  obtain ⟨p, hp, hr⟩ := recs_len (T := T) i.base.may
  refine (i.back ht h1 h2).mono ?_
  rintro h' l s' ⟨rfl, rfl, j, hj1, hj2, rfl⟩
  rw [hr j0 h1, List.length_take] at h3
  exact ⟨rfl, rfl, p + j, by omega, by omega, hr j hj2⟩
theorem Inv.firmAll {D : DiskV} {h : Hd.HV} {T : Int → List (List UInt8)} {s : ByteArray} (i : Inv D h T s) (hf : AllFirm D) : FirmAt D h T (recsOf h T).length := by
  obtain ⟨la, hla, hla', hl2, hl32, hlu⟩ := last_nat i.base.may
  refine ⟨(T (lastT h)).length, Nat.le_refl _, ?_, ?_⟩
  · rw [List.take_length, hla', hf la hl32, ← tx_len]
    have := i.lie.last
    rw [List.append_nil, hla'] at this
    rw [this]
  · obtain ⟨p, hp, hr⟩ := recs_len (T := T) i.base.may
    rw [hr _ (Nat.le_refl _), List.length_take]; omega
theorem Inv.firmSome {D : DiskV} {h : Hd.HV} {T : Int → List (List UInt8)} {s : ByteArray} (i : Inv D h T s) : FirmAt D h T 0 := by
  obtain ⟨j, h1, h2⟩ := i.lfirm
  exact ⟨j, h1, h2, Nat.zero_le _⟩
/-- Records written behind the last ones. -/
theorem Inv.wrote {D D' : DiskV} {h : Hd.HV} {T : Int → List (List UInt8)} {s : ByteArray} {b : List UInt8} {c : Nat} (i : Inv D h T s) (hb : b.length ≤ 262144) (ho : Ok D') (hu : D'.down = false) (ht : D'.tp = upd D.tp (lastT h).toNat ⟨(D.tp (lastT h).toNat).b ++ B (Fr.fr 1 b), (D.tp (lastT h).toNat).firm⟩) (hf : FirmAt D h T c) :
    Inv D' h (updT T (lastT h) (T (lastT h) ++ [b])) s ∧ FirmAt D' h (updT T (lastT h) (T (lastT h) ++ [b])) c := by
  obtain ⟨la, hla, hla', hl2, hl32, hlu⟩ := last_nat i.base.may
  rw [hla'] at ht
  have hoth : ∀ k, k ≠ la → D'.tp k = D.tp k := fun k hk => by rw [ht, upd_other _ _ hk]
  have hat : D'.tp la = ⟨(D.tp la).b ++ B (Fr.fr 1 b), (D.tp la).firm⟩ := by rw [ht, upd_same]
  have hlast := i.lie.last
  rw [List.append_nil, hla'] at hlast
  have hnew : tx (D'.tp la) = recR (T (lastT h) ++ [b]) := by
    rw [hat, recR_append, recR_one, ← hlast]
    show ((D.tp la).b ++ B (Fr.fr 1 b)).data.toList = _
    rw [ByteArray.data_append, Array.toList_append, B_list]
  have hv : Hd.diskV D' = Hd.diskV D := diskV_tp fun k hk => hoth k (by omega)
  have hne : ∀ t ∈ h.log, t ≠ lastT h → t.toNat ≠ la := fun t ht hne e => hne (by have := log_in i.base.may ht; omega)
  have hsn : h.snap ≠ 0 → h.snap.toNat ≠ la := fun h0 e => by
    obtain ⟨a, b, c, d⟩ := snap_in i.base.may h0
    exact c (by rw [show h.snap = (la : Int) from by omega, ← hla]; exact lastT_mem i.base.may)
  have hf' : ∀ j, j ≤ (T (lastT h)).length → (D.tp (lastT h).toNat).firm = (recR ((T (lastT h)).take j)).length → j ≤ (updT T (lastT h) (T (lastT h) ++ [b]) (lastT h)).length ∧ (D'.tp (lastT h).toNat).firm = (recR (((updT T (lastT h) (T (lastT h) ++ [b])) (lastT h)).take j)).length := fun j h1 h2 => by
    rw [updT_same, hla', hat, List.length_append, List.take_append_of_le_length h1]
    rw [hla'] at h2
    exact ⟨by omega, h2⟩
  refine ⟨⟨⟨ho, hu, i.base.may, fun k hk => by rw [hoth k (by omega)]; exact i.base.two k hk, fun t h2 h3 hut => by rw [hoth t (fun e => by rw [e, hlu] at hut; cases hut)]; exact i.base.free t h2 h3 hut, by rw [hv]; exact i.base.head⟩,
    ⟨fun h0 => by rw [hoth _ (hsn h0)]; exact i.lie.snap h0, i.lie.sno, fun t htl hn => by rw [hoth _ (hne t htl hn), updT_other _ _ hn]; exact i.lie.logs t htl hn, by rw [hla', updT_same, List.append_nil]; exact hnew, fun t htl => ?_, readL_nil⟩,
    fun t htl hn => by rw [hoth _ (hne t htl hn)]; exact i.firm t htl hn, fun h0 => by rw [hoth _ (hsn h0)]; exact i.sfirm h0, ?_⟩, ?_⟩
  · by_cases e : t = lastT h
    · rw [e, updT_same]; exact (i.lie.small _ (lastT_mem i.base.may)).app (Small.one hb)
    · rw [updT_other _ _ e]; exact i.lie.small t htl
  · obtain ⟨j, h1, h2⟩ := i.lfirm
    exact ⟨j, hf' j h1 h2⟩
  · obtain ⟨j, h1, h2, h3⟩ := hf
    obtain ⟨h4, h5⟩ := hf' j h1 h2
    refine ⟨j, h4, h5, ?_⟩
    rw [updT_same, List.take_append_of_le_length h1]
    have : recsOf h (updT (updT T (lastT h) (T (lastT h) ++ [b])) (lastT h) ((T (lastT h)).take j)) = recsOf h (updT T (lastT h) ((T (lastT h)).take j)) := by
      unfold recsOf
      rw [List.flatMap_def, List.flatMap_def]
      congr 1
      exact List.map_congr_left fun u hu => by
        by_cases e : u = lastT h
        · rw [e, updT_same, updT_same]
        · rw [updT_other _ _ e, updT_other _ _ e, updT_other _ _ e]
    rw [this]; exact h3
theorem recs_snoc {h : Hd.HV} {T : Int → List (List UInt8)} {b : List UInt8} (hm : h.may = true) : recsOf h (updT T (lastT h) (T (lastT h) ++ [b])) = recsOf h T ++ [b] := by
  obtain ⟨pre, hp⟩ := recs_pre (T := T) hm
  rw [(hp _).1, (hp []).2, List.append_assoc]
/-- What Sync leaves. -/
theorem Inv.synced {D D' : DiskV} {h : Hd.HV} {T : Int → List (List UInt8)} {s : ByteArray} (i : Inv D h T s) (ho : Ok D') (hu : D'.down = false) (ht : D'.tp = upd D.tp (lastT h).toNat (firmT (D.tp (lastT h).toNat))) : Inv D' h T s ∧ AllFirm D' := by
  obtain ⟨la, hla, hla', hl2, hl32, hlu⟩ := last_nat i.base.may
  rw [hla'] at ht
  have hb : ∀ k, tx (D'.tp k) = tx (D.tp k) := fun k => by
    rw [ht]
    by_cases e : k = la
    · subst e; rw [upd_same]; rfl
    · rw [upd_other _ _ e]
  have hbz : ∀ k, (D'.tp k).b.size = (D.tp k).b.size := fun k => by rw [← tx_len, hb, tx_len]
  have hfirm : AllFirm D' := fun k hk => by
    rw [ht]
    by_cases e : k = la
    · subst e; rw [upd_same]; rfl
    · rw [upd_other _ _ e]; exact i.others hk (by rw [hla]; omega)
  have hbase : Base D' h := ⟨ho, hu, i.base.may, fun k hk => hfirm k (by omega), fun t h2 h3 hu => by rw [hbz]; exact i.base.free t h2 h3 hu, by
    have : Hd.diskV D' = Hd.diskV D := diskV_tp fun k hk => by rw [ht, upd_other _ _ (by omega)]
    rw [this]; exact i.base.head⟩
  exact ⟨Inv.of_all hbase (i.lie.congr i.base.may fun t _ _ _ => hb t) hfirm, hfirm⟩
/-- Sync. -/
theorem sync_law {D : DiskV} {h : Hd.HV} {T : Int → List (List UInt8)} {s : ByteArray} (i : Inv D h T s) :
    ((syncV D (lastT h)).1 = 0 ∧ Inv (syncV D (lastT h)).2 h T s ∧ AllFirm (syncV D (lastT h)).2 ∧ (syncV D (lastT h)).2.tp = upd D.tp (lastT h).toNat (firmT (D.tp (lastT h).toNat))) ∨ ((syncV D (lastT h)).1 = 45 ∧ (syncV D (lastT h)).2.down = true ∧ (syncV D (lastT h)).2.tp = D.tp ∧ D.counts = true) := by
  obtain ⟨la, hla, hla', hl2, hl32, hlu⟩ := last_nat i.base.may
  have hok : Ok (syncV D (lastT h)).2 := i.base.ok.sync _
  have so := sync_up (D := D) (t := la) i.base.up hl32
  rw [← hla] at so
  rcases so.out with ⟨a, b, c⟩ | ⟨a, b, c⟩
  · obtain ⟨x, y⟩ := i.synced hok b (by rw [hla']; exact c)
    exact .inl ⟨a, x, y, by rw [hla']; exact c⟩
  · refine .inr ⟨a, b, by rw [c, upd_id], ?_⟩
    cases hc : D.counts
    · have := (so.nc hc).1; rw [a] at this; exact absurd this (by decide)
    · rfl
end Vp
end Go.Proofs.YtpfoekfbcpinlaaGreatDoor
