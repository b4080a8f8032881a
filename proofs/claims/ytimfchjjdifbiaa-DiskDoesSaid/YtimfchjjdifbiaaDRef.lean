/- The reference's disk: as a value, what is done with it, and that it does as the disk does. Plain law. -/
import Derived.Test.YtimfchjjdifbiaaDiskSame
import Derived.Test.YtimfchjjdifbiaaRowSet
namespace Go.Proofs.Ytimfchjjdifbiaa
open Go.RowKit
set_option linter.unusedVariables false

structure RefV where
  t : Nat → ByteArray × ByteArray
  cap : Int
  dark : Bool
  left : Int
def setR (R : RefV) (t : Nat) (x : ByteArray × ByteArray) : RefV := { R with t := fun k => if k = t then x else R.t k }
def usedR (f : Nat → ByteArray × ByteArray) : Nat → Nat
  | 0 => 0
  | k + 1 => usedR f k + (f k).1.size + (f k).2.size
def wrongR (R : RefV) (t : Int) : Int := if R.dark = true then 45 else if t < 0 ∨ 32 ≤ t then 1 else 0
def turnR (R : RefV) : Bool × RefV := if R.left < 0 then (true, R) else if R.left = 0 then (false, { R with dark := true }) else (true, { R with left := R.left - 1 })
def bothR (R : RefV) (t : Int) : ByteArray := (R.t t.toNat).1 ++ (R.t t.toNat).2
def syncR (R : RefV) (t : Int) : Int × RefV := if wrongR R t = 0 then (if (turnR R).1 = true then (0, setR (turnR R).2 t.toNat (bothR R t, ⟨#[]⟩)) else (45, (turnR R).2)) else (wrongR R t, R)
def wipeR (R : RefV) (t : Int) : Int × RefV := if wrongR R t = 0 then (if (turnR R).1 = true then (0, setR (turnR R).2 t.toNat (⟨#[]⟩, ⟨#[]⟩)) else (45, (turnR R).2)) else (wrongR R t, R)
def trimR (R : RefV) (t n : Int) : Int × RefV := if wrongR R t = 0 then (if n < 0 ∨ ((bothR R t).size : Int) < n then (1, R) else if (turnR R).1 = true then (0, setR (turnR R).2 t.toNat ((bothR R t).extract 0 n.toNat, ⟨#[]⟩)) else (45, (turnR R).2)) else (wrongR R t, R)
def writeR (R : RefV) (t : Int) (s : ByteArray) : Int × RefV :=
  if wrongR R t = 0 then (if 1048576 < (R.t t.toNat).1.size + (R.t t.toNat).2.size + s.size then (40, R) else if R.cap < (usedR R.t 32 : Int) + s.size then (44, R)
    else (if (turnR R).1 = true then 0 else 45, setR (turnR R).2 t.toNat ((R.t t.toNat).1, (R.t t.toNat).2 ++ s))) else (wrongR R t, R)
def readR (R : RefV) (t : Int) : ByteArray × Int := if wrongR R t = 0 then (bothR R t, 0) else (⟨#[]⟩, wrongR R t)
def failR (R : RefV) (n : Int) : Int × RefV := if R.dark = true then (45, R) else if n < 0 then (1, R) else (0, { R with left := n })
def stayR (kl : Nat) (kf : Nat → Int) (m turn : Nat) : Nat := if turn < kl then keepN (kf turn) m else 0
def backRS (kl : Nat) (kf : Nat → Int) (x : ByteArray × ByteArray) (turn : Nat) : (ByteArray × ByteArray) × Nat :=
  if x.2.size = 0 then (x, turn) else ((x.1 ++ x.2.extract 0 (stayR kl kf x.2.size turn), ⟨#[]⟩), turn + 1)
def backRT (kl : Nat) (kf : Nat → Int) (f : Nat → ByteArray × ByteArray) : Nat → (Nat → ByteArray × ByteArray) × Nat
  | 0 => (f, 0)
  | k + 1 => (fun j => if j = k then (backRS kl kf (f k) (backRT kl kf f k).2).1 else (backRT kl kf f k).1 j, (backRS kl kf (f k) (backRT kl kf f k).2).2)
def backR (R : RefV) (kl : Nat) (kf : Nat → Int) : RefV := ⟨(backRT kl kf R.t 32).1, R.cap, false, -1⟩
def tellR (R : RefV) (a : ActV) : (ByteArray × Int) × RefV :=
  match a.what with
  | 0 => ((⟨#[]⟩, (writeR R a.t a.s).1), (writeR R a.t a.s).2)
  | 1 => ((⟨#[]⟩, (syncR R a.t).1), (syncR R a.t).2)
  | 2 => ((⟨#[]⟩, (trimR R a.t a.n).1), (trimR R a.t a.n).2)
  | 3 => ((⟨#[]⟩, (wipeR R a.t).1), (wipeR R a.t).2)
  | 4 => (readR R a.t, R)
  | 5 => ((⟨#[]⟩, (failR R a.n).1), (failR R a.n).2)
  | _ + 6 => ((⟨#[]⟩, 0), backR R a.kl a.kf)
/-! ### It does as the disk does -/
theorem wrongR_in {R : RefV} {t : Int} (h : wrongR R t = 0) : ∃ k : Nat, t = k ∧ k < 32 := by
  unfold wrongR at h
  split at h
  · omega
  · split at h
    · omega
    · exact ⟨t.toNat, by omega, by omega⟩
def refOf (D : DiskV) : RefV := ⟨fun k => told (D.tp k), D.cap, D.down, if D.counts = true then (if D.down = true then 0 else D.left) else -1⟩
/-- What holds, besides Ok, of what is counted. -/
structure Tidy (D : DiskV) : Prop where
  down : D.down = true → D.counts = true ∧ D.left = -1
  still : D.counts = false → D.left = 0
theorem told_size {x : TapeV} (h : x.firm ≤ x.b.size) : (told x).1.size = x.firm ∧ (told x).2.size = x.b.size - x.firm := by
  unfold told
  simp only [ByteArray.size_extract]
  omega
theorem told_both {x : TapeV} (h : x.firm ≤ x.b.size) : (told x).1 ++ (told x).2 = x.b := by
  unfold told
  simp only []
  rw [← ByteArray.extract_eq_extract_append_extract x.firm (by omega) h, ByteArray.extract_zero_size]
theorem used_told {D : DiskV} (h : ∀ t, t < 32 → (D.tp t).firm ≤ (D.tp t).b.size) : ∀ k, k ≤ 32 → usedR (fun k => told (D.tp k)) k = used D.tp k
  | 0, _ => rfl
  | k + 1, hk => by
    have ih := used_told h k (by omega)
    have := h k (by omega)
    obtain ⟨h1, h2⟩ := told_size this
    rw [usedR, used, ih]
    simp only [h1, h2]
    omega
theorem refOf_set (D : DiskV) (t : Nat) (x : TapeV) : refOf (setT D t x) = setR (refOf D) t (told x) := by
  unfold refOf setT setR
  simp only [RefV.mk.injEq, and_true]
  funext k
  split <;> rfl
theorem refOf_set_id (D : DiskV) (t : Nat) : refOf (setT D t (id (D.tp t))) = refOf D := by
  show refOf (setT D t (D.tp t)) = refOf D
  rw [setT_id]
theorem told_firm (b : ByteArray) : told ⟨b, b.size⟩ = (b, ⟨#[]⟩) := by
  unfold told
  simp only [Prod.mk.injEq]
  refine ⟨ByteArray.extract_zero_size, ?_⟩
  apply ByteArray.ext
  apply Array.ext'
  simp
theorem turn_fails {D : DiskV} (h : Ok D) (hd : D.down = false) : turnR (refOf D) = (!(failsV D).1, refOf (failsV D).2) := by
  unfold turnR failsV refOf
  cases hc : D.counts
  · simp [hc]
  · have h0 := h.ready hc hd
    simp only [hd, if_true, Bool.false_eq_true, if_false, Bool.true_eq_false]
    rw [if_neg (by omega)]
    by_cases h1 : D.left = 0
    · rw [if_pos h1]
      have : decide (D.left - 1 < 0) = true := by rw [decide_eq_true_eq]; omega
      simp [h1]
    · rw [if_neg h1]
      have : decide (D.left - 1 < 0) = false := by rw [decide_eq_false_iff_not]; omega
      simp [this]
theorem fails_tp' (D : DiskV) : (failsV D).2.tp = D.tp := by unfold failsV; split <;> rfl
/-- An op, by the reference. -/
theorem op_like {D : DiskV} (h : Ok D) (t may : Int) (dov : TapeV → TapeV) (y : ByteArray × ByteArray) (hy : ∀ k : Nat, t = k → k < 32 → may = 0 → told (dov (D.tp k)) = y) :
    ((opV D t may dov id).1, refOf (opV D t may dov id).2) =
      if wrongR (refOf D) t = 0 then (if may = 0 then (if (turnR (refOf D)).1 = true then (0, setR (turnR (refOf D)).2 t.toNat y) else (45, (turnR (refOf D)).2)) else (may, refOf D)) else (wrongR (refOf D) t, refOf D) := by
  unfold opV wrongR
  by_cases hd : D.down = true
  · rw [if_pos hd, if_pos (show (refOf D).dark = true from hd)]
    rfl
  · have hd' : D.down = false := by simpa using hd
    rw [if_neg hd, if_neg (show ¬ (refOf D).dark = true from hd)]
    by_cases ht : t < 0 ∨ 32 ≤ t
    · rw [if_pos ht, if_pos ht]
      rfl
    · rw [if_neg ht, if_neg ht, if_pos rfl]
      by_cases hm : may = 0
      · rw [if_pos hm, if_neg (by omega), turn_fails h hd']
        obtain ⟨k, rfl, hk⟩ : ∃ k : Nat, t = k ∧ k < 32 := ⟨t.toNat, by omega, by omega⟩
        have := hy k rfl hk hm
        simp only [Int.toNat_natCast]
        cases hf : (failsV D).1
        · simp only [Bool.false_eq_true, if_false, Bool.not_false, if_true]
          rw [refOf_set, this]
        · simp only [if_true, Bool.not_true, Bool.false_eq_true, if_false]
          have e : setT (failsV D).2 k (id ((failsV D).2.tp k)) = (failsV D).2 := setT_id _ _
          rw [fails_tp'] at e
          rw [e]
      · rw [if_neg hm, if_pos hm]
theorem sync_like {D : DiskV} (h : Ok D) (t : Int) : ((syncV D t).1, refOf (syncV D t).2) = syncR (refOf D) t := by
  have := op_like h t 0 (fun x => ⟨x.b, x.b.size⟩) (bothR (refOf D) t, ⟨#[]⟩) (fun k hk hk2 _ => by
    subst hk
    rw [told_firm]
    unfold bothR
    rw [Int.toNat_natCast]
    show _ = ((told (D.tp k)).1 ++ (told (D.tp k)).2, _)
    rw [told_both (h.firm k hk2)])
  rw [if_pos rfl] at this
  exact this
theorem wipe_like {D : DiskV} (h : Ok D) (t : Int) : ((wipeV D t).1, refOf (wipeV D t).2) = wipeR (refOf D) t := by
  have := op_like h t 0 (fun x => ⟨⟨#[]⟩, 0⟩) (⟨#[]⟩, ⟨#[]⟩) (fun k hk hk2 _ => told_firm ⟨#[]⟩)
  rw [if_pos rfl] at this
  exact this
theorem bothR_told {D : DiskV} (h : Ok D) (k : Nat) (hk : k < 32) : bothR (refOf D) k = (D.tp k).b := by
  unfold bothR
  rw [Int.toNat_natCast]
  exact told_both (h.firm k hk)
theorem trim_like {D : DiskV} (h : Ok D) (t n : Int) : ((trimV D t n).1, refOf (trimV D t n).2) = trimR (refOf D) t n := by
  have := op_like h t (trimMay (D.tp t.toNat).b n) (fun x => ⟨x.b.extract 0 n.toNat, n.toNat⟩) ((bothR (refOf D) t).extract 0 n.toNat, ⟨#[]⟩) (fun k hk hk2 hm => by
    subst hk
    rw [bothR_told h k hk2]
    rw [Int.toNat_natCast] at hm
    have hn : 0 ≤ n ∧ n ≤ ((D.tp k).b.size : Int) := by unfold trimMay at hm; split at hm <;> omega
    have e := told_firm ((D.tp k).b.extract 0 n.toNat)
    rw [extract_size _ _ (by omega)] at e
    exact e)
  unfold trimR
  refine Eq.trans this ?_
  by_cases hw : wrongR (refOf D) t = 0
  · rw [if_pos hw, if_pos hw]
    obtain ⟨k, rfl, hk⟩ := wrongR_in hw
    rw [bothR_told h k hk, Int.toNat_natCast]
    unfold trimMay
    by_cases hn : n < 0 ∨ ((D.tp k).b.size : Int) < n
    · rw [if_pos hn, if_pos hn, if_neg (by omega)]
    · rw [if_neg hn, if_neg hn, if_pos rfl]
  · rw [if_neg hw, if_neg hw]
theorem write_like {D : DiskV} (h : Ok D) (t : Int) (s : ByteArray) : ((writeV D t s).1, refOf (writeV D t s).2) = writeR (refOf D) t s := by
  unfold writeR writeV opV wrongR
  by_cases hd : D.down = true
  · rw [if_pos hd, if_pos (show (refOf D).dark = true from hd), if_neg (by omega)]
  · have hd' : D.down = false := by simpa using hd
    rw [if_neg hd, if_neg (show ¬ (refOf D).dark = true from hd)]
    by_cases ht : t < 0 ∨ 32 ≤ t
    · rw [if_pos ht, if_pos ht, if_neg (by omega)]
    · rw [if_neg ht, if_neg ht, if_pos rfl, turn_fails h hd']
      obtain ⟨k, rfl, hk⟩ : ∃ k : Nat, t = k ∧ k < 32 := ⟨t.toNat, by omega, by omega⟩
      simp only [Int.toNat_natCast]
      have hf := h.firm k hk
      obtain ⟨z1, z2⟩ := told_size hf
      have hu := used_told h.firm 32 (Nat.le_refl _)
      have g1 : ((refOf D).t k).1.size = (D.tp k).firm := z1
      have g2 : ((refOf D).t k).2.size = (D.tp k).b.size - (D.tp k).firm := z2
      have g3 : usedR (refOf D).t 32 = used D.tp 32 := hu
      have g4 : (refOf D).cap = D.cap := rfl
      rw [g1, g2, g3, g4]
      unfold writeMay
      by_cases h1 : (1048576 : Int) - (D.tp k).b.size < s.size
      · rw [if_pos h1, if_pos (by omega), if_pos (by omega)]
      · rw [if_neg h1, if_neg (show ¬ 1048576 < (D.tp k).firm + ((D.tp k).b.size - (D.tp k).firm) + s.size by omega)]
        by_cases h2 : D.cap - used D.tp 32 < s.size
        · rw [if_pos h2, if_pos (by omega), if_pos (by omega)]
        · rw [if_neg h2, if_neg (show ¬ (D.cap < (used D.tp 32 : Int) + s.size) by omega), if_neg (by omega)]
          have e : told ⟨(D.tp k).b ++ s, (D.tp k).firm⟩ = (((refOf D).t k).1, ((refOf D).t k).2 ++ s) := by
            show _ = ((told (D.tp k)).1, (told (D.tp k)).2 ++ s)
            unfold told
            simp only [Prod.mk.injEq, ByteArray.size_append]
            constructor
            · rw [ByteArray.extract_append]
              rw [show s.extract (0 - (D.tp k).b.size) ((D.tp k).firm - (D.tp k).b.size) = ⟨#[]⟩ from by
                apply ByteArray.ext; apply Array.ext'; simp; omega]
              exact ByteArray.append_empty
            · rw [ByteArray.extract_append]
              rw [show (D.tp k).firm - (D.tp k).b.size = 0 from by omega, show (D.tp k).b.size + s.size - (D.tp k).b.size = s.size from by omega, ByteArray.extract_zero_size]
              congr 1
              apply ByteArray.ext
              apply Array.ext'
              simp only [ByteArray.data_extract, Array.toList_extract, List.extract_eq_take_drop]
              rw [List.take_of_length_le (by simp; omega), List.take_of_length_le (by simp)]
          cases hff : (failsV D).1
          · simp only [Bool.false_eq_true, if_false, Bool.not_false, if_true]
            rw [refOf_set, e]
          · simp only [if_true, Bool.not_true, Bool.false_eq_true, if_false]
            rw [refOf_set, e]
theorem read_like {D : DiskV} (h : Ok D) (t : Int) : readV D t = readR (refOf D) t := by
  unfold readV readR wrongR
  by_cases hd : D.down = true
  · rw [if_pos hd, if_pos (show (refOf D).dark = true from hd), if_neg (by omega)]
  · rw [if_neg hd, if_neg (show ¬ (refOf D).dark = true from hd)]
    by_cases ht : t < 0 ∨ 32 ≤ t
    · rw [if_pos ht, if_pos ht, if_neg (by omega)]
    · rw [if_neg ht, if_neg ht, if_pos rfl]
      obtain ⟨k, rfl, hk⟩ : ∃ k : Nat, t = k ∧ k < 32 := ⟨t.toNat, by omega, by omega⟩
      rw [bothR_told h k hk, Int.toNat_natCast]
theorem fail_like (D : DiskV) (n : Int) : ((failV D n).1, refOf (failV D n).2) = failR (refOf D) n := by
  unfold failV failR
  by_cases hd : D.down = true
  · rw [if_pos hd, if_pos (show (refOf D).dark = true from hd)]
  · rw [if_neg hd, if_neg (show ¬ (refOf D).dark = true from hd)]
    by_cases hn : n < 0
    · rw [if_pos hn, if_pos hn]
    · rw [if_neg hn, if_neg hn]
      have hd' : D.down = false := by simpa using hd
      simp only [Prod.mk.injEq, true_and]
      unfold refOf
      simp [hd']
theorem backS_like (kl : Nat) (kf : Nat → Int) {x : TapeV} (h : x.firm ≤ x.b.size) (turn : Nat) : (told (backS kl kf x turn).1, (backS kl kf x turn).2) = backRS kl kf (told x) turn := by
  obtain ⟨z1, z2⟩ := told_size h
  unfold backS backRS
  by_cases he : x.b.size = x.firm
  · rw [if_pos he, if_pos (by omega)]
  · rw [if_neg he, if_neg (by omega)]
    have hn := backN_le kl kf x turn
    have e : backN kl kf x turn = stayR kl kf (told x).2.size turn := by unfold backN stayR; rw [z2]
    rw [← e]
    generalize backN kl kf x turn = n at hn
    simp only [Prod.mk.injEq, and_true]
    have e2 := told_firm (x.b.extract 0 (x.firm + n))
    rw [extract_size _ _ (by omega)] at e2
    rw [e2]
    simp only [Prod.mk.injEq, and_true]
    unfold told
    simp only [ByteArray.extract_extract]
    rw [show x.firm + 0 = x.firm from rfl, show min (x.firm + n) x.b.size = x.firm + n from by omega]
    exact ByteArray.extract_eq_extract_append_extract x.firm (by omega) (by omega)
theorem backT_like (kl : Nat) (kf : Nat → Int) {D : DiskV} (h : ∀ t, t < 32 → (D.tp t).firm ≤ (D.tp t).b.size) : ∀ k, k ≤ 32 →
    (fun j => told ((backT kl kf D.tp k).1 j)) = (backRT kl kf (fun j => told (D.tp j)) k).1 ∧ (backT kl kf D.tp k).2 = (backRT kl kf (fun j => told (D.tp j)) k).2
  | 0, _ => ⟨rfl, rfl⟩
  | k + 1, hk => by
    obtain ⟨i1, i2⟩ := backT_like kl kf h k (by omega)
    have hs := backS_like kl kf (h k (by omega)) (backT kl kf D.tp k).2
    rw [backRT]
    simp only []
    rw [← i1, ← i2, ← hs]
    refine ⟨?_, rfl⟩
    funext j
    show told (if j = k then _ else _) = _
    split <;> rfl
theorem back_like {D : DiskV} (h : Ok D) (kl : Nat) (kf : Nat → Int) : refOf (backV D kl kf) = backR (refOf D) kl kf := by
  obtain ⟨h1, _⟩ := backT_like kl kf h.firm 32 (Nat.le_refl _)
  unfold refOf backV backR
  simp only [Bool.false_eq_true, if_false, RefV.mk.injEq, and_true]
  exact h1
theorem do_like {D : DiskV} (h : Ok D) (a : ActV) : ((doV D a).1, refOf (doV D a).2) = tellR (refOf D) a := by
  obtain ⟨qw, qt, qn, qs, ko, kl, kc, kf⟩ := a
  unfold doV tellR
  simp only []
  match qw with
  | 0 => simp only [← write_like h]
  | 1 => simp only [← sync_like h]
  | 2 => simp only [← trim_like h]
  | 3 => simp only [← wipe_like h]
  | 4 => simp only [read_like h]
  | 5 => simp only [← fail_like]
  | z + 6 => simp only [back_like h]
/-! ### Tidy stays -/
theorem Tidy.fails {D : DiskV} (h : Ok D) (q : Tidy D) (hd : D.down = false) : Tidy (failsV D).2 := by
  unfold failsV
  split
  · exact q
  · rename_i hc
    have hc' : D.counts = true := by simpa using hc
    have h0 := h.ready hc' hd
    refine ⟨fun h2 => ⟨hc', ?_⟩, fun h2 => ?_⟩
    · have h2 : decide (D.left - 1 < 0) = true := h2
      rw [decide_eq_true_eq] at h2
      show D.left - 1 = -1
      omega
    · have h2 : D.counts = false := h2
      rw [hc'] at h2; cases h2
theorem Tidy.op {D : DiskV} (h : Ok D) (q : Tidy D) (t may : Int) (dov torn : TapeV → TapeV) : Tidy (opV D t may dov torn).2 := by
  unfold opV
  split
  · exact q
  · rename_i hd
    have hf := q.fails h (by simpa using hd)
    split
    · exact q
    · split
      · exact q
      · split
        · exact ⟨hf.down, hf.still⟩
        · exact ⟨hf.down, hf.still⟩
theorem Tidy.act {D : DiskV} (h : Ok D) (q : Tidy D) (a : ActV) : Tidy (doV D a).2 := by
  unfold doV
  split
  · exact q.op h _ _ _ _
  · exact q.op h _ _ _ _
  · exact q.op h _ _ _ _
  · exact q.op h _ _ _ _
  · exact q
  · show Tidy (failV D a.n).2
    unfold failV
    split
    · exact q
    · rename_i hd
      split
      · exact q
      · exact ⟨fun h2 => absurd h2 hd, fun h2 => by cases h2⟩
  · exact ⟨fun h2 => (by cases h2), fun _ => rfl⟩
/-! ### Whether copies are the same -/
def tapesB (f g : Nat → ByteArray × ByteArray) : Bool := (List.range 32).all fun i => (f i).1.toList == (g i).1.toList && (f i).2.toList == (g i).2.toList
def sameR (a b : RefV) : Bool := tapesB a.t b.t && (a.cap == b.cap && (a.dark == b.dark && (a.dark || a.left == b.left)))
theorem bytes_inj {a b : ByteArray} (h : a.toList = b.toList) : a = b := by
  obtain ⟨⟨l⟩⟩ := a
  obtain ⟨⟨m⟩⟩ := b
  have h1 : (⟨l.toArray⟩ : ByteArray).toList = l := by simp
  have h2 : (⟨m.toArray⟩ : ByteArray).toList = m := by simp
  have h3 : (⟨l.toArray⟩ : ByteArray).toList = (⟨m.toArray⟩ : ByteArray).toList := h
  rw [h1, h2] at h3
  rw [h3]
theorem tapeB_told {x y : TapeV} (hx : x.firm ≤ x.b.size) (hy : y.firm ≤ y.b.size) : tapeB x y = ((told x).1.toList == (told y).1.toList && (told x).2.toList == (told y).2.toList) := by
  rw [Bool.eq_iff_iff]
  unfold tapeB
  simp only [Bool.and_eq_true, beq_iff_eq, and_true]
  constructor
  · rintro ⟨h1, h2⟩
    have e : x = y := by
      obtain ⟨xb, xf⟩ := x
      obtain ⟨yb, yf⟩ := y
      simp only [] at h1 h2
      rw [bytes_inj h1, show xf = yf by omega]
    rw [e]
    exact ⟨rfl, rfl⟩
  · rintro ⟨h1, h2⟩
    have e1 := bytes_inj h1
    have e2 := bytes_inj h2
    have hb : x.b = y.b := by rw [← told_both hx, ← told_both hy, e1, e2]
    refine ⟨by rw [hb], ?_⟩
    have z1 := (told_size hx).1
    have z2 := (told_size hy).1
    rw [e1] at z1
    omega
theorem same_like {D E : DiskV} (h : Ok D) (k : Ok E) (q : Tidy D) (r : Tidy E) : diskB D E = sameR (refOf D) (refOf E) := by
  have ht : (List.range 32).all (fun i => tapeB (D.tp i) (E.tp i)) = tapesB (refOf D).t (refOf E).t := by
    unfold tapesB
    rw [Bool.eq_iff_iff, List.all_eq_true, List.all_eq_true]
    constructor
    · intro hh i hi
      have := hh i hi
      rw [tapeB_told (h.firm i (by simpa using hi)) (k.firm i (by simpa using hi))] at this
      exact this
    · intro hh i hi
      rw [tapeB_told (h.firm i (by simpa using hi)) (k.firm i (by simpa using hi))]
      exact hh i hi
  unfold diskB sameR
  rw [ht]
  congr 1
  show _ = (D.cap == E.cap && (D.down == E.down && (D.down || (if D.counts = true then (if D.down = true then 0 else D.left) else -1) == (if E.counts = true then (if E.down = true then 0 else E.left) else -1))))
  congr 1
  rw [Bool.eq_iff_iff]
  have h1 := h.ready
  have k1 := k.ready
  have q1 := q.down
  have q2 := q.still
  have r1 := r.down
  have r2 := r.still
  generalize D.counts = dc at *
  generalize E.counts = ec at *
  generalize D.down = dd at *
  generalize E.down = ed at *
  generalize D.left = dl at *
  generalize E.left = el at *
  clear ht h k q r
  rcases dc <;> rcases ec <;> rcases dd <;> rcases ed <;> simp at h1 k1 q1 q2 r1 r2 ⊢ <;> trace_state <;> omega
end Go.Proofs.Ytimfchjjdifbiaa
