/- vault: the closures of Open. -/
import Derived.Test.YtpfoekfbcpinlaaGreatDoorVaultEight
namespace Go.Proofs.YtpfoekfbcpinlaaGreatDoor
open Go.RowKit
set_option linter.unusedVariables false

theorem lt2_any (t : Nat) (w : World) : Calls Tryz.prog 60 (#[].push (.int .i64 t) ++ #[]) w fun e w' => e = .returned (.bool (decide (t < 2))) ∧ Below w.heap.size w w' := by
  show Calls Tryz.prog 60 #[.int .i64 t] w _
  have e : decide ((t : Int) < 2) = decide (t < 2) := by rw [Bool.eq_iff_iff, decide_eq_true_eq, decide_eq_true_eq]; omega
  generalize decide (t < 2) = b at *
  go_enter Tryz.func60, Tryz.ntmps60
  go_wp2
  go_ret
  exact ⟨by first | rfl | (rw [e] <;> rfl), Below.refl _ _⟩
theorem ent_lt2 (W : World) (t : Value) : (callFunc 60 (#[].push t ++ #[])).run Tryz.prog W = .ok (.enter 60 (#[].push t ++ #[])) W := by kernel_rfl
theorem ent_used (W : World) (p t : Value) : (callFunc 68 (#[p].push t ++ #[])).run Tryz.prog W = .ok (.enter 68 (#[p].push t ++ #[])) W := by kernel_rfl
def isTwo : Nat → Bool := fun t => decide (t < 2)
theorem open1_any (g v pb : Nat) (D : DiskV) (q : HdV) (m : Int) (n : Nat) (w : World) (h : VS w g v D q m n) (hp : w.cell? ⟨pb, 0, none⟩ = some (.pointer (some ⟨v, 0, none⟩))) :
    Calls Tryz.prog 58 #[.pointer (some ⟨pb, 0, none⟩)] w fun e w' => e = .returned (.int .i64 (looseS D isTwo 32).1) ∧ VS w' g v (looseS D isTwo 32).2 q m n ∧ Ch2 w w' g v := by
  have HL := Kp.mk (loose_any g v D q m n w h 60 #[] #[] isTwo ent_lt2 (fun W E t _ _ => lt2_any t W))
  generalize looseS D isTwo 32 = r at HL ⊢
  obtain ⟨z, D1⟩ := r
  simp only [] at HL ⊢
  clear h
  go_enter Tryz.func58, Tryz.ntmps58
  go_wp2_with fail
  refine HL.out.mono ?_
  rintro e w1 ⟨rfl, s1, c1⟩
  have H := Kp.mk (And.intro s1 c1)
  clear s1 c1
  go_wp2
  go_ret
  exact ⟨rfl, H.out.1, H.out.2⟩
theorem open4_any (g v pb : Nat) (D : DiskV) (q : HdV) (m : Int) (n : Nat) (w : World) (h : VS w g v D q m n) (hp : w.cell? ⟨pb, 0, none⟩ = some (.pointer (some ⟨v, 0, none⟩))) :
    Calls Tryz.prog 67 #[.pointer (some ⟨pb, 0, none⟩)] w fun e w' => e = .returned (.int .i64 (looseS D (fun t => q.hv.uses t) 32).1) ∧ VS w' g v (looseS D (fun t => q.hv.uses t) 32).2 q m n ∧ Ch2 w w' g v := by
  have HL := Kp.mk (loose_any g v D q m n w h 68 #[.pointer (some ⟨v, 0, none⟩)] #[] (fun t => q.hv.uses t) (fun W t => ent_used W _ t) (fun W E t _ hW => used_any g v E q m n t W hW))
  generalize looseS D (fun t => q.hv.uses t) 32 = r at HL ⊢
  obtain ⟨z, D1⟩ := r
  simp only [] at HL ⊢
  clear h
  go_enter Tryz.func67, Tryz.ntmps67
  go_wp2_with fail
  refine HL.out.mono ?_
  rintro e w1 ⟨rfl, s1, c1⟩
  have H := Kp.mk (And.intro s1 c1)
  clear s1 c1
  go_wp2
  go_ret
  exact ⟨rfl, H.out.1, H.out.2⟩
theorem open2_any (g v f pb : Nat) (D : DiskV) (q : HdV) (m : Int) (n : Nat) (rv : Value) (w : World) (h : VS w g v D q m n) (hp : w.cell? ⟨pb, 0, none⟩ = some (.pointer (some ⟨v, 0, none⟩))) (hf : FndAt w f false ⟨#[]⟩ rv) (h1 : g ≠ f) (h2 : v ≠ f) (h3 : ∀ k, blk (.slice q.lo q.ll q.lc) = some k → k ≠ f) (ht : ∀ W, Ch3 w W g v f → Tab W) :
    Calls Tryz.prog 63 #[.pointer (some ⟨pb, 0, none⟩), .pointer (some ⟨f, 0, none⟩)] w fun e w' => e = .returned (.int .i64 (snapV D q.hv).1) ∧ VS w' g v D q m n ∧ FndAt w' f (snapV D q.hv).2.1 (snapV D q.hv).2.2 rv ∧ Ch3 w w' g v f := by
  have HL := Kp.mk (snap_any g v f D q m n rv w h hf h1 h2 h3 ht)
  generalize snapV D q.hv = r at HL ⊢
  obtain ⟨z, has, sn⟩ := r
  simp only [] at HL ⊢
  clear h hf ht
  go_enter Tryz.func63, Tryz.ntmps63
  go_wp2_with fail
  refine HL.out.mono ?_
  rintro e w1 ⟨rfl, s1, f1, c1⟩
  have H := Kp.mk (And.intro s1 (And.intro f1 c1))
  clear s1 c1 f1
  go_wp2
  go_ret
  exact ⟨rfl, H.out.1, H.out.2.1, H.out.2.2⟩
theorem open3_any (g v f pb : Nat) (D : DiskV) (q : HdV) (m : Int) (n : Nat) (has : Bool) (sn : ByteArray) (w : World) (h : VS w g v D q m n) (hp : w.cell? ⟨pb, 0, none⟩ = some (.pointer (some ⟨v, 0, none⟩))) (hf : FndAt w f has sn (.slice none 0 0)) (h1 : g ≠ f) (h2 : v ≠ f) (h3 : ∀ k, blk (.slice q.lo q.ll q.lc) = some k → k ≠ f) (ht : ∀ W, Ch3 w W g v f → Tab W) (hl : 0 < q.ll) (hi : ∀ j, j < q.ll → i64 (q.lf j)) :
    Calls Tryz.prog 65 #[.pointer (some ⟨pb, 0, none⟩), .pointer (some ⟨f, 0, none⟩)] w fun e w' => e = .returned (.int .i64 (recS D q.hv q.ll).2.1) ∧ (∃ ao cap k, FndAt w' f has sn (.slice ao k cap) ∧ ((recS D q.hv q.ll).2.1 = 0 → k = (recS D q.hv q.ll).1.length ∧ RK 1 w' (.slice ao k cap) k (recC (recS D q.hv q.ll).1) ∧ ∀ j, blk (.slice ao k cap) = some j → w.heap.size ≤ j)) ∧ VS w' g v (recS D q.hv q.ll).2.2 q m (if (recS D q.hv q.ll).2.1 = 0 then (recS D q.hv q.ll).1.length else n) ∧ Ch3 w w' g v f := by
  have HL := Kp.mk (records_any g v f D q m n has sn w h hf h1 h2 h3 ht hl hi)
  generalize recS D q.hv q.ll = r at HL ⊢
  obtain ⟨L, z, D1⟩ := r
  simp only [] at HL ⊢
  generalize (if z = 0 then L.length else n) = n1 at HL ⊢
  clear h hf ht
  obtain ⟨P, hP⟩ : ∃ P : World → Prop, P = fun w' => ∃ ao cap k, FndAt w' f has sn (.slice ao k cap) ∧ (z = 0 → k = L.length ∧ RK 1 w' (.slice ao k cap) k (recC L) ∧ ∀ j, blk (.slice ao k cap) = some j → w.heap.size ≤ j) := ⟨_, rfl⟩
  have HL2 : Kp (Calls Tryz.prog 66 #[.pointer (some ⟨v, 0, none⟩), .pointer (some ⟨f, 0, none⟩)] w fun e w' => e = .returned (.int .i64 z) ∧ P w' ∧ VS w' g v D1 q m n1 ∧ Ch3 w w' g v f) := ⟨by rw [hP]; exact HL.out⟩
  have goal : Calls Tryz.prog 65 #[.pointer (some ⟨pb, 0, none⟩), .pointer (some ⟨f, 0, none⟩)] w fun e w' => e = .returned (.int .i64 z) ∧ P w' ∧ VS w' g v D1 q m n1 ∧ Ch3 w w' g v f := by
    clear hP HL
    go_enter Tryz.func65, Tryz.ntmps65
    go_wp2_with fail
    refine HL2.out.mono ?_
    rintro e w1 ⟨rfl, p1, s1, c1⟩
    have H := Kp.mk (And.intro p1 (And.intro s1 c1))
    clear p1 s1 c1
    go_wp2
    go_ret
    exact ⟨rfl, H.out.1, H.out.2.1, H.out.2.2⟩
  rw [hP] at goal
  exact goal
theorem ent_o1 (W : World) (p : Value) : (callFunc 58 (#[] ++ #[p])).run Tryz.prog W = .ok (.enter 58 (#[] ++ #[p])) W := by kernel_rfl
theorem ent_load (W : World) (p : Value) : (callFunc 61 (#[p] ++ #[])).run Tryz.prog W = .ok (.enter 61 (#[p] ++ #[])) W := by kernel_rfl
theorem ent_wipe (W : World) (p : Value) : (callFunc 62 (#[p] ++ #[])).run Tryz.prog W = .ok (.enter 62 (#[p] ++ #[])) W := by kernel_rfl
theorem ent_o2 (W : World) (p r : Value) : (callFunc 63 (#[] ++ #[p, r])).run Tryz.prog W = .ok (.enter 63 (#[] ++ #[p, r])) W := by kernel_rfl
theorem ent_o3 (W : World) (p r : Value) : (callFunc 65 (#[] ++ #[p, r])).run Tryz.prog W = .ok (.enter 65 (#[] ++ #[p, r])) W := by kernel_rfl
theorem ent_o4 (W : World) (p : Value) : (callFunc 67 (#[] ++ #[p])).run Tryz.prog W = .ok (.enter 67 (#[] ++ #[p])) W := by kernel_rfl
end Go.Proofs.YtpfoekfbcpinlaaGreatDoor
/- vault: Open. -/
namespace Go.Proofs.YtpfoekfbcpinlaaGreatDoor
open Go.RowKit
set_option linter.unusedVariables false

def o1 (D : DiskV) : Int × DiskV := looseS D isTwo 32
def oL (D : DiskV) : Int × DiskV × Hd.HV := vloadV (o1 D).2
def oW (D : DiskV) : Int × DiskV := wipeS (oL D).2.1 (oL D).2.2 32
def oS (D : DiskV) : Int × Bool × ByteArray := snapV (oW D).2 (oL D).2.2
def oR (D : DiskV) : List (List UInt8) × Int × DiskV := recS (oW D).2 (oL D).2.2 (oL D).2.2.log.length
def oF (D : DiskV) : Int × DiskV := looseS (oR D).2.2 (fun t => (oL D).2.2.uses t) 32
/-- What Open answers, and the disk it leaves. -/
def openE (D : DiskV) : Int := if (o1 D).1 ≠ 0 then (o1 D).1 else if (oL D).1 ≠ 0 then (oL D).1 else if (oW D).1 ≠ 0 then (oW D).1 else if (oS D).1 ≠ 0 then (oS D).1 else if (oR D).2.1 ≠ 0 then (oR D).2.1 else (oF D).1
def openD (D : DiskV) : DiskV := if (o1 D).1 ≠ 0 then (o1 D).2 else if (oL D).1 ≠ 0 then (oL D).2.1 else if (oW D).1 ≠ 0 then (oW D).2 else if (oS D).1 ≠ 0 then (oW D).2 else if (oR D).2.1 ≠ 0 then (oR D).2.2 else (oF D).2
theorem vload_may {D : DiskV} (h : (vloadV D).1 = 0) : (vloadV D).2.2.may = true := by
  unfold vloadV at h ⊢
  split
  · rename_i hd; rw [if_pos hd] at h; exact absurd h (show ¬ ((45 : Int) = 0) by decide)
  · rename_i hd
    rw [if_neg hd] at h
    split
    · rename_i hi
      have h0 := Hd.ofV_gen (D.tp 0).b.data.toList
      have h1 := Hd.ofV_gen (D.tp 1).b.data.toList
      unfold Hd.diskV Hd.loadV at hi ⊢
      simp only [] at hi ⊢
      split at hi
      · cases hi
      · rename_i hz
        rw [if_neg hz]
        split
        · rename_i hle
          have : (Hd.ofV (D.tp 0).b.data.toList).1.gen ≠ 0 := fun e => hz ⟨e, by have := h1.2.1; omega⟩
          exact h0.2.2.2 (h0.1.2 this)
        · rename_i hle
          have : (Hd.ofV (D.tp 1).b.data.toList).1.gen ≠ 0 := fun e => by have := h0.2.1; omega
          exact h1.2.2.2 (h1.1.2 this)
    · split
      · exact firstH_may
      · exact firstH_may
def fO : Nat → FuncId
  | 0 => 58
  | 1 => 61
  | 2 => 62
  | 3 => 63
  | 4 => 65
  | _ => 67
def bO (v : Nat) : Nat → Array Value
  | 1 => #[.pointer (some ⟨v, 0, none⟩)]
  | 2 => #[.pointer (some ⟨v, 0, none⟩)]
  | _ => #[]
def cO (pb f : Nat) : Nat → Array Value
  | 0 => #[.pointer (some ⟨pb, 0, none⟩)]
  | 1 => #[]
  | 2 => #[]
  | 3 => #[.pointer (some ⟨pb, 0, none⟩), .pointer (some ⟨f, 0, none⟩)]
  | 4 => #[.pointer (some ⟨pb, 0, none⟩), .pointer (some ⟨f, 0, none⟩)]
  | _ => #[.pointer (some ⟨pb, 0, none⟩)]
theorem five (w : World) (o0 o1 o2 o3 o4 : Obj) : let W := ((((w.alloc o0).alloc o1).alloc o2).alloc o3).alloc o4; W.heap[w.heap.size]? = some o0 ∧ W.heap[w.heap.size + 1]? = some o1 ∧ W.heap[w.heap.size + 1 + 1]? = some o2 ∧ W.heap[w.heap.size + 1 + 1 + 1]? = some o3 ∧ W.heap[w.heap.size + 1 + 1 + 1 + 1]? = some o4 ∧ W.heap.size = w.heap.size + 5 := by
  intro W
  have k : ∀ (V : World) (o : Obj) (b : Nat) (x : Obj), V.heap[b]? = some x → (V.alloc o).heap[b]? = some x := fun V o b x h => (Below.heap_alloc V o b (lt_of_block' h)).trans h
  have n : ∀ (V : World) (o : Obj) (b : Nat), V.heap.size = b → (V.alloc o).heap[b]? = some o := fun V o b h => by subst h; exact heap_alloc_new V o
  refine ⟨k _ _ _ _ (k _ _ _ _ (k _ _ _ _ (k _ _ _ _ (n _ _ _ rfl)))), k _ _ _ _ (k _ _ _ _ (k _ _ _ _ (n _ _ _ (by simp)))), k _ _ _ _ (k _ _ _ _ (n _ _ _ (by simp))), k _ _ _ _ (n _ _ _ (by simp)), n _ _ _ (by simp), by simp [W]⟩
theorem Ch3.chg {w W1 W2 : World} {g v f : Nat} (h : Chg w W1 g) (c : Ch3 W1 W2 g v f) (h1 : w.heap.size ≤ v) (h2 : w.heap.size ≤ f) : Chg w W2 g :=
  ⟨c.os.trans h.os, c.tape.trans h.tape, c.output.trans h.output, Nat.le_trans h.size c.size, fun k hk hne => (c.block k (Nat.lt_of_lt_of_le hk h.size) (fun e => hne (by rw [e])) (by omega) (by omega)).trans (h.block k hk hne)⟩
theorem may_log {p : HdV} (h : p.hv.may = true) : 0 < p.ll ∧ ∀ j, j < p.ll → i64 (p.lf j) := by
  have h1 := (Hd.may_first h).2.2.2.2.1
  have h2 := (Hd.may_tapes h).2
  constructor
  · rcases Nat.eq_zero_or_pos p.ll with e | e
    · exact absurd (by show rowI p.lf p.ll = []; rw [e]; rfl) h1
    · exact e
  · intro j hj
    have := h2 (p.lf j) (rowI_mem.2 ⟨j, hj, rfl⟩)
    exact ⟨by omega, by omega⟩
def nilS : Value := .slice none 0 0
/-- What holds before each step. -/
def SO (w5 : World) (g v f : Nat) (m : Int) (D : DiskV) : Nat → World → Prop
  | 0 => fun W => VS W g v D HdV.zero m 0 ∧ FndAt W f false ⟨#[]⟩ nilS ∧ Ch3 w5 W g v f
  | 1 => fun W => (o1 D).1 = 0 ∧ VS W g v (o1 D).2 HdV.zero m 0 ∧ FndAt W f false ⟨#[]⟩ nilS ∧ Ch3 w5 W g v f
  | 2 => fun W => (o1 D).1 = 0 ∧ (oL D).1 = 0 ∧ (∃ p : HdV, p.hv = (oL D).2.2 ∧ VS W g v (oL D).2.1 p m 0 ∧ ∀ k, blk (.slice p.lo p.ll p.lc) = some k → w5.heap.size ≤ k) ∧ FndAt W f false ⟨#[]⟩ nilS ∧ Ch3 w5 W g v f
  | 3 => fun W => (o1 D).1 = 0 ∧ (oL D).1 = 0 ∧ (oW D).1 = 0 ∧ (∃ p : HdV, p.hv = (oL D).2.2 ∧ VS W g v (oW D).2 p m 0 ∧ ∀ k, blk (.slice p.lo p.ll p.lc) = some k → w5.heap.size ≤ k) ∧ FndAt W f false ⟨#[]⟩ nilS ∧ Ch3 w5 W g v f
  | 4 => fun W => (o1 D).1 = 0 ∧ (oL D).1 = 0 ∧ (oW D).1 = 0 ∧ (oS D).1 = 0 ∧ (∃ p : HdV, p.hv = (oL D).2.2 ∧ VS W g v (oW D).2 p m 0 ∧ ∀ k, blk (.slice p.lo p.ll p.lc) = some k → w5.heap.size ≤ k) ∧ FndAt W f (oS D).2.1 (oS D).2.2 nilS ∧ Ch3 w5 W g v f
  | 5 => fun W => (o1 D).1 = 0 ∧ (oL D).1 = 0 ∧ (oW D).1 = 0 ∧ (oS D).1 = 0 ∧ (oR D).2.1 = 0 ∧ (∃ p : HdV, p.hv = (oL D).2.2 ∧ VS W g v (oR D).2.2 p m (oR D).1.length ∧ ∀ k, blk (.slice p.lo p.ll p.lc) = some k → w5.heap.size ≤ k) ∧ (∃ ao cap, FndAt W f (oS D).2.1 (oS D).2.2 (.slice ao (oR D).1.length cap) ∧ RK 1 W (.slice ao (oR D).1.length cap) (oR D).1.length (recC (oR D).1) ∧ ∀ j, blk (.slice ao (oR D).1.length cap) = some j → w5.heap.size ≤ j) ∧ Ch3 w5 W g v f
  | _ => fun W => (o1 D).1 = 0 ∧ (oL D).1 = 0 ∧ (oW D).1 = 0 ∧ (oS D).1 = 0 ∧ (oR D).2.1 = 0 ∧ (oF D).1 = 0 ∧ (∃ p : HdV, p.hv = (oL D).2.2 ∧ VS W g v (oF D).2 p m (oR D).1.length ∧ ∀ k, blk (.slice p.lo p.ll p.lc) = some k → w5.heap.size ≤ k) ∧ (∃ ao cap, FndAt W f (oS D).2.1 (oS D).2.2 (.slice ao (oR D).1.length cap) ∧ RK 1 W (.slice ao (oR D).1.length cap) (oR D).1.length (recC (oR D).1) ∧ ∀ j, blk (.slice ao (oR D).1.length cap) = some j → w5.heap.size ≤ j) ∧ Ch3 w5 W g v f
def TO (w5 : World) (g v f : Nat) (D : DiskV) (z : Int) (W : World) : Prop := z = openE D ∧ DiskAt W g (openD D) ∧ Ok (openD D) ∧ Ch3 w5 W g v f
theorem SO.ch {w5 W : World} {g v f : Nat} {m : Int} {D : DiskV} : ∀ i, SO w5 g v f m D i W → Ch3 w5 W g v f
  | 0, h => h.2.2
  | 1, h => h.2.2.2
  | 2, h => h.2.2.2.2
  | 3, h => h.2.2.2.2.2
  | 4, h => h.2.2.2.2.2.2
  | 5, h => h.2.2.2.2.2.2.2
  | _ + 6, h => h.2.2.2.2.2.2.2.2
theorem RK.ch2 {w W : World} {g v n : Nat} {u : Value} {cs : List Value} (h : RK 1 w u n cs) (c : Ch2 w W g v) (hne : ∀ k, blk u = some k → k ≠ g ∧ k ≠ v) : RK 1 W u n cs :=
  h.same c.size fun k hk => c.block k (h.lt k hk) (hne k hk).1 (hne k hk).2
set_option maxHeartbeats 2000000 in
theorem os0 (w w5 : World) (g v pb f : Nat) (m : Int) (D : DiskV) (h5 : Chg w w5 g) (hz : w5.heap.size = w.heap.size + 5) (hv : v = w.heap.size + 1) (hpb : pb = w.heap.size + 1 + 1) (hf : f = w.heap.size + 1 + 1 + 1) (hg : g < w.heap.size)
    (hx : w5.heap[pb]? = some (.cells #[.pointer (some ⟨v, 0, none⟩)] 30 (0, 0))) (ht : ∀ W, Chg w W g → Tab W) (W : World) (hS : SO w5 g v f m D 0 W) :
    Calls Tryz.prog 58 #[.pointer (some ⟨pb, 0, none⟩)] W fun e W' => ∃ z : Int, e = .returned (.int .i64 z) ∧ ((z = 0 ∧ SO w5 g v f m D 1 W') ∨ (z ≠ 0 ∧ TO w5 g v f D z W')) := by
  have hc := SO.ch 0 hS
  have hp := one_cell (hc.heap hx (by omega) (by omega) (by omega))
  have hgf : g ≠ f := by omega
  have hvf : v ≠ f := by omega
  have hT : ∀ W1, Ch3 w5 W1 g v f → ∀ W2, Ch3 W1 W2 g v f → Tab W2 := fun W1 c1 W2 c2 => ht W2 (Ch3.chg (Ch3.chg h5 c1 (by omega) (by omega)) c2 (by omega) (by omega))
  have hFnd : ∀ {W1 W2 : World} {has : Bool} {sn : ByteArray} {rv : Value}, FndAt W1 f has sn rv → Ch2 W1 W2 g v → FndAt W2 f has sn rv := fun h c => c.heap h (fun e => hgf e.symm) (fun e => hvf e.symm)
  have hro : ∀ {p : HdV}, (∀ k, blk (.slice p.lo p.ll p.lc) = some k → w5.heap.size ≤ k) → ∀ k, blk (.slice p.lo p.ll p.lc) = some k → k ≠ f := fun h k hk => by have := h k hk; omega
  obtain ⟨s, fd, _⟩ := hS
  refine (open1_any g v pb D _ m 0 W s hp).mono ?_
  rintro e W' ⟨rfl, s1, c1⟩
  refine ⟨_, rfl, ?_⟩
  by_cases h0 : (o1 D).1 = 0
  · exact .inl ⟨h0, h0, s1, hFnd fd c1, hc.trans (Ch3.of c1 f)⟩
  · refine .inr ⟨h0, ?_, ?_, ?_, hc.trans (Ch3.of c1 f)⟩
    · unfold openE; rw [if_pos h0]; rfl
    · unfold openD; rw [if_pos h0]; exact s1.disk
    · unfold openD; rw [if_pos h0]; exact s1.ok
theorem os1 (w w5 : World) (g v pb f : Nat) (m : Int) (D : DiskV) (h5 : Chg w w5 g) (hz : w5.heap.size = w.heap.size + 5) (hv : v = w.heap.size + 1) (hpb : pb = w.heap.size + 1 + 1) (hf : f = w.heap.size + 1 + 1 + 1) (hg : g < w.heap.size)
    (hx : w5.heap[pb]? = some (.cells #[.pointer (some ⟨v, 0, none⟩)] 30 (0, 0))) (ht : ∀ W, Chg w W g → Tab W) (W : World) (hS : SO w5 g v f m D 1 W) :
    Calls Tryz.prog 61 #[.pointer (some ⟨v, 0, none⟩)] W fun e W' => ∃ z : Int, e = .returned (.int .i64 z) ∧ ((z = 0 ∧ SO w5 g v f m D 2 W') ∨ (z ≠ 0 ∧ TO w5 g v f D z W')) := by
  have hc := SO.ch 1 hS
  have hp := one_cell (hc.heap hx (by omega) (by omega) (by omega))
  have hgf : g ≠ f := by omega
  have hvf : v ≠ f := by omega
  have hT : ∀ W1, Ch3 w5 W1 g v f → ∀ W2, Ch3 W1 W2 g v f → Tab W2 := fun W1 c1 W2 c2 => ht W2 (Ch3.chg (Ch3.chg h5 c1 (by omega) (by omega)) c2 (by omega) (by omega))
  have hFnd : ∀ {W1 W2 : World} {has : Bool} {sn : ByteArray} {rv : Value}, FndAt W1 f has sn rv → Ch2 W1 W2 g v → FndAt W2 f has sn rv := fun h c => c.heap h (fun e => hgf e.symm) (fun e => hvf e.symm)
  have hro : ∀ {p : HdV}, (∀ k, blk (.slice p.lo p.ll p.lc) = some k → w5.heap.size ≤ k) → ∀ k, blk (.slice p.lo p.ll p.lc) = some k → k ≠ f := fun h k hk => by have := h k hk; omega
  obtain ⟨e1, s, fd, _⟩ := hS
  refine (vload_any g v _ _ m 0 W s).mono ?_
  rintro e W' ⟨rfl, ⟨p, hpv, s1, hfr⟩, c1⟩
  refine ⟨_, rfl, ?_⟩
  by_cases h0 : (oL D).1 = 0
  · exact .inl ⟨h0, e1, h0, ⟨p, hpv, s1, fun k hk => Nat.le_trans hc.size (hfr k hk)⟩, hFnd fd c1, hc.trans (Ch3.of c1 f)⟩
  · refine .inr ⟨h0, ?_, ?_, ?_, hc.trans (Ch3.of c1 f)⟩
    · unfold openE; rw [if_neg (by simpa using e1), if_pos h0]; rfl
    · unfold openD; rw [if_neg (by simpa using e1), if_pos h0]; exact s1.disk
    · unfold openD; rw [if_neg (by simpa using e1), if_pos h0]; exact s1.ok
theorem os2 (w w5 : World) (g v pb f : Nat) (m : Int) (D : DiskV) (h5 : Chg w w5 g) (hz : w5.heap.size = w.heap.size + 5) (hv : v = w.heap.size + 1) (hpb : pb = w.heap.size + 1 + 1) (hf : f = w.heap.size + 1 + 1 + 1) (hg : g < w.heap.size)
    (hx : w5.heap[pb]? = some (.cells #[.pointer (some ⟨v, 0, none⟩)] 30 (0, 0))) (ht : ∀ W, Chg w W g → Tab W) (W : World) (hS : SO w5 g v f m D 2 W) :
    Calls Tryz.prog 62 #[.pointer (some ⟨v, 0, none⟩)] W fun e W' => ∃ z : Int, e = .returned (.int .i64 z) ∧ ((z = 0 ∧ SO w5 g v f m D 3 W') ∨ (z ≠ 0 ∧ TO w5 g v f D z W')) := by
  have hc := SO.ch 2 hS
  have hp := one_cell (hc.heap hx (by omega) (by omega) (by omega))
  have hgf : g ≠ f := by omega
  have hvf : v ≠ f := by omega
  have hT : ∀ W1, Ch3 w5 W1 g v f → ∀ W2, Ch3 W1 W2 g v f → Tab W2 := fun W1 c1 W2 c2 => ht W2 (Ch3.chg (Ch3.chg h5 c1 (by omega) (by omega)) c2 (by omega) (by omega))
  have hFnd : ∀ {W1 W2 : World} {has : Bool} {sn : ByteArray} {rv : Value}, FndAt W1 f has sn rv → Ch2 W1 W2 g v → FndAt W2 f has sn rv := fun h c => c.heap h (fun e => hgf e.symm) (fun e => hvf e.symm)
  have hro : ∀ {p : HdV}, (∀ k, blk (.slice p.lo p.ll p.lc) = some k → w5.heap.size ≤ k) → ∀ k, blk (.slice p.lo p.ll p.lc) = some k → k ≠ f := fun h k hk => by have := h k hk; omega
  obtain ⟨e1, e2, ⟨p, hpv, s, hfr⟩, fd, _⟩ := hS
  have HW := vwipe_any g v _ p m 0 W s
  rw [hpv] at HW
  refine HW.mono ?_
  rintro e W' ⟨rfl, s1, c1⟩
  refine ⟨_, rfl, ?_⟩
  by_cases h0 : (oW D).1 = 0
  · exact .inl ⟨h0, e1, e2, h0, ⟨p, hpv, s1, hfr⟩, hFnd fd c1, hc.trans (Ch3.of c1 f)⟩
  · refine .inr ⟨h0, ?_, ?_, ?_, hc.trans (Ch3.of c1 f)⟩
    · unfold openE; rw [if_neg (by simpa using e1), if_neg (by simpa using e2), if_pos h0]; rfl
    · unfold openD; rw [if_neg (by simpa using e1), if_neg (by simpa using e2), if_pos h0]; exact s1.disk
    · unfold openD; rw [if_neg (by simpa using e1), if_neg (by simpa using e2), if_pos h0]; exact s1.ok
theorem os3 (w w5 : World) (g v pb f : Nat) (m : Int) (D : DiskV) (h5 : Chg w w5 g) (hz : w5.heap.size = w.heap.size + 5) (hv : v = w.heap.size + 1) (hpb : pb = w.heap.size + 1 + 1) (hf : f = w.heap.size + 1 + 1 + 1) (hg : g < w.heap.size)
    (hx : w5.heap[pb]? = some (.cells #[.pointer (some ⟨v, 0, none⟩)] 30 (0, 0))) (ht : ∀ W, Chg w W g → Tab W) (W : World) (hS : SO w5 g v f m D 3 W) :
    Calls Tryz.prog 63 #[.pointer (some ⟨pb, 0, none⟩), .pointer (some ⟨f, 0, none⟩)] W fun e W' => ∃ z : Int, e = .returned (.int .i64 z) ∧ ((z = 0 ∧ SO w5 g v f m D 4 W') ∨ (z ≠ 0 ∧ TO w5 g v f D z W')) := by
  have hc := SO.ch 3 hS
  have hp := one_cell (hc.heap hx (by omega) (by omega) (by omega))
  have hgf : g ≠ f := by omega
  have hvf : v ≠ f := by omega
  have hT : ∀ W1, Ch3 w5 W1 g v f → ∀ W2, Ch3 W1 W2 g v f → Tab W2 := fun W1 c1 W2 c2 => ht W2 (Ch3.chg (Ch3.chg h5 c1 (by omega) (by omega)) c2 (by omega) (by omega))
  have hFnd : ∀ {W1 W2 : World} {has : Bool} {sn : ByteArray} {rv : Value}, FndAt W1 f has sn rv → Ch2 W1 W2 g v → FndAt W2 f has sn rv := fun h c => c.heap h (fun e => hgf e.symm) (fun e => hvf e.symm)
  have hro : ∀ {p : HdV}, (∀ k, blk (.slice p.lo p.ll p.lc) = some k → w5.heap.size ≤ k) → ∀ k, blk (.slice p.lo p.ll p.lc) = some k → k ≠ f := fun h k hk => by have := h k hk; omega
  obtain ⟨e1, e2, e3, ⟨p, hpv, s, hfr⟩, fd, _⟩ := hS
  have HW := open2_any g v f pb _ p m 0 nilS W s hp fd hgf hvf (hro hfr) (hT W hc)
  rw [hpv] at HW
  refine HW.mono ?_
  rintro e W' ⟨rfl, s1, f1, c1⟩
  refine ⟨_, rfl, ?_⟩
  by_cases h0 : (oS D).1 = 0
  · exact .inl ⟨h0, e1, e2, e3, h0, ⟨p, hpv, s1, hfr⟩, f1, hc.trans c1⟩
  · refine .inr ⟨h0, ?_, ?_, ?_, hc.trans c1⟩
    · unfold openE; rw [if_neg (by simpa using e1), if_neg (by simpa using e2), if_neg (by simpa using e3), if_pos h0]; rfl
    · unfold openD; rw [if_neg (by simpa using e1), if_neg (by simpa using e2), if_neg (by simpa using e3), if_pos h0]; exact s1.disk
    · unfold openD; rw [if_neg (by simpa using e1), if_neg (by simpa using e2), if_neg (by simpa using e3), if_pos h0]; exact s1.ok
theorem os4 (w w5 : World) (g v pb f : Nat) (m : Int) (D : DiskV) (h5 : Chg w w5 g) (hz : w5.heap.size = w.heap.size + 5) (hv : v = w.heap.size + 1) (hpb : pb = w.heap.size + 1 + 1) (hf : f = w.heap.size + 1 + 1 + 1) (hg : g < w.heap.size)
    (hx : w5.heap[pb]? = some (.cells #[.pointer (some ⟨v, 0, none⟩)] 30 (0, 0))) (ht : ∀ W, Chg w W g → Tab W) (W : World) (hS : SO w5 g v f m D 4 W) :
    Calls Tryz.prog 65 #[.pointer (some ⟨pb, 0, none⟩), .pointer (some ⟨f, 0, none⟩)] W fun e W' => ∃ z : Int, e = .returned (.int .i64 z) ∧ ((z = 0 ∧ SO w5 g v f m D 5 W') ∨ (z ≠ 0 ∧ TO w5 g v f D z W')) := by
  have hc := SO.ch 4 hS
  have hp := one_cell (hc.heap hx (by omega) (by omega) (by omega))
  have hgf : g ≠ f := by omega
  have hvf : v ≠ f := by omega
  have hT : ∀ W1, Ch3 w5 W1 g v f → ∀ W2, Ch3 W1 W2 g v f → Tab W2 := fun W1 c1 W2 c2 => ht W2 (Ch3.chg (Ch3.chg h5 c1 (by omega) (by omega)) c2 (by omega) (by omega))
  have hFnd : ∀ {W1 W2 : World} {has : Bool} {sn : ByteArray} {rv : Value}, FndAt W1 f has sn rv → Ch2 W1 W2 g v → FndAt W2 f has sn rv := fun h c => c.heap h (fun e => hgf e.symm) (fun e => hvf e.symm)
  have hro : ∀ {p : HdV}, (∀ k, blk (.slice p.lo p.ll p.lc) = some k → w5.heap.size ≤ k) → ∀ k, blk (.slice p.lo p.ll p.lc) = some k → k ≠ f := fun h k hk => by have := h k hk; omega
  obtain ⟨e1, e2, e3, e4, ⟨p, hpv, s, hfr⟩, fd, _⟩ := hS
  obtain ⟨hl, hi64⟩ := may_log (p := p) (by rw [hpv]; exact vload_may e2)
  have HW := open3_any g v f pb _ p m 0 _ _ W s hp fd hgf hvf (hro hfr) (hT W hc) hl hi64
  have hrs : recS (oW D).2 p.hv p.ll = oR D := by
    unfold oR
    rw [← hpv]
    show _ = recS (oW D).2 p.hv (rowI p.lf p.ll).length
    rw [rowI_len]
  rw [hrs] at HW
  refine HW.mono ?_
  rintro e W' ⟨rfl, ⟨ao, cap, k, f1, hf1⟩, s1, c1⟩
  refine ⟨_, rfl, ?_⟩
  by_cases h0 : (oR D).2.1 = 0
  · obtain ⟨rfl, r1, n1⟩ := hf1 h0
    rw [if_pos h0] at s1
    exact .inl ⟨h0, e1, e2, e3, e4, h0, ⟨p, hpv, s1, hfr⟩, ⟨ao, cap, f1, r1, fun j hj => Nat.le_trans hc.size (n1 j hj)⟩, hc.trans c1⟩
  · refine .inr ⟨h0, ?_, ?_, ?_, hc.trans c1⟩
    · unfold openE; rw [if_neg (by simpa using e1), if_neg (by simpa using e2), if_neg (by simpa using e3), if_neg (by simpa using e4), if_pos h0]
    · unfold openD; rw [if_neg (by simpa using e1), if_neg (by simpa using e2), if_neg (by simpa using e3), if_neg (by simpa using e4), if_pos h0]; exact s1.disk
    · unfold openD; rw [if_neg (by simpa using e1), if_neg (by simpa using e2), if_neg (by simpa using e3), if_neg (by simpa using e4), if_pos h0]; exact s1.ok
theorem os5 (w w5 : World) (g v pb f : Nat) (m : Int) (D : DiskV) (h5 : Chg w w5 g) (hz : w5.heap.size = w.heap.size + 5) (hv : v = w.heap.size + 1) (hpb : pb = w.heap.size + 1 + 1) (hf : f = w.heap.size + 1 + 1 + 1) (hg : g < w.heap.size)
    (hx : w5.heap[pb]? = some (.cells #[.pointer (some ⟨v, 0, none⟩)] 30 (0, 0))) (ht : ∀ W, Chg w W g → Tab W) (W : World) (hS : SO w5 g v f m D 5 W) :
    Calls Tryz.prog 67 #[.pointer (some ⟨pb, 0, none⟩)] W fun e W' => ∃ z : Int, e = .returned (.int .i64 z) ∧ ((z = 0 ∧ SO w5 g v f m D 6 W') ∨ (z ≠ 0 ∧ TO w5 g v f D z W')) := by
  have hc := SO.ch 5 hS
  have hp := one_cell (hc.heap hx (by omega) (by omega) (by omega))
  have hgf : g ≠ f := by omega
  have hvf : v ≠ f := by omega
  have hT : ∀ W1, Ch3 w5 W1 g v f → ∀ W2, Ch3 W1 W2 g v f → Tab W2 := fun W1 c1 W2 c2 => ht W2 (Ch3.chg (Ch3.chg h5 c1 (by omega) (by omega)) c2 (by omega) (by omega))
  have hFnd : ∀ {W1 W2 : World} {has : Bool} {sn : ByteArray} {rv : Value}, FndAt W1 f has sn rv → Ch2 W1 W2 g v → FndAt W2 f has sn rv := fun h c => c.heap h (fun e => hgf e.symm) (fun e => hvf e.symm)
  have hro : ∀ {p : HdV}, (∀ k, blk (.slice p.lo p.ll p.lc) = some k → w5.heap.size ≤ k) → ∀ k, blk (.slice p.lo p.ll p.lc) = some k → k ≠ f := fun h k hk => by have := h k hk; omega
  obtain ⟨e1, e2, e3, e4, e5, ⟨p, hpv, s, hfr⟩, ⟨ao, cap, fd, r, hn⟩, _⟩ := hS
  have HW := open4_any g v pb _ p m _ W s hp
  rw [hpv] at HW
  refine HW.mono ?_
  rintro e W' ⟨rfl, s1, c1⟩
  refine ⟨_, rfl, ?_⟩
  by_cases h0 : (oF D).1 = 0
  · exact .inl ⟨h0, e1, e2, e3, e4, e5, h0, ⟨p, hpv, s1, hfr⟩, ⟨ao, cap, hFnd fd c1, r.ch2 c1 (fun k hk => by have := hn k hk; omega), hn⟩, hc.trans (Ch3.of c1 f)⟩
  · refine .inr ⟨h0, ?_, ?_, ?_, hc.trans (Ch3.of c1 f)⟩
    · unfold openE; rw [if_neg (by simpa using e1), if_neg (by simpa using e2), if_neg (by simpa using e3), if_neg (by simpa using e4), if_neg (by simpa using e5)]; rfl
    · unfold openD; rw [if_neg (by simpa using e1), if_neg (by simpa using e2), if_neg (by simpa using e3), if_neg (by simpa using e4), if_neg (by simpa using e5)]; exact s1.disk
    · unfold openD; rw [if_neg (by simpa using e1), if_neg (by simpa using e2), if_neg (by simpa using e3), if_neg (by simpa using e4), if_neg (by simpa using e5)]; exact s1.ok
end Go.Proofs.YtpfoekfbcpinlaaGreatDoor
/- vault: Open, whole. -/
namespace Go.Proofs.YtpfoekfbcpinlaaGreatDoor
open Go.RowKit
set_option linter.unusedVariables false

/-- What Open answers. -/
structure Opened (w w' : World) (g : Nat) (D : DiskV) (m : Int) (v : Nat) (q : HdV) (ao : Option Addr) (cap : Nat) : Prop where
  vs : VS w' g v (openD D) q m (oR D).1.length
  hd : q.hv = (oL D).2.2
  row : RK 1 w' (.slice ao (oR D).1.length cap) (oR D).1.length (recC (oR D).1)
  rown : ∀ k, blk (.slice ao (oR D).1.length cap) = some k → w.heap.size ≤ k
  vn : w.heap.size ≤ v
  hdn : ∀ k, blk (.slice q.lo q.ll q.lc) = some k → w.heap.size ≤ k
  chg : Chg w w' g
theorem Opened.drew {w w' : World} {g : Nat} {D : DiskV} {m : Int} {v : Nat} {q : HdV} {ao : Option Addr} {cap : Nat} (h : Opened w w' g D m v q ao cap) : Opened w w'.drew g D m v q ao cap := ⟨h.vs.drew, h.hd, h.row, h.rown, h.vn, h.hdn, ⟨h.chg.os, h.chg.tape, h.chg.output, h.chg.size, h.chg.block⟩⟩
theorem set3_heap {W : World} {b : Nat} {x y z : Value} {T : TypeId} (h : W.heap[b]? = some (.cells #[x, y, z] T (0, 0))) (a c e : Value) : (((W.setCell ⟨b, 0, none⟩ a).setCell ⟨b, 1, none⟩ c).setCell ⟨b, 2, none⟩ e).heap[b]? = some (.cells #[a, c, e] T (0, 0)) :=
  f_cells (f_cells (f_cells h 0 a) 1 c) 2 e
theorem cells3f {W : World} {b : Nat} {x y z : Value} {T : TypeId} (h : W.heap[b]? = some (.cells #[x, y, z] T (0, 0))) : W.cell? ⟨b, 0, none⟩ = some x ∧ W.cell? ⟨b, 1, none⟩ = some y ∧ W.cell? ⟨b, 2, none⟩ = some z := by
  refine ⟨?_, ?_, ?_⟩ <;> simp [World.cell?, h]
theorem chg_set {w W : World} {g b j : Nat} (h : Chg w W g) (hb : w.heap.size ≤ b) (u : Value) : Chg w (W.setCell ⟨b, j, none⟩ u) g :=
  ⟨h.os, h.tape, h.output, by simpa using h.size, fun k hk hne => (Below.heap_setCell W ⟨b, j, none⟩ u k (by intro e; have e : k = b := e; omega)).trans (h.block k hk hne)⟩
set_option maxRecDepth 20000 in
set_option maxHeartbeats 1000000 in
theorem Open_any (g : Nat) (D : DiskV) (m : Int) (w : World) (hd : DiskAt w g D) (ho : Ok D) (ht : ∀ W, Chg w W g → Tab W) (h1 : 1 ≤ m) (h2 : m ≤ 1048576) :
    Calls Tryz.prog 20 #[.pointer (some ⟨g, 0, none⟩), .int .i64 m] w fun e w' =>
      (openE D ≠ 0 ∧ e = .returned (.tuple #[.pointer none, .agg #[.bool false, .string ⟨#[]⟩, .slice none 0 0], .int .i64 (openE D)]) ∧ DiskAt w' g (openD D) ∧ Ok (openD D) ∧ Chg w w' g) ∨
      (openE D = 0 ∧ ∃ v q ao cap, e = .returned (.tuple #[.pointer (some ⟨v, 0, none⟩), .agg #[.bool (oS D).2.1, .string (oS D).2.2, .slice ao (oR D).1.length cap], .int .i64 0]) ∧ Opened w w' g D m v q ao cap) := by
  have t1 : decide (m < 1) = false := by rw [decide_eq_false_iff_not]; omega
  have t2 : decide ((1048576 : Int) < m) = false := by rw [decide_eq_false_iff_not]; omega
  have hg := hd.lt
  obtain ⟨x0, xv, xp, xf, xr, xz⟩ := five w (.cells #[.bool false, .string ⟨#[]⟩, .slice none 0 0] 48) (.cells #[.pointer (some ⟨g, 0, none⟩), .int .i64 0, .int .i64 0, .int .i64 0, .slice none 0 0, .int .i64 m, .int .i64 0] 81) (.cells #[.pointer (some ⟨w.heap.size + 1, 0, none⟩)] 30) (.cells #[.bool false, .string ⟨#[]⟩, .slice none 0 0] 48) (.cells #[.func (.func 58) #[] #[.pointer (some ⟨w.heap.size + 1 + 1, 0, none⟩)], .func (.func 61) #[.pointer (some ⟨w.heap.size + 1, 0, none⟩)] #[], .func (.func 62) #[.pointer (some ⟨w.heap.size + 1, 0, none⟩)] #[], .func (.func 63) #[] #[.pointer (some ⟨w.heap.size + 1 + 1, 0, none⟩), .pointer (some ⟨w.heap.size + 1 + 1 + 1, 0, none⟩)], .func (.func 65) #[] #[.pointer (some ⟨w.heap.size + 1 + 1, 0, none⟩), .pointer (some ⟨w.heap.size + 1 + 1 + 1, 0, none⟩)], .func (.func 67) #[] #[.pointer (some ⟨w.heap.size + 1 + 1, 0, none⟩)]] 34)
  have B5 : Below w.heap.size w (((((w.alloc (.cells #[.bool false, .string ⟨#[]⟩, .slice none 0 0] 48)).alloc (.cells #[.pointer (some ⟨g, 0, none⟩), .int .i64 0, .int .i64 0, .int .i64 0, .slice none 0 0, .int .i64 m, .int .i64 0] 81)).alloc (.cells #[.pointer (some ⟨w.heap.size + 1, 0, none⟩)] 30)).alloc (.cells #[.bool false, .string ⟨#[]⟩, .slice none 0 0] 48)).alloc (.cells #[.func (.func 58) #[] #[.pointer (some ⟨w.heap.size + 1 + 1, 0, none⟩)], .func (.func 61) #[.pointer (some ⟨w.heap.size + 1, 0, none⟩)] #[], .func (.func 62) #[.pointer (some ⟨w.heap.size + 1, 0, none⟩)] #[], .func (.func 63) #[] #[.pointer (some ⟨w.heap.size + 1 + 1, 0, none⟩), .pointer (some ⟨w.heap.size + 1 + 1 + 1, 0, none⟩)], .func (.func 65) #[] #[.pointer (some ⟨w.heap.size + 1 + 1, 0, none⟩), .pointer (some ⟨w.heap.size + 1 + 1 + 1, 0, none⟩)], .func (.func 67) #[] #[.pointer (some ⟨w.heap.size + 1 + 1, 0, none⟩)]] 34)) := (((((Below.refl _ _).alloc (Nat.le_refl _) _).alloc (by simp) _).alloc (by simp; omega) _).alloc (by simp; omega) _).alloc (by simp; omega) _
  have D5 := hd.below B5
  have HX0 := Kp.mk x0
  have HXV := Kp.mk xv
  have HXP := Kp.mk xp
  have HXF := Kp.mk xf
  have HXR := Kp.mk xr
  have HXZ := Kp.mk xz
  have HB5 := Kp.mk B5
  have HD5 := Kp.mk D5
  have HT := Kp.mk ht
  clear x0 xv xp xf xr xz B5 D5 hd ht
  go_enter Tryz.func20, Tryz.ntmps20
  go_wp2_with fail
  generalize (((((w.alloc (.cells #[.bool false, .string ⟨#[]⟩, .slice none 0 0] 48)).alloc (.cells #[.pointer (some ⟨g, 0, none⟩), .int .i64 0, .int .i64 0, .int .i64 0, .slice none 0 0, .int .i64 m, .int .i64 0] 81)).alloc (.cells #[.pointer (some ⟨w.heap.size + 1, 0, none⟩)] 30)).alloc (.cells #[.bool false, .string ⟨#[]⟩, .slice none 0 0] 48)).alloc (.cells #[.func (.func 58) #[] #[.pointer (some ⟨w.heap.size + 1 + 1, 0, none⟩)], .func (.func 61) #[.pointer (some ⟨w.heap.size + 1, 0, none⟩)] #[], .func (.func 62) #[.pointer (some ⟨w.heap.size + 1, 0, none⟩)] #[], .func (.func 63) #[] #[.pointer (some ⟨w.heap.size + 1 + 1, 0, none⟩), .pointer (some ⟨w.heap.size + 1 + 1 + 1, 0, none⟩)], .func (.func 65) #[] #[.pointer (some ⟨w.heap.size + 1 + 1, 0, none⟩), .pointer (some ⟨w.heap.size + 1 + 1 + 1, 0, none⟩)], .func (.func 67) #[] #[.pointer (some ⟨w.heap.size + 1 + 1, 0, none⟩)]] 34)) = w5 at *
  have C5 : Kp (Chg w w5 g) := ⟨Chg.of_below HB5.out g⟩
  have V5 : Kp (VS w5 g (w.heap.size + 1) D HdV.zero m 0) := ⟨⟨HD5.out, ⟨HXV.out, RK.nil 1 _, fun k hk => by simp [HdV.zero, blk] at hk, by omega, by show (0 : Nat) ≤ 31; decide⟩, ho, fun W hW => HT.out W (Ch3.chg (f := w.heap.size) C5.out (Ch3.of hW w.heap.size) (by omega) (Nat.le_refl _))⟩⟩
  obtain ⟨b0, hb0⟩ : ∃ b, b = w.heap.size := ⟨_, rfl⟩
  obtain ⟨v, hv⟩ : ∃ b, b = w.heap.size + 1 := ⟨_, rfl⟩
  obtain ⟨pb, hpb⟩ : ∃ b, b = w.heap.size + 1 + 1 := ⟨_, rfl⟩
  obtain ⟨f, hf⟩ : ∃ b, b = w.heap.size + 1 + 1 + 1 := ⟨_, rfl⟩
  obtain ⟨rb, hrb⟩ : ∃ b, b = w.heap.size + 1 + 1 + 1 + 1 := ⟨_, rfl⟩
  rw [← hrb, ← hf, ← hpb, ← hv] at HXR
  rw [← hf] at HXF
  rw [← hpb, ← hv] at HXP
  rw [← hv] at V5
  rw [← hb0] at HX0
  rw [← hrb, ← hf, ← hpb, ← hv, ← hb0]
  clear HXV HD5
  refine (all_any ⟨rb, 0, none⟩ 6 6 fO (bO v) (cO pb f) (SO w5 g v f m D) (TO w5 g v f D) w5 (by decide) ⟨V5.out, HXF.out, Ch3.of (Ch2.refl _ _ _) f⟩ ?_ ?_ ?_).mono ?_
  · intro W i hi hS
    have hb := (SO.ch i hS).heap HXR.out (by omega) (by omega) (by omega)
    rw [Addr.add_lit, Nat.zero_add]
    clear hS
    have h6 : i = 0 ∨ i = 1 ∨ i = 2 ∨ i = 3 ∨ i = 4 ∨ i = 5 := by omega
    rcases h6 with rfl | rfl | rfl | rfl | rfl | rfl
    all_goals (simp only [World.cell?, hb]; rfl)
  · intro W i hi
    have h6 : i = 0 ∨ i = 1 ∨ i = 2 ∨ i = 3 ∨ i = 4 ∨ i = 5 := by omega
    rcases h6 with rfl | rfl | rfl | rfl | rfl | rfl
    · exact ent_o1 W _
    · exact ent_load W _
    · exact ent_wipe W _
    · exact ent_o2 W _ _
    · exact ent_o3 W _ _
    · exact ent_o4 W _
  · intro W i hi hS
    have h6 : i = 0 ∨ i = 1 ∨ i = 2 ∨ i = 3 ∨ i = 4 ∨ i = 5 := by omega
    rcases h6 with rfl | rfl | rfl | rfl | rfl | rfl
    · exact os0 w w5 g v pb f m D C5.out HXZ.out hv hpb hf hg HXP.out HT.out W hS
    · exact os1 w w5 g v pb f m D C5.out HXZ.out hv hpb hf hg HXP.out HT.out W hS
    · exact os2 w w5 g v pb f m D C5.out HXZ.out hv hpb hf hg HXP.out HT.out W hS
    · exact os3 w w5 g v pb f m D C5.out HXZ.out hv hpb hf hg HXP.out HT.out W hS
    · exact os4 w w5 g v pb f m D C5.out HXZ.out hv hpb hf hg HXP.out HT.out W hS
    · exact os5 w w5 g v pb f m D C5.out HXZ.out hv hpb hf hg HXP.out HT.out W hS
  · rintro e w6 ⟨z, rfl, hz⟩
    have HZ := Kp.mk hz
    clear hz
    by_cases h0 : z = 0
    · subst h0
      have hS : SO w5 g v f m D 6 w6 := HZ.out.elim (fun h => h.2) (fun h => absurd rfl h.1)
      obtain ⟨e1, e2, e3, e4, e5, e6, ⟨p, hpv, s, hfr⟩, ⟨ao, cap, fd, r, hn⟩, c⟩ := hS
      have hE : openE D = 0 := by unfold openE; rw [if_neg (by simpa using e1), if_neg (by simpa using e2), if_neg (by simpa using e3), if_neg (by simpa using e4), if_neg (by simpa using e5)]; exact e6
      have hD : openD D = (oF D).2 := by unfold openD; rw [if_neg (by simpa using e1), if_neg (by simpa using e2), if_neg (by simpa using e3), if_neg (by simpa using e4), if_neg (by simpa using e5)]
      rw [← hD] at s
      have HE := Kp.mk hE
      have X0 := c.heap HX0.out (by omega) (by omega) (by omega)
      have XP := c.heap HXP.out (by omega) (by omega) (by omega)
      have y0 := one_cell XP
      obtain ⟨z0, z1, z2⟩ := cells3f fd
      obtain ⟨u0, u1, u2⟩ := cells3f X0
      have fz0 : w6.frozen? ⟨b0, 0, none⟩ = false := by simp [World.frozen?, X0]
      have fz1 : w6.frozen? ⟨b0, 1, none⟩ = false := by simp [World.frozen?, X0]
      have fz2 : w6.frozen? ⟨b0, 2, none⟩ = false := by simp [World.frozen?, X0]
      have C6 := Kp.mk (Ch3.chg C5.out c (by omega) (by omega))
      have HS := Kp.mk s
      have HRw := Kp.mk r
      have HFr := Kp.mk hfr
      have HN := Kp.mk hn
      have HPv := Kp.mk hpv
      have HX6 := Kp.mk X0
      clear e1 e2 e3 e4 e5 e6 hpv s hfr fd r hn c hE hD X0 XP
      have HVS : Kp (∀ a b c, VS (((w6.setCell ⟨b0, 0, none⟩ a).setCell ⟨b0, 1, none⟩ b).setCell ⟨b0, 2, none⟩ c) g v (openD D) p m (oR D).1.length) := ⟨fun a b c => by
        have hT : ∀ W1, Chg w W1 g → ∀ W, Ch3 W1 W g v b0 → Tab W := fun W1 c1 W cw => HT.out W (Ch3.chg c1 cw (by omega) (by omega))
        exact ((HS.out.setf a (by omega) (by omega) (fun k hk => by have := HFr.out k hk; have := HXZ.out; omega) (hT _ C6.out)).setf b (by omega) (by omega) (fun k hk => by have := HFr.out k hk; have := HXZ.out; omega) (hT _ (chg_set C6.out (by omega) _))).setf c (by omega) (by omega) (fun k hk => by have := HFr.out k hk; have := HXZ.out; omega) (hT _ (chg_set (chg_set C6.out (by omega) _) (by omega) _))⟩
      have HOpd : Kp (∀ a b c, Opened w (((w6.setCell ⟨b0, 0, none⟩ a).setCell ⟨b0, 1, none⟩ b).setCell ⟨b0, 2, none⟩ c) g D m v p ao cap) := ⟨fun a b c => ⟨HVS.out a b c, HPv.out, ((HRw.out.set _ _ fun k hk => by have := HN.out k hk; have := HXZ.out; simp; omega).set _ _ fun k hk => by have := HN.out k hk; have := HXZ.out; simp; omega).set _ _ fun k hk => by have := HN.out k hk; have := HXZ.out; simp; omega, fun k hk => by have := HN.out k hk; have := HXZ.out; omega, by omega, fun k hk => by have := HFr.out k hk; have := HXZ.out; omega, chg_set (chg_set (chg_set C6.out (by omega) _) (by omega) _) (by omega) _⟩⟩
      clear HVS HZ hb0 hv hpb hf hrb hg
      go_wp2
      go_region
      all_goals go_wp2
      obtain ⟨m0, m1, m2⟩ := cells3f (set3_heap HX6.out (.bool (oS D).2.1) (.string (oS D).2.2) (.slice ao (oR D).1.length cap))
      refine bodyPost_ret (v := .tuple #[.pointer (some ⟨v, 0, none⟩), .agg #[.bool (oS D).2.1, .string (oS D).2.2, .slice ao (oR D).1.length cap], .int .i64 0]) (by simp [results, Tryz.results20, go_sem, m0, m1, m2]) rfl ?_
      exact .inr ⟨HE.out, v, p, ao, cap, rfl, by first | exact (HOpd.out _ _ _).drew | exact HOpd.out _ _ _⟩
    · have hTO : TO w5 g v f D z w6 := HZ.out.elim (fun h => absurd h.1 h0) (fun h => h.2)
      obtain ⟨hE, d6, k6, c6⟩ := hTO
      have X0 := c6.heap HX0.out (by omega) (by omega) (by omega)
      obtain ⟨u0, u1, u2⟩ := cells3f X0
      have fz0 : w6.frozen? ⟨b0, 0, none⟩ = false := by simp [World.frozen?, X0]
      have fz1 : w6.frozen? ⟨b0, 1, none⟩ = false := by simp [World.frozen?, X0]
      have fz2 : w6.frozen? ⟨b0, 2, none⟩ = false := by simp [World.frozen?, X0]
      have t3 : (z == 0) = false := by rw [beq_eq_false_iff_ne]; exact h0
      have HF := Kp.mk (And.intro hE (And.intro d6 (And.intro k6 (Ch3.chg C5.out c6 (by omega) (by omega)))))
      have HX6 := Kp.mk X0
      clear hE d6 k6 c6 X0 HZ
      have HFin : Kp (openE D ≠ 0 ∧ DiskAt (((w6.setCell ⟨b0, 0, none⟩ (.bool false)).setCell ⟨b0, 1, none⟩ (.string ⟨#[]⟩)).setCell ⟨b0, 2, none⟩ (.slice none 0 0)) g (openD D) ∧ Ok (openD D) ∧ Chg w (((w6.setCell ⟨b0, 0, none⟩ (.bool false)).setCell ⟨b0, 1, none⟩ (.string ⟨#[]⟩)).setCell ⟨b0, 2, none⟩ (.slice none 0 0)) g) := ⟨by
        refine ⟨by rw [← HF.out.1]; exact h0, ((HF.out.2.1.same (Below.heap_setCell _ ⟨b0, 0, none⟩ _ g (by show g ≠ b0; omega))).same (Below.heap_setCell _ ⟨b0, 1, none⟩ _ g (by show g ≠ b0; omega))).same (Below.heap_setCell _ ⟨b0, 2, none⟩ _ g (by show g ≠ b0; omega)), HF.out.2.2.1, chg_set (chg_set (chg_set HF.out.2.2.2 (by omega) _) (by omega) _) (by omega) _⟩⟩
      have HZE := Kp.mk HF.out.1
      clear HF hb0 hv hpb hf hrb hg
      go_wp2
      obtain ⟨m0, m1, m2⟩ := cells3f (set3_heap HX6.out (.bool false) (.string ⟨#[]⟩) (.slice none 0 0))
      refine bodyPost_ret (v := .tuple #[.pointer none, .agg #[.bool false, .string ⟨#[]⟩, .slice none 0 0], .int .i64 z]) (by simp [results, Tryz.results20, go_sem, m0, m1, m2]) rfl ?_
      rw [HZE.out]
      exact .inl ⟨HFin.out.1, rfl, HFin.out.2.1, HFin.out.2.2.1, HFin.out.2.2.2⟩
end Go.Proofs.YtpfoekfbcpinlaaGreatDoor
/- vault: put's closure, the closures of turn and Lay. -/
namespace Go.Proofs.YtpfoekfbcpinlaaGreatDoor
open Go.RowKit
set_option linter.unusedVariables false

theorem vput_any (v : Nat) (p : HdV) (w : World) : Calls Tryz.prog 77 #[.pointer (some ⟨v, 0, none⟩), p.v] w fun e w' => e = .returned (.func (.func 103) #[] #[.pointer (some ⟨w.heap.size, 0, none⟩), .pointer (some ⟨w.heap.size + 1, 0, none⟩)]) ∧ w' = (w.alloc (.cells #[.pointer (some ⟨v, 0, none⟩)] 30)).alloc (.cells #[.int .i64 p.gen, .int .i64 p.base, .int .i64 p.snap, .slice p.lo p.ll p.lc] 38) := by
  obtain ⟨pg, pb, ps, plo, pll, plc, plf⟩ := p
  unfold HdV.v
  simp only []
  go_enter Tryz.func77, Tryz.ntmps77
  go_wp2
  go_ret
  exact ⟨rfl, rfl⟩
set_option maxRecDepth 20000 in
theorem turn1_any (g v vb tb : Nat) (t : Int) (D : DiskV) (q : HdV) (m : Int) (n : Nat) (w : World) (h : VS w g v D q m n) (hv : w.cell? ⟨vb, 0, none⟩ = some (.pointer (some ⟨v, 0, none⟩))) (htb : w.cell? ⟨tb, 0, none⟩ = some (.int .i64 t)) (h1 : vb ≠ g ∧ vb ≠ v) (h2 : tb ≠ g ∧ tb ≠ v) :
    Calls Tryz.prog 91 #[.pointer (some ⟨vb, 0, none⟩), .pointer (some ⟨tb, 0, none⟩)] w fun e w' => e = .returned (.int .i64 (wipeV D t).1) ∧ VS w' g v (wipeV D t).2 q m n ∧ Ch2 w w' g v := by
  have k0 := h.vlt.c0
  have HW := Kp.mk ((Wipe_any g D t w.drew h.drew.disk h.ok).mono fun e w' (hh : _ ∧ _ ∧ _) => And.intro hh.1 (And.intro (h.drew.chg hh.2.2 hh.2.1 (h.ok.wipe _)) ((Ch2.refl w g v).dr.trans (Ch2.of_chg hh.2.2 v))))
  have HK : Kp (∀ W, Ch2 w W g v → W.cell? ⟨vb, 0, none⟩ = some (.pointer (some ⟨v, 0, none⟩)) ∧ W.cell? ⟨tb, 0, none⟩ = some (.int .i64 t)) := ⟨fun W c => ⟨c.cell hv h1.1 h1.2, c.cell htb h2.1 h2.2⟩⟩
  generalize wipeV D t = P at HW ⊢
  obtain ⟨z, D1⟩ := P
  simp only [] at HW ⊢
  clear h
  go_enter Tryz.func91, Tryz.ntmps91
  go_wp2_with fail
  go_region_held3 (fun w' => w'.cell? ⟨vb, 0, none⟩ = some (.pointer (some ⟨v, 0, none⟩)) ∧ w'.cell? ⟨tb, 0, none⟩ = some (.int .i64 t) ∧ w'.cell? ⟨v, 0, none⟩ = some (.pointer (some ⟨g, 0, none⟩))) (go_keep)
    (first
      | (go_at_call 73; refine HW.out.mono ?_; rintro e wu ⟨rfl, s1, c1⟩; obtain ⟨hv, htb⟩ := HK.out _ c1; have k0 := s1.vlt.c0; have H := Kp.mk (And.intro s1 c1); clear s1 c1))
  go_wp2
  go_ret
  exact ⟨rfl, H.out.1, H.out.2⟩
end Go.Proofs.YtpfoekfbcpinlaaGreatDoor
/- vault: turn. -/
namespace Go.Proofs.YtpfoekfbcpinlaaGreatDoor
open Go.RowKit
set_option linter.unusedVariables false

/-- The head of the next generation, with a tape behind its log's. -/
def nextH (h : Hd.HV) (t : Int) : Hd.HV := ⟨h.gen + 1, h.base, h.snap, h.log ++ [t]⟩
def freeT (h : Hd.HV) : Int := h.free.headD 0
/-- What turn does behind its tests. -/
def turnG (D : DiskV) (h : Hd.HV) : Int × DiskV × Hd.HV :=
  if (syncV D (lastT h)).1 ≠ 0 then ((syncV D (lastT h)).1, (syncV D (lastT h)).2, h)
  else if (wipeV (syncV D (lastT h)).2 (freeT h)).1 ≠ 0 then ((wipeV (syncV D (lastT h)).2 (freeT h)).1, (wipeV (syncV D (lastT h)).2 (freeT h)).2, h)
  else ((Hd.putV (wipeV (syncV D (lastT h)).2 (freeT h)).2 (nextH h (freeT h))).1, (Hd.putV (wipeV (syncV D (lastT h)).2 (freeT h)).2 (nextH h (freeT h))).2, if (Hd.putV (wipeV (syncV D (lastT h)).2 (freeT h)).2 (nextH h (freeT h))).1 = 0 then nextH h (freeT h) else h)
def turnRoom (D : DiskV) (h : Hd.HV) (size : Nat) : Int := (used D.tp 32 : Int) + size - sizeF D (freeT h).toNat - sizeF D (Hd.otherV D) + HSize (nextH h (freeT h))
def turnV (D : DiskV) (h : Hd.HV) (size : Nat) : Int × DiskV × Hd.HV :=
  if 1099511627776 ≤ h.gen then (40, D, h) else if h.free = [] then (44, D, h) else if D.cap < turnRoom D h size then (44, D, h) else turnG D h
theorem free_in {h : Hd.HV} (hn : h.free ≠ []) : ∃ k : Nat, freeT h = k ∧ 2 ≤ k ∧ k < 32 := by
  have hm : freeT h ∈ h.free := by
    unfold freeT
    cases hf : h.free with
    | nil => exact absurd hf hn
    | cons a r => simp
  have := (List.mem_filter.1 hm).1
  unfold Hd.R at this
  rw [List.mem_map] at this
  obtain ⟨k, hk, he⟩ := this
  rw [List.mem_range] at hk
  exact ⟨k + 2, by omega, by omega, by omega⟩
def putF1 (f : Nat → Int) (n : Nat) (x : Int) : Nat → Int := fun j => if j = n then x else f j
theorem numL_snoc (f : Nat → Int) (n : Nat) (x : Int) : numL (putF1 f n x) (n + 1) = numL f n ++ [.int .i64 x] ∧ rowI (putF1 f n x) (n + 1) = rowI f n ++ [x] := by
  have h : rowI (putF1 f n x) (n + 1) = rowI f n ++ [x] := by
    rw [rowI_succ]
    have e1 : putF1 f n x n = x := by unfold putF1; rw [if_pos rfl]
    have e2 : rowI (putF1 f n x) n = rowI f n := by
      unfold rowI
      apply List.map_congr_left
      intro j hj
      rw [List.mem_range] at hj
      unfold putF1
      rw [if_neg (by omega)]
    rw [e1, e2]
  refine ⟨?_, h⟩
  unfold numL
  rw [h, List.map_append]
  rfl
theorem ent_sync (W : World) (p : Value) : (callFunc 49 (#[p] ++ #[])).run Tryz.prog W = .ok (.enter 49 (#[p] ++ #[])) W := by kernel_rfl
theorem ent_turn1 (W : World) (p r : Value) : (callFunc 91 (#[] ++ #[p, r])).run Tryz.prog W = .ok (.enter 91 (#[] ++ #[p, r])) W := by kernel_rfl
theorem ent_put1 (W : World) (p r : Value) : (callFunc 103 (#[] ++ #[p, r])).run Tryz.prog W = .ok (.enter 103 (#[] ++ #[p, r])) W := by kernel_rfl
/-- The steps of turn, one behind the other. -/
theorem turn_all (w : World) (g v vb tb cb pb hb : Nat) (D : DiskV) (q p : HdV) (m : Int) (n : Nat) (hs : VS w g v D q m n) (hl : 0 < q.ll)
    (hc : w.heap[cb]? = some (.cells #[.func (.func 49) #[.pointer (some ⟨v, 0, none⟩)] #[], .func (.func 91) #[] #[.pointer (some ⟨vb, 0, none⟩), .pointer (some ⟨tb, 0, none⟩)], .func (.func 103) #[] #[.pointer (some ⟨pb, 0, none⟩), .pointer (some ⟨hb, 0, none⟩)]] 34 (0, 0)))
    (hv : w.cell? ⟨vb, 0, none⟩ = some (.pointer (some ⟨v, 0, none⟩))) (ht : w.cell? ⟨tb, 0, none⟩ = some (.int .i64 (freeT q.hv))) (hp : w.cell? ⟨pb, 0, none⟩ = some (.pointer (some ⟨v, 0, none⟩))) (hh : w.heap[hb]? = some (.cells #[.int .i64 p.gen, .int .i64 p.base, .int .i64 p.snap, .slice p.lo p.ll p.lc] 38 (0, 0)))
    (hr : RK 1 w (.slice p.lo p.ll p.lc) p.ll (numL p.lf p.ll)) (hoff : ∀ k, blk (.slice p.lo p.ll p.lc) = some k → k ≠ g ∧ k ≠ v) (hf : p.ll ≤ 31) (hpv : p.hv = nextH q.hv (freeT q.hv))
    (n1 : cb ≠ g ∧ cb ≠ v) (n2 : vb ≠ g ∧ vb ≠ v) (n3 : tb ≠ g ∧ tb ≠ v) (n4 : pb ≠ g ∧ pb ≠ v) (n5 : hb ≠ g ∧ hb ≠ v) :
    Calls Tryz.prog 57 #[.slice (some ⟨cb, 0, none⟩) 3 3] w fun e w' => e = .returned (.int .i64 (turnG D q.hv).1) ∧ (∃ p' : HdV, p'.hv = (turnG D q.hv).2.2 ∧ VS w' g v (turnG D q.hv).2.1 p' m n ∧ (p' = q ∨ p' = p)) ∧ Ch2 w w' g v := by
  refine (all_any ⟨cb, 0, none⟩ 3 3 (fun i => if i = 0 then 49 else if i = 1 then 91 else 103)
    (fun i => if i = 0 then #[.pointer (some ⟨v, 0, none⟩)] else #[]) (fun i => if i = 0 then #[] else if i = 1 then #[.pointer (some ⟨vb, 0, none⟩), .pointer (some ⟨tb, 0, none⟩)] else #[.pointer (some ⟨pb, 0, none⟩), .pointer (some ⟨hb, 0, none⟩)])
    (fun i W => (i = 0 ∧ VS W g v D q m n ∧ Ch2 w W g v) ∨ (i = 1 ∧ (syncV D (lastT q.hv)).1 = 0 ∧ VS W g v (syncV D (lastT q.hv)).2 q m n ∧ Ch2 w W g v)
      ∨ (i = 2 ∧ (syncV D (lastT q.hv)).1 = 0 ∧ (wipeV (syncV D (lastT q.hv)).2 (freeT q.hv)).1 = 0 ∧ VS W g v (wipeV (syncV D (lastT q.hv)).2 (freeT q.hv)).2 q m n ∧ Ch2 w W g v)
      ∨ (i = 3 ∧ (turnG D q.hv).1 = 0 ∧ (turnG D q.hv).2.2 = nextH q.hv (freeT q.hv) ∧ VS W g v (turnG D q.hv).2.1 p m n ∧ Ch2 w W g v))
    (fun z W => z = (turnG D q.hv).1 ∧ (turnG D q.hv).2.2 = q.hv ∧ VS W g v (turnG D q.hv).2.1 q m n ∧ Ch2 w W g v) w (by decide) (.inl ⟨rfl, hs, Ch2.refl _ _ _⟩) ?_ ?_ ?_).mono ?_
  · intro W i hi hS
    have hch : Ch2 w W g v := by rcases hS with ⟨_, _, h⟩ | ⟨_, _, _, h⟩ | ⟨_, _, _, _, h⟩ | ⟨_, _, _, _, h⟩ <;> exact h
    have hb := hch.heap hc n1.1 n1.2
    rw [Addr.add_lit, Nat.zero_add]
    clear hS
    have h3 : i = 0 ∨ i = 1 ∨ i = 2 := by omega
    rcases h3 with rfl | rfl | rfl
    all_goals (simp only [World.cell?, hb]; rfl)
  · intro W i hi
    have h3 : i = 0 ∨ i = 1 ∨ i = 2 := by omega
    rcases h3 with rfl | rfl | rfl
    · exact ent_sync W _
    · exact ent_turn1 W _ _
    · exact ent_put1 W _ _
  · intro W i hi hS
    rcases hS with ⟨rfl, s, c⟩ | ⟨rfl, e1, s, c⟩ | ⟨rfl, e1, e2, s, c⟩ | ⟨rfl, _⟩
    · refine (vsync_any g v D q m n W s hl).mono ?_
      rintro e W' ⟨rfl, s1, c1⟩
      refine ⟨_, rfl, ?_⟩
      by_cases h0 : (syncV D (lastT q.hv)).1 = 0
      · exact .inl ⟨h0, .inr (.inl ⟨rfl, h0, s1, c.trans c1⟩)⟩
      · have hG : turnG D q.hv = ((syncV D (lastT q.hv)).1, (syncV D (lastT q.hv)).2, q.hv) := by unfold turnG; rw [if_pos h0]
        refine .inr ⟨h0, ?_⟩
        rw [hG]
        exact ⟨rfl, rfl, s1, c.trans c1⟩
    · refine (turn1_any g v vb tb (freeT q.hv) _ q m n W s (c.cell hv n2.1 n2.2) (c.cell ht n3.1 n3.2) n2 n3).mono ?_
      rintro e W' ⟨rfl, s1, c1⟩
      refine ⟨_, rfl, ?_⟩
      by_cases h0 : (wipeV (syncV D (lastT q.hv)).2 (freeT q.hv)).1 = 0
      · exact .inl ⟨h0, .inr (.inr (.inl ⟨rfl, e1, h0, s1, c.trans c1⟩))⟩
      · have hG : turnG D q.hv = ((wipeV (syncV D (lastT q.hv)).2 (freeT q.hv)).1, (wipeV (syncV D (lastT q.hv)).2 (freeT q.hv)).2, q.hv) := by unfold turnG; rw [if_neg (by simpa using e1), if_pos h0]
        refine .inr ⟨h0, ?_⟩
        rw [hG]
        exact ⟨rfl, rfl, s1, c.trans c1⟩
    · have hrW : RK 1 W (.slice p.lo p.ll p.lc) p.ll (numL p.lf p.ll) := hr.ch2 c hoff
      have HP := vput_do g v pb hb _ q p m n W s (c.cell hp n4.1 n4.2) (c.heap hh n5.1 n5.2) hrW hoff hf n4 n5
      rw [hpv] at HP
      refine HP.mono ?_
      rintro e W' ⟨rfl, hs1, c1⟩
      refine ⟨_, rfl, ?_⟩
      have hG0 : turnG D q.hv = ((Hd.putV (wipeV (syncV D (lastT q.hv)).2 (freeT q.hv)).2 (nextH q.hv (freeT q.hv))).1, (Hd.putV (wipeV (syncV D (lastT q.hv)).2 (freeT q.hv)).2 (nextH q.hv (freeT q.hv))).2, if (Hd.putV (wipeV (syncV D (lastT q.hv)).2 (freeT q.hv)).2 (nextH q.hv (freeT q.hv))).1 = 0 then nextH q.hv (freeT q.hv) else q.hv) := by
        unfold turnG; rw [if_neg (by simpa using e1), if_neg (by simpa using e2)]
      rw [hG0]
      rcases hs1 with ⟨h0, s1⟩ | ⟨h0, s1⟩
      · exact .inl ⟨h0, .inr (.inr (.inr ⟨rfl, h0, if_pos h0, s1, c.trans c1⟩))⟩
      · exact .inr ⟨h0, rfl, if_neg h0, s1, c.trans c1⟩
    · omega
  · rintro e w6 ⟨z, rfl, hz⟩
    rcases hz with ⟨rfl, ⟨h, _⟩ | ⟨h, _⟩ | ⟨h, _⟩ | ⟨_, h1, h2, h3, h4⟩⟩ | ⟨_, h1, h2, h3, h4⟩
    · omega
    · omega
    · omega
    · exact ⟨by rw [h1], ⟨p, by rw [hpv, h2], h3, .inr rfl⟩, h4⟩
    · exact ⟨by rw [h1], ⟨q, h2.symm, h3, .inl rfl⟩, h4⟩
end Go.Proofs.YtpfoekfbcpinlaaGreatDoor
/- Where the ways of a region meet that lays two boxes beside a call: a tape's number, and a head. -/
namespace Go.Proofs.YtpfoekfbcpinlaaGreatDoor
open Go.RowKit
set_option linter.unusedVariables false

/-- A tape's number lies in block tb, a head of the call's own in block hb. -/
structure TJ (w2 wx : World) (tk : Int) (p : HdV) (tb hb : Nat) : Prop where
  xt : wx.heap[tb]? = some (.cells #[.int .i64 tk] 3 (0, 0))
  xh : wx.heap[hb]? = some (.cells #[.int .i64 p.gen, .int .i64 p.base, .int .i64 p.snap, .slice p.lo p.ll p.lc] 38 (0, 0))
  row : RK 1 wx (.slice p.lo p.ll p.lc) p.ll (numL p.lf p.ll)
  new : ∀ k, blk (.slice p.lo p.ll p.lc) = some k → w2.heap.size ≤ k ∧ k ≠ tb ∧ k ≠ hb
  gt : w2.heap.size ≤ tb
  gh : w2.heap.size ≤ hb
  ne : tb ≠ hb
  bel : Below w2.heap.size w2 wx
abbrev OT (x : Int) : Obj := .cells #[.int .i64 x] 3 (0, 0)
abbrev OH (p : HdV) : Obj := .cells #[.int .i64 p.gen, .int .i64 p.base, .int .i64 p.snap, .slice p.lo p.ll p.lc] 38 (0, 0)
abbrev OZ : Obj := .cells #[.int .i64 0, .int .i64 0, .int .i64 0, .slice none 0 0] 38 (0, 0)
theorem one_set' {W : World} {b : Nat} {x : Int} {T : TypeId} (h : W.heap[b]? = some (.cells #[.int .i64 x] T (0, 0))) (y : Value) : (W.setCell ⟨b, 0, none⟩ y).heap[b]? = some (.cells #[y] T (0, 0)) := one_set h y
abbrev set4h (W : World) (b : Nat) (p : HdV) : World := (((W.setCell ⟨b, 0, none⟩ (.int .i64 p.gen)).setCell ⟨b, 1, none⟩ (.int .i64 p.base)).setCell ⟨b, 2, none⟩ (.int .i64 p.snap)).setCell ⟨b, 3, none⟩ (.slice p.lo p.ll p.lc)
theorem set4h_at {W : World} {b : Nat} {p : HdV} (h : W.heap[b]? = some OZ) : (set4h W b p).heap[b]? = some (OH p) := box4 h _ _ _ _
theorem set4h_other {W : World} {b k : Nat} {p : HdV} (h : k ≠ b) : (set4h W b p).heap[k]? = W.heap[k]? := by
  unfold set4h
  rw [Below.heap_setCell _ ⟨b, 3, none⟩ _ k h, Below.heap_setCell _ ⟨b, 2, none⟩ _ k h, Below.heap_setCell _ ⟨b, 1, none⟩ _ k h, Below.heap_setCell _ ⟨b, 0, none⟩ _ k h]
theorem set4h_size (W : World) (b : Nat) (p : HdV) : (set4h W b p).heap.size = W.heap.size := by unfold set4h; simp
theorem set4h_below {B b : Nat} {a W : World} {p : HdV} (h : Below B a W) (hb : B ≤ b) : Below B a (set4h W b p) :=
  (((h.setCell (p := ⟨b, 0, none⟩) hb _).setCell (p := ⟨b, 1, none⟩) hb _).setCell (p := ⟨b, 2, none⟩) hb _).setCell (p := ⟨b, 3, none⟩) hb _
section
variable {w2 w3 : World} {tk : Int} {p : HdV}
theorem tj_at (hb : Below w2.heap.size w2 w3) {wx : World} {tb hbk : Nat} (hx : Below w2.heap.size w3 wx) (xt : wx.heap[tb]? = some (OT tk)) (xh : wx.heap[hbk]? = some (OH p)) (hr : RK 1 w3 (.slice p.lo p.ll p.lc) p.ll (numL p.lf p.ll))
    (hn : ∀ k, blk (.slice p.lo p.ll p.lc) = some k → w2.heap.size ≤ k ∧ k ≠ tb ∧ k ≠ hbk ∧ wx.heap[k]? = w3.heap[k]?) (g1 : w2.heap.size ≤ tb) (g2 : w2.heap.size ≤ hbk) (ne : tb ≠ hbk) : TJ w2 wx tk p tb hbk :=
  ⟨xt, xh, hr.same hx.size fun k hk => (hn k hk).2.2.2, fun k hk => ⟨(hn k hk).1, (hn k hk).2.1, (hn k hk).2.2.1⟩, g1, g2, ne, hb.trans hx⟩
theorem tj1 (hb : Below w2.heap.size w2 w3) (hr : RK 1 w3 (.slice p.lo p.ll p.lc) p.ll (numL p.lf p.ll)) (hn : ∀ k, blk (.slice p.lo p.ll p.lc) = some k → w2.heap.size ≤ k) : TJ w2 ((w3.alloc (OT tk)).alloc (OH p)) tk p w3.heap.size (w3.heap.size + 1) :=
  tj_at hb (((Below.refl _ w3).alloc hb.size _).alloc (by simp; have := hb.size; omega) _) (heap_first w3 _ _) (heap_second w3 _ _) hr (fun k hk => by
    have := hr.lt k hk
    exact ⟨hn k hk, by omega, by omega, (Below.heap_alloc _ _ k (by simp; omega)).trans (Below.heap_alloc _ _ k this)⟩) hb.size (by have := hb.size; omega) (by omega)
theorem tj2 (hb : Below w2.heap.size w2 w3) (hr : RK 1 w3 (.slice p.lo p.ll p.lc) p.ll (numL p.lf p.ll)) (hn : ∀ k, blk (.slice p.lo p.ll p.lc) = some k → w2.heap.size ≤ k) : TJ w2 ((w3.alloc (OH p)).alloc (OT tk)) tk p (w3.heap.size + 1) w3.heap.size :=
  tj_at hb (((Below.refl _ w3).alloc hb.size _).alloc (by simp; have := hb.size; omega) _) (heap_second w3 _ _) (heap_first w3 _ _) hr (fun k hk => by
    have := hr.lt k hk
    exact ⟨hn k hk, by omega, by omega, (Below.heap_alloc _ _ k (by simp; omega)).trans (Below.heap_alloc _ _ k this)⟩) (by have := hb.size; omega) hb.size (by omega)
theorem tj3 (hb : Below w2.heap.size w2 w3) (hr : RK 1 w3 (.slice p.lo p.ll p.lc) p.ll (numL p.lf p.ll)) (hn : ∀ k, blk (.slice p.lo p.ll p.lc) = some k → w2.heap.size + 1 ≤ k) (y : w3.heap[w2.heap.size]? = some (OT 0)) : TJ w2 ((w3.setCell ⟨w2.heap.size, 0, none⟩ (.int .i64 tk)).alloc (OH p)) tk p w2.heap.size w3.heap.size := by
  have hlt := lt_of_block' y
  have hsz : (w3.setCell ⟨w2.heap.size, 0, none⟩ (.int .i64 tk)).heap.size = w3.heap.size := by simp
  refine tj_at hb (((Below.refl _ w3).setCell (p := ⟨w2.heap.size, 0, none⟩) (Nat.le_refl _) _).alloc (by rw [hsz]; exact hb.size) _) ((Below.heap_alloc _ _ _ (by rw [hsz]; exact hlt)).trans (one_set' y _)) (by have := heap_alloc_new (w3.setCell ⟨w2.heap.size, 0, none⟩ (.int .i64 tk)) (OH p); rw [hsz] at this; exact this) hr (fun k hk => ?_) (Nat.le_refl _) hb.size (by omega)
  have h1 := hr.lt k hk
  have h2 := hn k hk
  exact ⟨by omega, by omega, by omega, (Below.heap_alloc _ _ k (by rw [hsz]; exact h1)).trans (Below.heap_setCell w3 ⟨w2.heap.size, 0, none⟩ _ k (by show k ≠ w2.heap.size; omega))⟩
theorem tj4 (hb : Below w2.heap.size w2 w3) (hr : RK 1 w3 (.slice p.lo p.ll p.lc) p.ll (numL p.lf p.ll)) (hn : ∀ k, blk (.slice p.lo p.ll p.lc) = some k → w2.heap.size + 1 + 1 ≤ k) (y : w3.heap[w2.heap.size]? = some (OT 0)) (z : w3.heap[w2.heap.size + 1]? = some OZ) : TJ w2 (set4h (w3.setCell ⟨w2.heap.size, 0, none⟩ (.int .i64 tk)) (w2.heap.size + 1) p) tk p w2.heap.size (w2.heap.size + 1) := by
  refine tj_at hb (set4h_below ((Below.refl _ w3).setCell (p := ⟨w2.heap.size, 0, none⟩) (Nat.le_refl _) _) (by omega)) ((set4h_other (by omega)).trans (one_set' y _)) (set4h_at ((Below.heap_setCell w3 ⟨w2.heap.size, 0, none⟩ _ _ (by show w2.heap.size + 1 ≠ w2.heap.size; omega)).trans z)) hr (fun k hk => ?_) (Nat.le_refl _) (by omega) (by omega)
  have h2 := hn k hk
  exact ⟨by omega, by omega, by omega, (set4h_other (by omega)).trans (Below.heap_setCell w3 ⟨w2.heap.size, 0, none⟩ _ k (by show k ≠ w2.heap.size; omega))⟩
theorem tj5 (hb : Below w2.heap.size w2 w3) (hr : RK 1 w3 (.slice p.lo p.ll p.lc) p.ll (numL p.lf p.ll)) (hn : ∀ k, blk (.slice p.lo p.ll p.lc) = some k → w2.heap.size + 1 ≤ k) (y : w3.heap[w2.heap.size]? = some OZ) : TJ w2 ((set4h w3 w2.heap.size p).alloc (OT tk)) tk p w3.heap.size w2.heap.size := by
  have hlt := lt_of_block' y
  have hsz := set4h_size w3 w2.heap.size p
  refine tj_at hb ((set4h_below (Below.refl _ w3) (Nat.le_refl _)).alloc (by rw [hsz]; exact hb.size) _) (by have := heap_alloc_new (set4h w3 w2.heap.size p) (OT tk); rw [hsz] at this; exact this) ((Below.heap_alloc _ _ _ (by rw [hsz]; exact hlt)).trans (set4h_at y)) hr (fun k hk => ?_) hb.size (Nat.le_refl _) (by omega)
  have h1 := hr.lt k hk
  have h2 := hn k hk
  exact ⟨by omega, by omega, by omega, (Below.heap_alloc _ _ k (by rw [hsz]; exact h1)).trans (set4h_other (by omega))⟩
theorem tj6 (hb : Below w2.heap.size w2 w3) (hr : RK 1 w3 (.slice p.lo p.ll p.lc) p.ll (numL p.lf p.ll)) (hn : ∀ k, blk (.slice p.lo p.ll p.lc) = some k → w2.heap.size + 1 + 1 ≤ k) (y : w3.heap[w2.heap.size]? = some OZ) (z : w3.heap[w2.heap.size + 1]? = some (OT 0)) : TJ w2 (set4h (w3.setCell ⟨w2.heap.size + 1, 0, none⟩ (.int .i64 tk)) w2.heap.size p) tk p (w2.heap.size + 1) w2.heap.size := by
  refine tj_at hb (set4h_below ((Below.refl _ w3).setCell (p := ⟨w2.heap.size + 1, 0, none⟩) (by show w2.heap.size ≤ w2.heap.size + 1; omega) _) (Nat.le_refl _)) ((set4h_other (by omega)).trans (one_set' z _)) (set4h_at ((Below.heap_setCell w3 ⟨w2.heap.size + 1, 0, none⟩ _ _ (by show w2.heap.size ≠ w2.heap.size + 1; omega)).trans y)) hr (fun k hk => ?_) (by omega) (Nat.le_refl _) (by omega)
  have h2 := hn k hk
  exact ⟨by omega, by omega, by omega, (set4h_other (by omega)).trans (Below.heap_setCell w3 ⟨w2.heap.size + 1, 0, none⟩ _ k (by show k ≠ w2.heap.size + 1; omega))⟩
end
end Go.Proofs.YtpfoekfbcpinlaaGreatDoor
