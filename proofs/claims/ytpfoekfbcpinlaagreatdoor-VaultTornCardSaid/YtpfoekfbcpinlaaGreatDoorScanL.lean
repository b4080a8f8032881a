/- All frames from a place on, plainly; and the iterator of package frame. -/
import Derived.Test.YtpfoekfbcpinlaaGreatDoorFrameRead
import Derived.RangeFuncBox
import Derived.RangeFuncLeaves
import Derived.RangeFuncCalls
import Derived.Shelf.Abstract
import Derived.OwnWalkIn
import Derived.TacticsInMore
import Derived.LoopNIn
import Derived.LoopIn
namespace Go.Proofs.YtpfoekfbcpinlaaGreatDoor
open Go.RowKit
set_option linter.unusedVariables false

structure FrV where
  k : Nat
  p : List UInt8
  a : Nat
def FrV.v (f : FrV) : Value := .agg #[.int .u8 f.k, .string (B f.p), .int .i64 f.a]
def FrV.cells (f : FrV) : List Value := [.int .u8 f.k, .string (B f.p), .int .i64 f.a]
def FrV.next (f : FrV) : Nat := f.a + 9 + f.p.length
def frAt (l : List UInt8) (p : Nat) : FrV := ⟨(Fr.readL (l.drop p)).2.1, (Fr.readL (l.drop p)).2.2, p⟩
theorem frAt_next {l : List UInt8} {p : Nat} (h : (Fr.readL (l.drop p)).1 = 0) : p + 9 ≤ (frAt l p).next ∧ (frAt l p).next ≤ l.length := by
  have := Fr.readL_len h
  rw [List.length_drop] at this
  unfold FrV.next frAt
  simp only []
  omega
/-- The frames from p on, and where they end. -/
def scanL (l : List UInt8) (p : Nat) : List FrV × Nat :=
  if h : (Fr.readL (l.drop p)).1 = 0 then (frAt l p :: (scanL l (frAt l p).next).1, (scanL l (frAt l p).next).2) else ([], p)
termination_by l.length - p
decreasing_by all_goals (have := frAt_next h; omega)
theorem scanL_ok {l : List UInt8} {p : Nat} (h : (Fr.readL (l.drop p)).1 = 0) : scanL l p = (frAt l p :: (scanL l (frAt l p).next).1, (scanL l (frAt l p).next).2) := by
  rw [scanL, dif_pos h]
theorem scanL_end {l : List UInt8} {p : Nat} (h : (Fr.readL (l.drop p)).1 ≠ 0) : scanL l p = ([], p) := by
  rw [scanL, dif_neg h]
theorem readV_at {s : ByteArray} {p : Nat} (h : p ≤ s.size) : Fr.readV s p = Fr.readL (s.data.toList.drop p) := by
  unfold Fr.readV
  rw [if_neg (by omega), Int.toNat_natCast]
theorem readE_at_ok {s : ByteArray} {p : Nat} (h : p ≤ s.size) (hr : (Fr.readL (s.data.toList.drop p)).1 = 0) :
    Fr.readE s p = .returned (.tuple #[(frAt s.data.toList p).v, .int .i64 ((frAt s.data.toList p).next : Nat), .int .i64 (0 : Nat)]) := by
  unfold Fr.readE
  rw [readV_at h]
  unfold Fr.frv Fr.nxt FrV.v FrV.next frAt
  rw [hr]
  simp only [if_pos]
  rw [show (p : Int) + ((9 + (Fr.readL (s.data.toList.drop p)).2.2.length : Nat) : Int) = ((p + 9 + (Fr.readL (s.data.toList.drop p)).2.2.length : Nat) : Int) from by omega]
theorem readE_at_bad {s : ByteArray} {p : Nat} (h : p ≤ s.size) (hr : (Fr.readL (s.data.toList.drop p)).1 ≠ 0) :
    Fr.readE s p = Fr.badE (Fr.readL (s.data.toList.drop p)).1 :=
  Fr.readE_bad hr (by rw [readV_at h]; exact Prod.ext rfl (Fr.readL_bad hr))
/-- Where the frames end. -/
def good (p : Nat) : List FrV → Nat
  | [] => p
  | x :: r => good x.next r
theorem good_snoc (p : Nat) (l : List FrV) (x : FrV) : good p (l ++ [x]) = x.next := by
  induction l generalizing p with
  | nil => rfl
  | cons y r ih => exact ih _
theorem scanL_good (l : List UInt8) (p : Nat) : (scanL l p).2 = good p (scanL l p).1 := by
  induction p using scanL.induct (l := l) with
  | case1 p h ih => rw [scanL_ok h]; exact ih
  | case2 p h => rw [scanL_end h]; rfl
/-- How far a place that lies in a box is from an end. -/
def leftAt (Ba N : Nat) (W : World) : Nat := N - (match W.cell? ⟨Ba, 0, none⟩ with | some v => (intOf v).toNat | none => 0)
theorem leftAt_eq {Ba N q : Nat} {W : World} (h : W.cell? ⟨Ba, 0, none⟩ = some (.int .i64 q)) : leftAt Ba N W = N - q := by
  unfold leftAt
  rw [h]
  simp [intOf]
theorem one_set {W : World} {b : Nat} {v : Value} {T : TypeId} (h : W.heap[b]? = some (.cells #[v] T (0, 0))) (u : Value) : (W.setCell ⟨b, 0, none⟩ u).heap[b]? = some (.cells #[u] T (0, 0)) := by
  obtain ⟨hlt, hk'⟩ := Array.getElem?_eq_some_iff.1 h
  show (W.heap.modify b _)[b]? = _
  rw [Array.getElem?_eq_getElem (by rw [Array.size_modify]; exact hlt), Array.getElem_modify_self, hk']
  simp
attribute [local go_sem] Oper.semAt_some
set_option maxRecDepth 100000 in
set_option maxHeartbeats 2000000 in
theorem frames_in (l Bs Ba : Nat) (s : ByteArray) (p0 : Nat) (hs : s.size ≤ 140737488351000) (J : List FrV → World → Prop)
    (hJ1 : ∀ pre W W', J pre W → Below W.heap.size W W' → J pre W') (hJ2 : ∀ pre W v, J pre W → J pre (W.setCell ⟨Ba, 0, none⟩ v)) (hJT : ∀ pre W, J pre W → Tab W)
    (hY : ∀ (pre : List FrV) (x : FrV) (W : World), 9 * pre.length ≤ s.size → J pre W → YieldAt Fence.wide 2 Tryz.prog l #[x.v, .int .i64 (x.next : Nat)] W fun e W' => e = .returned (.bool true) ∧ J (pre ++ [x]) W' ∧ W'.heap[Bs]? = W.heap[Bs]? ∧ W'.heap[Ba]? = W.heap[Ba]? ∧ W.heap.size ≤ W'.heap.size)
    (W : World) (hp : p0 ≤ s.size) (hne : Bs ≠ Ba) (hBs : W.heap[Bs]? = some (.cells #[.string s] 9 (0, 0))) (hBa : W.heap[Ba]? = some (.cells #[.int .i64 p0] 3 (0, 0))) (h0 : J [] W) :
    CallsIn Fence.wide 3 Tryz.prog 140 #[.func (.yield l) #[] #[], .pointer (some ⟨Bs, 0, none⟩), .pointer (some ⟨Ba, 0, none⟩)] W fun e W' => (∃ v, e = .returned v) ∧ J (scanL s.data.toList p0).1 W' := by
  refine callsIn_of_wp Tryz.func140 rfl trivial ?_ rfl
  simp only [Tryz.ntmps140, List.size_toArray, List.length_cons, List.length_nil, Nat.reduceAdd, Nat.reduceSub, Array.replicate_succ, Array.replicate_zero, List.push_toArray, List.append_toArray, List.nil_append, List.cons_append]
  gi_wp2
  gi_loopw [4, 5, 6] (fun f x e wr => ∃ (pre : List FrV) (q : Nat), 9 * pre.length ≤ q ∧ q ≤ s.size ∧ (scanL s.data.toList p0).1 = pre ++ (scanL s.data.toList q).1 ∧ wr.heap[Bs]? = some (.cells #[.string s] 9 (0, 0)) ∧ wr.heap[Ba]? = some (.cells #[.int .i64 q] 3 (0, 0)) ∧ J pre wr)
    (fun _ _ _ wr => leftAt Ba s.size wr)
  case atStart => exact ⟨[], p0, by simp, hp, by simp, hBs, hBa, h0⟩
  case round =>
    obtain ⟨pre, q, hpq, hq, hsc, hbs, hba, hj⟩ := hrel
    have cs : wr.cell? ⟨Bs, 0, none⟩ = some (.string s) := by simp [World.cell?, hbs]
    have ca : wr.cell? ⟨Ba, 0, none⟩ = some (.int .i64 q) := by simp [World.cell?, hba]
    have HR := Kp.mk (Read_any s q wr hs (by omega) (by omega) (hJT _ _ hj))
    have hls : Bs < wr.heap.size := (Array.getElem?_eq_some_iff.1 hbs).1
    have hla : Ba < wr.heap.size := (Array.getElem?_eq_some_iff.1 hba).1
    by_cases hr : (Fr.readL (s.data.toList.drop q)).1 = 0
    · rw [readE_at_ok hq hr] at HR
      have hx := frAt_next hr
      rw [data_len] at hx
      have hso := scanL_ok hr
      obtain ⟨x, hxx⟩ : ∃ x, frAt s.data.toList q = x := ⟨_, rfl⟩
      rw [hxx] at HR hx hso
      obtain ⟨k, y, a⟩ := x
      obtain ⟨N, hN⟩ : ∃ N, (⟨k, y, a⟩ : FrV).next = N := ⟨_, rfl⟩
      rw [hN] at HR hx hso
      have HF : Kp (∀ w1, Below wr.heap.size wr w1 → YieldAt Fence.wide 2 Tryz.prog l #[.agg #[.int .u8 k, .string (B y), .int .i64 a], .int .i64 N] (w1.alloc (.cells #[.int .u8 k, .string (B y), .int .i64 a] 141)) fun e W' => e = .returned (.bool true) ∧ J (pre ++ [⟨k, y, a⟩]) W' ∧ W'.heap[Bs]? = some (.cells #[.string s] 9 (0, 0)) ∧ W'.heap[Ba]? = some (.cells #[.int .i64 q] 3 (0, 0)) ∧ Ba < W'.heap.size) := ⟨fun w1 hb => by
        have hb2 : Below wr.heap.size wr (w1.alloc (.cells #[.int .u8 k, .string (B y), .int .i64 a] 141)) := hb.alloc hb.size _
        obtain ⟨fn, tmps, assign, body, hy, hR⟩ := hY pre ⟨k, y, a⟩ _ (by omega) (hJ1 _ _ _ hj hb2)
        rw [hN] at hy
        refine ⟨fn, tmps, assign, body, hy, hR.mono ?_⟩
        rintro e W' ⟨h1, h2, h3, h4, h5⟩
        exact ⟨h1, h2, by rw [h3, hb2.block _ hls, hbs], by rw [h4, hb2.block _ hla, hba], Nat.lt_of_lt_of_le (Nat.lt_of_lt_of_le hla hb2.size) h5⟩⟩
      have hml := leftAt_eq (N := s.size) ca
      unfold FrV.v at HR
      simp only [] at HR
      gi_wp2
      refine ⟨trivial, ?_⟩
      refine (callsIn_wide.2 HR.out).mono ?_
      rintro e w1 ⟨rfl, hb⟩
      obtain ⟨fn, tmps, assign, body, hy, hR⟩ := HF.out w1 hb
      gi_wp2
      refine hR.mono ?_
      rintro e W3 ⟨rfl, hj3, hb3, ha3, hz3⟩
      have ca3 : W3.cell? ⟨Ba, 0, none⟩ = some (.int .i64 q) := by simp [World.cell?, ha3]
      have cf3 : W3.frozen? ⟨Ba, 0, none⟩ = false := by simp [World.frozen?, ha3]
      gi_wp2
      go_roundw
      case rel =>
        refine ⟨pre ++ [⟨k, y, a⟩], N, by simp; omega, hx.2, by rw [hsc, hso]; simp, (Below.heap_setCell W3 ⟨Ba, 0, none⟩ _ Bs hne).trans hb3, ?_, hJ2 _ _ _ hj3⟩
        exact one_set ha3 _
      case measure =>
        have h1 := leftAt_eq (N := s.size) (World.cell?_setCell_same' W3 ⟨Ba, 0, none⟩ (.int .i64 (N : Nat)) (by rw [ca3]; rfl))
        rw [h1, hml]
        omega
    · rw [readE_at_bad hq hr] at HR
      have he := hr
      have hle := Fr.readL_err (s.data.toList.drop q)
      have hso := scanL_end hr
      obtain ⟨e0, he0⟩ : ∃ e0, (Fr.readL (s.data.toList.drop q)).1 = e0 := ⟨_, rfl⟩
      rw [he0] at HR he hle
      unfold Fr.badE at HR
      have t1 : ((e0 : Int) != 0) = true := by rw [bne_iff_ne]; omega
      gi_wp2
      refine ⟨trivial, ?_⟩
      refine (callsIn_wide.2 HR.out).mono ?_
      rintro e w1 ⟨rfl, hb⟩
      have hj1 := hJ1 _ _ _ hj (hb.alloc hb.size (.cells #[.int .u8 (0 : Nat), .string (B []), .int .i64 0] 141))
      gi_wp2
      refine ⟨fun _ h => (by cases h), ?_⟩
      gi_wp2
      refine bodyPost_ret (results_none rfl _ _ _) rfl ?_
      refine ⟨⟨_, rfl⟩, ?_⟩
      rw [hsc, hso, List.append_nil]
      exact hj1
end Go.Proofs.YtpfoekfbcpinlaaGreatDoor
