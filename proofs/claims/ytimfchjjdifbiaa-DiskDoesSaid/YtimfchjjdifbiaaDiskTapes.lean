/- Tapes. -/
import Derived.Test.YtimfchjjdifbiaaDiskFour
namespace Go.Proofs.Ytimfchjjdifbiaa
open Go.RowKit
set_option linter.unusedVariables false

/-- A tape as it is told: what is firm, and what is loose. -/
def trow (l : List (ByteArray × ByteArray)) : List Value := l.flatMap fun p => [.string p.1, .string p.2]
theorem trow_len (l : List (ByteArray × ByteArray)) : (trow l).length = l.length * 2 := by
  unfold trow
  induction l with
  | nil => rfl
  | cons m r ih => rw [List.flatMap_cons, List.length_append, ih, List.length_cons]; simp; omega
theorem trow_append (l k : List (ByteArray × ByteArray)) : trow (l ++ k) = trow l ++ trow k := by simp [trow]
theorem trow_one (l : List (ByteArray × ByteArray)) : ∀ u ∈ trow l, u.oneCell' = true := by
  intro u hu
  simp only [trow, List.mem_flatMap] at hu
  obtain ⟨m, _, hm⟩ := hu
  simp only [List.mem_cons, List.not_mem_nil, or_false] at hm
  rcases hm with rfl | rfl <;> rfl
theorem trow_get (l : List (ByteArray × ByteArray)) (i : Nat) (h : i < l.length) : (trow l)[i * 2]? = some (.string l[i].1) ∧ (trow l)[i * 2 + 1]? = some (.string l[i].2) := by
  induction l generalizing i with
  | nil => simp at h
  | cons m r ih =>
    have e : trow (m :: r) = .string m.1 :: .string m.2 :: trow r := by simp [trow]
    cases i with
    | zero => rw [e]; exact ⟨rfl, rfl⟩
    | succ i =>
      have h' : i < r.length := by simpa using h
      obtain ⟨a, b⟩ := ih i h'
      rw [e, show (i + 1) * 2 = i * 2 + 1 + 1 from by omega, show i * 2 + 1 + 1 + 1 = (i * 2 + 1) + 1 + 1 from rfl]
      simp only [List.getElem?_cons_succ, List.getElem_cons_succ]
      exact ⟨a, b⟩
def told (x : TapeV) : ByteArray × ByteArray := (x.b.extract 0 x.firm, x.b.extract x.firm x.b.size)
def tapesL (D : DiskV) (n : Nat) : List (ByteArray × ByteArray) := (List.range n).map fun t => told (D.tp t)
theorem tapesL_succ (D : DiskV) (n : Nat) : tapesL D (n + 1) = tapesL D n ++ [told (D.tp n)] := by simp [tapesL, List.range_succ]
theorem tapesL_len (D : DiskV) (n : Nat) : (tapesL D n).length = n := by simp [tapesL]
theorem infoATape : (Try.prog.info? 50).map (fun i => (i.zero, i.size, i.bytes)) = some (some (.agg #[.string ⟨#[]⟩, .string ⟨#[]⟩]), 2, 32) := by kernel_rfl
set_option maxRecDepth 20000 in
set_option maxHeartbeats 1000000 in
theorem Tapes_any (g : Nat) (D : DiskV) (w : World) (h : DiskAt w g D) (ho : Ok D) :
    Calls Try.prog 17 #[.pointer (some ⟨g, 0, none⟩)] w fun e w' => ∃ ao cap, e = .returned (.slice ao 32 cap) ∧ RK 2 w' (.slice ao 32 cap) 32 (trow (tapesL D 32)) ∧ New w.heap.size w w' (.slice ao 32 cap) := by
  obtain ⟨i0, hi0, hi1, hi2, hi3⟩ := info_parts infoATape
  have HI0 := Kp.mk (And.intro hi0 (And.intro hi1 (And.intro hi2 hi3)))
  clear hi0 hi1 hi2 hi3
  obtain ⟨cs, hcs, hlay⟩ := h
  have HR : Kp (w.rangeAt g 0 (cs.extract 0 64).toList) := ⟨by have := World.rangeAt_of_block hcs 0 64; simpa using this⟩
  have HI := Kp.mk (fun t ht wx => tape_index hlay t ht wx)
  have HS : Kp ((Try.prog.info? 57).map (·.size) = some (cs.extract 0 64).toList.length) := ⟨by rw [infoTapes]; simp [hlay.1]⟩
  obtain ⟨L, hL⟩ : ∃ L, (cs.extract 0 64).toList = L := ⟨_, rfl⟩
  rw [show cs.extract 0 64 = L.toArray from by rw [← hL]] at HI
  rw [hL] at HR HS
  have HO := Kp.mk ho
  clear hcs hlay hL ho
  go_enter Try.func17, Try.ntmps17
  go_wp2_with (refine wpList_load_mid rfl 57 (.tmp 10) rfl g 0 rfl _ _ HR.out Try.underlying57 rfl HS.out ?_)
  clear HR HS
  go_loopw [3, 12] (fun v i wr => ∃ (k : Nat) (ao : Option Addr) (cap : Nat), i = .int .i64 k ∧ k ≤ 32 ∧ v = .slice ao k cap ∧ RK 2 wr (.slice ao k cap) k (trow (tapesL D k)) ∧ New w.heap.size w wr (.slice ao k cap)) (fun _ i _ => 32 - (intOf i).toNat)
  case atStart => exact ⟨0, none, 0, rfl, by omega, rfl, RK.nil 2 _, ⟨Below.refl _ _, fun k hk => by simp [blk] at hk⟩⟩
  case round =>
    obtain ⟨k, ao, cap, rfl, hk, rfl, hr, hn⟩ := hrel
    have R := Kp.mk hr
    have N := Kp.mk hn
    by_cases hk2 : k < 32
    · have hidx := HI.out k hk2
      have h1 := HO.out.firm k hk2
      have h2 := HO.out.most k hk2
      have hT : Kp (tapesL D (k + 1) = tapesL D k ++ [((D.tp k).b.extract 0 (D.tp k).firm, (D.tp k).b.extract (D.tp k).firm (D.tp k).b.size)]) := ⟨tapesL_succ D k⟩
      generalize (D.tp k).b = b at hidx h1 h2 hT
      generalize (D.tp k).firm = f at hidx h1 hT
      have HL := Kp.mk (heap_alloc_new wr (.cells #[.string b, .int .i64 f] 56))
      have HR1 : Kp (∀ W, Below wr.heap.size wr W → RK 2 W (.slice ao k cap) k (trow (tapesL D k))) := ⟨fun W hW => hr.below hW⟩
      have HV : Kp (∀ j, blk (.slice ao k cap) = some j → j < wr.heap.size) := ⟨hr.lt⟩
      have B2 : Kp (∀ o1 o2, Below wr.heap.size wr ((wr.alloc o1).alloc o2).drew) := ⟨fun o1 o2 => (((Below.refl _ _).alloc (Nat.le_refl _) _).alloc (by simp) _).drew⟩
      have B3 : Kp (∀ o1 o2, Below w.heap.size w ((wr.alloc o1).alloc o2).drew) := ⟨fun o1 o2 => hn.below.trans ((B2.out o1 o2).mono hn.below.size)⟩
      have q1 : ∀ o o2, ((wr.alloc o).alloc o2).cell? ⟨wr.heap.size, 0, none⟩ = (wr.alloc o).cell? ⟨wr.heap.size, 0, none⟩ := fun o o2 => by rw [World.cell?_alloc_lt _ _ _ (by simp)]
      have q2 : ∀ o o2, ((wr.alloc o).alloc o2).cell? ⟨wr.heap.size, 1, none⟩ = (wr.alloc o).cell? ⟨wr.heap.size, 1, none⟩ := fun o o2 => by rw [World.cell?_alloc_lt _ _ _ (by simp)]
      have i1 : (0 : Int) ≤ (f : Int) := by omega
      have i2 : (f : Int) ≤ (b.size : Int) := by omega
      have HK32 := Kp.mk hk2
      clear hr hn
      go_wp2_with fail
      go_region_held3 (fun w' => w'.cell? ⟨wr.heap.size, 0, none⟩ = some (.string b) ∧ w'.cell? ⟨wr.heap.size, 1, none⟩ = some (.int .i64 f)) (go_keep)
        ((refine step_append_src rfl (.tmp 15) (.tmp 27) 22 (by rfl) (HR1.out _ (B2.out _ _)) (ks := trow [(b.extract 0 f, b.extract f b.size)]) (src_one (heap_second wr _ _) rfl) 50 i0 _ 32 Try.underlying22 HI0.out.1 HI0.out.2.1 HI0.out.2.2.1 HI0.out.2.2.2 rfl (by decide) (by rfl) (by rfl) (trow_one _) (by have := HK32.out; unfold maxLen; omega) (by have := HK32.out; omega) (k + 1) (trow (tapesL D (k + 1))) rfl (by rw [hT.out, trow_append]) ?_; intro a2 c2 w2 r1 g1 f1; have N2 := Kp.mk (New.of (w := w) (B := w.heap.size) (B3.out _ _) (B3.out _ _).size g1 f1 N.out.new); have hbx := (g1.block wr.heap.size (by simp; omega) (fun e => by have := HV.out _ e.symm; omega)).trans (heap_first wr _ _); have s1 : w2.cell? ⟨wr.heap.size, 0, none⟩ = some (.string b) := (cell_of_row _ _ _ _ _ _ hbx); have s2 : w2.cell? ⟨wr.heap.size, 1, none⟩ = some (.int .i64 f) := (cell_of_row _ _ _ _ _ _ hbx); have R1 := Kp.mk r1; clear g1 f1 r1 hbx))
      go_wp2
      go_roundw
      case rel => exact ⟨k + 1, a2, c2, by go_num, by omega, by go_num, R1.out, N2.out⟩
      case measure => simp [intOf]; omega
    · obtain rfl : k = 32 := by omega
      clear hr hn
      go_wp2
      go_ret
      exact ⟨ao, cap, rfl, R.out, N.out⟩
end Go.Proofs.Ytimfchjjdifbiaa
