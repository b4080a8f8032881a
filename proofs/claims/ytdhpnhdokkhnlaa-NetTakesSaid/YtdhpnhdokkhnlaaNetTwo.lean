/- Package net: put, Clone, Mails. -/
import Derived.Test.YtdhpnhdokkhnlaaNet
import Derived.Deep.RegionLaw
import Derived.Deep.DrawnRows
namespace Go.Proofs.Ytdhpnhdokkhnlaa
open Go.RowKit
set_option linter.unusedVariables false
attribute [local go_sem ↓] Go.wp_at_zero Go.wp_at_succ

theorem mail_new (w : World) (m : MailV) : ∀ j u, (rows [m])[j]? = some u → (w.alloc (.cells #[.int .i64 m.id, .int .i64 m.frm, .int .i64 m.to, .string m.data] 38)).cell? ((⟨w.heap.size, 0, none⟩ : Addr).add j) = some u := by
  intro j u hu
  rw [Addr.add_lit, Nat.zero_add]
  have h := heap_alloc_new w (.cells #[.int .i64 m.id, .int .i64 m.frm, .int .i64 m.to, .string m.data] 38)
  unfold World.cell?
  rw [h]
  simpa [rows, mv] using hu
set_option maxRecDepth 20000 in
theorem put_any (g : Nat) (v : Value) (N : NetV) (m : MailV) (w : World) (h : NetAt w g v N) (hl : N.l.length ≤ 1000000) (hb : 0 ≤ N.last) (hb2 : N.last ≤ 1000000000000) :
    Calls Try.prog 25 #[.pointer (some ⟨g, 0, none⟩), m.v] w fun e w' => e = .returned (.int .i64 (N.last + 1)) ∧ ∃ v', NetAt w' g v' { N with last := N.last + 1, l := N.l ++ [⟨N.last + 1, m.frm, m.to, m.data⟩] } ∧ Upd w w' g v v' := by
  obtain ⟨id, frm, to, data⟩ := m
  unfold MailV.v
  simp only []
  have hgz := h.lt
  obtain ⟨i0, hi0, hi1, hi2, hi3⟩ := info_parts infoMail
  have HI := Kp.mk (And.intro hi0 (And.intro hi1 (And.intro hi2 hi3)))
  clear hi0 hi1 hi2 hi3
  have hc6 := h.c6
  have hf6 := h.free 6
  have h6 := h.set6 (N.last + 1)
  have hd6 := h6.c6
  have hd5 : ∀ o, ((w.setCell ⟨g, 6, none⟩ (.int .i64 (N.last + 1))).alloc o).cell? ⟨g, 5, none⟩ = some v := fun o => (h6.alloc o).c5
  have hd5b : ∀ o1 o2, (((w.setCell ⟨g, 6, none⟩ (.int .i64 (N.last + 1))).alloc o1).alloc o2).cell? ⟨g, 5, none⟩ = some v := fun o1 o2 => ((h6.alloc o1).alloc o2).c5
  have HRK : Kp (∀ o1 o2, RK 4 (((w.setCell ⟨g, 6, none⟩ (.int .i64 (N.last + 1))).alloc o1).alloc o2) v N.l.length (rows N.l)) := ⟨fun o1 o2 => (h6.2.1.alloc o1).alloc o2⟩
  have H6 := Kp.mk h6
  have HL := Kp.mk hl
  have HG := Kp.mk hgz
  clear h h6 hl
  go_enter Try.func25, Try.ntmps25
  go_wp2
  have hz1 : Kp ((w.setCell ⟨g, 6, none⟩ (.int .i64 (N.last + 1))).heap.size = w.heap.size) := ⟨by simp⟩
  have HU1 : Kp (Upd w (w.setCell ⟨g, 6, none⟩ (.int .i64 (N.last + 1))) g v v) := ⟨Upd.set _ _ _ _ _⟩
  generalize w.setCell ⟨g, 6, none⟩ (.int .i64 (N.last + 1)) = w1 at hz1 HU1 hd6 hd5 hd5b HRK H6 ⊢
  have hbox := mail_new w1 ⟨N.last + 1, frm, to, data⟩
  rw [hz1.out] at hbox
  have b0 := hbox 0 _ rfl
  have b1 := hbox 1 _ rfl
  have b2 := hbox 2 _ rfl
  have b3 := hbox 3 _ rfl
  simp only [Addr.add_lit, Nat.zero_add, Nat.add_zero] at b0 b1 b2 b3
  have HNEW : Kp (∀ o, ∀ j u, (rows [⟨N.last + 1, frm, to, data⟩])[j]? = some u → ((w1.alloc o).alloc (.cells #[.int .i64 (N.last + 1), .int .i64 frm, .int .i64 to, .string data] 38)).cell? ((⟨w1.heap.size + 1, 0, none⟩ : Addr).add j) = some u) := ⟨fun o => by
    have := mail_new (w1.alloc o) ⟨N.last + 1, frm, to, data⟩
    simpa using this⟩
  have HPU := Kp.mk (fun o1 o2 => (H6.out.alloc o1).alloc o2 |>.drew)
  have HS0 : Kp (∀ (o2 : Obj) (w' : World) (v' : Value), ((w1.alloc (.cells #[.int .i64 (N.last + 1), .int .i64 frm, .int .i64 to, .string data] 38)).alloc o2).drew.grownBy w' (blk v) → (w'.setCell ⟨g, 5, none⟩ v').cell? ⟨w.heap.size, 0, none⟩ = some (.int .i64 (N.last + 1))) := ⟨fun o2 w' v' hg => by
    have hlt : w.heap.size < ((w1.alloc (.cells #[.int .i64 (N.last + 1), .int .i64 frm, .int .i64 to, .string data] 38)).alloc o2).drew.heap.size := by simp [hz1.out]; omega
    have hb := hg.block w.heap.size hlt (fun e => by have := H6.out.2.1.lt _ e.symm; rw [hz1.out] at this; omega)
    rw [World.cell?_setCell_other _ _ _ _ (by simp only [ne_eq, Addr.mk.injEq, not_and]; have := HG.out; omega), World.cell?_of_block (a := ⟨w.heap.size, 0, none⟩) hb]
    show ((w1.alloc _).alloc o2).cell? _ = _
    rw [World.cell?_alloc_lt _ _ _ (by simp [hz1.out])]
    exact b0⟩
  have HU0 : Kp (∀ o1 o2, Upd w1 ((w1.alloc o1).alloc o2).drew g v v) := ⟨fun o1 o2 => Upd.of_below (((Below.refl _ _).alloc (Nat.le_refl _) _).alloc (by simp) _).drew g v⟩
  go_region_law (first | (refine step_append_rk (m := 1) rfl _ _ 34 rfl (HRK.out _ _) 38 i0 _ 40 Try.underlying34 HI.out.1 HI.out.2.1 HI.out.2.2.1 HI.out.2.2.2 rfl (by decide) ⟨w1.heap.size + 1, 0, none⟩ 1 (by rfl) (by rfl) (rows_len [⟨N.last + 1, frm, to, data⟩]) (HNEW.out _) (rows_one _) (by have := HL.out; unfold maxLen; omega) (by have := HL.out; omega) ?_; intro v' w' k1 k2 k3; obtain ⟨ao, cp, hv', _, _⟩ := k1.len; subst hv'; have s0 := HS0.out _ _ (.slice ao (N.l.length + 1) cp) k2; have HP := Kp.mk (NetAt.push (l := N.l ++ [⟨N.last + 1, frm, to, data⟩]) (HPU.out _ _) (by rw [rows_append, List.length_append]; exact k1) k2 k3); have HP2 := Kp.mk ((HU0.out _ _).trans HP.out.2.2.2); obtain ⟨s5, f5, _, _⟩ := HP.out; clear k1 k2 k3))
  all_goals go_wp2
  all_goals go_ret
  all_goals exact ⟨rfl, _, HP.out.2.2.1, HU1.out.trans HP2.out⟩
end Go.Proofs.Ytdhpnhdokkhnlaa
