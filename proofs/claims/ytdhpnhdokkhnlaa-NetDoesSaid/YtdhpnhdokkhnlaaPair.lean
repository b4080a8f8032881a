/- A net beside the document's: what is changed, and what stays. -/
import Derived.Test.YtdhpnhdokkhnlaaRefTwice
namespace Go.Proofs.Ytdhpnhdokkhnlaa
open Go.RowKit
set_option linter.unusedVariables false

/-- The blocks of a net. -/
def foot (g : Nat) (v : Value) (k : Nat) : Prop := k = g ∨ blk v = some k
def Apart (g : Nat) (v : Value) (h : Nat) (u : Value) : Prop := ∀ k, foot g v k → ¬ foot h u k
theorem Apart.symm {g h : Nat} {v u : Value} (a : Apart g v h u) : Apart h u g v := fun k hk hg => a k hg hk
theorem NetAt.foot_lt {w : World} {g : Nat} {v : Value} {N : NetV} (h : NetAt w g v N) : ∀ k, foot g v k → k < w.heap.size := fun k hk => hk.elim (fun e => by rw [e]; exact h.lt) (h.2.1.lt k)
theorem RefAt.foot_lt {w : World} {g : Nat} {v : Value} {N : NetV} (h : RefAt w g v N) : ∀ k, foot g v k → k < w.heap.size := fun k hk => hk.elim (fun e => by rw [e]; exact h.lt) (h.2.1.lt k)
theorem Apart.fresh {w : World} {g h : Nat} {v u : Value} (hl : ∀ k, foot g v k → k < w.heap.size) (hn : ∀ k, foot h u k → w.heap.size ≤ k) : Apart g v h u := fun k h1 h2 => by have := hl k h1; have := hn k h2; omega
/-- What may be written: the blocks of F; new ones. -/
structure Frm (w w' : World) (F : Nat → Prop) : Prop where
  os : w'.os = w.os
  tape : w'.tape = w.tape
  output : w'.output = w.output
  size : w.heap.size ≤ w'.heap.size
  block : ∀ k, k < w.heap.size → ¬ F k → w'.heap[k]? = w.heap[k]?
theorem Frm.trans {w w1 w2 : World} {F G : Nat → Prop} (h : Frm w w1 F) (h1 : Frm w1 w2 G) (hG : ∀ k, G k → F k ∨ w.heap.size ≤ k) : Frm w w2 F :=
  ⟨h1.os.trans h.os, h1.tape.trans h.tape, h1.output.trans h.output, Nat.le_trans h.size h1.size, fun k hk hF => by
    rw [h1.block k (Nat.lt_of_lt_of_le hk h.size) (fun e => by rcases hG k e with h2 | h2; exact hF h2; omega), h.block k hk hF]⟩
theorem Frm.of_below {w w' : World} (h : Below w.heap.size w w') (F : Nat → Prop) : Frm w w' F := ⟨h.os, h.tape, h.output, h.size, fun k hk _ => h.block k hk⟩
theorem Frm.below {B : Nat} {w0 w w' : World} {F : Nat → Prop} (h : Frm w w' F) (h0 : Below B w0 w) (hB : B ≤ w.heap.size) (hF : ∀ k, F k → B ≤ k) : Below B w0 w' :=
  h0.trans ⟨h.os, h.tape, h.output, h.size, fun k hk => h.block k (by omega) (fun e => by have := hF k e; omega)⟩
theorem Frm.mono {w w' : World} {F G : Nat → Prop} (h : Frm w w' F) (hG : ∀ k, F k → G k) : Frm w w' G := ⟨h.os, h.tape, h.output, h.size, fun k hk hn => h.block k hk (fun e => hn (hG k e))⟩
theorem Upd.frm {w w' : World} {g : Nat} {v v' : Value} (h : Upd w w' g v v') : Frm w w' (foot g v) := ⟨h.1, h.2.1, h.2.2.1, h.2.2.2.1, fun k hk hn => h.2.2.2.2.1 k hk (fun e => hn (.inl e)) (fun e => hn (.inr e))⟩
theorem Upd.foot {w w' : World} {g : Nat} {v v' : Value} (h : Upd w w' g v v') : ∀ k, foot g v' k → foot g v k ∨ w.heap.size ≤ k := fun k hk => hk.elim (fun e => .inl (.inl e)) fun e => (h.2.2.2.2.2 k e).elim (fun h1 => .inl (.inr h1)) .inr
theorem NetAt.frm {w w' : World} {g : Nat} {v : Value} {N : NetV} {F : Nat → Prop} (h : NetAt w g v N) (hf : Frm w w' F) (hF : ∀ k, F k → ¬ foot g v k) : NetAt w' g v N :=
  h.same hf.size (hf.block g h.lt (fun e => hF g e (.inl rfl))) fun k hk => hf.block k (h.2.1.lt k hk) (fun e => hF k e (.inr hk))
theorem RefAt.frm {w w' : World} {g : Nat} {v : Value} {N : NetV} {F : Nat → Prop} (h : RefAt w g v N) (hf : Frm w w' F) (hF : ∀ k, F k → ¬ foot g v k) : RefAt w' g v N :=
  h.same hf.size (hf.block g h.lt (fun e => hF g e (.inl rfl))) fun k hk => hf.block k (h.2.1.lt k hk) (fun e => hF k e (.inr hk))
/-- A net and the document's, apart, of one value. -/
structure Duo (w : World) (g : Nat) (v : Value) (h : Nat) (u : Value) (N : NetV) : Prop where
  net : NetAt w g v N
  ref : RefAt w h u N
  apart : Apart g v h u
def feet (g : Nat) (v : Value) (h : Nat) (u : Value) (k : Nat) : Prop := foot g v k ∨ foot h u k
theorem Duo.lt {w : World} {g h : Nat} {v u : Value} {N : NetV} (d : Duo w g v h u N) : ∀ k, feet g v h u k → k < w.heap.size := fun k hk => hk.elim (d.net.foot_lt k) (d.ref.foot_lt k)
theorem Duo.frm {w w' : World} {g h : Nat} {v u : Value} {N : NetV} {F : Nat → Prop} (d : Duo w g v h u N) (hf : Frm w w' F) (hF : ∀ k, F k → ¬ feet g v h u k) : Duo w' g v h u N :=
  ⟨d.net.frm hf fun k hk e => hF k hk (.inl e), d.ref.frm hf fun k hk e => hF k hk (.inr e), d.apart⟩
theorem Duo.below {w w' : World} {g h : Nat} {v u : Value} {N : NetV} (d : Duo w g v h u N) (hb : Below w.heap.size w w') : Duo w' g v h u N := ⟨d.net.below hb, d.ref.below hb, d.apart⟩
/-- What both did. -/
structure Two (w w' : World) (g : Nat) (v v' : Value) (h : Nat) (u u' : Value) : Prop where
  frm : Frm w w' (feet g v h u)
  new : ∀ k, feet g v' h u' k → feet g v h u k ∨ w.heap.size ≤ k
theorem Two.of_below {w w' : World} (hb : Below w.heap.size w w') (g : Nat) (v : Value) (h : Nat) (u : Value) : Two w w' g v v h u u := ⟨Frm.of_below hb _, fun k hk => .inl hk⟩
theorem Two.trans {w w1 w2 : World} {g h : Nat} {v v1 v2 u u1 u2 : Value} (a : Two w w1 g v v1 h u u1) (b : Two w1 w2 g v1 v2 h u1 u2) : Two w w2 g v v2 h u u2 :=
  ⟨a.frm.trans b.frm a.new, fun k hk => (b.new k hk).elim (a.new k) fun h1 => .inr (Nat.le_trans a.frm.size h1)⟩
theorem Two.left {w w' : World} {g h : Nat} {v v' u : Value} (hu : Upd w w' g v v') : Two w w' g v v' h u u :=
  ⟨hu.frm.mono fun k hk => .inl hk, fun k hk => hk.elim (fun h1 => (hu.foot k h1).elim (fun h2 => .inl (.inl h2)) .inr) fun h1 => .inl (.inr h1)⟩
theorem Two.right {w w' : World} {g h : Nat} {v u u' : Value} (hu : Upd w w' h u u') : Two w w' g v v h u u' :=
  ⟨hu.frm.mono fun k hk => .inr hk, fun k hk => hk.elim (fun h1 => .inl (.inl h1)) fun h1 => (hu.foot k h1).elim (fun h2 => .inl (.inr h2)) .inr⟩
/-- The net did something: the document's is as it was. -/
theorem RefAt.beside {w w' : World} {g h : Nat} {v v' u : Value} {M : NetV} (d : RefAt w h u M) (ha : Apart g v h u) (hu : Upd w w' g v v') : RefAt w' h u M ∧ Apart g v' h u :=
  ⟨d.frm hu.frm fun k hk => ha k hk, fun k hk h1 => (hu.foot k hk).elim (fun h2 => ha k h2 h1) fun h2 => by have := d.foot_lt k h1; omega⟩
theorem NetAt.beside {w w' : World} {g h : Nat} {v u u' : Value} {M : NetV} (d : NetAt w g v M) (ha : Apart g v h u) (hu : Upd w w' h u u') : NetAt w' g v M ∧ Apart g v h u' :=
  ⟨d.frm hu.frm fun k hk => ha.symm k hk, fun k hk h1 => (hu.foot k h1).elim (fun h2 => ha k hk h2) fun h2 => by have := d.foot_lt k hk; omega⟩
/-- Another duo, apart. -/
theorem Duo.beside {w w' : World} {g h p q : Nat} {v v' u u' a b : Value} {M : NetV} (d : Duo w p a q b M) (hd : ∀ k, feet g v h u k → ¬ feet p a q b k) (t : Two w w' g v v' h u u') : Duo w' p a q b M ∧ ∀ k, feet g v' h u' k → ¬ feet p a q b k :=
  ⟨d.frm t.frm hd, fun k hk h1 => (t.new k hk).elim (fun h2 => hd k h2 h1) fun h2 => by have := d.lt k h1; omega⟩
/-- Behind k sends of an act. -/
def sendN (N : NetV) (a : ActV) : Nat → NetV
  | 0 => N
  | k + 1 => (sendV (sendN N a k) a.frm a.to a.s).2
theorem Sm_sendN {N : NetV} {b : Int} (h : Sm N b) (a : ActV) : ∀ k : Nat, Sm (sendN N a k) (b + k)
  | 0 => h.mono (by omega)
  | k + 1 => (Sm_send (Sm_sendN h a k) _ _ _).mono (by omega)
/-- The net behind an act. -/
def actV (N : NetV) (a : ActV) : NetV :=
  if a.what = 0 then sendN N a (a.times % 300 + 1) else if a.what = 1 then (takeV N a.i).2 else if a.what = 2 then (loseV N a.i).2 else (twiceV N a.i).2
theorem Sm_act {N : NetV} {b : Int} (h : Sm N b) (a : ActV) : Sm (actV N a) (b + 300) := by
  unfold actV
  split
  · exact (Sm_sendN h a _).mono (by omega)
  · split
    · exact (Sm_take h _).mono (by omega)
    · split
      · exact (Sm_lose h _).mono (by omega)
      · exact (Sm_twice h _).mono (by omega)
end Go.Proofs.Ytdhpnhdokkhnlaa
