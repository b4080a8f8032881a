/- Plain law: CRC-32C as steps of a linear map: Add, Join, masks, bursts, and the reference's ways. No program in sight. -/
namespace Go.Proofs.YtpfoekfbcpinlaaGreatDoor.Crc
def poly : Nat := 2197175160
def step (c : Nat) : Nat := (c >>> 1) ^^^ (if c.testBit 0 then poly else 0)
/-- n steps. -/
def steps : Nat → Nat → Nat
  | 0, c => c
  | n + 1, c => steps n (step c)

theorem xor_right_comm (a b c : Nat) : a ^^^ b ^^^ c = a ^^^ c ^^^ b := by
  rw [Nat.xor_assoc, Nat.xor_comm b c, ← Nat.xor_assoc]
theorem xor_self_left (a b : Nat) : a ^^^ (a ^^^ b) = b := by
  rw [← Nat.xor_assoc, Nat.xor_self, Nat.zero_xor]
theorem xor_swap4 (a b c d : Nat) : (a ^^^ b) ^^^ (c ^^^ d) = (a ^^^ c) ^^^ (b ^^^ d) := by
  rw [Nat.xor_assoc, ← Nat.xor_assoc b c d, Nat.xor_comm b c, Nat.xor_assoc c b d, ← Nat.xor_assoc]
theorem xor_cancel_left {a b c : Nat} (h : a ^^^ b = a ^^^ c) : b = c := by
  have := congrArg (a ^^^ ·) h
  simpa [xor_self_left] using this

theorem step_zero : step 0 = 0 := by decide
theorem step_xor (a b : Nat) : step (a ^^^ b) = step a ^^^ step b := by
  unfold step
  rw [Nat.shiftRight_xor_distrib, Nat.testBit_xor, xor_swap4]
  cases a.testBit 0 <;> cases b.testBit 0 <;> simp
theorem steps_zero (n : Nat) : steps n 0 = 0 := by
  induction n with
  | zero => rfl
  | succ n ih => rw [steps, step_zero, ih]
theorem steps_xor (n : Nat) : ∀ a b, steps n (a ^^^ b) = steps n a ^^^ steps n b := by
  induction n with
  | zero => intro a b; rfl
  | succ n ih => intro a b; rw [steps, step_xor, ih]; rfl
theorem steps_add (m n : Nat) : ∀ c, steps (m + n) c = steps n (steps m c) := by
  induction m with
  | zero => intro c; rw [Nat.zero_add]; rfl
  | succ m ih => intro c; rw [show m + 1 + n = (m + n) + 1 from by omega, steps, ih]; rfl
theorem steps_succ (n c : Nat) : steps (n + 1) c = step (steps n c) := by
  rw [steps_add n 1]; rfl

theorem poly_lt : poly < 2 ^ 32 := by decide
theorem step_lt {c : Nat} (h : c < 2 ^ 32) : step c < 2 ^ 32 := by
  unfold step
  refine Nat.xor_lt_two_pow ?_ ?_
  · rw [Nat.shiftRight_eq_div_pow]; omega
  · split
    · exact poly_lt
    · decide
theorem steps_lt (n : Nat) : ∀ {c : Nat}, c < 2 ^ 32 → steps n c < 2 ^ 32 := by
  induction n with
  | zero => intro c h; exact h
  | succ n ih => intro c h; exact ih (step_lt h)

theorem step_inj {a b : Nat} (ha : a < 2 ^ 32) (hb : b < 2 ^ 32) (h : step a = step b) : a = b := by
  have h31 : ∀ c : Nat, c < 2 ^ 32 → (step c).testBit 31 = c.testBit 0 := by
    intro c hc
    unfold step
    rw [Nat.testBit_xor, Nat.testBit_shiftRight, Nat.testBit_lt_two_pow (by omega : c < 2 ^ (1 + 31))]
    cases c.testBit 0 <;> simp [poly]
    decide
  have e0 : a.testBit 0 = b.testBit 0 := by rw [← h31 a ha, ← h31 b hb, h]
  unfold step at h
  rw [e0] at h
  rw [Nat.xor_comm, Nat.xor_comm (b >>> 1)] at h
  have e1 := xor_cancel_left h
  rw [Nat.shiftRight_eq_div_pow, Nat.shiftRight_eq_div_pow] at e1
  rw [Nat.testBit_zero, Nat.testBit_zero] at e0
  have : a % 2 = b % 2 := by
    have h1 := decide_eq_decide.1 e0
    omega
  omega
theorem steps_inj (n : Nat) : ∀ {a b : Nat}, a < 2 ^ 32 → b < 2 ^ 32 → steps n a = steps n b → a = b := by
  induction n with
  | zero => intro a b _ _ h; exact h
  | succ n ih => intro a b ha hb h; exact step_inj ha hb (ih (step_lt ha) (step_lt hb) h)

/-- A map that is linear for xor is known by its values at the powers of two. -/
theorem linear_eq (L M : Nat → Nat) (hL : ∀ a b, L (a ^^^ b) = L a ^^^ L b) (hM : ∀ a b, M (a ^^^ b) = M a ^^^ M b) (n : Nat)
    (h : ∀ i, i < n → L (2 ^ i) = M (2 ^ i)) : ∀ x, x < 2 ^ n → L x = M x := by
  have z : ∀ N : Nat → Nat, (∀ a b, N (a ^^^ b) = N a ^^^ N b) → N 0 = 0 := by
    intro N hN
    have := hN 0 0
    simpa using this
  induction n with
  | zero => intro x hx; have : x = 0 := by omega
            subst this; rw [z L hL, z M hM]
  | succ n ih =>
    intro x hx
    have ih' := ih (fun i hi => h i (by omega))
    by_cases hb : x < 2 ^ n
    · exact ih' x hb
    · have hs : x = 2 ^ n ^^^ (x ^^^ 2 ^ n) := by rw [Nat.xor_comm x, xor_self_left]
      have hl : x ^^^ 2 ^ n < 2 ^ n := by
        refine Nat.lt_pow_two_of_testBit _ fun i hi => ?_
        rw [Nat.testBit_xor]
        by_cases e : i = n
        · subst e
          have : x.testBit i = true := Nat.testBit_of_two_pow_le_and_two_pow_add_one_gt (by omega) (by omega)
          rw [this, Nat.testBit_two_pow_self]; rfl
        · rw [Nat.testBit_lt_two_pow (show x < 2 ^ i from Nat.lt_of_lt_of_le hx (Nat.pow_le_pow_right (by omega) (by omega))), Nat.testBit_two_pow_of_ne (by omega)]; rfl
      rw [hs, hL, hM, h n (by omega), ih' _ hl]

/-- f, read as a polynomial in step, done to x: bit 31 is 1, bit 30 one step, and so on. -/
def act (f : Nat) : Nat → Nat → Nat
  | 0, _ => 0
  | n + 1, x => (if f.testBit n then x else 0) ^^^ act f n (step x)
theorem ite_xor (b : Bool) (x y : Nat) : (if b then x ^^^ y else 0) = (if b then x else 0) ^^^ (if b then y else 0) := by
  cases b <;> simp
theorem step_ite (b : Bool) (x : Nat) : step (if b then x else 0) = if b then step x else 0 := by
  cases b <;> simp [step_zero]
theorem act_xor (f n : Nat) : ∀ x y, act f n (x ^^^ y) = act f n x ^^^ act f n y := by
  induction n with
  | zero => intro x y; simp [act]
  | succ n ih => intro x y; rw [act, act, act, step_xor, ih, ite_xor, xor_swap4]
theorem act_zero (f n : Nat) : act f n 0 = 0 := by
  have := act_xor f n 0 0
  simpa using this
theorem act_step (f n : Nat) : ∀ x, act f n (step x) = step (act f n x) := by
  induction n with
  | zero => intro x; simp [act, step_zero]
  | succ n ih => intro x; rw [act, act, step_xor, ih, step_ite]
theorem act_xor_left (f g n : Nat) : ∀ x, act (f ^^^ g) n x = act f n x ^^^ act g n x := by
  induction n with
  | zero => intro x; simp [act]
  | succ n ih =>
    intro x
    rw [act, act, act, ih, xor_swap4, Nat.testBit_xor]
    congr 1
    cases f.testBit n <;> cases g.testBit n <;> simp
theorem act_zero_left (n : Nat) : ∀ x, act 0 n x = 0 := by
  induction n with
  | zero => intro x; rfl
  | succ n ih => intro x; rw [act, ih]; simp
theorem act_lt (f n : Nat) : ∀ {x}, x < 2 ^ 32 → act f n x < 2 ^ 32 := by
  induction n with
  | zero => intro x _; exact Nat.two_pow_pos 32
  | succ n ih =>
    intro x h
    refine Nat.xor_lt_two_pow ?_ (ih (step_lt h))
    split
    · exact h
    · exact Nat.two_pow_pos 32
theorem act_tail (f n : Nat) : ∀ y, act f (n + 1) y = act (f >>> 1) n y ^^^ (if f.testBit 0 then steps n y else 0) := by
  induction n with
  | zero => intro y; simp [act, steps]
  | succ n ih =>
    intro y
    rw [act, ih (step y), act, Nat.testBit_shiftRight, Nat.add_comm 1 n, Nat.xor_assoc]
    rfl
theorem act_shift {f n : Nat} (h : f < 2 ^ (n + 1)) (x : Nat) : act (f >>> 1) (n + 1) x = act (f >>> 1) n (step x) := by
  rw [act, Nat.testBit_shiftRight, Nat.testBit_lt_two_pow (by rw [Nat.add_comm]; exact h)]
  simp
theorem act_poly {x : Nat} (h : x < 2 ^ 32) : act poly 32 x = steps 32 x :=
  linear_eq (act poly 32) (steps 32) (act_xor poly 32) (steps_xor 32) 32 (by decide +kernel) x h
theorem act_of_step {f : Nat} (hf : f < 2 ^ 32) {x : Nat} (h : x < 2 ^ 32) : act (step f) 32 x = step (act f 32 x) := by
  rw [← act_step, act_tail f 31, step, act_xor_left, act_shift hf]
  congr 1
  cases f.testBit 0
  · simp [act_zero_left]
  · simp only [if_true]
    rw [act_poly h]; rfl
theorem act_ite_left (b : Bool) (g x : Nat) : act (if b then g else 0) 32 x = if b then act g 32 x else 0 := by
  cases b <;> simp [act_zero_left]
theorem act_act (f n : Nat) {x : Nat} (h : x < 2 ^ 32) : ∀ {g}, g < 2 ^ 32 → act (act f n g) 32 x = act f n (act g 32 x) := by
  induction n with
  | zero => intro g _; rw [act, act, act_zero_left]
  | succ n ih =>
    intro g hg
    rw [show act f (n + 1) g = (if f.testBit n then g else 0) ^^^ act f n (step g) from rfl, show act f (n + 1) (act g 32 x) = (if f.testBit n then act g 32 x else 0) ^^^ act f n (step (act g 32 x)) from rfl, act_xor_left, ih (step_lt hg), act_ite_left, act_of_step hg h]

/-- How far 1, 2, 4, 8 bytes carry. -/
def far : Nat → Nat
  | 0 => 8388608
  | k + 1 => act (far k) 32 (far k)
theorem far_lt (k : Nat) : far k < 2 ^ 32 := by
  induction k with
  | zero => decide
  | succ k ih => exact act_lt _ _ ih
theorem act_far (k : Nat) : ∀ {x}, x < 2 ^ 32 → act (far k) 32 x = steps (8 * 2 ^ k) x := by
  induction k with
  | zero =>
    intro x h
    exact linear_eq (act (far 0) 32) (steps 8) (act_xor _ 32) (steps_xor 8) 32 (by decide +kernel) x h
  | succ k ih =>
    intro x h
    rw [far, act_act (far k) 32 h (far_lt k), ih h, ih (steps_lt _ h), ← steps_add]
    congr 1
    rw [Nat.pow_succ]; omega

/-- The checksum's inner number: one byte more. -/
def byte (c : Nat) (b : UInt8) : Nat := steps 8 (c ^^^ b.toNat)
def upd (c : Nat) (l : List UInt8) : Nat := l.foldl byte c
theorem upd_nil (c : Nat) : upd c [] = c := rfl
theorem upd_cons (c : Nat) (b : UInt8) (l : List UInt8) : upd c (b :: l) = upd (byte c b) l := rfl
theorem upd_append (c : Nat) (l m : List UInt8) : upd c (l ++ m) = upd (upd c l) m := by unfold upd; rw [List.foldl_append]
theorem u8_lt (b : UInt8) : b.toNat < 2 ^ 32 := Nat.lt_of_lt_of_le (UInt8.toNat_lt b) (by decide)
theorem byte_lt {c : Nat} (h : c < 2 ^ 32) (b : UInt8) : byte c b < 2 ^ 32 := steps_lt 8 (Nat.xor_lt_two_pow h (u8_lt b))
theorem upd_lt {c : Nat} (h : c < 2 ^ 32) (l : List UInt8) : upd c l < 2 ^ 32 := by
  induction l generalizing c with
  | nil => exact h
  | cons b l ih => exact ih (byte_lt h b)
theorem upd_xor (l : List UInt8) : ∀ (c d : Nat), upd (c ^^^ d) l = steps (8 * l.length) c ^^^ upd d l := by
  induction l with
  | nil => intro c d; rfl
  | cons b l ih =>
    intro c d
    rw [upd_cons, upd_cons, byte, Nat.xor_assoc, steps_xor, ih]
    show steps (8 * l.length) (steps 8 c) ^^^ upd (byte d b) l = _
    rw [← steps_add, List.length_cons, show 8 + 8 * l.length = 8 * (l.length + 1) from by omega]

def ones : Nat := 4294967295
theorem ones_lt : ones < 2 ^ 32 := by decide
/-- Add. -/
def add (c : Nat) (l : List UInt8) : Nat := upd (c ^^^ ones) l ^^^ ones
def crc (l : List UInt8) : Nat := add 0 l
theorem add_lt {c : Nat} (h : c < 2 ^ 32) (l : List UInt8) : add c l < 2 ^ 32 :=
  Nat.xor_lt_two_pow (upd_lt (Nat.xor_lt_two_pow h ones_lt) l) ones_lt
theorem crc_lt (l : List UInt8) : crc l < 2 ^ 32 := add_lt (by decide) l
theorem add_nil (c : Nat) : add c [] = c := by
  unfold add
  rw [upd_nil, Nat.xor_assoc, Nat.xor_self, Nat.xor_zero]
theorem add_append (c : Nat) (l m : List UInt8) : add (add c l) m = add c (l ++ m) := by
  unfold add
  rw [upd_append, Nat.xor_assoc (upd _ l), Nat.xor_self, Nat.xor_zero]
/-- Join: n bytes. -/
def carry (n c : Nat) : Nat := steps (8 * n) c
theorem carry_lt (n : Nat) {c : Nat} (h : c < 2 ^ 32) : carry n c < 2 ^ 32 := steps_lt _ h
theorem carry_xor (n a b : Nat) : carry n (a ^^^ b) = carry n a ^^^ carry n b := steps_xor _ a b
theorem carry_carry (m n c : Nat) : carry m (carry n c) = carry (n + m) c := by
  unfold carry; rw [← steps_add]; congr 1; omega
theorem carry_zero (n : Nat) : carry n 0 = 0 := steps_zero _
theorem add_carry (c : Nat) (l : List UInt8) : add c l = carry l.length c ^^^ crc l := by
  unfold crc add carry
  rw [upd_xor l c ones, Nat.zero_xor, Nat.xor_assoc]
theorem join_crc (l m : List UInt8) : carry m.length (crc l) ^^^ crc m = crc (l ++ m) := by
  rw [← add_carry]
  unfold crc
  rw [add_append]
/-- Of three texts, bit by bit. -/
def mix (b c d : UInt8) : UInt8 := b ^^^ c ^^^ d
theorem u8_xor_toNat (b c : UInt8) : (b ^^^ c).toNat = b.toNat ^^^ c.toNat := by simp

/-- Four steps, by a table. -/
def tab (i : Nat) : Nat := steps 4 i
theorem tab_16 : ∀ i, i < 16 → tab i = [0, 274646895, 549293790, 820201905, 1098587580, 1361435347, 1640403810, 1905808397, 2197175160, 2460548119, 2722870694, 2987750089, 3280807620, 3553878443, 3811616794, 4084100981].getD i 0 := by decide +kernel
theorem split16 (c : Nat) : c = (c / 16 * 16) ^^^ (c % 16) := by
  have h : c / 16 * 16 = (c >>> 4) <<< 4 := by rw [Nat.shiftLeft_eq, Nat.shiftRight_eq_div_pow]
  have h' : c % 16 = c % 2 ^ 4 := rfl
  refine Nat.eq_of_testBit_eq fun i => ?_
  rw [Nat.testBit_xor, h, h', Nat.testBit_shiftLeft, Nat.testBit_mod_two_pow, Nat.testBit_shiftRight]
  by_cases hi : i < 4
  · simp [hi, Nat.not_le.2 hi]
  · have : 4 + (i - 4) = i := by omega
    simp [hi, Nat.not_lt.1 hi, this]
theorem step_double (x : Nat) : step (2 * x) = x := by
  unfold step
  rw [Nat.testBit_zero, Nat.shiftRight_eq_div_pow]
  have : (2 * x) % 2 = 0 := by omega
  simp
theorem steps4 (c : Nat) : steps 4 c = (c / 16) ^^^ tab (c % 16) := by
  conv => lhs; rw [split16 c]
  rw [steps_xor]
  congr 1
  rw [show c / 16 * 16 = 2 * (2 * (2 * (2 * (c / 16)))) from by omega]
  simp only [steps, step_double]
theorem byte_nibbles (c : Nat) (b : UInt8) : byte c b = steps 4 (steps 4 (c ^^^ b.toNat)) := (steps_add 4 4 _)

/-- A bit of a text: the bit k of the byte j carries on as many steps as bits stand behind it. -/
theorem steps_pow (k : Nat) : ∀ n, steps (k + n) (2 ^ k) = steps n 1 := by
  induction k with
  | zero => intro n; rw [Nat.zero_add]
  | succ k ih =>
    intro n
    rw [show k + 1 + n = (k + n) + 1 from by omega, steps, Nat.pow_succ, Nat.mul_comm, step_double, ih]
theorem ofNat_two_pow {p : Nat} (h : p < 8) : (UInt8.ofNat (2 ^ p)).toNat = 2 ^ p := by
  rw [UInt8.toNat_ofNat']
  exact Nat.mod_eq_of_lt (Nat.pow_lt_pow_right (by omega) h)
/-- A text with the bit p turned. -/
def turned : List UInt8 → Nat → List UInt8
  | [], _ => []
  | b :: l, p => if p < 8 then (b ^^^ UInt8.ofNat (2 ^ p)) :: l else b :: turned l (p - 8)
theorem turned_length (l : List UInt8) : ∀ p, (turned l p).length = l.length := by
  induction l with
  | nil => intro p; rfl
  | cons b l ih => intro p; unfold turned; split <;> simp [ih]
theorem turned_eq (l : List UInt8) : ∀ p, p < 8 * l.length → turned l p = l.set (p / 8) (l.getD (p / 8) 0 ^^^ UInt8.ofNat (2 ^ (p % 8))) := by
  induction l with
  | nil => intro p hp; simp at hp
  | cons b l ih =>
    intro p hp
    unfold turned
    by_cases h : p < 8
    · rw [if_pos h, Nat.div_eq_of_lt h, Nat.mod_eq_of_lt h]; rfl
    · obtain ⟨q, rfl⟩ : ∃ q, p = q + 8 := ⟨p - 8, by omega⟩
      rw [if_neg h, Nat.add_sub_cancel, ih q (by simp at hp; omega), show (q + 8) / 8 = q / 8 + 1 from by omega, show (q + 8) % 8 = q % 8 from by omega]
      rfl
theorem upd_turned (l : List UInt8) : ∀ (p c : Nat), p < 8 * l.length → upd c (turned l p) = upd c l ^^^ steps (8 * l.length - p) 1 := by
  induction l with
  | nil => intro p c hp; simp at hp
  | cons b l ih =>
    intro p c hp
    unfold turned
    by_cases h : p < 8
    · rw [if_pos h, upd_cons, upd_cons, byte, u8_xor_toNat, ofNat_two_pow h, ← Nat.xor_assoc, Nat.xor_comm _ (2 ^ p), steps_xor, upd_xor, ← steps_add, Nat.xor_comm]
      congr 1
      rw [List.length_cons, show 8 + 8 * l.length = p + (8 * (l.length + 1) - p) from by omega, steps_pow]
    · rw [if_neg h, upd_cons, upd_cons, ih (p - 8) _ (by simp at hp; omega)]
      congr 2
      rw [List.length_cons]; omega
/-- The bits of a number, turned from a place on. -/
def burst (l : List UInt8) (bits fr : Nat) : Nat → List UInt8
  | 0 => l
  | k + 1 => if bits.testBit k then turned (burst l bits fr k) (fr + k) else burst l bits fr k
theorem burst_length (l : List UInt8) (bits fr k : Nat) : (burst l bits fr k).length = l.length := by
  induction k with
  | zero => rfl
  | succ k ih => unfold burst; split <;> simp [turned_length, ih]
theorem mod_succ_bit (x k : Nat) : x % 2 ^ (k + 1) = (if x.testBit k then 2 ^ k else 0) ^^^ (x % 2 ^ k) := by
  refine Nat.eq_of_testBit_eq fun i => ?_
  rw [Nat.testBit_xor, Nat.testBit_mod_two_pow, Nat.testBit_mod_two_pow]
  have h2 : (if x.testBit k then 2 ^ k else 0 : Nat).testBit i = (decide (i = k) && x.testBit k) := by
    by_cases e : i = k
    · subst e; cases x.testBit i <;> simp [Nat.testBit_two_pow_self]
    · cases x.testBit k <;> simp [e, Nat.testBit_two_pow_of_ne (Ne.symm e)]
  rw [h2]
  by_cases e : i = k
  · subst e; simp
  · by_cases h : i < k
    · simp [e, h, show i < k + 1 from by omega]
    · simp [e, h, show ¬ i < k + 1 from by omega]
theorem upd_burst (l : List UInt8) (bits fr c : Nat) : ∀ k, fr + k ≤ 8 * l.length → upd c (burst l bits fr k) = upd c l ^^^ steps (8 * l.length - fr) (bits % 2 ^ k) := by
  intro k
  induction k with
  | zero => intro _; rw [Nat.pow_zero, Nat.mod_one, steps_zero, Nat.xor_zero]; rfl
  | succ k ih =>
    intro hk
    have ih' := ih (by omega)
    rw [mod_succ_bit]
    unfold burst
    cases hb : bits.testBit k
    · simp only [Bool.false_eq_true, if_false, Nat.zero_xor]; exact ih'
    · simp only [if_true]
      rw [upd_turned _ _ _ (by rw [burst_length]; omega), ih', steps_xor, burst_length, Nat.xor_assoc, Nat.xor_comm (steps _ (2 ^ k))]
      congr 2
      rw [show 8 * l.length - fr = k + (8 * l.length - (fr + k)) from by omega, steps_pow]
theorem burst_zero (l : List UInt8) (bits fr : Nat) : ∀ k, bits % 2 ^ k = 0 → burst l bits fr k = l := by
  intro k
  induction k with
  | zero => intro _; rfl
  | succ k ih =>
    intro h
    rw [mod_succ_bit] at h
    unfold burst
    have hlt := Nat.mod_lt bits (Nat.two_pow_pos k)
    cases hb : bits.testBit k
    · rw [hb] at h; simp at h; simp [ih h]
    · rw [hb] at h
      simp only [if_true] at h
      have := congrArg (2 ^ k ^^^ ·) h
      simp only [xor_self_left, Nat.xor_zero] at this
      omega
theorem add_eq_iff {c : Nat} {l m : List UInt8} : add c l = add c m ↔ upd (c ^^^ ones) l = upd (c ^^^ ones) m := by
  constructor
  · intro h
    unfold add at h
    rw [Nat.xor_comm (upd _ l) ones, Nat.xor_comm (upd _ m) ones] at h
    exact xor_cancel_left h
  · intro h; unfold add; rw [h]
/-- Of two texts that differ within 32 bits the checksums are unlike. -/
theorem crc_burst (l : List UInt8) (bits fr k : Nat) (hk : fr + k ≤ 8 * l.length) (h32 : k ≤ 32) : crc (burst l bits fr k) = crc l ↔ burst l bits fr k = l := by
  constructor
  · intro h
    have h1 := add_eq_iff.1 h
    rw [upd_burst _ _ _ _ _ hk] at h1
    have h2 := congrArg (upd (0 ^^^ ones) l ^^^ ·) h1
    simp only [xor_self_left, Nat.xor_self] at h2
    have hlt : bits % 2 ^ k < 2 ^ 32 := Nat.lt_of_lt_of_le (Nat.mod_lt _ (Nat.two_pow_pos k)) (Nat.pow_le_pow_right (by omega) h32)
    exact burst_zero l bits fr k (steps_inj (8 * l.length - fr) hlt (by decide) (by rw [h2, steps_zero]))
  · intro h; rw [h]

/-! masks -/
def delta : Nat := 2726488792
def rotr (c : Nat) : Nat := c / 32768 + c % 32768 * 131072
def rotl (d : Nat) : Nat := d / 131072 + d % 131072 * 32768
def mask (c : Nat) : Nat := (rotr c + 2726488792) % 4294967296
def plain (m : Nat) : Nat := rotl ((m + 4294967296 - 2726488792) % 4294967296)
theorem rotr_lt {c : Nat} (h : c < 4294967296) : rotr c < 4294967296 := by unfold rotr; omega
theorem rotl_lt {c : Nat} (h : c < 4294967296) : rotl c < 4294967296 := by unfold rotl; omega
theorem mask_lt (c : Nat) : mask c < 4294967296 := Nat.mod_lt _ (by decide)
theorem plain_lt (c : Nat) : plain c < 4294967296 := rotl_lt (Nat.mod_lt _ (by decide))
theorem rotl_rotr {c : Nat} (h : c < 4294967296) : rotl (rotr c) = c := by unfold rotl rotr; omega
theorem rotr_rotl {c : Nat} (h : c < 4294967296) : rotr (rotl c) = c := by unfold rotl rotr; omega
theorem plain_mask {c : Nat} (h : c < 4294967296) : plain (mask c) = c := by
  have hr := rotr_lt h
  unfold plain mask
  rw [show ((rotr c + 2726488792) % 4294967296 + 4294967296 - 2726488792) % 4294967296 = rotr c from by omega, rotl_rotr h]
theorem mask_plain {m : Nat} (h : m < 4294967296) : mask (plain m) = m := by
  unfold plain mask
  rw [rotr_rotl (Nat.mod_lt _ (by decide))]
  omega
theorem mask_inj {a b : Nat} (ha : a < 4294967296) (hb : b < 4294967296) (h : mask a = mask b) : a = b := by
  rw [← plain_mask ha, ← plain_mask hb, h]

/-! the reference's ways -/
def rbit (c b : Nat) : Nat := if (c % 2 != b) then (c / 2) ^^^ poly else c / 2
theorem rbit_eq {b : Nat} (c : Nat) (hb : b < 2) : rbit c b = step (c ^^^ b) := by
  unfold rbit step
  have hs : (c ^^^ b) >>> 1 = c / 2 := by
    rw [Nat.shiftRight_xor_distrib, Nat.shiftRight_eq_div_pow, Nat.shiftRight_eq_div_pow, show b / 2 ^ 1 = 0 from by omega, Nat.xor_zero]
  rw [hs, Nat.testBit_xor, Nat.testBit_zero, Nat.testBit_zero]
  rcases Nat.mod_two_eq_zero_or_one c with h | h <;> rcases (show b = 0 ∨ b = 1 from by omega) with h' | h' <;> simp [h, h']
theorem bits_step (c b k : Nat) : steps (k + 1) (c ^^^ b % 2 ^ (k + 1)) = step (steps k (c ^^^ b % 2 ^ k) ^^^ (b / 2 ^ k % 2)) := by
  have e : b / 2 ^ k % 2 = steps k (if b.testBit k then 2 ^ k else 0) := by
    rw [← Nat.shiftRight_eq_div_pow]
    have hb : b.testBit k = decide ((b >>> k) % 2 = 1) := by
      rw [← Nat.testBit_zero, Nat.testBit_shiftRight, Nat.add_zero]
    rcases Nat.mod_two_eq_zero_or_one (b >>> k) with h | h
    · rw [hb, h]; simp [steps_zero]
    · rw [hb, h]; simp only [decide_true, if_true]; exact (steps_pow k 0).symm
  rw [e, ← steps_xor, mod_succ_bit, steps_succ, Nat.xor_comm (if b.testBit k then 2 ^ k else 0), ← Nat.xor_assoc]
/-- apply: what a carrier makes of a number. -/
def applied (m : List Nat) (c : Nat) : Nat → Nat
  | 0 => 0
  | i + 1 => if c / 2 ^ i % 2 = 1 then applied m c i ^^^ m.getD i 0 else applied m c i
theorem testBit_div (c i : Nat) : c.testBit i = decide (c / 2 ^ i % 2 = 1) := by
  rw [← Nat.shiftRight_eq_div_pow, ← Nat.testBit_zero, Nat.testBit_shiftRight, Nat.add_zero]
theorem applied_eq (m : List Nat) (n c : Nat) : ∀ i, (∀ j, j < i → m.getD j 0 = steps n (2 ^ j)) → applied m c i = steps n (c % 2 ^ i) := by
  intro i
  induction i with
  | zero => intro _; rw [Nat.pow_zero, Nat.mod_one, steps_zero]; rfl
  | succ i ih =>
    intro h
    have ih' := ih (fun j hj => h j (by omega))
    unfold applied
    rw [mod_succ_bit, testBit_div, steps_xor, ih', h i (by omega)]
    by_cases hb : c / 2 ^ i % 2 = 1
    · simp [hb, Nat.xor_comm]
    · simp [hb, steps_zero]
theorem applied_32 {m : List Nat} {n : Nat} (h : ∀ j, j < 32 → m.getD j 0 = steps n (2 ^ j)) {c : Nat} (hc : c < 2 ^ 32) : applied m c 32 = steps n c := by
  rw [applied_eq m n c 32 h, Nat.mod_eq_of_lt hc]
/-- The loop of times. -/
def TimesInv (f c0 m c out : Nat) : Prop :=
  ∃ k, k ≤ 32 ∧ m = 2147483648 / 2 ^ k ∧ c = steps k c0 ∧ out ^^^ act f (32 - k) c = act f 32 c0 ∧ c < 4294967296 ∧ out < 4294967296
theorem TimesInv.start {f c0 : Nat} (h : c0 < 4294967296) : TimesInv f c0 2147483648 c0 0 :=
  ⟨0, by omega, by simp, rfl, by simp, h, by omega⟩
theorem TimesInv.bounds {f c0 m c out : Nat} (h : TimesInv f c0 m c out) : m ≤ 2147483648 ∧ c < 4294967296 ∧ out < 4294967296 := by
  obtain ⟨k, hk, rfl, _, _, h1, h2⟩ := h
  exact ⟨Nat.div_le_self _ _, h1, h2⟩
theorem TimesInv.lt {f c0 m c out : Nat} (h : TimesInv f c0 m c out) (hm : 0 < m) : ∃ k, k < 32 ∧ m = 2 ^ (31 - k) ∧ c = steps k c0 ∧ out ^^^ act f (32 - k) c = act f 32 c0 := by
  obtain ⟨k, hk, rfl, hc, ho, _, _⟩ := h
  have : k < 32 := by
    rcases Nat.lt_or_eq_of_le hk with h | h
    · exact h
    · subst h; simp at hm
  refine ⟨k, this, ?_, hc, ho⟩
  rw [show (2147483648 : Nat) = 2 ^ 31 from rfl, Nat.pow_div (by omega) (by omega)]
theorem and_pow_ne {f j : Nat} : f &&& 2 ^ j ≠ 0 ↔ f.testBit j = true := by
  constructor
  · intro h
    cases hb : f.testBit j
    · refine absurd (Nat.eq_of_testBit_eq fun i => ?_) h
      rw [Nat.testBit_and, Nat.zero_testBit]
      by_cases e : j = i
      · subst e; rw [hb]; rfl
      · rw [Nat.testBit_two_pow_of_ne e, Bool.and_false]
    · rfl
  · intro h h0
    have := congrArg (·.testBit j) h0
    simp [h, Nat.testBit_two_pow_self] at this
theorem TimesInv.next {f c0 m c out : Nat} (h : TimesInv f c0 m c out) (hm : 0 < m) (x : Nat) (hx : x = if f &&& m = 0 then out else out ^^^ c) : TimesInv f c0 (m / 2) (step c) x := by
  obtain ⟨hmb, hcb, hob⟩ := h.bounds
  obtain ⟨k, hk, rfl, rfl, ho⟩ := h.lt hm
  refine ⟨k + 1, hk, ?_, (steps_succ k c0).symm, ?_, step_lt hcb, ?_⟩
  · rcases (show k = 31 ∨ k < 31 from by omega) with rfl | h
    · decide
    · rw [show (2147483648 : Nat) = 2 ^ 31 from rfl, Nat.pow_div (by omega) (by omega), show 31 - k = 31 - (k + 1) + 1 from by omega, Nat.pow_succ]; omega
  · rw [show 32 - k = (31 - k) + 1 from by omega, act] at ho
    rw [show 32 - (k + 1) = 31 - k from by omega, hx, ← ho]
    by_cases hb : f.testBit (31 - k) = true
    · rw [if_neg (and_pow_ne.2 hb), hb]; simp only [if_true]; rw [Nat.xor_assoc]
    · have h0 : f &&& 2 ^ (31 - k) = 0 := by
        have := mt and_pow_ne.1 hb
        omega
      rw [if_pos h0, Bool.eq_false_iff.2 hb]; simp
  · rw [hx]
    split
    · exact hob
    · exact Nat.xor_lt_two_pow (n := 32) hob hcb
theorem TimesInv.done {f c0 c out : Nat} (h : TimesInv f c0 0 c out) : out = act f 32 c0 := by
  obtain ⟨k, hk, hm, rfl, ho, _, _⟩ := h
  have : k = 32 := by
    rcases Nat.lt_or_eq_of_le hk with h | h
    · rw [show (2147483648 : Nat) = 2 ^ 31 from rfl, Nat.pow_div (by omega) (by omega)] at hm
      have := Nat.two_pow_pos (31 - k)
      omega
    · exact h
  subst this
  rw [← ho]; simp [act]

/-- The loop of Join: n is what is left. -/
def JoinInv (n0 a0 n a i : Nat) : Prop := a < 4294967296 ∧ steps (8 * 2 ^ i * n) a = steps (8 * n0) a0
theorem JoinInv.start {n0 a0 : Nat} (h : a0 < 4294967296) : JoinInv n0 a0 n0 a0 0 := ⟨h, by rw [Nat.pow_zero, Nat.mul_one]⟩
theorem JoinInv.even {n0 a0 n a i : Nat} (h : JoinInv n0 a0 n a i) (hn : n % 2 = 0) : JoinInv n0 a0 (n / 2) a (i + 1) := by
  refine ⟨h.1, ?_⟩
  rw [← h.2]
  congr 1
  obtain ⟨m, rfl⟩ : ∃ m, n = 2 * m := ⟨n / 2, by omega⟩
  rw [show 2 * m / 2 = m from by omega, Nat.pow_succ, Nat.mul_assoc, Nat.mul_assoc, Nat.mul_assoc]
theorem JoinInv.odd {n0 a0 n a i : Nat} (h : JoinInv n0 a0 n a i) (hn : n % 2 = 1) : JoinInv n0 a0 (n / 2) (act (far i) 32 a) (i + 1) := by
  obtain ⟨h1, h2⟩ := h
  refine ⟨act_lt _ _ h1, ?_⟩
  rw [act_far i h1, ← steps_add, ← h2]
  congr 1
  obtain ⟨m, rfl⟩ : ∃ m, n = 2 * m + 1 := ⟨n / 2, by omega⟩
  rw [show (2 * m + 1) / 2 = m from by omega, Nat.pow_succ, Nat.mul_add, Nat.mul_one, Nat.mul_assoc, Nat.mul_assoc, Nat.mul_assoc]
  omega
theorem JoinInv.done {n0 a0 a i : Nat} (h : JoinInv n0 a0 0 a i) : a = carry n0 a0 := by
  have := h.2
  rw [Nat.mul_zero] at this
  exact this
/-- Join, of any number of bytes. -/
def join (a b : Nat) (n : Int) : Nat := carry n.toNat a ^^^ b
theorem join_lt {a b : Nat} (n : Int) (ha : a < 4294967296) (hb : b < 4294967296) : join a b n < 4294967296 := Nat.xor_lt_two_pow (n := 32) (carry_lt _ ha) hb
theorem rot_or (x s t : Nat) (hs : s ≤ 32) (ht : t = 32 - s) (hx : x < 4294967296) : (x * 2 ^ s % 4294967296) ||| (x / 2 ^ t) = x * 2 ^ s % 4294967296 + x / 2 ^ t := by
  subst ht
  have h1 : x * 2 ^ s % 4294967296 = (x % 2 ^ (32 - s)) <<< s := by
    rw [Nat.shiftLeft_eq, show (4294967296 : Nat) = 2 ^ (32 - s) * 2 ^ s from by rw [← Nat.pow_add, show 32 - s + s = 32 from by omega], Nat.mul_mod_mul_right]
  have h2 : x / 2 ^ (32 - s) < 2 ^ s := by
    rw [Nat.div_lt_iff_lt_mul (Nat.two_pow_pos _), ← Nat.pow_add, show s + (32 - s) = 32 from by omega]; exact hx
  rw [h1, Nat.shiftLeft_add_eq_or_of_lt h2]
end Go.Proofs.YtpfoekfbcpinlaaGreatDoor.Crc
