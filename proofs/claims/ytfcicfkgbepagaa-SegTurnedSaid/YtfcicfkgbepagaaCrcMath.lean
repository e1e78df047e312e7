/-
  Plain law: the register of the sum (CRC-32, reflected), as bit vectors of 32, and as natural numbers. No program in sight.
-/
namespace Go.Crc

def P : BitVec 32 := 0xedb88320#32
/-- One bit. -/
def L (x : BitVec 32) : BitVec 32 := (x >>> 1) ^^^ (P &&& -(x &&& 1#32))
def Ln : Nat → BitVec 32 → BitVec 32
  | 0, x => x
  | n + 1, x => L (Ln n x)

theorem mask_eq (x : BitVec 32) : -(x &&& 1#32) = if x.getLsbD 0 then BitVec.allOnes 32 else 0#32 := by
  have h : x &&& 1#32 = if x.getLsbD 0 then 1#32 else 0#32 := by
    apply BitVec.eq_of_getLsbD_eq
    intro i hi
    rw [BitVec.getLsbD_and]
    by_cases e : i = 0
    · subst e; cases x.getLsbD 0 <;> simp
    · have : (1#32).getLsbD i = false := by simp [BitVec.getLsbD_one, e]
      rw [this]
      cases x.getLsbD 0 <;> simp [BitVec.getLsbD_one, e]
  rw [h]
  cases x.getLsbD 0
  · simp
  · simp only [if_true]; decide
theorem L_eq (x : BitVec 32) : L x = (x >>> 1) ^^^ (if x.getLsbD 0 then P else 0#32) := by
  unfold L
  rw [mask_eq]
  cases x.getLsbD 0
  · simp
  · simp only [if_true]; rw [BitVec.and_allOnes]
theorem xor4 (a b c d : BitVec 32) : (a ^^^ b) ^^^ (c ^^^ d) = (a ^^^ c) ^^^ (b ^^^ d) := by
  rw [BitVec.xor_assoc, BitVec.xor_assoc, ← BitVec.xor_assoc b c d, BitVec.xor_comm b c, BitVec.xor_assoc c b d]
theorem L_xor (a b : BitVec 32) : L (a ^^^ b) = L a ^^^ L b := by
  rw [L_eq, L_eq, L_eq, xor4, BitVec.getLsbD_xor, ← BitVec.ushiftRight_xor_distrib]
  congr 1
  cases a.getLsbD 0 <;> cases b.getLsbD 0 <;> simp
theorem L_zero : L 0#32 = 0#32 := by decide
theorem Ln_xor (n : Nat) (a b : BitVec 32) : Ln n (a ^^^ b) = Ln n a ^^^ Ln n b := by
  induction n with
  | zero => rfl
  | succ n ih => simp only [Ln, ih, L_xor]
theorem Ln_zero (n : Nat) : Ln n 0#32 = 0#32 := by
  induction n with
  | zero => rfl
  | succ n ih => simp only [Ln, ih, L_zero]
theorem Ln_L (n : Nat) (a : BitVec 32) : Ln n (L a) = L (Ln n a) := by
  induction n with
  | zero => rfl
  | succ n ih => simp only [Ln, ih]
theorem Ln_add (n m : Nat) (a : BitVec 32) : Ln (n + m) a = Ln n (Ln m a) := by
  induction n with
  | zero => simp [Ln]
  | succ n ih => rw [Nat.succ_add]; simp only [Ln, ih]

/-! ### by the byte -/
theorem Ln_high (k : Nat) (x : BitVec 32) (h : ∀ i, i < k → x.getLsbD i = false) : Ln k x = x >>> k := by
  induction k generalizing x with
  | zero => simp [Ln]
  | succ k ih =>
    have e : L x = x >>> 1 := by rw [L_eq, h 0 (by omega)]; simp
    rw [Ln, ← Ln_L, e, ih]
    · rw [← BitVec.shiftRight_add, Nat.add_comm]
    · intro i hi
      rw [BitVec.getLsbD_ushiftRight]
      exact h _ (by omega)
theorem split8 (y : BitVec 32) : y = ((y >>> 8) <<< 8) ^^^ (y.setWidth 8).setWidth 32 := by
  apply BitVec.eq_of_getLsbD_eq
  intro i hi
  simp only [BitVec.getLsbD_xor, BitVec.getLsbD_shiftLeft, BitVec.getLsbD_ushiftRight, BitVec.getLsbD_setWidth]
  by_cases h : i < 8
  · simp [h, hi]
  · simp [h, hi]; rw [show 8 + (i - 8) = i from by omega]; exact (BitVec.getLsbD_eq_getElem hi).symm
theorem Ln8 (y : BitVec 32) : Ln 8 y = (y >>> 8) ^^^ Ln 8 ((y.setWidth 8).setWidth 32) := by
  have h : Ln 8 ((y >>> 8) <<< 8) = (y >>> 8) := by
    rw [Ln_high]
    · apply BitVec.eq_of_getLsbD_eq
      intro i hi
      simp only [BitVec.getLsbD_shiftLeft, BitVec.getLsbD_ushiftRight]
      by_cases h8 : 8 + i < 32
      · simp [h8]
      · have : y.getLsbD (8 + i) = false := by apply BitVec.getLsbD_of_ge; omega
        simp [this]
    · intro i hi
      simp [BitVec.getLsbD_shiftLeft, hi]
  have := congrArg (Ln 8) (split8 y)
  rw [this, Ln_xor, h]

/-- One byte. -/
def B (x : BitVec 32) (c : BitVec 8) : BitVec 32 := Ln 8 (x ^^^ c.setWidth 32)
theorem B_eq (x : BitVec 32) (c : BitVec 8) : B x c = (x >>> 8) ^^^ Ln 8 ((x.setWidth 8 ^^^ c).setWidth 32) := by
  unfold B
  rw [Ln8]
  congr 1
  · apply BitVec.eq_of_getLsbD_eq
    intro i hi
    simp only [BitVec.getLsbD_ushiftRight, BitVec.getLsbD_xor, BitVec.getLsbD_setWidth]
    have : c.getLsbD (8 + i) = false := by apply BitVec.getLsbD_of_ge; omega
    simp [this]
  · congr 2
    apply BitVec.eq_of_getLsbD_eq
    intro i hi
    simp only [BitVec.getLsbD_xor, BitVec.getLsbD_setWidth]
    simp [hi]; intro; omega

/-- The register behind bytes. -/
def fold (x : BitVec 32) (l : List UInt8) : BitVec 32 := l.foldl (fun x c => B x c.toBitVec) x
def more (s : BitVec 32) (l : List UInt8) : BitVec 32 := ~~~ fold (~~~ s) l
def crc (l : List UInt8) : BitVec 32 := more 0#32 l

theorem fold_append (x : BitVec 32) (l m : List UInt8) : fold x (l ++ m) = fold (fold x l) m := by
  simp [fold, List.foldl_append]
theorem more_append (s : BitVec 32) (l m : List UInt8) : more (more s l) m = more s (l ++ m) := by
  simp [more, fold_append]
theorem B_xor (x y : BitVec 32) (c : BitVec 8) : B (x ^^^ y) c = B x c ^^^ Ln 8 y := by
  unfold B
  rw [← Ln_xor]
  congr 1
  rw [BitVec.xor_assoc, BitVec.xor_assoc, BitVec.xor_comm y]
theorem fold_xor (x y : BitVec 32) (l : List UInt8) : fold (x ^^^ y) l = fold x l ^^^ Ln (8 * l.length) y := by
  induction l generalizing x y with
  | nil => simp [fold, Ln]
  | cons c l ih =>
    show fold (B (x ^^^ y) c.toBitVec) l = fold (B x c.toBitVec) l ^^^ _
    rw [B_xor, ih, ← Ln_add, List.length_cons]
    congr 2
theorem not_xor (a b : BitVec 32) : ~~~ (a ^^^ b) = (~~~ a) ^^^ b := by
  rw [← BitVec.allOnes_xor, ← BitVec.allOnes_xor, BitVec.xor_assoc]
theorem crc_join (l m : List UInt8) : Ln (8 * m.length) (crc l) ^^^ crc m = crc (l ++ m) := by
  have e := fold_xor (~~~ 0#32) (crc l) m
  have e2 : (~~~ 0#32) ^^^ crc l = fold (~~~ 0#32) l := by
    unfold crc more
    rw [← not_xor, BitVec.zero_xor, BitVec.not_not]
  rw [e2] at e
  show _ ^^^ ~~~ (fold (~~~ 0#32) m) = ~~~ (fold (~~~ 0#32) (l ++ m))
  rw [fold_append, e, not_xor, BitVec.xor_comm]

/-! ### the product -/
/-- The first n coefficients of a (from the highest bit), over the powers of the step, at b. -/
def ev : Nat → BitVec 32 → BitVec 32 → BitVec 32
  | 0, _, _ => 0#32
  | n + 1, a, b => (if a.msb then b else 0#32) ^^^ ev n (a <<< 1) (L b)
theorem ev_xor_b (n : Nat) (a b c : BitVec 32) : ev n a (b ^^^ c) = ev n a b ^^^ ev n a c := by
  induction n generalizing a b c with
  | zero => simp [ev]
  | succ n ih => simp only [ev, L_xor, ih]; rw [xor4]; congr 1; cases a.msb <;> simp
theorem ev_L (n : Nat) (a b : BitVec 32) : ev n a (L b) = L (ev n a b) := by
  induction n generalizing a b with
  | zero => simp [ev, L_zero]
  | succ n ih => simp only [ev, ih, L_xor]; congr 1; cases a.msb <;> simp [L_zero]
theorem ev_zero_a (n : Nat) (b : BitVec 32) : ev n 0#32 b = 0#32 := by
  induction n generalizing b with
  | zero => rfl
  | succ n ih => simp [ev, ih]
theorem ev_xor_a (n : Nat) (a a' b : BitVec 32) : ev n (a ^^^ a') b = ev n a b ^^^ ev n a' b := by
  induction n generalizing a a' b with
  | zero => simp [ev]
  | succ n ih =>
    simp only [ev, BitVec.shiftLeft_xor_distrib, ih]
    rw [xor4]; congr 1
    rw [BitVec.msb_xor]; cases a.msb <;> cases a'.msb <;> simp
theorem ev_succ (n : Nat) (hn : n < 32) (a b : BitVec 32) : ev (n + 1) a b = ev n a b ^^^ (if a.getLsbD (31 - n) then Ln n b else 0#32) := by
  induction n generalizing a b with
  | zero => simp [ev, Ln, BitVec.msb_eq_getLsbD_last]
  | succ n ih =>
    rw [ev, ih (by omega), ← BitVec.xor_assoc]
    have e : (a <<< 1).getLsbD (31 - n) = a.getLsbD (31 - (n + 1)) := by
      rw [BitVec.getLsbD_shiftLeft]
      simp [show ¬ (31 - n) < 1 from by omega, show 31 - n < 32 from by omega, show 31 - n - 1 = 31 - (n + 1) from by omega]
    rw [e, Ln_L]
    rfl
theorem ev_congr (n : Nat) (hn : n ≤ 32) (a a' b : BitVec 32) (h : ∀ j, j < n → a.getLsbD (31 - j) = a'.getLsbD (31 - j)) : ev n a b = ev n a' b := by
  induction n with
  | zero => rfl
  | succ n ih => rw [ev_succ n (by omega), ev_succ n (by omega), ih (by omega) (fun j hj => h j (by omega)), h n (by omega)]

/-- Two linear maps that agree at the powers of two are one. -/
theorem lin_ext (f g : BitVec 32 → BitVec 32) (hf : ∀ a b, f (a ^^^ b) = f a ^^^ f b) (hg : ∀ a b, g (a ^^^ b) = g a ^^^ g b)
    (h : ∀ i, i < 32 → f (BitVec.twoPow 32 i) = g (BitVec.twoPow 32 i)) (b : BitVec 32) : f b = g b := by
  have f0 : f 0#32 = 0#32 := by have := hf 0#32 0#32; simpa using this
  have g0 : g 0#32 = 0#32 := by have := hg 0#32 0#32; simpa using this
  have key : ∀ k, k ≤ 32 → ∀ b : BitVec 32, (∀ i, k ≤ i → b.getLsbD i = false) → f b = g b := by
    intro k
    induction k with
    | zero =>
      intro _ b hb
      have : b = 0#32 := by apply BitVec.eq_of_getLsbD_eq; intro i _; rw [hb i (by omega)]; simp
      rw [this, f0, g0]
    | succ k ih =>
      intro hk b hb
      cases hbit : b.getLsbD k with
      | false =>
        apply ih (by omega) b
        intro i hi
        by_cases e : i = k
        · subst e; exact hbit
        · exact hb i (by omega)
      | true =>
        have e : b = (b ^^^ BitVec.twoPow 32 k) ^^^ BitVec.twoPow 32 k := by rw [BitVec.xor_assoc, BitVec.xor_self, BitVec.xor_zero]
        rw [e, hf, hg, h k (by omega), ih (by omega) (b ^^^ BitVec.twoPow 32 k)]
        intro i hi
        rw [BitVec.getLsbD_xor, BitVec.getLsbD_twoPow]
        by_cases e : i = k
        · subst e; simp [hbit]; omega
        · rw [hb i (by omega)]; simp; omega
  exact key 32 (Nat.le_refl _) b fun i hi => BitVec.getLsbD_of_ge _ _ hi

def one : BitVec 32 := 0x80000000#32
theorem ev_poly (b : BitVec 32) : ev 32 P b = Ln 32 b :=
  lin_ext (ev 32 P) (Ln 32) (ev_xor_b 32 P) (Ln_xor 32) (by decide +kernel) b
theorem ev_one (b : BitVec 32) : ev 32 one b = b := by
  rw [ev, show one.msb = true from by decide, show one <<< 1 = 0#32 from by decide, ev_zero_a]; simp
theorem ev_La (a b : BitVec 32) : ev 32 (L a) b = L (ev 32 a b) := by
  rw [L_eq a, ev_xor_a, ← ev_L 32 a b]
  have h1 : ev 32 (a >>> 1) b = ev 31 a (L b) := by
    rw [ev, show (a >>> 1).msb = false from by rw [BitVec.msb_ushiftRight]; simp]
    simp only [Bool.false_eq_true, if_false, BitVec.zero_xor]
    apply ev_congr 31 (by omega)
    intro j hj
    rw [BitVec.getLsbD_shiftLeft, BitVec.getLsbD_ushiftRight]
    simp [show ¬ (31 - j) < 1 from by omega, show 31 - j < 32 from by omega, show 1 + (31 - j - 1) = 31 - j from by omega]
  rw [h1, ev_succ 31 (by omega) a (L b)]
  congr 1
  simp only [Nat.sub_self]
  cases a.getLsbD 0 with
  | false => simp [ev_zero_a]
  | true => simp only [if_true]; rw [ev_poly, Ln_L]; rfl
theorem ev_Ln (n : Nat) (a b : BitVec 32) : ev 32 (Ln n a) b = Ln n (ev 32 a b) := by
  induction n with
  | zero => rfl
  | succ n ih => simp only [Ln, ev_La, ih]
/-- The power of the step as an element: its product with b is b behind so many steps. -/
theorem ev_pow (n : Nat) (b : BitVec 32) : ev 32 (Ln n one) b = Ln n b := by rw [ev_Ln, ev_one]
theorem ev_pows (n m : Nat) : ev 32 (Ln n one) (Ln m one) = Ln (n + m) one := by rw [ev_pow, Ln_add]

/-! ### bits that are turned -/
theorem L_inj (y : BitVec 32) (h : L y = 0#32) : y = 0#32 := by
  rw [L_eq] at h
  have h31 := congrArg (fun z => z.getLsbD 31) h
  have hP : P.getLsbD 31 = true := by decide
  cases hb : y.getLsbD 0 with
  | true =>
    rw [hb] at h31
    simp at h31
    exact absurd h31 (by decide)
  | false =>
    rw [hb] at h
    simp at h
    apply BitVec.eq_of_getLsbD_eq
    intro i hi
    cases i with
    | zero => simpa using hb
    | succ i =>
      have := congrArg (fun z => z.getLsbD i) h
      simpa [Nat.add_comm] using this
theorem Ln_inj (n : Nat) (y : BitVec 32) (h : Ln n y = 0#32) : y = 0#32 := by
  induction n with
  | zero => exact h
  | succ n ih => exact ih (L_inj _ h)
theorem Ln_two (j : Nat) (hj : j < 32) : Ln j (BitVec.twoPow 32 j) = 1#32 := by
  rw [Ln_high]
  · apply BitVec.eq_of_getLsbD_eq
    intro i hi
    rw [BitVec.getLsbD_ushiftRight, BitVec.getLsbD_twoPow]
    simp [BitVec.getLsbD_one, hj]
  · intro i hi
    have : ¬ j = i := by omega
    simp [BitVec.getLsbD_twoPow, this]
/-- One bit of one byte is turned. -/
theorem fold_flip (x : BitVec 32) (l1 l2 : List UInt8) (c d : UInt8) (m : Nat) (hm : m < 8) (hd : d.toBitVec = c.toBitVec ^^^ BitVec.twoPow 8 m) :
    fold x (l1 ++ d :: l2) = fold x (l1 ++ c :: l2) ^^^ Ln (8 * l2.length + (8 - m)) 1#32 := by
  rw [fold_append, fold_append]
  show fold (B (fold x l1) d.toBitVec) l2 = fold (B (fold x l1) c.toBitVec) l2 ^^^ _
  have e : B (fold x l1) d.toBitVec = B (fold x l1) c.toBitVec ^^^ Ln (8 - m) 1#32 := by
    unfold B
    rw [hd, ← Ln_two m (by omega), ← Ln_add, show 8 - m + m = 8 from by omega, ← Ln_xor]
    congr 1
    rw [BitVec.xor_assoc]
    congr 1
    apply BitVec.eq_of_getLsbD_eq
    intro i hi
    simp only [BitVec.getLsbD_xor, BitVec.getLsbD_setWidth, BitVec.getLsbD_twoPow]
    by_cases e : m = i
    · subst e; simp [hm, show m < 32 from by omega]
    · simp [e]
  rw [e, fold_xor, ← Ln_add]
/-- What so many low bits of v have turned, M bits ahead of the end. -/
def low (v : BitVec 32) : Nat → BitVec 32
  | 0 => 0#32
  | j + 1 => low v j ^^^ (if v.getLsbD j then BitVec.twoPow 32 j else 0#32)
theorem low_bit (v : BitVec 32) (j i : Nat) (hj : j ≤ 32) : (low v j).getLsbD i = (decide (i < j) && v.getLsbD i) := by
  induction j with
  | zero => simp [low]
  | succ j ih =>
    rw [low, BitVec.getLsbD_xor, ih (by omega)]
    by_cases e : i = j
    · subst e
      cases v.getLsbD i <;> simp [BitVec.getLsbD_twoPow]; omega
    · have : ∀ b : Bool, (if b then BitVec.twoPow 32 j else 0#32).getLsbD i = false := by
        intro b; cases b <;> simp [BitVec.getLsbD_twoPow]; omega
      rw [this, Bool.xor_false]
      congr 1
      simp; omega
theorem low_zero (v : BitVec 32) (j i : Nat) (hj : j ≤ 32) (hi : i < j) (hv : v.getLsbD i = true) (M : Nat) : Ln M (low v j) ≠ 0#32 := by
  intro h
  have := congrArg (fun z => z.getLsbD i) (Ln_inj M _ h)
  simp [low_bit v j i hj, hi, hv] at this
theorem Ln_low (v : BitVec 32) (M j : Nat) (hj : j < 32) (hM : j ≤ M) (hv : v.getLsbD j = true) : Ln M (low v (j + 1)) = Ln M (low v j) ^^^ Ln (M - j) 1#32 := by
  rw [low, hv, Ln_xor]
  simp only [if_true]
  rw [← Ln_two j hj, ← Ln_add, show M - j + j = M from by omega]
theorem low_off (v : BitVec 32) (j : Nat) (hv : v.getLsbD j = false) : low v (j + 1) = low v j := by
  rw [low, hv]; simp
end Go.Crc
