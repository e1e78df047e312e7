/-
  A region that draws its order, of operations that only read and of operations that stand in a chain: one walk of the text's order serves every order. No project text.
-/
import Derived.Test.YtenjllkhbpoffaaDoorLx
import Derived.BigQuiet
namespace Go.Lx
open Go Go.RowKit
section
variable {P : Program} {ops : Array Oper} {md : Region.Mode} {C : World → Prop} {F : Nat → Prop}

/-- An operation that calls no Go function. -/
def plainOp : Op → Bool
  | .call { callee := .builtin .len, .. } | .call { callee := .builtin .min, .. } | .call { callee := .builtin .max, .. } => true
  | .call _ | .go _ | .defer _ | .panic _ | .send _ _ | .recv _ _ _ | .select _ _ => false
  | _ => true
theorem no_enter {o : Oper} {ρ : Operand → Value} (h : plainOp o.op = true) (w : World) (f : FuncId) (args : Array Value) (w' : World) : (execOp ρ o).run P w ≠ .ok (.enter f args) w' := by
  have hv : ∀ s : Sem Value, (do pure (Next.value (← s)) : Sem Next).run P w ≠ .ok (.enter f args) w' := by
    intro s
    rw [Sem.run_bind]
    cases s.run P w <;> simp [Result.andThen]
  have hu : ∀ s : Sem Unit, (do s; pure Next.skip : Sem Next).run P w ≠ .ok (.enter f args) w' := by
    intro s
    rw [Sem.run_bind]
    cases s.run P w <;> simp [Result.andThen]
  obtain ⟨dst, op, type, pos, after, guard⟩ := o
  cases op
  all_goals first
    | (simp [plainOp] at h; done)
    | exact hv _
    | exact hu _
    | (simp [execOp]; done)
    | skip
  case pick c x y =>
    simp only [execOp]
    rw [Sem.run_bind]
    cases (asBool (ρ c)).run P w <;> simp [Result.andThen]
  case call c =>
    obtain ⟨callee, args, argTypes⟩ := c
    cases callee with
    | builtin b =>
      cases b <;> simp [plainOp] at h
      all_goals (simp only [execOp, resolve, invoke, builtin]; exact hv _)
    | value f => simp [plainOp] at h
    | invoke r m => simp [plainOp] at h
  case nilCheck x =>
    simp only [execOp]
    split
    case h_4 nm first captured hx =>
      split
      case h_2 t y hy =>
        rw [Sem.run_bind]
        cases hr : (program : Sem Program).run P w with
        | halt h w => simp [Result.andThen]
        | ok p w1 =>
          simp only [Result.andThen]
          rw [Sem.run_bind]
          cases hr : (nilAhead (p.types.size + Made.depth) t y nm).run P w1 with
          | halt h w => simp [Result.andThen]
          | ok q w2 =>
            simp only [Result.andThen]
            split <;> simp [unsupported, Sem.run_bind, Sem.run]
      all_goals simp [runtimePanic, goPanic, Sem.run_bind, program, Sem.run, Result.andThen]
    all_goals simp [runtimePanic, goPanic, Sem.run_bind, program, Sem.run, Result.andThen]

/-- What an operation yields in the world w: a value and a world of R. -/
def uponR (P : Program) (R : Value → World → Prop) : Result Next → Prop
  | .ok (.value u) w' => R u w'
  | .ok .skip w' => R undef w'
  | .ok (.enter f args) w' => Calls P f args w' fun e w'' => ∃ v, e = .returned v ∧ R v w''
  | _ => False
theorem uponR_ne {R : Value → World → Prop} {r : Result Next} (h : uponR P R r) : ∃ v w, R v w := by
  cases r with
  | halt x w => exact h.elim
  | ok n w =>
    cases n <;> simp only [uponR] at h
    case value u => exact ⟨_, _, h⟩
    case skip => exact ⟨_, _, h⟩
    case enter f args =>
      obtain ⟨e, w', _, ⟨v, _, hR⟩, _⟩ := h []
      exact ⟨_, _, hR⟩
/-- One value, in every world of the class; no Go function is called. -/
def Light (P : Program) (C : World → Prop) (o : Oper) (a : Act) (v : Value) : Prop := plainOp o.op = true ∧ ∀ w, C w → o.quietAt P a C w v
theorem Light.uniq {o : Oper} {a : Act} {v v' : Value} (h : Light P C o a v) (h' : Light P C o a v') (hC : ∃ w, C w) : v = v' := by
  obtain ⟨w, hw⟩ := hC
  have h1 := h.2 w hw
  have h2 := h'.2 w hw
  unfold Oper.quietAt at h1 h2
  cases hr : (execOp a.eval o).run P w with
  | halt x w' => rw [hr] at h1; exact h1.elim
  | ok n w' =>
    rw [hr] at h1 h2
    cases n <;> simp only [Oper.quietUpon] at h1 h2
    case value u => rw [← h1.2, ← h2.2]
    case skip => rw [h1.2, h2.2]
    case enter f args => exact absurd hr (no_enter h.1 w f args w')
/-- What was made ahead is kept. -/
def Kept (F : Nat → Prop) (w w' : World) : Prop := ∀ b, F b → b < w.heap.size → w'.heap[b]? = w.heap[b]?
def Loud (P : Program) (C : World → Prop) (F : Nat → Prop) (kp : Bool) (o : Oper) (a : Act) (S : World → Prop) (G : Value → World → Prop) : Prop :=
  ∀ w, C w → S w → uponR P (fun v w' => C w' ∧ G v w' ∧ (kp = true → Kept F w w')) ((execOp a.eval o).run P w)
/-- A new block, as it was made. -/
def Made (F : Nat → Prop) (X : Obj) (v : Value) (w : World) : Prop := ∃ b, v = .pointer (some ⟨b, 0, none⟩) ∧ F b ∧ w.heap[b]? = some X
def Grows (S : World → Prop) : Prop := ∀ w o, S w → S (w.alloc o)
theorem heap_lt {w : World} {b : Nat} {X : Obj} (h : w.heap[b]? = some X) : b < w.heap.size := by
  rcases Nat.lt_or_ge b w.heap.size with h' | h'
  · exact h'
  · rw [Array.getElem?_eq_none h'] at h; cases h
theorem Made.grows {X : Obj} {v : Value} : Grows (Made F X v) := fun w o ⟨b, h1, h2, h3⟩ => ⟨b, h1, h2, (Below.heap_alloc w o b (heap_lt h3)).trans h3⟩
theorem Made.kept {X : Obj} {v : Value} {w w' : World} (h : Made F X v w) (hk : Kept F w w') : Made F X v w' := by
  obtain ⟨b, h1, h2, h3⟩ := h
  exact ⟨b, h1, h2, (hk b h2 (heap_lt h3)).trans h3⟩
/-- An operation in state (S, a): which values may come (V), and what then holds of the world (N). -/
inductive Tk (P : Program) (ops : Array Oper) (C : World → Prop) (F : Nat → Prop) (o : Oper) (lo : Nat) (kp : Bool) (a : Act) (S : World → Prop) (V : Value → Prop) (N : Value → World → Prop) : Prop
  | skip (hw : Region.wanted o (yielded ops a.tmps) = false) (hV : V = (· = undef)) (hN : N = fun _ => S)
  | light (hw : Region.wanted o (yielded ops a.tmps) = true) (hl : lo = 0) (v : Value) (hv : Light P C o a v) (hV : V = (· = v)) (hN : N = fun _ => S)
  | loud (hw : Region.wanted o (yielded ops a.tmps) = true) (hl : lo = 1) (hG : Loud P C F kp o a S N) (hcl : kp = true → Grows S) (hV : V = fun v => ∃ w, C w ∧ N v w)
  | fresh (hw : Region.wanted o (yielded ops a.tmps) = true) (hl : lo = 2) (X : Obj) (hx : ∀ w, (execOp a.eval o).run P w = .ok (.value (.pointer (some ⟨w.heap.size, 0, none⟩))) (w.alloc X)) (hcl : Grows S) (hC : Grows C) (hF : ∀ w, C w → F w.heap.size)
      (hV : V = fun v => ∃ w, C w ∧ N v w) (hN : N = fun v w => S w ∧ Made F X v w)
theorem made_new {X : Obj} {w : World} (h : F w.heap.size) : Made F X (.pointer (some ⟨w.heap.size, 0, none⟩)) (w.alloc X) := ⟨_, rfl, h, by show (w.heap.push X)[w.heap.size]? = _; simp⟩
theorem Tk.some {o : Oper} {lo : Nat} {kp : Bool} {a : Act} {S : World → Prop} {V : Value → Prop} {N : Value → World → Prop} (h : Tk P ops C F o lo kp a S V N) (hne : ∃ w, C w ∧ S w) : ∃ v, V v := by
  cases h with
  | skip hw hV hN => exact ⟨undef, by rw [hV]⟩
  | light hw hl v hv hV hN => exact ⟨v, by rw [hV]⟩
  | loud hw hl hG hcl hV =>
    obtain ⟨w, h1, h2⟩ := hne
    obtain ⟨v, w', h3⟩ := uponR_ne (hG w h1 h2)
    exact ⟨v, by rw [hV]; exact ⟨w', h3.1, h3.2.1⟩⟩
  | fresh hw hl X hx hcl hC hF hV hN =>
    obtain ⟨w, h1, h2⟩ := hne
    exact ⟨_, by rw [hV, hN]; exact ⟨w.alloc X, hC _ _ h1, hcl _ _ h2, made_new (hF w h1)⟩⟩
theorem Tk.all {o : Oper} {lo : Nat} {kp : Bool} {a : Act} {S : World → Prop} {V : Value → Prop} {N : Value → World → Prop} (h : Tk P ops C F o lo kp a S V N) (hne : ∃ w, C w ∧ S w) {v : Value} (hv : V v) : ∃ w, C w ∧ N v w := by
  cases h with
  | skip hw hV hN => rw [hN]; exact hne
  | light hw hl u hu hV hN => rw [hN]; exact hne
  | loud hw hl hG hcl hV => rw [hV] at hv; exact hv
  | fresh hw hl X hx hcl hC hF hV hN => rw [hV] at hv; exact hv
/-- Another operation's value makes no difference to it. -/
theorem Tk.of_same {o : Oper} {lo : Nat} {kp : Bool} {a a' : Act} {S : World → Prop} {V : Value → Prop} {N : Value → World → Prop} (h : Tk P ops C F o lo kp a S V N) (he : execOp a'.eval o = execOp a.eval o)
    (hw' : Region.wanted o (yielded ops a'.tmps) = Region.wanted o (yielded ops a.tmps)) : Tk P ops C F o lo kp a' S V N := by
  cases h with
  | skip hw hV hN => exact .skip (hw'.trans hw) hV hN
  | light hw hl v hv hV hN => exact .light (hw'.trans hw) hl v ⟨hv.1, fun w hC => by have := hv.2 w hC; unfold Oper.quietAt at *; rw [he]; exact this⟩ hV hN
  | loud hw hl hG hcl hV => exact .loud (hw'.trans hw) hl (fun w h1 h2 => by rw [he]; exact hG w h1 h2) hcl hV
  | fresh hw hl X hx hcl hC hF hV hN => exact .fresh (hw'.trans hw) hl X (fun w => by rw [he]; exact hx w) hcl hC hF hV hN
def cOp (P : Program) (ops : Array Oper) (C : World → Prop) (F : Nat → Prop) (lo : Nat → Nat) (kp : Nat → Bool) (i : Nat) (S : World → Prop) (K : (World → Prop) → Act → Prop) (a : Act) : Prop :=
  match ops[i]? with
  | none => K S a
  | some o => ∃ V N, Tk P ops C F o (lo i) (kp i) a S V N ∧ ∀ v, V v → K (N v) (a.put o.dst v)
/-- Whatever order is picked from here on. -/
def anyC (P : Program) (md : Region.Mode) (ops : Array Oper) (C : World → Prop) (F : Nat → Prop) (lo : Nat → Nat) (kp : Nat → Bool) (Q : (World → Prop) → Act → Prop) : Nat → Array Bool → (World → Prop) → Act → Prop
  | 0, listed, S, a => Region.ready md ops listed = [] ∧ Q S a
  | fuel + 1, listed, S, a => (Region.ready md ops listed = [] → Q S a) ∧ ∀ i ∈ Region.ready md ops listed, cOp P ops C F lo kp i S (anyC P md ops C F lo kp Q fuel (listed.setIfInBounds i true)) a
theorem wpOp_of_cOp {lo : Nat → Nat} {kp : Nat → Bool} {i : Nat} {a : Act} {S : World → Prop} {K : (World → Prop) → Act → Prop} {K' : Act → World → Prop} {Q' : Exit → Act → World → Prop} {w : World} (hC : C w) (hS : S w)
    (h : ∀ S' a' w', C w' → S' w' → K S' a' → K' a' w') (hh : cOp P ops C F lo kp i S K a) : wpOp P ops Q' i K' a w := by
  unfold cOp at hh
  unfold wpOp
  split
  · rename_i ho; simp only [ho] at hh; exact h _ _ _ hC hS hh
  · rename_i o ho
    simp only [ho] at hh
    obtain ⟨V, N, hT, hK⟩ := hh
    cases hT with
    | skip hw hV hN =>
      subst hV hN
      rw [if_neg (by rw [hw]; exact Bool.false_ne_true)]
      exact h _ _ _ hC hS (hK _ rfl)
    | light hw hl v hv hV hN =>
      subst hV hN
      rw [if_pos hw]
      left
      have h1 := hv.2 w hC
      unfold Oper.quietAt at h1
      unfold Oper.wp
      cases hr : (execOp a.eval o).run P w with
      | halt x w' => rw [hr] at h1; exact h1.elim
      | ok n w' =>
        rw [hr] at h1
        cases n <;> simp only [Oper.quietUpon] at h1 <;> simp only [Oper.upon]
        case value u => obtain ⟨e1, e2⟩ := h1; rw [e1, e2]; exact h _ _ _ hC hS (hK _ rfl)
        case skip => obtain ⟨e1, e2⟩ := h1; rw [e1, ← e2]; exact h _ _ _ hC hS (hK _ rfl)
        case enter f args => exact absurd hr (no_enter hv.1 w f args w')
    | fresh hw hl X hx hcl hCg hF hV hN =>
      subst hV hN
      rw [if_pos hw]
      left
      unfold Oper.wp
      rw [hx w]
      exact h _ _ _ (hCg _ _ hC) ⟨hcl _ _ hS, made_new (hF w hC)⟩ (hK _ ⟨_, hCg _ _ hC, hcl _ _ hS, made_new (hF w hC)⟩)
    | loud hw hl hG hcl hV =>
      subst hV
      rw [if_pos hw]
      left
      have h1 := hG w hC hS
      unfold Oper.wp
      cases hr : (execOp a.eval o).run P w with
      | halt x w' => rw [hr] at h1; exact h1.elim
      | ok n w' =>
        rw [hr] at h1
        cases n <;> simp only [uponR] at h1 <;> simp only [Oper.upon]
        case value u => exact h _ _ _ h1.1 h1.2.1 (hK _ ⟨_, h1.1, h1.2.1⟩)
        case skip => exact h _ _ _ h1.1 h1.2.1 (hK _ ⟨_, h1.1, h1.2.1⟩)
        case enter f args => exact h1.mono fun e w'' ⟨v, he, h2⟩ => by subst he; exact h _ _ _ h2.1 h2.2.1 (hK _ ⟨_, h2.1, h2.2.1⟩)
theorem wpAny_of_anyC {lo : Nat → Nat} {kp : Nat → Bool} {Q : (World → Prop) → Act → Prop} {Q' : Exit → Act → World → Prop} (hQ : ∀ S a w, C w → S w → Q S a → Q' .normal a w) : ∀ (fuel : Nat) (listed : Array Bool) (S : World → Prop) (a : Act) (w : World), C w → S w →
    anyC P md ops C F lo kp Q fuel listed S a → wpAny P md ops Q' fuel listed a w
  | 0, _, _, _, _, hw, hs, h => ⟨h.1, hQ _ _ _ hw hs h.2⟩
  | fuel + 1, _, _, _, _, hw, hs, h => ⟨fun h0 => hQ _ _ _ hw hs (h.1 h0), fun i hi => wpOp_of_cOp hw hs (fun S' a' w' hw' hs' => wpAny_of_anyC hQ fuel _ S' a' w' hw' hs') (h.2 i hi)⟩

/-! The chain. -/
theorem getD_both {listed : Array Bool} {i : Nat} (h : listed.getD i true = false) : listed.getD i false = false := by
  rcases Nat.lt_or_ge i listed.size with h' | h'
  · simp [h'] at h ⊢; exact h
  · simp [Array.getElem?_eq_none h'] at h
def Closed (md : Region.Mode) (ops : Array Oper) (listed : Array Bool) : Prop := ∀ j oj, ops[j]? = some oj → listed.getD j false = true → ∀ e ∈ oj.after, Region.binds md e = true → listed.getD e.on false = true
theorem Closed.set {i : Nat} {listed : Array Bool} (inv : Closed md ops listed) (hi : i ∈ Region.ready md ops listed) : Closed md ops (listed.setIfInBounds i true) := by
  obtain ⟨_, oi, hoi, hall⟩ := mem_ready.1 hi
  intro j oj hj hl e he hb
  by_cases hij : i = j
  · subst hij
    have : oj = oi := Option.some.inj (hj.symm.trans hoi)
    subst this
    exact getD_set_true (hall e he hb)
  · rw [getD_set_ne false hij] at hl
    exact getD_set_true (inv j oj hj hl e he hb)
/-- j stands behind i, by n edges at most. -/
def waitsT (md : Region.Mode) (ops : Array Oper) : Nat → Nat → Nat → Bool
  | 0, _, _ => false
  | n + 1, j, i => match ops[j]? with
    | some oj => oj.after.any fun e => Region.binds md e && (e.on == i || waitsT md ops n e.on i)
    | none => false
theorem waitsT_listed {listed : Array Bool} (inv : Closed md ops listed) : ∀ (n j i : Nat), waitsT md ops n j i = true → listed.getD j false = true → listed.getD i false = true
  | 0, _, _, h, _ => by cases h
  | n + 1, j, i, h, hl => by
    unfold waitsT at h
    split at h
    · rename_i oj hj
      obtain ⟨e, he, hb⟩ := Array.any_eq_true'.1 h
      simp only [Bool.and_eq_true, Bool.or_eq_true, beq_iff_eq] at hb
      have h1 := inv j oj hj hl e he hb.1
      rcases hb.2 with rfl | h2
      · exact h1
      · exact waitsT_listed inv n e.on i h2 h1
    · cases h
theorem waitsT_ready {listed : Array Bool} (inv : Closed md ops listed) {n j i : Nat} (h : waitsT md ops n j i = true) (hr : j ∈ Region.ready md ops listed) : listed.getD i false = true := by
  have h2 := waitsT_listed (inv.set hr) n j i h (by
    obtain ⟨hun, oj, hoj, _⟩ := mem_ready.1 hr
    have hlt : j < listed.size := by
      rcases Nat.lt_or_ge j listed.size with h' | h'
      · exact h'
      · simp [Array.getElem?_eq_none h'] at hun
    simp [hlt])
  by_cases hij : j = i
  · subst hij
    cases n with
    | zero => cases h
    | succ n =>
      obtain ⟨hun, oj, hoj, hall⟩ := mem_ready.1 hr
      unfold waitsT at h
      rw [hoj] at h
      obtain ⟨e, he, hb⟩ := Array.any_eq_true'.1 h
      simp only [Bool.and_eq_true, Bool.or_eq_true, beq_iff_eq] at hb
      have h1 := hall e he hb.1
      rcases hb.2 with h3 | h3
      · rw [h3] at h1; exact h1
      · exact waitsT_listed inv n e.on j h3 h1
  · rwa [getD_set_ne false hij] at h2
def chainB (md : Region.Mode) (ops : Array Oper) : List Nat → Bool
  | x :: y :: l => decide (x < y) && waitsT md ops 6 y x && chainB md ops (y :: l)
  | _ => true
theorem chain_listed {listed : Array Bool} (inv : Closed md ops listed) : ∀ (L : List Nat), chainB md ops L = true → ∀ i ∈ L, ∀ j ∈ L, i < j → j ∈ Region.ready md ops listed ∨ listed.getD j false = true → listed.getD i false = true
  | [], _, i, hi, _, _, _, _ => by cases hi
  | [x], _, i, hi, j, hj, hij, _ => by simp at hi hj; omega
  | x :: y :: l, h, i, hi, j, hj, hij, hr => by
    simp only [chainB, Bool.and_eq_true, decide_eq_true_eq] at h
    have hs : ∀ k ∈ y :: l, y ≤ k := by
      have : ∀ (L : List Nat) (y : Nat), chainB md ops (y :: L) = true → ∀ k ∈ y :: L, y ≤ k := by
        intro L
        induction L with
        | nil => intro y _ k hk; simp at hk; omega
        | cons z L ih =>
          intro y h k hk
          simp only [chainB, Bool.and_eq_true, decide_eq_true_eq] at h
          rcases List.mem_cons.1 hk with rfl | hk
          · omega
          · have := ih z h.2 k hk; omega
      exact this l y h.2
    have hy : listed.getD y false = true ∨ y ∈ Region.ready md ops listed → listed.getD x false = true := fun hh => hh.elim (waitsT_listed inv _ _ _ h.1.2) (waitsT_ready inv h.1.2)
    rcases List.mem_cons.1 hj with rfl | hj'
    · rcases List.mem_cons.1 hi with rfl | hi'
      · omega
      · have := hs i hi'; omega
    · rcases List.mem_cons.1 hi with rfl | hi'
      · by_cases hjy : j = y
        · subst hjy; exact hy hr.symm
        · have hyj : y < j := by have := hs j hj'; omega
          exact hy (.inl (chain_listed inv (y :: l) h.2 y (by simp) j hj' hyj hr))
      · exact chain_listed inv (y :: l) h.2 i hi' j hj' hij hr

/-- A new block is made behind what is loud, or the loud wait for it. -/
def freshB (md : Region.Mode) (ops : Array Oper) (L M : List Nat) : Bool := M.all fun i => L.all fun j => decide (j ≤ i) || waitsT md ops 6 j i
theorem fresh_listed {L M : List Nat} {listed : Array Bool} (inv : Closed md ops listed) (h : freshB md ops L M = true) {i j : Nat} (hi : i ∈ M) (hj : j ∈ L) (hij : i < j) (hr : j ∈ Region.ready md ops listed) : listed.getD i false = true := by
  have h1 := List.all_eq_true.1 (List.all_eq_true.1 h i hi) j hj
  simp only [Bool.or_eq_true, decide_eq_true_eq] at h1
  exact waitsT_ready inv (h1.resolve_left (by omega)) hr
/-- An operation that may come up now may be taken first. -/
theorem anyC_first {L M : List Nat} {lo : Nat → Nat} {kp : Nat → Bool} {Q : (World → Prop) → Act → Prop} {i : Nat} {oi : Oper} (hi : ops[i]? = some oi) (hsel : ∀ (j : Nat) (o : Oper) cs b, ops[j]? = some o → o.op ≠ .select cs b)
    (hlo : ∀ j, lo j = if L.contains j then 1 else if M.contains j then 2 else 0) (hL : chainB md ops L = true) (hM : freshB md ops L M = true) (hkp : ∀ j, kp j = M.any fun m => decide (j < m)) :
    ∀ (fuel : Nat) (listed : Array Bool) (S : World → Prop) (a : Act) (V : Value → Prop) (N : Value → World → Prop), Closed md ops listed → (∀ j, j < i → listed.getD j true = true) →
      (∀ j oj, ops[j]? = some oj → j ≠ i → listed.getD j true = false → (∀ e ∈ oj.after, Region.binds md e = true → e.on ≠ i) → oi.apart ops oj = true) →
      i ∈ Region.ready md ops listed → (∃ w, C w ∧ S w) → Tk P ops C F oi (lo i) (kp i) a S V N →
      (∀ v, V v → anyC P md ops C F lo kp Q fuel (listed.setIfInBounds i true) (N v) (a.put oi.dst v)) → anyC P md ops C F lo kp Q (fuel + 1) listed S a := by
  intro fuel
  induction fuel with
  | zero =>
    intro listed S a V N _ _ _ hr hne hT H
    refine ⟨fun h => (by rw [h] at hr; cases hr), fun j hj => ?_⟩
    by_cases hji : j = i
    · subst hji; unfold cOp; simp only [hi]; exact ⟨V, N, hT, H⟩
    · obtain ⟨v, hv⟩ := hT.some hne
      have := ready_mono hj hji
      rw [(H v hv).1] at this
      cases this
  | succ fuel ih =>
    intro listed S a V N inv hlow hfree hr hne hT H
    refine ⟨fun h => (by rw [h] at hr; cases hr), fun j hj => ?_⟩
    by_cases hji : j = i
    · subst hji; unfold cOp; simp only [hi]; exact ⟨V, N, hT, H⟩
    · obtain ⟨hjun, oj, hoj, hall⟩ := mem_ready.1 hj
      have hiun := (mem_ready.1 hr).1
      have hnot : ∀ e ∈ oj.after, Region.binds md e = true → e.on ≠ i := fun e he hb heq => by
        have h1 := hall e he hb
        rw [heq, getD_both hiun] at h1
        cases h1
      have hij : i < j := by
        rcases Nat.lt_or_ge i j with h | h
        · exact h
        · have := hlow j (by omega)
          rw [hjun] at this; cases this
      have hll : ¬(lo i ≠ 0 ∧ lo j = 1) := fun ⟨h1, h2⟩ => by
        have hjL : j ∈ L := by
          rw [hlo] at h2
          by_cases hc : L.contains j = true
          · simpa using hc
          · rw [if_neg hc] at h2; split at h2 <;> cases h2
        by_cases hc : L.contains i = true
        · have := chain_listed inv L hL i (by simpa using hc) j hjL hij (.inl hj)
          rw [getD_both hiun] at this; cases this
        · have hiM : M.contains i = true := by
            rw [hlo, if_neg hc] at h1
            by_cases hm : M.contains i = true
            · exact hm
            · rw [if_neg hm] at h1; exact absurd rfl h1
          have := fresh_listed inv hM (by simpa using hiM) hjL hij hj
          rw [getD_both hiun] at this; cases this
      obtain ⟨p1, p2, p3⟩ := Oper.apart_spec (hfree j oj hoj hji hjun hnot)
      have hfree' : ∀ k ok, ops[k]? = some ok → k ≠ i → (listed.setIfInBounds j true).getD k true = false →
          (∀ e ∈ ok.after, Region.binds md e = true → e.on ≠ i) → oi.apart ops ok = true := fun k ok hk hki hun hno => by
        refine hfree k ok hk hki ?_ hno
        by_cases hjk : j = k
        · subst hjk; exact hjun
        · rw [getD_set_ne true hjk] at hun; exact hun
      have hlow' : ∀ k, k < i → (listed.setIfInBounds j true).getD k true = true := fun k hk => by
        rw [getD_set_ne true (by omega)]; exact hlow k hk
      have back : ∀ {v : Value} {S' : World → Prop} {Vj : Value → Prop} {Nj : Value → World → Prop}, Tk P ops C F oj (lo j) (kp j) (a.put oi.dst v) S' Vj Nj → Tk P ops C F oj (lo j) (kp j) a S' Vj Nj := fun {v} {S'} {Vj} {Nj} h =>
        h.of_same (execOp_put oj (fun cs b => hsel j oj cs b hoj) a oi.dst v p1).symm (wanted_put oj a oi.dst v p1).symm
      have fwd : ∀ {u : Value} {S' : World → Prop} {V' : Value → Prop} {N' : Value → World → Prop}, Tk P ops C F oi (lo i) (kp i) a S' V' N' → Tk P ops C F oi (lo i) (kp i) (a.put oj.dst u) S' V' N' := fun {u} {S'} {V'} {N'} h =>
        h.of_same (execOp_put oi (fun cs b => hsel i oi cs b hi) a oj.dst u p3) (wanted_put oi a oj.dst u p3)
      have step : ∀ v, V v → ∃ Vj Nj, Tk P ops C F oj (lo j) (kp j) a (N v) Vj Nj ∧ ∀ u, Vj u → anyC P md ops C F lo kp Q fuel ((listed.setIfInBounds j true).setIfInBounds i true) (Nj u) ((a.put oj.dst u).put oi.dst v) := fun v hv => by
        have h1 := (H v hv).2 j (ready_mono hj hji)
        unfold cOp at h1
        simp only [hoj] at h1
        obtain ⟨Vj, Nj, h2, h3⟩ := h1
        refine ⟨Vj, Nj, back h2, fun u hu => ?_⟩
        have h4 := h3 u hu
        rw [Array.setIfInBounds_comm _ _ (Ne.symm hji), Act.put_comm a v u p2] at h4
        exact h4
      unfold cOp
      simp only [hoj]
      have small : ∀ v0, V = (· = v0) → (∀ S', Tk P ops C F oi (lo i) (kp i) a S' V (fun _ => S')) → N = (fun _ => S) →
          ∃ V N, Tk P ops C F oj (lo j) (kp j) a S V N ∧ ∀ v, V v → anyC P md ops C F lo kp Q (fuel + 1) (listed.setIfInBounds j true) (N v) (a.put oj.dst v) := fun v0 hV0 hTT hN => by
        obtain ⟨Vj, Nj, h2, h3⟩ := step v0 (by rw [hV0])
        rw [hN] at h2
        refine ⟨Vj, Nj, h2, fun u hu => ?_⟩
        exact ih (listed.setIfInBounds j true) (Nj u) (a.put oj.dst u) V (fun _ => Nj u) (inv.set hj) hlow' hfree' (ready_mono hr (Ne.symm hji)) (h2.all hne hu) (fwd (hTT _)) (fun v hv => by
          rw [hV0] at hv; subst hv
          exact h3 u hu)
      have big : Tk P ops C F oi (lo i) (kp i) a S V N → lo i ≠ 0 → (lo j = 2 → ∀ X u, Tk P ops C F oi (lo i) (kp i) a (fun w => S w ∧ Made F X u w) (fun v => ∃ w, C w ∧ N v w ∧ Made F X u w) (fun v w => N v w ∧ Made F X u w)) → (lo j = 2 → Grows S) → (∀ _X : Obj, V = fun v => ∃ w, C w ∧ N v w) → (∀ (_X : Obj) v, V v → V v) →
          ∃ V N, Tk P ops C F oj (lo j) (kp j) a S V N ∧ ∀ v, V v → anyC P md ops C F lo kp Q (fuel + 1) (listed.setIfInBounds j true) (N v) (a.put oj.dst v) := fun hT0 hnz hTM hcl hVV _ => by
        have hlj : ¬ lo j = 1 := fun h => hll ⟨hnz, h⟩
        obtain ⟨v1, hv1⟩ := hT0.some hne
        have hCne : ∃ w, C w := hne.elim fun w h => ⟨w, h.1⟩
        obtain ⟨Vj, Nj, h2, h3⟩ := step v1 hv1
        cases h2 with
        | loud _ hl2 _ _ _ => exact absurd hl2 hlj
        | skip hw2 hV2 hN2 =>
          refine ⟨_, _, .skip hw2 rfl rfl, fun u hu => ?_⟩
          subst hu
          refine ih (listed.setIfInBounds j true) S (a.put oj.dst undef) V N (inv.set hj) hlow' hfree' (ready_mono hr (Ne.symm hji)) hne (fwd hT0) (fun v hv => ?_)
          obtain ⟨Vk, Nk, k2, k3⟩ := step v hv
          cases k2 with
          | loud _ hl2 _ _ _ => exact absurd hl2 hlj
          | light hw3 _ _ _ _ _ => rw [hw2] at hw3; cases hw3
          | fresh hw3 _ _ _ _ _ _ _ _ => rw [hw2] at hw3; cases hw3
          | skip hw3 hV3 hN3 =>
            subst hV3 hN3
            exact k3 undef rfl
        | light hw2 hl2 u0 hu0 hV2 hN2 =>
          refine ⟨_, _, .light hw2 hl2 u0 hu0 rfl rfl, fun u hu => ?_⟩
          subst hu
          refine ih (listed.setIfInBounds j true) S (a.put oj.dst u) V N (inv.set hj) hlow' hfree' (ready_mono hr (Ne.symm hji)) hne (fwd hT0) (fun v hv => ?_)
          obtain ⟨Vk, Nk, k2, k3⟩ := step v hv
          cases k2 with
          | loud _ hl2 _ _ _ => exact absurd hl2 hlj
          | skip hw3 _ _ => rw [hw2] at hw3; cases hw3
          | fresh _ hl3 _ _ _ _ _ _ _ => rw [hl2] at hl3; cases hl3
          | light hw3 _ u1 hu1 hV3 hN3 =>
            subst hV3 hN3
            exact k3 u (hu0.uniq hu1 hCne)
        | fresh hw2 hl2 X hx _ hCg hF hV2 hN2 =>
          refine ⟨_, _, .fresh hw2 hl2 X hx (hcl hl2) hCg hF rfl rfl, fun u hu => ?_⟩
          refine ih (listed.setIfInBounds j true) (fun w => S w ∧ Made F X u w) (a.put oj.dst u) _ _ (inv.set hj) hlow' hfree' (ready_mono hr (Ne.symm hji)) hu (fwd (hTM hl2 X u)) (fun v hv => ?_)
          obtain ⟨w0, g1, g2, g3⟩ := hv
          obtain ⟨Vk, Nk, k2, k3⟩ := step v (by rw [hVV X]; exact ⟨w0, g1, g2⟩)
          cases k2 with
          | loud _ hl2 _ _ _ => exact absurd hl2 hlj
          | skip hw3 _ _ => rw [hw2] at hw3; cases hw3
          | light _ hl3 _ _ _ _ => rw [hl2] at hl3; cases hl3
          | fresh hw3 hl3 Y hy _ _ _ hV3 hN3 =>
            have hXY : X = Y := by
              have h5 := (hx w0).symm.trans (hy w0)
              simp only [Result.ok.injEq, true_and] at h5
              have h6 : (w0.alloc X).heap[w0.heap.size]? = (w0.alloc Y).heap[w0.heap.size]? := by rw [h5]
              change (w0.heap.push X)[w0.heap.size]? = (w0.heap.push Y)[w0.heap.size]? at h6
              simpa using h6
            subst hXY hV3 hN3
            exact k3 u ⟨w0, g1, g2, g3⟩
      cases hT with
      | skip hw hV hN => exact small undef hV (fun S' => .skip hw hV rfl) hN
      | light hw hl v hv hV hN => exact small v hV (fun S' => .light hw hl v hv hV rfl) hN
      | loud hw hl hG hcl hV =>
        have hkpi : lo j = 2 → kp i = true := fun hj2 => by
          rw [hkp]
          have hjM : M.contains j = true := by
            rw [hlo] at hj2
            by_cases hc : L.contains j = true
            · rw [if_pos hc] at hj2; cases hj2
            · rw [if_neg hc] at hj2
              by_cases hm : M.contains j = true
              · exact hm
              · rw [if_neg hm] at hj2; cases hj2
          exact List.any_eq_true.2 ⟨j, by simpa using hjM, by simpa using hij⟩
        refine big (.loud hw hl hG hcl hV) (by rw [hl]; decide) (fun hj2 X u => ?_) (fun hj2 => hcl (hkpi hj2)) (fun X => hV) (fun X v h => h)
        refine .loud hw hl (fun w h1 h2 => ?_) (fun hk w o h => ⟨hcl hk w o h.1, Made.grows w o h.2⟩) rfl
        have h3 := hG w h1 h2.1
        have hk1 := hkpi hj2
        cases hr : (execOp a.eval oi).run P w with
        | halt x w' => rw [hr] at h3; exact h3.elim
        | ok n w' =>
          rw [hr] at h3
          cases n <;> simp only [uponR] at h3 ⊢
          case value u => exact ⟨h3.1, ⟨h3.2.1, h2.2.kept (h3.2.2 hk1)⟩, h3.2.2⟩
          case skip => exact ⟨h3.1, ⟨h3.2.1, h2.2.kept (h3.2.2 hk1)⟩, h3.2.2⟩
          case enter f args => exact h3.mono fun e w'' ⟨v, he, h4⟩ => ⟨v, he, h4.1, ⟨h4.2.1, h2.2.kept (h4.2.2 hk1)⟩, h4.2.2⟩
      | fresh hw hl X hx hcl hCg hF hV hN =>
        refine big (.fresh hw hl X hx hcl hCg hF hV hN) (by rw [hl]; decide) (fun _ Y u => ?_) (fun _ => hcl) (fun Y => hV) (fun Y v h => h)
        refine .fresh hw hl X hx (fun w o h => ⟨hcl w o h.1, Made.grows w o h.2⟩) hCg hF rfl ?_
        funext v w
        rw [hN]
        exact propext ⟨fun h => ⟨⟨h.1.1, h.2⟩, h.1.2⟩, fun h => ⟨⟨h.1.1, h.2⟩, h.1.2⟩⟩

/-! The walk of the text's order. -/
def kindOf (L M : List Nat) (k : Nat) : Nat := if L.contains k then 1 else if M.contains k then 2 else 0
def wpCh (P : Program) (ops : Array Oper) (C : World → Prop) (F : Nat → Prop) (L M : List Nat) (Q : (World → Prop) → Act → Prop) : List Oper → Nat → (World → Prop) → Act → Prop
  | [], _, S, a => Q S a
  | o :: rest, k, S, a => ∃ V N, Tk P ops C F o (kindOf L M k) (M.any fun m => decide (k < m)) a S V N ∧ ∀ v, V v → wpCh P ops C F L M Q rest (k + 1) (N v) (a.put o.dst v)
theorem anyC_lex {L M : List Nat} {Q : (World → Prop) → Act → Prop} (hs : Region.noSelect ops = true) (hL : chainB md ops L = true) (hM : freshB md ops L M = true) : ∀ (l : List Oper) (k : Nat) (listed : Array Bool) (S : World → Prop) (a : Act), (∀ j, l[j]? = ops[k + j]?) →
    Region.lexFrom md ops l.length k listed = true → Closed md ops listed → (∀ j, j < k → listed.getD j true = true) → (∃ w, C w ∧ S w) → wpCh P ops C F L M Q l k S a → anyC P md ops C F (kindOf L M) (fun k => M.any fun m => decide (k < m)) Q l.length listed S a
  | [], _, _, _, _, _, hB, _, _, _, h => ⟨by simpa [Region.lexFrom] using hB, h⟩
  | o :: l, k, listed, S, a, hl, hB, inv, hlow, hne, h => by
    have h0 : ops[k]? = some o := by simpa using (hl 0).symm
    simp only [List.length_cons, Region.lexFrom, Bool.and_eq_true] at hB
    obtain ⟨⟨hr, hf⟩, hB'⟩ := hB
    obtain ⟨V, N, hT, hK⟩ := h
    have hr' : k ∈ Region.ready md ops listed := by simpa using hr
    refine anyC_first (L := L) (M := M) h0 (Region.noSelect_spec hs) (fun _ => rfl) hL hM (fun _ => rfl) l.length listed S a V N inv hlow (Region.free_spec h0 hf) hr' hne hT (fun v hv => ?_)
    exact anyC_lex hs hL hM l (k + 1) _ _ _ (fun j => by have := hl (j + 1); simpa [Nat.add_assoc, Nat.add_comm 1 j] using this) hB' (inv.set hr') (fun j hj => by
      by_cases hjk : j = k
      · subst hjk
        by_cases hlt : j < listed.size
        · simp [hlt]
        · simp [Array.getElem?_eq_none (Nat.le_of_not_lt hlt)]
      · rw [getD_set_ne true (Ne.symm hjk)]; exact hlow j (by omega)) (hT.all hne hv) (hK v hv)
theorem wp_region_chain {id : Nat} {Q : Exit → Act → World → Prop} {a : Act} {w : World} (L M : List Nat) (S : World → Prop) (hm : P.follows .mixedOrders = true) (hB : Region.lexB .any ops = true) (hL : chainB .any ops L = true) (hM : freshB .any ops L M = true) (hC : C w.drew) (hS : S w.drew)
    (h : wpCh P ops C F L M (fun S' a' => ∀ w', C w' → S' w' → Q .normal a' w') ops.toList 0 S a) : (Code.region id ops true).wp P Q a w := by
  simp only [Region.lexB, Bool.and_eq_true] at hB
  refine wp_region_any hm (wpAny_of_anyC (F := F) (lo := kindOf L M) (kp := fun k => M.any fun m => decide (k < m)) (Q := fun S' a' => ∀ w', C w' → S' w' → Q .normal a' w') (fun S' _ w' hw' hs' h => h w' hw' hs') _ _ S _ _ hC hS ?_)
  have := anyC_lex (C := C) (F := F) (md := .any) hB.1 hL hM ops.toList 0 (Array.replicate ops.size false) S a (by simp) (by simpa using hB.2) (fun j oj _ hl => by
    simp only [Array.getD_eq_getD_getElem?, Array.getElem?_replicate] at hl
    split at hl <;> simp at hl) (fun j hj => by omega) ⟨_, hC, hS⟩ h
  simpa using this

/-- The same for a region whose operations are written out. -/
theorem wp_region_chain_lit {id : Nat} {Q : Exit → Act → World → Prop} {a : Act} {w : World} {l : List Oper} (C : World → Prop) (F : Nat → Prop) (L M : List Nat) (S : World → Prop) (hm : P.follows .mixedOrders = true) (hB : Region.lexB .any l.toArray = true) (hL : chainB .any l.toArray L = true) (hM : freshB .any l.toArray L M = true) (hC : C w.drew) (hS : S w.drew)
    (h : wpCh P l.toArray C F L M (fun S' a' => ∀ w', C w' → S' w' → Q .normal a' w') l 0 S a) : (Code.region id l.toArray true).wp P Q a w :=
  wp_region_chain L M S hm hB hL hM hC hS (by simpa using h)

/-! Its steps. -/
theorem wpCh_nil {L M : List Nat} {Q : (World → Prop) → Act → Prop} {k : Nat} {S : World → Prop} {a : Act} (h : Q S a) : wpCh P ops C F L M Q [] k S a := h
/-- A light operation. -/
theorem wpCh_one {L M : List Nat} {Q : (World → Prop) → Act → Prop} {l : List Oper} {o : Oper} {k : Nat} {S : World → Prop} {a : Act} (hk : kindOf L M k = 0) (hp : plainOp o.op = true)
    (h : wpQuiet P ops C (fun a' => wpCh P ops C F L M Q l (k + 1) S a') [o] a) : wpCh P ops C F L M Q (o :: l) k S a := by
  unfold wpCh
  rw [hk]
  simp only [wpQuiet] at h
  by_cases hw : Region.wanted o (yielded ops a.tmps) = true
  · rw [if_pos hw] at h
    obtain ⟨v, h3, h4⟩ := h
    refine ⟨_, _, .light hw rfl v ⟨hp, h3⟩ rfl rfl, fun u hu => ?_⟩
    subst hu
    exact h4
  · rw [if_neg hw] at h
    refine ⟨_, _, .skip (by simpa using hw) rfl rfl, fun u hu => ?_⟩
    subst hu
    exact h
/-- A loud operation (or one that makes a block) that is passed over; one that is carried out. -/
theorem wpCh_skip {L M : List Nat} {Q : (World → Prop) → Act → Prop} {l : List Oper} {o : Oper} {k : Nat} {S : World → Prop} {a : Act} (hw : Region.wanted o (yielded ops a.tmps) = false) (h : wpCh P ops C F L M Q l (k + 1) S (a.put o.dst undef)) : wpCh P ops C F L M Q (o :: l) k S a :=
  ⟨_, _, .skip hw rfl rfl, fun u hu => by subst hu; exact h⟩
theorem wpCh_loud {L M : List Nat} {Q : (World → Prop) → Act → Prop} {l : List Oper} {o : Oper} {k : Nat} {S : World → Prop} {a : Act} (G : Value → World → Prop) (hk : kindOf L M k = 1) (hw : Region.wanted o (yielded ops a.tmps) = true) (hcl : (M.any fun m => decide (k < m)) = true → Grows S)
    (hG : ∀ w, C w → S w → uponR P (fun v w' => C w' ∧ G v w' ∧ ((M.any fun m => decide (k < m)) = true → Kept F w w')) ((execOp a.eval o).run P w)) (h : ∀ v, (∃ w, C w ∧ G v w) → wpCh P ops C F L M Q l (k + 1) (G v) (a.put o.dst v)) : wpCh P ops C F L M Q (o :: l) k S a := by
  unfold wpCh
  rw [hk]
  exact ⟨_, G, .loud hw rfl hG hcl rfl, h⟩
/-- A new block. -/
theorem wpCh_fresh {L M : List Nat} {Q : (World → Prop) → Act → Prop} {l : List Oper} {o : Oper} {k : Nat} {S : World → Prop} {a : Act} (X : Obj) (hk : kindOf L M k = 2) (hw : Region.wanted o (yielded ops a.tmps) = true) (hcl : Grows S) (hC : Grows C) (hF : ∀ w, C w → F w.heap.size)
    (hx : ∀ w, (execOp a.eval o).run P w = .ok (.value (.pointer (some ⟨w.heap.size, 0, none⟩))) (w.alloc X))
    (h : ∀ b, F b → wpCh P ops C F L M Q l (k + 1) (fun w => S w ∧ w.heap[b]? = some X) (a.put o.dst (.pointer (some ⟨b, 0, none⟩)))) : wpCh P ops C F L M Q (o :: l) k S a := by
  unfold wpCh
  rw [hk]
  refine ⟨_, _, .fresh hw rfl X hx hcl hC hF rfl rfl, fun v hv => ?_⟩
  obtain ⟨w0, _, _, b, rfl, h2, _⟩ := hv
  have e : (fun w => S w ∧ Made F X (.pointer (some ⟨b, 0, none⟩)) w) = fun w => S w ∧ w.heap[b]? = some X := by
    funext w
    refine propext ⟨fun ⟨h3, b', h4, _, h5⟩ => ⟨h3, ?_⟩, fun ⟨h3, h4⟩ => ⟨h3, b, rfl, h2, h4⟩⟩
    cases h4
    exact h5
  rw [e]
  exact h b h2
attribute [go_sem] uponR
theorem uponR_mono {R R' : Value → World → Prop} {r : Result Next} (h : ∀ v w, R v w → R' v w) (hr : uponR P R r) : uponR P R' r := by
  cases r with
  | halt x w => exact hr.elim
  | ok n w =>
    cases n <;> simp only [uponR] at hr ⊢
    case value u => exact h _ _ hr
    case skip => exact h _ _ hr
    case enter f args => exact hr.mono fun e w' ⟨v, he, h2⟩ => ⟨v, he, h _ _ h2⟩
/-- An operation whose value is known. -/
theorem wpCh_val {L M : List Nat} {Q : (World → Prop) → Act → Prop} {l : List Oper} {o : Oper} {k : Nat} {S : World → Prop} {a : Act} (v : Value) (S' : World → Prop) (hk : kindOf L M k = 1) (hw : Region.wanted o (yielded ops a.tmps) = true) (hcl : (M.any fun m => decide (k < m)) = true → Grows S)
    (hG : ∀ w, C w → S w → ∀ R : Value → World → Prop, (∀ w', C w' → S' w' → ((M.any fun m => decide (k < m)) = true → Kept F w w') → R v w') → uponR P R ((execOp a.eval o).run P w)) (h : wpCh P ops C F L M Q l (k + 1) S' (a.put o.dst v)) : wpCh P ops C F L M Q (o :: l) k S a := by
  refine wpCh_loud (fun u w' => u = v ∧ S' w') hk hw hcl (fun w h1 h2 => ?_) (fun u hu => ?_)
  · exact hG w h1 h2 _ fun w' h3 h4 h5 => ⟨h3, ⟨rfl, h4⟩, h5⟩
  · obtain ⟨_, _, rfl, _⟩ := hu
    have e : (fun w' => u = u ∧ S' w') = S' := by funext w'; simp
    rw [e]
    exact h
/-- A call that makes memory at most, in the class of the worlds that extend W. -/
theorem wpCh_ext {W : World} {L M : List Nat} {Q : (World → Prop) → Act → Prop} {l : List Oper} {o : Oper} {k : Nat} {a : Act} (v : Value) (hk : kindOf L M k = 1) (hw : Region.wanted o (yielded ops a.tmps) = true)
    (hG : ∀ x : Ext W, ∀ R : Value → World → Prop, (∀ w', Below x.wo.heap.size x.wo w' → R v w') → uponR P R ((execOp a.eval o).run P x.wo))
    (h : wpCh P ops (fun w' => ∃ x : Ext W, w' = x.wo) F L M Q l (k + 1) (fun _ => True) (a.put o.dst v)) : wpCh P ops (fun w' => ∃ x : Ext W, w' = x.wo) F L M Q (o :: l) k (fun _ => True) a :=
  wpCh_val v (fun _ => True) hk hw (fun _ _ _ _ => trivial) (fun w ⟨x, hx⟩ _ R hR => by
    subst hx
    exact hG x R fun w' hb => hR w' ⟨⟨w', bstep x.below (Nat.le_refl _) hb⟩, rfl⟩ trivial fun _ b _ hb' => hb.block b hb') h
/-- A value is put: in the form that the walk's cheap step takes. -/
theorem put_mv {K : Act → Prop} {a : Act} {d : Option Tmp} {v : Value} (hC : ∃ w, C w) (h : wpQuiet P ops C K [⟨d, .move (.const v), 0, "", #[], none⟩] a) : K (a.put d v) := by
  obtain ⟨w, hw⟩ := hC
  simp only [wpQuiet, Region.wanted, if_true] at h
  obtain ⟨u, h1, h2⟩ := h
  have h3 := h1 w hw
  unfold Oper.quietAt at h3
  rw [BigFrame.run_move (.const v) rfl] at h3
  obtain ⟨_, h4⟩ := h3
  have h5 : v = u := h4
  rw [h5]
  exact h2
theorem wpCh_extp {W : World} {L M : List Nat} {Q : (World → Prop) → Act → Prop} {l : List Oper} {d : Option Tmp} {op : Op} {ty : TypeId} {pos : String} {aft : Array Edge} {g : Option (Nat × Bool)} {k : Nat} {a : Act} (v : Value) (hk : kindOf L M k = 1) (hw : Region.wanted ⟨d, op, ty, pos, aft, g⟩ (yielded ops a.tmps) = true)
    (hG : ∀ x : Ext W, ∀ R : Value → World → Prop, (∀ w', Below x.wo.heap.size x.wo w' → R v w') → uponR P R ((execOp a.eval ⟨d, op, ty, pos, aft, g⟩).run P x.wo))
    (h : wpQuiet P ops (fun w' => ∃ x : Ext W, w' = x.wo) (wpCh P ops (fun w' => ∃ x : Ext W, w' = x.wo) F L M Q l (k + 1) (fun _ => True)) [⟨d, .move (.const v), 0, "", #[], none⟩] a) : wpCh P ops (fun w' => ∃ x : Ext W, w' = x.wo) F L M Q (⟨d, op, ty, pos, aft, g⟩ :: l) k (fun _ => True) a :=
  wpCh_ext v hk hw hG (put_mv ⟨W, ⟨W, Below.refl _ _⟩, rfl⟩ h)
theorem wpCh_valp {L M : List Nat} {Q : (World → Prop) → Act → Prop} {l : List Oper} {d : Option Tmp} {op : Op} {ty : TypeId} {pos : String} {aft : Array Edge} {g : Option (Nat × Bool)} {k : Nat} {S : World → Prop} {a : Act} (v : Value) (S' : World → Prop) (hk : kindOf L M k = 1) (hw : Region.wanted ⟨d, op, ty, pos, aft, g⟩ (yielded ops a.tmps) = true) (hcl : (M.any fun m => decide (k < m)) = true → Grows S) (hne : ∃ w, C w)
    (hG : ∀ w, C w → S w → ∀ R : Value → World → Prop, (∀ w', C w' → S' w' → ((M.any fun m => decide (k < m)) = true → Kept F w w') → R v w') → uponR P R ((execOp a.eval ⟨d, op, ty, pos, aft, g⟩).run P w)) (h : wpQuiet P ops C (wpCh P ops C F L M Q l (k + 1) S') [⟨d, .move (.const v), 0, "", #[], none⟩] a) : wpCh P ops C F L M Q (⟨d, op, ty, pos, aft, g⟩ :: l) k S a :=
  wpCh_val v S' hk hw hcl hG (put_mv hne h)
theorem wpCh_skipp {L M : List Nat} {Q : (World → Prop) → Act → Prop} {l : List Oper} {d : Option Tmp} {op : Op} {ty : TypeId} {pos : String} {aft : Array Edge} {g : Option (Nat × Bool)} {k : Nat} {S : World → Prop} {a : Act} (hne : ∃ w, C w) (hw : Region.wanted ⟨d, op, ty, pos, aft, g⟩ (yielded ops a.tmps) = false)
    (h : wpQuiet P ops C (wpCh P ops C F L M Q l (k + 1) S) [⟨d, .move (.const undef), 0, "", #[], none⟩] a) : wpCh P ops C F L M Q (⟨d, op, ty, pos, aft, g⟩ :: l) k S a :=
  wpCh_skip hw (put_mv hne h)
theorem wpCh_freshp {L M : List Nat} {Q : (World → Prop) → Act → Prop} {l : List Oper} {d : Option Tmp} {op : Op} {ty : TypeId} {pos : String} {aft : Array Edge} {g : Option (Nat × Bool)} {k : Nat} {S : World → Prop} {a : Act} (X : Obj) (hk : kindOf L M k = 2) (hw : Region.wanted ⟨d, op, ty, pos, aft, g⟩ (yielded ops a.tmps) = true) (hcl : Grows S) (hne : ∃ w, C w) (hC : Grows C) (hF : ∀ w, C w → F w.heap.size)
    (hx : ∀ w, (execOp a.eval ⟨d, op, ty, pos, aft, g⟩).run P w = .ok (.value (.pointer (some ⟨w.heap.size, 0, none⟩))) (w.alloc X))
    (h : ∀ b, F b → wpQuiet P ops C (wpCh P ops C F L M Q l (k + 1) (fun w => S w ∧ w.heap[b]? = some X)) [⟨d, .move (.const (.pointer (some ⟨b, 0, none⟩))), 0, "", #[], none⟩] a) : wpCh P ops C F L M Q (⟨d, op, ty, pos, aft, g⟩ :: l) k S a :=
  wpCh_fresh X hk hw hcl hC hF hx (fun b hb => put_mv hne (h b hb))
theorem grows_true : Grows (fun _ => True) := fun _ _ _ => trivial
theorem grows_and {S T : World → Prop} (h : Grows S) (h' : Grows T) : Grows (fun w => S w ∧ T w) := fun w o hh => ⟨h w o hh.1, h' w o hh.2⟩
theorem grows_block {b : Nat} {X : Obj} : Grows (fun w => w.heap[b]? = some X) := fun w o h => (Below.heap_alloc w o b (heap_lt h)).trans h
theorem ext_ne {W : World} : ∃ w', ∃ x : Ext W, w' = x.wo := ⟨W, ⟨W, Below.refl _ _⟩, rfl⟩
/-- The worlds of a class, as the walk names them. -/
def Cls (C : World → Prop) : Type := { w : World // C w }
def Cls.wo {C : World → Prop} (x : Cls C) : World := x.val
theorem Cls.is {C : World → Prop} (x : Cls C) : C x.wo := x.property
theorem cls_of {C : World → Prop} {w : World} (h : C w) : ∃ x : Cls C, w = x.wo := ⟨⟨w, h⟩, rfl⟩
theorem wpCh_cls {C : World → Prop} {L M : List Nat} {Q : (World → Prop) → Act → Prop} {l : List Oper} {d : Option Tmp} {op : Op} {ty : TypeId} {pos : String} {aft : Array Edge} {g : Option (Nat × Bool)} {k : Nat} {S : World → Prop} {a : Act} (v : Value) (S' : World → Prop) (hk : kindOf L M k = 1) (hw : Region.wanted ⟨d, op, ty, pos, aft, g⟩ (yielded ops a.tmps) = true) (hcl : (M.any fun m => decide (k < m)) = true → Grows S) (hne : ∃ w, C w)
    (hG : ∀ x : Cls C, S x.wo → ∀ R : Value → World → Prop, (∀ w', C w' → S' w' → ((M.any fun m => decide (k < m)) = true → Kept F x.wo w') → R v w') → uponR P R ((execOp a.eval ⟨d, op, ty, pos, aft, g⟩).run P x.wo)) (h : wpQuiet P ops (fun w' => ∃ x : Cls C, w' = x.wo) (wpCh P ops (fun w' => ∃ x : Cls C, w' = x.wo) F L M Q l (k + 1) S') [⟨d, .move (.const v), 0, "", #[], none⟩] a) : wpCh P ops (fun w' => ∃ x : Cls C, w' = x.wo) F L M Q (⟨d, op, ty, pos, aft, g⟩ :: l) k S a :=
  wpCh_valp v S' hk hw hcl (hne.elim fun w h => ⟨w, cls_of h⟩) (fun w ⟨x, hx⟩ hS R hR => by
    subst hx
    exact hG x hS R fun w' h1 h2 h3 => hR w' (cls_of h1) h2 h3) h
/-- An operation whose value is known by a relation. -/
theorem wpCh_relp {L M : List Nat} {Q : (World → Prop) → Act → Prop} {l : List Oper} {d : Option Tmp} {op : Op} {ty : TypeId} {pos : String} {aft : Array Edge} {g : Option (Nat × Bool)} {k : Nat} {S : World → Prop} {a : Act} (G : Value → World → Prop) (hk : kindOf L M k = 1) (hw : Region.wanted ⟨d, op, ty, pos, aft, g⟩ (yielded ops a.tmps) = true) (hcl : (M.any fun m => decide (k < m)) = true → Grows S)
    (hG : ∀ w, C w → S w → ∀ R : Value → World → Prop, (∀ v w', C w' → G v w' → ((M.any fun m => decide (k < m)) = true → Kept F w w') → R v w') → uponR P R ((execOp a.eval ⟨d, op, ty, pos, aft, g⟩).run P w)) (h : ∀ v, (∃ w, C w ∧ G v w) → wpQuiet P ops C (wpCh P ops C F L M Q l (k + 1) (G v)) [⟨d, .move (.const v), 0, "", #[], none⟩] a) : wpCh P ops C F L M Q (⟨d, op, ty, pos, aft, g⟩ :: l) k S a :=
  wpCh_loud G hk hw hcl (fun w h1 h2 => hG w h1 h2 _ fun v w' h3 h4 h5 => ⟨h3, h4, h5⟩) (fun v hv => put_mv (hv.elim fun w h => ⟨w, h.1⟩) (h v hv))
theorem ext_grows {W : World} : Grows (fun w' => ∃ x : Ext W, w' = x.wo) := fun w o ⟨x, hx⟩ => ⟨⟨w.alloc o, by subst hx; exact x.below.alloc x.below.size _⟩, rfl⟩
theorem ext_drew {W : World} : ∃ x : Ext W, W.drew = x.wo := ⟨⟨_, (Below.refl _ _).drew⟩, rfl⟩
theorem kept_below {w w' : World} (h : Below w.heap.size w w') : Kept F w w' := fun b _ hb => h.block b hb
theorem kept_none {w w' : World} : Kept (fun _ => False) w w' := fun _ h _ => h.elim
end
end Go.Lx
