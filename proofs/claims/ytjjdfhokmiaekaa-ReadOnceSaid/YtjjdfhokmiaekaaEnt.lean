/-
  Entries as they lie in memory: confs in blocks that nobody writes, slices of entries, rows of entries that the call owns.
-/
import Derived.Test.YtjjdfhokmiaekaaOwn
import Derived.Test.YtjjdfhokmiaekaaConf
namespace Go.Proofs.Ytjjdfhokmiaekaa
open Go Go.RowKit Go.Lst Go.Lx

structure Ent where
  i : Int
  t : Int
  k : Int
  s : ByteArray
  c : List Int

/-- A block that nobody writes: it came in, or it is one of ints. -/
def Calm (B : Nat) (w : World) (g : Nat) : Prop := g < B ∨ ∃ cs fr, w.heap[g]? = some (.cells cs 3 fr)
/-- A conf that is kept. -/
structure Cf (B : Nat) (w : World) (v : Value) (xs : List Int) : Prop where
  n : Nums .i64 w v xs
  b : 0 < xs.length → ∀ g, v.ownBlock = some g → g < w.heap.size ∧ Calm B w g
/-- Blocks that nobody writes stay. -/
structure Calms (B : Nat) (w w' : World) : Prop where
  size : w.heap.size ≤ w'.heap.size
  block : ∀ g, g < w.heap.size → Calm B w g → w'.heap[g]? = w.heap[g]?
theorem Calms.refl (B : Nat) (w : World) : Calms B w w := ⟨Nat.le_refl _, fun _ _ _ => rfl⟩
theorem Calm.keep {B : Nat} {w w' : World} {g : Nat} (h : Calm B w g) (hk : w'.heap[g]? = w.heap[g]?) : Calm B w' g := h.imp id fun ⟨cs, fr, e⟩ => ⟨cs, fr, hk.trans e⟩
theorem Calms.trans {B : Nat} {a b c : World} (h : Calms B a b) (k : Calms B b c) : Calms B a c :=
  ⟨Nat.le_trans h.size k.size, fun g hg hc => (k.block g (Nat.lt_of_lt_of_le hg h.size) (hc.keep (h.block g hg hc))).trans (h.block g hg hc)⟩
theorem Calms.below {B : Nat} {w w' : World} (h : Below w.heap.size w w') : Calms B w w' := ⟨h.size, fun g hg _ => h.block g hg⟩
theorem Calms.stays {B : Nat} {w w' : World} {O : Nat → Prop} (h : Stays O w w') (ho : ∀ g, O g → g < w.heap.size → ¬ Calm B w g) : Calms B w w' := ⟨h.size, fun g hg hc => h.block g hg (fun e => ho g e hg hc)⟩
theorem nums_keepn {k : IntKind} {w w' : World} {v : Value} {xs : List Int} (h : Nums k w v xs) (hk : 0 < xs.length → ∀ g, v.ownBlock = some g → w'.heap[g]? = w.heap[g]?) : Nums k w' v xs := by
  rcases Nat.eq_zero_or_pos xs.length with h0 | h0
  · have e := List.eq_nil_of_length_eq_zero h0
    subst e
    obtain ⟨⟨p, c, h1, h2, h3, _⟩, hw⟩ := h
    exact ⟨⟨p, c, h1, h2, h3, fun i hi => by simp at hi⟩, hw⟩
  · exact h.keep (hk h0)
theorem Cf.keep {B : Nat} {w w' : World} {v : Value} {xs : List Int} (h : Cf B w v xs) (hk : Calms B w w') : Cf B w' v xs :=
  ⟨nums_keepn h.n fun h0 g hg => hk.block g (h.b h0 g hg).1 (h.b h0 g hg).2, fun h0 g hg => ⟨Nat.lt_of_lt_of_le (h.b h0 g hg).1 hk.size, (h.b h0 g hg).2.keep (hk.block g (h.b h0 g hg).1 (h.b h0 g hg).2)⟩⟩
theorem Cf.nil (B : Nat) (w : World) : Cf B w (.slice none 0 0) [] := ⟨Nums.nil _ _, fun _ g hg => by cases hg⟩
theorem Cf.own {B B' : Nat} {w : World} {v : Value} {xs : List Int} (h : w.ownsRow B' 3 1 v xs.length (xs.map fun x => .int .i64 x)) (hw : ∀ x ∈ xs, (Lit.int .i64 x).wf = true) : Cf B w v xs := by
  refine ⟨Nums.own h hw, fun _ g hg => ?_⟩
  rcases h.2 with ⟨rfl, _⟩ | ⟨g', cap, cur, rfl, hB, hh, r⟩
  · cases hg
  · cases hg
    exact ⟨heap_lt' hh, .inr ⟨_, _, hh⟩⟩

def entC (e : Ent) (cv : Value) : List Value := [.int .u64 e.i, .int .u64 e.t, .int .u8 e.k, .string e.s, cv]
/-- A slice of entries that is read. -/
def Ents (B : Nat) (w : World) (v : Value) (es : List Ent) : Prop :=
  ∃ p c, v = .slice p es.length c ∧ es.length ≤ c ∧ c ≤ maxLen ∧ ∀ j (h : j < es.length), ∃ a cv, p = some a ∧ (∀ m, m < 5 → w.cell? (a.add (j * 5 + m)) = (entC es[j] cv)[m]?) ∧ Cf B w cv es[j].c
/-- The cells of a row of entries. -/
def rowC : List Ent → List Value → List Value
  | e :: es, cv :: cvs => entC e cv ++ rowC es cvs
  | _, _ => []
theorem rowC_length : ∀ (es : List Ent) (cvs : List Value), cvs.length = es.length → (rowC es cvs).length = es.length * 5
  | [], [], _ => rfl
  | e :: es, cv :: cvs, h => by
    have := rowC_length es cvs (by simpa using h)
    simp only [rowC, entC, List.length_append, List.length_cons, List.length_nil, this]; omega
  | [], _ :: _, h => by simp at h
  | _ :: _, [], h => by simp at h
theorem rowC_append : ∀ (es : List Ent) (cvs : List Value) (e : Ent) (cv : Value), cvs.length = es.length → rowC (es ++ [e]) (cvs ++ [cv]) = rowC es cvs ++ entC e cv
  | [], [], e, cv, _ => by simp [rowC]
  | x :: es, y :: cvs, e, cv, h => by
    have := rowC_append es cvs e cv (by simpa using h)
    simp [rowC, this]
  | [], _ :: _, _, _, h => by simp at h
  | _ :: _, [], _, _, h => by simp at h
theorem rowC_at : ∀ (es : List Ent) (cvs : List Value) (h : cvs.length = es.length) (j : Nat) (hj : j < es.length) (m : Nat), m < 5 → (rowC es cvs)[j * 5 + m]? = (entC es[j] (cvs[j]'(by omega)))[m]?
  | e :: es, cv :: cvs, h, 0, _, m, hm => by
    simp only [rowC, Nat.zero_mul, Nat.zero_add, List.getElem_cons_zero]
    rw [List.getElem?_append_left (by simpa [entC] using hm)]
  | e :: es, cv :: cvs, h, j + 1, hj, m, hm => by
    have := rowC_at es cvs (by simpa using h) j (by simpa using hj) m hm
    simp only [rowC, List.getElem_cons_succ]
    rw [List.getElem?_append_right (by simp only [entC, List.length_cons, List.length_nil]; omega), ← this]
    congr 1
    simp only [entC, List.length_cons, List.length_nil]; omega
/-- A row of entries that the call owns. -/
def Row (B B0 : Nat) (w : World) (v : Value) (es : List Ent) : Prop :=
  ∃ cvs : List Value, cvs.length = es.length ∧ w.ownsRow B0 55 5 v es.length (rowC es cvs) ∧ ∀ j (h : j < es.length) (h' : j < cvs.length), Cf B w cvs[j] es[j].c
theorem Row.nil (B B0 : Nat) (w : World) : Row B B0 w (.slice none 0 0) [] := ⟨[], rfl, ⟨rfl, .inl ⟨rfl, rfl⟩⟩, fun j h => by simp at h⟩
theorem Row.ents {B B0 : Nat} {w : World} {v : Value} {es : List Ent} (h : Row B B0 w v es) : Ents B w v es := by
  obtain ⟨cvs, hl, hown, hc⟩ := h
  rcases hown.2 with ⟨rfl, h0⟩ | ⟨g, cap, cur, rfl, hB, hh, hn, hm, hsz, htk⟩
  · exact ⟨none, 0, by rw [h0], by omega, by unfold maxLen; omega, fun j hj => by omega⟩
  · refine ⟨some ⟨g, 0, none⟩, cap, rfl, hn, hm, fun j hj => ⟨_, cvs[j]'(by omega), rfl, fun m hm5 => ?_, hc j hj (by omega)⟩⟩
    rw [← rowC_at es cvs hl j hj m hm5, ← htk, List.getElem?_take, if_pos (by omega)]
    have e : (Addr.add ⟨g, 0, none⟩ (j * 5 + m)) = ⟨g, j * 5 + m, none⟩ := by unfold Addr.add; split <;> simp_all
    rw [e]
    simp [World.cell?, hh]
theorem Row.keep {B B0 : Nat} {w w' : World} {v : Value} {es : List Ent} (h : Row B B0 w v es) (hk : Calms B w w') (ho : ∀ g, v.ownBlock = some g → w'.heap[g]? = w.heap[g]?) : Row B B0 w' v es := by
  obtain ⟨cvs, hl, hown, hc⟩ := h
  exact ⟨cvs, hl, own_keep hown ho, fun j h h' => (hc j h h').keep hk⟩
theorem Row.below {B B0 : Nat} {w w' : World} {v : Value} {es : List Ent} (h : Row B B0 w v es) (hb : Below w.heap.size w w') : Row B B0 w' v es :=
  h.keep (Calms.below hb) fun g hg => by obtain ⟨cvs, hl, hown, hc⟩ := h; exact hb.block g (own_block hown hg).2
/-- A slice of entries without room (xs[:n:n]); it may lie anywhere in its block. -/
def Full (B : Nat) (w : World) (v : Value) (es : List Ent) : Prop :=
  (∃ p, v = .slice p es.length es.length) ∧ Ents B w v es ∧ ∀ g, v.ownBlock = some g → g < w.heap.size
theorem cell_same {w w' : World} {p : Addr} (h : w'.heap[p.block]? = w.heap[p.block]?) : w'.cell? p = w.cell? p := by unfold World.cell?; rw [h]
theorem Ents.keep {B : Nat} {w w' : World} {v : Value} {es : List Ent} (h : Ents B w v es) (hk : Calms B w w') (ho : ∀ g, v.ownBlock = some g → w'.heap[g]? = w.heap[g]?) : Ents B w' v es := by
  obtain ⟨p, c, rfl, h1, h2, h3⟩ := h
  refine ⟨p, c, rfl, h1, h2, fun j hj => ?_⟩
  obtain ⟨a, cv, rfl, h4, h5⟩ := h3 j hj
  refine ⟨a, cv, rfl, fun m hm => ?_, h5.keep hk⟩
  rw [← h4 m hm]
  refine cell_same ?_
  have e : (a.add (j * 5 + m)).block = a.block := by unfold Addr.add; split <;> rfl
  rw [e]
  exact ho a.block rfl
theorem Ents.keepn {B : Nat} {w w' : World} {v : Value} {es : List Ent} (h : Ents B w v es) (hk : Calms B w w') (ho : 0 < es.length → ∀ g, v.ownBlock = some g → w'.heap[g]? = w.heap[g]?) : Ents B w' v es := by
  rcases Nat.eq_zero_or_pos es.length with h0 | h0
  · have e := List.eq_nil_of_length_eq_zero h0
    subst e
    obtain ⟨p, c, h1, h2, h3, _⟩ := h
    exact ⟨p, c, h1, h2, h3, fun i hi => by simp at hi⟩
  · exact h.keep hk (ho h0)
theorem Full.keep {B : Nat} {w w' : World} {v : Value} {es : List Ent} (h : Full B w v es) (hk : Calms B w w') (ho : ∀ g, v.ownBlock = some g → w'.heap[g]? = w.heap[g]?) : Full B w' v es :=
  ⟨h.1, h.2.1.keep hk ho, fun g hg => Nat.lt_of_lt_of_le (h.2.2 g hg) hk.size⟩
/-- A log's entries: a row of its own, or one without room. -/
def Rw (B B0 : Nat) (w : World) (v : Value) (es : List Ent) : Prop := Row B B0 w v es ∨ Full B w v es
theorem Rw.ents {B B0 : Nat} {w : World} {v : Value} {es : List Ent} (h : Rw B B0 w v es) : Ents B w v es := h.elim Row.ents fun h => h.2.1
theorem Rw.keep {B B0 : Nat} {w w' : World} {v : Value} {es : List Ent} (h : Rw B B0 w v es) (hk : Calms B w w') (ho : ∀ g, v.ownBlock = some g → w'.heap[g]? = w.heap[g]?) : Rw B B0 w' v es :=
  h.elim (fun h => .inl (h.keep hk ho)) fun h => .inr (h.keep hk ho)
theorem Rw.lt {B B0 : Nat} {w : World} {v : Value} {es : List Ent} (h : Rw B B0 w v es) : ∀ g, v.ownBlock = some g → g < w.heap.size := fun g hg => h.elim (fun ⟨_, _, hown, _⟩ => (own_block hown hg).2) fun h => h.2.2 g hg
theorem Rw.below {B B0 : Nat} {w w' : World} {v : Value} {es : List Ent} (h : Rw B B0 w v es) (hb : Below w.heap.size w w') : Rw B B0 w' v es :=
  h.keep (Calms.below hb) fun g hg => hb.block g (h.lt g hg)
end Go.Proofs.Ytjjdfhokmiaekaa
