/-
  Reads that wait: how they lie in memory; what is answered (plain).
-/
import Derived.Test.YtjjdfhokmiaekaaEnt
import Derived.Test.YtjjdfhokmiaekaaConf3
import Derived.Test.YtjjdfhokmiaekaaBlk
namespace Go.Proofs.Ytjjdfhokmiaekaa
open Go Go.RowKit Go.Lst Go.Lx Go.Maps

structure Wt where
  id : Int
  ix : Int
  r : Int
  c : List Int
def wtC (e : Wt) (cv : Value) : List Value := [.int .u64 e.id, .int .u64 e.ix, .int .u64 e.r, cv]
def wtV (e : Wt) (cv : Value) : Value := .agg #[.int .u64 e.id, .int .u64 e.ix, .int .u64 e.r, cv]
def rowW : List Wt → List Value → List Value
  | e :: es, cv :: cvs => wtC e cv ++ rowW es cvs
  | _, _ => []
theorem rowW_length : ∀ (es : List Wt) (cvs : List Value), cvs.length = es.length → (rowW es cvs).length = es.length * 4
  | [], [], _ => rfl
  | e :: es, cv :: cvs, h => by
    have := rowW_length es cvs (by simpa using h)
    simp only [rowW, wtC, List.length_append, List.length_cons, List.length_nil, this]; omega
  | [], _ :: _, h => by simp at h
  | _ :: _, [], h => by simp at h
theorem rowW_append : ∀ (es : List Wt) (cvs : List Value) (e : Wt) (cv : Value), cvs.length = es.length → rowW (es ++ [e]) (cvs ++ [cv]) = rowW es cvs ++ wtC e cv
  | [], [], e, cv, _ => by simp [rowW]
  | x :: es, y :: cvs, e, cv, h => by
    have := rowW_append es cvs e cv (by simpa using h)
    simp [rowW, this]
  | [], _ :: _, _, _, h => by simp at h
  | _ :: _, [], _, _, h => by simp at h
theorem rowW_at : ∀ (es : List Wt) (cvs : List Value) (h : cvs.length = es.length) (j : Nat) (hj : j < es.length) (m : Nat), m < 4 → (rowW es cvs)[j * 4 + m]? = (wtC es[j] (cvs[j]'(by omega)))[m]?
  | e :: es, cv :: cvs, h, 0, _, m, hm => by
    simp only [rowW, Nat.zero_mul, Nat.zero_add, List.getElem_cons_zero]
    rw [List.getElem?_append_left (by simpa [wtC] using hm)]
  | e :: es, cv :: cvs, h, j + 1, hj, m, hm => by
    have := rowW_at es cvs (by simpa using h) j (by simpa using hj) m hm
    simp only [rowW, List.getElem_cons_succ]
    rw [List.getElem?_append_right (by simp only [wtC, List.length_cons, List.length_nil]; omega), ← this]
    congr 1
    simp only [wtC, List.length_cons, List.length_nil]; omega
/-- A row of waits that the call owns. -/
def WRow (B0 : Nat) (w : World) (v : Value) (l : List Wt) : Prop :=
  ∃ cvs : List Value, cvs.length = l.length ∧ w.ownsRow B0 109 4 v l.length (rowW l cvs) ∧ ∀ j (h : j < l.length) (h' : j < cvs.length), Cf 0 w cvs[j] l[j].c
theorem WRow.nil (B0 : Nat) (w : World) : WRow B0 w (.slice none 0 0) [] := ⟨[], rfl, ⟨rfl, .inl ⟨rfl, rfl⟩⟩, fun j h => by simp at h⟩
theorem WRow.block {B0 : Nat} {w : World} {v : Value} {l : List Wt} (h : WRow B0 w v l) {k : Nat} (hk : v.ownBlock = some k) : B0 ≤ k ∧ k < w.heap.size := by
  obtain ⟨cvs, hl, hown, hc⟩ := h
  exact own_block hown hk
theorem WRow.keep {B0 : Nat} {w w' : World} {v : Value} {l : List Wt} (h : WRow B0 w v l) (hk : Calms 0 w w') (ho : ∀ g, v.ownBlock = some g → w'.heap[g]? = w.heap[g]?) : WRow B0 w' v l := by
  obtain ⟨cvs, hl, hown, hc⟩ := h
  exact ⟨cvs, hl, own_keep hown ho, fun j h h' => (hc j h h').keep hk⟩
theorem WRow.below {B0 : Nat} {w w' : World} {v : Value} {l : List Wt} (h : WRow B0 w v l) (hb : Below w.heap.size w w') : WRow B0 w' v l :=
  h.keep (Calms.below hb) fun g hg => hb.block g (h.block hg).2
theorem WRow.mono {B0 B1 : Nat} {w : World} {v : Value} {l : List Wt} (h : WRow B0 w v l) (hb : B1 ≤ B0) : WRow B1 w v l := by
  obtain ⟨cvs, hl, hown, hc⟩ := h
  exact ⟨cvs, hl, own_mono hown hb, hc⟩
theorem WRow.parts {B0 : Nat} {w : World} {v : Value} {l : List Wt} (h : WRow B0 w v l) : ∃ p c, v = .slice p l.length c ∧ l.length ≤ c ∧ c ≤ maxLen := by
  obtain ⟨cvs, hl, hown, hc⟩ := h
  rcases hown.2 with ⟨rfl, h0⟩ | ⟨g, cap, cur, rfl, hB, hh, hn, hm, hsz, htk⟩
  · exact ⟨none, 0, by rw [h0], by omega, by unfold maxLen; omega⟩
  · exact ⟨_, cap, rfl, hn, hm⟩
theorem WRow.get {B0 : Nat} {w : World} {v : Value} {l : List Wt} (h : WRow B0 w v l) (j : Nat) (hj : j < l.length) : ∃ a c cv, v = .slice (some a) l.length c ∧ w.cell? (a.add (j * 4)) = some (.int .u64 l[j].id) ∧ w.cell? ⟨(a.add (j * 4)).block, (a.add (j * 4)).off + 1, none⟩ = some (.int .u64 l[j].ix) ∧
    w.cell? ⟨(a.add (j * 4)).block, (a.add (j * 4)).off + 2, none⟩ = some (.int .u64 l[j].r) ∧ w.cell? ⟨(a.add (j * 4)).block, (a.add (j * 4)).off + 3, none⟩ = some cv ∧ Cf 0 w cv l[j].c := by
  obtain ⟨cvs, hl, hown, hc⟩ := h
  rcases hown.2 with ⟨rfl, h0⟩ | ⟨g, cap, cur, rfl, hB, hh, hn, hm, hsz, htk⟩
  · omega
  · have ha : ∀ m, m < 4 → w.cell? ⟨g, j * 4 + m, none⟩ = (wtC l[j] (cvs[j]'(by omega)))[m]? := fun m hm4 => by
      rw [← rowW_at l cvs hl j hj m hm4, ← htk, List.getElem?_take, if_pos (by omega)]
      simp [World.cell?, hh]
    have e : (Addr.add ⟨g, 0, none⟩ (j * 4)) = ⟨g, j * 4, none⟩ := by unfold Addr.add; split <;> simp_all
    refine ⟨⟨g, 0, none⟩, cap, cvs[j]'(by omega), rfl, ?_, ?_, ?_, ?_, hc j hj (by omega)⟩
    · rw [e]; exact ha 0 (by omega)
    · rw [e]; exact ha 1 (by omega)
    · rw [e]; exact ha 2 (by omega)
    · rw [e]; exact ha 3 (by omega)
/-- The map of what others have heard. -/
def HMap (w : World) (b n : Nat) (h : Int → Int) : Prop := ∃ D : DataW Unit, w.ownsMap Try.prog 3 (plainElem Try.prog 32) b n D ∧ IsMap D ∧
  ∀ x : Int, D.atKey (.int .i64 x) (.lit (.int .u64 0)) = .lit (.int .u64 (h x))
theorem HMap.made (w : World) : HMap (w.alloc (.map #[] 0)) w.heap.size 0 (fun _ => 0) := ⟨_, World.ownsMap_made _ _ _ _, ⟨_, rfl⟩, fun x => rfl⟩
theorem HMap.keep {w w' : World} {b n : Nat} {h : Int → Int} (hm : HMap w b n h) (hb : w'.heap[b]? = w.heap[b]?) : HMap w' b n h := by
  obtain ⟨D, h1, h2, h3⟩ := hm
  obtain ⟨es, cl, e1, e2, e3, e4⟩ := h1
  exact ⟨D, ⟨es, cl, hb.trans e1, e2, e3, e4⟩, h2, h3⟩
theorem HMap.isMap {w : World} {b n : Nat} {h : Int → Int} (hm : HMap w b n h) : ∃ es cl, w.heap[b]? = some (.map es cl) := by
  obtain ⟨D, ⟨es, cl, e1, _⟩, _⟩ := hm
  exact ⟨es, cl, e1⟩
structure RS where
  me : Int
  rd : Int
  l : List Wt
  h : Int → Int
structure RdAt (B0 : Nat) (w : World) (b hb n : Nat) (wv : Value) (S : RS) : Prop where
  blk : w.heap[b]? = some (.cells #[.int .i64 S.me, .int .u64 S.rd, wv, .map (some hb)] 106 (0, 0))
  row : WRow B0 w wv S.l
  map : HMap w hb n S.h
  lo : B0 ≤ b ∧ B0 ≤ hb
theorem RdAt.lt {B0 : Nat} {w : World} {b hb n : Nat} {wv : Value} {S : RS} (h : RdAt B0 w b hb n wv S) : b < w.heap.size := heap_lt' h.blk
theorem RdAt.hlt {B0 : Nat} {w : World} {b hb n : Nat} {wv : Value} {S : RS} (h : RdAt B0 w b hb n wv S) : hb < w.heap.size := by
  obtain ⟨es, cl, e⟩ := h.map.isMap
  exact heap_lt' e
theorem RdAt.keep {B0 : Nat} {w w' : World} {b hb n : Nat} {wv : Value} {S : RS} (h : RdAt B0 w b hb n wv S) (h1 : w'.heap[b]? = w.heap[b]?) (h2 : ∀ k, wv.ownBlock = some k → w'.heap[k]? = w.heap[k]?) (h3 : w'.heap[hb]? = w.heap[hb]?) (hk : Calms 0 w w') : RdAt B0 w' b hb n wv S :=
  ⟨h1.trans h.blk, h.row.keep hk h2, h.map.keep h3, h.lo⟩
theorem RdAt.below {B0 : Nat} {w w' : World} {b hb n : Nat} {wv : Value} {S : RS} (h : RdAt B0 w b hb n wv S) (hl : Below w.heap.size w w') : RdAt B0 w' b hb n wv S :=
  h.keep (hl.block _ h.lt) (fun k hk => hl.block k (h.row.block hk).2) (hl.block _ h.hlt) (Calms.below hl)
theorem RdAt.isBlk {B0 : Nat} {w : World} {b hb n : Nat} {wv : Value} {S : RS} (h : RdAt B0 w b hb n wv S) : Blk w b [.int .i64 S.me, .int .u64 S.rd, wv, .map (some hb)] := ⟨_, h.blk⟩
/-- The head alone: whatever the waits are. -/
structure HdAt (w : World) (b hb n : Nat) (S : RS) : Prop where
  blk : ∃ wv, w.heap[b]? = some (.cells #[.int .i64 S.me, .int .u64 S.rd, wv, .map (some hb)] 106 (0, 0))
  map : HMap w hb n S.h
theorem RdAt.hd {B0 : Nat} {w : World} {b hb n : Nat} {wv : Value} {S : RS} (h : RdAt B0 w b hb n wv S) : HdAt w b hb n S := ⟨⟨wv, h.blk⟩, h.map⟩
theorem HdAt.keep {w w' : World} {b hb n : Nat} {S : RS} (h : HdAt w b hb n S) (h1 : w'.heap[b]? = w.heap[b]?) (h3 : w'.heap[hb]? = w.heap[hb]?) : HdAt w' b hb n S := by
  obtain ⟨⟨wv, e⟩, hm⟩ := h
  exact ⟨⟨wv, h1.trans e⟩, hm.keep h3⟩
theorem HdAt.lt {w : World} {b hb n : Nat} {S : RS} (h : HdAt w b hb n S) : b < w.heap.size ∧ hb < w.heap.size := by
  obtain ⟨⟨wv, e⟩, hm⟩ := h
  obtain ⟨es, cl, e2⟩ := hm.isMap
  exact ⟨heap_lt' e, heap_lt' e2⟩
theorem HdAt.below {w w' : World} {b hb n : Nat} {S : RS} (h : HdAt w b hb n S) (hl : Below w.heap.size w w') : HdAt w' b hb n S := h.keep (hl.block _ h.lt.1) (hl.block _ h.lt.2)
theorem HdAt.isBlk {w : World} {b hb n : Nat} {S : RS} (h : HdAt w b hb n S) : ∃ wv, Blk w b [.int .i64 S.me, .int .u64 S.rd, wv, .map (some hb)] := by
  obtain ⟨⟨wv, e⟩, hm⟩ := h
  exact ⟨wv, _, e⟩
/-- None of the three is another, or one of ints. -/
theorem RdAt.apart {B0 : Nat} {w : World} {b hb n : Nat} {wv : Value} {S : RS} (h : RdAt B0 w b hb n wv S) : b ≠ hb ∧ wv.ownBlock ≠ some b ∧ wv.ownBlock ≠ some hb ∧ ¬ Calm 0 w b ∧ ¬ Calm 0 w hb ∧ ∀ k, wv.ownBlock = some k → ¬ Calm 0 w k := by
  obtain ⟨es, cl, e⟩ := h.map.isMap
  have hb1 := h.blk
  obtain ⟨cvs, hl, hown, hc⟩ := h.row
  refine ⟨fun e1 => ?_, fun e1 => ?_, fun e1 => ?_, ?_, ?_, fun k hk => ?_⟩
  · subst e1; rw [e] at hb1; cases hb1
  · rcases hown.2 with ⟨rfl, _⟩ | ⟨g, cap, cur, rfl, hB, hh, r⟩
    · cases e1
    · cases e1
      dsimp only at hb1
      rw [hh] at hb1
      injection hb1 with e2
      injection e2 with _ e3 _
      exact absurd e3 (by decide)
  · rcases hown.2 with ⟨rfl, _⟩ | ⟨g, cap, cur, rfl, hB, hh, r⟩
    · cases e1
    · cases e1
      dsimp only at e
      rw [hh] at e
      cases e
  · rintro (hlt | ⟨cs, fr, e1⟩)
    · omega
    · rw [hb1] at e1
      injection e1 with e2
      injection e2 with _ e3 _
      exact absurd e3 (by decide)
  · rintro (hlt | ⟨cs, fr, e1⟩)
    · omega
    · rw [e] at e1; cases e1
  · rcases hown.2 with ⟨rfl, _⟩ | ⟨g, cap, cur, rfl, hB, hh, r⟩
    · cases hk
    · cases hk
      rintro (hlt | ⟨cs, fr, e1⟩)
      · omega
      · dsimp only at e1
        rw [hh] at e1
        injection e1 with e2
        injection e2 with _ e3 _
        exact absurd e3 (by decide)

/-! What is answered. -/
def askE (S : RS) (id commit : Int) (c : List Int) : Int := if may c = false ∨ 281474976710656 < commit then 2 else if S.l.any (fun w => w.id == id) = true then 7 else if 256 ≤ S.l.length then 6 else 0
def askS (S : RS) (id commit : Int) (c : List Int) : RS := if askE S id commit c = 0 then { S with rd := S.rd + 1, l := S.l ++ [⟨id, commit, S.rd + 1, c⟩] } else S
def ackE (S : RS) (f : Int) : Int := if f < 1 ∨ 64 < f ∨ f = S.me then 2 else 0
def ackS (S : RS) (f r : Int) : RS := if ackE S f = 0 ∧ r ≤ S.rd then { S with h := fun x => if x = f then max (S.h f) r else S.h x } else S
def sureB (S : RS) (w : Wt) : Bool := quorum (w.c.filter fun n => decide (n = S.me) || decide (w.r ≤ S.h n)) w.c
def goesB (S : RS) (ap : Int) (w : Wt) : Bool := decide (w.ix ≤ ap) && sureB S w
end Go.Proofs.Ytjjdfhokmiaekaa
