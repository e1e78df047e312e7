/-
  The rows of ElectOne: votes, tallies, terms; what a stand, a grant, a vote leave.
-/
import Derived.Test.YtjjdfhokmiaekaaElOne1
import Derived.Test.YtjjdfhokmiaekaaElOneMath
import Derived.Test.YtjjdfhokmiaekaaBlk
import Derived.OwnWalk
namespace Go.Proofs.Ytjjdfhokmiaekaa
open Go.RowKit Go.Lst Go.Lx

def Arr (w : World) (b n : Nat) (f : Nat → Value) : Prop := Blk w b ((List.range n).map f)
theorem Arr.cell {w : World} {b n : Nat} {f : Nat → Value} (h : Arr w b n f) {i : Nat} (hi : i < n) : w.cell? ⟨b, i, none⟩ = some (f i) := Blk.cell h i (by simp [List.getElem?_range hi])
theorem Arr.frz {w : World} {b n : Nat} {f : Nat → Value} (h : Arr w b n f) (i : Nat) : w.frozen? ⟨b, i, none⟩ = false := Blk.frz h i
theorem Arr.congr {w : World} {b n : Nat} {f g : Nat → Value} (h : Arr w b n f) (hfg : ∀ i, i < n → f i = g i) : Arr w b n g := by
  unfold Arr at h ⊢
  rwa [List.map_congr_left (fun i hi => hfg i (List.mem_range.1 hi))] at h
theorem Arr.put {w : World} {b n : Nat} {f : Nat → Value} (h : Arr w b n f) (i : Nat) (v : Value) : Arr (w.setCell ⟨b, i, none⟩ v) b n (upd f i v) := by
  have := Blk.put h i v
  have e : ((List.range n).map f).set i v = (List.range n).map (upd f i v) := by
    refine List.ext_getElem (by simp) fun j h1 h2 => ?_
    simp only [List.getElem_set, List.getElem_map, List.getElem_range, upd]
    by_cases e : i = j
    · subst e; simp
    · rw [if_neg e, if_neg (Ne.symm e)]
  rw [e] at this
  exact this
theorem Arr.keep {w w' : World} {b n : Nat} {f : Nat → Value} (h : Arr w b n f) (hb : w'.heap[b]? = w.heap[b]?) : Arr w' b n f := by
  obtain ⟨T, h1⟩ := h
  exact ⟨T, hb.trans h1⟩
theorem Arr.lt {w : World} {b n : Nat} {f : Nat → Value} (h : Arr w b n f) : b < w.heap.size := Blk.lt h
theorem Arr.made {w : World} {B : Nat} {e : TypeId} {size n g : Nat} {z : Array Value} {f : Nat → Value} (h : w.ownsRow B e size (.slice (some ⟨g, 0, none⟩) n n) n (madeCells z (n * size)).toList) (hf : ∀ i, i < n * size → z[i % z.size]! = f i) : Arr w g (n * size) f ∧ B ≤ g := by
  rcases h.2 with ⟨e1, _⟩ | ⟨g', cap, cur, e1, hB, hh, hn, hc, hcs, htk⟩
  · cases e1
  · injection e1 with e1 e2 e3
    injection e1 with e1
    injection e1 with e1 _ _
    subst e1 e3
    refine ⟨⟨e, ?_⟩, hB⟩
    have hl : cur.toList = (List.range (n * size)).map f := by
      rw [List.take_of_length_le (by simp [hcs])] at htk
      rw [htk]
      unfold madeCells
      refine List.ext_getElem (by simp) fun j h1 h2 => ?_
      simp only [Array.toList_map, List.getElem_map, Array.getElem_toList, Array.getElem_range, List.getElem_range]
      exact hf j (by simpa using h2)
    rw [← hl]
    exact hh
def vf (V : Nat → Int × Int) (i : Nat) : Value := if i % 2 = 0 then .int .u64 (V (i / 2)).1 else .int .i64 (V (i / 2)).2
theorem vf_even (V : Nat → Int × Int) (k : Nat) : vf V (k * 2) = .int .u64 (V k).1 := by
  unfold vf; rw [if_pos (by omega), show k * 2 / 2 = k by omega]
theorem vf_odd (V : Nat → Int × Int) (k : Nat) : vf V (k * 2 + 1) = .int .i64 (V k).2 := by
  unfold vf; rw [if_neg (by omega), show (k * 2 + 1) / 2 = k by omega]
theorem vf_put (V : Nat → Int × Int) (j : Nat) (x y : Int) (i : Nat) : upd (upd (vf V) (j * 2) (.int .u64 x)) (j * 2 + 1) (.int .i64 y) i = vf (upd V j (x, y)) i := by
  unfold upd
  by_cases h1 : i = j * 2 + 1
  · subst h1; rw [if_pos rfl, vf_odd, if_pos rfl]
  · rw [if_neg h1]
    by_cases h2 : i = j * 2
    · subst h2; rw [if_pos rfl, vf_even, if_pos rfl]
    · rw [if_neg h2]; unfold vf; dsimp only; rw [if_neg (show ¬ i / 2 = j by omega)]
def kf (K : Nat → Option (Nat × Nat)) (i : Nat) : Value := match K i with | none => .pointer none | some (_, b) => .pointer (some ⟨b, 0, none⟩)
def tf (T : Nat → Int) (i : Nat) : Value := .int .u64 (T i)
theorem kf_put (K : Nat → Option (Nat × Nat)) (j lo b : Nat) (i : Nat) : upd (kf K) j (.pointer (some ⟨b, 0, none⟩)) i = kf (upd K j (some (lo, b))) i := by
  unfold upd kf
  by_cases h : i = j
  · simp [h]
  · simp [h]
theorem tf_put (T : Nat → Int) (j : Nat) (x : Int) (i : Nat) : upd (tf T) j (.int .u64 x) i = tf (upd T j x) i := by
  unfold upd tf
  by_cases h : i = j
  · simp [h]
  · simp [h]

/-- What the loop keeps. The three rows lie below hi, each tally at or above it. -/
structure El (w : World) (vb tb mb hi : Nat) (conf : List Int) (V : Nat → Int × Int) (T : Nat → Int) (K : Nat → Option (Nat × Nat)) (S : Nat → List Nat) : Prop where
  inv : OneInv conf.length conf V T S
  av : Arr w vb (conf.length * 2) (vf V)
  ak : Arr w tb conf.length (kf K)
  am : Arr w mb conf.length (tf T)
  tal : ∀ k, k < conf.length → T k ≠ 0 → ∃ lo b, K k = some (lo, b) ∧ TalL w lo b (T k) conf (S k)
  up : ∀ k lo b, K k = some (lo, b) → hi ≤ lo
  non : ∀ k, ¬(k < conf.length ∧ T k ≠ 0) → K k = none
  apart : ∀ k k' lo b lo' b', k ≠ k' → K k = some (lo, b) → K k' = some (lo', b') → b < lo' ∨ b' < lo
  off : vb < hi ∧ tb < hi ∧ mb < hi ∧ vb ≠ tb ∧ vb ≠ mb ∧ tb ≠ mb
theorem El.keep {w w' : World} {vb tb mb hi : Nat} {conf : List Int} {V : Nat → Int × Int} {T : Nat → Int} {K : Nat → Option (Nat × Nat)} {S : Nat → List Nat} (h : El w vb tb mb hi conf V T K S) (hk : ∀ k, k < w.heap.size → w'.heap[k]? = w.heap[k]?) : El w' vb tb mb hi conf V T K S := by
  refine ⟨h.inv, h.av.keep (hk _ h.av.lt), h.ak.keep (hk _ h.ak.lt), h.am.keep (hk _ h.am.lt), fun k hk1 hT => ?_, h.up, h.non, h.apart, h.off⟩
  obtain ⟨lo, b, h1, h2⟩ := h.tal k hk1 hT
  exact ⟨lo, b, h1, h2.keep fun j _ hj => hk j (by have := h2.t.lt; omega)⟩
theorem El.below {w w' : World} {vb tb mb hi : Nat} {conf : List Int} {V : Nat → Int × Int} {T : Nat → Int} {K : Nat → Option (Nat × Nat)} {S : Nat → List Nat} (h : El w vb tb mb hi conf V T K S) (hb : Below w.heap.size w w') : El w' vb tb mb hi conf V T K S := h.keep fun k hk => hb.block k hk
/-- A vote that goes to who's tally. -/
theorem El.vote {w w' : World} {vb tb mb hi : Nat} {conf : List Int} {V : Nat → Int × Int} {T : Nat → Int} {K : Nat → Option (Nat × Nat)} {S : Nat → List Nat} (h : El w vb tb mb hi conf V T K S) {who lo b : Nat} (hw : who < conf.length) (hK : K who = some (lo, b)) {s : List Nat} (hl : TalL w' lo b (T who) conf s) (hg : w.grownBy w' (some b))
    (hin : OneInv conf.length conf V T (upd S who s)) : El w' vb tb mb hi conf V T K (upd S who s) := by
  have hu := h.up who lo b hK
  have hle := hl.le
  obtain ⟨o1, o2, o3, o4, o5, o6⟩ := h.off
  have hblk : ∀ k, k < w.heap.size → k ≠ b → w'.heap[k]? = w.heap[k]? := fun k hk hne => hg.block k hk (fun e => hne (by cases e; rfl))
  refine ⟨hin, h.av.keep (hblk _ h.av.lt (by omega)), h.ak.keep (hblk _ h.ak.lt (by omega)), h.am.keep (hblk _ h.am.lt (by omega)), fun k hk1 hT => ?_, h.up, h.non, h.apart, h.off⟩
  by_cases e : k = who
  · subst e; rw [upd_same]; exact ⟨lo, b, hK, hl⟩
  · rw [upd_other _ _ e]
    obtain ⟨lo', b', h1, h2⟩ := h.tal k hk1 hT
    refine ⟨lo', b', h1, h2.keep fun j j1 j2 => hblk j (by have := h2.t.lt; omega) (fun e2 => ?_)⟩
    have := h.apart k who lo' b' lo b e h1 hK
    omega
/-- A node's new vote is stored. -/
theorem El.store {w : World} {vb tb mb hi : Nat} {conf : List Int} {V : Nat → Int × Int} {T : Nat → Int} {K : Nat → Option (Nat × Nat)} {S : Nat → List Nat} (h : El w vb tb mb hi conf V T K S) (to : Nat) (x y : Int) (hi' : OneInv conf.length conf (upd V to (x, y)) T S) :
    El ((w.setCell ⟨vb, to * 2, none⟩ (.int .u64 x)).setCell ⟨vb, to * 2 + 1, none⟩ (.int .i64 y)) vb tb mb hi conf (upd V to (x, y)) T K S := by
  obtain ⟨o1, o2, o3, o4, o5, o6⟩ := h.off
  have hblk : ∀ k, k ≠ vb → ((w.setCell ⟨vb, to * 2, none⟩ (.int .u64 x)).setCell ⟨vb, to * 2 + 1, none⟩ (.int .i64 y)).heap[k]? = w.heap[k]? := fun k hne => (Below.heap_setCell _ _ _ _ hne).trans (Below.heap_setCell _ _ _ _ hne)
  refine ⟨hi', ((h.av.put _ _).put _ _).congr (fun i _ => vf_put V to x y i), h.ak.keep (hblk _ (Ne.symm o4)), h.am.keep (hblk _ (Ne.symm o5)), fun k hk1 hT => ?_, h.up, h.non, h.apart, h.off⟩
  obtain ⟨lo, b, h1, h2⟩ := h.tal k hk1 hT
  have := h.up k lo b h1
  exact ⟨lo, b, h1, h2.keep fun j j1 j2 => hblk j (by omega)⟩
/-- A node stands: its vote, its tally, its term are stored, and it votes for itself. -/
theorem El.stand {w : World} {vb tb mb hi : Nat} {conf : List Int} {V : Nat → Int × Int} {T : Nat → Int} {K : Nat → Option (Nat × Nat)} {S : Nat → List Nat} (h : El w vb tb mb hi conf V T K S) (hm : may conf = true) {who lo b : Nat} (hw : who < conf.length) {term : Int} (h1 : 1 ≤ term) (h2 : term ≤ 20) (hV : (V who).1 < term)
    (hT : TalL w lo b term conf (List.replicate 65 0)) (hhi : hi ≤ lo) (hlo : ∀ k lo' b', K k = some (lo', b') → b' < lo) :
    TalL ((((w.setCell ⟨vb, who * 2, none⟩ (.int .u64 term)).setCell ⟨vb, who * 2 + 1, none⟩ (.int .i64 (conf.getD who 0))).setCell ⟨tb, who, none⟩ (.pointer (some ⟨b, 0, none⟩))).setCell ⟨mb, who, none⟩ (.int .u64 term)) lo b term conf (List.replicate 65 0) ∧
    ∀ w', TalL w' lo b term conf (Go.Proofs.Ytjjdfhokmiaekaa.vote term conf (List.replicate 65 0) (conf.getD who 0) term true).2 →
      ((((w.setCell ⟨vb, who * 2, none⟩ (.int .u64 term)).setCell ⟨vb, who * 2 + 1, none⟩ (.int .i64 (conf.getD who 0))).setCell ⟨tb, who, none⟩ (.pointer (some ⟨b, 0, none⟩))).setCell ⟨mb, who, none⟩ (.int .u64 term)).grownBy w' (some b) →
      El w' vb tb mb hi conf (upd V who (term, conf.getD who 0)) (upd T who term) (upd K who (some (lo, b))) (upd S who (Go.Proofs.Ytjjdfhokmiaekaa.vote term conf (List.replicate 65 0) (conf.getD who 0) term true).2) := by
  obtain ⟨o1, o2, o3, o4, o5, o6⟩ := h.off
  have hle := hT.le
  obtain ⟨W, hW⟩ : ∃ W, (((w.setCell ⟨vb, who * 2, none⟩ (.int .u64 term)).setCell ⟨vb, who * 2 + 1, none⟩ (.int .i64 (conf.getD who 0))).setCell ⟨tb, who, none⟩ (.pointer (some ⟨b, 0, none⟩))).setCell ⟨mb, who, none⟩ (.int .u64 term) = W := ⟨_, rfl⟩
  have hblk : ∀ k, k ≠ vb → k ≠ tb → k ≠ mb → W.heap[k]? = w.heap[k]? := fun k n1 n2 n3 => by
    rw [← hW]
    exact (Below.heap_setCell _ _ _ _ n3).trans ((Below.heap_setCell _ _ _ _ n2).trans ((Below.heap_setCell _ _ _ _ n1).trans (Below.heap_setCell _ _ _ _ n1)))
  have hsz : W.heap.size = w.heap.size := by rw [← hW]; simp
  have aV : Arr W vb (conf.length * 2) (vf (upd V who (term, conf.getD who 0))) := by
    rw [← hW]
    refine Arr.keep (Arr.keep (((h.av.put _ _).put _ _).congr (fun i _ => vf_put V who term _ i)) (Below.heap_setCell _ _ _ _ o4)) (Below.heap_setCell _ _ _ _ o5)
  have aK : Arr W tb conf.length (kf (upd K who (some (lo, b)))) := by
    rw [← hW]
    refine Arr.keep (((h.ak.keep (w' := (w.setCell ⟨vb, who * 2, none⟩ (.int .u64 term)).setCell ⟨vb, who * 2 + 1, none⟩ (.int .i64 (conf.getD who 0))) ((Below.heap_setCell _ _ _ _ (Ne.symm o4)).trans (Below.heap_setCell _ _ _ _ (Ne.symm o4)))).put _ _).congr (fun i _ => kf_put K who lo b i)) (Below.heap_setCell _ _ _ _ o6)
  have aM : Arr W mb conf.length (tf (upd T who term)) := by
    rw [← hW]
    exact ((h.am.keep (w' := ((w.setCell ⟨vb, who * 2, none⟩ (.int .u64 term)).setCell ⟨vb, who * 2 + 1, none⟩ (.int .i64 (conf.getD who 0))).setCell ⟨tb, who, none⟩ (.pointer (some ⟨b, 0, none⟩))) ((Below.heap_setCell _ _ _ _ (Ne.symm o6)).trans ((Below.heap_setCell _ _ _ _ (Ne.symm o5)).trans (Below.heap_setCell _ _ _ _ (Ne.symm o5))))).put _ _).congr (fun i _ => tf_put T who term i)
  rw [hW]
  have hTW : TalL W lo b term conf (List.replicate 65 0) := hT.keep fun j j1 j2 => hblk j (by omega) (by omega) (by omega)
  refine ⟨hTW, fun w' hT' hg => ?_⟩
  have hblk2 : ∀ k, k < W.heap.size → k ≠ b → w'.heap[k]? = W.heap[k]? := fun k hk hne => hg.block k hk (fun e => hne (by cases e; rfl))
  refine ⟨inv_stand hm h.inv hw h1 h2 hV, aV.keep (hblk2 _ aV.lt (by omega)), aK.keep (hblk2 _ aK.lt (by omega)), aM.keep (hblk2 _ aM.lt (by omega)), fun k hk1 hk2 => ?_, fun k lo' b' hk => ?_, fun k hk => ?_, fun k k' l1 b1 l2 b2 hne e1 e2 => ?_, h.off⟩
  · by_cases e : k = who
    · subst e; rw [upd_same, upd_same, upd_same]; exact ⟨lo, b, rfl, hT'⟩
    · rw [upd_other _ _ e] at hk2 ⊢
      rw [upd_other _ _ e, upd_other _ _ e]
      obtain ⟨lo', b', g1, g2⟩ := h.tal k hk1 hk2
      have u1 := h.up k lo' b' g1
      have u2 := hlo k lo' b' g1
      have u3 := g2.t.lt
      exact ⟨lo', b', g1, g2.keep fun j j1 j2 => (hblk2 j (by omega) (by omega)).trans (hblk j (by omega) (by omega) (by omega))⟩
  · by_cases e : k = who
    · subst e; rw [upd_same] at hk; cases hk; exact hhi
    · rw [upd_other _ _ e] at hk; exact h.up k lo' b' hk
  · by_cases e : k = who
    · subst e; exact absurd ⟨hw, by rw [upd_same]; omega⟩ hk
    · rw [upd_other _ _ e]; exact h.non k (fun hh => hk ⟨hh.1, by rw [upd_other _ _ e]; exact hh.2⟩)
  · by_cases e : k = who
    · subst e
      rw [upd_same] at e1; cases e1
      rw [upd_other _ _ (Ne.symm hne)] at e2
      exact .inr (hlo k' l2 b2 e2)
    · rw [upd_other _ _ e] at e1
      by_cases e' : k' = who
      · subst e'
        rw [upd_same] at e2; cases e2
        exact .inl (hlo k l1 b1 e1)
      · rw [upd_other _ _ e'] at e2
        exact h.apart k k' l1 b1 l2 b2 hne e1 e2
theorem inv_half {conf : List Int} {V V' : Nat → Int × Int} {T : Nat → Int} {S : Nat → List Nat} (hm : may conf = true) (h : OneInv conf.length conf V T S) {who tg : Nat} (hl : (S who).length = 65) (ht : tg < conf.length) {term : Int} {y : Bool}
    (IG : OneInv conf.length conf V' T (upd S who (Go.Proofs.Ytjjdfhokmiaekaa.vote term conf (S who) (conf.getD tg 0) term y).2)) : OneInv conf.length conf V' T S := by
  refine ⟨IG.vt, IG.tt, fun c hc hT v hv hy => IG.yes c hc hT v hv ?_, h.one⟩
  by_cases e : c = who
  · subst e
    rw [upd_same]
    obtain ⟨-, -, a3, a4⟩ := vote_at (T := term) hm hl ht y
    by_cases e2 : (conf.getD v 0).toNat = (conf.getD tg 0).toNat
    · rw [e2] at hy ⊢; rw [a4, if_neg (by omega)]; exact hy
    · rw [a3 _ e2]; exact hy
  · rw [upd_other _ _ e]; exact hy
theorem upd_twice {α : Type} (f : Nat → α) (j : Nat) (x y : α) : upd (upd f j x) j y = upd f j y := by
  funext k; unfold upd; by_cases h : k = j <;> simp [h]
def wins (conf : List Int) (T : Nat → Int) (S : Nat → List Nat) (term : Int) (k : Nat) : Bool := decide (T k = term) && won (S k) conf
theorem wins_le {conf : List Int} {V : Nat → Int × Int} {T : Nat → Int} {S : Nat → List Nat} {term : Int} (h : OneInv conf.length conf V T S) (h1 : 1 ≤ term) : tallyN (wins conf T S term) conf.length ≤ 1 := by
  refine tallyN_le fun i hi j hj a b => ?_
  unfold wins at a b
  rw [Bool.and_eq_true, decide_eq_true_eq] at a b
  exact inv_won h hi hj (a.1.trans b.1.symm) (by rw [a.1]; omega) a.2 b.2
theorem El.bound {w : World} {vb tb mb hi : Nat} {conf : List Int} {V : Nat → Int × Int} {T : Nat → Int} {K : Nat → Option (Nat × Nat)} {S : Nat → List Nat} (h : El w vb tb mb hi conf V T K S) : ∀ k lo b, K k = some (lo, b) → b < w.heap.size := fun k lo b hk => by
  by_cases e : k < conf.length ∧ T k ≠ 0
  · obtain ⟨lo', b', h1, h2⟩ := h.tal k e.1 e.2
    rw [hk] at h1; cases h1
    exact h2.t.lt
  · rw [h.non k e] at hk; cases hk
end Go.Proofs.Ytjjdfhokmiaekaa
