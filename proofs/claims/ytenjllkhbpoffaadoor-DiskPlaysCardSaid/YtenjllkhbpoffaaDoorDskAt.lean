/-
  A disk in memory: its block, two maps, two rows, boxes of calls that nobody writes.
-/
import Derived.Test.YtenjllkhbpoffaaDoorDskFn
import Derived.Laws.Cover3
import Derived.WalkSmall
namespace Go.Proofs.YtenjllkhbpoffaaDoor
open Go Go.Maps Go.WideMaps Go.Dsk Go.Lx Go.Lst Go.RowKit

def OwnB (b bs bn : Nat) (lv cv : Value) (k : Nat) : Prop := k = b ∨ k = bs ∨ k = bn ∨ lv.ownBlock = some k ∨ cv.ownBlock = some k
/-- A function value that is a call of these. -/
def IsCall (w : World) (U : Nat → Prop) (v : Value) : Lc → Prop
  | .app k s => ∃ b1 b2, v = .func (.func 31) #[] #[.pointer (some ⟨b1, 0, none⟩), .pointer (some ⟨b2, 0, none⟩)] ∧ w.cell? ⟨b1, 0, none⟩ = some (.string k) ∧ w.cell? ⟨b2, 0, none⟩ = some (.string s) ∧ U b1 ∧ U b2
  | .cut k n => ∃ b1 b2, v = .func (.func 32) #[] #[.pointer (some ⟨b1, 0, none⟩), .pointer (some ⟨b2, 0, none⟩)] ∧ w.cell? ⟨b1, 0, none⟩ = some (.string k) ∧ w.cell? ⟨b2, 0, none⟩ = some (.int .i64 n) ∧ U b1 ∧ U b2
  | .ren a c => ∃ b1 b2, v = .func (.func 33) #[] #[.pointer (some ⟨b1, 0, none⟩), .pointer (some ⟨b2, 0, none⟩)] ∧ w.cell? ⟨b1, 0, none⟩ = some (.string a) ∧ w.cell? ⟨b2, 0, none⟩ = some (.string c) ∧ U b1 ∧ U b2
  | .rem k => ∃ b1, v = .func (.func 34) #[] #[.pointer (some ⟨b1, 0, none⟩)] ∧ w.cell? ⟨b1, 0, none⟩ = some (.string k) ∧ U b1
theorem IsCall.keep {w w' : World} {U U' : Nat → Prop} {v : Value} {c : Lc} (h : IsCall w U v c) (hk : ∀ k, U k → w'.heap[k]? = w.heap[k]?) (hu : ∀ k, U k → U' k) : IsCall w' U' v c := by
  have hc : ∀ {k : Nat} {x : Value}, U k → w.cell? ⟨k, 0, none⟩ = some x → w'.cell? ⟨k, 0, none⟩ = some x := fun {k x} hU hx => by rw [World.cell?_of_block (w := w) (hk k hU), hx]
  cases c with
  | app k s => obtain ⟨b1, b2, h1, h2, h3, h4, h5⟩ := h; exact ⟨b1, b2, h1, hc h4 h2, hc h5 h3, hu _ h4, hu _ h5⟩
  | cut k s => obtain ⟨b1, b2, h1, h2, h3, h4, h5⟩ := h; exact ⟨b1, b2, h1, hc h4 h2, hc h5 h3, hu _ h4, hu _ h5⟩
  | ren k s => obtain ⟨b1, b2, h1, h2, h3, h4, h5⟩ := h; exact ⟨b1, b2, h1, hc h4 h2, hc h5 h3, hu _ h4, hu _ h5⟩
  | rem k => obtain ⟨b1, h1, h2, h4⟩ := h; exact ⟨b1, h1, hc h4 h2, hu _ h4⟩
def Head (w : World) (b bs bn : Nat) (lv cv : Value) (room fuse : Int) : Prop := w.heap[b]? = some (.cells #[.int .i64 room, .map (some bs), .map (some bn), lv, cv, .int .i64 fuse] 61 (0, 0))
def CallsAt (w : World) (U : Nat → Prop) (vs : List Value) (l : List Lc) : Prop := ∀ j (h : j < vs.length) (h' : j < l.length), IsCall w U vs[j] l[j]
structure Rest (w : World) (O : Nat → Prop) (b bs bn : Nat) (lv cv : Value) (vs : List Value) (S N : Files) (l l2 : List Lc) : Prop where
  sure : FM w bs S
  now : FM w bn N
  ne : bs ≠ bn
  row : w.ownsRow 0 70 1 lv l.length vs
  cuts : w.ownsRow 0 3 1 cv l2.length (l2.map fun c => .int .i64 (flag c))
  calls : CallsAt w (fun k => O k ∧ ¬ OwnB b bs bn lv cv k) vs l
  own : ∀ k, OwnB b bs bn lv cv k → O k
  lo : ∀ k, O k → k < w.heap.size
structure DkAt (w : World) (O : Nat → Prop) (b bs bn : Nat) (lv cv : Value) (vs : List Value) (M : DM) : Prop where
  blk : Head w b bs bn lv cv M.room M.fuse
  rest : Rest w O b bs bn lv cv vs M.sure M.now M.loose M.loose
  ok : DOk M
def Dk (w : World) (O : Nat → Prop) (b : Nat) (M : DM) : Prop := ∃ bs bn lv cv vs, DkAt w O b bs bn lv cv vs M
/-- The blocks of O, and those that were made. -/
def Gr (O : Nat → Prop) (w w' : World) (k : Nat) : Prop := O k ∨ (w.heap.size ≤ k ∧ k < w'.heap.size)
section
variable {w w' : World} {O O' : Nat → Prop} {b bs bn : Nat} {lv cv : Value} {vs : List Value} {M : DM}
theorem DkAt.isBlk (h : DkAt w O b bs bn lv cv vs M) : Blk w b [.int .i64 M.room, .map (some bs), .map (some bn), lv, cv, .int .i64 M.fuse] := ⟨_, h.blk⟩
theorem DkAt.c6 (h : DkAt w O b bs bn lv cv vs M) : w.cell? ⟨b, 0, none⟩ = some (.int .i64 M.room) ∧ w.cell? ⟨b, 1, none⟩ = some (.map (some bs)) ∧ w.cell? ⟨b, 2, none⟩ = some (.map (some bn)) ∧ w.cell? ⟨b, 3, none⟩ = some lv ∧ w.cell? ⟨b, 4, none⟩ = some cv ∧ w.cell? ⟨b, 5, none⟩ = some (.int .i64 M.fuse) :=
  ⟨h.isBlk.cell 0 rfl, h.isBlk.cell 1 rfl, h.isBlk.cell 2 rfl, h.isBlk.cell 3 rfl, h.isBlk.cell 4 rfl, h.isBlk.cell 5 rfl⟩
theorem Head.blk {room fuse : Int} (h : Head w b bs bn lv cv room fuse) : Blk w b [.int .i64 room, .map (some bs), .map (some bn), lv, cv, .int .i64 fuse] := ⟨_, h⟩
variable {S N : Files} {l l2 : List Lc} {room fuse : Int}
theorem own_ne {v : Value} {T : TypeId} {n g : Nat} {xs : List Value} {cs : Array Value} {T' : TypeId} {fr : Nat × Nat} (hr : w.ownsRow 0 T 1 v n xs) (hb : w.heap[g]? = some (.cells cs T' fr)) (hT : T ≠ T') : ∀ k, v.ownBlock = some k → k ≠ g := fun k hk e => by
  rcases hr.2 with ⟨rfl, _⟩ | ⟨g', cap, cur, rfl, _, hh, _⟩
  · cases hk
  · cases hk
    subst e
    dsimp only at hb
    rw [hh] at hb
    injection hb with hb
    injection hb with _ h2 _
    exact hT h2
theorem own_nemap {v : Value} {T : TypeId} {n g : Nat} {xs : List Value} {F : Files} (hr : w.ownsRow 0 T 1 v n xs) (hb : FM w g F) : ∀ k, v.ownBlock = some k → k ≠ g := fun k hk e => by
  obtain ⟨es, cl, e1⟩ := hb.isMap
  rcases hr.2 with ⟨rfl, _⟩ | ⟨g', cap, cur, rfl, _, hh, _⟩
  · cases hk
  · cases hk
    subst e
    dsimp only at e1
    rw [hh] at e1
    cases e1
theorem Head.nemap {g : Nat} {F : Files} (h : Head w b bs bn lv cv room fuse) (hb : FM w g F) : g ≠ b := fun e => by
  obtain ⟨es, cl, e1⟩ := hb.isMap
  unfold Head at h
  rw [e, h] at e1
  cases e1
theorem Rest.keep (h : Rest w O b bs bn lv cv vs S N l l2) (hk : ∀ k, O k → k ≠ b → w'.heap[k]? = w.heap[k]?) (hs : w.heap.size ≤ w'.heap.size) (hb : Head w b bs bn lv cv room fuse) : Rest w' O b bs bn lv cv vs S N l l2 := by
  refine ⟨h.sure.keep (hk _ (h.own _ (.inr (.inl rfl))) (hb.nemap h.sure)), h.now.keep (hk _ (h.own _ (.inr (.inr (.inl rfl)))) (hb.nemap h.now)), h.ne, own_keep h.row (fun k hv => hk k (h.own _ (.inr (.inr (.inr (.inl hv))))) (own_ne h.row hb (by decide) k hv)), own_keep h.cuts (fun k hv => hk k (h.own _ (.inr (.inr (.inr (.inr hv))))) (own_ne h.cuts hb (by decide) k hv)), ?_, h.own, fun k hO => Nat.lt_of_lt_of_le (h.lo k hO) hs⟩
  exact fun j h1 h2 => (h.calls j h1 h2).keep (fun k hU => hk k hU.1 (fun e => hU.2 (.inl e))) (fun _ h => h)
/-- What is now was changed. -/
theorem Rest.turn (h : Rest w O b bs bn lv cv vs S N l l2) (hb : Head w b bs bn lv cv room fuse) {N' : Files} (hF : FM w' bn N') (hs : Stays (fun k => k = bn) w w') : Rest w' O b bs bn lv cv vs S N' l l2 ∧ Head w' b bs bn lv cv room fuse := by
  have hk : ∀ k, O k → k ≠ bn → w'.heap[k]? = w.heap[k]? := fun k hO hn => hs.block k (h.lo k hO) hn
  refine ⟨⟨h.sure.keep (hk _ (h.own _ (.inr (.inl rfl))) h.ne), hF, h.ne, own_keep h.row (fun k hv => hk k (h.own _ (.inr (.inr (.inr (.inl hv))))) (own_nemap h.row h.now k hv)), own_keep h.cuts (fun k hv => hk k (h.own _ (.inr (.inr (.inr (.inr hv))))) (own_nemap h.cuts h.now k hv)), ?_, h.own, fun k hO => Nat.lt_of_lt_of_le (h.lo k hO) hs.size⟩, (hk b (h.own _ (.inl rfl)) (Ne.symm (hb.nemap h.now))).trans hb⟩
  exact fun j h1 h2 => (h.calls j h1 h2).keep (fun k hU => hk k hU.1 (fun e => hU.2 (.inr (.inr (.inl e))))) (fun _ h => h)
theorem DkAt.keep (h : DkAt w O b bs bn lv cv vs M) (hk : ∀ k, O k → w'.heap[k]? = w.heap[k]?) (hs : w.heap.size ≤ w'.heap.size) : DkAt w' O b bs bn lv cv vs M :=
  ⟨(hk b (h.rest.own _ (.inl rfl))).trans h.blk, h.rest.keep (fun k hO _ => hk k hO) hs h.blk, h.ok⟩
theorem DkAt.below (h : DkAt w O b bs bn lv cv vs M) (hb : Below w.heap.size w w') : DkAt w' O b bs bn lv cv vs M := h.keep (fun k hO => hb.block k (h.rest.lo k hO)) hb.size
theorem DkAt.grow (h : DkAt w O b bs bn lv cv vs M) (hO : ∀ k, O k → O' k) (hl : ∀ k, O' k → k < w.heap.size) : DkAt w O' b bs bn lv cv vs M :=
  ⟨h.blk, ⟨h.rest.sure, h.rest.now, h.rest.ne, h.rest.row, h.rest.cuts, fun j h1 h2 => (h.rest.calls j h1 h2).keep (fun _ _ => rfl) (fun k hU => ⟨hO k hU.1, hU.2⟩), fun k hk => hO k (h.rest.own k hk), hl⟩, h.ok⟩
theorem Dk.keep (h : Dk w O b M) (hk : ∀ k, O k → w'.heap[k]? = w.heap[k]?) (hs : w.heap.size ≤ w'.heap.size) : Dk w' O b M := by
  obtain ⟨bs, bn, lv, cv, vs, h⟩ := h
  exact ⟨bs, bn, lv, cv, vs, h.keep hk hs⟩
theorem Dk.below (h : Dk w O b M) (hb : Below w.heap.size w w') : Dk w' O b M := by
  obtain ⟨bs, bn, lv, cv, vs, h⟩ := h
  exact ⟨bs, bn, lv, cv, vs, h.below hb⟩
theorem Dk.grow (h : Dk w O b M) (hO : ∀ k, O k → O' k) (hl : ∀ k, O' k → k < w.heap.size) : Dk w O' b M := by
  obtain ⟨bs, bn, lv, cv, vs, h⟩ := h
  exact ⟨bs, bn, lv, cv, vs, h.grow hO hl⟩
theorem Dk.lo (h : Dk w O b M) : ∀ k, O k → k < w.heap.size := by
  obtain ⟨bs, bn, lv, cv, vs, h⟩ := h
  exact h.rest.lo
theorem Dk.ok (h : Dk w O b M) : DOk M := by
  obtain ⟨bs, bn, lv, cv, vs, h⟩ := h
  exact h.ok
theorem Gr.lo (h : ∀ k, O k → k < w.heap.size) (hs : w.heap.size ≤ w'.heap.size) : ∀ k, Gr O w w' k → k < w'.heap.size := fun k hk => hk.elim (fun h' => Nat.lt_of_lt_of_le (h k h') hs) (fun h' => h'.2)
theorem Gr.trans {w'' : World} (hs : w.heap.size ≤ w'.heap.size) (hs' : w'.heap.size ≤ w''.heap.size) : ∀ k, Gr (Gr O w w') w' w'' k → Gr O w w'' k := by
  rintro k ((h | h) | h)
  · exact .inl h
  · exact .inr ⟨h.1, by omega⟩
  · exact .inr ⟨by omega, h.2⟩
theorem stays_gr {w'' : World} (h : Stays O w w') (k : Stays (Gr O w w') w' w'') : Stays O w w'' := h.trans k (fun i hi hg => hg.elim id (fun h' => by omega))
/-- The fuse is set. -/
theorem DkAt.setFuse (h : DkAt w O b bs bn lv cv vs M) (hs : Stays (fun k => k = b) w w') (f : Int) (hf : -1 ≤ f ∧ f ≤ 9223372036854775807) (hb : w'.heap[b]? = some (.cells #[.int .i64 M.room, .map (some bs), .map (some bn), lv, cv, .int .i64 f] 61 (0, 0))) : DkAt w' O b bs bn lv cv vs { M with fuse := f } := by
  have hr := h.rest.keep (w' := w') (fun k hO hn => hs.block k (h.rest.lo k hO) hn) hs.size h.blk
  exact ⟨hb, ⟨hr.sure, hr.now, hr.ne, hr.row, hr.cuts, hr.calls, hr.own, hr.lo⟩, ⟨h.ok.room, h.ok.rise, h.ok.now, h.ok.small, h.ok.fit, hf⟩⟩
end
theorem heap_put {w : World} {b : Nat} {cs : List Value} {T : TypeId} (h1 : w.heap[b]? = some (.cells cs.toArray T (0, 0))) (i : Nat) (v : Value) : (w.setCell ⟨b, i, none⟩ v).heap[b]? = some (.cells (cs.set i v).toArray T (0, 0)) := by
  have hlt := heap_lt' h1
  have h' : w.heap[b] = .cells cs.toArray T (0, 0) := by simpa [Array.getElem?_eq_getElem hlt] using h1
  show (w.heap.modify b _)[b]? = _
  rw [Array.getElem?_eq_getElem (by simpa using hlt), Array.getElem_modify_self, h']
  simp
theorem stays_put {O : Nat → Prop} (w : World) (b i : Nat) (hb : O b) (v : Value) : Stays O w (w.setCell ⟨b, i, none⟩ v) :=
  ⟨rfl, rfl, rfl, by simp, fun k _ hn => Below.heap_setCell _ _ _ _ (fun e => hn (by cases e; exact hb))⟩
theorem eql_files_nil (A : World) (b : Nat) : (binOp .eql 57 (.map (some b)) (.map none)).run Tryd.prog A = .ok (.bool false) A := by
  unfold binOp
  simp [run_equal_map_nil (P := Tryd.prog) (w := A) 57 9 9 (some b) Tryd.underlying57]

/-! burns -/
def burnE (M : DM) : Int := if M.fuse = 0 then 60 else 0
def burnM (M : DM) : DM := if 0 < M.fuse then { M with fuse := M.fuse - 1 } else M
set_option maxRecDepth 100000 in
theorem burns_nil (w : World) : Calls Tryd.prog 29 #[.pointer none] w fun e w' => e = .returned (.int .i64 1) ∧ w = w' := by
  go_enter Tryd.func29, Tryd.ntmps29
  go_wp2_with fail
  go_ret
  exact ⟨rfl, rfl⟩
set_option maxRecDepth 100000 in
set_option maxHeartbeats 1000000 in
theorem burns_calls {w : World} {O : Nat → Prop} {b bs bn : Nat} {lv cv : Value} {vs : List Value} {M : DM} (h : DkAt w O b bs bn lv cv vs M) :
    Calls Tryd.prog 29 #[.pointer (some ⟨b, 0, none⟩)] w fun e w' => e = .returned (.int .i64 (burnE M)) ∧ DkAt w' O b bs bn lv cv vs (burnM M) ∧ Stays (fun k => k = b) w w' := by
  obtain ⟨q0, q1, q2, q3, q4, q5⟩ := h.c6
  have f5 := h.isBlk.frz 5
  have hmn := fun A => eql_files_nil A bn
  obtain ⟨E, hE⟩ : ∃ E, burnE M = E := ⟨_, rfl⟩
  obtain ⟨M', hM'⟩ : ∃ M', burnM M = M' := ⟨_, rfl⟩
  rw [hE, hM']
  have hfu := h.ok.fuse
  have hH := Lib.hid h
  unfold burnE at hE
  unfold burnM at hM'
  obtain ⟨f, hf⟩ : ∃ f, M.fuse = f := ⟨_, rfl⟩
  rw [hf] at q5 hE hM' hfu
  clear h q0 q1 q3 q4
  by_cases c1 : f = 0
  · subst c1
    rw [if_pos rfl] at hE
    rw [if_neg (by omega)] at hM'
    subst hE hM'
    replace hf := Lib.hid hf
    replace hfu := Lib.hid hfu
    go_enter Tryd.func29, Tryd.ntmps29
    go_wp2_with fail
    go_ret
    exact ⟨rfl, hH.out, Stays.of_below (Below.refl _ _)⟩
  rw [if_neg c1] at hE
  subst hE
  have c1b : (f == 0) = false := by simpa using c1
  by_cases c2 : 0 < f
  · rw [if_pos c2] at hM'
    have c2b : decide (0 < f) = true := decide_eq_true c2
    obtain ⟨hf0, hf1⟩ := hfu
    have hst := stays_put (O := fun k => k = b) w b 5 rfl (.int .i64 (f - 1))
    have hD : Hid (DkAt (w.setCell ⟨b, 5, none⟩ (.int .i64 (f - 1))) O b bs bn lv cv vs M' ∧ Stays (fun k => k = b) w (w.setCell ⟨b, 5, none⟩ (.int .i64 (f - 1)))) := Lib.hid (by
      rw [← hM']
      exact ⟨hH.out.setFuse hst (f - 1) (by omega) (heap_put (cs := [.int .i64 M.room, .map (some bs), .map (some bn), lv, cv, .int .i64 M.fuse]) hH.out.blk 5 _), hst⟩)
    clear hf hM' hst c1 hH
    go_enter Tryd.func29, Tryd.ntmps29
    go_wp2_with fail
    go_ret
    exact ⟨rfl, hD.out⟩
  · rw [if_neg c2] at hM'
    subst hM'
    have c2b : decide (0 < f) = false := decide_eq_false c2
    replace hf := Lib.hid hf
    replace hfu := Lib.hid hfu
    go_enter Tryd.func29, Tryd.ntmps29
    go_wp2_with fail
    go_ret
    exact ⟨rfl, hH.out, Stays.of_below (Below.refl _ _)⟩
end Go.Proofs.YtenjllkhbpoffaaDoor
