/-
  (*Disk).does: a call is done now, and is loose.
-/
import Derived.Test.YtenjllkhbpoffaaDoorDskAt
namespace Go.Proofs.YtenjllkhbpoffaaDoor
open Go Go.Maps Go.WideMaps Go.Dsk Go.Lx Go.Lst Go.RowKit

theorem infoCall : (Tryd.prog.info? 70).map (fun i => (i.zero, i.size, i.bytes)) = some (some .nilFunc, 1, 8) := by kernel_rfl
theorem infoI : (Tryd.prog.info? 3).map (fun i => (i.zero, i.size, i.bytes)) = some (some (.int .i64 0), 1, 8) := by kernel_rfl
theorem blkc {w : World} {b : Nat} {cs : List Value} (h : Blk w b cs) : ∀ j u, cs[j]? = some u → w.cell? ((⟨b, 0, none⟩ : Addr).add j) = some u := fun j u hu => by
  have e : (⟨b, 0, none⟩ : Addr).add j = ⟨b, j, none⟩ := by unfold Addr.add; split <;> simp_all
  rw [e]
  exact h.cell j hu
section
variable {w : World} {O : Nat → Prop} {b bs bn : Nat} {lv cv : Value} {vs : List Value} {S N : Files} {l l2 : List Lc} {room fuse : Int}
set_option maxRecDepth 100000 in
theorem loose_step (hR : Rest w O b bs bn lv cv vs S N l l2) (hb : Head w b bs bn lv cv room fuse) (v : Value) (c : Lc) (hc : IsCall w (fun k => O k ∧ ¬ OwnB b bs bn lv cv k) v c) (hl : l.length < 1000000) (ty : TypeId) :
    ∃ p n d w2, (Builtin.append_ #[58, 58] ty #[lv, .slice (some ⟨w.heap.size, 0, none⟩) 1 1]).run Tryd.prog (w.alloc (.cells #[v] 70)) = .ok (.slice p n d) w2 ∧ Head w2 b bs bn lv cv room fuse ∧
      Head (w2.setCell ⟨b, 3, none⟩ (.slice p n d)) b bs bn (.slice p n d) cv room fuse ∧ Rest (w2.setCell ⟨b, 3, none⟩ (.slice p n d)) (Gr O w (w2.setCell ⟨b, 3, none⟩ (.slice p n d))) b bs bn (.slice p n d) cv (vs ++ [v]) S N (l ++ [c]) l2 ∧ Stays O w (w2.setCell ⟨b, 3, none⟩ (.slice p n d)) := by
  obtain ⟨i0, hi, hz0, hz1, hz2⟩ := info_parts infoCall
  have hob : O b := hR.own _ (.inl rfl)
  have hbl : Below w.heap.size w (w.alloc (.cells #[v] 70)) := (Below.refl _ _).alloc (Nat.le_refl _) _
  have hsa : Stays O w (w.alloc (.cells #[v] 70)) := Stays.of_below hbl
  have hv1 : v.oneCell' = true := by cases c with
    | app k s => obtain ⟨b1, b2, rfl, _⟩ := hc; rfl
    | cut k s => obtain ⟨b1, b2, rfl, _⟩ := hc; rfl
    | ren k s => obtain ⟨b1, b2, rfl, _⟩ := hc; rfl
    | rem k => obtain ⟨b1, rfl, _⟩ := hc; rfl
  have hrow : (w.alloc (.cells #[v] 70)).ownsRow 0 70 1 lv l.length vs := own_keep hR.row (fun k hk => hbl.block k (own_block hR.row hk).2)
  obtain ⟨v', w2, hr, h2, h3, -, h5⟩ := run_append_own_at (P := Tryd.prog) (w.alloc (.cells #[v] 70)) 0 58 ty 70 i0 _ 1 8 Tryd.underlying58 hi hz0 hz1 hz2 rfl (by decide) lv l.length vs hrow ⟨w.heap.size, 0, none⟩ 1 1 [v] rfl (blkc (Blk.new w #[v] _)) (by simpa using hv1) (by unfold maxLen; omega) (by omega) (Nat.zero_le _)
  obtain ⟨p, n, d, rfl⟩ := own_slice h2
  have hlv : ∀ k, lv.ownBlock = some k → O k := fun k hk => hR.own k (.inr (.inr (.inr (.inl hk))))
  have hs2 : Stays O w w2 := hsa.trans (Stays.of_grown (O := O) h3 (fun k hk _ => hlv k hk)) (fun _ _ h => h)
  have hnb : ∀ k, lv.ownBlock = some k → k ≠ b := own_ne hR.row hb (by decide)
  have hlt := hR.lo b hob
  have hkeep : ∀ k, k < w.heap.size → lv.ownBlock ≠ some k → w2.heap[k]? = w.heap[k]? := fun k hk hn => (h3.block k (by simp; omega) (fun e => hn e.symm)).trans (hbl.block k hk)
  have hb2 : Head w2 b bs bn lv cv room fuse := (hkeep b hlt (fun e => hnb b e rfl)).trans hb
  have hs3 : Stays O w (w2.setCell ⟨b, 3, none⟩ (.slice p n d)) := hs2.setCell (p := ⟨b, 3, none⟩) (fun _ => hob) _
  have hset : ∀ k, k ≠ b → (w2.setCell ⟨b, 3, none⟩ (.slice p n d)).heap[k]? = w2.heap[k]? := fun k hk => Below.heap_setCell _ _ _ _ (fun e => hk (by cases e; rfl))
  have hall : ∀ k, O k → k ≠ b → lv.ownBlock ≠ some k → (w2.setCell ⟨b, 3, none⟩ (.slice p n d)).heap[k]? = w.heap[k]? := fun k hO hn hne => (hset k hn).trans (hkeep k (hR.lo k hO) hne)
  have hnew : ∀ k, (Value.slice p n d).ownBlock = some k → lv.ownBlock = some k ∨ k = w.heap.size + 1 := fun k hk => by
    rcases h5 with h5 | h5
    · exact .inl (h5 ▸ hk)
    · rw [h5] at hk; cases hk; exact .inr (by simp)
  have hsz2 : (w2.setCell ⟨b, 3, none⟩ (.slice p n d)).heap.size = w2.heap.size := by simp
  have hrs : ∀ k, (Value.slice p n d).ownBlock = some k → k ≠ b := own_ne h2 hb2 (by decide)
  refine ⟨p, n, d, w2, hr, hb2, heap_put (cs := [.int .i64 room, .map (some bs), .map (some bn), lv, cv, .int .i64 fuse]) hb2 3 _, ⟨?_, ?_, hR.ne, ?_, ?_, ?_, ?_, Gr.lo hR.lo hs3.size⟩, hs3⟩
  · exact hR.sure.keep (hall _ (hR.own _ (.inr (.inl rfl))) (hb.nemap hR.sure) (fun e => own_nemap hR.row hR.sure _ e rfl))
  · exact hR.now.keep (hall _ (hR.own _ (.inr (.inr (.inl rfl)))) (hb.nemap hR.now) (fun e => own_nemap hR.row hR.now _ e rfl))
  · rw [List.length_append]
    exact own_keep h2 (fun k hk => hset k (hrs k hk))
  · refine own_keep hR.cuts (fun k hk => hall k (hR.own _ (.inr (.inr (.inr (.inr hk))))) (own_ne hR.cuts hb (by decide) k hk) (fun e => ?_))
    rcases hR.cuts.2 with ⟨rfl, _⟩ | ⟨g, cap, cur, rfl, _, hh, _⟩
    · cases hk
    · cases hk
      exact own_ne hR.row hh (by decide) _ e rfl
  · have hu : ∀ k, (O k ∧ ¬ OwnB b bs bn lv cv k) → (Gr O w (w2.setCell ⟨b, 3, none⟩ (.slice p n d)) k ∧ ¬ OwnB b bs bn (.slice p n d) cv k) := fun k hU => ⟨.inl hU.1, fun h => hU.2 (by
      rcases h with h | h | h | h | h
      · exact .inl h
      · exact .inr (.inl h)
      · exact .inr (.inr (.inl h))
      · rcases hnew k h with h | h
        · exact .inr (.inr (.inr (.inl h)))
        · have := hR.lo k hU.1; omega
      · exact .inr (.inr (.inr (.inr h))))⟩
    have hk : ∀ k, (O k ∧ ¬ OwnB b bs bn lv cv k) → (w2.setCell ⟨b, 3, none⟩ (.slice p n d)).heap[k]? = w.heap[k]? := fun k hU => hall k hU.1 (fun e => hU.2 (.inl e)) (fun e => hU.2 (.inr (.inr (.inr (.inl e)))))
    have hlen : vs.length = l.length := by simpa using hR.row.1
    intro j h1 h2
    by_cases hj : j < l.length
    · have e1 : (vs ++ [v])[j] = vs[j]'(by omega) := List.getElem_append_left (by omega)
      have e2 : (l ++ [c])[j] = l[j] := List.getElem_append_left hj
      rw [e1, e2]
      exact (hR.calls j (by omega) hj).keep hk hu
    · have hj2 : j = l.length := by simp at h2; omega
      subst hj2
      have e1 : (vs ++ [v])[l.length]'h1 = v := by rw [List.getElem_append_right (by omega)]; simp [hlen]
      have e2 : (l ++ [c])[l.length]'h2 = c := by rw [List.getElem_append_right (by omega)]; simp
      rw [e1, e2]
      exact hc.keep hk hu
  · intro k hk
    rcases hk with h | h | h | h | h
    · exact .inl (hR.own k (.inl h))
    · exact .inl (hR.own k (.inr (.inl h)))
    · exact .inl (hR.own k (.inr (.inr (.inl h))))
    · rcases hnew k h with h' | h'
      · exact .inl (hlv k h')
      · refine .inr ⟨by omega, ?_⟩
        rw [hsz2]
        exact (own_block h2 h).2
    · exact .inl (hR.own k (.inr (.inr (.inr (.inr h)))))
set_option maxRecDepth 100000 in
theorem cuts_step (hR : Rest w O b bs bn lv cv vs S N l l2) (hb : Head w b bs bn lv cv room fuse) (c : Lc) (hl : l2.length < 1000000) (ty : TypeId) :
    ∃ p n d w2, (Builtin.append_ #[59, 59] ty #[cv, .slice (some ⟨w.heap.size, 0, none⟩) 1 1]).run Tryd.prog (w.alloc (.cells #[.int .i64 (flag c)] 3)) = .ok (.slice p n d) w2 ∧ Head w2 b bs bn lv cv room fuse ∧
      Head (w2.setCell ⟨b, 4, none⟩ (.slice p n d)) b bs bn lv (.slice p n d) room fuse ∧ Rest (w2.setCell ⟨b, 4, none⟩ (.slice p n d)) (Gr O w (w2.setCell ⟨b, 4, none⟩ (.slice p n d))) b bs bn lv (.slice p n d) vs S N l (l2 ++ [c]) ∧ Stays O w (w2.setCell ⟨b, 4, none⟩ (.slice p n d)) := by
  obtain ⟨i0, hi, hz0, hz1, hz2⟩ := info_parts infoI
  have hob : O b := hR.own _ (.inl rfl)
  have hbl : Below w.heap.size w (w.alloc (.cells #[.int .i64 (flag c)] 3)) := (Below.refl _ _).alloc (Nat.le_refl _) _
  have hsa : Stays O w (w.alloc (.cells #[.int .i64 (flag c)] 3)) := Stays.of_below hbl
  have hrow : (w.alloc (.cells #[.int .i64 (flag c)] 3)).ownsRow 0 3 1 cv l2.length (l2.map fun c => .int .i64 (flag c)) := own_keep hR.cuts (fun k hk => hbl.block k (own_block hR.cuts hk).2)
  obtain ⟨v', w2, hr, h2, h3, -, h5⟩ := run_append_own_at (P := Tryd.prog) (w.alloc (.cells #[.int .i64 (flag c)] 3)) 0 59 ty 3 i0 _ 1 8 Tryd.underlying59 hi hz0 hz1 hz2 rfl (by decide) cv l2.length _ hrow ⟨w.heap.size, 0, none⟩ 1 1 [.int .i64 (flag c)] rfl (blkc (Blk.new w #[.int .i64 (flag c)] _)) (by simp [Value.oneCell']) (by unfold maxLen; omega) (by omega) (Nat.zero_le _)
  obtain ⟨p, n, d, rfl⟩ := own_slice h2
  have hcv : ∀ k, cv.ownBlock = some k → O k := fun k hk => hR.own k (.inr (.inr (.inr (.inr hk))))
  have hs2 : Stays O w w2 := hsa.trans (Stays.of_grown (O := O) h3 (fun k hk _ => hcv k hk)) (fun _ _ h => h)
  have hnb : ∀ k, cv.ownBlock = some k → k ≠ b := own_ne hR.cuts hb (by decide)
  have hlt := hR.lo b hob
  have hkeep : ∀ k, k < w.heap.size → cv.ownBlock ≠ some k → w2.heap[k]? = w.heap[k]? := fun k hk hn => (h3.block k (by simp; omega) (fun e => hn e.symm)).trans (hbl.block k hk)
  have hb2 : Head w2 b bs bn lv cv room fuse := (hkeep b hlt (fun e => hnb b e rfl)).trans hb
  have hs3 : Stays O w (w2.setCell ⟨b, 4, none⟩ (.slice p n d)) := hs2.setCell (p := ⟨b, 4, none⟩) (fun _ => hob) _
  have hset : ∀ k, k ≠ b → (w2.setCell ⟨b, 4, none⟩ (.slice p n d)).heap[k]? = w2.heap[k]? := fun k hk => Below.heap_setCell _ _ _ _ (fun e => hk (by cases e; rfl))
  have hall : ∀ k, O k → k ≠ b → cv.ownBlock ≠ some k → (w2.setCell ⟨b, 4, none⟩ (.slice p n d)).heap[k]? = w.heap[k]? := fun k hO hn hne => (hset k hn).trans (hkeep k (hR.lo k hO) hne)
  have hnew : ∀ k, (Value.slice p n d).ownBlock = some k → cv.ownBlock = some k ∨ k = w.heap.size + 1 := fun k hk => by
    rcases h5 with h5 | h5
    · exact .inl (h5 ▸ hk)
    · rw [h5] at hk; cases hk; exact .inr (by simp)
  have hsz2 : (w2.setCell ⟨b, 4, none⟩ (.slice p n d)).heap.size = w2.heap.size := by simp
  have hrs : ∀ k, (Value.slice p n d).ownBlock = some k → k ≠ b := own_ne h2 hb2 (by decide)
  refine ⟨p, n, d, w2, hr, hb2, heap_put (cs := [.int .i64 room, .map (some bs), .map (some bn), lv, cv, .int .i64 fuse]) hb2 4 _, ⟨?_, ?_, hR.ne, ?_, ?_, ?_, ?_, Gr.lo hR.lo hs3.size⟩, hs3⟩
  · exact hR.sure.keep (hall _ (hR.own _ (.inr (.inl rfl))) (hb.nemap hR.sure) (fun e => own_nemap hR.cuts hR.sure _ e rfl))
  · exact hR.now.keep (hall _ (hR.own _ (.inr (.inr (.inl rfl)))) (hb.nemap hR.now) (fun e => own_nemap hR.cuts hR.now _ e rfl))
  · refine own_keep hR.row (fun k hk => hall k (hR.own _ (.inr (.inr (.inr (.inl hk))))) (own_ne hR.row hb (by decide) k hk) (fun e => ?_))
    rcases hR.row.2 with ⟨rfl, _⟩ | ⟨g, cap, cur, rfl, _, hh, _⟩
    · cases hk
    · cases hk
      exact own_ne hR.cuts hh (by decide) _ e rfl
  · rw [List.length_append, List.map_append]
    exact own_keep h2 (fun k hk => hset k (hrs k hk))
  · have hu : ∀ k, (O k ∧ ¬ OwnB b bs bn lv cv k) → (Gr O w (w2.setCell ⟨b, 4, none⟩ (.slice p n d)) k ∧ ¬ OwnB b bs bn lv (.slice p n d) k) := fun k hU => ⟨.inl hU.1, fun h => hU.2 (by
      rcases h with h | h | h | h | h
      · exact .inl h
      · exact .inr (.inl h)
      · exact .inr (.inr (.inl h))
      · exact .inr (.inr (.inr (.inl h)))
      · rcases hnew k h with h | h
        · exact .inr (.inr (.inr (.inr h)))
        · have := hR.lo k hU.1; omega)⟩
    have hk : ∀ k, (O k ∧ ¬ OwnB b bs bn lv cv k) → (w2.setCell ⟨b, 4, none⟩ (.slice p n d)).heap[k]? = w.heap[k]? := fun k hU => hall k hU.1 (fun e => hU.2 (.inl e)) (fun e => hU.2 (.inr (.inr (.inr (.inr e)))))
    exact fun j h1 h2 => (hR.calls j h1 h2).keep hk hu
  · intro k hk
    rcases hk with h | h | h | h | h
    · exact .inl (hR.own k (.inl h))
    · exact .inl (hR.own k (.inr (.inl h)))
    · exact .inl (hR.own k (.inr (.inr (.inl h))))
    · exact .inl (hR.own k (.inr (.inr (.inr (.inl h)))))
    · rcases hnew k h with h' | h'
      · exact .inl (hcv k h')
      · refine .inr ⟨by omega, ?_⟩
        rw [hsz2]
        exact (own_block h2 h).2
end
/-! the calls -/
theorem does_fin {w w1 w3 w5 : World} {O : Nat → Prop} {b bs bn : Nat} {lv cv : Value} {vs : List Value} {S N : Files} {l l2 : List Lc} (hO : ∀ k, O k → k < w.heap.size) (hbn : O bn) (hs1 : Stays (fun k => k = bn) w w1) (hs3 : Stays O w1 w3) (hs5 : Stays (Gr O w1 w3) w3 w5) (hR : Rest w5 (Gr (Gr O w1 w3) w3 w5) b bs bn lv cv vs S N l l2) : Rest w5 (Gr O w w5) b bs bn lv cv vs S N l l2 ∧ Stays O w w5 := by
  have hs1' : Stays O w w1 := ⟨hs1.os, hs1.tape, hs1.output, hs1.size, fun k hk hn => hs1.block k hk (fun e => hn (by rw [e]; exact hbn))⟩
  have h3 := hs1'.trans hs3 (fun _ _ h => h)
  have h5 : Stays O w w5 := h3.trans hs5 (fun i hi hg => hg.elim id (fun h' => by have := hs1.size; omega))
  have hin : ∀ k, Gr (Gr O w1 w3) w3 w5 k → Gr O w w5 k := by
    have a1 := hs1.size
    have a2 := hs3.size
    have a3 := hs5.size
    rintro k ((h | h) | h)
    · exact .inl h
    · exact .inr ⟨by omega, by omega⟩
    · exact .inr ⟨by omega, by omega⟩
  exact ⟨⟨hR.sure, hR.now, hR.ne, hR.row, hR.cuts, fun j h1 h2 => (hR.calls j h1 h2).keep (fun _ _ => rfl) (fun k hU => ⟨hin k hU.1, hU.2⟩), fun k hk => hin k (hR.own k hk), Gr.lo hO h5.size⟩, h5⟩
theorem wpList_append_run {P : Program} {ops : Array Oper} {rest : List Oper} {o : Oper} {a : Act} {w : World} {Q : Exit → Act → World → Prop} (hgd : o.guard = none) (s x : Operand) {t : TypeId} (ho : o.op = .call { callee := .builtin .append, args := #[s, x], argTypes := #[t, t] }) {sv xv v' : Value} {w' : World} (hs : a.eval s = sv) (hx : a.eval x = xv)
    (hr : (Builtin.append_ #[t, t] o.type #[sv, xv]).run P w = .ok v' w') (hk : wpList P ops Q rest (a.put o.dst v') w') : wpList P ops Q (o :: rest) a w := by
  refine wpList_plain hgd fun K hK => ?_
  unfold Oper.wp execOp
  simp only [ho, resolve, invoke, builtin, Sem.run_bind, Sem.run_pure, Result.andThen_ok, List.map_toArray, List.map_cons, List.map_nil, hs, hx, hr]
  exact hK _ _ hk
set_option maxRecDepth 100000 in
set_option maxHeartbeats 1000000 in
theorem does_app {w : World} {O : Nat → Prop} {b bs bn : Nat} {lv cv : Value} {vs : List Value} {M : DM} (h : DkAt w O b bs bn lv cv vs M) (k s : ByteArray) (b1 b2 : Nat) 
    (hU : w.cell? ⟨b1, 0, none⟩ = some (.string k) ∧ w.cell? ⟨b2, 0, none⟩ = some (.string s) ∧ (O b1 ∧ ¬ OwnB b bs bn lv cv b1) ∧ (O b2 ∧ ¬ OwnB b bs bn lv cv b2)) (hf : Fit M.now (.app k s)) (ht : (tot (done M.now (.app k s)) : Int) ≤ M.room ∧ (done M.now (.app k s)).length ≤ 64) (hl : M.loose.length < 1000000) :
    Calls Tryd.prog 30 #[.pointer (some ⟨b, 0, none⟩), .int .i64 1, .func (.func 31) #[] #[.pointer (some ⟨b1, 0, none⟩), .pointer (some ⟨b2, 0, none⟩)]] w fun e w' => e = .returned (.int .i64 0) ∧ Dk w' (Gr O w w') b (doesM M (.app k s)) ∧ Stays O w w' := by
  have hk9 : DOk (doesM M (.app k s)) := h.ok.does _ hf ht
  have hcl : IsCall w (fun k => O k ∧ ¬ OwnB b bs bn lv cv k) (.func (.func 31) #[] #[.pointer (some ⟨b1, 0, none⟩), .pointer (some ⟨b2, 0, none⟩)]) (.app k s) := ⟨b1, b2, rfl, hU.1, hU.2.1, hU.2.2.1, hU.2.2.2⟩
  have hx : (atF M.now k ++ s).size ≤ tot (done M.now (.app k s)) := by
    have := tot_at (rise_put h.rest.now.rise k (atF M.now k ++ s)) k
    rw [at_put, if_pos rfl] at this
    exact this
  rw [ByteArray.size_append] at hx
  have hrm := h.ok.room
  have hc1 := app_calls h.rest.now (by have := (h.ok.small M.loose.length (Nat.le_refl _)).2; rw [List.take_length, ← h.ok.now] at this; unfold maxLen; omega) k s hf (by unfold maxLen; omega) 1099511627776 (by omega) b1 b2 hU.1 hU.2.1
  rw [show (min (1099511627776 : Int) (s.size : Int)).toNat = s.size by omega, ext_all] at hc1
  have hC := Lib.hid hc1
  clear hx hrm
  obtain ⟨-, -, q2, -, -, -⟩ := h.c6
  have hH := Lib.hid h
  have hO := Lib.hid hcl
  replace hk9 := Lib.hid hk9
  replace hl := Lib.hid hl
  clear h hf ht hcl hU hc1
  go_enter Tryd.func30, Tryd.ntmps30
  go_wp2_with fail
  refine hC.out.mono ?_
  rintro e w1 ⟨rfl, hF, hs1⟩
  obtain ⟨hR, hb⟩ := hH.out.rest.turn hH.out.blk hF hs1
  have hcl1 : IsCall w1 (fun k => O k ∧ ¬ OwnB b bs bn lv cv k) (.func (.func 31) #[] #[.pointer (some ⟨b1, 0, none⟩), .pointer (some ⟨b2, 0, none⟩)]) (.app k s) := hO.out.keep (fun k hU => hs1.block k (hH.out.rest.lo k hU.1) (fun e => hU.2 (.inr (.inr (.inl e))))) (fun _ h => h)
  have hob : Hid (O b ∧ O bn) := Lib.hid ⟨hR.own b (.inl rfl), hR.own bn (.inr (.inr (.inl rfl)))⟩
  obtain ⟨p3, n3, d3, w2, hr2, hg2, hb3, hR3, hs3⟩ := loose_step hR hb _ _ hcl1 hl.out 58
  have q3 := hb.blk.cell 3 rfl
  have hlt := hR.lo b hob.out.1
  have q3' : (w1.alloc (.cells #[.func (.func 31) #[] #[.pointer (some ⟨b1, 0, none⟩), .pointer (some ⟨b2, 0, none⟩)]] 70)).cell? ⟨b, 3, none⟩ = some lv := (cell_below ((Below.refl _ _).alloc (Nat.le_refl _) _) q3).trans q3
  have g1 := hg2.blk.cell 3 rfl
  have g2 := hg2.blk.frz 3
  have g3 := hg2.blk.cell 4 rfl
  obtain ⟨p5, n5, d5, w4, hr4, hg4, hb5, hR5, hs5⟩ := cuts_step hR3 hb3 (.app k s) hl.out 59
  have j1 := hg4.blk.cell 4 rfl
  have j2 := hg4.blk.frz 4
  rw [World.size_setCell] at hr4
  have hF9 : Hid (Dk (w4.setCell ⟨b, 4, none⟩ (.slice p5 n5 d5)) (Gr O w (w4.setCell ⟨b, 4, none⟩ (.slice p5 n5 d5))) b (doesM M (.app k s)) ∧ Stays O w (w4.setCell ⟨b, 4, none⟩ (.slice p5 n5 d5))) := Lib.hid (by
    obtain ⟨hR9, hs9⟩ := does_fin hH.out.rest.lo hob.out.2 hs1 hs3 hs5 hR5
    exact ⟨⟨bs, bn, _, _, _, ⟨hb5, hR9, hk9.out⟩⟩, hs9⟩)
  clear hC q2 hF hR hcl1 hR3 hs3 hs1 hb3 hg2 hR5 hs5 hb5 hg4
  replace hr2 := Lib.hid hr2
  replace hr4 := Lib.hid hr4
  clear hH hO hk9 hob hl hlt
  go_wp2_with (at_builtin; first | (refine wpList_append_run (sv := lv) (xv := .slice (some ⟨w1.heap.size, 0, none⟩) 1 1) rfl (.tmp 17) (.tmp 19) rfl rfl rfl hr2.out ?_) | (refine wpList_append_run (sv := cv) (xv := .slice (some ⟨w2.heap.size, 0, none⟩) 1 1) rfl (.tmp 27) (.tmp 29) rfl rfl rfl hr4.out ?_))
  go_ret
  exact ⟨rfl, hF9.out⟩
set_option maxRecDepth 100000 in
set_option maxHeartbeats 1000000 in
theorem does_cut {w : World} {O : Nat → Prop} {b bs bn : Nat} {lv cv : Value} {vs : List Value} {M : DM} (h : DkAt w O b bs bn lv cv vs M) (k : ByteArray) (n : Nat) (b1 b2 : Nat) 
    (hU : w.cell? ⟨b1, 0, none⟩ = some (.string k) ∧ w.cell? ⟨b2, 0, none⟩ = some (.int .i64 n) ∧ (O b1 ∧ ¬ OwnB b bs bn lv cv b1) ∧ (O b2 ∧ ¬ OwnB b bs bn lv cv b2)) (hf : Fit M.now (.cut k n)) (ht : (tot (done M.now (.cut k n)) : Int) ≤ M.room ∧ (done M.now (.cut k n)).length ≤ 64) (hl : M.loose.length < 1000000) :
    Calls Tryd.prog 30 #[.pointer (some ⟨b, 0, none⟩), .int .i64 0, .func (.func 32) #[] #[.pointer (some ⟨b1, 0, none⟩), .pointer (some ⟨b2, 0, none⟩)]] w fun e w' => e = .returned (.int .i64 0) ∧ Dk w' (Gr O w w') b (doesM M (.cut k n)) ∧ Stays O w w' := by
  have hk9 : DOk (doesM M (.cut k n)) := h.ok.does _ hf ht
  have hcl : IsCall w (fun k => O k ∧ ¬ OwnB b bs bn lv cv k) (.func (.func 32) #[] #[.pointer (some ⟨b1, 0, none⟩), .pointer (some ⟨b2, 0, none⟩)]) (.cut k n) := ⟨b1, b2, rfl, hU.1, hU.2.1, hU.2.2.1, hU.2.2.2⟩
  have hc1 := cut_calls h.rest.now (by have := (h.ok.small M.loose.length (Nat.le_refl _)).2; rw [List.take_length, ← h.ok.now] at this; unfold maxLen; omega) k hf.1 n hf.2.1 1099511627776 b1 b2 hU.1 hU.2.1
  have hC := Lib.hid hc1
  obtain ⟨-, -, q2, -, -, -⟩ := h.c6
  have hH := Lib.hid h
  have hO := Lib.hid hcl
  replace hk9 := Lib.hid hk9
  replace hl := Lib.hid hl
  clear h hf ht hcl hU hc1
  go_enter Tryd.func30, Tryd.ntmps30
  go_wp2_with fail
  refine hC.out.mono ?_
  rintro e w1 ⟨rfl, hF, hs1⟩
  obtain ⟨hR, hb⟩ := hH.out.rest.turn hH.out.blk hF hs1
  have hcl1 : IsCall w1 (fun k => O k ∧ ¬ OwnB b bs bn lv cv k) (.func (.func 32) #[] #[.pointer (some ⟨b1, 0, none⟩), .pointer (some ⟨b2, 0, none⟩)]) (.cut k n) := hO.out.keep (fun k hU => hs1.block k (hH.out.rest.lo k hU.1) (fun e => hU.2 (.inr (.inr (.inl e))))) (fun _ h => h)
  have hob : Hid (O b ∧ O bn) := Lib.hid ⟨hR.own b (.inl rfl), hR.own bn (.inr (.inr (.inl rfl)))⟩
  obtain ⟨p3, n3, d3, w2, hr2, hg2, hb3, hR3, hs3⟩ := loose_step hR hb _ _ hcl1 hl.out 58
  have q3 := hb.blk.cell 3 rfl
  have hlt := hR.lo b hob.out.1
  have q3' : (w1.alloc (.cells #[.func (.func 32) #[] #[.pointer (some ⟨b1, 0, none⟩), .pointer (some ⟨b2, 0, none⟩)]] 70)).cell? ⟨b, 3, none⟩ = some lv := (cell_below ((Below.refl _ _).alloc (Nat.le_refl _) _) q3).trans q3
  have g1 := hg2.blk.cell 3 rfl
  have g2 := hg2.blk.frz 3
  have g3 := hg2.blk.cell 4 rfl
  obtain ⟨p5, n5, d5, w4, hr4, hg4, hb5, hR5, hs5⟩ := cuts_step hR3 hb3 (.cut k n) hl.out 59
  have j1 := hg4.blk.cell 4 rfl
  have j2 := hg4.blk.frz 4
  rw [World.size_setCell] at hr4
  have hF9 : Hid (Dk (w4.setCell ⟨b, 4, none⟩ (.slice p5 n5 d5)) (Gr O w (w4.setCell ⟨b, 4, none⟩ (.slice p5 n5 d5))) b (doesM M (.cut k n)) ∧ Stays O w (w4.setCell ⟨b, 4, none⟩ (.slice p5 n5 d5))) := Lib.hid (by
    obtain ⟨hR9, hs9⟩ := does_fin hH.out.rest.lo hob.out.2 hs1 hs3 hs5 hR5
    exact ⟨⟨bs, bn, _, _, _, ⟨hb5, hR9, hk9.out⟩⟩, hs9⟩)
  clear hC q2 hF hR hcl1 hR3 hs3 hs1 hb3 hg2 hR5 hs5 hb5 hg4
  replace hr2 := Lib.hid hr2
  replace hr4 := Lib.hid hr4
  clear hH hO hk9 hob hl hlt
  go_wp2_with (at_builtin; first | (refine wpList_append_run (sv := lv) (xv := .slice (some ⟨w1.heap.size, 0, none⟩) 1 1) rfl (.tmp 17) (.tmp 19) rfl rfl rfl hr2.out ?_) | (refine wpList_append_run (sv := cv) (xv := .slice (some ⟨w2.heap.size, 0, none⟩) 1 1) rfl (.tmp 27) (.tmp 29) rfl rfl rfl hr4.out ?_))
  go_ret
  exact ⟨rfl, hF9.out⟩
set_option maxRecDepth 100000 in
set_option maxHeartbeats 1000000 in
theorem does_ren {w : World} {O : Nat → Prop} {b bs bn : Nat} {lv cv : Value} {vs : List Value} {M : DM} (h : DkAt w O b bs bn lv cv vs M) (k t : ByteArray) (b1 b2 : Nat) 
    (hU : w.cell? ⟨b1, 0, none⟩ = some (.string k) ∧ w.cell? ⟨b2, 0, none⟩ = some (.string t) ∧ (O b1 ∧ ¬ OwnB b bs bn lv cv b1) ∧ (O b2 ∧ ¬ OwnB b bs bn lv cv b2)) (hf : Fit M.now (.ren k t)) (ht : (tot (done M.now (.ren k t)) : Int) ≤ M.room ∧ (done M.now (.ren k t)).length ≤ 64) (hl : M.loose.length < 1000000) :
    Calls Tryd.prog 30 #[.pointer (some ⟨b, 0, none⟩), .int .i64 0, .func (.func 33) #[] #[.pointer (some ⟨b1, 0, none⟩), .pointer (some ⟨b2, 0, none⟩)]] w fun e w' => e = .returned (.int .i64 0) ∧ Dk w' (Gr O w w') b (doesM M (.ren k t)) ∧ Stays O w w' := by
  have hk9 : DOk (doesM M (.ren k t)) := h.ok.does _ hf ht
  have hcl : IsCall w (fun k => O k ∧ ¬ OwnB b bs bn lv cv k) (.func (.func 33) #[] #[.pointer (some ⟨b1, 0, none⟩), .pointer (some ⟨b2, 0, none⟩)]) (.ren k t) := ⟨b1, b2, rfl, hU.1, hU.2.1, hU.2.2.1, hU.2.2.2⟩
  have hc1 := ren_calls h.rest.now (by have := (h.ok.small M.loose.length (Nat.le_refl _)).2; rw [List.take_length, ← h.ok.now] at this; unfold maxLen; omega) k t hf.1 hf.2.1 1099511627776 b1 b2 hU.1 hU.2.1
  have hC := Lib.hid hc1
  obtain ⟨-, -, q2, -, -, -⟩ := h.c6
  have hH := Lib.hid h
  have hO := Lib.hid hcl
  replace hk9 := Lib.hid hk9
  replace hl := Lib.hid hl
  clear h hf ht hcl hU hc1
  go_enter Tryd.func30, Tryd.ntmps30
  go_wp2_with fail
  refine hC.out.mono ?_
  rintro e w1 ⟨rfl, hF, hs1⟩
  obtain ⟨hR, hb⟩ := hH.out.rest.turn hH.out.blk hF hs1
  have hcl1 : IsCall w1 (fun k => O k ∧ ¬ OwnB b bs bn lv cv k) (.func (.func 33) #[] #[.pointer (some ⟨b1, 0, none⟩), .pointer (some ⟨b2, 0, none⟩)]) (.ren k t) := hO.out.keep (fun k hU => hs1.block k (hH.out.rest.lo k hU.1) (fun e => hU.2 (.inr (.inr (.inl e))))) (fun _ h => h)
  have hob : Hid (O b ∧ O bn) := Lib.hid ⟨hR.own b (.inl rfl), hR.own bn (.inr (.inr (.inl rfl)))⟩
  obtain ⟨p3, n3, d3, w2, hr2, hg2, hb3, hR3, hs3⟩ := loose_step hR hb _ _ hcl1 hl.out 58
  have q3 := hb.blk.cell 3 rfl
  have hlt := hR.lo b hob.out.1
  have q3' : (w1.alloc (.cells #[.func (.func 33) #[] #[.pointer (some ⟨b1, 0, none⟩), .pointer (some ⟨b2, 0, none⟩)]] 70)).cell? ⟨b, 3, none⟩ = some lv := (cell_below ((Below.refl _ _).alloc (Nat.le_refl _) _) q3).trans q3
  have g1 := hg2.blk.cell 3 rfl
  have g2 := hg2.blk.frz 3
  have g3 := hg2.blk.cell 4 rfl
  obtain ⟨p5, n5, d5, w4, hr4, hg4, hb5, hR5, hs5⟩ := cuts_step hR3 hb3 (.ren k t) hl.out 59
  have j1 := hg4.blk.cell 4 rfl
  have j2 := hg4.blk.frz 4
  rw [World.size_setCell] at hr4
  have hF9 : Hid (Dk (w4.setCell ⟨b, 4, none⟩ (.slice p5 n5 d5)) (Gr O w (w4.setCell ⟨b, 4, none⟩ (.slice p5 n5 d5))) b (doesM M (.ren k t)) ∧ Stays O w (w4.setCell ⟨b, 4, none⟩ (.slice p5 n5 d5))) := Lib.hid (by
    obtain ⟨hR9, hs9⟩ := does_fin hH.out.rest.lo hob.out.2 hs1 hs3 hs5 hR5
    exact ⟨⟨bs, bn, _, _, _, ⟨hb5, hR9, hk9.out⟩⟩, hs9⟩)
  clear hC q2 hF hR hcl1 hR3 hs3 hs1 hb3 hg2 hR5 hs5 hb5 hg4
  replace hr2 := Lib.hid hr2
  replace hr4 := Lib.hid hr4
  clear hH hO hk9 hob hl hlt
  go_wp2_with (at_builtin; first | (refine wpList_append_run (sv := lv) (xv := .slice (some ⟨w1.heap.size, 0, none⟩) 1 1) rfl (.tmp 17) (.tmp 19) rfl rfl rfl hr2.out ?_) | (refine wpList_append_run (sv := cv) (xv := .slice (some ⟨w2.heap.size, 0, none⟩) 1 1) rfl (.tmp 27) (.tmp 29) rfl rfl rfl hr4.out ?_))
  go_ret
  exact ⟨rfl, hF9.out⟩
set_option maxRecDepth 100000 in
set_option maxHeartbeats 1000000 in
theorem does_rem {w : World} {O : Nat → Prop} {b bs bn : Nat} {lv cv : Value} {vs : List Value} {M : DM} (h : DkAt w O b bs bn lv cv vs M) (k : ByteArray) (b1 : Nat) 
    (hU : w.cell? ⟨b1, 0, none⟩ = some (.string k) ∧ (O b1 ∧ ¬ OwnB b bs bn lv cv b1)) (hf : Fit M.now (.rem k)) (ht : (tot (done M.now (.rem k)) : Int) ≤ M.room ∧ (done M.now (.rem k)).length ≤ 64) (hl : M.loose.length < 1000000) :
    Calls Tryd.prog 30 #[.pointer (some ⟨b, 0, none⟩), .int .i64 0, .func (.func 34) #[] #[.pointer (some ⟨b1, 0, none⟩)]] w fun e w' => e = .returned (.int .i64 0) ∧ Dk w' (Gr O w w') b (doesM M (.rem k)) ∧ Stays O w w' := by
  have hk9 : DOk (doesM M (.rem k)) := h.ok.does _ hf ht
  have hcl : IsCall w (fun k => O k ∧ ¬ OwnB b bs bn lv cv k) (.func (.func 34) #[] #[.pointer (some ⟨b1, 0, none⟩)]) (.rem k) := ⟨b1, rfl, hU.1, hU.2⟩
  have hc1 := rem_calls h.rest.now k hf 1099511627776 b1 hU.1
  have hC := Lib.hid hc1
  obtain ⟨-, -, q2, -, -, -⟩ := h.c6
  have hH := Lib.hid h
  have hO := Lib.hid hcl
  replace hk9 := Lib.hid hk9
  replace hl := Lib.hid hl
  clear h hf ht hcl hU hc1
  go_enter Tryd.func30, Tryd.ntmps30
  go_wp2_with fail
  refine hC.out.mono ?_
  rintro e w1 ⟨rfl, hF, hs1⟩
  obtain ⟨hR, hb⟩ := hH.out.rest.turn hH.out.blk hF hs1
  have hcl1 : IsCall w1 (fun k => O k ∧ ¬ OwnB b bs bn lv cv k) (.func (.func 34) #[] #[.pointer (some ⟨b1, 0, none⟩)]) (.rem k) := hO.out.keep (fun k hU => hs1.block k (hH.out.rest.lo k hU.1) (fun e => hU.2 (.inr (.inr (.inl e))))) (fun _ h => h)
  have hob : Hid (O b ∧ O bn) := Lib.hid ⟨hR.own b (.inl rfl), hR.own bn (.inr (.inr (.inl rfl)))⟩
  obtain ⟨p3, n3, d3, w2, hr2, hg2, hb3, hR3, hs3⟩ := loose_step hR hb _ _ hcl1 hl.out 58
  have q3 := hb.blk.cell 3 rfl
  have hlt := hR.lo b hob.out.1
  have q3' : (w1.alloc (.cells #[.func (.func 34) #[] #[.pointer (some ⟨b1, 0, none⟩)]] 70)).cell? ⟨b, 3, none⟩ = some lv := (cell_below ((Below.refl _ _).alloc (Nat.le_refl _) _) q3).trans q3
  have g1 := hg2.blk.cell 3 rfl
  have g2 := hg2.blk.frz 3
  have g3 := hg2.blk.cell 4 rfl
  obtain ⟨p5, n5, d5, w4, hr4, hg4, hb5, hR5, hs5⟩ := cuts_step hR3 hb3 (.rem k) hl.out 59
  have j1 := hg4.blk.cell 4 rfl
  have j2 := hg4.blk.frz 4
  rw [World.size_setCell] at hr4
  have hF9 : Hid (Dk (w4.setCell ⟨b, 4, none⟩ (.slice p5 n5 d5)) (Gr O w (w4.setCell ⟨b, 4, none⟩ (.slice p5 n5 d5))) b (doesM M (.rem k)) ∧ Stays O w (w4.setCell ⟨b, 4, none⟩ (.slice p5 n5 d5))) := Lib.hid (by
    obtain ⟨hR9, hs9⟩ := does_fin hH.out.rest.lo hob.out.2 hs1 hs3 hs5 hR5
    exact ⟨⟨bs, bn, _, _, _, ⟨hb5, hR9, hk9.out⟩⟩, hs9⟩)
  clear hC q2 hF hR hcl1 hR3 hs3 hs1 hb3 hg2 hR5 hs5 hb5 hg4
  replace hr2 := Lib.hid hr2
  replace hr4 := Lib.hid hr4
  clear hH hO hk9 hob hl hlt
  go_wp2_with (at_builtin; first | (refine wpList_append_run (sv := lv) (xv := .slice (some ⟨w1.heap.size, 0, none⟩) 1 1) rfl (.tmp 17) (.tmp 19) rfl rfl rfl hr2.out ?_) | (refine wpList_append_run (sv := cv) (xv := .slice (some ⟨w2.heap.size, 0, none⟩) 1 1) rfl (.tmp 27) (.tmp 29) rfl rfl rfl hr4.out ?_))
  go_ret
  exact ⟨rfl, hF9.out⟩
end Go.Proofs.YtenjllkhbpoffaaDoor
