/-
  (*Reads).Ready's test of one wait; IndexFunc by it.
-/
import Derived.Test.YtjjdfhokmiaekaaRdDrop
namespace Go.Proofs.Ytjjdfhokmiaekaa
open Go Go.RowKit Go.Lst Go.Lx Go.Maps

def outC : List Wt → List Value
  | [] => []
  | e :: es => [.int .u64 e.id, .int .u64 e.ix] ++ outC es
theorem outC_append : ∀ (xs ys : List Wt), outC (xs ++ ys) = outC xs ++ outC ys
  | [], _ => rfl
  | x :: xs, ys => by simp [outC, outC_append xs ys]
theorem outC_length : ∀ xs : List Wt, (outC xs).length = xs.length * 2
  | [] => rfl
  | x :: xs => by simp only [outC, List.length_append, List.length_cons, List.length_nil, outC_length xs]; omega
/-- The variable of the reads that go. -/
structure Out (w : World) (Bo base : Nat) (ov : Value) (xs : List Wt) : Prop where
  blk : w.heap[Bo]? = some (.cells #[ov] 43 (0, 0))
  row : w.ownsRow base 46 2 ov xs.length (outC xs)
theorem Out.keep {w w' : World} {Bo base : Nat} {ov : Value} {xs : List Wt} (h : Out w Bo base ov xs) (h1 : w'.heap[Bo]? = w.heap[Bo]?) (h2 : ∀ k, ov.ownBlock = some k → w'.heap[k]? = w.heap[k]?) : Out w' Bo base ov xs := ⟨h1.trans h.blk, own_keep h.row h2⟩
theorem Out.below {w w' : World} {Bo base : Nat} {ov : Value} {xs : List Wt} (h : Out w Bo base ov xs) (hb : Below w.heap.size w w') : Out w' Bo base ov xs :=
  h.keep (hb.block _ (heap_lt' h.blk)) (fun k hk => hb.block k (own_block h.row hk).2)
theorem infoRead : (Try.prog.info? 46).map (fun i => (i.zero, i.size, i.bytes)) = some (some (.agg #[.int .u64 0, .int .u64 0]), 2, 16) := by kernel_rfl
/-- What a test of the waits finds, and leaves. -/
structure Ctx (A0 : World) (b hb n : Nat) (wv : Value) (S : RS) (Bp Ba Bo : Nat) (ap : Int) : Prop where
  hd : HdAt A0 b hb n S
  cp : A0.cell? ⟨Bp, 0, none⟩ = some (.pointer (some ⟨b, 0, none⟩))
  ca : A0.cell? ⟨Ba, 0, none⟩ = some (.int .u64 ap)
  ap : Bp ≠ Bo ∧ Ba ≠ Bo ∧ b ≠ Bo ∧ hb ≠ Bo ∧ wv.ownBlock ≠ some Bp ∧ wv.ownBlock ≠ some Ba ∧ wv.ownBlock ≠ some b ∧ wv.ownBlock ≠ some hb ∧ wv.ownBlock ≠ some Bo
  bo : Bo < A0.heap.size
  nc : ¬ Calm 0 A0 Bo ∧ ∀ k, wv.ownBlock = some k → ¬ Calm 0 A0 k
  wl : ∀ k, wv.ownBlock = some k → k < A0.heap.size
def InO (Bo : Nat) (wv : Value) (k : Nat) : Prop := k = Bo ∨ wv.ownBlock = some k
section
variable {A0 A : World} {b hb n : Nat} {wv ov : Value} {S : RS} {Bp Ba Bo : Nat} {ap : Int} {xs : List Wt}
theorem Ctx.hdAt (c : Ctx A0 b hb n wv S Bp Ba Bo ap) (hs : Stays (InO Bo wv) A0 A) : HdAt A b hb n S := by
  obtain ⟨a1, a2, a3, a4, a5, a6, a7, a8, a9⟩ := c.ap
  exact c.hd.keep (hs.block b c.hd.lt.1 (fun e => e.elim a3 a7)) (hs.block hb c.hd.lt.2 (fun e => e.elim a4 a8))
theorem Ctx.cps (c : Ctx A0 b hb n wv S Bp Ba Bo ap) (hs : Stays (InO Bo wv) A0 A) : A.cell? ⟨Bp, 0, none⟩ = some (.pointer (some ⟨b, 0, none⟩)) := stays_at hs c.cp (fun e => e.elim c.ap.1 c.ap.2.2.2.2.1)
theorem Ctx.cas (c : Ctx A0 b hb n wv S Bp Ba Bo ap) (hs : Stays (InO Bo wv) A0 A) : A.cell? ⟨Ba, 0, none⟩ = some (.int .u64 ap) := stays_at hs c.ca (fun e => e.elim c.ap.2.1 c.ap.2.2.2.2.2.1)
theorem Ctx.calms (c : Ctx A0 b hb n wv S Bp Ba Bo ap) (hs : Stays (InO Bo wv) A0 A) : Calms 0 A0 A := Calms.stays hs (fun g hg _ hc => by
  rcases hg with rfl | h
  · exact c.nc.1 hc
  · exact c.nc.2 g h hc)
end
set_option maxRecDepth 100000 in
set_option maxHeartbeats 2000000 in
theorem goes_calls {A0 : World} {b hb n : Nat} {wv : Value} {S : RS} {Bp Ba Bo : Nat} {ap : Int} (cx : Ctx A0 b hb n wv S Bp Ba Bo ap) {A : World} {ov : Value} {xs : List Wt} (hs : Stays (InO Bo wv) A0 A) (ho : Out A Bo A0.heap.size ov xs) (hx : xs.length ≤ 256) (e : Wt) (cv : Value) (hc : Nums .i64 A cv e.c) (hm : may e.c = true) :
    Calls Try.prog 59 #[wtV e cv, .pointer (some ⟨Ba, 0, none⟩), .pointer (some ⟨Bp, 0, none⟩), .pointer (some ⟨Bo, 0, none⟩)] A fun y A' => y = .returned (.bool (goesB S ap e)) ∧ Stays (InO Bo wv) A0 A' ∧ (∃ ov', Out A' Bo A0.heap.size ov' (if goesB S ap e then xs ++ [e] else xs)) ∧ (∀ k, k < A.heap.size → k ≠ Bo → ov.ownBlock ≠ some k → A'.heap[k]? = A.heap[k]?) ∧ A.heap.size ≤ A'.heap.size := by
  obtain ⟨i0, hi, hz0, hz1, hz2⟩ := info_parts infoRead
  obtain ⟨g, hg⟩ : ∃ g, goesB S ap e = g := ⟨_, rfl⟩
  rw [hg]
  unfold goesB at hg
  have c0 := cx.cas hs
  have c1 := cx.cps hs
  have hSu := Lib.hid (fun A' (hb : Below A.heap.size A A') => sure_calls ((cx.hdAt hs).below hb) e cv (hc.below hb) hm)
  unfold wtV at hSu ⊢
  obtain ⟨id, ix, r, c⟩ := e
  obtain ⟨p, cc, hcv, -⟩ := hc.parts
  subst hcv
  dsimp only at hSu hg ⊢
  have hm1 := made1 A #[.int .u64 id, .int .u64 ix, .int .u64 r, .slice p c.length cc] 109
  dsimp only at hm1
  obtain ⟨hE, hB0, hz⟩ := hm1
  obtain ⟨e0, e1, e2, e3, -⟩ := hE.c4
  have same : ∀ {A'}, Below A.heap.size A A' → Stays (InO Bo wv) A0 A' ∧ (∃ ov', Out A' Bo A0.heap.size ov' xs) ∧ (∀ k, k < A.heap.size → k ≠ Bo → ov.ownBlock ≠ some k → A'.heap[k]? = A.heap[k]?) ∧ A.heap.size ≤ A'.heap.size :=
    fun {_} hb => ⟨stays_on hs hb, ⟨_, ho.below hb⟩, fun k hk _ _ => hb.block k hk, hb.size⟩
  replace same := @Lib.hid _ @same
  replace c0 := (cell_below hB0 c0).trans c0
  replace c1 := (cell_below hB0 c1).trans c1
  have hob := (ho.below hB0).blk
  replace hB0 := Lib.hid hB0
  have ho' := Lib.hid ho
  have hs' := Lib.hid hs
  clear hE hc hm ho hs
  by_cases h1 : ap < ix
  · have h1b : decide (ap < ix) = true := decide_eq_true h1
    rw [decide_eq_false (show ¬ ix ≤ ap by omega), Bool.false_and] at hg
    subst hg
    rw [if_neg (by decide)]
    clear h1 hob
    go_enter Try.func59, Try.ntmps59
    go_wp2_with fail
    go_ret
    exact ⟨rfl, same.out hB0.out⟩
  have h1b : decide (ap < ix) = false := decide_eq_false h1
  rw [decide_eq_true (show ix ≤ ap by omega), Bool.true_and] at hg
  rw [hg] at hSu
  clear h1
  cases g with
  | false =>
    rw [if_neg (by decide)]
    clear hob
    go_enter Try.func59, Try.ntmps59
    go_wp2_with fail
    refine (hSu.out _ hB0.out).mono ?_
    rintro y w2 ⟨rfl, hb2⟩
    replace hB0 := Lib.hid (Lx.bstep hB0.out (Nat.le_refl _) hb2)
    clear c0 c1 e0 e1 e2 e3 hb2
    go_wp2_with fail
    go_ret
    exact ⟨rfl, same.out hB0.out⟩
  | true =>
    rw [if_pos rfl]
    go_enter Try.func59, Try.ntmps59
    go_wp2_with fail
    refine (hSu.out _ hB0.out).mono ?_
    rintro y w2 ⟨rfl, hb2⟩
    replace e0 := (cell_below hb2 e0).trans e0
    replace e1 := (cell_below hb2 e1).trans e1
    replace hB0 := Lib.hid (Lx.bstep hB0.out (Nat.le_refl _) hb2)
    have hO := ho'.out.below hB0.out
    have hob := hO.blk
    have q0 : w2.cell? ⟨Bo, 0, none⟩ = some ov := by simp [World.cell?, hob]
    have hown := hO.row
    have hbs := hB0.out.size
    have hbase : A0.heap.size ≤ w2.heap.size := Nat.le_trans hs'.out.size hbs
    clear c0 c1 e2 e3 hb2 hSu same hz
    have hrow := Lib.hid hown
    have hwA := Lib.hid (Lx.bstep hB0.out (Nat.le_refl _) ((Below.refl w2.heap.size w2).alloc (Nat.le_refl _) (.cells #[.int .u64 id, .int .u64 ix] 46)))
    have hns : ov.ownBlock ≠ some Bo := fun e => by have := (own_block hown e).1; have := cx.bo; omega
    have hcl : ∀ j v, ([Value.int .u64 id, .int .u64 ix] : List Value)[j]? = some v → (w2.alloc (.cells #[.int .u64 id, .int .u64 ix] 46)).cell? ((⟨w2.heap.size, 0, none⟩ : Addr).add j) = some v := blkc (Blk.new w2 _ _)
    have hBo : (w2.alloc (.cells #[.int .u64 id, .int .u64 ix] 46)).heap[Bo]? = some (.cells #[ov] 43 (0, 0)) := (heap_alloc_old _ _ (heap_lt' hob)).trans hob
    have hlt := heap_lt' hBo
    replace hcl := Lib.hid hcl
    replace hbs := Lib.hid hbs
    replace hbase := Lib.hid hbase
    replace hob := Lib.hid hob
    go_wp2_with (at_builtin; refine wpList_append_own_at _ rfl (.tmp 17) (.tmp 20) 43 rfl A0.heap.size 46 i0 (.agg #[.int .u64 0, .int .u64 0]) 2 16 Try.underlying43 hi hz0 hz1 hz2 rfl (by decide) _ _ _ rfl (hown.alloc _) ⟨w2.heap.size, 0, none⟩ 1 1 [.int .u64 id, .int .u64 ix] rfl rfl hcl.out (by simp [Value.oneCell']) (by unfold maxLen; omega) (by omega) (by have := hbase.out; simp; omega) ?_; intro v' w3 hown3 hg3 _ hf3; have hBo3 := (hg3.block Bo hlt (fun e => hns e.symm)).trans hBo; obtain ⟨p3, l3, c3, rfl⟩ := own_slice hown3; have f0 := Blk.frz ⟨_, hBo3⟩ 0; have x0 := Blk.cell ⟨_, hBo3⟩ 0 rfl)
    go_ret
    have hst3 : Stays (InO Bo wv) A0 w3 := (stays_on hs'.out hwA.out).trans (Stays.of_grown (O := fun k => ov.ownBlock = some k) hg3 (fun k hk _ => hk)) (fun i hi hk => by have := (own_block hrow.out hk).1; omega)
    have hn3 : (Value.slice p3 l3 c3).ownBlock ≠ some Bo := fun e => by
      rcases hf3 with h | h
      · rw [h] at e; exact hns e
      · rw [h] at e; cases e; omega
    refine ⟨rfl, hst3.setCell (p := ⟨Bo, 0, none⟩) (fun _ => .inl rfl) _, ⟨.slice p3 l3 c3, ?_, ?_⟩, fun k hk h1 h2 => ?_, ?_⟩
    · have := heap_at (cs := [ov]) hBo3 0 (.slice p3 l3 c3)
      simpa using this
    · rw [outC_append, List.length_append]
      exact own_keep hown3 (fun g hg => Below.heap_setCell _ _ _ _ (fun e => hn3 (by dsimp only at e; rw [← e]; exact hg)))
    · rw [Below.heap_setCell _ _ _ _ (by dsimp only; omega), hg3.block k (Nat.lt_of_lt_of_le hk hwA.out.size) (fun e => h2 e.symm), hwA.out.block k hk]
    · exact Nat.le_trans hwA.out.size (Nat.le_trans hg3.size (by simp))
theorem row_rest {A0 A A' : World} {b hb n : Nat} {wv ov : Value} {S : RS} {Bp Ba Bo : Nat} {ap : Int} {xs : List Wt} (cx : Ctx A0 b hb n wv S Bp Ba Bo ap) (hs : Stays (InO Bo wv) A0 A) (ho : Out A Bo A0.heap.size ov xs) (hk : ∀ k, k < A.heap.size → k ≠ Bo → ov.ownBlock ≠ some k → A'.heap[k]? = A.heap[k]?) (hsz : A.heap.size ≤ A'.heap.size) : (∀ k, wv.ownBlock = some k → A'.heap[k]? = A.heap[k]?) ∧ Calms 0 A A' := by
  have hlo : ∀ k, ov.ownBlock = some k → ¬ Calm 0 A k := fun k hk => by
    rcases ho.row.2 with ⟨rfl, _⟩ | ⟨g, cap, cur, rfl, hB, hh, r⟩
    · cases hk
    · cases hk
      exact calm_cells hh (by decide)
  refine ⟨fun k hk1 => hk k (Nat.lt_of_lt_of_le (cx.wl k hk1) hs.size) (fun e => cx.ap.2.2.2.2.2.2.2.2 (e ▸ hk1)) (fun e => by have := (own_block ho.row e).1; have := cx.wl k hk1; omega), ⟨hsz, fun g hlt hc => hk g hlt (fun e => ?_) (fun e => hlo g e hc)⟩⟩
  subst e
  exact calm_cells ho.blk (by decide) hc
set_option maxRecDepth 100000 in
set_option maxHeartbeats 2000000 in
theorem IndexGoes_calls {A0 : World} {b hb n : Nat} {wv : Value} {S : RS} {Bp Ba Bo : Nat} {ap : Int} (cx : Ctx A0 b hb n wv S Bp Ba Bo ap) {B0 : Nat} {A : World} {ov : Value} {l : List Wt} (hs : Stays (InO Bo wv) A0 A) (ho : Out A Bo A0.heap.size ov []) (hr : WRow B0 A wv l) (hl : l.length ≤ 256) (hmy : ∀ e ∈ l, may e.c = true) :
    Calls Try.prog 73 #[wv, .func (.func 59) #[] #[.pointer (some ⟨Ba, 0, none⟩), .pointer (some ⟨Bp, 0, none⟩), .pointer (some ⟨Bo, 0, none⟩)]] A fun y A' => Stays (InO Bo wv) A0 A' ∧ WRow B0 A' wv l ∧ ((y = .returned (.int .i64 (-1)) ∧ (∀ e ∈ l, goesB S ap e = false) ∧ ∃ ov', Out A' Bo A0.heap.size ov' []) ∨ ∃ (i : Nat) (h : i < l.length), y = .returned (.int .i64 (i : Int)) ∧ goesB S ap l[i] = true ∧ (∀ e ∈ l.take i, goesB S ap e = false) ∧ ∃ ov', Out A' Bo A0.heap.size ov' [l[i]]) := by
  have hG := Lib.hid (fun (A : World) ov hs ho e cv hc hm => goes_calls cx (A := A) (ov := ov) (xs := []) hs ho (by decide) e cv hc hm)
  unfold wtV at hG
  have hRR := Lib.hid (fun (A A' : World) ov hs ho hk hsz => row_rest cx (A := A) (A' := A') (ov := ov) (xs := []) hs ho hk hsz)
  have hs0 := Lib.hid hs
  have ho0 := Lib.hid ho
  have hr0 := Lib.hid hr
  have hmy' := Lib.hid hmy
  obtain ⟨p, c, hv, hc1, hc2⟩ := hr.parts
  obtain ⟨m, hm⟩ : ∃ m, l.length = m := ⟨_, rfl⟩
  rw [hm] at hv hc1 hl
  have hmm : (m : Int) ≤ 256 := by omega
  clear hs ho hr hmy cx
  subst hv
  replace hm := Lib.hid hm
  replace hc1 := Lib.hid hc1
  replace hc2 := Lib.hid hc2
  go_enter Try.func73, Try.ntmps73
  go_wp2_with fail
  go_loopg [8] (m + 1) (fun k v8 W => ∃ (j : Nat), v8 = .int .i64 (j : Int) ∧ j ≤ m ∧ m < j + k ∧ (∀ e ∈ l.take j, goesB S ap e = false) ∧ Stays (InO Bo (.slice p m c)) A0 W ∧ WRow B0 W (.slice p m c) l ∧ ∃ ov', Out W Bo A0.heap.size ov' [])
  case atStart => exact ⟨0, rfl, by omega, by omega, fun e he => by simp at he, hs0.out, hr0.out, _, ho0.out⟩
  case round =>
    obtain ⟨j, rfl, hj, hk, hall, hsW, hrW, ov', hoW⟩ := hrel
    cases gk with
    | zero => omega
    | succ k =>
      by_cases hlt : j < m
      case neg =>
        have hd : decide ((j : Int) < (m : Int)) = false := by simp; omega
        have hm' := hm.out
        rw [List.take_of_length_le (by omega)] at hall
        clear hj hk
        replace hall := Lib.hid hall
        replace hsW := Lib.hid hsW
        replace hrW := Lib.hid hrW
        replace hoW := Lib.hid hoW
        go_wp2_with fail
        go_ret
        exact ⟨hsW.out, hrW.out, .inl ⟨rfl, hall.out, _, hoW.out⟩⟩
      case pos =>
        have hlt1 : (j : Int) < (m : Int) := by omega
        have h0 : (0 : Int) ≤ (j : Int) := by omega
        have hm' := hm.out
        have hjl : j < l.length := by omega
        obtain ⟨a, c', cv, ev, g0, g1, g2, g3, hcv⟩ := hrW.get j hjl
        injection ev with e1 e2 e3
        subst e1 e3
        obtain ⟨q, d, hcv2, -⟩ := hcv.n.parts
        have hC := hG.out wr ov' hsW hoW l[j] cv hcv.n (hmy'.out _ (List.getElem_mem hjl))
        have hRj := Lib.hid (fun A' hk hsz => hRR.out wr A' ov' hsW hoW hk hsz)
        subst hcv2
        have hst : (∀ e ∈ l.take (j + 1), goesB S ap e = false) ↔ goesB S ap l[j] = false := by
          rw [List.take_succ_eq_append_getElem hjl]
          constructor
          · intro h; exact h _ (List.mem_append_right _ (List.mem_singleton.2 rfl))
          · intro h e he
            rw [List.mem_append] at he
            rcases he with he | he
            · exact hall e he
            · simp at he; rw [he]; exact h
        obtain ⟨e, he⟩ : ∃ e, l[j] = e := ⟨_, rfl⟩
        rw [he] at g0 g1 g2 g3 hC hst
        obtain ⟨i, x, r, cc⟩ := e
        dsimp only at g0 g1 g2 g3 hC
        obtain ⟨gb, hgb⟩ : ∃ gb, goesB S ap ⟨i, x, r, cc⟩ = gb := ⟨_, rfl⟩
        rw [hgb] at hC hst
        replace hrW := Lib.hid hrW
        clear hcv e2 hsW hoW
        replace he := Lib.hid he
        replace hst := Lib.hid hst
        replace hall := Lib.hid hall
        replace hC := Lib.hid hC
        go_wp2_with fail
        refine hC.out.mono ?_
        rintro y w2 ⟨rfl, hs2, ⟨ov2, ho2⟩, hk2, hsz2⟩
        obtain ⟨r1, r2⟩ := hRj.out w2 hk2 hsz2
        have hr2 := hrW.out.keep r2 r1
        clear hk2 r1 r2
        replace hs2 := Lib.hid hs2
        replace ho2 := Lib.hid ho2
        replace hr2 := Lib.hid hr2
        cases gb with
        | true =>
          go_wp2_with fail
          go_ret
          exact ⟨hs2.out, hr2.out, .inr ⟨j, hjl, rfl, by rw [he.out]; exact hgb, hall.out, _, by rw [he.out]; exact ho2.out⟩⟩
        | false =>
          go_wp2_with fail
          go_roundg k
          case measure => omega
          case rel => exact ⟨j + 1, by go_num, by omega, by omega, hst.out.2 (by first | rfl | trivial), hs2.out, hr2.out, _, ho2.out⟩
end Go.Proofs.Ytjjdfhokmiaekaa
