/-
  (*Reads).Ack, Drop, Waits, Round; New.
-/
import Derived.Test.YtjjdfhokmiaekaaRdAsk
import Derived.Maps.OwnSet
namespace Go.Proofs.Ytjjdfhokmiaekaa
open Go Go.RowKit Go.Lst Go.Lx Go.Maps

theorem HMap.store {w : World} {b n : Nat} {h : Int → Int} (hm : HMap w b n h) (hn : n < maxLen) {x y : Int} (hx : (Lit.int .i64 x).wf = true) (hy : (Lit.int .u64 y).wf = true) : ∃ w', (Instr.mapUpdate 31 (.map (some b)) (.int .i64 x) (.int .u64 y)).run Try.prog w = .ok () w' ∧ HMap w' b (n + 1) (fun z => if z = x then y else h z) ∧ w.grownBy w' (some b) := by
  obtain ⟨D, h1, h2, h3⟩ := hm
  obtain ⟨w', hr, h4, h5⟩ := h1.update keyI Try.underlying31 hn (keyOf_int_mk Try.underlying3 hx) (plainElem_int Try.underlying32 hy)
  refine ⟨w', hr, ⟨_, h4, isMap_put h2 _ _, fun z => ?_⟩, h5⟩
  by_cases hz : z = x
  · subst hz
    rw [atKey_put_same h2 (by trivial)]
    simp
  · rw [atKey_put_other (by simpa using hz), h3 z]
    simp [hz]
set_option maxRecDepth 100000 in
theorem NewRd_bad (w : World) (me : Int) (h : me < 1 ∨ 64 < me) : Calls Try.prog 14 #[.int .i64 me] w fun y w' => y = .returned (.tuple #[.pointer none, .int .i64 2]) ∧ Below w.heap.size w w' := by
  by_cases h1 : me < 1
  · have h1b : decide (me < 1) = true := decide_eq_true h1
    clear h h1
    go_enter Try.func14, Try.ntmps14
    go_wp2_with fail
    go_ret2
    exact ⟨rfl, Below.refl _ _⟩
  have h1b : decide (me < 1) = false := decide_eq_false h1
  have h2b : decide (64 < me) = true := decide_eq_true (h.resolve_left h1)
  clear h h1
  go_enter Try.func14, Try.ntmps14
  go_wp2_with fail
  go_ret2
  exact ⟨rfl, Below.refl _ _⟩
set_option maxRecDepth 100000 in
theorem NewRd_good (w : World) (me : Int) (h1 : ¬ me < 1) (h2 : ¬ 64 < me) : Calls Try.prog 14 #[.int .i64 me] w fun y w' => ∃ b hb, y = .returned (.tuple #[.pointer (some ⟨b, 0, none⟩), .int .i64 0]) ∧ RdAt w.heap.size w' b hb 0 (.slice none 0 0) ⟨me, 0, [], fun _ => 0⟩ ∧ Below w.heap.size w w' := by
  have hmm := @run_makeMap Try.prog
  have h1b : decide (me < 1) = false := decide_eq_false h1
  have h2b : decide (64 < me) = false := decide_eq_false h2
  clear h1 h2
  go_enter Try.func14, Try.ntmps14
  go_wp2_with fail
  go_ret2
  refine ⟨w.heap.size + 1, w.heap.size, rfl, ⟨by have := heap_alloc_new (w.alloc (Obj.map #[] 0)) (.cells #[.int .i64 me, .int .u64 0, .slice none 0 0, .map (some w.heap.size)] 106); simpa using this, WRow.nil _ _, (HMap.made w).keep (heap_alloc_old _ _ (by simp)), ⟨by omega, Nat.le_refl _⟩⟩, ((Below.refl _ _).alloc (Nat.le_refl _) _).alloc (by simp) _⟩
set_option maxRecDepth 100000 in
theorem HMap.wf {w : World} {b n : Nat} {h : Int → Int} (hm : HMap w b n h) {x : Int} (hx : (Lit.int .i64 x).wf = true) : (Lit.int .u64 (h x)).wf = true := by
  obtain ⟨D, h1, h2, h3⟩ := hm
  obtain ⟨c, hr, ha, hw⟩ := h1.lookup_int keyI Try.underlying31 Try.underlying32 (zeroU w) (keyOf_int_mk Try.underlying3 hx)
  rw [h3 x] at ha
  injection ha with ha
  injection ha with _ ha
  rw [ha]
  exact hw
theorem HMap.mono {w : World} {b n n' : Nat} {h : Int → Int} (hm : HMap w b n h) (hn : n ≤ n') : HMap w b n' h := by
  obtain ⟨D, h1, h2, h3⟩ := hm
  exact ⟨D, h1.mono hn, h2, h3⟩
set_option maxRecDepth 100000 in
set_option maxHeartbeats 4000000 in
theorem Ack_calls {B0 : Nat} {w : World} {b hb n : Nat} {wv : Value} {S : RS} (h : RdAt B0 w b hb n wv S) (hn : n < 1000000) (f r : Int) (hf : (Lit.int .i64 f).wf = true) (hr : (Lit.int .u64 r).wf = true) :
    Calls Try.prog 17 #[.pointer (some ⟨b, 0, none⟩), .agg #[.int .i64 f, .int .u64 r]] w fun y w' => y = .returned (.int .i64 (ackE S f)) ∧ RdAt B0 w' b hb (n + 1) wv (ackS S f r) ∧ Stays (fun k => k = hb) w w' ∧ Calms 0 w w' := by
  have hH := Lib.hid h
  have hmn := fun A => eql_map_nil A hb
  obtain ⟨E, hE⟩ : ∃ E, ackE S f = E := ⟨_, rfl⟩
  obtain ⟨S', hS'⟩ : ∃ S', ackS S f r = S' := ⟨_, rfl⟩
  rw [hE, hS']
  unfold ackS at hS'
  rw [hE] at hS'
  unfold ackE at hE
  have hm1 := made1 w #[.int .i64 f, .int .u64 r] 42
  dsimp only at hm1
  obtain ⟨hI, hB, -⟩ := hm1
  have i0 := hI.cell 0 rfl
  have i1 := hI.cell 1 rfl
  have hrl := Lib.hid (hH.out.below hB)
  obtain ⟨q0, q1, q2, q3, -⟩ := hrl.out.isBlk.c4
  have same : ∀ {w' : World}, Below w.heap.size w w' → RdAt B0 w' b hb (n + 1) wv S ∧ Stays (fun k => k = hb) w w' ∧ Calms 0 w w' :=
    fun {_} hb => ⟨⟨(hH.out.below hb).blk, (hH.out.below hb).row, (hH.out.below hb).map.mono (Nat.le_succ _), hH.out.lo⟩, Stays.of_below hb, Calms.below hb⟩
  replace same := @Lib.hid _ @same
  clear h hI
  replace hn := Lib.hid hn
  replace hB := Lib.hid hB
  by_cases c1 : f < 1
  · rw [if_pos (.inl c1)] at hE
    subst hE
    rw [if_neg (by rintro ⟨h, _⟩; cases h)] at hS'
    subst hS'
    have c1b : decide (f < 1) = true := decide_eq_true c1
    go_enter Try.func17, Try.ntmps17
    go_wp2_with fail
    go_ret
    exact ⟨rfl, same.out hB.out⟩
  have c1b : decide (f < 1) = false := decide_eq_false c1
  by_cases c2 : 64 < f
  · rw [if_pos (.inr (.inl c2))] at hE
    subst hE
    rw [if_neg (by rintro ⟨h, _⟩; cases h)] at hS'
    subst hS'
    have c2b : decide (64 < f) = true := decide_eq_true c2
    go_enter Try.func17, Try.ntmps17
    go_wp2_with fail
    go_ret
    exact ⟨rfl, same.out hB.out⟩
  have c2b : decide (64 < f) = false := decide_eq_false c2
  obtain ⟨me, hme⟩ : ∃ m, S.me = m := ⟨_, rfl⟩
  rw [hme] at q0 hE
  by_cases c3 : f = me
  · rw [if_pos (.inr (.inr c3))] at hE
    subst hE
    rw [if_neg (by rintro ⟨h, _⟩; cases h)] at hS'
    subst hS'
    have c3b : (f == me) = true := by simpa using c3
    clear c3
    go_enter Try.func17, Try.ntmps17
    go_wp2_with fail
    go_quiet (fail)
    go_wp2_with fail
    go_ret
    exact ⟨rfl, same.out (below_drewN hB.out _)⟩
  have c3b : (f == me) = false := by simpa using c3
  rw [if_neg (by rintro (h | h | h); exact c1 h; exact c2 h; exact c3 h)] at hE
  subst hE
  obtain ⟨rd, hrd⟩ : ∃ rd, S.rd = rd := ⟨_, rfl⟩
  rw [hrd] at q1 hS'
  by_cases c4 : r ≤ rd
  case neg =>
    rw [if_neg (by rintro ⟨_, h⟩; exact c4 h)] at hS'
    subst hS'
    have c4b : decide (r ≤ rd) = false := decide_eq_false c4
    clear c1 c2 c3 c4
    go_enter Try.func17, Try.ntmps17
    go_wp2_with fail
    go_quiet (fail)
    go_wp2_with fail
    go_quiet (fail)
    go_wp2_with fail
    go_ret
    exact ⟨rfl, same.out (below_drewN (below_drewN hB.out _) _)⟩
  case pos =>
  rw [if_pos ⟨rfl, c4⟩] at hS'
  have c4b : decide (r ≤ rd) = true := decide_eq_true c4
  clear c1 c2 c3 c4
  go_enter Try.func17, Try.ntmps17
  go_wp2_with fail
  go_quiet (fail)
  generalize nq = n1 at *
  go_wp2_with fail
  go_quiet (fail)
  go_wp2_with fail
  have hB9 := Lib.hid (below_drewN (below_drewN hB.out n1) nq)
  have hst := Lib.hid (hH.out.below hB9.out)
  have j0 : (((w.alloc (.cells #[.int .i64 f, .int .u64 r] 42)).drewN n1).drewN nq).cell? ⟨w.heap.size, 0, none⟩ = some (.int .i64 f) := i0
  have j1 : (((w.alloc (.cells #[.int .i64 f, .int .u64 r] 42)).drewN n1).drewN nq).cell? ⟨w.heap.size, 1, none⟩ = some (.int .u64 r) := i1
  clear hB i0 i1 q0 q1 q2 q3 hrl hmn
  generalize ((w.alloc (.cells #[.int .i64 f, .int .u64 r] 42)).drewN n1).drewN nq = W at *
  obtain ⟨-, -, -, q3, -⟩ := hst.out.isBlk.c4
  obtain ⟨z, hz⟩ : ∃ z, S.h f = z := ⟨_, rfl⟩
  have hlk : ∀ x : Ext W, (Instr.lookup 31 (.map (some hb)) (.int .i64 f) false).run Try.prog x.wo = .ok (.int .u64 z) x.wo := fun x => by
    have := (hst.out.below x.below).map.look hf
    rwa [hz] at this
  have hwz := Lib.hid (hst.out.map.wf hf)
  rw [hz] at hwz
  have y0 := fun x : Ext W => (cell_below x.below j0).trans j0
  have y1 := fun x : Ext W => (cell_below x.below j1).trans j1
  have y3 := fun x : Ext W => (cell_below x.below q3).trans q3
  have hnon : Nonempty (Ext W) := ⟨⟨W, Below.refl _ _⟩⟩
  have hmx : (if z < r then r else z) = max z r := by split <;> omega
  have hwm := Lib.hid (show (Lit.int .u64 (max z r)).wf = true by
    rcases Int.le_total z r with h | h
    · rw [show max z r = r by omega]; exact hr
    · rw [show max z r = z by omega]; exact hwz.out)
  replace hf := Lib.hid hf
  replace hr := Lib.hid hr
  replace hz := Lib.hid hz
  replace hrd := Lib.hid hrd
  replace hme := Lib.hid hme
  replace hS' := Lib.hid hS'
  refine Lx.wp_region_chain_tail (fun w' => ∃ y : Ext W, w' = y.wo) (fun _ => False) [] [] 16 (fun A => Below W.heap.size W A) (by kernel_rfl) (by kernel_rfl) (by kernel_rfl) (by kernel_rfl) Lx.ext_drew ((Below.refl _ _).drew) ?_
  simp only [List.take_succ_cons, List.take_zero, List.drop_succ_cons, List.drop_zero]
  repeat (refine Lx.wpCh_one (by rfl) (by rfl) ?_; go_big_quiet_step (fail); refine wpQuiet_nil ?_)
  refine Lx.wpCh_nil ?_
  intro w4 hx hS
  obtain ⟨y, rfl⟩ := hx
  have hst4 := Lib.hid (hst.out.below hS)
  replace hS := Lib.hid hS
  generalize y.wo = w4 at *
  clear y y0 y1 y3 hlk hnon j0 j1 q3
  obtain ⟨D, hown, hD, hat⟩ := hst4.out.map
  have hat' := Lib.hid hat
  have hD' := Lib.hid hD
  clear hat hD
  go_wp2_with (at_mapUpdate; refine wpList_mapUpdate_own _ rfl _ _ _ 31 rfl 3 32 keyI Try.underlying31 _ hb n _ rfl hown (by have := hn.out; unfold maxLen; omega) _ _ _ rfl rfl (keyOf_int_mk Try.underlying3 hf.out) _ [] (plainElem_int Try.underlying32 hwm.out) ?_; intro w5 hown5 hg5)
  go_ret
  have hap := hst4.out.apart
  have hH5 : HMap w5 hb (n + 1) (fun x => if x = f then max (S.h f) r else S.h x) := ⟨_, hown5, isMap_put hD'.out _ _, fun x => by
    by_cases hx : x = f
    · subst hx
      rw [atKey_put_same hD'.out (by trivial), hz.out]
      simp
    · rw [atKey_put_other (by simpa using hx), hat'.out x]
      simp [hx]⟩
  have hc5 : Calms 0 w4 w5 := ⟨hg5.size, fun g hlt hc => hg5.block g hlt (fun e => by cases e; exact hap.2.2.2.2.1 hc)⟩
  refine ⟨rfl, ?_, ?_, ?_⟩
  · rw [← hS'.out]
    refine ⟨(hg5.block b hst4.out.lt (fun e => hap.1 (by cases e; rfl))).trans ?_, hst4.out.row.keep hc5 (fun g hg => hg5.block g (hst4.out.row.block hg).2 (fun e => hap.2.2.1 (by cases e; exact hg))), hH5, hst4.out.lo⟩
    rw [← hrd.out]
    exact hst4.out.blk
  · exact ((Stays.of_below (O := fun k => k = hb) hB9.out).trans (Stays.of_below (O := fun _ => False) hS.out) (fun i _ hf => hf.elim)).trans (Stays.of_grown (O := fun k => k = hb) hg5 (fun k hk _ => by cases hk; rfl)) (fun i _ h => h)
  · exact ((Calms.below hB9.out).trans (Calms.below hS.out)).trans hc5
end Go.Proofs.Ytjjdfhokmiaekaa
