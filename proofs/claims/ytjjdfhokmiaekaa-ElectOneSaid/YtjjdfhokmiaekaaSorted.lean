/-
  The contracts of slices.Values, AppendSeq, Collect and Sorted at uint64, for at most twelve numbers.
-/
import Derived.Test.YtjjdfhokmiaekaaSort
import Derived.Test.YtjjdfhokmiaekaaRange
import Derived.OwnWalkIn
import Derived.TacticsInMore
import Derived.LoopNIn
import Derived.LoopIn
import Derived.Shelf.Abstract
import Derived.Shelf.RegionOpen
namespace Go.Proofs.Ytjjdfhokmiaekaa
open Go.RowKit Go.Shelf Go.Lst Go.Srt
attribute [local go_sem] Oper.semAt_some

theorem Values_calls (v : Value) (hv : v.oneCell' = true) (hc : v.cells = #[v]) (w : World) :
    Calls Try.prog 71 #[v] w fun e w' => e = .returned (.func (.func 79) #[] #[.pointer (some ⟨w.heap.size, 0, none⟩)]) ∧ w' = w.alloc (.cells #[v] 48) := by
  go_enter Try.func71, Try.ntmps71
  go_wp2_with fail
  go_ret
  exact ⟨rfl, rfl⟩

def encU (x : Int) : Array Value := #[.int .u64 x]
/-- Between two rounds: pre has come; the box at Bs holds a row of it. -/
structure AI (xs : List Int) (w : World) (pre : List Int) (W : World) : Prop where
  part : ∃ t, xs = pre ++ t
  box : ∃ v, W.heap[w.heap.size]? = some (.cells #[v] 48 (0, 0)) ∧ W.ownsRow (w.heap.size + 1) 32 1 v pre.length (pre.map fun x => .int .u64 x)
  below : Below w.heap.size w W
def AC (xs : List Int) (pre : List Int) (x : Int) : Prop := ∃ t, xs = pre ++ x :: t
theorem lt_of_heap {W : World} {k : Nat} {o : Obj} (h : W.heap[k]? = some o) : k < W.heap.size := (Array.getElem?_eq_some_iff.1 h).1
theorem put_other {W : World} {L k : Nat} {o o' : Obj} {c : Array Value} {t : TypeId} {f : Nat × Nat} (hl : W.heap[L]? = some o) (ho : o.isCells = false) (hk : W.heap[k]? = some (.cells c t f)) : (W.putObj L o').heap[k]? = W.heap[k]? := by
  refine World.putObj_heap_other ?_
  intro e; subst e; rw [hl] at hk; cases hk; simp [Obj.isCells] at ho
theorem own_put {W : World} {L : Nat} {o o' : Obj} {B : Nat} {e : TypeId} {v : Value} {n : Nat} {xs : List Value} (hl : W.heap[L]? = some o) (ho : o.isCells = false) (h : W.ownsRow B e 1 v n xs) : (W.putObj L o').ownsRow B e 1 v n xs := by
  refine own_keep h fun k hk => ?_
  rcases h.2 with ⟨rfl, _⟩ | ⟨g, cap, cur, rfl, _, hh, _⟩
  · cases hk
  · cases hk; exact put_other hl ho hh
theorem below_put {B : Nat} {w W : World} (h : Below B w W) {L : Nat} (o' : Obj) (hL : B ≤ L) : Below B w (W.putObj L o') :=
  ⟨h.os, h.tape, h.output, by have := h.size; simp [World.putObj]; omega, fun k hk => (World.putObj_heap_other (by omega)).trans (h.block k hk)⟩
theorem AI.put {xs : List Int} {w : World} {pre : List Int} {W : World} (h : AI xs w pre W) {L : Nat} {o : Obj} (o' : Obj) (hL : w.heap.size ≤ L) (hl : W.heap[L]? = some o) (ho : o.isCells = false) : AI xs w pre (W.putObj L o') := by
  obtain ⟨v, h1, h2⟩ := h.box
  exact ⟨h.part, ⟨v, (put_other hl ho h1).trans h1, own_put hl ho h2⟩, below_put h.below _ hL⟩
theorem AI.grow {xs : List Int} {w : World} {pre : List Int} {W W' : World} (h : AI xs w pre W) (hb : Below W.heap.size W W') : AI xs w pre W' := by
  obtain ⟨v, h1, h2⟩ := h.box
  exact ⟨h.part, ⟨v, (hb.block _ (lt_of_heap h1)).trans h1, own_below h2 hb⟩, Lx.bstep h.below (Nat.le_refl _) hb⟩

set_option maxRecDepth 100000 in
set_option maxHeartbeats 2000000 in
/-- The iterator's run, at the loop's own invariant. -/
theorem values_in (xs : List Int) (p : Option Addr) (c bv : Nat) (w : World) (hx : Nums .u64 w (.slice p xs.length c) xs) (hbv : bv < w.heap.size) (hcap : w.heap[bv]? = some (.cells #[.slice p xs.length c] 48 (0, 0))) (hl : xs.length ≤ 12) (m l : Nat) (J Jx : List Int → World → Prop) (W : World)
    (hJI : ∀ pre A, J pre A → AI xs w pre A)
    (hY : ∀ pre x A, J pre A → AC xs pre x → YieldAt Fence.wide (m - 1) Try.prog l (encU x) A fun e B => (e = .returned (.bool true) ∧ J (pre ++ [x]) B) ∨ (e = .returned (.bool false) ∧ Jx (pre ++ [x]) B))
    (h0 : J [] W) :
    CallsIn Fence.wide m Try.prog 79 (#[.func (.yield l) #[] #[]] ++ #[.pointer (some ⟨bv, 0, none⟩)]) W fun e W' => (∃ v, e = .returned v) ∧ ((∃ W0 ys, J ys W0 ∧ KeepsOthers W0 W' ∧ ys = xs ∧ AI xs w ys W') ∨ (∃ pre, Jx pre W')) := by
  have hW := (hJI _ _ h0).below
  have c1 : W.cell? ⟨bv, 0, none⟩ = some (.slice p xs.length c) := by simp only [World.cell?, hW.block bv hbv, hcap]; simp
  have hl0 : (xs.length : Int) ≤ 12 := by omega
  obtain ⟨q, d, e0, hc1, hc2, hcell⟩ := hx.parts
  cases e0
  replace hcell := Lib.hid hcell
  replace hcap := Lib.hid hcap
  replace hl := Lib.hid hl
  replace hx := Lib.hid hx
  obtain ⟨n, hn⟩ : ∃ n, xs.length = n := ⟨_, rfl⟩
  rw [hn] at c1 hl0
  replace hn := Lib.hid hn
  refine callsIn_of_wp Try.func79 rfl trivial ?_ rfl
  simp only [Try.ntmps79, List.size_toArray, List.length_cons, List.length_nil, Nat.reduceAdd, Nat.reduceSub, Array.replicate_succ, Array.replicate_zero, List.push_toArray, List.append_toArray, List.nil_append, List.cons_append]
  gi_wp2_with fail
  gi_loopw [7] (fun v7 wr => ∃ pre : List Int, v7 = .int .i64 (pre.length : Int) ∧ J pre wr) (fun v7 _ => n - (intOf v7).toNat)
  case atStart => exact ⟨[], rfl, h0⟩
  case round =>
    clear h0 c1 hW
    obtain ⟨pre, rfl, hj⟩ := hrel
    have hi := hJI _ _ hj
    obtain ⟨t, ht⟩ := hi.part
    have hple : pre.length ≤ n := by rw [← hn.out, ht, List.length_append]; omega
    by_cases hlt : pre.length < n
    · cases t with
      | nil => exfalso; have := hn.out; rw [ht] at this; simp at this; omega
      | cons x t =>
        have hlt1 : (pre.length : Int) < (n : Int) := by omega
        have h00 : (0 : Int) ≤ (pre.length : Int) := by omega
        have hgx : xs.getD pre.length 0 = x := by rw [ht]; simp [List.getD_eq_getElem?_getD]
        obtain ⟨a, rfl, hca⟩ := hcell.out pre.length (by rw [hn.out]; exact hlt)
        have hca' := (cell_below hi.below hca).trans hca
        rw [hgx] at hca'
        obtain ⟨fn, tmps, assign, body, hy, hR⟩ := hY pre x wr hj ⟨t, ht⟩
        dsimp only [encU] at hy
        have hm : n - (pre.length + 1) < n - pre.length := by omega
        clear hJI hY hj hi hgx hca ht
        gi_wp2_with fail
        refine ⟨(fun h => (by cases h)), ?_⟩
        refine hR.mono ?_
        rintro e W3 (⟨rfl, hJ3⟩ | ⟨rfl, hJx3⟩)
        · gi_wp2_with fail
          go_roundw
          case rel => exact ⟨_, by simp, hJ3⟩
          case measure => simp [intOf]; omega
        · gi_wp2_with fail
          refine bodyPost_ret (results_none rfl _ _ _) rfl ?_
          exact ⟨⟨_, rfl⟩, .inr ⟨_, hJx3⟩⟩
    · have ht0 : t = [] := by
        have := hn.out
        rw [ht, List.length_append] at this
        exact List.eq_nil_of_length_eq_zero (by omega)
      subst ht0
      rw [List.append_nil] at ht
      have fin := Lib.hid hi
      have ht' := Lib.hid ht.symm
      have hd : decide ((pre.length : Int) < (n : Int)) = false := by simp; omega
      clear hJI hY hi ht
      gi_wp2_with fail
      go_end0
      exact ⟨⟨_, rfl⟩, .inl ⟨wr, pre, hj, KeepsOthers.refl _, ht'.out, fin.out⟩⟩
theorem infoU64 : (Try.prog.info? 32).map (fun i => (i.zero, i.size, i.bytes)) = some (some (.int .u64 0), 1, 8) := by kernel_rfl
def startW (w : World) : World := w.alloc (.cells #[.slice none 0 0] 48)
theorem startW_size (w : World) : (startW w).heap.size = w.heap.size + 1 := by simp [startW]
theorem start_AI (xs : List Int) (w : World) (r : Loop) : AI xs w [] (Lx.enteredWorld (startW w) r) := by
  have h : (startW w).heap[w.heap.size]? = some (.cells #[.slice none 0 0] 48 (0, 0)) := by show (w.heap.push _)[w.heap.size]? = _; simp
  refine ⟨⟨xs, rfl⟩, ⟨.slice none 0 0, ?_, ⟨rfl, .inl ⟨rfl, rfl⟩⟩⟩, ?_⟩
  · unfold Lx.enteredWorld
    exact (Below.heap_alloc _ _ _ (by simp [startW]; omega)).trans ((Below.heap_alloc _ _ _ (by simp [startW])).trans h)
  · unfold Lx.enteredWorld startW
    exact (by repeat (first | exact Below.refl _ _ | exact Lx.Ext.below _ | refine Below.drew ?_ | refine below_drewN ?_ _ | (refine Below.alloc ?_ (by first | exact Nat.le_refl _ | (simp; done) | (simp; omega)) _) | (refine Below.setCell ?_ (by first | exact Nat.le_refl _ | (simp; done) | (simp; omega)) _)))
theorem body_AI {xs pre : List Int} {w W w1 : World} {x : Int} {v v' : Value} (hv : W.heap[w.heap.size]? = some (.cells #[v] 48 (0, 0))) (hown : W.ownsRow (w.heap.size + 1) 32 1 v pre.length (pre.map fun x => .int .u64 x)) (hb : Below w.heap.size w W) (hC : AC xs pre x)
    (h1 : w1.ownsRow (w.heap.size + 1) 32 1 v' (pre.length + 1) (pre.map (fun x => .int .u64 x) ++ [.int .u64 x])) (hg : (W.alloc (.cells #[.int .u64 x] 32)).grownBy w1 v.ownBlock) :
    w1.heap[w.heap.size]? = some (.cells #[v] 48 (0, 0)) ∧ KeepsOthers W (w1.setCell ⟨w.heap.size, 0, none⟩ v') ∧ AI xs w (pre ++ [x]) (w1.setCell ⟨w.heap.size, 0, none⟩ v') := by
  have hlt := lt_of_heap hv
  have hvb : v.ownBlock ≠ some w.heap.size := fun e => by have := (own_block hown e).1; omega
  have h2 : w1.heap[w.heap.size]? = some (.cells #[v] 48 (0, 0)) := (hg.block _ (by simp; omega) (fun e => hvb e.symm)).trans ((Below.heap_alloc _ _ _ hlt).trans hv)
  have h3 := heap_setCell_same w1 w.heap.size 0 _ _ v' h2
  refine ⟨h2, ?_, ⟨?_, ⟨v', by simpa using h3, ?_⟩, ?_⟩⟩
  · exact (KeepsOthers.alloc W _).trans ((KeepsOthers.of_grownBy hg (fun r o e ho => by
      rcases hown.2 with ⟨rfl, _⟩ | ⟨g, cap, cur, rfl, _, hh, _⟩
      · cases e
      · cases e
        have h9 := (Below.heap_alloc W (.cells #[.int .u64 x] 32) _ (lt_of_heap hh)).trans hh
        rw [h9] at ho; cases ho; rfl)).trans (KeepsOthers.setCell _ _ _))
  · obtain ⟨t, ht⟩ := hC
    exact ⟨t, by rw [ht]; simp⟩
  · have e : (pre ++ [x]).map (fun x => Value.int .u64 x) = pre.map (fun x => .int .u64 x) ++ [.int .u64 x] := by simp
    rw [e, List.length_append]
    refine own_keep h1 fun k hk => Below.heap_setCell _ _ _ _ (fun e => ?_)
    have := (own_block h1 hk).1
    have e2 : k = w.heap.size := e
    omega
  · exact (((hb.alloc hb.size _).grown hg (by have := hb.size; simp; omega) (fun k e => by have := (own_block hown e).1; omega))).setCell (p := ⟨w.heap.size, 0, none⟩) (Nat.le_refl _) _

set_option maxRecDepth 100000 in
set_option maxHeartbeats 4000000 in
theorem AppendSeq_calls (xs : List Int) (p : Option Addr) (c bv : Nat) (w : World) (hx : Nums .u64 w (.slice p xs.length c) xs) (hbv : bv < w.heap.size) (hcap : w.heap[bv]? = some (.cells #[.slice p xs.length c] 48 (0, 0))) (hl : xs.length ≤ 12) :
    Calls Try.prog 81 #[.slice none 0 0, .func (.func 79) #[] #[.pointer (some ⟨bv, 0, none⟩)]] w fun e w' => ∃ u, e = .returned u ∧ w'.ownsRow w.heap.size 32 1 u xs.length (xs.map fun x => .int .u64 x) ∧ Below w.heap.size w w' := by
  refine (callsIn_wide (n := 5)).1 ?_
  obtain ⟨i0, hi, hz0, hz1, hz2⟩ := info_parts infoU64
  refine callsIn_of_wp_marks Try.func81 rfl trivial ?_ rfl
  simp only [Try.ntmps81, List.size_toArray, List.length_cons, List.length_nil, Nat.reduceAdd, Nat.reduceSub, Array.replicate_succ, Array.replicate_zero, List.push_toArray, List.append_toArray, List.nil_append, List.cons_append]
  gi_wp2_with fail
  refine Lx.rf_law (w := startW w) rfl (by decide) (gf := 79) (lb := #[.pointer (some ⟨bv, 0, none⟩)]) rfl trivial (enters_of Try.func79 (by kernel_rfl) rfl)
    encU (fun _ => rfl) (AC xs) (AI xs w) (fun _ _ _ => False) (fun ys W => ys = xs ∧ AI xs w ys W)
    (fun pre W L o o' hL hl ho h => h.put _ (by rw [startW_size] at hL; omega) hl ho) (fun _ _ _ _ _ _ _ _ _ h => h) (fun pre W L o o' hL hl ho h => ⟨h.1, h.2.put _ (by rw [startW_size] at hL; omega) hl ho⟩)
    (start_AI xs w) (fun l J Jx W _ hJI hJ hY h0 => values_in xs p c bv w hx hbv hcap hl 4 l J Jx W hJI hY h0)
    (fun x => { tmps := #[.slice none 0 0, .func (.func 79) #[] #[.pointer (some ⟨bv, 0, none⟩)], .pointer (some ⟨w.heap.size, 0, none⟩), undef, .slice none 0 0, .int .u64 x, .func (.func 79) #[] #[.pointer (some ⟨bv, 0, none⟩)], .int .u64 x, undef, undef, undef, undef, undef], defers := [] })
    ?assign ?body ?done (fun _ _ _ _ h => h.elim)
  case assign =>
    intro l x W K hK
    dsimp only [encU]
    gi_wp2
    exact hK
  case body =>
    rintro l pre x W ⟨-, ⟨v, hv, hown⟩, hb⟩ hC
    have hlen : pre.length ≤ 12 := by obtain ⟨t, ht⟩ := hC; rw [ht, List.length_append] at hl; omega
    have hbody := Lib.hid (fun w1 v' h1 hg => body_AI (w1 := w1) (v' := v') hv hown hb hC h1 hg)
    have c0 : W.cell? ⟨w.heap.size, 0, none⟩ = some v := by simp [World.cell?, hv]
    have hsz : w.heap.size + 1 ≤ W.heap.size := by have := lt_of_heap hv; omega
    clear hv hb hC hx hcap
    gi_wp2_with (gi_at_builtin; refine wpListIn_append_own _ rfl (.tmp 8) (.tmp 10) 48 rfl (w.heap.size + 1) 32 i0 (.int .u64 0) 1 8 Try.underlying48 hi hz0 hz1 hz2 rfl (by decide) _ _ _ rfl (hown.alloc _) ⟨W.heap.size, 0, none⟩ 1 1 [.int .u64 x] rfl rfl (cell_one_new _ _ _) (by simp [Value.oneCell']) (by unfold maxLen; omega) (by omega) (by simp; omega) ?_; intro v' w1 hown' hgrow _; obtain ⟨g', cap', rfl⟩ := ownsRow_succ hown'; have d := hbody.out w1 _ hown' hgrow; have d0 : w1.cell? ⟨w.heap.size, 0, none⟩ = some v := (by simp [World.cell?, d.1]); have d1 : w1.frozen? ⟨w.heap.size, 0, none⟩ = false := (by simp [World.frozen?, d.1]); replace d := Lib.hid d.2)
    exact d.out
  case done =>
    rintro D ys W ⟨rfl, ⟨-, ⟨v, hv, hown⟩, hb⟩⟩ hD hlD
    rw [startW_size] at hlD
    have c0 : W.cell? ⟨w.heap.size, 0, none⟩ = some v := by simp [World.cell?, hv]
    obtain ⟨g, n, c2, rfl⟩ := own_slice hown
    have hown' := Lib.hid hown
    have hb' := Lib.hid hb
    clear hv hi hz0 hz1 hz2 hx hcap hown hb
    gi_wp2_with fail
    refine ⟨by simp, .inl ⟨_, _, rfl, run_takeDeferred hD, ?_⟩⟩
    refine ⟨.slice g n c2, ?_, ⟨_, rfl, own_mono (own_put hD rfl hown'.out) (by omega), below_put hb'.out _ (by omega)⟩⟩
    simp [results, Try.results81, go_sem]

set_option maxRecDepth 100000 in
theorem Sorted_calls (xs : List Int) (v : Value) (w : World) (hx : Nums .u64 w v xs) (hl : xs.length ≤ 12) (hpos : 0 < xs.length) :
    Calls Try.prog 70 #[.func (.func 79) #[] #[.pointer (some ⟨w.heap.size, 0, none⟩)]] (w.alloc (.cells #[v] 48)) fun e w' => ∃ u ys, e = .returned u ∧ Nums .u64 w' u ys ∧ ys.Perm xs ∧ Sorted ys ys.length ∧ Below w.heap.size w w' := by
  obtain ⟨p, c, rfl, -⟩ := hx.parts
  have A1 := Lib.hid (AppendSeq_calls xs p c w.heap.size (w.alloc (.cells #[.slice p xs.length c] 48)) (hx.below ((Below.refl _ _).alloc (Nat.le_refl _) _)) (by simp) (by show (w.heap.push _)[w.heap.size]? = _; simp) hl)
  have A2 : Calls Try.prog 77 #[.func (.func 79) #[] #[.pointer (some ⟨w.heap.size, 0, none⟩)]] (w.alloc (.cells #[.slice p xs.length c] 48)) fun e w' => ∃ u, e = .returned u ∧ w'.ownsRow (w.alloc (.cells #[.slice p xs.length c] 48)).heap.size 32 1 u xs.length (xs.map fun x => .int .u64 x) ∧ Below (w.alloc (.cells #[.slice p xs.length c] 48)).heap.size (w.alloc (.cells #[.slice p xs.length c] 48)) w' := by
    generalize (w.alloc (.cells #[.slice p xs.length c] 48)) = w0 at *
    go_enter Try.func77, Try.ntmps77
    go_wp2_with fail
    refine A1.out.mono ?_
    rintro e w1 ⟨u, rfl, h1, h2⟩
    have h1' := Lib.hid h1; have h2' := Lib.hid h2
    clear h1 h2
    go_wp2_with fail
    go_ret
    exact ⟨_, rfl, h1'.out, h2'.out⟩
  have hb0 : Below w.heap.size w (w.alloc (.cells #[.slice p xs.length c] 48)) := (Below.refl _ _).alloc (Nat.le_refl _) _
  replace A2 := Lib.hid A2
  generalize (w.alloc (.cells #[.slice p xs.length c] 48)) = w0 at *
  have hwf := Lib.hid hx.2
  have hw0 := Lib.hid hb0.size
  replace hb0 := Lib.hid hb0
  replace hl := Lib.hid hl
  replace hpos := Lib.hid hpos
  clear hx A1
  go_enter Try.func70, Try.ntmps70
  go_wp2_with fail
  refine A2.out.mono ?_
  rintro e w1 ⟨u, rfl, h1, h2⟩
  replace hb0 := Lib.hid (Lx.bstep hb0.out (Nat.le_refl _) h2)
  rcases id h1.2 with ⟨rfl, h0⟩ | ⟨g, cap, cur, rfl, hg, hh, hn, hc, hcs, htk⟩
  · exact absurd h0 (Nat.pos_iff_ne_zero.1 hpos.out)
  · have hrow : Row w1 g xs (cur.toList.drop xs.length) := by
      refine ⟨32, ?_⟩
      have e1 : cur.toList.take xs.length ++ cur.toList.drop xs.length = cur.toList := List.take_append_drop _ _
      rw [Nat.mul_one] at htk
      rw [htk] at e1
      rw [e1]
      simpa using hh
    have hlen := Lib.hid h2.size
    have hg' := Lib.hid hg
    have S1 := Lib.hid (Sort_calls g xs _ cap w1 hrow hl.out)
    have hcap := Lib.hid (And.intro hn hc)
    clear h1 h2 hh hn hc hcs htk hrow hg
    go_wp2_with fail
    refine S1.out.mono ?_
    rintro e w2 ⟨⟨v, rfl⟩, ⟨ys, hR, hP, hS⟩, hG⟩
    replace hR := Lib.hid hR
    replace hP := Lib.hid hP
    replace hS := Lib.hid hS
    replace hG := Lib.hid hG
    go_wp2_with fail
    go_ret
    refine ⟨_, ys, rfl, ⟨⟨some ⟨g, 0, none⟩, cap, by rw [List.length_map, hP.out.length_eq]; rfl, by rw [List.length_map, hP.out.length_eq]; exact hcap.out.1, hcap.out.2, fun i hi => ⟨_, rfl, ?_⟩⟩, fun x hx => hwf.out x (hP.out.mem_iff.1 hx)⟩, hP.out, hS.out, hb0.out.grown hG.out hb0.out.size (fun k e => by cases e; exact Nat.le_trans hw0.out hg'.out)⟩
    rw [List.length_map] at hi
    have e2 : (Addr.add ⟨g, 0, none⟩ i) = ⟨g, i, none⟩ := by unfold Addr.add; split <;> simp_all
    rw [e2, hR.out.cell i hi, List.getElem_map, List.getD_eq_getElem?_getD, List.getElem?_eq_getElem hi]
    rfl
end Go.Proofs.Ytjjdfhokmiaekaa
