/-
  (*Reads).sure.
-/
import Derived.Test.YtjjdfhokmiaekaaRead
import Derived.Test.YtjjdfhokmiaekaaClone
import Derived.Test.YtjjdfhokmiaekaaChain
import Derived.Test.YtjjdfhokmiaekaaBlk
import Derived.WalkSmall
namespace Go.Proofs.Ytjjdfhokmiaekaa
open Go Go.RowKit Go.Lst Go.Lx Go.Maps

theorem keyI : Keyed Try.prog 3 := int_keyed Try.underlying3
theorem zeroU (w : World) : (zeroValue 32).run Try.prog w = .ok (.int .u64 0) w := by kernel_rfl
set_option maxRecDepth 100000 in
theorem HMap.look {w : World} {b n : Nat} {h : Int → Int} (hm : HMap w b n h) {x : Int} (hx : (Lit.int .i64 x).wf = true) : (Instr.lookup 31 (.map (some b)) (.int .i64 x) false).run Try.prog w = .ok (.int .u64 (h x)) w := by
  obtain ⟨D, h1, h2, h3⟩ := hm
  obtain ⟨c, hr, ha, hw⟩ := h1.lookup_int keyI Try.underlying31 Try.underlying32 (zeroU w) (keyOf_int_mk Try.underlying3 hx)
  rw [h3 x] at ha
  injection ha with ha
  injection ha with _ ha
  rw [ha]
  exact hr
theorem filter_take (p : Int → Bool) (c : List Int) (j : Nat) (h : j < c.length) : (c.take (j + 1)).filter p = (c.take j).filter p ++ (if p (c.getD j 0) then [c.getD j 0] else []) := by
  rw [take_snoc c j h, List.filter_append]
  congr 1
  simp only [List.filter_cons, List.filter_nil]
def okV (S : RS) (r n : Int) : Bool := decide (n = S.me) || decide (r ≤ S.h n)
set_option maxRecDepth 100000 in
set_option maxHeartbeats 2000000 in
theorem sure_calls {w : World} {b hb n : Nat} {S : RS} (h : HdAt w b hb n S) (e : Wt) (cv : Value) (hc : Nums .i64 w cv e.c) (hm : may e.c = true) :
    Calls Try.prog 60 #[.pointer (some ⟨b, 0, none⟩), wtV e cv] w fun y w' => y = .returned (.bool (sureB S e)) ∧ Below w.heap.size w w' := by
  obtain ⟨i0, hi, hz0, hz1, hz2⟩ := info_parts infoInt
  obtain ⟨id, ix, r, c⟩ := e
  dsimp only at hc hm
  have hl : c.length ≤ 7 := by simp [may] at hm; omega
  have hQ := Lib.hid (fun v xs W hv hu => Quorum_calls v cv xs c W hv hu hm)
  have hN := Lib.hid hc
  have hH := Lib.hid h
  have hwf := Lib.hid hc.wf
  obtain ⟨p, cc, rfl, hc1, hc2, hcell⟩ := hc.parts
  unfold wtV
  dsimp only
  have hsb : sureB S ⟨id, ix, r, c⟩ = quorum (c.filter (okV S r)) c := rfl
  rw [hsb]
  have hm1 := made1 w #[.int .u64 id, .int .u64 ix, .int .u64 r, .slice p c.length cc] 109
  dsimp only at hm1
  obtain ⟨hE, hB0, hz⟩ := hm1
  replace hE := Lib.hid hE
  replace hB0 := Lib.hid hB0
  have hcells := Lib.hid hcell
  clear h hm hc hsb hcell
  obtain ⟨e0, e1, e2, e3, -⟩ := hE.out.c4
  go_enter Try.func60, Try.ntmps60
  go_wp2_with fail
  generalize (w.alloc (.cells #[.int .u64 id, .int .u64 ix, .int .u64 r, .slice p c.length cc] 109)) = W at *
  go_wp2_with fail
  go_loopg [5, 13] (c.length + 1) (fun k v5 v13 wr => ∃ i : Nat, v13 = .int .i64 (i : Int) ∧ i ≤ c.length ∧ c.length < i + k ∧ wr.ownsRow W.heap.size 3 1 v5 ((c.take i).filter (okV S r)).length (((c.take i).filter (okV S r)).map fun x => .int .i64 x) ∧ Below W.heap.size W wr)
  case atStart => exact ⟨0, rfl, by omega, by omega, World.ownsRow_nil _ _ _ _, Below.refl _ _⟩
  case round =>
    obtain ⟨i, rfl, hile, hfuel, hown, hB⟩ := hrel
    cases gk with
    | zero => omega
    | succ k =>
      replace e0 := (cell_below hB e0).trans e0
      replace e1 := (cell_below hB e1).trans e1
      replace e2 := (cell_below hB e2).trans e2
      replace e3 := (cell_below hB e3).trans e3
      have hBw := Lx.bstep hB0.out (Nat.le_refl _) hB
      by_cases hlt : i < c.length
      · have hlt1 : (i : Int) < (c.length : Int) := by omega
        have h0 : (0 : Int) ≤ (i : Int) := by omega
        obtain ⟨a, ha, hca⟩ := hcells.out i hlt
        cases ha
        replace hca := (cell_below hBw hca).trans hca
        have hst := Lib.hid (filter_take (okV S r) c i hlt)
        have hsl := List.length_filter_le (okV S r) (c.take i)
        rw [List.length_take] at hsl
        have hRw := hH.out.below hBw
        obtain ⟨q0, -, -, q3, -⟩ := hRw.isBlk.choose_spec.c4
        have hlk := fun k => (hRw.below (below_drewN (Below.refl _ _) k)).map.look (hwf.out i hlt)
        replace hRw := Lib.hid hRw
        generalize c.getD i 0 = X at *
        generalize (c.take i).filter (okV S r) = V at *
        obtain ⟨m, hme⟩ : ∃ m, S.me = m := ⟨_, rfl⟩
        obtain ⟨z, hz⟩ : ∃ z, S.h X = z := ⟨_, rfl⟩
        have hp : okV S r X = (decide (X = m) || decide (r ≤ z)) := by unfold okV; rw [hme, hz]
        rw [hme] at q0
        rw [hz] at hlk
        have hV7 : V.length ≤ 7 := by omega
        have hbz := hB.size
        replace hp := Lib.hid hp
        replace hme := Lib.hid hme
        replace hz := Lib.hid hz
        replace hBw := Lib.hid hBw
        replace hst := hst.out
        by_cases hx1 : X = m
        · have hxb : (X == m) = true := by simpa using hx1
          rw [hp.out, decide_eq_true hx1, Bool.true_or, if_pos rfl] at hst
          replace hst := Lib.hid hst
          clear hx1
          go_wp2_with fail
          go_quiet (fail)
          have hown2 : (wr.drewN nq).ownsRow W.heap.size 3 1 u5 V.length (V.map fun x => .int .i64 x) := hown
          have hB2 := below_drewN hB nq
          clear hown hB hbz hca e0 e1 e2 e3
          generalize wr.drewN nq = wq at *
          have hbz := hB2.size
          go_wp2_with (at_builtin; refine wpList_append_own _ rfl (.tmp 34) (.tmp 36) 33 rfl W.heap.size 3 i0 (.int .i64 0) 1 8 Try.underlying33 hi hz0 hz1 hz2 rfl (by decide) _ _ _ rfl (hown2.alloc _) ⟨wq.heap.size, 0, none⟩ 1 1 [.int .i64 X] rfl rfl (cell_one_new _ _ _) (by simp [Value.oneCell']) (by unfold maxLen; omega) (by omega) (by simp; omega) ?_; intro v' w2 hown3 hgrow2 _)
          go_roundg k
          case measure => omega
          case rel =>
            refine ⟨i + 1, by go_num, by omega, by omega, ?_, (hB2.alloc hB2.size _).grown hgrow2 (by simp; omega) (fun j hj => (hown2.lt j hj).1)⟩
            rw [hst.out, List.length_append, List.map_append]
            exact hown3
        · have hxb : (X == m) = false := by simpa using hx1
          rw [hp.out, decide_eq_false hx1, Bool.false_or] at hst
          clear hx1
          by_cases hx2 : r ≤ z
          · rw [decide_eq_true hx2, if_pos rfl] at hst
            replace hst := Lib.hid hst
            have hx2b : decide (r ≤ z) = true := decide_eq_true hx2
            go_wp2_with fail
            go_quiet (fail)
            have hown2 : (wr.drewN nq).ownsRow W.heap.size 3 1 u5 V.length (V.map fun x => .int .i64 x) := hown
            have hB2 := below_drewN hB nq
            clear hown hB hbz hca e0 e1 e2 e3
            generalize wr.drewN nq = wq at *
            have hbz := hB2.size
            go_wp2_with (at_builtin; refine wpList_append_own _ rfl (.tmp 34) (.tmp 36) 33 rfl W.heap.size 3 i0 (.int .i64 0) 1 8 Try.underlying33 hi hz0 hz1 hz2 rfl (by decide) _ _ _ rfl (hown2.alloc _) ⟨wq.heap.size, 0, none⟩ 1 1 [.int .i64 X] rfl rfl (cell_one_new _ _ _) (by simp [Value.oneCell']) (by unfold maxLen; omega) (by omega) (by simp; omega) ?_; intro v' w2 hown3 hgrow2 _)
            go_roundg k
            case measure => omega
            case rel =>
              refine ⟨i + 1, by go_num, by omega, by omega, ?_, (hB2.alloc hB2.size _).grown hgrow2 (by simp; omega) (fun j hj => (hown2.lt j hj).1)⟩
              rw [hst.out, List.length_append, List.map_append]
              exact hown3
          · rw [decide_eq_false hx2, if_neg (by decide), List.append_nil] at hst
            replace hst := Lib.hid hst
            have hx2b : decide (r ≤ z) = false := decide_eq_false hx2
            go_wp2_with fail
            go_quiet (fail)
            have hown2 : (wr.drewN nq).ownsRow W.heap.size 3 1 u5 V.length (V.map fun x => .int .i64 x) := hown
            have hB2 := below_drewN hB nq
            clear hown hB hbz hca e0 e1 e2 e3
            generalize wr.drewN nq = wq at *
            go_wp2_with fail
            go_roundg k
            case measure => omega
            case rel =>
              refine ⟨i + 1, by go_num, by omega, by omega, ?_, hB2⟩
              rw [hst.out]
              exact hown2
      · have hd : decide ((i : Int) < (c.length : Int)) = false := by simp; omega
        have e : c.take i = c := List.take_of_length_le (by omega)
        rw [e] at hown
        have hNv := Nums.own hown (fun x hx => hN.out.2 x (List.mem_filter.1 hx).1)
        have hQ' := Lib.hid (hQ.out u5 _ wr hNv (hN.out.below hBw))
        clear hNv e hown
        replace hBw := Lib.hid hBw
        go_wp2_with fail
        refine hQ'.out.mono ?_
        rintro y w1 ⟨rfl, hb1⟩
        go_wp2_with fail
        go_ret
        exact ⟨rfl, Lx.bstep hBw.out (Nat.le_refl _) hb1⟩
end Go.Proofs.Ytjjdfhokmiaekaa
