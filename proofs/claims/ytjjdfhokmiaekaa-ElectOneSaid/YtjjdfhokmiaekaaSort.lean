/-
  The contract of slices.insertionSortOrdered, pdqsortOrdered and Sort at uint64, for at most twelve numbers.
-/
import Derived.Test.YtjjdfhokmiaekaaSortMath
import Derived.Test.YtjjdfhokmiaekaaElect3
import Derived.Test.YtjjdfhokmiaekaaOwn
import Derived.RegionTactic
import Derived.BigRegion
import Derived.ChangeAlike
namespace Go.Proofs.Ytjjdfhokmiaekaa
open Go.RowKit Go.Lst Go.Lx Go.Srt

set_option maxRecDepth 100000 in
theorem Less_calls (x y : Int) (w : World) : Calls Try.prog 90 #[.int .u64 x, .int .u64 y] w fun e w' => e = .returned (.bool (decide (x < y))) ∧ w = w' := by
  obtain ⟨r, hr⟩ : ∃ r, decide (x < y) = r := ⟨_, rfl⟩
  rw [hr]
  go_enter Try.func90, Try.ntmps90
  go_wp2_with (go_at_call 74; refine (isNaN_calls _ _).mono ?_; rintro e w1 ⟨rfl, rfl⟩)
  go_ret
  exact ⟨rfl, rfl⟩

theorem grown_drewN {w w' : World} {r : Option Nat} (h : w.grownBy w' r) (n : Nat) : w.grownBy (w'.drewN n) r := ⟨h.os, h.tape, h.output, h.size, h.block⟩
/-- A row of numbers in block g: the first of them zs, and what stands behind. -/
def Row (w : World) (g : Nat) (zs : List Int) (more : List Value) : Prop := Blk w g (zs.map (fun x => .int .u64 x) ++ more)
theorem Row.cell {w : World} {g : Nat} {zs : List Int} {more : List Value} (h : Row w g zs more) (i : Nat) (hi : i < zs.length) : w.cell? ⟨g, i, none⟩ = some (.int .u64 (zs.getD i 0)) := by
  refine Blk.cell h i ?_
  rw [List.getElem?_append_left (by simpa using hi), List.getElem?_map, List.getElem?_eq_getElem hi, List.getD_eq_getElem?_getD, List.getElem?_eq_getElem hi]
  rfl
theorem Row.put {w : World} {g : Nat} {zs : List Int} {more : List Value} (h : Row w g zs more) (i : Nat) (hi : i < zs.length) (v : Int) : Row (w.setCell ⟨g, i, none⟩ (.int .u64 v)) g (zs.set i v) more := by
  have := Blk.put h i (.int .u64 v)
  unfold Row
  rw [List.set_append_left _ _ (by simpa using hi)] at this
  rwa [List.map_set]

set_option maxRecDepth 100000 in
set_option maxHeartbeats 4000000 in
theorem insertion_calls (g : Nat) (xs : List Int) (more : List Value) (c : Nat) (w : World) (h : Row w g xs more) (hl : xs.length ≤ 12) :
    Calls Try.prog 84 #[.slice (some ⟨g, 0, none⟩) xs.length c, .int .i64 0, .int .i64 (xs.length : Int)] w fun e w' => (∃ v, e = .returned v) ∧ (∃ ys, Row w' g ys more ∧ ys.Perm xs ∧ Sorted ys ys.length) ∧ w.grownBy w' (some g) := by
  have hl0 : (xs.length : Int) ≤ 12 := by omega
  have hn : ∃ n, xs.length = n := ⟨_, rfl⟩
  obtain ⟨n, hn⟩ := hn
  rw [hn] at hl0 ⊢
  replace h := Lib.hid h
  replace hl := Lib.hid hl
  replace hn := Lib.hid hn
  go_enter Try.func84, Try.ntmps84
  go_wp2_with fail
  go_loopg [6] (n + 1) (fun k v6 wr => ∃ (i : Nat) (zs : List Int), v6 = .int .i64 (i : Int) ∧ 1 ≤ i ∧ n + 1 < i + k ∧ (i ≤ n ∨ i = 1) ∧ Row wr g zs more ∧ zs.Perm xs ∧ Sorted zs (min i n) ∧ w.grownBy wr (some g))
  case atStart => exact ⟨1, xs, rfl, by omega, by omega, .inr rfl, h.out, List.Perm.refl _, fun p q h1 h2 => by omega, ⟨rfl, rfl, rfl, Nat.le_refl _, fun _ _ _ => rfl⟩⟩
  case round =>
    obtain ⟨i, zs, rfl, hi1, hfuel, hile, hR, hP, hS, hG⟩ := hrel
    have hzl : zs.length = n := by rw [hP.length_eq]; exact hn.out
    cases gk with
    | zero => omega
    | succ k =>
      by_cases hlt : i < n
      · have hlt1 : (i : Int) < (n : Int) := by omega
        have hI := Ins.start (zs := zs) (i := i) (by rwa [Nat.min_eq_left (by omega)] at hS) (by omega)
        replace hR := Lib.hid hR
        replace hP := Lib.hid hP
        replace hG := Lib.hid hG
        replace hI := Lib.hid hI
        replace hzl := Lib.hid hzl
        replace hfuel := Lib.hid hfuel
        clear hS hile
        go_wp2_with fail
        go_loopg [7] (i + 1) (fun m v7 wr2 => ∃ (j : Nat) (zs : List Int), v7 = .int .i64 (j : Int) ∧ j < m ∧ Row wr2 g zs more ∧ zs.Perm xs ∧ Ins zs i j ∧ w.grownBy wr2 (some g))
        case atStart => exact ⟨i, zs, rfl, by omega, hR.out, hP.out, hI.out, hG.out⟩
        case round =>
          clear hR hP hI hG hzl
          obtain ⟨j, zs, rfl, hjm, hR, hP, hI, hG⟩ := hrel
          cases gk with
          | zero => omega
          | succ m =>
            have hjl : j < zs.length := by have := hI.hi; have := hI.hj; omega
            have hji : (j : Int) ≤ 12 := by have := hI.hi; have := hI.hj; have := hP.length_eq; have := hl.out; omega
            have hjn : (j : Int) < (n : Int) := by have := hI.hj; omega
            have c1 := hR.cell j hjl
            by_cases hj0 : j = 0
            · subst hj0
              have hd := hI.done (.inl rfl)
              have hzl : zs.length = n := by rw [hP.length_eq]; exact hn.out
              replace hR := Lib.hid hR
              replace hP := Lib.hid hP
              replace hd := Lib.hid hd
              replace hG := Lib.hid hG
              replace hzl := Lib.hid hzl
              clear c1 hI
              go_wp2_with fail
              refine wp_region_quiet_lit (by kernel_rfl) (by kernel_rfl) ?_
              repeat (first | go_big_quiet_step (fail) | quiet_step (fail))
              refine wpQuiet_nil ?_
              intro _ hw'
              obtain ⟨nq, hw''⟩ := hw'
              subst hw''
              go_wp2_with fail
              go_roundg k
              case measure => omega
              case rel => exact ⟨i + 1, zs, by go_num, by omega, by have := hfuel.out; omega, .inl (by omega), hR.out, hP.out, by rw [Nat.min_eq_left (by omega)]; exact hd.out, grown_drewN hG.out _⟩
            · have c2 := hR.cell (j - 1) (by omega)
              have hd : decide (0 < j) = true := by simp; omega
              have hd2 : decide ((0 : Int) < (j : Int)) = true := by simp; omega
              have e1 : (j : Int) - 1 = ((j - 1 : Nat) : Int) := by omega
              have e2 : IntKind.i64.wrap ((j : Int) - 1) = ((j - 1 : Nat) : Int) := by rw [e1]; exact IntWalk.i64_in _ (by omega)
              have e3 : ((j - 1 : Nat) : Int) < (n : Int) := by omega
              have e4 : (0 : Int) ≤ ((j - 1 : Nat) : Int) := by omega
              have e5 : wrap64 ((j - 1 : Nat) : Int) = ((j - 1 : Nat) : Int) := IntWalk.wrap64_in _ (by omega)
              have e6 : IntKind.i64.wrap ((j - 1 : Nat) : Int) = ((j - 1 : Nat) : Int) := IntWalk.i64_in _ (by omega)
              have e7 : ((j : Int) - 1).toNat = j - 1 := by omega
              have hstep := Lib.hid (fun h => hI.step (by omega) h)
              have hdone := Lib.hid (fun h => hI.done (.inr h))
              have hR2 := Lib.hid (fun (a b : Int) => (hR.put j hjl a).put (j - 1) (by simp; omega) b)
              have f1 := Blk.frz hR j
              have f2 := Blk.frz hR (j - 1)
              have hsw : swap zs j = (zs.set j (zs.getD (j - 1) 0)).set (j - 1) (zs.getD j 0) := rfl
              have hsp := Lib.hid (swap_perm hjl)
              rw [hsw] at hstep hsp
              have hne : j ≠ j - 1 := by omega
              have hne2 : j - 1 ≠ j := by omega
              clear hsw hI
              generalize hX : zs.getD j 0 = X at *
              generalize hY : zs.getD (j - 1) 0 = Y at *
              replace hX := Lib.hid hX
              replace hY := Lib.hid hY
              replace hR := Lib.hid hR
              replace hP := Lib.hid hP
              replace hG := Lib.hid hG
              generalize j - 1 = j' at *
              by_cases hxy : X < Y
              · have LC := Lib.hid (fun W => (Less_calls X Y W).mono fun _ _ h => (⟨h.1, h.2.symm⟩ : _ ∧ _))
                rw [decide_eq_true hxy] at LC
                go_wp2_with fail
                refine wp_region_quiet_lit (by kernel_rfl) (by kernel_rfl) ?_
                repeat (go_big_quiet_step ((go_at_call 90; exact Calls.quiet_of_same (LC.out _))))
                refine wpQuiet_nil ?_
                intro _ hw'
                obtain ⟨nq, hw''⟩ := hw'
                subst hw''
                go_wp2_with fail
                go_region
                have hjj : j' < m := by omega
                have hst := Lib.hid (hstep.out hxy)
                have hsp2 := Lib.hid (hsp.out.trans hP.out)
                clear hstep hsp hdone
                go_wp2_with fail
                go_roundg m
                case measure => omega
                case rel => exact ⟨j', _, by first | rfl | go_num, hjj, hR2.out Y X, hsp2.out, hst.out, ⟨hG.out.os, hG.out.tape, hG.out.output, by have := hG.out.size; simpa using this, fun q hq hn => (Below.heap_setCell _ _ _ _ (fun e => hn (by rw [e]))).trans ((Below.heap_setCell _ _ _ _ (fun e => hn (by rw [e]))).trans (hG.out.block q hq hn))⟩⟩
              · have LC := Lib.hid (fun W => (Less_calls X Y W).mono fun _ _ h => (⟨h.1, h.2.symm⟩ : _ ∧ _))
                rw [decide_eq_false hxy] at LC
                have hzl : zs.length = n := by rw [hP.out.length_eq]; exact hn.out
                have hd9 := Lib.hid (hdone.out (by omega))
                replace hzl := Lib.hid hzl
                clear hdone hstep hR2 hsp
                go_wp2_with fail
                refine wp_region_quiet_lit (by kernel_rfl) (by kernel_rfl) ?_
                repeat (go_big_quiet_step ((go_at_call 90; exact Calls.quiet_of_same (LC.out _))))
                refine wpQuiet_nil ?_
                intro _ hw'
                obtain ⟨nq, hw''⟩ := hw'
                subst hw''
                go_wp2_with fail
                go_roundg k
                case measure => omega
                case rel => exact ⟨i + 1, zs, by go_num, by omega, by have := hfuel.out; omega, .inl (by omega), hR.out, hP.out, by rw [Nat.min_eq_left (by omega)]; exact hd9.out, grown_drewN hG.out _⟩
      · have hd : decide ((i : Int) < (n : Int)) = false := by simp; omega
        have hs : Sorted zs zs.length := by rw [hzl]; intro p q h1 h2; exact hS p q h1 (by omega)
        replace hR := Lib.hid hR
        replace hP := Lib.hid hP
        replace hG := Lib.hid hG
        replace hs := Lib.hid hs
        clear hS hzl
        go_wp2_with fail
        go_end0
        exact ⟨⟨_, rfl⟩, ⟨zs, hR.out, hP.out, hs.out⟩, hG.out⟩
set_option maxRecDepth 100000 in
set_option maxHeartbeats 1000000 in
theorem pdqsort_calls (g : Nat) (xs : List Int) (more : List Value) (c : Nat) (lim : Int) (w : World) (h : Row w g xs more) (hl : xs.length ≤ 12) :
    Calls Try.prog 82 #[.slice (some ⟨g, 0, none⟩) xs.length c, .int .i64 0, .int .i64 (xs.length : Int), .int .i64 lim] w fun e w' => (∃ v, e = .returned v) ∧ (∃ ys, Row w' g ys more ∧ ys.Perm xs ∧ Sorted ys ys.length) ∧ w.grownBy w' (some g) := by
  have C1 := Lib.hid (insertion_calls g xs more c w h hl)
  have hl0 : (xs.length : Int) ≤ 12 := by omega
  clear h hl
  generalize xs.length = n at *
  go_enter Try.func82, Try.ntmps82
  go_wp2_with fail
  refine wp_loop_rounds 1 ?_
  rw [rounds_succ]
  go_wp2_with fail
  refine C1.out.mono ?_
  rintro e w1 ⟨⟨v, rfl⟩, h1, h2⟩
  replace h1 := Lib.hid h1; replace h2 := Lib.hid h2
  go_wp2_with fail
  exact bodyPost_ret (results_none rfl _ _ _) rfl ⟨⟨_, rfl⟩, h1.out, h2.out⟩
set_option maxRecDepth 100000 in
set_option maxHeartbeats 1000000 in
theorem Len64_calls (x : Int) (w : World) (h : 0 ≤ x ∧ x ≤ 12) : Calls Try.prog 94 #[.int .u64 x] w fun e w' => (∃ k, e = .returned (.int .i64 k)) ∧ w = w' := by
  obtain ⟨m, rfl⟩ : ∃ m : Nat, x = (m : Int) := ⟨x.toNat, by omega⟩
  have hm : m ≤ 12 := by omega
  clear h
  match m, hm with
  | 0, _ | 1, _ | 2, _ | 3, _ | 4, _ | 5, _ | 6, _ | 7, _ | 8, _ | 9, _ | 10, _ | 11, _ | 12, _ =>
    go_enter Try.func94, Try.ntmps94
    go_wp2_with fail
    go_ret
    exact ⟨⟨_, rfl⟩, rfl⟩
set_option maxRecDepth 100000 in
theorem Len_calls (x : Int) (w : World) (h : 0 ≤ x ∧ x ≤ 12) : Calls Try.prog 83 #[.int .u64 x] w fun e w' => (∃ k, e = .returned (.int .i64 k)) ∧ w = w' := by
  have C1 := Lib.hid (fun W => Len64_calls x W h)
  obtain ⟨h1, h2⟩ := h
  go_enter Try.func83, Try.ntmps83
  go_wp2_with fail
  refine (C1.out _).mono ?_
  rintro e w1 ⟨⟨k, rfl⟩, rfl⟩
  go_wp2_with fail
  go_ret
  exact ⟨⟨_, rfl⟩, rfl⟩
set_option maxRecDepth 100000 in
theorem Sort_calls (g : Nat) (xs : List Int) (more : List Value) (c : Nat) (w : World) (h : Row w g xs more) (hl : xs.length ≤ 12) :
    Calls Try.prog 78 #[.slice (some ⟨g, 0, none⟩) xs.length c] w fun e w' => (∃ v, e = .returned v) ∧ (∃ ys, Row w' g ys more ∧ ys.Perm xs ∧ Sorted ys ys.length) ∧ w.grownBy w' (some g) := by
  have C1 := Lib.hid (fun lim => pdqsort_calls g xs more c lim w h hl)
  have hl0 : (xs.length : Int) ≤ 12 := by omega
  clear h hl
  generalize xs.length = n at *
  go_enter Try.func78, Try.ntmps78
  go_wp2_with fail
  refine (Len_calls _ _ ⟨by omega, hl0⟩).mono ?_
  rintro e w1 ⟨⟨k, rfl⟩, rfl⟩
  go_wp2_with fail
  refine (C1.out k).mono ?_
  rintro e w1 ⟨⟨v, rfl⟩, h1, h2⟩
  replace h1 := Lib.hid h1; replace h2 := Lib.hid h2
  go_wp2_with fail
  go_end0
  exact ⟨⟨_, rfl⟩, h1.out, h2.out⟩
end Go.Proofs.Ytjjdfhokmiaekaa
