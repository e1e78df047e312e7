/-
  The contracts of the reference's Won and Lost, and the walk of ElectCounts.
-/
import Derived.Test.YtjjdfhokmiaekaaAgree
import Derived.Test.YtjjdfhokmiaekaaElArgs
import Derived.Test.YtjjdfhokmiaekaaElect6
import Derived.Outline
namespace Go.Proofs.Ytjjdfhokmiaekaa
open Go.RowKit Go.Lst Go.Lx

set_option maxRecDepth 100000 in
set_option maxHeartbeats 1000000 in
theorem rWon_calls {C0 B0 b : Nat} {T : Int} {conf ys ns : List Int} {yv nv : Value} (w : World) (h : RTal w C0 B0 b T conf ys ns yv nv) (hl : conf.length ≤ 100000) :
    Calls Try.prog 37 #[.pointer (some ⟨b, 0, none⟩)] w fun e w' => e = .returned (.bool (quorum ys conf)) ∧ Below w.heap.size w w' := by
  obtain ⟨a, c, h1, h2, h3⟩ := h.blk
  have q := fun x : Ext w => (h1.below x.below).c4
  have q1 := fun x : Ext w => (q x).2.1
  have q2 := fun x : Ext w => (q x).2.2.1
  have hq := Lib.hid (fun x : Ext w => rQuorum_calls yv (.slice (some a) conf.length c) ys conf x.wo (Nums.below (Nums.own h.y h.wy) x.below) (h2.below x.below) hl)
  clear q h h1 h2 h3
  generalize quorum ys conf = r at *
  go_enter Try.func37, Try.ntmps37
  go_wp2_with fail
  refine Lx.wp_region_chain_lit (fun w' => ∃ x : Lx.Ext w, w' = x.wo) (fun b => w.heap.size ≤ b) [8] [] (fun _ => True) (by kernel_rfl) (by kernel_rfl) (by kernel_rfl) (by kernel_rfl) Lx.ext_drew trivial ?_
  repeat (refine Lx.wpCh_one (by rfl) (by rfl) ?_; go_big_quiet_step (fail); refine wpQuiet_nil ?_)
  refine Lx.wpCh_extp (.bool r) (by rfl) (by rfl) (fun x R hR => ?_) ?_
  · go_simp
    refine (hq.out x).mono ?_
    rintro e w'' ⟨rfl, hb⟩
    exact ⟨_, rfl, hR _ hb⟩
  go_big_quiet_step (fail)
  refine wpQuiet_nil ?_
  repeat (refine Lx.wpCh_one (by rfl) (by rfl) ?_; go_big_quiet_step (fail); refine wpQuiet_nil ?_)
  refine Lx.wpCh_nil ?_
  intro w1 hx _
  obtain ⟨x, rfl⟩ := hx
  have hb := Lib.hid x.below
  clear q1 q2
  generalize x.wo = w1 at *
  go_wp2_with fail
  go_ret
  exact ⟨rfl, hb.out⟩
set_option maxRecDepth 100000 in
set_option maxHeartbeats 1000000 in
theorem rLost_calls {C0 B0 b : Nat} {T : Int} {conf ys ns : List Int} {yv nv : Value} (w : World) (h : RTal w C0 B0 b T conf ys ns yv nv) (hl : conf.length ≤ 100000) (hn : ns.length ≤ 100000) :
    Calls Try.prog 39 #[.pointer (some ⟨b, 0, none⟩)] w fun e w' => e = .returned (.bool (decide (2 * ((conf.length : Int) - (ns.length : Int)) ≤ (conf.length : Int)))) ∧ Below w.heap.size w w' := by
  obtain ⟨a, c, h1, h2, h3⟩ := h.blk
  obtain ⟨p, c2, rfl, _⟩ := (Nums.own h.n h.wn).parts
  obtain ⟨q0, q1, q2, q3, -⟩ := h1.c4
  have e1 : IntKind.i64.wrap ((conf.length : Int) - (ns.length : Int)) = (conf.length : Int) - (ns.length : Int) := IntWalk.i64_in _ (by omega)
  have e2 : IntKind.i64.wrap (2 * ((conf.length : Int) - (ns.length : Int))) = 2 * ((conf.length : Int) - (ns.length : Int)) := IntWalk.i64_in _ (by omega)
  clear h h1 h2 h3
  obtain ⟨r, hr⟩ : ∃ r, decide (2 * ((conf.length : Int) - (ns.length : Int)) ≤ (conf.length : Int)) = r := ⟨_, rfl⟩
  rw [hr]
  go_enter Try.func39, Try.ntmps39
  go_wp2_with fail
  go_quiet (fail)
  go_wp2_with fail
  go_ret
  exact ⟨by first | rfl | simp_all, below_drewN (Below.refl _ _) _⟩
set_option maxRecDepth 100000 in
theorem NewTally_bad (T : Int) (v : Value) (xs : List Int) (w : World) (h : Nums .i64 w v xs) (hb : ¬((1 ≤ T ∧ T ≤ 281474976710656) ∧ may xs = true)) :
    Calls Try.prog 32 #[.int .u64 T, v] w fun e w' => e = .returned (.tuple #[.pointer none, .int .i64 2]) ∧ Below w.heap.size w w' := by
  have C1 := Lib.hid (May_calls v xs w h)
  clear h
  by_cases h1 : T < 1
  · clear hb
    go_enter Try.func32, Try.ntmps32
    go_wp2_with fail
    go_ret2
    exact ⟨rfl, Below.refl _ _⟩
  · by_cases h2 : 281474976710656 < T
    · clear hb
      go_enter Try.func32, Try.ntmps32
      go_wp2_with fail
      go_ret2
      exact ⟨rfl, Below.refl _ _⟩
    · have hm : may xs = false := by
        cases hm : may xs with
        | false => rfl
        | true => exact absurd ⟨by omega, hm⟩ hb
      rw [hm] at C1
      clear hb hm
      go_enter Try.func32, Try.ntmps32
      go_wp2_with fail
      refine C1.out.mono ?_
      rintro e w1 ⟨rfl, hb1⟩
      go_wp2_with fail
      go_ret2
      exact ⟨rfl, hb1⟩

/-- A step's cells. -/
def QStep (_ : World) (cs : List Value) : Prop := ∃ f t y, cs = [.int .i64 f, .int .u64 t, .bool y] ∧ (Lit.int .i64 f).wf = true
/-- The world between the calls. -/
def SB (w : World) (bt br C0 B0 : Nat) (T : Int) (conf : List Int) (said : List Nat) (ys ns : List Int) (w' : World) : Prop :=
  Tal w' bt T conf said ∧ (∃ yv nv, RTal w' C0 B0 br T conf ys ns yv nv) ∧ Below w.heap.size w w'
def SA (w : World) (bt br C0 B0 sb : Nat) (T : Int) (conf : List Int) (said : List Nat) (ys ns : List Int) (w' : World) : Prop :=
  Tal w' bt T conf said ∧ (∃ yv nv, RTal w' C0 B0 br T conf ys ns yv nv ∧ ¬ Turns br yv nv sb) ∧ Below w.heap.size w w'
theorem SB.below {w w' w'' : World} {bt br C0 B0 : Nat} {T : Int} {conf : List Int} {said : List Nat} {ys ns : List Int} (h : SB w bt br C0 B0 T conf said ys ns w') (hb : Below w'.heap.size w' w'') : SB w bt br C0 B0 T conf said ys ns w'' := by
  obtain ⟨h1, ⟨yv, nv, h2⟩, h3⟩ := h
  exact ⟨h1.below hb, ⟨yv, nv, h2.below hb⟩, Lx.bstep h3 (Nat.le_refl _) hb⟩
theorem SB.mark {w w' : World} {bt br C0 B0 : Nat} {T : Int} {conf : List Int} {said : List Nat} {ys ns : List Int} (h : SB w bt br C0 B0 T conf said ys ns w') (o : Obj) : SA w bt br C0 B0 w'.heap.size T conf said ys ns (w'.alloc o) := by
  have hb := (Below.refl w'.heap.size w').alloc (Nat.le_refl _) o
  obtain ⟨h1, ⟨yv, nv, h2⟩, h3⟩ := h
  exact ⟨h1.below hb, ⟨yv, nv, h2.below hb, fun ht => by have := (h2.turns ht).2; omega⟩, Lx.bstep h3 (Nat.le_refl _) hb⟩
theorem tal_keep {w w' : World} {b : Nat} {T : Int} {conf : List Int} {said : List Nat} (h : Tal w b T conf said) (hk : ∀ k, k ≤ b → w'.heap[k]? = w.heap[k]?) : Tal w' b T conf said := by
  obtain ⟨p, c, h1, h2, h3⟩ := h.c1
  have hbl := hk b (Nat.le_refl _)
  exact ⟨h.few, (World.cell?_of_block hbl).trans h.c0, ⟨p, c, (World.cell?_of_block hbl).trans h1, h2, h3.keep (fun k e => by cases e; exact hk _ (by omega))⟩, fun i hi => (World.cell?_of_block hbl).trans (h.c2 i hi), fun i hi => (World.frozen?_of_block hbl).trans (h.fr i hi)⟩
theorem SA.tvote {w w' w'' : World} {bt br C0 B0 sb : Nat} {T : Int} {conf : List Int} {said said' : List Nat} {ys ns : List Int} (hw : w.heap.size ≤ bt) (h1 : C0 ≤ bt) (h2 : bt < B0) (h : SA w bt br C0 B0 sb T conf said ys ns w') (ht : Tal w'' bt T conf said') (hg : w'.grownBy w'' (some bt)) :
    SA w bt br C0 B0 sb T conf said' ys ns w'' := by
  obtain ⟨k1, ⟨yv, nv, k2, k3⟩, k4⟩ := h
  exact ⟨ht, ⟨yv, nv, k2.grown hg h1 h2, k3⟩, k4.grown hg (by have := k4.size; omega) (fun k e => by cases e; exact hw)⟩

set_option maxRecDepth 100000 in
set_option maxHeartbeats 4000000 in
/-- The law where the tally may be. -/
theorem counts_good (T : Int) (conf : List Int) (cp : Addr) (cc : Nat) (sv : Value) (n : Nat) (w : World) (hc : Nums .i64 w (.slice (some cp) conf.length cc) conf) (hs : Recs 3 QStep w sv n) (hT : 1 ≤ T ∧ T ≤ 281474976710656) (hm : may conf = true) :
    Calls Try.prog 5 #[.int .u64 T, .slice (some cp) conf.length cc, sv] w fun e w' => e = .returned (.bool true) ∧ Below w.heap.size w w' := by
  obtain ⟨i0, hi, hz0, hz1, hz2⟩ := info_parts infoInt
  obtain ⟨sp, sc, rfl, hs1, hs2, hs3⟩ := id hs
  have hl := (may_facts hm).2.2
  have hlt : cp.block < w.heap.size := by obtain ⟨a, c, e, h⟩ := hc.block_lt hl.1; cases e; exact h
  have hnews : ∀ j u, (conf.map fun x => Value.int .i64 x)[j]? = some u → w.cell? (cp.add j) = some u := by
    intro j u hj
    obtain ⟨q, d, e1, _, _, hcc⟩ := hc.1
    injection e1 with e1 e2 e3
    subst e1
    obtain ⟨hj1, hj2⟩ := List.getElem?_eq_some_iff.1 hj
    obtain ⟨b, hb, hb2⟩ := hcc j hj1
    cases hb
    rw [← hj2]; exact hb2
  have hone : ∀ u ∈ conf.map (fun x => Value.int .i64 x), u.oneCell' = true := by
    intro u hu
    obtain ⟨x, _, rfl⟩ := List.mem_map.1 hu
    rfl
  have h63 : 0 + conf.length ≤ maxLen := by unfold maxLen; omega
  have h64 : (0 + conf.length) * 8 ≤ 140737488355328 := by omega
  have hl100 : (conf.length : Int) ≤ 100 := by omega
  have hlen : (conf.map fun x => Value.int .i64 x).length = conf.length * 1 := by simp
  replace hs := Lib.hid hs
  replace hc := Lib.hid hc
  replace hT := Lib.hid hT
  replace hm := Lib.hid hm
  replace hlt := Lib.hid hlt
  replace h63 := Lib.hid h63
  replace h64 := Lib.hid h64
  replace hl := Lib.hid hl
  replace hs3 := Lib.hid hs3
  replace hs1 := Lib.hid hs1
  replace hs2 := Lib.hid hs2
  go_enter Try.func5, Try.ntmps5
  go_wp2_with (at_builtin; refine wpList_append_own _ rfl (.const (.slice none 0 0)) (.tmp 23) 33 rfl w.heap.size 3 i0 (.int .i64 0) 1 8 Try.underlying33 hi hz0 hz1 hz2 rfl (by decide) (.slice none 0 0) 0 [] rfl (own_nil _ _ _) cp conf.length cc (conf.map fun x => .int .i64 x) rfl hlen hnews hone h63.out h64.out (Nat.le_refl _) ?_; intro v1 w1 hown1 hgrow1 _; clear hnews hone hlen; replace hown1 := Lib.hid hown1; replace hgrow1 := Lib.hid hgrow1)
  · refine (works25_calls _).mono ?_
    rintro e w1 ⟨rfl, hb1⟩
    go_wp2_with fail
    go_ret
    exact ⟨rfl, hb1⟩
  have hB := Lib.hid ((Below.refl w.heap.size w).grown hgrow1.out (Nat.le_refl _) (fun k hk => by cases hk))
  have hN1 : Nums .i64 w1 v1 conf := Nums.own (by have := hown1.out; rw [Nat.zero_add, List.nil_append] at this; exact this) hc.out.2
  replace hc := Lib.hid (hc.out.keep (fun k e => by cases e; exact hB.out.block _ hlt.out))
  refine (NewTally_calls T v1 conf w1 hN1 hT.out hm.out).mono ?_
  rintro e w2 ⟨bt, rfl, hbt, hTal, hb2⟩
  clear hN1 hown1 hgrow1
  replace hTal := Lib.hid hTal
  replace hbt := Lib.hid (show w.heap.size ≤ bt from Nat.le_trans hB.out.size hbt)
  replace hB := Lib.hid (Lx.bstep hB.out (Nat.le_refl _) hb2)
  replace hc := Lib.hid (hc.out.below hb2)
  clear hb2
  go_wp2_with fail
  refine (rNewTally_calls w.heap.size T _ conf w2 hc.out hB.out.size (fun _ k e => by cases e; exact hlt.out)).mono ?_
  rintro e w3 ⟨⟨u, rfl, hgood, -⟩, hb3⟩
  obtain ⟨br, rfl, hR⟩ := hgood ⟨hT.out, hm.out⟩
  have hbt2 := Lib.hid (show bt < w2.heap.size from hTal.out.lt)
  have hSB : SB w bt br w.heap.size w2.heap.size T conf (List.replicate 65 0) [] [] w3 := ⟨hTal.out.below hb3, ⟨_, _, hR⟩, Lx.bstep hB.out (Nat.le_refl _) hb3⟩
  generalize w2.heap.size = B0 at *
  clear hR hTal hb3 hc
  replace hSB := Lib.hid hSB
  clear hB
  go_wp2_with fail
  have hA := Lib.hid (agree_start conf)
  go_loopg [10] (n + 1) (fun k v10 wr => ∃ (i : Nat) (said : List Nat) (ys ns : List Int), v10 = .int .i64 (i : Int) ∧ i ≤ n ∧ n < i + k ∧ SB w bt br w.heap.size B0 T conf said ys ns wr ∧ Agree conf said ys ns)
  case atStart => exact ⟨0, _, _, _, rfl, by omega, by omega, hSB.out, hA.out⟩
  case round =>
    clear hSB hA
    obtain ⟨i, said, ys, ns, rfl, hile, hfuel, hS, hA⟩ := hrel
    cases gk with
    | zero => omega
    | succ k =>
      by_cases hlt2 : i < n
      · have hlt3 : (i : Int) < (n : Int) := by omega
        have h0 : (0 : Int) ≤ (i : Int) := by omega
        obtain ⟨a, cs, rfl, hcs, ⟨f, t, y, rfl, hwf⟩, hcell⟩ := hs3.out i hlt2
        have g0 := (cell_below hS.2.2 (hcell 0 (by omega))).trans (hcell 0 (by omega))
        have g1 := (cell_below hS.2.2 (hcell 1 (by omega))).trans (hcell 1 (by omega))
        have g2 := (cell_below hS.2.2 (hcell 2 (by omega))).trans (hcell 2 (by omega))
        simp only [List.getElem?_cons_zero, List.getElem?_cons_succ] at g0 g1 g2
        rw [Nat.add_zero] at g0
        rw [← Lst.add_add] at g1 g2
        clear hcell hcs
        have hm1 := Lib.hid (made1 wr #[.int .i64 f, .int .u64 t, .bool y] 77)
        have hS0 := hS
        replace hS := Lib.hid (hS.mark (.cells #[.int .i64 f, .int .u64 t, .bool y] 77))
        have hav := agree_vote (T := T) hm.out hS.out.1.few hA f t y
        have hlen := agree_len hm.out hA
        have hsb := Lib.hid (show wr.heap.size ≠ bt by have := hS0.1.lt; omega)
        obtain ⟨⟨x1, said'⟩, hv⟩ : ∃ X, vote T conf said f t y = X := ⟨_, rfl⟩
        obtain ⟨⟨y1, ys', ns'⟩, hr⟩ : ∃ X, rvote T conf ys ns f t y = X := ⟨_, rfl⟩
        rw [hv, hr] at hav
        obtain ⟨hav1, hA2⟩ := hav
        dsimp only at hav1 hA2
        subst hav1
        clear hA hS0
        replace hwf := Lib.hid hwf
        replace hv := Lib.hid hv
        replace hr := Lib.hid hr
        replace hlen := Lib.hid hlen
        replace hA2 := Lib.hid hA2
        replace g1 : wr.cell? ⟨(a.add (i * 3)).block, (a.add (i * 3)).off + 1, none⟩ = some (.int .u64 t) := g1
        replace g2 : wr.cell? ⟨(a.add (i * 3)).block, (a.add (i * 3)).off + 2, none⟩ = some (.bool y) := g2
        go_wp2_with fail
        clear g0 g1 g2
        have hblk : Blk (wr.alloc (.cells #[.int .i64 f, .int .u64 t, .bool y] 77)) wr.heap.size [.int .i64 f, .int .u64 t, .bool y] := hm1.out.1
        generalize wr.heap.size = sb at *
        generalize wr.alloc (.cells #[.int .i64 f, .int .u64 t, .bool y] 77) = W at *
        clear hm1
        have g := fun x : Cls (fun w' => Blk w' sb [.int .i64 f, .int .u64 t, .bool y]) => x.is.c3
        have g0 := fun x : Cls (fun w' => Blk w' sb [.int .i64 f, .int .u64 t, .bool y]) => (g x).1
        have g1 := fun x : Cls (fun w' => Blk w' sb [.int .i64 f, .int .u64 t, .bool y]) => (g x).2.1
        have g2 := fun x : Cls (fun w' => Blk w' sb [.int .i64 f, .int .u64 t, .bool y]) => (g x).2.2.1
        clear g
        replace hblk := Lib.hid hblk
        have hnon : Nonempty (Cls (fun w' => Blk w' sb [.int .i64 f, .int .u64 t, .bool y])) := ⟨⟨_, hblk.out⟩⟩
        refine Lx.wp_region_chain_lit (fun w' => ∃ x : Cls (fun w' => Blk w' sb [.int .i64 f, .int .u64 t, .bool y]), w' = x.wo) (fun _ => False) [7, 15, 19, 21, 26, 28, 33, 36] [] (SA w bt br w.heap.size B0 sb T conf said ys ns) (by kernel_rfl) (by kernel_rfl) (by kernel_rfl) (by kernel_rfl) (cls_of hblk.out) ?_ ?_
        · exact ⟨hS.out.1.below (by repeat (first | exact Below.refl _ _ | exact Lx.Ext.below _ | refine Below.drew ?_ | refine below_drewN ?_ _ | (refine Below.alloc ?_ (by first | exact Nat.le_refl _ | (simp; done) | (simp; omega)) _) | (refine Below.setCell ?_ (by first | exact Nat.le_refl _ | (simp; done) | (simp; omega)) _))), hS.out.2.1.imp fun yv h => h.imp fun nv h => ⟨h.1.below (by repeat (first | exact Below.refl _ _ | exact Lx.Ext.below _ | refine Below.drew ?_ | refine below_drewN ?_ _ | (refine Below.alloc ?_ (by first | exact Nat.le_refl _ | (simp; done) | (simp; omega)) _) | (refine Below.setCell ?_ (by first | exact Nat.le_refl _ | (simp; done) | (simp; omega)) _))), h.2⟩, hS.out.2.2.drew⟩
        repeat (refine Lx.wpCh_one (by rfl) (by rfl) ?_; go_big_quiet_step (fail); refine wpQuiet_nil ?_)
        refine Lx.wpCh_cls (.int .i64 (x1 : Int)) (SA w bt br w.heap.size B0 sb T conf said' ys ns) (by rfl) (by rfl) (fun h => by cases h) ⟨_, hblk.out⟩ (fun x hS R hR => ?_) ?_
        · have hbl := Lib.hid x.is
          go_simp
          refine (Vote_calls bt T conf said f t y x.wo hS.1).mono ?_
          rw [hv.out]
          rintro e w'' ⟨rfl, hT', hg⟩
          exact ⟨_, rfl, hR _ (hbl.out.grown hg hsb.out) (hS.tvote hbt.out hbt.out hbt2.out hT' hg) (fun h => by cases h)⟩
        go_big_quiet_step (fail)
        refine wpQuiet_nil ?_
        repeat (refine Lx.wpCh_one (by rfl) (by rfl) ?_; go_big_quiet_step (fail); refine wpQuiet_nil ?_)
        refine Lx.wpCh_cls (.int .i64 (x1 : Int)) (SB w bt br w.heap.size B0 T conf said' ys' ns') (by rfl) (by rfl) (fun h => by cases h) ⟨_, hblk.out⟩ (fun x hS R hR => ?_) ?_
        · have hbl := Lib.hid x.is
          obtain ⟨hS1, ⟨yv, nv, hS2, hS4⟩, hS3⟩ := hS
          replace hS1 := Lib.hid hS1
          replace hS2 := Lib.hid hS2
          replace hS3 := Lib.hid hS3
          replace hS4 := Lib.hid hS4
          go_simp
          refine (rVote_calls w.heap.size B0 br T conf ys ns yv nv f t y x.wo hS2.out hwf.out (by have := hlen.out; omega) (by have := hlen.out; omega)).mono ?_
          rw [hr.out]
          rintro e w'' ⟨rfl, hR3, hst⟩
          refine ⟨_, rfl, hR _ (hbl.out.same (hst.block sb hbl.out.lt hS4.out)) ⟨tal_keep hS1.out (fun k hk => hst.block k (by have := hS1.out.lt; omega) (fun ht => by have := (hS2.out.turns ht).1; have := hbt2.out; omega)), hR3, ?_⟩ (fun h => by cases h)⟩
          exact hS3.out.trans (hst.below hS3.out.size (fun k hk => by have := (hS2.out.turns hk).1; have := hbt2.out; have := hbt.out; omega))
        go_big_quiet_step (fail)
        refine wpQuiet_nil ?_
        repeat (refine Lx.wpCh_one (by rfl) (by rfl) ?_; go_big_quiet_step (fail); refine wpQuiet_nil ?_)
        have hwon := agree_won hA2.out
        have hlost := agree_lost hm.out hA2.out
        have hnot := agree_one hm.out hA2.out
        obtain ⟨Wn, hWn⟩ : ∃ b, won said' conf = b := ⟨_, rfl⟩
        obtain ⟨Ls, hLs⟩ : ∃ b, lost said' conf = b := ⟨_, rfl⟩
        rw [hWn, hLs] at hnot
        rw [hWn] at hwon
        rw [hLs] at hlost
        have hl7 := (agree_len hm.out hA2.out).2
        replace hwon := Lib.hid hwon
        replace hlost := Lib.hid hlost
        replace hnot := Lib.hid hnot
        replace hWn := Lib.hid hWn
        replace hLs := Lib.hid hLs
        replace hl7 := Lib.hid hl7
        refine Lx.wpCh_cls (.bool Wn) (SB w bt br w.heap.size B0 T conf said' ys' ns') (by rfl) (by rfl) (fun h => by cases h) ⟨_, hblk.out⟩ (fun x hS R hR => ?_) ?_
        · have hbl := Lib.hid x.is
          go_simp
          refine (Won_calls bt T conf said' x.wo hS.1 hm.out).mono ?_
          rw [hWn.out]
          rintro e w'' ⟨rfl, hb⟩
          exact ⟨_, rfl, hR _ (hbl.out.below hb) (hS.below hb) (fun h => by cases h)⟩
        go_big_quiet_step (fail)
        refine wpQuiet_nil ?_
        repeat (refine Lx.wpCh_one (by rfl) (by rfl) ?_; go_big_quiet_step (fail); refine wpQuiet_nil ?_)
        refine Lx.wpCh_cls (.bool Wn) (SB w bt br w.heap.size B0 T conf said' ys' ns') (by rfl) (by rfl) (fun h => by cases h) ⟨_, hblk.out⟩ (fun x hS R hR => ?_) ?_
        · have hbl := Lib.hid x.is
          go_simp
          obtain ⟨yv, nv, hS2⟩ := hS.2.1
          refine (rWon_calls x.wo hS2 (by have := hl.out; omega)).mono ?_
          rw [← hwon.out]
          rintro e w'' ⟨rfl, hb⟩
          exact ⟨_, rfl, hR _ (hbl.out.below hb) (hS.below hb) (fun h => by cases h)⟩
        go_big_quiet_step (fail)
        refine wpQuiet_nil ?_
        repeat (refine Lx.wpCh_one (by rfl) (by rfl) ?_; go_big_quiet_step (fail); refine wpQuiet_nil ?_)
        refine Lx.wpCh_cls (.bool Ls) (SB w bt br w.heap.size B0 T conf said' ys' ns') (by rfl) (by rfl) (fun h => by cases h) ⟨_, hblk.out⟩ (fun x hS R hR => ?_) ?_
        · have hbl := Lib.hid x.is
          go_simp
          refine (Lost_calls bt T conf said' x.wo hS.1 hm.out).mono ?_
          rw [hLs.out]
          rintro e w'' ⟨rfl, hb⟩
          exact ⟨_, rfl, hR _ (hbl.out.below hb) (hS.below hb) (fun h => by cases h)⟩
        go_big_quiet_step (fail)
        refine wpQuiet_nil ?_
        repeat (refine Lx.wpCh_one (by rfl) (by rfl) ?_; go_big_quiet_step (fail); refine wpQuiet_nil ?_)
        refine Lx.wpCh_cls (.bool Ls) (SB w bt br w.heap.size B0 T conf said' ys' ns') (by rfl) (by rfl) (fun h => by cases h) ⟨_, hblk.out⟩ (fun x hS R hR => ?_) ?_
        · have hbl := Lib.hid x.is
          go_simp
          obtain ⟨yv, nv, hS2⟩ := hS.2.1
          refine (rLost_calls x.wo hS2 (by have := hl.out; omega) (by have := hl7.out; omega)).mono ?_
          rw [← hlost.out]
          rintro e w'' ⟨rfl, hb⟩
          exact ⟨_, rfl, hR _ (hbl.out.below hb) (hS.below hb) (fun h => by cases h)⟩
        go_big_quiet_step (fail)
        refine wpQuiet_nil ?_
        repeat (refine Lx.wpCh_one (by rfl) (by rfl) ?_; go_big_quiet_step (fail); refine wpQuiet_nil ?_)
        refine Lx.wpCh_cls (.bool Wn) (SB w bt br w.heap.size B0 T conf said' ys' ns') (by rfl) (by rfl) (fun h => by cases h) ⟨_, hblk.out⟩ (fun x hS R hR => ?_) ?_
        · have hbl := Lib.hid x.is
          go_simp
          refine (Won_calls bt T conf said' x.wo hS.1 hm.out).mono ?_
          rw [hWn.out]
          rintro e w'' ⟨rfl, hb⟩
          exact ⟨_, rfl, hR _ (hbl.out.below hb) (hS.below hb) (fun h => by cases h)⟩
        cases Wn
        case' true =>
          obtain rfl : Ls = false := by cases Ls; rfl; exact absurd ⟨rfl, rfl⟩ hnot.out
          go_big_quiet_step (fail)
          refine wpQuiet_nil ?_
          repeat (refine Lx.wpCh_one (by rfl) (by rfl) ?_; go_big_quiet_step (fail); refine wpQuiet_nil ?_)
          refine Lx.wpCh_cls (.bool false) (SB w bt br w.heap.size B0 T conf said' ys' ns') (by rfl) (by rfl) (fun h => by cases h) ⟨_, hblk.out⟩ (fun x hS R hR => ?_) ?_
          · have hbl := Lib.hid x.is
            go_simp
            refine (Lost_calls bt T conf said' x.wo hS.1 hm.out).mono ?_
            rw [hLs.out]
            rintro e w'' ⟨rfl, hb⟩
            exact ⟨_, rfl, hR _ (hbl.out.below hb) (hS.below hb) (fun h => by cases h)⟩
          go_big_quiet_step (fail)
          refine wpQuiet_nil ?_
          repeat (refine Lx.wpCh_one (by rfl) (by rfl) ?_; go_big_quiet_step (fail); refine wpQuiet_nil ?_)
        case' false =>
          go_big_quiet_step (fail)
          refine wpQuiet_nil ?_
          repeat (refine Lx.wpCh_one (by rfl) (by rfl) ?_; go_big_quiet_step (fail); refine wpQuiet_nil ?_)
          refine Lx.wpCh_skipp ⟨_, cls_of hblk.out⟩ (by rfl) ?_
          go_big_quiet_step (fail)
          refine wpQuiet_nil ?_
          repeat (refine Lx.wpCh_one (by rfl) (by rfl) ?_; go_big_quiet_step (fail); refine wpQuiet_nil ?_)
        all_goals
          refine Lx.wpCh_nil ?_
          intro w1 hx hS9
          obtain ⟨x, rfl⟩ := hx
          clear g0 g1 g2 hS hwon hlost hnot hWn hLs hblk
          replace hS9 := Lib.hid hS9
          generalize x.wo = w9 at *
          go_wp2_with fail
          go_roundg k
          case measure => omega
          case rel => exact ⟨i + 1, said', ys', ns', by first | rfl | go_num, by omega, by omega, hS9.out, hA2.out⟩
      · have hd : decide ((i : Int) < (n : Int)) = false := by simp; omega
        replace hS := Lib.hid hS
        go_wp2_with fail
        refine (works25_calls _).mono ?_
        rintro e w8 ⟨rfl, hb8⟩
        go_wp2_with fail
        go_ret
        exact ⟨rfl, Lx.bstep hS.out.2.2 (Nat.le_refl _) hb8⟩
set_option maxRecDepth 100000 in
set_option maxHeartbeats 1000000 in
/-- The law where it may not be. -/
theorem counts_bad (T : Int) (cv : Value) (conf : List Int) (sv : Value) (n : Nat) (w : World) (hc : Nums .i64 w cv conf) (hs : Recs 3 QStep w sv n) (hbad : ¬((1 ≤ T ∧ T ≤ 281474976710656) ∧ may conf = true)) :
    Calls Try.prog 5 #[.int .u64 T, cv, sv] w fun e w' => e = .returned (.bool true) ∧ Below w.heap.size w w' := by
  obtain ⟨sp, sc, rfl, hs1, hs2, hs3⟩ := hs
  have hk : ∀ k, cv.ownBlock = some k → k < w.heap.size ∨ conf.length = 0 := fun k e => by
    by_cases h0 : 0 < conf.length
    · obtain ⟨a, c, rfl, h⟩ := hc.block_lt h0
      cases e; exact .inl h
    · exact .inr (by omega)
  obtain ⟨cp, cc, rfl, -⟩ := hc.parts
  clear hs1 hs2 hs3
  have hlen : conf.length ≤ 100 → conf.length * 8 ≤ 140737488355328 := fun h => by omega
  replace hc := Lib.hid hc
  replace hbad := Lib.hid hbad
  replace hlen := Lib.hid hlen
  go_enter Try.func5, Try.ntmps5
  by_cases h100 : (conf.length : Int) ≤ 100
  · have h100' := Lib.hid (show conf.length ≤ 100 by omega)
    go_wp2_with (at_builtin; refine wpList_copied rfl (.const (.slice none 0 0)) (.tmp 23) 33 rfl 3 .i64 8 Try.underlying33 infoInt rfl (.slice cp conf.length cc) conf rfl hc.out (hlen.out h100'.out) ?_; intro v1 w1 hown1 hb1; replace hown1 := Lib.hid hown1; replace hb1 := Lib.hid hb1)
    · refine (works25_calls _).mono ?_
      rintro e w1 ⟨rfl, hb1⟩
      go_wp2_with fail
      go_ret
      exact ⟨rfl, hb1⟩
    refine (NewTally_bad T v1 conf w1 (Nums.own hown1.out hc.out.2) hbad.out).mono ?_
    rintro e w2 ⟨rfl, hb2⟩
    replace hb1 := Lib.hid (Lx.bstep hb1.out (Nat.le_refl _) hb2)
    replace hc := Lib.hid (hc.out.below hb1.out)
    clear hb2 hown1
    go_wp2_with fail
    refine (rNewTally_calls w2.heap.size T _ conf w2 hc.out (Nat.le_refl _) (fun h0 k e => ?_)).mono ?_
    · rcases hk k e with h | h
      · exact Nat.lt_of_lt_of_le h hb1.out.size
      · omega
    rintro e w3 ⟨⟨u, rfl, -, hnone⟩, hb3⟩
    obtain rfl := hnone hbad.out
    clear hnone
    replace hb1 := Lib.hid (Lx.bstep hb1.out (Nat.le_refl _) hb3)
    clear hb3
    go_wp2_with fail
    refine (works25_calls _).mono ?_
    rintro e w4 ⟨rfl, hb4⟩
    go_wp2_with fail
    go_ret
    exact ⟨rfl, Lx.bstep hb1.out (Nat.le_refl _) hb4⟩
  · go_wp2_with fail
    refine (works25_calls _).mono ?_
    rintro e w1 ⟨rfl, hb1⟩
    go_wp2_with fail
    go_ret
    exact ⟨rfl, hb1⟩
set_option maxRecDepth 100000 in
theorem open_steps {H : Type} {enc : TypeId × Value → H} {W : World} {base : Nat} {v : Value} {d : DataW H} {p : List MemPlace} (hv : Value.okWide Try.prog W .any base 70 v) (h : DataW.Trod enc Try.prog W 0 (fun _ => true) true 70 v d p) :
    ∃ n, Recs 3 QStep W v n := by
  have hC : Try.prog.cellsOf 77 = 3 := by kernel_rfl
  have := recs_arg (Q := QStep) Try.underlying70 (fun n cs y hy => ?_) hv h
  · rwa [hC] at this
  · obtain ⟨hl, n, hf⟩ := cells_trod Try.underlying77 (by kernel_rfl) (by kernel_rfl) hy
    obtain ⟨c0, c1, c2, rfl⟩ := list3 hl
    obtain ⟨v0, y0, e0, h0⟩ := hf 0 _ rfl
    obtain ⟨v1, y1, e1, h1⟩ := hf 1 _ rfl
    obtain ⟨v2, y2, e2, h2⟩ := hf 2 _ rfl
    cases e0; cases e1; cases e2
    obtain ⟨a0, rfl, w0⟩ := int_of Try.underlying3 ⟨_, h0⟩
    obtain ⟨a1, rfl, w1⟩ := int_of Try.underlying32 ⟨_, h1⟩
    obtain ⟨a2, rfl⟩ := bool_of Try.underlying4 ⟨_, h2⟩
    exact ⟨a0, a1, a2, rfl, w0⟩
theorem ElectCounts_walk (T : Int) (cv : Value) (conf : List Int) (sv : Value) (n : Nat) (w : World) (_ : (Lit.int .u64 T).wf = true) (hc : Nums .i64 w cv conf) (hs : Recs 3 QStep w sv n) :
    Calls Try.prog 5 #[.int .u64 T, cv, sv] w fun e w' => e = .returned (.bool true) ∧ Below w.heap.size w w' := by
  by_cases h : (1 ≤ T ∧ T ≤ 281474976710656) ∧ may conf = true
  · obtain ⟨a, c, rfl, _⟩ := hc.block_lt (may_facts h.2).2.2.1
    exact counts_good T conf a c sv n w hc hs h.1 h.2
  · exact counts_bad T cv conf sv n w hc hs h
end Go.Proofs.Ytjjdfhokmiaekaa
