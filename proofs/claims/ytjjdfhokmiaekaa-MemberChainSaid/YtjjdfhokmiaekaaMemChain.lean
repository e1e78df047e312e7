/-
  The walk of MemberChain.
-/
import Derived.Test.YtjjdfhokmiaekaaMemTells
import Derived.Test.YtjjdfhokmiaekaaMemMath
import Derived.Deep.DeepCutAuto
namespace Go.Proofs.Ytjjdfhokmiaekaa
open Go.RowKit Go.Lst Go.Lx Go.Maps

theorem nums_other {k : IntKind} {w w' : World} {v : Value} {xs : List Int} {mb m : Nat} {ys : List Int} (h : Nums k w v xs) (h0 : 0 < xs.length) (hm : Voted w mb m ys) (hg : w.grownBy w' (some mb)) : Nums k w' v xs := by
  obtain ⟨D, ⟨es, cl, e1, -⟩, -⟩ := hm
  obtain ⟨p, c, rfl, hc1, hc2, hcell⟩ := h.parts
  obtain ⟨a, rfl, hca⟩ := hcell 0 h0
  refine h.keep fun j e => ?_
  cases e
  have hb : (a.add 0).block = a.block := by unfold Addr.add; split <;> rfl
  have hne : a.block ≠ mb := fun e => by
    unfold World.cell? at hca
    rw [hb, e, e1] at hca
    simp at hca
  have hlt : a.block < w.heap.size := by
    obtain ⟨a', c', e, h2⟩ := h.block_lt h0
    cases e; exact h2
  exact hg.block _ hlt (fun e => hne (by cases e; rfl))
/-- One change. -/
structure Step (l : List Int) (N E : Int) (L2 : List Int) : Prop where
  ok : E = 0 → may L2 = true ∧ near l L2 = true ∧ l ≠ L2 ∧ ∀ x, (x ∈ L2 ↔ if x = N then N ∉ l else x ∈ l)
  no : E ≠ 0 → L2 = []
  wf : (Lit.int .i64 N).wf = true
theorem step_add (l : List Int) (n : Int) (hn : (Lit.int .i64 n).wf = true) : Step l n ((addE l n : Nat) : Int) (addL l n) := by
  refine ⟨fun h => ?_, fun h => ?_, hn⟩
  · have h0 : addE l n = 0 := by omega
    have hni := (addE_zero.1 h0).2.2.2.1
    have e : addL l n = ins l n := by unfold addL; rw [if_pos h0]
    rw [e]
    refine ⟨add_may h0, (add_near h0).1, fun e => ?_, fun x => ?_⟩
    · have := (back_add h0).2.2; rw [← e] at this; omega
    · rw [mem_ins hni]
      by_cases hx : x = n
      · simp [hx, hni]
      · simp [hx]
  · unfold addL; rw [if_neg (by omega)]
theorem Voted.turn {w2 : World} {mb m : Nat} {l L2 : List Int} {N cv : Int} {D : DataW Unit} (hD : IsMap D) (hat : ∀ x : Int, D.atKey (.int .i64 x) (.lit (.int .i64 0)) = .lit (.int .i64 (if x ∈ l then 1 else 0)))
    (hown : w2.ownsMap Try.prog 3 (plainElem Try.prog 3) mb (m + 1) (D.put (.int .i64 N) (.lit (.int .i64 (1 - cv))))) (hcv : cv = if N ∈ l then 1 else 0) (hs : ∀ x, (x ∈ L2 ↔ if x = N then N ∉ l else x ∈ l)) : Voted w2 mb (m + 1) L2 := by
  refine ⟨_, hown, isMap_put hD _ _, fun x => ?_⟩
  by_cases hx : x = N
  · subst hx
    rw [atKey_put_same hD (by trivial), hcv]
    have := hs x
    rw [if_pos rfl] at this
    by_cases h : x ∈ l
    · rw [if_pos h, if_neg (fun h2 => this.1 h2 h)]; rfl
    · rw [if_neg h, if_pos (this.2 h)]; rfl
  · rw [atKey_put_other (by simpa using hx), hat x]
    have := hs x
    rw [if_neg hx] at this
    by_cases h : x ∈ l
    · rw [if_pos h, if_pos (this.2 h)]
    · rw [if_neg h, if_neg (fun h2 => h (this.1 h2))]
theorem Voted.one {w : World} {mb m : Nat} {l : List Int} (h : Voted w mb m l) (N : Int) : ∃ D : DataW Unit, w.ownsMap Try.prog 3 (plainElem Try.prog 3) mb m D ∧ IsMap D ∧ (∀ x : Int, D.atKey (.int .i64 x) (.lit (.int .i64 0)) = .lit (.int .i64 (if x ∈ l then 1 else 0))) ∧
    ∀ c : Int, D.atKey (.int .i64 N) (.lit (.int .i64 0)) = .lit (.int .i64 c) → (if N ∈ l then 1 else 0) = c := by
  obtain ⟨D, h1, h2, h3⟩ := h
  refine ⟨D, h1, h2, h3, fun c hc => ?_⟩
  rw [h3 N] at hc
  injection hc with hc; injection hc with _ hc
theorem step_rem (l : List Int) (n : Int) (hn : (Lit.int .i64 n).wf = true) : Step l n ((remE l n : Nat) : Int) (remL l n) := by
  refine ⟨fun h => ?_, fun h => ?_, hn⟩
  · have h0 : remE l n = 0 := by omega
    have hin := (remE_zero.1 h0).2.1
    have e : remL l n = rem l n := by unfold remL; rw [if_pos h0]
    rw [e]
    refine ⟨rem_may h0, (rem_near h0).1, fun e => ?_, fun x => ?_⟩
    · have := (back_rem h0).2.2; rw [← e] at this; omega
    · rw [mem_rem]
      by_cases hx : x = n
      · simp [hx, hin]
      · simp [hx]
  · unfold remL; rw [if_neg (by omega)]

set_option maxRecDepth 100000 in
set_option maxHeartbeats 2000000 in
theorem chain_big (v cv : Value) (conf cs : List Int) (w : World) (hc : Nums .i64 w v conf) (hs : Nums .i8 w cv cs) (hl : ¬(conf.length ≤ 100 ∧ cs.length ≤ 200)) :
    Calls Try.prog 11 #[v, cv] w fun e w' => e = .returned (.bool true) ∧ Below w.heap.size w w' := by
  obtain ⟨cp, cc, rfl, -⟩ := hc.parts
  obtain ⟨mp, mc, rfl, -⟩ := hs.parts
  clear hc hs
  generalize conf.length = x at *
  generalize cs.length = y at *
  have hcs : (100 < (x : Int)) ∨ (¬(100 < (x : Int)) ∧ 200 < (y : Int)) := by omega
  clear hl
  go_enter Try.func11, Try.ntmps11
  rcases hcs with h | ⟨h1, h⟩
  all_goals
    go_wp2_with fail
    refine (works24_calls _).mono ?_
    rintro e w1 ⟨rfl, hb1⟩
    go_wp2_with fail
    go_ret
    exact ⟨rfl, hb1⟩
set_option maxRecDepth 100000 in
set_option maxHeartbeats 2000000 in
theorem chain_bad (v cv : Value) (conf cs : List Int) (w : World) (hc : Nums .i64 w v conf) (hs : Nums .i8 w cv cs) (hl : conf.length ≤ 100 ∧ cs.length ≤ 200) (hm : may conf = false) :
    Calls Try.prog 11 #[v, cv] w fun e w' => e = .returned (.bool true) ∧ Below w.heap.size w w' := by
  have C1 := Lib.hid (May_calls v conf w hc)
  rw [hm] at C1
  obtain ⟨cp, cc, rfl, -⟩ := hc.parts
  obtain ⟨mp, mc, rfl, -⟩ := hs.parts
  have k1 : (conf.length : Int) ≤ 100 := by omega
  have k2 : (cs.length : Int) ≤ 200 := by omega
  clear hc hs hl hm
  go_enter Try.func11, Try.ntmps11
  go_wp2_with fail
  refine C1.out.mono ?_
  rintro e w1 ⟨rfl, hb1⟩
  go_wp2_with fail
  refine (works24_calls _).mono ?_
  rintro e w2 ⟨rfl, hb2⟩
  go_wp2_with fail
  go_ret
  exact ⟨rfl, Lx.bstep hb1 (Nat.le_refl _) hb2⟩

set_option maxRecDepth 100000 in
set_option maxHeartbeats 8000000 in
theorem chain_good (v cv : Value) (conf cs : List Int) (w : World) (hc : Nums .i64 w v conf) (hs : Nums .i8 w cv cs) (hl : conf.length ≤ 100 ∧ cs.length ≤ 200) (hm : may conf = true) :
    Calls Try.prog 11 #[v, cv] w fun e w' => e = .returned (.bool true) ∧ Below w.heap.size w w' := by
  have C1 := Lib.hid (May_calls v conf w hc)
  rw [hm] at C1
  have hwx := Lib.hid hc.wf
  have hws := Lib.hid hs.wf
  obtain ⟨cp, cc, rfl, c1, c2, hcell⟩ := hc.parts
  obtain ⟨mp, mc, rfl, m1, m2, hdell⟩ := hs.parts
  obtain ⟨l1, l2⟩ := hl
  have k1 : (conf.length : Int) ≤ 100 := by omega
  have k2 : (cs.length : Int) ≤ 200 := by omega
  have hC := Lib.hid hc
  have hB := Lib.hid (Below.refl w.heap.size w)
  have hmm := @run_makeMap Try.prog
  replace hcell := Lib.hid hcell
  replace hdell := Lib.hid hdell
  replace c1 := Lib.hid c1
  replace c2 := Lib.hid c2
  replace m1 := Lib.hid m1
  replace m2 := Lib.hid m2
  replace l1 := Lib.hid l1
  replace l2 := Lib.hid l2
  replace hm := Lib.hid hm
  clear hc hs
  go_enter Try.func11, Try.ntmps11
  go_wp2_with fail
  refine C1.out.mono ?_
  rintro e w1 ⟨rfl, hb⟩
  have hcell := Lib.hid (fun i h => by obtain ⟨a, ha, hc⟩ := hcell.out i h; exact ⟨a, ha, (cell_below hb hc).trans hc⟩ : ∀ i, i < conf.length → ∃ a, cp = some a ∧ w1.cell? (a.add i) = some (.int .i64 (conf.getD i 0)))
  have hdell := Lib.hid (fun i h => by obtain ⟨a, ha, hc⟩ := hdell.out i h; exact ⟨a, ha, (cell_below hb hc).trans hc⟩ : ∀ i, i < cs.length → ∃ a, mp = some a ∧ w1.cell? (a.add i) = some (.int .i8 (cs.getD i 0)))
  replace hb : Below w.heap.size w w1 := Lx.bstep (by repeat (first | exact Below.refl _ _ | exact Lx.Ext.below _ | refine Below.drew ?_ | refine below_drewN ?_ _ | (refine Below.alloc ?_ (by first | exact Nat.le_refl _ | (simp; done) | (simp; omega)) _) | (refine Below.setCell ?_ (by first | exact Nat.le_refl _ | (simp; done) | (simp; omega)) _))) (Nat.le_refl _) hb
  replace hC := Lib.hid (hC.out.below hb)
  replace hB := Lib.hid (Lx.bstep hB.out (Nat.le_refl _) hb)
  clear hb
  clear C1
  go_wp2_with fail
  go_loopg [6] (conf.length + 1) (fun k v6 wr => ∃ i : Nat, v6 = .int .i64 (i : Int) ∧ i ≤ conf.length ∧ conf.length < i + k ∧ Voted wr w1.heap.size i (conf.take i) ∧ Below w1.heap.size w1 wr)
  case atStart => exact ⟨0, rfl, by omega, by omega, Voted.made _, (Below.refl _ _).alloc (Nat.le_refl _) _⟩
  case round =>
    obtain ⟨i, rfl, hile, hfuel, hV, hb⟩ := hrel
    cases gk with
    | zero => omega
    | succ k =>
      by_cases hlt : i < conf.length
      · have hlt1 : (i : Int) < (conf.length : Int) := by omega
        have h0 : (0 : Int) ≤ (i : Int) := by omega
        obtain ⟨a, rfl, hca⟩ := hcell.out i hlt
        replace hca := (cell_below hb hca).trans hca
        have hmt := Lib.hid (mem_take conf i hlt)
        have hkey : keyOf Try.prog 3 (.int .i64 (conf.getD i 0)) = some (.int .i64 (conf.getD i 0)) := keyOf_int_mk Try.underlying3 (hwx.out i hlt)
        generalize conf.getD i 0 = X at *
        obtain ⟨D, hown, hD, hat⟩ := hV
        have hn100 : i < 1000 := by have := l1.out; omega
        replace hD := Lib.hid hD
        replace hat := Lib.hid hat
        replace hb := Lib.hid hb
        go_wp2_with (at_mapUpdate; refine wpList_mapUpdate_own _ rfl _ _ _ 101 rfl 3 3 law3 Try.underlying101 _ w1.heap.size i _ rfl hown (by unfold maxLen; omega) _ _ _ rfl rfl hkey _ [] (plainElem_int Try.underlying3 (by decide)) ?_; intro w2 hown2 hgrow2)
        go_roundg k
        case measure => omega
        case rel =>
          refine ⟨i + 1, by first | rfl | go_num, by omega, by omega, ⟨_, hown2, isMap_put hD.out _ _, fun x => ?_⟩, hb.out.grown hgrow2 hb.out.size (fun j hj => by cases hj; exact Nat.le_refl _)⟩
          by_cases hx : x = X
          · subst hx
            rw [atKey_put_same hD.out (by trivial), if_pos ((hmt.out x).2 (.inr rfl))]
          · rw [atKey_put_other (by simpa using hx), hat.out x]
            have := hmt.out x
            by_cases hx2 : x ∈ conf.take i
            · rw [if_pos hx2, if_pos (this.2 (.inl hx2))]
            · rw [if_neg hx2, if_neg (fun h => (this.1 h).elim hx2 hx)]
      · have hd : decide ((i : Int) < (conf.length : Int)) = false := by simp; omega
        have e : conf.take i = conf := List.take_of_length_le (by omega)
        rw [e] at hV
        obtain rfl : i = conf.length := by omega
        clear hfuel e hlt hile
        replace hV := Lib.hid hV
        replace hb := Lib.hid hb
        go_wp2_with fail
        go_loopg [7, 8] (cs.length + 1) (fun k v7 v8 wr => ∃ (j m : Nat) (l : List Int), v8 = .int .i64 (j : Int) ∧ Nums .i64 wr v7 l ∧ may l = true ∧ Voted wr w1.heap.size m l ∧ m ≤ conf.length + j ∧ j ≤ cs.length ∧ cs.length < j + k ∧ Below w1.heap.size w1 wr)
        case atStart => exact ⟨0, conf.length, conf, rfl, hC.out.below hb.out, hm.out, hV.out, by omega, by omega, by omega, hb.out⟩
        case round =>
          clear hb hV hC
          obtain ⟨j, m, l, rfl, hN, hml, hV, hmj, hjle, hfuel, hb⟩ := hrel
          obtain ⟨lp, lc, rfl, n1, n2, -⟩ := hN.parts
          cases gk with
          | zero => omega
          | succ k =>
            by_cases hlt : j < cs.length
            · have hlt1 : (j : Int) < (cs.length : Int) := by omega
              have h0 : (0 : Int) ≤ (j : Int) := by omega
              obtain ⟨a, rfl, hca⟩ := hdell.out j hlt
              replace hca := (cell_below hb hca).trans hca
              have hX8 := hws.out j hlt
              generalize cs.getD j 0 = X at *
              have hX1 : -128 ≤ X ∧ X ≤ 127 := by
                have e1 : IntKind.i8.min = -128 := rfl
                have e2 : IntKind.i8.max = 127 := rfl
                simp [Lit.wf, e1, e2] at hX8; exact hX8
              have hXw : (Lit.int .i64 X).wf = true := by
                have e1 : IntKind.i64.min = -9223372036854775808 := rfl
                have e2 : IntKind.i64.max = 9223372036854775807 := rfl
                simp [Lit.wf, e1, e2]; omega
              have hXn : (Lit.int .i64 (-X)).wf = true := by
                have e1 : IntKind.i64.min = -9223372036854775808 := rfl
                have e2 : IntKind.i64.max = 9223372036854775807 := rfl
                simp [Lit.wf, e1, e2]; omega
              have hX3 : -128 ≤ X := hX1.1
              have hX4 : X ≤ 127 := hX1.2
              have A1 := Lib.hid (fun W h => Add_calls (.slice lp l.length lc) l X W h hXw)
              have R1 := Lib.hid (fun W h => Remove_calls (.slice lp l.length lc) l (-X) W h)
              have sA := Lib.hid (step_add l X hXw)
              have sR := Lib.hid (step_rem l (-X) hXn)
              generalize ((addE l X : Nat) : Int) = EA at *
              generalize ((remE l (-X) : Nat) : Int) = ER at *
              generalize addL l X = LA at *
              generalize remL l (-X) = LR at *
              replace hN := Lib.hid hN
              replace hml := Lib.hid hml
              replace hV := Lib.hid hV
              replace hb := Lib.hid hb
              replace hXw := Lib.hid hXw
              replace hXn := Lib.hid hXn
              replace hX8 := Lib.hid hX8
              replace hX1 := Lib.hid hX1
              replace n1 := Lib.hid n1
              replace n2 := Lib.hid n2
              replace hmj := Lib.hid hmj
              replace hlt := Lib.hid hlt
              go_wp2_with fail
              refine (A1.out _ hN.out).mono ?_
              rintro e wA ⟨⟨uA, rfl, hX⟩, hbA⟩
              replace hX := Lib.hid hX
              replace hN := Lib.hid (hN.out.below hbA)
              replace hV := Lib.hid (hV.out.kept hbA)
              replace hb := Lib.hid (Lx.bstep hb.out (Nat.le_refl _) hbA)
              clear hbA hca
              go_upto_if 61 with (fail)
              go_cut [9, 10, 11] (fun v9 v10 v11 wx => ∃ (N E : Int) (L2 : List Int), v9 = .int .i64 N ∧ v11 = .int .i64 E ∧ Nums .i64 wx v10 L2 ∧ Step l N E L2 ∧ Nums .i64 wx (.slice lp l.length lc) l ∧ Voted wx w1.heap.size m l ∧ Below w1.heap.size w1 wx)
              case first =>
                by_cases hneg : X < 0
                · go_wp2_with fail
                  refine (R1.out _ hN.out).mono ?_
                  rintro e wB ⟨⟨uB, rfl, hR⟩, hbB⟩
                  replace hR := Lib.hid hR
                  replace hN := Lib.hid (hN.out.below hbB)
                  replace hV := Lib.hid (hV.out.kept hbB)
                  replace hb := Lib.hid (Lx.bstep hb.out (Nat.le_refl _) hbB)
                  clear hbB
                  go_wp2_with fail
                  go_meet
                  exact ⟨-X, ER, LR, rfl, rfl, hR.out, sR.out, hN.out, hV.out, hb.out⟩
                · have hd : decide (X < 0) = false := decide_eq_false hneg
                  go_wp2_with fail
                  go_meet
                  exact ⟨X, EA, LA, rfl, rfl, hX.out, sA.out, hN.out, hV.out, hb.out⟩
              case rest =>
              clear A1 R1 sA sR hX hN hV hb hX1 hX3 hX4 hX8 hXw hXn
              obtain ⟨N, E, L2, rfl, rfl, hX, hS, hN, hV, hb⟩ := hcut
              obtain ⟨p2, d2, rfl, e1, e2, -⟩ := hX.parts
              by_cases hE : E = 0
              · subst hE
                obtain ⟨s1, s2, s3, s4⟩ := hS.ok rfl
                have hNw := hS.wf
                have M1 := Lib.hid (fun W h => May_calls (.slice p2 L2.length d2) L2 W h)
                have M2 := Lib.hid (fun W h h' => Near_calls (.slice lp l.length lc) (.slice p2 L2.length d2) l L2 W h h')
                have M3 := Lib.hid (fun W h h' => rSame_calls (.slice lp l.length lc) (.slice p2 L2.length d2) l L2 W h h')
                rw [s1] at M1
                rw [s2] at M2
                rw [decide_eq_false s3] at M3
                have hkey : keyOf Try.prog 3 (.int .i64 N) = some (.int .i64 N) := keyOf_int_mk Try.underlying3 hNw
                have hf2 := (may_facts s1).2.2
                clear hS s2 s3 hNw
                replace s1 := Lib.hid s1
                replace s4 := Lib.hid s4
                replace hX := Lib.hid hX
                replace hN := Lib.hid hN
                replace hV := Lib.hid hV
                replace hb := Lib.hid hb
                replace e1 := Lib.hid e1
                replace e2 := Lib.hid e2
                replace hf2 := Lib.hid hf2
                go_wp2_with fail
                refine (M1.out _ hX.out).mono ?_
                rintro e wC ⟨rfl, hbC⟩
                replace hN := Lib.hid (hN.out.below hbC)
                replace hX := Lib.hid (hX.out.below hbC)
                replace hV := Lib.hid (hV.out.kept hbC)
                replace hb := Lib.hid (Lx.bstep hb.out (Nat.le_refl _) hbC)
                clear hbC
                go_wp2_with fail
                refine (M2.out _ hN.out hX.out).mono ?_
                rintro e wD ⟨rfl, hbD⟩
                replace hN := Lib.hid (hN.out.below hbD)
                replace hX := Lib.hid (hX.out.below hbD)
                replace hV := Lib.hid (hV.out.kept hbD)
                replace hb := Lib.hid (Lx.bstep hb.out (Nat.le_refl _) hbD)
                clear hbD
                go_wp2_with fail
                refine (M3.out _ hN.out hX.out).mono ?_
                rintro e wE ⟨rfl, hbE⟩
                replace hN := Lib.hid (hN.out.below hbE)
                replace hX := Lib.hid (hX.out.below hbE)
                replace hV := Lib.hid (hV.out.kept hbE)
                replace hb := Lib.hid (Lx.bstep hb.out (Nat.le_refl _) hbE)
                clear hbE
                clear M1 M2 M3
                obtain ⟨D, hown, hD, hat, hone⟩ := hV.out.one N
                obtain ⟨cv, hcv⟩ : ∃ cv : Int, (if N ∈ l then 1 else 0) = cv := ⟨_, rfl⟩
                have hc0 : 0 ≤ cv := by rw [← hcv]; split <;> omega
                have hc1 : cv ≤ 1 := by rw [← hcv]; split <;> omega
                have hwv : (Lit.int .i64 (1 - cv)).wf = true := by
                  have e1 : IntKind.i64.min = -9223372036854775808 := rfl
                  have e2 : IntKind.i64.max = 9223372036854775807 := rfl
                  simp [Lit.wf, e1, e2]; omega
                rw [hcv] at hone
                have hm300 : m < 1000 := by have := hmj.out; have := l1.out; have := l2.out; omega
                replace hD := Lib.hid hD
                replace hat := Lib.hid hat
                replace hone := Lib.hid hone
                replace hcv := Lib.hid hcv
                replace hwv := Lib.hid hwv
                go_wp2_with (first
                  | (at_lookup; refine wpList_lookup_own_int _ rfl _ _ 101 rfl 3 3 .i64 law3 Try.underlying101 Try.underlying3 (zero3 _) w1.heap.size m _ rfl hown _ _ rfl hkey ?_; intro c hc hwc; obtain rfl : cv = c := hone.out c hc; clear hc hwc)
                  | (at_mapUpdate; refine wpList_mapUpdate_own _ rfl _ _ _ 101 rfl 3 3 law3 Try.underlying101 _ w1.heap.size m _ rfl hown (by unfold maxLen; omega) _ _ _ rfl rfl hkey _ [] (plainElem_int Try.underlying3 hwv.out) ?_; intro w2 hown2 hgrow2; have hV2 := Lib.hid (Voted.turn hD.out hat.out hown2 hcv.out.symm s4.out); have hX2 := Lib.hid (nums_other hX.out hf2.out.1 hV.out hgrow2); have hb2 := Lib.hid (hb.out.grown hgrow2 hb.out.size (fun j hj => by cases hj; exact Nat.le_refl _)); clear hown hown2 hgrow2 hkey hV hX hb hN))
                have k7 : (L2.length : Int) ≤ 7 := by have := hf2.out.2; omega
                go_loopg [14, 15] (L2.length + 1) (fun k v14 v15 wr => ∃ q : Nat, v15 = .int .i64 (q : Int) ∧ v14 = .int .i64 (q : Int) ∧ q ≤ L2.length ∧ L2.length < q + k ∧ Nums .i64 wr (.slice p2 L2.length d2) L2 ∧ Voted wr w1.heap.size (m + 1) L2 ∧ Below w1.heap.size w1 wr)
                case atStart => exact ⟨0, rfl, rfl, by omega, by omega, hX2.out, hV2.out, hb2.out⟩
                case round =>
                  have hfu := hfuel
                  clear hX2 hV2 hb2 hfuel
                  obtain ⟨q, rfl, rfl, hqle, hfuel, hX, hV, hb⟩ := hrel
                  cases gk with
                  | zero => omega
                  | succ k2 =>
                    by_cases hlt : q < L2.length
                    · have hlt1 : (q : Int) < (L2.length : Int) := by omega
                      have h0 : (0 : Int) ≤ (q : Int) := by omega
                      obtain ⟨_, _, e, -, -, hxc⟩ := hX.parts
                      obtain ⟨a, ha, hca⟩ := hxc q hlt
                      injection e with e1 e2 e3
                      rw [← e1] at ha
                      subst ha
                      have hY : L2.getD q 0 ∈ L2 := by rw [List.getD_eq_getElem?_getD, List.getElem?_eq_getElem hlt]; exact List.getElem_mem _
                      have hkey : keyOf Try.prog 3 (.int .i64 (L2.getD q 0)) = some (.int .i64 (L2.getD q 0)) := keyOf_int_mk Try.underlying3 (hX.wf q hlt)
                      generalize L2.getD q 0 = Y at *
                      obtain ⟨D, hown, hD, hat, hone⟩ := hV.one Y
                      rw [if_pos hY] at hone
                      clear hxc e1 e2 e3 hD hat hY
                      replace hX := Lib.hid hX
                      replace hV := Lib.hid hV
                      replace hb := Lib.hid hb
                      replace hone := Lib.hid hone
                      go_wp2_with (at_lookup; refine wpList_lookup_own_int _ rfl _ _ 101 rfl 3 3 .i64 law3 Try.underlying101 Try.underlying3 (zero3 _) w1.heap.size (m + 1) _ rfl hown _ _ rfl hkey ?_; intro c hc hwc; obtain rfl : 1 = c := hone.out c hc; clear hc hwc)
                      go_roundg k2
                      case measure => omega
                      case rel => exact ⟨q + 1, by first | rfl | go_num, by first | rfl | go_num, by omega, by omega, hX.out, hV.out, hb.out⟩
                    · have hd : decide ((q : Int) < (L2.length : Int)) = false := by simp; omega
                      obtain rfl : q = L2.length := by omega
                      have hd2 : ((L2.length : Int) != (L2.length : Int)) = false := by simp
                      replace hX := Lib.hid hX
                      replace hV := Lib.hid hV
                      replace hb := Lib.hid hb
                      go_wp2_with fail
                      go_roundg k
                      case measure => omega
                      case rel => exact ⟨j + 1, m + 1, L2, by first | rfl | go_num, hX.out, s1.out, hV.out, by have := hmj.out; omega, by omega, by omega, hb.out⟩
              · obtain rfl := hS.no hE
                have hE2 : (E != 0) = true := by simpa using hE
                replace hX := Lib.hid hX
                replace hN := Lib.hid hN
                replace hV := Lib.hid hV
                replace hb := Lib.hid hb
                clear hS
                go_wp2_with fail
                go_roundg k
                case measure => omega
                case rel => exact ⟨j + 1, m, l, by first | rfl | go_num, hN.out, hml.out, hV.out, by have := hmj.out; omega, by omega, by omega, hb.out⟩
            · have hd : decide ((j : Int) < (cs.length : Int)) = false := by simp; omega
              replace hB := Lib.hid (Lx.bstep hB.out (Nat.le_refl _) hb)
              clear hb hV hfuel hN
              go_wp2_with fail
              refine (works24_calls _).mono ?_
              rintro e w2 ⟨rfl, hb2⟩
              go_wp2_with fail
              go_ret
              exact ⟨rfl, Lx.bstep hB.out (Nat.le_refl _) hb2⟩
theorem MemberChain_walk (v : Value) (conf : List Int) (cv : Value) (cs : List Int) (w : World) (hc : Nums .i64 w v conf) (hs : Nums .i8 w cv cs) :
    Calls Try.prog 11 #[v, cv] w fun e w' => e = .returned (.bool true) ∧ Below w.heap.size w w' := by
  by_cases hl : conf.length ≤ 100 ∧ cs.length ≤ 200
  · cases hg : may conf with
    | true => exact chain_good v cv conf cs w hc hs hl hg
    | false => exact chain_bad v cv conf cs w hc hs hl hg
  · exact chain_big v cv conf cs w hc hs hl
end Go.Proofs.Ytjjdfhokmiaekaa
