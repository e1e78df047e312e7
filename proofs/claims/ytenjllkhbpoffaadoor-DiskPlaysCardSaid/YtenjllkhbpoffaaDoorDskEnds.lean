/-
  DiskEnds.
-/
import Derived.Test.YtenjllkhbpoffaaDoorDskTwo
namespace Go.Proofs.YtenjllkhbpoffaaDoor
open Go Go.Maps Go.WideMaps Go.Dsk Go.Lx Go.Lst Go.RowKit

theorem nosync {M : DM} (hf : M.fuse = -1) (E : Int) (c : Lc) : (if E = 0 then doesM (burnM M) c else burnM M).sure = M.sure ∧ (if E = 0 then doesM (burnM M) c else burnM M).fuse = -1 ∧ (if E = 0 then doesM (burnM M) c else burnM M).loose.length ≤ M.loose.length + 1 := by
  have hb : burnM M = M := by unfold burnM; rw [if_neg (by omega)]
  rw [hb]
  split
  · exact ⟨rfl, hf, by simp [doesM]⟩
  · exact ⟨rfl, hf, by omega⟩
theorem sync_m {M : DM} (hf : M.fuse = -1) : syncD M = syncM M ∧ burnE M = 0 := by
  have hb : burnM M = M := by unfold burnM; rw [if_neg (by omega)]
  rcases burn_cases M with ⟨h, _⟩ | ⟨_, h⟩
  · omega
  · exact ⟨by unfold syncD; rw [if_pos h, hb], h⟩
theorem read_of {M : DM} (hf : M.fuse = -1) {k : ByteArray} (hh : hasF M.now k = true) : readE M k = 0 ∧ readS M k = atF M.now k := by
  unfold readE readS
  rw [if_neg (by omega), if_pos hh, if_neg (by omega)]
  exact ⟨rfl, rfl⟩
theorem Dk.rise {w : World} {O : Nat → Prop} {b : Nat} {M : DM} (h : Dk w O b M) : Rise M.now ∧ (∀ p ∈ M.now, p.1.size ≤ maxLen) ∧ Rise M.sure ∧ (∀ p ∈ M.sure, p.1.size ≤ maxLen) := by
  obtain ⟨bs, bn, lv, cv, vs, h⟩ := h
  exact ⟨h.rest.now.rise, h.rest.now.keys, h.rest.sure.rise, h.rest.sure.keys⟩
set_option maxRecDepth 100000 in
set_option maxHeartbeats 8000000 in
theorem DiskEnds_walk (v : Value) (n : Nat) (w : World) (hs : Recs 5 QStep w v n) :
    Calls Tryd.prog 3 #[v] w fun e w' => e = .returned (.bool true) ∧ Below w.heap.size w w' := by
  have hW := Lib.hid works_calls
  obtain ⟨p, c, hve, hc1, hc2, -⟩ := id hs
  have hh := Lib.hid hs
  have hHv := Lib.hid (Heavy_calls v n w hs)
  rw [hve] at hh hHv ⊢
  clear hs hve
  have hN := Lib.hid (fun A => New_good A 16384 (by decide))
  replace hc1 := Lib.hid hc1
  replace hc2 := Lib.hid hc2
  go_enter Tryd.func3, Tryd.ntmps3
  go_wp2_with fail
  refine hHv.out.mono ?_
  rintro e w1 ⟨⟨hv, rfl, hnn⟩, hB1⟩
  cases hv with
  | true =>
    clear hnn
    go_wp2_with fail
    refine (hW.out _).mono ?_
    rintro e w2 ⟨rfl, hB2⟩
    go_wp2_with fail
    go_ret
    exact ⟨rfl, Lx.bstep hB1 (Nat.le_refl _) hB2⟩
  | false =>
  have hn100 := hnn rfl
  clear hnn hHv
  replace hB1 := Lib.hid hB1
  go_wp2_with fail
  refine (hN.out _).mono ?_
  rintro e w2 ⟨ba, rfl, hDa, hB2⟩
  replace hDa := Lib.hid hDa
  replace hB2 := Lib.hid hB2
  go_wp2_with fail
  refine (hN.out _).mono ?_
  rintro e w3 ⟨bb, rfl, hDb, hB3⟩
  have hT0 : Two w w3 (Gr (fun _ => False) w1 w2) (Gr (fun _ => False) w2 w3) (fun _ => False) ba bb (newM 16384) (newM 16384) := by
    have b1 := hB1.out.size
    have b2 := hB2.out.size
    have b3 := hB3.size
    have hBw : Below w.heap.size w w3 := Lx.bstep (Lx.bstep hB1.out (Nat.le_refl _) hB2.out) (Nat.le_refl _) hB3
    refine ⟨⟨hDa.out.below hB3, fun k hk => ?_, fun k hk => ?_, hBw⟩, ⟨hDb, fun k hk => ?_, fun k hk => ?_, hBw⟩⟩
    · rcases hk with hk | hk | hk
      · exact hk.elim
      · exact hk.elim
      · exact ⟨fun e => e.elim id (fun e => by omega), hk.2⟩
    · exact hk.elim (fun h => h.elim) (fun h => by omega)
    · rcases hk with hk | hk | hk
      · exact hk.elim
      · exact hk.elim
      · exact ⟨fun e => e.elim id (fun e => by omega), by omega⟩
    · exact hk.elim (fun h => h.elim) (fun h => by omega)
  replace hT0 := Lib.hid hT0
  clear hDa hDb hB1 hB2 hB3 hN
  go_wp2_with fail
  go_loopg [7, 8, 9] (n + 1) (fun g v7 v8 v9 A => ∃ (i : Nat) (M : DM) (Oa Ob X : Nat → Prop), i ≤ n ∧ n < i + g ∧ v9 = .int .i64 (i : Int) ∧ Two w A Oa Ob X ba bb M M ∧ Rws A X [(v8, M.sure.map (·.2)), (v7, M.sure.map (·.1))] ∧ (∀ k, X k → w.heap.size ≤ k) ∧ M.fuse = -1 ∧ M.loose.length ≤ i)
  case atStart => exact ⟨0, newM 16384, _, _, _, by omega, by omega, rfl, hT0.out, (Rws.empty0 _ _).nil.nil, fun k hk => hk.elim, rfl, Nat.le_refl _⟩
  case round =>
    clear hT0
    obtain ⟨i, M, Oa, Ob, X, hi, hg, rfl, hT, hr, hX, hfu, hll⟩ := hrel
    cases gk with
    | zero => omega
    | succ g =>
    have hl6 : M.loose.length < 1000000 := by omega
    by_cases hlt : i < n
    case neg =>
      as_aux_lemma =>
      have hd : decide (i < n) = false := decide_eq_false hlt
      have hC := Lib.hid (Names_txts hT.a.dk)
      have hT0 := Lib.hid hT
      have hr0 := Lib.hid hr
      have hrise := Lib.hid hT.a.dk.rise
      have hlen : Hid (M.now.length ≤ 64) := Lib.hid (tot_now hT.a.dk.ok).2
      have hnow := Lib.hid hT.a.dk.ok.now
      have hS64 : M.sure.length ≤ 64 := (hT.a.dk.ok.small 0 (Nat.zero_le _)).2
      replace hX := Lib.hid hX
      replace hfu := Lib.hid hfu
      have hl100 : Hid (M.loose.length ≤ 100) := Lib.hid (by omega)
      clear hT hr hlt hi hg hl6 hll
      go_wp2_with fail
      refine hC.out.mono ?_
      rintro e w6 ⟨p9, c9, rfl, hx6, hv6, hB6⟩
      have hT6 := Lib.hid (hT0.out.new hB6 (X' := fun k => X k ∨ (wr.heap.size ≤ k ∧ k < w6.heap.size)) (fun k hk => hk))
      have hr6 := Lib.hid (hr0.out.cons hB6 hx6 hv6).nil
      have hX6 : Hid (∀ k, (X k ∨ (wr.heap.size ≤ k ∧ k < w6.heap.size)) → w.heap.size ≤ k) := Lib.hid (fun k hk => hk.elim (hX.out k) (fun e => by have := hT0.out.a.below.size; omega))
      obtain ⟨F, hF⟩ : ∃ F, M.now = F := ⟨_, rfl⟩
      obtain ⟨S, hS⟩ : ∃ S, M.sure = S := ⟨_, rfl⟩
      rw [hF] at hx6 hr6 hlen hrise hnow ⊢
      rw [hS] at hr6 hrise hnow hS64
      replace hS64 := Lib.hid hS64
      replace hF := Lib.hid hF
      replace hS := Lib.hid hS
      clear hx6 hv6 hB6 hC hT0 hr0
      go_wp2_with fail
      go_loopg [15, 16] (F.length + 1) (fun g2 v15 v16 A => ∃ (j : Nat) (Oa Ob X : Nat → Prop), j ≤ F.length ∧ F.length < j + g2 ∧ v16 = .int .i64 (j : Int) ∧ Two w A Oa Ob X ba bb M M ∧ Rws A X [(v15, (F.take j).map (·.2)), (.slice p9 F.length c9, F.map (·.1)), (u8, S.map (·.2)), (u7, S.map (·.1))] ∧ (∀ k, X k → w.heap.size ≤ k))
      case atStart => exact ⟨0, _, _, _, by omega, by omega, rfl, hT6.out, hr6.out, hX6.out⟩
      case round =>
        obtain ⟨j, Oa2, Ob2, X2, hj, hg2, rfl, hT, hr, hX2⟩ := hrel
        cases gk with
        | zero => omega
        | succ g2 =>
        have htl : ((F.take j).map (·.2)).length = j := by rw [List.length_map, List.length_take]; omega
        obtain ⟨p8, c8, e8⟩ := hr.head.parts
        rw [htl] at e8
        by_cases hjl : j < F.length
        case pos =>
          as_aux_lemma =>
          have hd3 : decide (j < F.length) = true := decide_eq_true hjl
          have hj0 : (0 : Int) ≤ (j : Int) := by omega
          have hj64 : (j : Int) ≤ 64 := by have := hlen.out; omega
          have hj1 : (j : Int) < (F.length : Int) := by omega
          obtain ⟨a9, c10, e9, gc⟩ := hr.tail.head.get j (by rw [List.length_map]; exact hjl)
          rw [List.getElem_map] at gc
          obtain rfl : p9 = some a9 := by injection e9
          clear e9
          have hk9 := hrise.out.2.1 F[j] (List.getElem_mem hjl)
          have hat := at_get hrise.out.1 j hjl
          have hro := read_of (M := M) hfu.out (k := F[j].1) (by rw [hF.out]; exact hat.2)
          have hRd := Read_calls hT.a.dk F[j].1 hk9
          rw [hro.1, hro.2, hF.out, hat.1] at hRd
          obtain ⟨q8, d8, w7, hrun, hr7, hT7⟩ := hT.append hX2 hr F[j].2 (by rw [htl]; have := hlen.out; omega) 29
          rw [htl] at hrun hr7
          have hnext : Hid ((F.take j).map (·.2) ++ [F[j].2] = (F.take (j + 1)).map (·.2)) := Lib.hid (by rw [List.take_succ_eq_append_getElem hjl, List.map_append]; rfl)
          rw [hnext.out] at hr7
          subst e8
          have hX7 : Hid (∀ k, (X2 k ∨ (wr.heap.size ≤ k ∧ k < w7.heap.size)) → w.heap.size ≤ k) := Lib.hid (fun k hk => hk.elim (hX2 k) (fun e => by have := hT.a.below.size; omega))
          generalize F[j].1 = key at *
          generalize F[j].2 = val at *
          replace hRd := Lib.hid hRd
          replace hrun := Lib.hid hrun
          replace hr7 := Lib.hid hr7
          replace hT7 := Lib.hid hT7
          clear hT hr hX2 hT6 hr6 hX6 htl hk9 hat hro
          go_wp2_with fail
          refine hRd.out.mono ?_
          rintro e w8 ⟨rfl, rfl⟩
          go_wp2_with (at_builtin; (refine wpList_append_run (sv := .slice p8 j c8) (xv := .slice (some ⟨wr.heap.size, 0, none⟩) 1 1) rfl (.tmp 158) (.tmp 160) rfl rfl rfl hrun.out ?_))
          go_roundg g2
          case measure => omega
          case rel => exact ⟨j + 1, Oa2, Ob2, _, by omega, by omega, by go_num, hT7.out, hr7.out, hX7.out⟩
        case neg =>
          have hd3 : decide (j < F.length) = false := decide_eq_false hjl
          obtain rfl : j = F.length := by omega
          rw [List.take_length] at hr
          have hC1 := Lib.hid (op_a hT hr (Crash_calls hT.a.dk 1000 0 (by have := hl100.out; omega)))
          replace e8 := Lib.hid e8
          clear hT6 hr6 hX6 htl hT hr hj hg2
          go_wp2_with fail
          refine hC1.out.mono ?_
          rintro e w7 ⟨rfl, ⟨O7, hT7⟩, hr7, -⟩
          have hC2 := Lib.hid (op_b hT7 hr7 (Crash_calls hT7.b.dk 0 (-1) (by have := hl100.out; omega)))
          clear hC1 hT7 hr7
          go_wp2_with fail
          refine hC2.out.mono ?_
          rintro e w8 ⟨rfl, ⟨O8, hT8⟩, hr8⟩
          have hC3 := Lib.hid (op_b hT8 hr8 (Crash_calls hT8.b.dk (-1) 5 (show (0 : Nat) < 1000000 by decide)))
          clear hC2 hT8 hr8
          go_wp2_with fail
          refine hC3.out.mono ?_
          rintro e w9 ⟨rfl, ⟨O9, hT9⟩, hr9⟩
          clear hC3
          have ea : (crashM M 1000 0).now = F := by
            show crashN M.sure M.loose 1000 0 = F
            rw [crash_all _ _ _ _ (by have := hl100.out; omega), hS.out]
            exact hnow.out.symm
          have fa : Hid ((crashM M 1000 0).fuse = -1) := Lib.hid rfl
          have eb : (crashM (crashM M 0 (-1)) (-1) 5).now = crashN S M.loose 0 (-1) := by
            show crashN (crashN M.sure M.loose 0 (-1)) [] (-1) 5 = _
            rw [crash_none _ _ _ _ (by decide), hS.out]
          have fb : Hid ((crashM (crashM M 0 (-1)) (-1) 5).fuse = -1) := Lib.hid rfl
          obtain ⟨hG1, hG2⟩ := crash_first hrise.out.2.2.1 M.loose
          obtain ⟨G, hG⟩ : ∃ G, crashN S M.loose 0 (-1) = G := ⟨_, rfl⟩
          rw [hG] at eb hG1 hG2
          generalize crashM M 1000 0 = Ma at *
          generalize crashM (crashM M 0 (-1)) (-1) 5 = Mb at *
          have hC4 := Names_txts hT9.a.dk
          rw [ea] at hC4
          replace hC4 := Lib.hid hC4
          replace hT9 := Lib.hid hT9
          replace hr9 := Lib.hid hr9
          replace ea := Lib.hid ea
          replace eb := Lib.hid eb
          replace hG := Lib.hid hG
          replace hG2 := Lib.hid hG2
          go_wp2_with fail
          refine hC4.out.mono ?_
          rintro e w10 ⟨p10, c10, rfl, -, -, hB10⟩
          have hT10 := Lib.hid (hT9.out.then hB10)
          have hr10 := Lib.hid (hr9.out.then hB10)
          have hC5 := Names_txts hT10.out.b.dk
          rw [eb.out] at hC5
          replace hC5 := Lib.hid hC5
          obtain ⟨p7, c7, e7⟩ := (hr10.out.t (u7, S.map (·.1)) (by simp)).parts
          rw [List.length_map] at e7
          obtain ⟨p6, c6, e6⟩ := (hr10.out.t (u8, S.map (·.2)) (by simp)).parts
          rw [List.length_map] at e6
          dsimp only at e6 e7
          subst e6 e7
          obtain ⟨rfl⟩ : u15 = .slice p8 F.length c8 := e8.out
          have hgb : decide (S.length + 1 < G.length) = false := decide_eq_false (by omega)
          have hgb2 : decide ((S.length : Int) + 1 < (G.length : Int)) = false := decide_eq_false (by omega)
          have hs65 : (S.length : Int) ≤ 64 := by have := hS64.out; omega
          replace hG1 := Lib.hid hG1
          clear hC4 hT9 hr9 hB10 e8 hd3 hjl
          go_wp2_with fail
          refine hC5.out.mono ?_
          rintro e w11 ⟨p11, c11, rfl, -, -, hB11⟩
          have hT11 := Lib.hid (hT10.out.then hB11)
          have hr11 := Lib.hid (hr10.out.then hB11)
          clear hC5 hT10 hr10 hB11
          go_wp2_with fail
          go_loopg [19] (F.length + 1) (fun g3 v19 A => ∃ (j : Nat), j ≤ F.length ∧ F.length < j + g3 ∧ v19 = .int .i64 (j : Int) ∧ A = w11)
          case atStart => exact ⟨0, by omega, by omega, rfl, rfl⟩
          case round =>
            obtain ⟨j, hj, hg3, rfl, rfl⟩ := hrel
            cases gk with
            | zero => omega
            | succ g3 =>
            by_cases hjl : j < F.length
            case pos =>
              as_aux_lemma =>
              have hd3 : decide (j < F.length) = true := decide_eq_true hjl
              have hj0 : (0 : Int) ≤ (j : Int) := by omega
              have hj64 : (j : Int) ≤ 64 := by have := hlen.out; omega
              have hj1 : (j : Int) < (F.length : Int) := by omega
              obtain ⟨a9, c19, e9, gc⟩ := (hr11.out.t (.slice p9 F.length c9, F.map (·.1)) (by simp)).get j (by rw [List.length_map]; exact hjl)
              obtain ⟨a8, c18, e8, gv⟩ := (hr11.out.t (.slice p8 F.length c8, F.map (·.2)) (by simp)).get j (by rw [List.length_map]; exact hjl)
              rw [List.getElem_map] at gc gv
              obtain rfl : p9 = some a9 := by injection e9
              obtain rfl : p8 = some a8 := by injection e8
              clear e9 e8
              have hk9 := hrise.out.2.1 F[j] (List.getElem_mem hjl)
              have hat := at_get hrise.out.1 j hjl
              have hro := read_of (M := Ma) fa.out (k := F[j].1) (by rw [ea.out]; exact hat.2)
              have hRd := Read_calls hT11.out.a.dk F[j].1 hk9
              rw [hro.1, hro.2, ea.out, hat.1] at hRd
              generalize F[j].1 = key at *
              generalize F[j].2 = val at *
              replace hRd := Lib.hid hRd
              clear hk9 hat hro
              go_wp2_with fail
              refine hRd.out.mono ?_
              rintro e w12 ⟨rfl, rfl⟩
              go_wp2_with fail
              go_roundg g3
              case measure => omega
              case rel => exact ⟨j + 1, by omega, by omega, by go_num, rfl⟩
            case neg =>
              have hd3 : decide (j < F.length) = false := decide_eq_false hjl
              clear hj hg3
              go_wp2_with fail
              go_loopg [22] (S.length + 1) (fun g3 v22 A => ∃ (j : Nat), j ≤ S.length ∧ S.length < j + g3 ∧ v22 = .int .i64 (j : Int) ∧ A = wr)
              case atStart => exact ⟨0, by omega, by omega, rfl, rfl⟩
              case round =>
                clear hd3 hjl
                obtain ⟨j, hj, hg3, rfl, rfl⟩ := hrel
                cases gk with
                | zero => omega
                | succ g3 =>
                by_cases hjl : j < S.length
                case pos =>
                  as_aux_lemma =>
                  have hd3 : decide (j < S.length) = true := decide_eq_true hjl
                  have hj0 : (0 : Int) ≤ (j : Int) := by omega
                  have hj64 : (j : Int) ≤ 64 := by omega
                  have hj1 : (j : Int) < (S.length : Int) := by omega
                  obtain ⟨a9, c19, e9, gc⟩ := (hr11.out.t (.slice p7 S.length c7, S.map (·.1)) (by simp)).get j (by rw [List.length_map]; exact hjl)
                  obtain ⟨a8, c18, e8, gv⟩ := (hr11.out.t (.slice p6 S.length c6, S.map (·.2)) (by simp)).get j (by rw [List.length_map]; exact hjl)
                  rw [List.getElem_map] at gc gv
                  obtain rfl : p7 = some a9 := by injection e9
                  obtain rfl : p6 = some a8 := by injection e8
                  clear e9 e8
                  have hk9 := hrise.out.2.2.2 S[j] (List.getElem_mem hjl)
                  have hat := at_get hrise.out.2.2.1 j hjl
                  obtain ⟨g1', g2'⟩ := hG2.out S[j].1 hat.2
                  have hro := read_of (M := Mb) fb.out (k := S[j].1) (by rw [eb.out]; exact g1')
                  have hRd := Read_calls hT11.out.b.dk S[j].1 hk9
                  rw [hro.1, hro.2, eb.out, g2', hat.1] at hRd
                  generalize S[j].1 = key at *
                  generalize S[j].2 = val at *
                  replace hRd := Lib.hid hRd
                  clear hk9 hat hro g1' g2'
                  go_wp2_with fail
                  refine hRd.out.mono ?_
                  rintro e w12 ⟨rfl, rfl⟩
                  go_wp2_with fail
                  go_roundg g3
                  case measure => omega
                  case rel => exact ⟨j + 1, by omega, by omega, by go_num, rfl⟩
                case neg =>
                  have hd3 : decide (j < S.length) = false := decide_eq_false hjl
                  go_wp2_with fail
                  refine (hW.out _).mono ?_
                  rintro e w13 ⟨rfl, hB13⟩
                  go_wp2_with fail
                  go_ret
                  exact ⟨rfl, Lx.bstep hT11.out.a.below (Nat.le_refl _) hB13⟩
    case pos =>
      as_aux_lemma =>
      have hd : decide (i < n) = true := decide_eq_true hlt
      have hlt2 : (i : Int) < (n : Int) := by omega
      have hi0 : (0 : Int) ≤ (i : Int) := by omega
      obtain ⟨a, c', d, s, t, ii, m, e0, g0, g1, g2, g3, g4, zs, zt, wi, wm⟩ := step_get (recs_to hh.out hT.a.below) i hlt
      injection e0 with e1 e2 e3
      subst e1 e3
      clear e2
      have hm1' := made1 wr #[.int .i64 d, .string s, .string t, .int .i64 ii, .int .i64 m] 31
      dsimp only at hm1'
      obtain ⟨A1, hb1, hz1⟩ := hm1'
      have hnO : Hid (¬ Oa wr.heap.size ∧ ¬ Ob wr.heap.size) := Lib.hid ⟨fun e => by have := hT.a.dk.lo _ e; omega, fun e => by have := hT.b.dk.lo _ e; omega⟩
      have hT1 := Lib.hid (hT.then hb1)
      have hr1 := Lib.hid (hr.then hb1)
      obtain ⟨k0, k1, k2, k3, k4, -⟩ := A1.c5
      have hzs : Hid (s.size ≤ maxLen ∧ t.size ≤ maxLen) := Lib.hid ⟨by unfold cap47 at zs; unfold maxLen; omega, by unfold cap47 at zt; unfold maxLen; omega⟩
      have hii : Hid (ii ≤ 9223372036854775807) := Lib.hid (by simp [Lit.wf, IntKind.min, IntKind.max, IntKind.signed, IntKind.bits] at wi; omega)
      have hsb : Hid (wr.heap.size < (wr.alloc (.cells #[.int .i64 d, .string s, .string t, .int .i64 ii, .int .i64 m] 31)).heap.size) := Lib.hid (by simp)
      have A1' := Lib.hid A1
      obtain ⟨p7, c7, e7⟩ := (hr.t (u7, M.sure.map (·.1)) (by simp)).parts
      obtain ⟨p8, c8, e8⟩ := (hr.t (u8, M.sure.map (·.2)) (by simp)).parts
      dsimp only at e7 e8
      replace e7 := Lib.hid e7
      replace e8 := Lib.hid e8
      clear hT hr hb1 hz1 A1 zs zt wi wm
      replace hll := Lib.hid hll
      replace hl6 := Lib.hid hl6
      replace hfu := Lib.hid hfu
      replace hX := Lib.hid hX
      by_cases d0 : d = 0
      · as_aux_lemma =>
        subst d0
        have hns : Hid ((appM M s t).sure = M.sure ∧ (appM M s t).fuse = -1 ∧ (appM M s t).loose.length ≤ M.loose.length + 1) := Lib.hid (nosync hfu.out _ _)
        have hC := Lib.hid (op_a hT1.out hr1.out (Append_calls hT1.out.a.dk s t hzs.out.1 hzs.out.2 hl6.out))
        go_wp2_with fail
        refine hC.out.mono ?_
        rintro e w4 ⟨rfl, ⟨O', hT4⟩, hr4, hk4⟩
        have A4 := A1'.out.same (hk4 _ hsb.out hnO.out.1)
        have hC2 := Lib.hid (op_b hT4 hr4 (Append_calls hT4.b.dk s t hzs.out.1 hzs.out.2 hl6.out))
        obtain ⟨k0, k1, k2, k3, k4, -⟩ := A4.c5
        generalize appM M s t = M' at *
        clear hC hT4 hr4 hk4 A4 g0 g1 g2 g3 g4
        go_wp2_with fail
        refine hC2.out.mono ?_
        rintro e w5 ⟨rfl, ⟨O'', hT5⟩, hr5⟩
        replace hT5 := Lib.hid hT5
        replace hr5 := Lib.hid hr5
        clear hC2 hT1 hr1
        go_wp2_with fail
        go_roundg g
        case measure => omega
        case rel => exact ⟨i + 1, M', O', O'', X, by omega, by omega, by go_num, hT5.out, by rw [hns.out.1]; exact hr5.out, hX.out, hns.out.2.1, by have := hll.out; have := hns.out.2.2; omega⟩
      by_cases d1 : d = 1
      · as_aux_lemma =>
        subst d1
        have hns : Hid ((cutM M s ii).sure = M.sure ∧ (cutM M s ii).fuse = -1 ∧ (cutM M s ii).loose.length ≤ M.loose.length + 1) := Lib.hid (nosync hfu.out _ _)
        have hC := Lib.hid (op_a hT1.out hr1.out (Cut_calls hT1.out.a.dk s ii hzs.out.1 hl6.out))
        go_wp2_with fail
        refine hC.out.mono ?_
        rintro e w4 ⟨rfl, ⟨O', hT4⟩, hr4, hk4⟩
        have A4 := A1'.out.same (hk4 _ hsb.out hnO.out.1)
        have hC2 := Lib.hid (op_b hT4 hr4 (Cut_calls hT4.b.dk s ii hzs.out.1 hl6.out))
        obtain ⟨k0, k1, k2, k3, k4, -⟩ := A4.c5
        generalize cutM M s ii = M' at *
        clear hC hT4 hr4 hk4 A4 g0 g1 g2 g3 g4
        go_wp2_with fail
        refine hC2.out.mono ?_
        rintro e w5 ⟨rfl, ⟨O'', hT5⟩, hr5⟩
        replace hT5 := Lib.hid hT5
        replace hr5 := Lib.hid hr5
        clear hC2 hT1 hr1
        go_wp2_with fail
        go_roundg g
        case measure => omega
        case rel => exact ⟨i + 1, M', O', O'', X, by omega, by omega, by go_num, hT5.out, by rw [hns.out.1]; exact hr5.out, hX.out, hns.out.2.1, by have := hll.out; have := hns.out.2.2; omega⟩
      by_cases d2 : d = 2
      · as_aux_lemma =>
        subst d2
        have hns : Hid ((renM M s t).sure = M.sure ∧ (renM M s t).fuse = -1 ∧ (renM M s t).loose.length ≤ M.loose.length + 1) := Lib.hid (nosync hfu.out _ _)
        have hC := Lib.hid (op_a hT1.out hr1.out (Rename_calls hT1.out.a.dk s t hzs.out.1 hzs.out.2 hl6.out))
        go_wp2_with fail
        refine hC.out.mono ?_
        rintro e w4 ⟨rfl, ⟨O', hT4⟩, hr4, hk4⟩
        have A4 := A1'.out.same (hk4 _ hsb.out hnO.out.1)
        have hC2 := Lib.hid (op_b hT4 hr4 (Rename_calls hT4.b.dk s t hzs.out.1 hzs.out.2 hl6.out))
        obtain ⟨k0, k1, k2, k3, k4, -⟩ := A4.c5
        generalize renM M s t = M' at *
        clear hC hT4 hr4 hk4 A4 g0 g1 g2 g3 g4
        go_wp2_with fail
        refine hC2.out.mono ?_
        rintro e w5 ⟨rfl, ⟨O'', hT5⟩, hr5⟩
        replace hT5 := Lib.hid hT5
        replace hr5 := Lib.hid hr5
        clear hC2 hT1 hr1
        go_wp2_with fail
        go_roundg g
        case measure => omega
        case rel => exact ⟨i + 1, M', O', O'', X, by omega, by omega, by go_num, hT5.out, by rw [hns.out.1]; exact hr5.out, hX.out, hns.out.2.1, by have := hll.out; have := hns.out.2.2; omega⟩
      by_cases d3 : d = 3
      · as_aux_lemma =>
        subst d3
        have hns : Hid ((remM M s).sure = M.sure ∧ (remM M s).fuse = -1 ∧ (remM M s).loose.length ≤ M.loose.length + 1) := Lib.hid (nosync hfu.out _ _)
        have hC := Lib.hid (op_a hT1.out hr1.out (Remove_calls hT1.out.a.dk s hzs.out.1 hl6.out))
        go_wp2_with fail
        refine hC.out.mono ?_
        rintro e w4 ⟨rfl, ⟨O', hT4⟩, hr4, hk4⟩
        have A4 := A1'.out.same (hk4 _ hsb.out hnO.out.1)
        have hC2 := Lib.hid (op_b hT4 hr4 (Remove_calls hT4.b.dk s hzs.out.1 hl6.out))
        obtain ⟨k0, k1, k2, k3, k4, -⟩ := A4.c5
        generalize remM M s = M' at *
        clear hC hT4 hr4 hk4 A4 g0 g1 g2 g3 g4
        go_wp2_with fail
        refine hC2.out.mono ?_
        rintro e w5 ⟨rfl, ⟨O'', hT5⟩, hr5⟩
        replace hT5 := Lib.hid hT5
        replace hr5 := Lib.hid hr5
        clear hC2 hT1 hr1
        go_wp2_with fail
        go_roundg g
        case measure => omega
        case rel => exact ⟨i + 1, M', O', O'', X, by omega, by omega, by go_num, hT5.out, by rw [hns.out.1]; exact hr5.out, hX.out, hns.out.2.1, by have := hll.out; have := hns.out.2.2; omega⟩
      by_cases d4 : d = 4
      · as_aux_lemma =>
        subst d4
        have hsy := Lib.hid (sync_m hfu.out)
        have hC := op_a hT1.out hr1.out (Sync_calls hT1.out.a.dk)
        rw [hsy.out.1, hsy.out.2] at hC
        replace hC := Lib.hid hC
        go_wp2_with fail
        refine hC.out.mono ?_
        rintro e w4 ⟨rfl, ⟨O', hT4⟩, hr4, -⟩
        have hC2 := op_b hT4 hr4 (Sync_calls hT4.b.dk)
        rw [hsy.out.1, hsy.out.2] at hC2
        replace hC2 := Lib.hid hC2
        clear hC hT4 hr4 k0 k1 k2 k3 k4 hT1 hr1 g0 g1 g2 g3 g4
        go_wp2_with fail
        refine hC2.out.mono ?_
        rintro e w5 ⟨rfl, ⟨O'', hT5⟩, hr5⟩
        have hC3 := Lib.hid (Names_txts hT5.b.dk)
        have hT5' := Lib.hid hT5
        clear hC2 hT5 hr5
        go_wp2_with fail
        refine hC3.out.mono ?_
        rintro e w6 ⟨p9, c9, rfl, hx6, hv6, hB6⟩
        have hT6 := Lib.hid (hT5'.out.new hB6 (X' := fun k => X k ∨ (w5.heap.size ≤ k ∧ k < w6.heap.size)) (fun k hk => hk))
        have hr6 := Lib.hid ((Rws.empty0 w5 X).cons hB6 hx6 hv6).nil
        have hX6 : Hid (∀ k, (X k ∨ (w5.heap.size ≤ k ∧ k < w6.heap.size)) → w.heap.size ≤ k) := Lib.hid (fun k hk => hk.elim (hX.out k) (fun e => by have := hT5'.out.a.below.size; omega))
        have hrise := Lib.hid hT6.out.a.dk.rise
        have hlen : Hid ((syncM M).now.length ≤ 64) := Lib.hid (tot_now hT6.out.a.dk.ok).2
        obtain ⟨F, hF⟩ : ∃ F, M.now = F := ⟨_, rfl⟩
        have hF' : (syncM M).now = F ∧ (syncM M).sure = F := ⟨hF, hF⟩
        have hfs : Hid ((syncM M).fuse = -1) := Lib.hid hfu.out
        have hfl : Hid ((syncM M).loose = []) := Lib.hid rfl
        rw [hF'.1] at hx6 hr6 hlen
        rw [hF'.1, hF'.2] at hrise
        generalize syncM M = M' at *
        rw [hF'.1]
        replace hF := Lib.hid hF
        replace hF' := Lib.hid hF'
        clear hx6 hv6 hB6 hC3 hT5' hsy
        go_wp2_with fail
        go_loopg [8, 11] (F.length + 1) (fun g2 v8 v11 A => ∃ (j : Nat) (Oa Ob X : Nat → Prop), j ≤ F.length ∧ F.length < j + g2 ∧ v11 = .int .i64 (j : Int) ∧ Two w A Oa Ob X ba bb M' M' ∧ Rws A X [(v8, (F.take j).map (·.2)), (.slice p9 F.length c9, F.map (·.1))] ∧ (∀ k, X k → w.heap.size ≤ k))
        case atStart => exact ⟨0, _, _, _, by omega, by omega, rfl, hT6.out, hr6.out, hX6.out⟩
        case round =>
          obtain ⟨j, Oa2, Ob2, X2, hj, hg2, rfl, hT, hr, hX2⟩ := hrel
          cases gk with
          | zero => omega
          | succ g2 =>
          have htl : ((F.take j).map (·.2)).length = j := by rw [List.length_map, List.length_take]; omega
          obtain ⟨p8, c8, e8⟩ := hr.head.parts
          rw [htl] at e8
          by_cases hjl : j < F.length
          case neg =>
            have hd3 : decide (j < F.length) = false := decide_eq_false hjl
            obtain rfl : j = F.length := by omega
            rw [List.take_length] at hr
            replace hr := Lib.hid hr
            replace hT := Lib.hid hT
            replace hX2 := Lib.hid hX2
            replace e8 := Lib.hid e8
            clear hT6 hr6 hX6 htl
            go_wp2_with fail
            go_roundg g
            case measure => omega
            case rel => exact ⟨i + 1, M', Oa2, Ob2, X2, by omega, by omega, by go_num, hT.out, by rw [hF'.out.2]; exact hr.out, hX2.out, hfs.out, by rw [hfl.out]; simp⟩
          case pos =>
            have hd3 : decide (j < F.length) = true := decide_eq_true hjl
            have hj0 : (0 : Int) ≤ (j : Int) := by omega
            have hj64 : (j : Int) ≤ 64 := by have := hlen.out; omega
            have hj1 : (j : Int) < (F.length : Int) := by omega
            obtain ⟨a9, c10, e9, gc⟩ := hr.tail.head.get j (by rw [List.length_map]; exact hjl)
            rw [List.getElem_map] at gc
            obtain rfl : p9 = some a9 := by injection e9
            clear e9
            have hk9 := hrise.out.2.1 F[j] (List.getElem_mem hjl)
            have hat := at_get hrise.out.1 j hjl
            have hro := read_of (M := M') hfs.out (k := F[j].1) (by rw [hF'.out.1]; exact hat.2)
            have hRd := Read_calls hT.b.dk F[j].1 hk9
            rw [hro.1, hro.2, hF'.out.1, hat.1] at hRd
            obtain ⟨q8, d8, w7, hrun, hr7, hT7⟩ := hT.append hX2 hr F[j].2 (by rw [htl]; have := hlen.out; omega) 29
            rw [htl] at hrun hr7
            have hnext : Hid ((F.take j).map (·.2) ++ [F[j].2] = (F.take (j + 1)).map (·.2)) := Lib.hid (by rw [List.take_succ_eq_append_getElem hjl, List.map_append]; rfl)
            rw [hnext.out] at hr7
            subst e8
            have hX7 : Hid (∀ k, (X2 k ∨ (wr.heap.size ≤ k ∧ k < w7.heap.size)) → w.heap.size ≤ k) := Lib.hid (fun k hk => hk.elim (hX2 k) (fun e => by have := hT.a.below.size; omega))
            generalize F[j].1 = key at *
            generalize F[j].2 = val at *
            replace hRd := Lib.hid hRd
            replace hrun := Lib.hid hrun
            replace hr7 := Lib.hid hr7
            replace hT7 := Lib.hid hT7
            clear hT hr hX2 hT6 hr6 hX6 htl hk9 hat hro
            go_wp2_with fail
            refine hRd.out.mono ?_
            rintro e w8 ⟨rfl, rfl⟩
            go_wp2_with (at_builtin; (refine wpList_append_run (sv := .slice p8 j c8) (xv := .slice (some ⟨wr.heap.size, 0, none⟩) 1 1) rfl (.tmp 137) (.tmp 139) rfl rfl rfl hrun.out ?_))
            go_roundg g2
            case measure => omega
            case rel => exact ⟨j + 1, Oa2, Ob2, _, by omega, by omega, by go_num, hT7.out, hr7.out, hX7.out⟩
      have e0 : (d == 0) = false := by simpa using d0
      have e1 : (d == 1) = false := by simpa using d1
      have e2 : (d == 2) = false := by simpa using d2
      have e3 : (d == 3) = false := by simpa using d3
      have e4 : (d == 4) = false := by simpa using d4
      clear d0 d1 d2 d3 d4
      go_wp2_with fail
      go_roundg g
      case measure => omega
      case rel => exact ⟨i + 1, M, Oa, Ob, X, by omega, by omega, by go_num, hT1.out, hr1.out, hX.out, hfu.out, by have := hll.out; omega⟩
end Go.Proofs.YtenjllkhbpoffaaDoor
