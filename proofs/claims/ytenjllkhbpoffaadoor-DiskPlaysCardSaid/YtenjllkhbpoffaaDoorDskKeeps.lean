/-
  DiskKeeps.
-/
import Derived.Test.YtenjllkhbpoffaaDoorDskEnds
import Derived.Test.YtenjllkhbpoffaaDoorDskKeep
namespace Go.Proofs.YtenjllkhbpoffaaDoor
open Go Go.Maps Go.WideMaps Go.Dsk Go.Lx Go.Lst Go.RowKit

theorem addr_at (g j : Nat) : (Addr.add ⟨g, 0, none⟩ j) = ⟨g, j, none⟩ := by unfold Addr.add; split <;> simp_all
theorem app_state {M : DM} (hf : M.fuse = -1) (k s : ByteArray) : (appM M k s).sure = M.sure ∧ (appM M k s).fuse = -1 ∧ (appM M k s).loose.length ≤ M.loose.length + 1 ∧ (Apps M.loose → Apps (appM M k s).loose) := by
  have hb : burnM M = M := by unfold burnM; rw [if_neg (by omega)]
  obtain ⟨h1, h2, h3⟩ := nosync hf (appE M k s) (.app k s)
  refine ⟨h1, h2, h3, fun h => ?_⟩
  unfold appM
  rw [hb]
  split
  · intro c hc
    rcases List.mem_append.1 hc with hc | hc
    · exact h c hc
    · exact ⟨k, s, List.mem_singleton.1 hc⟩
  · exact h
set_option maxRecDepth 100000 in
set_option maxHeartbeats 8000000 in
theorem DiskKeeps_walk (v1 : Value) (n1 : Nat) (v2 : Value) (n2 : Nat) (cc yy : Int) (w : World) (hs1 : Recs 5 QStep w v1 n1) (hs2 : Recs 5 QStep w v2 n2) (hcc : (Lit.int .i64 cc).wf = true) (hyy : (Lit.int .i64 yy).wf = true) :
    Calls Tryd.prog 4 #[v1, v2, .int .i64 cc, .int .i64 yy] w fun e w' => e = .returned (.bool true) ∧ Below w.heap.size w w' := by
  have hW := Lib.hid works_calls
  obtain ⟨p1, c1, hve1, hc1, -, -⟩ := id hs1
  obtain ⟨p2, c2, hve2, hc2, -, -⟩ := id hs2
  have hh1 := Lib.hid hs1
  have hh2 := Lib.hid hs2
  have hHv1 := Lib.hid (Heavy_calls v1 n1 w hs1)
  have hHv2 := Lib.hid (fun A (hB : Below w.heap.size w A) => Heavy_calls v2 n2 A (recs_to hs2 hB))
  rw [hve1] at hh1 hHv1 ⊢
  rw [hve2] at hh2 hHv2 ⊢
  clear hs1 hs2 hve1 hve2 hcc hyy
  have hN := Lib.hid (fun A (hB : Below w.heap.size w A) => New_run' w A hB 65536 (by decide))
  replace hc1 := Lib.hid hc1
  replace hc2 := Lib.hid hc2
  go_enter Tryd.func4, Tryd.ntmps4
  go_wp2_with fail
  refine hHv1.out.mono ?_
  rintro e w1 ⟨⟨hv, rfl, hnn⟩, hB1⟩
  cases hv with
  | true =>
    clear hnn
    go_wp2_with fail
    refine (hW.out _).mono ?_
    rintro e w2 ⟨rfl, hB2⟩
    go_wp2_with fail
    go_ret
    exact ⟨rfl, Lx.bstep hB1 (Nat.le_refl _) hB2⟩
  | false =>
  have hn1 := hnn rfl
  clear hnn hHv1
  go_wp2_with fail
  refine (hHv2.out _ hB1).mono ?_
  rintro e w2 ⟨⟨hv, rfl, hnn⟩, hB2⟩
  replace hB2 := Lx.bstep hB1 (Nat.le_refl _) hB2
  clear hB1
  cases hv with
  | true =>
    clear hnn
    go_wp2_with fail
    refine (hW.out _).mono ?_
    rintro e w3 ⟨rfl, hB3⟩
    go_wp2_with fail
    go_ret
    exact ⟨rfl, Lx.bstep hB2 (Nat.le_refl _) hB3⟩
  | false =>
  have hn2 := hnn rfl
  clear hnn hHv2
  have hC := Lib.hid (hN.out _ hB2)
  replace hB2 := Lib.hid hB2
  go_wp2_with fail
  refine hC.out.mono ?_
  rintro e w3 ⟨b, rfl, hR⟩
  replace hR := Lib.hid hR
  clear hC hN hB2
  go_wp2_with fail
  go_loopg [11] (n1 + 1) (fun g v11 A => ∃ (i : Nat) (M : DM), i ≤ n1 ∧ n1 < i + g ∧ v11 = .int .i64 (i : Int) ∧ Run w A b M ∧ M.fuse = -1 ∧ M.loose.length ≤ i)
  case atStart => exact ⟨0, _, by omega, by omega, rfl, hR.out, rfl, Nat.le_refl _⟩
  case round =>
    clear hR
    obtain ⟨i, M, hi, hg, rfl, hR, hfu, hll⟩ := hrel
    cases gk with
    | zero => omega
    | succ g =>
    have hl6 : M.loose.length < 1000000 := by omega
    by_cases hlt : i < n1
    case neg =>
      as_aux_lemma =>
      have hd : decide (i < n1) = false := decide_eq_false hlt
      have hsy := sync_m hfu
      have hC := Sync_run hR
      rw [hsy.1, hsy.2] at hC
      replace hC := Lib.hid hC
      replace hfu := Lib.hid hfu
      clear hR hsy hi hg hl6 hll hlt
      go_wp2_with fail
      refine hC.out.mono ?_
      rintro e w4 ⟨rfl, hR⟩
      have hC2 := Loose_run hR
      rw [show ((syncM M).loose.length : Int) = 0 from rfl] at hC2
      replace hC2 := Lib.hid hC2
      have hC3 := Lib.hid (Names_txts hR.1)
      have hO1 : One w w4 (fun k => w.heap.size ≤ k ∧ k < w4.heap.size) (fun _ => False) b (syncM M) := ⟨hR.1, fun k hk => hk.elim, fun k hk => hk.1, hR.2⟩
      have hfs : Hid ((syncM M).fuse = -1) := Lib.hid hfu.out
      have hap : Hid (Apps (syncM M).loose) := Lib.hid (fun c hc => by simp [syncM] at hc)
      have hlo : Hid ((syncM M).loose = []) := Lib.hid rfl
      have hns : Hid ((syncM M).sure = (syncM M).now) := Lib.hid rfl
      generalize syncM M = M' at *
      replace hO1 := Lib.hid hO1
      clear hC hR hfu
      go_wp2_with fail
      refine hC2.out.mono ?_
      rintro e w5 ⟨rfl, rfl⟩
      go_wp2_with fail
      refine hC3.out.mono ?_
      rintro e w6 ⟨p9, c9, rfl, hx6, hv6, hB6⟩
      obtain ⟨F, hF⟩ : ∃ F, M'.now = F := ⟨_, rfl⟩
      have hns' := hns.out
      rw [hF] at hx6 hv6 hns' ⊢
      have hlen : F.length ≤ 64 := by have := (tot_now hO1.out.dk.ok).2; rwa [hF] at this
      have hrise := hO1.out.dk.rise
      rw [hF] at hrise
      replace hns' := Lib.hid hns'
      replace hrise := Lib.hid hrise
      have hO6 := hO1.out.new hB6 (X' := fun k => False ∨ (w4.heap.size ≤ k ∧ k < w6.heap.size)) (fun k hk => hk)
      have hr6 := (Rws.empty0 w4 (fun _ => False)).cons hB6 hx6 hv6
      obtain ⟨w7, hmk, ht7, hB7, hs7⟩ := made_txts w6 F.length (by omega)
      have hO7 := Lib.hid (hO6.new hB7 (X' := fun k => (False ∨ (w4.heap.size ≤ k ∧ k < w6.heap.size)) ∨ (w6.heap.size ≤ k ∧ k < w7.heap.size)) (fun k hk => hk))
      have hr7 := Lib.hid (hr6.cons hB7 ht7 (fun k hk => by cases hk; exact ⟨Nat.le_refl _, hs7⟩))
      have hX7 : Hid (∀ k, ((False ∨ (w4.heap.size ≤ k ∧ k < w6.heap.size)) ∨ (w6.heap.size ≤ k ∧ k < w7.heap.size)) → w.heap.size ≤ k) := Lib.hid (fun k hk => by
        have a1 := hO1.out.below.size
        have a2 := hB6.size
        rcases hk with (hk | hk) | hk
        · exact hk.elim
        · omega
        · omega)
      have hlen64 := Lib.hid hlen
      have hli : (F.length : Int) ≤ 64 := by omega
      replace hF := Lib.hid hF
      have hg14 : Hid (w6.heap.size < w7.heap.size) := Lib.hid hs7
      clear hx6 hv6 hB6 hC2 hC3 hO1 hO6 hr6 ht7 hB7 hs7 hlen
      go_wp2_with fail
      generalize w6.heap.size = g14 at *
      replace hO7 : Hid (∃ (O X : Nat → Prop), One w w7 O X b M' ∧ Rws w7 X [(.slice (some ⟨g14, 0, none⟩) F.length F.length, fill (F.map (·.2)) 0 F.length), (.slice p9 F.length c9, F.map (·.1))] ∧ ∀ k, X k → w.heap.size ≤ k) := Lib.hid ⟨_, _, hO7.out, by unfold fill; rw [List.take_zero, List.nil_append, Nat.sub_zero]; exact hr7.out, hX7.out⟩
      clear hr7 hX7 hg14 hmk
      go_loopg [15] (F.length + 1) (fun g2 v15 A => ∃ (j : Nat) (O X : Nat → Prop), j ≤ F.length ∧ F.length < j + g2 ∧ v15 = .int .i64 (j : Int) ∧ One w A O X b M' ∧ Rws A X [(.slice (some ⟨g14, 0, none⟩) F.length F.length, fill (F.map (·.2)) j F.length), (.slice p9 F.length c9, F.map (·.1))] ∧ (∀ k, X k → w.heap.size ≤ k))
      case atStart =>
        obtain ⟨O, X, h1, h2, h3⟩ := hO7.out
        exact ⟨0, O, X, by omega, by omega, rfl, h1, h2, h3⟩
      case round =>
        clear hO7
        obtain ⟨j, O, X, hj, hg2, rfl, hO, hr, hX⟩ := hrel
        cases gk with
        | zero => omega
        | succ g2 =>
        by_cases hjl : j < F.length
        case pos =>
          as_aux_lemma =>
          have hd3 : decide (j < F.length) = true := decide_eq_true hjl
          have hj0 : (0 : Int) ≤ (j : Int) := by omega
          have hj1 : (j : Int) < (F.length : Int) := by omega
          obtain ⟨a9, c10, e9, gc⟩ := hr.tail.head.get j (by rw [List.length_map]; exact hjl)
          rw [List.getElem_map] at gc
          obtain rfl : p9 = some a9 := by injection e9
          clear e9
          have hk9 := hrise.out.2.1 F[j] (List.getElem_mem hjl)
          have hat := at_get hrise.out.1 j hjl
          have hro := read_of (M := M') hfs.out (k := F[j].1) (by rw [hF.out]; exact hat.2)
          have hRd := Read_calls hO.dk F[j].1 hk9
          rw [hro.1, hro.2, hF.out, hat.1] at hRd
          obtain ⟨hr2, hfr, ⟨u, hu⟩, hXg⟩ := hr.set j (by rw [fill_len _ _ _ (by omega) (by rw [List.length_map]; omega)]; exact hjl) F[j].2
          have hO2 := Lib.hid (hO.set hX hXg j (.string F[j].2))
          have hfs2 := fill_set (F.map (·.2)) j F.length hjl (by rw [List.length_map]; omega)
          rw [List.getElem_map] at hfs2
          rw [hfs2] at hr2
          generalize F[j].1 = key at *
          generalize F[j].2 = val at *
          replace hRd := Lib.hid hRd
          replace hr2 := Lib.hid hr2
          replace hX := Lib.hid hX
          clear hO hr hk9 hat hro hfs2 hXg
          go_wp2_with fail
          refine hRd.out.mono ?_
          rintro e w8 ⟨rfl, rfl⟩
          go_wp2_with fail
          go_roundg g2
          case measure => omega
          case rel => exact ⟨j + 1, O, X, by omega, by omega, by go_num, hO2.out, hr2.out, hX.out⟩
        case neg =>
          have hd3 : decide (j < F.length) = false := decide_eq_false hjl
          obtain rfl : j = F.length := by omega
          have hfa := fill_all (F.map (·.2))
          rw [List.length_map] at hfa
          rw [hfa] at hr
          replace hO := Lib.hid hO
          replace hr := Lib.hid hr
          replace hX := Lib.hid hX
          clear hfa hj hg2
          go_wp2_with fail
          go_loopg [18] (n2 + 1) (fun g3 v18 A => ∃ (i : Nat) (M : DM) (O X : Nat → Prop), i ≤ n2 ∧ n2 < i + g3 ∧ v18 = .int .i64 (i : Int) ∧ One w A O X b M ∧ Rws A X [(.slice (some ⟨g14, 0, none⟩) F.length F.length, F.map (·.2)), (.slice p9 F.length c9, F.map (·.1))] ∧ (∀ k, X k → w.heap.size ≤ k) ∧ M.sure = F ∧ M.fuse = -1 ∧ Apps M.loose ∧ M.loose.length ≤ i)
          case atStart => exact ⟨0, M', O, X, by omega, by omega, rfl, hO.out, hr.out, hX.out, hns'.out, hfs.out, hap.out, by rw [hlo.out]; exact Nat.le_refl _⟩
          case round =>
            clear hO hr hX
            obtain ⟨i2, M2, O, X, hi2, hg3, rfl, hO, hr, hX, hsu, hfu2, hap2, hll2⟩ := hrel
            cases gk with
            | zero => omega
            | succ g3 =>
            by_cases hlt2 : i2 < n2
            case pos =>
              as_aux_lemma =>
              have hd4 : decide (i2 < n2) = true := decide_eq_true hlt2
              have hi0 : (0 : Int) ≤ (i2 : Int) := by omega
              have hi1 : (i2 : Int) < (n2 : Int) := by omega
              obtain ⟨a, c', d, s, t, ii, m, e0, g0, g1, g2', g3', g4, zs, zt, wi, wm⟩ := step_get (recs_to hh2.out hO.below) i2 hlt2
              obtain rfl : p2 = some a := by injection e0
              clear e0
              have hsz : s.size ≤ maxLen ∧ t.size ≤ maxLen := ⟨by unfold cap47 at zs; unfold maxLen; omega, by unfold cap47 at zt; unfold maxLen; omega⟩
              have hC := Lib.hid (fun A (hb : Below wr.heap.size wr A) => op_1 (hO.then hb) (hr.then hb) (Append_calls (hO.then hb).dk s t hsz.1 hsz.2 (by omega)))
              have hst := Lib.hid (app_state hfu2 s t)
              generalize appM M2 s t = M3 at *
              have z1 := fun x : Ext wr => below_cell x.below g1
              have z2 := fun x : Ext wr => below_cell x.below g2'
              have hnon : Nonempty (Ext wr) := ⟨⟨wr, Below.refl _ _⟩⟩
              replace hX := Lib.hid hX
              replace hsu := Lib.hid hsu
              replace hap2 := Lib.hid hap2
              replace hll2 := Lib.hid hll2
              clear hO hr g0 g1 g2' g3' g4 zs zt wi wm hsz hfu2
              go_wp2_with fail
              refine Lx.wp_region_chain_tail (fun w' => ∃ y : Ext wr, w' = y.wo) (fun _ => False) [] [] 11 (fun A => Below wr.heap.size wr A) (by kernel_rfl) (by kernel_rfl) (by kernel_rfl) (by kernel_rfl) Lx.ext_drew ((Below.refl _ _).drew) ?_
              simp only [List.take_succ_cons, List.take_zero, List.drop_succ_cons, List.drop_zero]
              repeat (refine Lx.wpCh_one (by rfl) (by rfl) ?_; go_big_quiet_step (fail); refine wpQuiet_nil ?_)
              refine Lx.wpCh_nil ?_
              intro w8 hx hS
              obtain ⟨x, rfl⟩ := hx
              have hC2 := Lib.hid (hC.out _ hS)
              generalize x.wo = w8 at *
              clear x z1 z2 hnon hC hS
              go_wp2_with fail
              refine hC2.out.mono ?_
              rintro e w9 ⟨rfl, ⟨O', hO9⟩, hr9⟩
              replace hO9 := Lib.hid hO9
              replace hr9 := Lib.hid hr9
              clear hC2
              go_wp2_with fail
              go_roundg g3
              case measure => omega
              case rel => exact ⟨i2 + 1, M3, O', X, by omega, by omega, by go_num, hO9.out, hr9.out, hX.out, by rw [hst.out.1]; exact hsu.out, hst.out.2.1, hst.out.2.2.2 hap2.out, by have := hll2.out; have := hst.out.2.2.1; omega⟩
            case neg =>
              have hd4 : decide (i2 < n2) = false := decide_eq_false hlt2
              have hl62 : Hid (M2.loose.length < 1000000) := Lib.hid (by omega)
              have hnow : M2.now = all F M2.loose := by rw [← hsu]; exact hO.dk.ok.now
              obtain ⟨G, hG⟩ : ∃ G, M2.now = G := ⟨_, rfl⟩
              rw [hG] at hnow
              have hov : Hid (Over F G) := Lib.hid (by rw [hnow]; exact over_all F M2.loose hap2)
              obtain ⟨w8, hmk, ht8, hB8, hs8⟩ := made_txts wr F.length (by have := hlen64.out; omega)
              have hO8 : Hid (∃ (O X : Nat → Prop), One w w8 O X b M2 ∧ Rws w8 X [(.slice (some ⟨wr.heap.size, 0, none⟩) F.length F.length, fill (F.map fun p => atF G p.1) 0 F.length), (.slice (some ⟨g14, 0, none⟩) F.length F.length, F.map (·.2)), (.slice p9 F.length c9, F.map (·.1))] ∧ ∀ k, X k → w.heap.size ≤ k) := Lib.hid ⟨_, _, hO.new hB8 (X' := fun k => X k ∨ (wr.heap.size ≤ k ∧ k < w8.heap.size)) (fun k hk => hk), by
                unfold fill
                rw [List.take_zero, List.nil_append, Nat.sub_zero]
                exact hr.cons hB8 ht8 (fun k hk => by cases hk; exact ⟨Nat.le_refl _, hs8⟩), fun k hk => hk.elim (hX k) (fun e => by have := hO.below.size; omega)⟩
              replace hnow := Lib.hid hnow
              replace hG := Lib.hid hG
              replace hsu := Lib.hid hsu
              replace hfu2 := Lib.hid hfu2
              replace hap2 := Lib.hid hap2
              clear hO hr hX hi2 hg3 hlt2 hll2 ht8 hB8 hs8
              go_wp2_with fail
              generalize wr.heap.size = g19 at *
              clear hmk hd4 hd3 hd
              go_loopg [20] (F.length + 1) (fun g3 v20 A => ∃ (j : Nat) (O X : Nat → Prop), j ≤ F.length ∧ F.length < j + g3 ∧ v20 = .int .i64 (j : Int) ∧ One w A O X b M2 ∧ Rws A X [(.slice (some ⟨g19, 0, none⟩) F.length F.length, fill (F.map fun p => atF G p.1) j F.length), (.slice (some ⟨g14, 0, none⟩) F.length F.length, F.map (·.2)), (.slice p9 F.length c9, F.map (·.1))] ∧ (∀ k, X k → w.heap.size ≤ k))
              case atStart =>
                obtain ⟨O, X, h1, h2, h3⟩ := hO8.out
                exact ⟨0, O, X, by omega, by omega, rfl, h1, h2, h3⟩
              case round =>
                clear hO8
                obtain ⟨j, O, X, hj, hg3, rfl, hO, hr, hX⟩ := hrel
                cases gk with
                | zero => omega
                | succ g3 =>
                by_cases hjl : j < F.length
                case pos =>
                  as_aux_lemma =>
                  have hd3 : decide (j < F.length) = true := decide_eq_true hjl
                  have hj0 : (0 : Int) ≤ (j : Int) := by omega
                  have hj1 : (j : Int) < (F.length : Int) := by omega
                  obtain ⟨a9, c10, e9, gc⟩ := hr.tail.tail.head.get j (by rw [List.length_map]; exact hjl)
                  rw [List.getElem_map] at gc
                  obtain rfl : p9 = some a9 := by injection e9
                  clear e9
                  have hk9 := hrise.out.2.1 F[j] (List.getElem_mem hjl)
                  have hat := at_get hrise.out.1 j hjl
                  have hro := read_of (M := M2) hfu2.out (k := F[j].1) (by rw [hG.out]; exact (hov.out _ hat.2).1)
                  have hRd := Read_calls hO.dk F[j].1 hk9
                  rw [hro.1, hro.2, hG.out] at hRd
                  obtain ⟨hr2, hfr, ⟨u, hu⟩, hXg⟩ := hr.set j (by rw [fill_len _ _ _ (by omega) (by rw [List.length_map]; omega)]; exact hjl) (atF G F[j].1)
                  have hO2 := Lib.hid (hO.set hX hXg j (.string (atF G F[j].1)))
                  have hfs2 := fill_set (F.map fun p => atF G p.1) j F.length hjl (by rw [List.length_map]; omega)
                  rw [List.getElem_map] at hfs2
                  rw [hfs2] at hr2
                  generalize atF G F[j].1 = val at *
                  generalize F[j].1 = key at *
                  replace hRd := Lib.hid hRd
                  replace hr2 := Lib.hid hr2
                  replace hX := Lib.hid hX
                  clear hO hr hk9 hat hro hfs2 hXg
                  go_wp2_with fail
                  refine hRd.out.mono ?_
                  rintro e w8 ⟨rfl, rfl⟩
                  go_wp2_with fail
                  go_roundg g3
                  case measure => omega
                  case rel => exact ⟨j + 1, O, X, by omega, by omega, by go_num, hO2.out, hr2.out, hX.out⟩
                case neg =>
                  have hd3 : decide (j < F.length) = false := decide_eq_false hjl
                  obtain rfl : j = F.length := by omega
                  have hfa := fill_all (F.map fun p => atF G p.1)
                  rw [List.length_map] at hfa
                  rw [hfa] at hr
                  have hC := Lib.hid (op_1 hO hr (Crash_calls hO.dk cc yy hl62.out))
                  replace hX := Lib.hid hX
                  clear hO hr hfa hj hg3
                  go_wp2_with fail
                  refine hC.out.mono ?_
                  rintro e w9 ⟨rfl, ⟨O', hO9⟩, hr9⟩
                  have hC2 := Loose_calls hO9.dk
                  rw [show ((crashM M2 cc yy).loose.length : Int) = 0 from rfl] at hC2
                  replace hC2 := Lib.hid hC2
                  have hcm : Hid ((crashM M2 cc yy).fuse = -1 ∧ (crashM M2 cc yy).now = crashN F M2.loose cc yy) := Lib.hid ⟨rfl, by show crashN M2.sure M2.loose cc yy = _; rw [hsu.out]⟩
                  generalize crashM M2 cc yy = M4 at *
                  replace hO9 := Lib.hid hO9
                  replace hr9 := Lib.hid hr9
                  clear hC
                  go_wp2_with fail
                  refine hC2.out.mono ?_
                  rintro e w10 ⟨rfl, rfl⟩
                  clear hC2
                  go_wp2_with fail
                  go_loopg [23] (F.length + 1) (fun g3 v23 A => ∃ (j : Nat), j ≤ F.length ∧ F.length < j + g3 ∧ v23 = .int .i64 (j : Int) ∧ One w A O' X b M4 ∧ Rws A X [(.slice (some ⟨g19, 0, none⟩) F.length F.length, F.map fun p => atF G p.1), (.slice (some ⟨g14, 0, none⟩) F.length F.length, F.map (·.2)), (.slice p9 F.length c9, F.map (·.1))])
                  case atStart => exact ⟨0, by omega, by omega, rfl, hO9.out, hr9.out⟩
                  case round =>
                    clear hO9 hr9 hd3 hjl
                    obtain ⟨j, hj, hg3, rfl, hO, hr⟩ := hrel
                    cases gk with
                    | zero => omega
                    | succ g3 =>
                    by_cases hjl : j < F.length
                    case neg =>
                      have hd3 : decide (j < F.length) = false := decide_eq_false hjl
                      have hB := Lib.hid hO.below
                      clear hO hr
                      go_wp2_with fail
                      refine (hW.out _).mono ?_
                      rintro e w13 ⟨rfl, hB13⟩
                      go_wp2_with fail
                      go_ret
                      exact ⟨rfl, Lx.bstep hB.out (Nat.le_refl _) hB13⟩
                    case pos =>
                      have hd3 : decide (j < F.length) = true := decide_eq_true hjl
                      have hj0 : (0 : Int) ≤ (j : Int) := by omega
                      have hj1 : (j : Int) < (F.length : Int) := by omega
                      obtain ⟨a9, c10, e9, gc⟩ := hr.tail.tail.head.get j (by rw [List.length_map]; exact hjl)
                      obtain ⟨a8, c18, e8, ga⟩ := hr.tail.head.get j (by rw [List.length_map]; exact hjl)
                      obtain ⟨a7, c17, e7, gb⟩ := hr.head.get j (by rw [List.length_map]; exact hjl)
                      rw [List.getElem_map] at gc ga gb
                      obtain rfl : p9 = some a9 := by injection e9
                      obtain rfl : (⟨g14, 0, none⟩ : Addr) = a8 := by injection e8 with e; injection e
                      obtain rfl : (⟨g19, 0, none⟩ : Addr) = a7 := by injection e7 with e; injection e
                      clear e9 e8 e7
                      rw [addr_at] at ga gb
                      have hk9 := hrise.out.2.1 F[j] (List.getElem_mem hjl)
                      have hat := at_get hrise.out.1 j hjl
                      obtain ⟨x1, x2, x3⟩ := crash_keeps F M2.loose hap2.out cc yy F[j].1 hat.2
                      have hro := read_of (M := M4) hcm.out.1 (k := F[j].1) (by rw [hcm.out.2]; exact x1)
                      have hRd := Read_calls hO.dk F[j].1 hk9
                      rw [hro.1, hro.2, hcm.out.2] at hRd
                      rw [hat.1] at x2
                      rw [← hnow.out] at x3
                      generalize atF G F[j].1 = bb at *
                      generalize atF (crashN F M2.loose cc yy) F[j].1 = ss at *
                      generalize F[j].2 = aa at *
                      generalize F[j].1 = key at *
                      have x4 := x2.size
                      have x5 := x3.size
                      have x6 := x2.ext
                      have x7 := x3.ext
                      have y4 : decide (ss.size < aa.size) = false := decide_eq_false (by omega)
                      have y5 : decide (bb.size < ss.size) = false := decide_eq_false (by omega)
                      have y6 : (aa.size : Int) ≤ (ss.size : Int) := by omega
                      have y7 : (ss.size : Int) ≤ (bb.size : Int) := by omega
                      replace hRd := Lib.hid hRd
                      replace hO := Lib.hid hO
                      replace hr := Lib.hid hr
                      clear hk9 hat hro x1 x2 x3 x4 x5
                      go_wp2_with fail
                      refine hRd.out.mono ?_
                      rintro e w11 ⟨rfl, rfl⟩
                      go_wp2_with fail
                      go_quiet (fail)
                      have hO2 := Lib.hid (hO.out.then (below_drewN (Below.refl _ _) nq))
                      have hr2 := Lib.hid (hr.out.then (below_drewN (Below.refl _ _) nq))
                      clear hO hr
                      go_wp2_with fail
                      go_roundg g3
                      case measure => omega
                      case rel => exact ⟨j + 1, by omega, by omega, by go_num, hO2.out, hr2.out⟩
    case pos =>
      as_aux_lemma =>
      have hd : decide (i < n1) = true := decide_eq_true hlt
      have hlt2 : (i : Int) < (n1 : Int) := by omega
      have hi0 : (0 : Int) ≤ (i : Int) := by omega
      obtain ⟨a, c', d, s, t, ii, m, e0, g0, g1, g2, g3, g4, zs, zt, wi, wm⟩ := step_get (recs_to hh1.out hR.2) i hlt
      injection e0 with e1 e2 e3
      subst e1 e3
      clear e2
      have hm1' := made1 wr #[.int .i64 d, .string s, .string t, .int .i64 ii, .int .i64 m] 31
      dsimp only at hm1'
      obtain ⟨A1, hb1, hz1⟩ := hm1'
      have hR1 := Lib.hid (hR.below hb1)
      obtain ⟨k0, k1, k2, k3, k4, -⟩ := A1.c5
      have hzs : Hid (s.size ≤ maxLen ∧ t.size ≤ maxLen) := Lib.hid ⟨by unfold cap47 at zs; unfold maxLen; omega, by unfold cap47 at zt; unfold maxLen; omega⟩
      clear hR hb1 hz1 A1 zs zt wi wm
      replace hll := Lib.hid hll
      replace hl6 := Lib.hid hl6
      replace hfu := Lib.hid hfu
      by_cases d0 : d = 0
      · as_aux_lemma =>
        subst d0
        have hns : Hid ((appM M s t).fuse = -1 ∧ (appM M s t).loose.length ≤ M.loose.length + 1) := Lib.hid (nosync hfu.out _ _).2
        have hC := Lib.hid (Append_run hR1.out s t hzs.out.1 hzs.out.2 hl6.out)
        generalize appM M s t = M' at *
        go_wp2_with fail
        refine hC.out.mono ?_
        rintro e w4 ⟨rfl, hR4⟩
        replace hR4 := Lib.hid hR4
        clear hC hR1
        go_wp2_with fail
        go_roundg g
        case measure => omega
        case rel => exact ⟨i + 1, M', by omega, by omega, by go_num, hR4.out, hns.out.1, by have := hll.out; have := hns.out.2; omega⟩
      by_cases d1 : d = 1
      · as_aux_lemma =>
        subst d1
        have hns : Hid ((cutM M s ii).fuse = -1 ∧ (cutM M s ii).loose.length ≤ M.loose.length + 1) := Lib.hid (nosync hfu.out _ _).2
        have hC := Lib.hid (Cut_run hR1.out s ii hzs.out.1 hl6.out)
        generalize cutM M s ii = M' at *
        go_wp2_with fail
        refine hC.out.mono ?_
        rintro e w4 ⟨rfl, hR4⟩
        replace hR4 := Lib.hid hR4
        clear hC hR1
        go_wp2_with fail
        go_roundg g
        case measure => omega
        case rel => exact ⟨i + 1, M', by omega, by omega, by go_num, hR4.out, hns.out.1, by have := hll.out; have := hns.out.2; omega⟩
      by_cases d2 : d = 2
      · as_aux_lemma =>
        subst d2
        have hns : Hid ((renM M s t).fuse = -1 ∧ (renM M s t).loose.length ≤ M.loose.length + 1) := Lib.hid (nosync hfu.out _ _).2
        have hC := Lib.hid (Rename_run hR1.out s t hzs.out.1 hzs.out.2 hl6.out)
        generalize renM M s t = M' at *
        go_wp2_with fail
        refine hC.out.mono ?_
        rintro e w4 ⟨rfl, hR4⟩
        replace hR4 := Lib.hid hR4
        clear hC hR1
        go_wp2_with fail
        go_roundg g
        case measure => omega
        case rel => exact ⟨i + 1, M', by omega, by omega, by go_num, hR4.out, hns.out.1, by have := hll.out; have := hns.out.2; omega⟩
      by_cases d3 : d = 3
      · as_aux_lemma =>
        subst d3
        have hns : Hid ((remM M s).fuse = -1 ∧ (remM M s).loose.length ≤ M.loose.length + 1) := Lib.hid (nosync hfu.out _ _).2
        have hC := Lib.hid (Remove_run hR1.out s hzs.out.1 hl6.out)
        generalize remM M s = M' at *
        go_wp2_with fail
        refine hC.out.mono ?_
        rintro e w4 ⟨rfl, hR4⟩
        replace hR4 := Lib.hid hR4
        clear hC hR1
        go_wp2_with fail
        go_roundg g
        case measure => omega
        case rel => exact ⟨i + 1, M', by omega, by omega, by go_num, hR4.out, hns.out.1, by have := hll.out; have := hns.out.2; omega⟩
      by_cases d4 : d = 4
      · as_aux_lemma =>
        subst d4
        have hns : Hid ((syncD M).fuse = -1 ∧ (syncD M).loose.length ≤ M.loose.length + 1) := Lib.hid (by rw [(sync_m hfu.out).1]; exact ⟨hfu.out, Nat.zero_le _⟩)
        have hC := Lib.hid (Sync_run hR1.out)
        generalize syncD M = M' at *
        go_wp2_with fail
        refine hC.out.mono ?_
        rintro e w4 ⟨rfl, hR4⟩
        replace hR4 := Lib.hid hR4
        clear hC hR1
        go_wp2_with fail
        go_roundg g
        case measure => omega
        case rel => exact ⟨i + 1, M', by omega, by omega, by go_num, hR4.out, hns.out.1, by have := hll.out; have := hns.out.2; omega⟩
      have e0 : (d == 0) = false := by simpa using d0
      have e1 : (d == 1) = false := by simpa using d1
      have e2 : (d == 2) = false := by simpa using d2
      have e3 : (d == 3) = false := by simpa using d3
      have e4 : (d == 4) = false := by simpa using d4
      clear d0 d1 d2 d3 d4
      go_wp2_with fail
      go_roundg g
      case measure => omega
      case rel => exact ⟨i + 1, M, by omega, by omega, by go_num, hR1.out, hfu.out, by have := hll.out; omega⟩
end Go.Proofs.YtenjllkhbpoffaaDoor
