/-
  slices.DeleteFunc by Ready's test; Ready.
-/
import Derived.Test.YtjjdfhokmiaekaaRdRow
namespace Go.Proofs.Ytjjdfhokmiaekaa
open Go Go.RowKit Go.Lst Go.Lx Go.Maps

theorem addr0 (g n : Nat) : (⟨g, 0, none⟩ : Addr).add n = ⟨g, n, none⟩ := by unfold Addr.add; split <;> simp_all
theorem filt_step (g : Wt → Bool) (l : List Wt) (j : Nat) (hj : j < l.length) : (l.take (j + 1)).filter g = (l.take j).filter g ++ (if g l[j] then [l[j]] else []) := by
  rw [List.take_succ_eq_append_getElem hj, List.filter_append]
  congr 1
  simp only [List.filter_cons, List.filter_nil]
theorem filt_first (g : Wt → Bool) (l : List Wt) (i : Nat) (hi : i < l.length) (hg : g l[i] = true) (hall : ∀ e ∈ l.take i, g e = false) : l.take i = (l.take (i + 1)).filter (fun e => !g e) ∧ [l[i]] = (l.take (i + 1)).filter (fun e => g e) := by
  rw [filt_step _ _ _ hi, filt_step _ _ _ hi, List.filter_eq_self.2 (fun e he => by simp [hall e he]), hg]
  refine ⟨by simp, ?_⟩
  rw [List.filter_eq_nil_iff.2 (fun e he => by simp [hall e he])]
  rfl
theorem filt_none (g : Wt → Bool) (l : List Wt) (h : ∀ e ∈ l, g e = false) : (l.filter fun e => !g e) = l ∧ (l.filter fun e => g e) = [] :=
  ⟨List.filter_eq_self.2 (fun e he => by simp [h e he]), List.filter_eq_nil_iff.2 (fun e he => by simp [h e he])⟩
set_option maxRecDepth 100000 in
set_option maxHeartbeats 4000000 in
theorem DeleteGoes_calls {A0 : World} {b hb n : Nat} {wv : Value} {S : RS} {Bp Ba Bo : Nat} {ap : Int} (cx : Ctx A0 b hb n wv S Bp Ba Bo ap) {B0 : Nat} {A : World} {ov : Value} {l : List Wt} (hs : Stays (InO Bo wv) A0 A) (ho : Out A Bo A0.heap.size ov []) (hr : WRow B0 A wv l) (hl : l.length ≤ 256) (hmy : ∀ e ∈ l, may e.c = true) :
    Calls Try.prog 61 #[wv, .func (.func 59) #[] #[.pointer (some ⟨Ba, 0, none⟩), .pointer (some ⟨Bp, 0, none⟩), .pointer (some ⟨Bo, 0, none⟩)]] A fun y A' => ∃ v', y = .returned v' ∧ Stays (InO Bo wv) A0 A' ∧ WRow B0 A' v' (l.filter fun e => !goesB S ap e) ∧ (∀ k, v'.ownBlock = some k → wv.ownBlock = some k) ∧ ∃ ov', Out A' Bo A0.heap.size ov' (l.filter fun e => goesB S ap e) := by
  have hI := Lib.hid (IndexGoes_calls cx hs ho hr hl hmy)
  have hG := Lib.hid (fun (A : World) ov xs hs ho hx e cv hc hm => goes_calls cx (A := A) (ov := ov) (xs := xs) hs ho hx e cv hc hm)
  unfold wtV at hG
  have hRR := Lib.hid (fun (A A' : World) ov xs hs ho hk hsz => row_rest cx (A := A) (A' := A') (ov := ov) (xs := xs) hs ho hk hsz)
  have hmy' := Lib.hid hmy
  have hwl := Lib.hid cx.wl
  have hnb := Lib.hid cx.ap.2.2.2.2.2.2.2.2
  have hA0 := Lib.hid hs.size
  obtain ⟨p, c, hv, hc1, hc2⟩ := hr.parts
  obtain ⟨m, hm⟩ : ∃ m, l.length = m := ⟨_, rfl⟩
  rw [hm] at hv hc1 hl
  have hmm : (m : Int) ≤ 256 := by omega
  clear hs ho hr hmy cx
  subst hv
  replace hm := Lib.hid hm
  replace hc2 := Lib.hid hc2
  go_enter Try.func61, Try.ntmps61
  go_wp2_with fail
  refine hI.out.mono ?_
  rintro y w1 ⟨hs1, hr1, h | ⟨i, hil, rfl, hgi, hall, ov1, ho1⟩⟩
  · obtain ⟨rfl, hall, ov1, ho1⟩ := h
    obtain ⟨e1, e2⟩ := filt_none (goesB S ap) l hall
    clear hI hG
    replace hs1 := Lib.hid hs1
    replace hr1 := Lib.hid hr1
    replace ho1 := Lib.hid ho1
    replace hall := Lib.hid hall
    replace e1 := Lib.hid e1
    replace e2 := Lib.hid e2
    go_wp2_with fail
    go_ret
    exact ⟨_, rfl, hs1.out, by rw [e1.out]; exact hr1.out, fun k hk => hk, _, by rw [e2.out]; exact ho1.out⟩
  · have him : i < m := by have := hm.out; omega
    have hib : ((i : Int) == -1) = false := by simp <;> omega
    clear hI
    replace hs1 := Lib.hid hs1
    replace hr1 := Lib.hid hr1
    replace ho1 := Lib.hid ho1
    replace hall := Lib.hid hall
    go_wp2_with fail
    obtain ⟨t1, t2⟩ := filt_first (goesB S ap) l i hil hgi hall.out
    replace t1 := Lib.hid t1
    replace t2 := Lib.hid t2
    go_loopg [5, 6] (m + 1) (fun k v5 v6 W => ∃ (ii jj : Nat) (M : List Wt) (ov' : Value), v5 = .int .i64 (ii : Int) ∧ v6 = .int .i64 (jj : Int) ∧ ii < jj ∧ jj ≤ m ∧ m < jj + k ∧ M.length = m ∧ M.take ii = (l.take jj).filter (fun e => !goesB S ap e) ∧ M.drop jj = l.drop jj ∧ WRow B0 W (.slice p m c) M ∧ Stays (InO Bo (.slice p m c)) A0 W ∧ Out W Bo A0.heap.size ov' ((l.take jj).filter fun e => goesB S ap e))
    case atStart => exact ⟨i, i + 1, l, ov1, rfl, rfl, by omega, by omega, by omega, hm.out, t1.out, rfl, hr1.out, hs1.out, by rw [← t2.out]; exact ho1.out⟩
    case round =>
      clear hs1 hr1 ho1 hall t1 t2 hgi hib him
      obtain ⟨ii, jj, M, ov', rfl, rfl, hij, hj, hk, hM, hMt, hMd, hrW, hsW, hoW⟩ := hrel
      cases gk with
      | zero => omega
      | succ k =>
        by_cases hlt : jj < m
        case neg =>
          have hd : decide ((jj : Int) < (m : Int)) = false := by simp; omega
          have hjm : jj = m := by omega
          have hm' := hm.out
          rw [hjm, List.take_of_length_le (l := l) (by omega)] at hMt
          rw [hjm, List.take_of_length_le (l := l) (by omega)] at hoW
          obtain ⟨a, c', cv, ev, -⟩ := hrW.get 0 (by omega)
          injection ev with e1 e2 e3
          subst e1 e3
          obtain ⟨ha, -⟩ := hrW.addr
          obtain ⟨g, hg⟩ : ∃ g, a.block = g := ⟨_, rfl⟩
          rw [hg] at ha
          have hadd : a.add (ii * 4) = ⟨g, ii * 4, none⟩ := by rw [ha, addr0]
          have hrg : WRow B0 wr (.slice (some ⟨g, 0, none⟩) m c) M := by rw [← ha]; exact hrW
          obtain ⟨w6, hclr, hr6, hg6⟩ := hrg.clear ii (by omega)
          have hgl : g < A0.heap.size := hwl.out g (by rw [ha]; rfl)
          have m1 : (0 : Int) ≤ (ii : Int) := by omega
          have m2 : (ii : Int) ≤ (m : Int) := by omega
          have m3 : ¬ (c - ii = 0) := by omega
          have m4 : ¬ (c ≤ ii) := by omega
          have m5 : (ii : Int) ≤ (c : Int) := by omega
          have hst6 : Stays (InO Bo (.slice (some a) m c)) A0 w6 := hsW.trans (Stays.of_grown (O := fun k => k = g) hg6 (fun k hk _ => by cases hk; rfl)) (fun i _ h => .inr (by rw [ha, h]; rfl))
          have hO6 := hoW.keep (hg6.block Bo (heap_lt' hoW.blk) (fun e => by cases e; exact hnb.out (by rw [ha]; rfl))) (fun k hk => hg6.block k (own_block hoW.row hk).2 (fun e => by cases e; have := (own_block hoW.row hk).1; omega))
          clear hrW hsW hoW hrg hg6 hk hjm e2
          replace hMt := Lib.hid hMt
          replace hMd := Lib.hid hMd
          replace hr6 := Lib.hid hr6
          replace hst6 := Lib.hid hst6
          replace hO6 := Lib.hid hO6
          replace ha := Lib.hid ha
          replace hg := Lib.hid hg
          replace hgl := Lib.hid hgl
          replace hM := Lib.hid hM
          go_wp2_with fail
          go_ret
          exact ⟨_, rfl, hst6.out, by rw [← hMt.out]; have h := hr6.out; rw [← ha.out] at h; exact h, fun k hk => hk, _, hO6.out⟩
        case pos =>
          have hlt1 : (jj : Int) < (m : Int) := by omega
          have h0 : (0 : Int) ≤ (jj : Int) := by omega
          have hm' := hm.out
          have hjl : jj < l.length := by omega
          have hjM : jj < M.length := by omega
          have hMj : M[jj] = l[jj] := by
            have h1 : (M.drop jj)[0]'(by rw [List.length_drop]; omega) = (l.drop jj)[0]'(by rw [List.length_drop]; omega) := by simp only [hMd]
            rwa [List.getElem_drop, List.getElem_drop] at h1
          obtain ⟨a, c', cv, ev, g0, g1, g2, g3, hcv⟩ := hrW.get jj hjM
          injection ev with e1 e2 e3
          subst e1 e3
          rw [hMj] at g0 g1 g2 hcv
          obtain ⟨q, d, hcv2, -⟩ := hcv.n.parts
          subst hcv2
          obtain ⟨e, he⟩ : ∃ e, l[jj] = e := ⟨_, rfl⟩
          have hmye := hmy'.out _ (List.getElem_mem hjl)
          rw [he] at g0 g1 g2 hcv hmye
          obtain ⟨id, x, r, cc⟩ := e
          dsimp only at g0 g1 g2 g3 hcv hmye
          have hm1 := made1 wr #[.int .u64 id, .int .u64 x, .int .u64 r, .slice q cc.length d] 109
          dsimp only at hm1
          obtain ⟨hE, hB1, hz1⟩ := hm1
          obtain ⟨x0, x1, x2, x3, -⟩ := hE.c4
          go_wp2_with fail
          have hC := hG.out _ ov' _ (stays_on hsW hB1) (hoW.below hB1) (by have := List.length_filter_le (fun e => goesB S ap e) (l.take jj); rw [List.length_take] at this; omega) ⟨id, x, r, cc⟩ (.slice q cc.length d) (hcv.n.below hB1) hmye
          have hRj := Lib.hid (fun A' hk hsz => hRR.out _ A' ov' _ (stays_on hsW hB1) (hoW.below hB1) hk hsz)
          have hrW1 := Lib.hid (hrW.below hB1)
          have hcv1 := Lib.hid (hcv.keep (Calms.below hB1))
          obtain ⟨gb, hgb⟩ : ∃ gb, goesB S ap ⟨id, x, r, cc⟩ = gb := ⟨_, rfl⟩
          rw [hgb] at hC
          have hs1 := filt_step (fun e => !goesB S ap e) l jj hjl
          have hs2 := filt_step (fun e => goesB S ap e) l jj hjl
          rw [he, hgb] at hs1 hs2
          have hMd1 : M.drop (jj + 1) = l.drop (jj + 1) := by
            have := congrArg (List.drop 1) hMd
            rwa [List.drop_drop, List.drop_drop] at this
          have hzs := Lib.hid hz1
          have hoW' := Lib.hid hoW
          have hsW' := Lib.hid hsW
          clear hE hcv e2 hsW hoW hmye
          replace hC := Lib.hid hC
          replace hs1 := Lib.hid hs1
          replace hs2 := Lib.hid hs2
          replace hMd1 := Lib.hid hMd1
          replace hMt := Lib.hid hMt
          replace hM := Lib.hid hM
          replace hMj := Lib.hid hMj
          replace hMd := Lib.hid hMd
          have hbz : Hid (wr.heap.size < (wr.alloc (.cells #[.int .u64 id, .int .u64 x, .int .u64 r, .slice q cc.length d] 109)).heap.size) := Lib.hid (by simp)
          replace hB1 := Lib.hid hB1
          have hwr : Hid (A0.heap.size ≤ wr.heap.size) := Lib.hid hsW'.out.size
          go_wp2_with fail
          generalize wr.alloc (.cells #[.int .u64 id, .int .u64 x, .int .u64 r, .slice q cc.length d] 109) = W1 at *
          refine hC.out.mono ?_
          clear hC g0 g1 g2 g3
          rintro y w2 ⟨rfl, hs2', ⟨ov2, ho2⟩, hk2, hsz2⟩
          obtain ⟨r1, r2⟩ := hRj.out w2 hk2 hsz2
          have hr2 := hrW1.out.keep r2 r1
          have hcv2 := hcv1.out.keep r2
          cases gb with
          | true =>
            clear hk2 r1 r2 x0 x1 x2 x3
            replace hs2' := Lib.hid hs2'
            replace ho2 := Lib.hid ho2
            replace hr2 := Lib.hid hr2
            replace hcv2 := Lib.hid hcv2
            go_wp2_with fail
            go_roundg k
            case measure => omega
            case rel => exact ⟨ii, jj + 1, M, ov2, rfl, by go_num, by omega, by omega, by omega, hM.out, by rw [hs1.out, hMt.out]; simp, hMd1.out, hr2.out, hs2'.out, by rw [hs2.out]; exact ho2.out⟩
          | false =>
            have xk : w2.heap[wr.heap.size]? = W1.heap[wr.heap.size]? := by
              refine hk2 _ hbz.out (fun e => ?_) (fun e => ?_)
              · have := heap_lt' hoW'.out.blk; omega
              · have := (own_block hoW'.out.row e).2; omega
            replace x0 := (cell_same (p := ⟨wr.heap.size, 0, none⟩) xk).trans x0
            replace x1 := (cell_same (p := ⟨wr.heap.size, 1, none⟩) xk).trans x1
            replace x2 := (cell_same (p := ⟨wr.heap.size, 2, none⟩) xk).trans x2
            replace x3 := (cell_same (p := ⟨wr.heap.size, 3, none⟩) xk).trans x3
            obtain ⟨ha, -⟩ := hr2.addr
            obtain ⟨g, hg⟩ : ∃ g, a.block = g := ⟨_, rfl⟩
            rw [hg] at ha
            have hadd : a.add (ii * 4) = ⟨g, ii * 4, none⟩ := by rw [ha, addr0]
            have hrg : WRow B0 w2 (.slice (some ⟨g, 0, none⟩) m c) M := by rw [← ha]; exact hr2
            obtain ⟨hrS, hgS⟩ := hrg.set4 ii (by omega) ⟨id, x, r, cc⟩ (.slice q cc.length d) hcv2
            have hMm := hrg.addr.2
            have hrg2 := hrg
            obtain ⟨cvs, hcl, hown, -⟩ := hrg2
            rw [hMm] at hown
            have hxl := rowW_length M cvs hcl
            have c0 := hown.cellAt (ii * 4) (by omega)
            have c1 := hown.cellAt (ii * 4 + 1) (by omega)
            have c2 := hown.cellAt (ii * 4 + 2) (by omega)
            have c3 := hown.cellAt (ii * 4 + 3) (by omega)
            rw [List.getElem?_eq_getElem (by omega)] at c0 c1 c2 c3
            have f0 := hown.frozenAt (ii * 4)
            have f1 := hown.frozenAt (ii * 4 + 1)
            have f2 := hown.frozenAt (ii * 4 + 2)
            have f3 := hown.frozenAt (ii * 4 + 3)
            generalize (rowW M cvs)[ii * 4]'_ = y0 at c0
            generalize (rowW M cvs)[ii * 4 + 1]'_ = y1 at c1
            generalize (rowW M cvs)[ii * 4 + 2]'_ = y2 at c2
            generalize (rowW M cvs)[ii * 4 + 3]'_ = y3 at c3
            clear hk2 r1 r2 hown hxl hcl
            replace hs2' := Lib.hid hs2'
            replace ho2 := Lib.hid ho2
            replace hr2 := Lib.hid hr2
            replace hcv2 := Lib.hid hcv2
            replace hrS := Lib.hid hrS
            replace hgS := Lib.hid hgS
            replace hrg := Lib.hid hrg
            replace ha := Lib.hid ha
            replace hg := Lib.hid hg
            replace hMm := Lib.hid hMm
            go_wp2_with fail
            go_roundg k
            case measure => omega
            case rel =>
              have hil2 : ii < M.length := by have := hMm.out; omega
              have hgl : g < A0.heap.size := hwl.out g (by rw [ha.out]; rfl)
              refine ⟨ii + 1, jj + 1, M.set ii ⟨id, x, r, cc⟩, ov2, by go_num, by go_num, by omega, by omega, by omega, by rw [List.length_set]; exact hMm.out, ?_, ?_, ?_, ?_, ?_⟩
              · rw [hs1.out, List.take_succ_eq_append_getElem (by rw [List.length_set]; exact hil2), List.getElem_set_self, List.take_set_of_le (Nat.le_refl _), hMt.out]
                simp
              · rw [List.drop_set_of_lt (by omega)]
                exact hMd1.out
              · rw [ha.out]; exact hrS.out
              · exact hs2'.out.trans (Stays.of_grown (O := fun k => k = g) hgS.out (fun k hk _ => by cases hk; rfl)) (fun i _ h => .inr (by rw [ha.out, h]; rfl))
              · rw [hs2.out]
                simp only [Bool.false_eq_true, if_false, List.append_nil]
                have ho3 := ho2.out
                refine ho3.keep (hgS.out.block Bo (heap_lt' ho3.blk) (fun e => by cases e; exact hnb.out (by rw [ha.out]; rfl))) (fun k hk => hgS.out.block k (own_block ho3.row hk).2 (fun e => by cases e; have := (own_block ho3.row hk).1; omega))
end Go.Proofs.Ytjjdfhokmiaekaa
