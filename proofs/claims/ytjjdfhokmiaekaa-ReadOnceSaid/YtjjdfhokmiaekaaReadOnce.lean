/-
  ReadOnce.
-/
import Derived.Test.YtjjdfhokmiaekaaRdJ
import Derived.Test.YtjjdfhokmiaekaaTail
namespace Go.Proofs.Ytjjdfhokmiaekaa
open Go Go.RowKit Go.Lst Go.Lx Go.Maps

theorem outC_at : ∀ (xs : List Wt) (j : Nat) (h : j < xs.length), (outC xs)[j * 2]? = some (.int .u64 xs[j].id) ∧ (outC xs)[j * 2 + 1]? = some (.int .u64 xs[j].ix)
  | x :: xs, 0, _ => ⟨rfl, rfl⟩
  | x :: xs, j + 1, h => by
    have ih := outC_at xs j (by simpa using h)
    simp only [outC, List.getElem_cons_succ]
    rw [List.getElem?_append_right (by simp; omega), List.getElem?_append_right (by simp; omega)]
    refine ⟨?_, ?_⟩
    · rw [← ih.1]; congr 1; simp; omega
    · rw [← ih.2]; congr 1; simp; omega
theorem own_get2 {w : World} {B : Nat} {u : Value} {xs : List Wt} (h : w.ownsRow B 46 2 u xs.length (outC xs)) (j : Nat) (hj : j < xs.length) : ∃ a c, u = .slice (some a) xs.length c ∧ w.cell? (a.add (j * 2)) = some (.int .u64 xs[j].id) ∧ w.cell? ⟨(a.add (j * 2)).block, (a.add (j * 2)).off + 1, none⟩ = some (.int .u64 xs[j].ix) := by
  rcases id h.2 with ⟨rfl, h0⟩ | ⟨g, cap, cur, rfl, hB, hh, hn, r⟩
  · omega
  · obtain ⟨h1, h2⟩ := outC_at xs j hj
    have e := addr0 g (j * 2)
    refine ⟨⟨g, 0, none⟩, cap, rfl, ?_, ?_⟩
    · rw [e, h.cellAt (j * 2) (by omega)]; exact h1
    · rw [e, h.cellAt (j * 2 + 1) (by omega)]; exact h2
theorem own_no_map {w : World} {B T sz n m : Nat} {u : Value} {xs : List Value} (h : w.ownsRow B T sz u n xs) (hm : ∃ es cl, w.heap[m]? = some (.map es cl)) {k : Nat} (hk : u.ownBlock = some k) : k ≠ m := fun e => by
  obtain ⟨es, cl, hm⟩ := hm
  rcases h.2 with ⟨rfl, _⟩ | ⟨g, cap, cur, rfl, hB, hh, r⟩
  · cases hk
  · cases hk
    dsimp only at e
    rw [e, hm] at hh
    cases hh
theorem Stays.grown {w w' : World} {m : Nat} (h : Stays (fun k => k = m) w w') : w.grownBy w' (some m) := ⟨h.os, h.tape, h.output, h.size, fun k hk hn => h.block k hk (fun e => hn (by rw [e]))⟩
def OneMap (m : Nat) (W w' : World) : Prop := Stays (fun k => k = m) W w'
def OneRd (b : Nat) (wv : Value) (W w' : World) : Prop := Stays (fun k => k = b ∨ wv.ownBlock = some k) W w'
set_option maxRecDepth 100000 in
set_option maxHeartbeats 8000000 in
theorem ReadOnce_walk (me : Int) (sv : Value) (n : Nat) (w : World) (wm : (Lit.int .i64 me).wf = true) (hs : Recs 5 QStep w sv n) :
    Calls Try.prog 3 #[.int .i64 me, sv] w fun e w' => e = .returned (.bool true) ∧ Below w.heap.size w w' := by
  have hs' := Lib.hid hs
  obtain ⟨ps, cs, hsv, hsc, hsm, -⟩ := hs
  rw [hsv] at hs' ⊢
  clear hsv
  have hH := Lib.hid (heavy_calls (.slice ps n cs) n w hs'.out)
  have hmm := @run_makeMap Try.prog
  replace hsc := Lib.hid hsc
  replace hsm := Lib.hid hsm
  replace wm := Lib.hid wm
  go_enter Try.func3, Try.ntmps3
  go_wp2_with fail
  refine hH.out.mono ?_
  rintro y w1 ⟨⟨hv, rfl, hn3⟩, hb1⟩
  clear hH
  cases hv with
  | true =>
    clear hn3
    go_wp2_with fail
    refine (works28_calls _).mono ?_
    rintro y w2 ⟨rfl, hb2⟩
    have hB := Lib.hid (Lx.bstep hb1 (Nat.le_refl _) hb2)
    clear hb1 hb2
    go_wp2_with fail
    go_ret
    exact ⟨rfl, hB.out⟩
  | false =>
  have hn := hn3 rfl
  clear hn3
  by_cases hme : me < 1 ∨ 64 < me
  · have hN := Lib.hid (NewRd_bad w1 me hme)
    replace hb1 := Lib.hid hb1
    replace hme := Lib.hid hme
    replace hn := Lib.hid hn
    go_wp2_with fail
    refine hN.out.mono ?_
    rintro y w2 ⟨rfl, hb2⟩
    replace hb1 := Lib.hid (Lx.bstep hb1.out (Nat.le_refl _) hb2)
    clear hN hb2
    go_wp2_with fail
    refine (works28_calls _).mono ?_
    rintro y w3 ⟨rfl, hb2⟩
    replace hb1 := Lib.hid (Lx.bstep hb1.out (Nat.le_refl _) hb2)
    clear hb2
    go_wp2_with fail
    go_ret
    exact ⟨rfl, hb1.out⟩
  have hN := Lib.hid (NewRd_mine w w1 hb1 me (fun h => hme (.inl h)) (fun h => hme (.inr h)))
  clear hb1
  replace hme := Lib.hid hme
  go_wp2_with fail
  refine hN.out.mono ?_
  clear hN
  rintro y w2 ⟨b, hb, rfl, hM, -⟩
  have hJ0 := Lib.hid (JJ.start hM)
  clear hM
  go_wp2_with fail
  obtain ⟨mr, hmr⟩ : ∃ mr, w2.heap.size + 1 = mr := ⟨_, rfl⟩
  rw [hmr] at hJ0 ⊢
  clear hmr
  go_loopg [7, 9, 10] (n + 1) (fun k v7 v9 v10 wr => ∃ (i mw mh : Nat), v7 = .map (some mw) ∧ v9 = .map (some mh) ∧ v10 = .int .i64 (i : Int) ∧ i ≤ n ∧ n < i + k ∧ ∃ nH wv S n1 val n2 ro n3, JJ w wr b hb nH wv S mw n1 val mr n2 ro mh n3 i ∧ S.me = me)
  case atStart => exact ⟨0, _, _, rfl, rfl, rfl, by omega, by omega, _, _, _, _, _, _, _, _, hJ0.out, rfl⟩
  case round => as_aux_lemma =>
    clear hJ0
    obtain ⟨i, mw, mh, rfl, rfl, rfl, hi1, hi2, nH, wv, S, n1, val, n2, ro, n3, hJ, hSme⟩ := hrel
    cases gk with
    | zero => omega
    | succ k =>
      by_cases hlt : i < n
      case neg => as_aux_lemma =>
        have hd : decide ((i : Int) < (n : Int)) = false := by simp; omega
        have hB := Lib.hid hJ.rd.below
        clear hJ hi1 hi2
        go_wp2_with fail
        refine (works28_calls _).mono ?_
        rintro y w3 ⟨rfl, hb2⟩
        replace hB := Lib.hid (Lx.bstep hB.out (Nat.le_refl _) hb2)
        clear hb2
        go_wp2_with fail
        go_ret
        exact ⟨rfl, hB.out⟩
      case pos => as_aux_lemma =>
      have hlt1 : (i : Int) < (n : Int) := by omega
      have h0 : (0 : Int) ≤ (i : Int) := by omega
      obtain ⟨a, c', d, id, m, f, cv, xs, e0, -, -, g0, g1, g2, g3, g4, hin, hxl, wid, wmm, wf⟩ := step_get hs'.out i hlt
      injection e0 with e1 e2 e3
      subst e1 e3
      have hbw := hJ.rd.below
      replace g0 := (cell_below hbw g0).trans g0
      replace g1 := (cell_below hbw g1).trans g1
      replace g2 := (cell_below hbw g2).trans g2
      replace g3 := (cell_below hbw g3).trans g3
      replace g4 := (cell_below hbw g4).trans g4
      obtain ⟨pc, cc, hcv, -⟩ := hin.parts
      subst hcv
      have hin0 := Lib.hid hin
      have hm1 := made1 wr #[.int .i64 d, .int .u64 id, .int .u64 m, .int .i64 f, .slice pc xs.length cc] 35
      dsimp only at hm1
      obtain ⟨A1, hb1, hz1⟩ := hm1
      obtain ⟨a0, a1, a2, a3, a4, -⟩ := A1.c5
      have hJ1 := Lib.hid (hJ.then hb1)
      have hsz1 := Lib.hid hz1
      have hrl := Lib.hid hJ.rd.rd.lt
      have hrh := Lib.hid hJ.rd.rd.hlt
      have hrw := Lib.hid (fun k hk => (hJ.rd.rd.row.block (k := k) hk).2)
      have hml : Hid (mw < wr.heap.size ∧ mr < wr.heap.size ∧ mh < wr.heap.size) := by
        obtain ⟨_, _, u1⟩ := hJ.sm.isMap
        obtain ⟨_, _, u2⟩ := hJ.rm.isMap
        obtain ⟨_, _, u3⟩ := hJ.hm.isMap
        exact Lib.hid ⟨heap_lt' u1, heap_lt' u2, heap_lt' u3⟩
      clear hJ hbw hin e2 hb1 hz1 A1
      by_cases d0 : d = 0
      · as_aux_lemma =>
        subst d0
        have hxl8 : Hid (xs.length * 8 ≤ 140737488355328) := Lib.hid hxl
        have hAk := Lib.hid (fun A v (hP : MineR w A b hb nH wv S) (hcf : Cf 0 A v xs) => Ask_mine hP id m v xs hcf (by have := hJ1.out.ok.rd; omega))
        have hno : ¬ (wr.heap.size = b ∨ wv.ownBlock = some wr.heap.size) := by
          rintro (e | e)
          · have := hrl.out; omega
          · have := hrw.out _ e; omega
        go_wp2_with fail
        generalize wr.alloc (.cells #[.int .i64 0, .int .u64 id, .int .u64 m, .int .i64 f, .slice pc xs.length cc] 35) = W5 at *
        have k1 := fun x : Cls (OneRd b wv W5) => stays_at (a := ⟨wr.heap.size, 1, none⟩) x.is a1 hno
        have k2 := fun x : Cls (OneRd b wv W5) => stays_at (a := ⟨wr.heap.size, 2, none⟩) x.is a2 hno
        have k4 := fun x : Cls (OneRd b wv W5) => stays_at (a := ⟨wr.heap.size, 4, none⟩) x.is a4 hno
        have hnon : Nonempty (Cls (OneRd b wv W5)) := ⟨⟨_, Stays.of_below (Below.refl _ _)⟩⟩
        obtain ⟨AE, hAE⟩ : ∃ AE, askE S id m xs = AE := ⟨_, rfl⟩
        obtain ⟨AR, hAR⟩ : ∃ AR, askR S id m xs = AR := ⟨_, rfl⟩
        obtain ⟨S', hS'⟩ : ∃ S', askS S id m xs = S' := ⟨_, rfl⟩
        have hok' := hJ1.out.ok.ask id m xs wid
        rw [hAE, hAR, hS'] at hAk
        rw [hS'] at hok'
        have hin5 := Lib.hid (hin0.out.below hJ1.out.rd.below)
        have hwx := Lib.hid hin0.out.2
        replace hok' := Lib.hid hok'
        replace hno := Lib.hid hno
        refine Lx.wp_region_chain_lit (fun w' => ∃ x : Cls (OneRd b wv W5), w' = x.wo) (fun _ => False) [7, 8] [] (fun A => Below W5.heap.size W5 A) (by kernel_rfl) (by kernel_rfl) (by kernel_rfl) (by kernel_rfl) (cls_of (Stays.of_below ((Below.refl _ _).drew))) ((Below.refl _ _).drew) ?_
        repeat (refine Lx.wpCh_one (by rfl) (by rfl) ?_; go_big_quiet_step (fail); refine wpQuiet_nil ?_)
        clear k1 k2 k4
        refine Lx.wpCh_relp (fun v A => ∃ q d, v = .slice q xs.length d ∧ Cf 0 A (.slice q xs.length d) xs ∧ Below W5.heap.size W5 A) (by rfl) (by rfl) (fun h => by cases h) (fun w' hx hS R hR => ?_) (fun v hv => ?_)
        · obtain ⟨x, rfl⟩ := hx
          have hN5 : Nums .i64 x.wo (.slice pc xs.length cc) xs := (hin0.out.below (Lx.bstep hJ1.out.rd.below (Nat.le_refl _) hS))
          obtain ⟨v', w'', hr, hown, hbl⟩ := copy_ints hN5 hxl8.out 33
          refine Eq.mpr (congrArg (uponR Try.prog R) (run_append_op (s := .const (.slice none 0 0)) (x := .tmp 65) (t := 33) rfl rfl rfl hr)) ?_
          have hcf := Cf.own (B := 0) hown hwx.out
          obtain ⟨q, d, hq, -⟩ := hcf.n.parts
          subst hq
          exact hR _ _ (cls_of (stays_on x.is hbl)) ⟨_, _, rfl, hcf, Lx.bstep hS (Nat.le_refl _) hbl⟩ (fun h => by cases h)
        obtain ⟨_, -, q, d, rfl, -, -⟩ := hv
        go_big_quiet_step (fail)
        refine wpQuiet_nil ?_
        repeat (refine Lx.wpCh_one (by rfl) (by rfl) ?_; go_big_quiet_step (fail); refine wpQuiet_nil ?_)
        refine Lx.wpCh_relp (fun v A => v = .tuple #[.int .u64 AR, .int .i64 AE] ∧ ∃ wv', MineR w A b hb nH wv' S') (by rfl) (by rfl) (fun h => by cases h) (fun w' hx hS R hR => ?_) (fun v hv => ?_)
        · obtain ⟨x, rfl⟩ := hx
          obtain ⟨_, _, e1, hcf, hbl⟩ := hS
          cases e1
          have hC := hAk.out x.wo _ (hJ1.out.rd.then hbl) hcf
          clear hbl hcf hAk
          go_simp
          refine hC.mono ?_
          rintro e w' ⟨rfl, wv', h1, h2, -⟩
          exact ⟨_, rfl, hR _ _ (cls_of (x.is.trans h2 (fun _ _ h => h))) ⟨rfl, wv', h1⟩ (fun h => by cases h)⟩
        obtain ⟨_, -, rfl, -⟩ := hv
        clear hAk
        go_big_quiet_step (fail)
        refine wpQuiet_nil ?_
        repeat (refine Lx.wpCh_one (by rfl) (by rfl) ?_; go_big_quiet_step (fail); refine wpQuiet_nil ?_)
        refine Lx.wpCh_nil ?_
        intro w7 hx hS
        obtain ⟨x, rfl⟩ := hx
        obtain ⟨-, wv', hP7⟩ := hS
        obtain ⟨m1, m2, m3⟩ := hJ1.out.maps x.is (fun k hk => hk.elim .inl (fun h => .inr (.inr h)))
        replace a1 := stays_at (a := ⟨wr.heap.size, 1, none⟩) x.is a1 hno.out
        replace a0 := stays_at (a := ⟨wr.heap.size, 0, none⟩) x.is a0 hno.out
        replace a2 := stays_at (a := ⟨wr.heap.size, 2, none⟩) x.is a2 hno.out
        replace a3 := stays_at (a := ⟨wr.heap.size, 3, none⟩) x.is a3 hno.out
        replace a4 := stays_at (a := ⟨wr.heap.size, 4, none⟩) x.is a4 hno.out
        generalize x.wo = w7 at *
        clear x hnon
        have hlk := m1.look wid
        by_cases hE : AE = 0
        case neg => as_aux_lemma =>
          have hEb : (AE == 0) = false := by simpa using hE
          have hSS : S' = S := by rw [← hS']; exact askS_no (by rw [hAE]; exact hE)
          rw [hSS] at hP7
          have hJ2 : Hid (JJ w w7 b hb nH wv' S mw n1 val mr n2 ro mh n3 (i + 1)) := Lib.hid ⟨hP7, hJ1.out.ok.mono (Nat.le_succ i), m1, m2, m3, hJ1.out.vl, hJ1.out.rl, by have := hJ1.out.nb; omega, hJ1.out.ne, hJ1.out.lo⟩
          clear m1 m2 m3 hSS hAE hAR hS' hE hP7
          obtain ⟨hh, hhe⟩ : ∃ hh, hasB S.l id = hh := ⟨_, rfl⟩
          rw [hhe] at hlk
          cases hh with
          | true => as_aux_lemma =>
            obtain ⟨e, he, hei⟩ := hasB_iff.1 hhe
            obtain ⟨d', f', cv', hval, hN'⟩ := hJ1.out.vl e he
            rw [hei] at hval
            obtain ⟨p', c', hcv', -⟩ := hN'.parts
            rw [hcv'] at hval
            generalize e.c.length = l' at hval
            generalize e.ix = x' at hval
            simp only [if_true] at hlk
            rw [hval] at hlk
            have hbl := (Below.refl w7.heap.size w7).alloc (Nat.le_refl _) (.cells #[.int .i64 d', .int .u64 id, .int .u64 x', .int .i64 f', .slice p' l' c'] 35)
            have hJ3 := Lib.hid (hJ2.out.then hbl)
            clear hbl hval hcv' hN' he hei hhe
            have hWt := Lib.hid (Waits_calls hJ3.out.rd.rd)
            go_wp2_with fail
            refine hWt.out.mono ?_
            rintro y w9 ⟨rfl, hb9⟩
            have hJ9 := Lib.hid (hJ3.out.then hb9)
            have hlen := fun ty => hJ9.out.sm.len ty
            clear hb9 hWt
            go_wp2_with fail
            go_roundg k
            case measure => omega
            case rel => exact ⟨i + 1, _, _, rfl, rfl, by first | rfl | (rw [IntWalk.wrap64_in _ (by omega)]; rfl), by omega, by omega, _, _, _, _, _, _, _, _, hJ9.out, hSme⟩
          | false => as_aux_lemma =>
            simp only [Bool.false_eq_true, if_false] at hlk
            unfold zStep at hlk
            have hbl := (Below.refl w7.heap.size w7).alloc (Nat.le_refl _) (.cells #[.int .i64 0, .int .u64 0, .int .u64 0, .int .i64 0, .slice none 0 0] 35)
            have hJ3 := Lib.hid (hJ2.out.then hbl)
            clear hbl hhe
            have hWt := Lib.hid (Waits_calls hJ3.out.rd.rd)
            go_wp2_with fail
            refine hWt.out.mono ?_
            rintro y w9 ⟨rfl, hb9⟩
            have hJ9 := Lib.hid (hJ3.out.then hb9)
            have hlen := fun ty => hJ9.out.sm.len ty
            clear hb9 hWt
            go_wp2_with fail
            go_roundg k
            case measure => omega
            case rel => exact ⟨i + 1, _, _, rfl, rfl, by first | rfl | (rw [IntWalk.wrap64_in _ (by omega)]; rfl), by omega, by omega, _, _, _, _, _, _, _, _, hJ9.out, hSme⟩
        case pos => as_aux_lemma =>
          subst hE
          obtain ⟨h1, h2, h3, h4, h5⟩ := ask_ok hAE
          rw [h2] at hlk
          simp only [Bool.false_eq_true, if_false] at hlk
          unfold zStep at hlk
          have hSr : S'.rd = AR := by rw [← hS', h4, ← hAR, h5]
          have hSl : S'.l = S.l ++ [⟨id, m, AR, xs⟩] := by rw [← hS', h4, ← hAR, h5]
          have hSh : S'.h = S.h ∧ S'.me = S.me := by rw [← hS', h4]; exact ⟨rfl, rfl⟩
          have hARb : (AR == 0) = false := by have := hJ1.out.ok.rd; rw [← hAR, h5]; simp; omega
          have hwr : (Lit.int .u64 AR).wf = true := by
            have := hJ1.out.ok.rd
            rw [← hAR, h5]
            unfold Lit.wf
            rw [Bool.and_eq_true, decide_eq_true_eq, decide_eq_true_eq]
            have h1 : IntKind.u64.min = 0 := rfl
            have h2 : IntKind.u64.max = 18446744073709551615 := rfl
            omega
          have hbl := (Below.refl w7.heap.size w7).alloc (Nat.le_refl _) (.cells #[.int .i64 0, .int .u64 0, .int .u64 0, .int .i64 0, .slice none 0 0] 35)
          have hP8 := hP7.then hbl
          have hRo := Round_calls hP8.rd
          rw [hSr] at hRo
          have hc : Hid (Below w7.heap.size w7 (w7.alloc (.cells #[.int .i64 0, .int .u64 0, .int .u64 0, .int .i64 0, .slice none 0 0] 35))) := Lib.hid hbl
          have a1w := a1
          replace a0 := (cell_below hbl a0).trans a0
          replace a1 := (cell_below hbl a1).trans a1
          replace a2 := (cell_below hbl a2).trans a2
          replace a3 := (cell_below hbl a3).trans a3
          replace a4 := (cell_below hbl a4).trans a4
          clear hbl h3 h4 h5 hAR hAE hS' hP7
          replace hRo := Lib.hid hRo
          replace hSr := Lib.hid hSr
          replace hSl := Lib.hid hSl
          replace hSh := Lib.hid hSh
          replace h1 := Lib.hid h1
          replace h2 := Lib.hid h2
          replace hwr := Lib.hid hwr
          replace hP8 := Lib.hid hP8
          replace m1 := Lib.hid m1
          replace m2 := Lib.hid m2
          replace m3 := Lib.hid m3
          go_wp2_with fail
          refine hRo.out.mono ?_
          clear hRo
          rintro y w9 ⟨rfl, hb9⟩
          have hc9 := Lx.bstep hc.out (Nat.le_refl _) hb9
          obtain ⟨_, _, u1⟩ := m1.out.isMap
          obtain ⟨_, _, u2⟩ := m2.out.isMap
          obtain ⟨_, _, u3⟩ := m3.out.isMap
          have q1 := m1.out.keep (hc9.block mw (heap_lt' u1))
          have q2 := m2.out.keep (hc9.block mr (heap_lt' u2))
          have q3 := m3.out.keep (hc9.block mh (heap_lt' u3))
          obtain ⟨w10, hup1, s1, hg10⟩ := q1.store (by have := hJ1.out.nb; unfold maxLen; omega) wid (.agg #[.int .i64 0, .int .u64 id, .int .u64 m, .int .i64 f, .slice pc xs.length cc])
          have hne := hJ1.out.ne
          have hlo := hJ1.out.lo
          obtain ⟨_, _, u2'⟩ := q2.isMap
          obtain ⟨_, _, u3'⟩ := q3.isMap
          have r2 := q2.keep (hg10.block mr (heap_lt' u2') (fun e => by cases e; exact hne.2.2.2.1 rfl))
          have r3 := q3.keep (hg10.block mh (heap_lt' u3') (fun e => by cases e; exact hne.2.2.2.2.1 rfl))
          obtain ⟨w11, hup2, s2, hg11⟩ := r2.store (by have := hJ1.out.nb; unfold maxLen; omega) wid hwr.out
          obtain ⟨_, _, v1⟩ := s1.isMap
          obtain ⟨_, _, v3⟩ := r3.isMap
          have t1 := s1.keep (hg11.block mw (heap_lt' v1) (fun e => by cases e; exact hne.2.2.2.1 rfl))
          have t3 := r3.keep (hg11.block mh (heap_lt' v3) (fun e => by cases e; exact hne.2.2.2.2.2 rfl))
          have hP11 := ((hP8.out.then hb9).map hg10 q1.isMap hne.1 hlo.1).map hg11 r2.isMap hne.2.1 hlo.2.1
          have hwne : some wr.heap.size ≠ some mw := fun e => by have := hml.out.1; cases e; omega
          replace a0 := (cell_below hb9 a0).trans a0
          replace a1 := (cell_below hb9 a1).trans a1
          replace a2 := (cell_below hb9 a2).trans a2
          replace a3 := (cell_below hb9 a3).trans a3
          replace a4 := (cell_below hb9 a4).trans a4
          have c1 := hg10.cell a1 hwne
          rw [h2.out] at t1
          simp only [Bool.false_eq_true, if_false] at t1
          have hJ2 : Hid (JJ w w11 b hb nH wv' S' mw (n1 + 1) (fun y => if y = id then .agg #[.int .i64 0, .int .u64 id, .int .u64 m, .int .i64 f, .slice pc xs.length cc] else val y) mr (n2 + 1) (fun z => if z = id then AR else ro z) mh n3 (i + 1)) := by
            refine Lib.hid ⟨hP11, hok'.out, ?_, s2, by rw [hSh.out.1]; exact t3, fun e he => ?_, fun e he => ?_, by have := hJ1.out.nb; omega, hne, hlo⟩
            · rw [hSl.out, List.length_append, ← has_ask S.l ⟨id, m, AR, xs⟩]
              exact t1
            · rw [hSl.out] at he
              rcases List.mem_append.1 he with he | he
              · have hni : e.id ≠ id := fun e1 => by
                  have := hasB_iff.2 ⟨e, he, e1⟩
                  rw [h2.out] at this; cases this
                obtain ⟨d', f', cv', h1', h2'⟩ := hJ1.out.vl e he
                exact ⟨d', f', cv', by rw [← h1']; simp [hni], h2'⟩
              · simp at he
                subst he
                exact ⟨0, f, .slice pc xs.length cc, by simp, hin0.out⟩
            · rw [hSl.out] at he
              rcases List.mem_append.1 he with he | he
              · have hni : e.id ≠ id := fun e1 => by
                  have := hasB_iff.2 ⟨e, he, e1⟩
                  rw [h2.out] at this; cases this
                simp only [hni, if_false]
                exact hJ1.out.rl e he
              · simp at he
                subst he
                simp
          have hSme2 : Hid (S'.me = me) := Lib.hid (hSh.out.2.trans hSme)
          clear hc9 u1 u2 u3 q1 q2 q3 s1 hg10 hne hlo u2' u3' r2 r3 s2 hg11 v1 v3 t1 t3 hP11 hwne hb9 a1w
          have hWt := Lib.hid (Waits_calls hJ2.out.rd.rd)
          go_wp2_with fail
          refine hWt.out.mono ?_
          rintro y w9 ⟨rfl, hb9⟩
          have hJ9 := Lib.hid (hJ2.out.then hb9)
          have hlen := fun ty => hJ9.out.sm.len ty
          clear hb9 hWt
          go_wp2_with fail
          go_roundg k
          case measure => omega
          case rel => exact ⟨i + 1, _, _, rfl, rfl, by first | rfl | (rw [IntWalk.wrap64_in _ (by omega)]; rfl), by omega, by omega, _, _, _, _, _, _, _, _, hJ9.out, hSme2.out⟩
      · as_aux_lemma =>
        have d0b : (d == 0) = false := by simpa using d0
        by_cases d1 : d = 1
        · as_aux_lemma =>
          subst d1
          have hA := Lib.hid (fun A (hP : MineR w A b hb nH wv S) => Ack_mine hP (by have := hJ1.out.nb; omega) f m wf wmm)
          have hno : wr.heap.size ≠ hb := by have := hrh.out; omega
          go_wp2_with fail
          generalize wr.alloc (.cells #[.int .i64 1, .int .u64 id, .int .u64 m, .int .i64 f, .slice pc xs.length cc] 35) = W5 at *
          have k2 := fun x : Cls (OneMap hb W5) => stays_at (a := ⟨wr.heap.size, 2, none⟩) x.is a2 hno
          have k3 := fun x : Cls (OneMap hb W5) => stays_at (a := ⟨wr.heap.size, 3, none⟩) x.is a3 hno
          have hnon : Nonempty (Cls (OneMap hb W5)) := ⟨⟨_, Stays.of_below (Below.refl _ _)⟩⟩
          by_cases hE : ackE S f = 0
          case neg => as_aux_lemma =>
            obtain ⟨AE, hAE⟩ : ∃ AE, ackE S f = AE := ⟨_, rfl⟩
            have hS0 : ackS S f m = S := by unfold ackS; rw [if_neg (fun h => hE h.1)]
            rw [hAE] at hA hE
            rw [hS0] at hA
            have hEb : (AE == 0) = false := by simpa using hE
            clear hAE hS0 hE
            refine Lx.wp_region_chain_lit (fun w' => ∃ x : Cls (OneMap hb W5), w' = x.wo) (fun _ => False) [6, 12] [] (fun A => Below W5.heap.size W5 A) (by kernel_rfl) (by kernel_rfl) (by kernel_rfl) (by kernel_rfl) (cls_of (Stays.of_below ((Below.refl _ _).drew))) ((Below.refl _ _).drew) ?_
            repeat (refine Lx.wpCh_one (by rfl) (by rfl) ?_; go_big_quiet_step (fail); refine wpQuiet_nil ?_)
            clear a0 a1 a2 a3 a4
            refine Lx.wpCh_relp (fun v A => v = .int .i64 AE ∧ MineR w A b hb (nH + 1) wv S) (by rfl) (by rfl) (fun h => by cases h) (fun w' hx hS R hR => ?_) (fun v hv => ?_)
            · obtain ⟨x, rfl⟩ := hx
              have hC := hA.out x.wo (hJ1.out.rd.then hS)
              clear hS hA
              go_simp
              refine hC.mono ?_
              rintro e w' ⟨rfl, h1, h2⟩
              exact ⟨_, rfl, hR _ _ (cls_of (x.is.trans h2 (fun _ _ h => h))) ⟨rfl, h1⟩ (fun h => by cases h)⟩
            obtain ⟨_, -, rfl, -⟩ := hv
            go_big_quiet_step (fail)
            refine wpQuiet_nil ?_
            repeat (refine Lx.wpCh_one (by rfl) (by rfl) ?_; go_big_quiet_step (fail); refine wpQuiet_nil ?_)
            refine Lx.wpCh_skipp ⟨_, cls_of (Stays.of_below (Below.refl _ _))⟩ (by rfl) ?_
            go_big_quiet_step (fail)
            refine wpQuiet_nil ?_
            repeat (refine Lx.wpCh_one (by rfl) (by rfl) ?_; go_big_quiet_step (fail); refine wpQuiet_nil ?_)
            refine Lx.wpCh_nil ?_
            intro w7 hx hS
            obtain ⟨x, rfl⟩ := hx
            obtain ⟨m1, m2, m3⟩ := hJ1.out.maps x.is (fun k hk => .inr (.inl hk))
            have hJ2 : Hid (JJ w x.wo b hb (nH + 1) wv S mw n1 val mr n2 ro mh n3 (i + 1)) := Lib.hid ⟨hS.2, hJ1.out.ok.mono (Nat.le_succ i), m1, m2, m3, hJ1.out.vl, hJ1.out.rl, by have := hJ1.out.nb; omega, hJ1.out.ne, hJ1.out.lo⟩
            generalize x.wo = w7 at *
            clear x hS m1 m2 m3 k2 k3 hnon hA
            have hWt := Lib.hid (Waits_calls hJ2.out.rd.rd)
            go_wp2_with fail
            refine hWt.out.mono ?_
            rintro y w9 ⟨rfl, hb9⟩
            have hJ9 := Lib.hid (hJ2.out.then hb9)
            have hlen := fun ty => hJ9.out.sm.len ty
            clear hb9 hWt
            go_wp2_with fail
            go_roundg k
            case measure => omega
            case rel => exact ⟨i + 1, _, _, rfl, rfl, by first | rfl | (rw [IntWalk.wrap64_in _ (by omega)]; rfl), by omega, by omega, _, _, _, _, _, _, _, _, hJ9.out, hSme⟩
          case pos => as_aux_lemma =>
            have hrd1 : (ackS S f m).rd = S.rd := by unfold ackS; split <;> rfl
            obtain ⟨rd, hrd⟩ : ∃ rd, S.rd = rd := ⟨_, rfl⟩
            rw [hE] at hA
            obtain ⟨S', hS'⟩ : ∃ S', ackS S f m = S' := ⟨_, rfl⟩
            have hme' : S'.me = S.me := by rw [← hS']; unfold ackS; split <;> rfl
            have hl' : S'.l = S.l := by rw [← hS']; unfold ackS; split <;> rfl
            have hok' := hJ1.out.ok.ack f m
            rw [hS'] at hA hrd1 hok'
            rw [hrd] at hrd1
            have hRo := Lib.hid (fun A (hP : MineR w A b hb (nH + 1) wv S') => Round_calls hP.rd)
            rw [hrd1] at hRo
            have hcase : (m ≤ rd ∧ S'.h = fun x => if x = f then max (S.h f) m else S.h x) ∨ (¬ m ≤ rd ∧ S' = S) := by
              unfold ackS at hS'
              rw [hrd] at hS'
              by_cases hm : m ≤ rd
              · rw [if_pos ⟨hE, hm⟩] at hS'
                exact .inl ⟨hm, by rw [← hS']⟩
              · rw [if_neg (fun h => hm h.2)] at hS'
                exact .inr ⟨hm, hS'.symm⟩
            replace hE := Lib.hid hE
            replace hrd := Lib.hid hrd
            replace hS' := Lib.hid hS'
            replace hrd1 := Lib.hid hrd1
            replace hcase := Lib.hid hcase
            replace hme' := Lib.hid hme'
            replace hl' := Lib.hid hl'
            replace hok' := Lib.hid hok'
            refine Lx.wp_region_chain_lit (fun w' => ∃ x : Cls (OneMap hb W5), w' = x.wo) (fun _ => False) [6, 12] [] (fun A => Below W5.heap.size W5 A) (by kernel_rfl) (by kernel_rfl) (by kernel_rfl) (by kernel_rfl) (cls_of (Stays.of_below ((Below.refl _ _).drew))) ((Below.refl _ _).drew) ?_
            repeat (refine Lx.wpCh_one (by rfl) (by rfl) ?_; go_big_quiet_step (fail); refine wpQuiet_nil ?_)
            clear a0 a1 a4
            refine Lx.wpCh_relp (fun v A => v = .int .i64 0 ∧ MineR w A b hb (nH + 1) wv S') (by rfl) (by rfl) (fun h => by cases h) (fun w' hx hS R hR => ?_) (fun v hv => ?_)
            · obtain ⟨x, rfl⟩ := hx
              have hC := hA.out x.wo (hJ1.out.rd.then hS)
              clear hS hA
              go_simp
              refine hC.mono ?_
              rintro e w' ⟨rfl, h1, h2⟩
              exact ⟨_, rfl, hR _ _ (cls_of (x.is.trans h2 (fun _ _ h => h))) ⟨rfl, h1⟩ (fun h => by cases h)⟩
            obtain ⟨_, -, rfl, -⟩ := hv
            go_big_quiet_step (fail)
            refine wpQuiet_nil ?_
            repeat (refine Lx.wpCh_one (by rfl) (by rfl) ?_; go_big_quiet_step (fail); refine wpQuiet_nil ?_)
            refine Lx.wpCh_relp (fun v A => v = .int .u64 rd ∧ MineR w A b hb (nH + 1) wv S') (by rfl) (by rfl) (fun h => by cases h) (fun w' hx hS R hR => ?_) (fun v hv => ?_)
            · obtain ⟨x, rfl⟩ := hx
              have hC := hRo.out x.wo hS.2
              have hP := Lib.hid hS.2
              clear hS hRo
              go_simp
              refine hC.mono ?_
              rintro e w' ⟨rfl, h1⟩
              exact ⟨_, rfl, hR _ _ (cls_of (stays_on x.is h1)) ⟨rfl, hP.out.then h1⟩ (fun h => by cases h)⟩
            obtain ⟨_, -, rfl, -⟩ := hv
            go_big_quiet_step (fail)
            refine wpQuiet_nil ?_
            repeat (refine Lx.wpCh_one (by rfl) (by rfl) ?_; go_big_quiet_step (fail); refine wpQuiet_nil ?_)
            refine Lx.wpCh_nil ?_
            intro w7 hx hS
            obtain ⟨x, rfl⟩ := hx
            obtain ⟨m1, m2, m3⟩ := hJ1.out.maps x.is (fun k hk => .inr (.inl hk))
            have a2' := k2 x
            have a3' := k3 x
            generalize x.wo = w7 at *
            clear x k2 k3 hnon hA hRo a2 a3
            rcases hcase.out with ⟨hm, hh⟩ | ⟨hm, he⟩
            case inr => as_aux_lemma =>
              have hmb : decide (m ≤ rd) = false := decide_eq_false hm
              have hP := hS.2
              rw [he] at hP
              have hJ2 : Hid (JJ w w7 b hb (nH + 1) wv S mw n1 val mr n2 ro mh n3 (i + 1)) := Lib.hid ⟨hP, hJ1.out.ok.mono (Nat.le_succ i), m1, m2, m3, hJ1.out.vl, hJ1.out.rl, by have := hJ1.out.nb; omega, hJ1.out.ne, hJ1.out.lo⟩
              clear hS m1 m2 m3 hP he a2' a3'
              have hWt := Lib.hid (Waits_calls hJ2.out.rd.rd)
              go_wp2_with fail
              refine hWt.out.mono ?_
              rintro y w9 ⟨rfl, hb9⟩
              have hJ9 := Lib.hid (hJ2.out.then hb9)
              have hlen := fun ty => hJ9.out.sm.len ty
              clear hb9 hWt
              go_wp2_with fail
              go_roundg k
              case measure => omega
              case rel => exact ⟨i + 1, _, _, rfl, rfl, by first | rfl | (rw [IntWalk.wrap64_in _ (by omega)]; rfl), by omega, by omega, _, _, _, _, _, _, _, _, hJ9.out, hSme⟩
            case inl => as_aux_lemma =>
              have hmb : decide (m ≤ rd) = true := decide_eq_true hm
              have hlk := m3.look wf
              obtain ⟨z, hz⟩ : ∃ z, S.h f = z := ⟨_, rfl⟩
              have hwz := m3.wf wf
              rw [hz] at hlk hwz
              have hmx : (if z < m then m else z) = max z m := by split <;> omega
              have hwm : (Lit.int .u64 (max z m)).wf = true := by
                rcases Int.le_total z m with h | h
                · rw [show max z m = m by omega]; exact wmm
                · rw [show max z m = z by omega]; exact hwz
              obtain ⟨w8, hup, hM8, hg8⟩ := m3.store (by have := hJ1.out.nb; unfold maxLen; omega) wf hwm
              have hne := hJ1.out.ne
              have hP8 := hS.2.map hg8 m3.isMap hne.2.2.1 hJ1.out.lo.2.2
              obtain ⟨_, _, u1⟩ := m1.isMap
              obtain ⟨_, _, u2⟩ := m2.isMap
              have s1 := m1.keep (hg8.block mw (heap_lt' u1) (fun e => by cases e; exact hne.2.2.2.2.1 rfl))
              have s2 := m2.keep (hg8.block mr (heap_lt' u2) (fun e => by cases e; exact hne.2.2.2.2.2 rfl))
              have hJ2 : Hid (JJ w w8 b hb (nH + 1) wv S' mw n1 val mr n2 ro mh (n3 + 1) (i + 1)) := Lib.hid ⟨hP8, hok'.out, by rw [hl'.out]; exact s1, s2, by rw [hh, hz]; exact hM8, by rw [hl'.out]; exact hJ1.out.vl, by rw [hl'.out]; exact hJ1.out.rl, by have := hJ1.out.nb; omega, hne, hJ1.out.lo⟩
              have hSme2 : Hid (S'.me = me) := Lib.hid (hme'.out.trans hSme)
              clear hS m1 m2 m3 hP8 hh hM8 hg8 u1 u2 s1 s2 hne hz
              replace hwz := Lib.hid hwz
              replace hwm := Lib.hid hwm
              have hWt := Lib.hid (Waits_calls hJ2.out.rd.rd)
              go_wp2_with fail
              refine hWt.out.mono ?_
              rintro y w9 ⟨rfl, hb9⟩
              have hJ9 := Lib.hid (hJ2.out.then hb9)
              have hlen := fun ty => hJ9.out.sm.len ty
              clear hb9 hWt
              go_wp2_with fail
              go_roundg k
              case measure => omega
              case rel => exact ⟨i + 1, _, _, rfl, rfl, by first | rfl | (rw [IntWalk.wrap64_in _ (by omega)]; rfl), by omega, by omega, _, _, _, _, _, _, _, _, hJ9.out, hSme2.out⟩
        · as_aux_lemma =>
          have d1b : (d == 1) = false := by simpa using d1
          by_cases d2 : d = 2
          · as_aux_lemma =>
            subst d2
            clear d0 d1
            have hD := Lib.hid (Ready_mine hJ1.out.rd hJ1.out.ok.ln hJ1.out.ok.my m)
            have hno : ¬ (wr.heap.size = b ∨ wv.ownBlock = some wr.heap.size) := by
              rintro (e | e)
              · have := hrl.out; omega
              · have := hrw.out _ e; omega
            have hwne : wr.heap.size ≠ mw := fun e => by have := hml.out.1; omega
            go_wp2_with fail
            generalize wr.alloc (.cells #[.int .i64 2, .int .u64 id, .int .u64 m, .int .i64 f, .slice pc xs.length cc] 35) = W5 at *
            refine hD.out.mono ?_
            clear hD
            rintro y w6 ⟨u, wv', rfl, hu, hR6, hs6, -⟩
            obtain ⟨m1, m2, m3⟩ := hJ1.out.maps hs6 (fun k hk => hk.elim .inl (fun h => .inr (.inr h)))
            replace a2 := stays_at (a := ⟨wr.heap.size, 2, none⟩) hs6 a2 hno
            obtain ⟨K, hK⟩ : ∃ K, (readyO S m).length = K := ⟨_, rfl⟩
            obtain ⟨pu, cu, hu', -⟩ := own_parts hu
            rw [hK] at hu'
            subst hu'
            have hok := Lib.hid hJ1.out.ok
            have hsb' : Hid (wr.heap.size ≠ mw) := Lib.hid hwne
            have hK256 : (K : Int) ≤ 256 := by have := ready_len S m; have := hJ1.out.ok.ln; omega
            clear a0 a1 a3 a4 hs6 hno hwne hrl hrh hrw hml hsz1 g0 g1 g2 g3 g4
            generalize wr.heap.size = sb at *
            replace hu := Lib.hid hu
            replace hR6 := Lib.hid hR6
            replace m1 := Lib.hid m1
            replace m2 := Lib.hid m2
            replace m3 := Lib.hid m3
            replace hK := Lib.hid hK
            go_wp2_with fail
            have hp0 : ∀ h : 0 < (readyO S m).length, (0 : Int) < (readyO S m)[0].r := fun h => by
              have := hok.out.rs _ (goes_parts (List.getElem_mem h)).1
              omega
            replace hp0 := Lib.hid hp0
            go_loopg [17, 18] (K + 1) (fun k v17 v18 A => ∃ (j : Nat) (la : Int), v17 = .int .u64 la ∧ v18 = .int .i64 (j : Int) ∧ j ≤ K ∧ K < j + k ∧ (∀ h : j < (readyO S m).length, la < (readyO S m)[j].r) ∧ SMap A mw n1 (S.l.length - j) (leftB S.l (readyO S m) j) val ∧ Stays (fun k => k = mw) w6 A)
            case atStart => exact ⟨0, 0, rfl, rfl, by omega, by omega, hp0.out, by rw [left_zero]; exact m1.out, Stays.of_below (Below.refl _ _)⟩
            case round => as_aux_lemma =>
              clear hp0
              obtain ⟨j, la, rfl, rfl, hj1, hj2, hla, hSM, hsA⟩ := hrel
              have hgA := Stays.grown hsA
              obtain ⟨_, _, u1⟩ := m1.out.isMap
              obtain ⟨_, _, u2⟩ := m2.out.isMap
              obtain ⟨_, _, u3⟩ := m3.out.isMap
              have q2 := m2.out.keep (hsA.block mr (heap_lt' u2) (fun e => hJ1.out.ne.2.2.2.1 e.symm))
              have q3 := m3.out.keep (hsA.block mh (heap_lt' u3) (fun e => hJ1.out.ne.2.2.2.2.1 e.symm))
              have hPA := hR6.out.map hgA m1.out.isMap hJ1.out.ne.1 hJ1.out.lo.1
              cases gk with
              | zero => omega
              | succ k2 =>
                by_cases hjK : j < K
                case neg => as_aux_lemma =>
                  have hd : decide ((j : Int) < (K : Int)) = false := by simp; omega
                  have hjj : j = K := by omega
                  have hlen2 := ready_len S m
                  have hJ2 : Hid (JJ w wr b hb nH wv' (readyS S m) mw n1 val mr n2 ro mh n3 (i + 1)) := by
                    have hK' := hK.out
                    rw [hjj, ← hK'] at hSM
                    rw [left_end hok.out m, show S.l.length - (readyO S m).length = (readyS S m).l.length by omega] at hSM
                    have hsub : ∀ e ∈ (readyS S m).l, e ∈ S.l := fun e he => (List.mem_filter.1 he).1
                    exact Lib.hid ⟨hPA, hok.out.ready m, hSM, q2, q3, fun e he => hJ1.out.vl e (hsub e he), fun e he => hJ1.out.rl e (hsub e he), by have := hJ1.out.nb; omega, hJ1.out.ne, hJ1.out.lo⟩
                  have hSme2 : Hid ((readyS S m).me = me) := Lib.hid hSme
                  clear hla hSM hsA hgA u1 u2 u3 q2 q3 hPA hlen2 hj1 hj2
                  have hWt := Lib.hid (Waits_calls hJ2.out.rd.rd)
                  go_wp2_with fail
                  refine hWt.out.mono ?_
                  rintro y w9 ⟨rfl, hb9⟩
                  have hJ9 := Lib.hid (hJ2.out.then hb9)
                  have hlen := fun ty => hJ9.out.sm.len ty
                  clear hb9 hWt
                  go_wp2_with fail
                  go_roundg k
                  case measure => omega
                  case rel => exact ⟨i + 1, _, _, rfl, rfl, by first | rfl | (rw [IntWalk.wrap64_in _ (by omega)]; rfl), by omega, by omega, _, _, _, _, _, _, _, _, hJ9.out, hSme2.out⟩
                case pos => as_aux_lemma =>
                  have hlt1 : (j : Int) < (K : Int) := by omega
                  have h0 : (0 : Int) ≤ (j : Int) := by omega
                  have hjl : j < (readyO S m).length := by have := hK.out; omega
                  have huA := own_keep hu.out (fun g hg => hsA.block g (own_block hu.out hg).2 (own_no_map hu.out m1.out.isMap hg))
                  obtain ⟨au, cu2, hue, z0, z1⟩ := own_get2 huA j hjl
                  rw [hK.out] at hue
                  injection hue with e1 e2 e3
                  subst e1 e3
                  have hmem := List.getElem_mem hjl
                  obtain ⟨p1, p2, p3⟩ := goes_parts hmem
                  obtain ⟨d', f', cv', hval, hN'⟩ := hJ1.out.vl _ p1
                  have hve := votes_enough p3
                  have hlat := left_at hok.out m j hjl
                  have hlk := hSM.look (hok.out.wf _ p1)
                  have hrl := hJ1.out.rl _ p1
                  have hla' := hla hjl
                  have hstep := left_step S.l (readyO S m) j hjl
                  have hmy := hok.out.my _ p1
                  have hwid := hok.out.wf _ p1
                  have hnext : ∀ h : j + 1 < (readyO S m).length, (readyO S m)[j].r < (readyO S m)[j + 1].r := fun h => by
                    have hs : (readyO S m).Sublist S.l := List.filter_sublist
                    have hp := hok.out.up.sublist hs
                    rw [List.pairwise_iff_getElem] at hp
                    exact hp j (j + 1) hjl h (by omega)
                  obtain ⟨e, he⟩ : ∃ e, (readyO S m)[j] = e := ⟨_, rfl⟩
                  rw [he] at z0 z1 p2 hval hN' hve hlat hlk hrl hla' hstep hmy hwid hnext
                  obtain ⟨id', x', r', c'⟩ := e
                  dsimp only at z0 z1 p2 hval hN' hve hlat hlk hrl hla' hstep hmy hwid hnext
                  obtain ⟨pv, cv2, hcv', -⟩ := hN'.parts
                  subst hcv'
                  rw [hlat, hval] at hlk
                  simp only [if_true] at hlk
                  have hcl : c'.length ≤ 7 := by simp [may] at hmy; omega
                  have hm19 := made1 wr #[.int .i64 d', .int .u64 id', .int .u64 x', .int .i64 f', .slice pv c'.length cv2] 35
                  dsimp only at hm19
                  obtain ⟨hE19, hB19, -⟩ := hm19
                  obtain ⟨x0, x1, x2, x3, x4, -⟩ := hE19.c5
                  have b2 := stays_at (a := ⟨sb, 2, none⟩) hsA a2 hsb'.out
                  replace b2 := (cell_below hB19 b2).trans b2
                  have y0 := (cell_below hB19 z0).trans z0
                  have y1 := (cell_below hB19 z1).trans z1
                  obtain ⟨_, _, v2⟩ := q2.isMap
                  have hlk2 := (q2.keep (hB19.block mr (heap_lt' v2))).look hwid
                  rw [hrl] at hlk2
                  have d1' : decide (m < x') = false := by simp; omega
                  have d2' : ¬ m < x' := by omega
                  have d3' : decide (r' ≤ la) = false := by simp; omega
                  have d4' : ¬ r' ≤ la := by omega
                  have hSMv := fun A (hl : Below wr.heap.size wr A) => hSM.keep (w' := A) (hl.block mw (by obtain ⟨_, _, u⟩ := hSM.isMap; exact heap_lt' u))
                  have hMHv := fun A (hl : Below wr.heap.size wr A) => q3.keep (w' := A) (hl.block mh (by obtain ⟨_, _, u⟩ := q3.isMap; exact heap_lt' u))
                  have hbA := Lib.hid hPA.below
                  have hsA' := Lib.hid hsA
                  have hlat' := Lib.hid hlat
                  replace hSMv := Lib.hid hSMv
                  replace hMHv := Lib.hid hMHv
                  replace hstep := Lib.hid hstep
                  replace hnext := Lib.hid hnext
                  replace hve := Lib.hid hve
                  replace hN' := Lib.hid hN'
                  replace hwid := Lib.hid hwid
                  replace hcl := Lib.hid hcl
                  replace hE19 := Lib.hid hE19
                  clear hla hlat hval hrl hla' p1 p2 p3 hmem he huA e2 hSM hsA hgA u1 u2 u3 v2 q2 q3 hPA hmy
                  go_wp2_with fail
                  go_quiet (fail)
                  have hBv := below_drewN hB19 nq
                  have w4 : ((wr.alloc (.cells #[.int .i64 d', .int .u64 id', .int .u64 x', .int .i64 f', .slice pv c'.length cv2] 35)).drewN nq).cell? ⟨wr.heap.size, 4, none⟩ = some (.slice pv c'.length cv2) := x4
                  have hSz := hSMv.out _ hBv
                  have hMz := hMHv.out _ hBv
                  have hbz := Lib.hid (Lx.bstep hbA.out (Nat.le_refl _) hBv)
                  have hsz := Lib.hid (stays_on hsA'.out hBv)
                  have zz0 := (cell_below hBv z0).trans z0
                  clear x0 x1 x2 x3 x4 b2 y0 y1 z0 z1 hlk hlk2 hSMv hMHv hBv hB19 hE19 hbA hsA' d1' d2' d3' d4'
                  generalize ((wr.alloc (.cells #[.int .i64 d', .int .u64 id', .int .u64 x', .int .i64 f', .slice pv c'.length cv2] 35)).drewN nq) = Wv at *
                  generalize wr.heap.size = eb at *
                  obtain ⟨i0, hi0, hz0, hz1, hz2⟩ := info_parts infoInt
                  obtain ⟨cl, hcln⟩ : ∃ cl, c'.length = cl := ⟨_, rfl⟩
                  rw [hcln] at w4 hcl
                  replace hcln := Lib.hid hcln
                  replace hcl := hcl.out
                  go_wp2_with fail
                  go_loopg [22, 23] (cl + 1) (fun k v22 v23 A => ∃ t : Nat, v23 = .int .i64 (t : Int) ∧ t ≤ cl ∧ cl < t + k ∧ A.ownsRow Wv.heap.size 3 1 v22 (me :: (c'.take t).filter (fun n => decide (r' ≤ S.h n))).length ((me :: (c'.take t).filter (fun n => decide (r' ≤ S.h n))).map fun x => .int .i64 x) ∧ Below Wv.heap.size Wv A)
                  case atStart => exact ⟨0, rfl, by omega, by omega, World.ownsRow_lit Wv #[.int .i64 me] 1 (Nat.le_refl _) (by unfold maxLen; omega) rfl, (Below.refl _ _).alloc (Nat.le_refl _) _⟩
                  case round => as_aux_lemma =>
                    obtain ⟨t, rfl, ht1, ht2, hown, hB⟩ := hrel
                    have w4b := (cell_below hB w4).trans w4
                    cases gk with
                    | zero => omega
                    | succ k3 =>
                      by_cases htl : t < cl
                      case pos => as_aux_lemma =>
                        have hlt3 : (t : Int) < (cl : Int) := by omega
                        have ht0 : (0 : Int) ≤ (t : Int) := by omega
                        have htc : t < c'.length := by have := hcln.out; omega
                        obtain ⟨p', c9, hpe, -, -, hcell⟩ := hN'.out.parts
                        injection hpe with e4 e5 e6
                        subst e4
                        obtain ⟨ac, hac, hca⟩ := hcell t htc
                        subst hac
                        have hbb := Lx.bstep hbz.out (Nat.le_refl _) hB
                        replace hca := (cell_below hbb hca).trans hca
                        have hwX := hN'.out.wf t htc
                        obtain ⟨_, _, um⟩ := hMz.isMap
                        have hlk3 := (hMz.keep (hB.block mh (heap_lt' um))).look hwX
                        have hst := filter_take (fun n => decide (r' ≤ S.h n)) c' t htc
                        have hsl := List.length_filter_le (fun n => decide (r' ≤ S.h n)) (c'.take t)
                        rw [List.length_take] at hsl
                        generalize c'.getD t 0 = X at *
                        generalize (c'.take t).filter (fun n => decide (r' ≤ S.h n)) = V at *
                        obtain ⟨z, hz⟩ : ∃ z, S.h X = z := ⟨_, rfl⟩
                        rw [hz] at hlk3 hst
                        have hV7 : V.length ≤ 7 := by omega
                        have hbs := hB.size
                        clear hcell e5 e6 um hbb
                        by_cases hx2 : r' ≤ z
                        · rw [decide_eq_true hx2, if_pos rfl] at hst
                          replace hst := Lib.hid hst
                          have hx2b : decide (r' ≤ z) = true := decide_eq_true hx2
                          go_wp2_with (at_builtin; refine wpList_append_own _ rfl (.tmp 196) (.tmp 202) 33 rfl Wv.heap.size 3 i0 (.int .i64 0) 1 8 Try.underlying33 hi0 hz0 hz1 hz2 rfl (by decide) _ _ _ rfl (hown.alloc _) ⟨wr.heap.size, 0, none⟩ 1 1 [.int .i64 X] rfl rfl (cell_one_new _ _ _) (by simp [Value.oneCell']) (by simp only [List.length_cons]; unfold maxLen; omega) (by simp only [List.length_cons]; omega) (by simp; omega) ?_; intro v' w9 hown3 hgrow3 _)
                          go_roundg k3
                          case measure => omega
                          case rel =>
                            refine ⟨t + 1, by go_num, by omega, by omega, ?_, (hB.alloc hB.size _).grown hgrow3 (by simp; omega) (fun j hj => (hown.lt j hj).1)⟩
                            rw [hst.out, ← List.cons_append, List.length_append, List.map_append]
                            exact hown3
                        · rw [decide_eq_false hx2, if_neg (by decide), List.append_nil] at hst
                          replace hst := Lib.hid hst
                          have hx2b : decide (r' ≤ z) = false := decide_eq_false hx2
                          go_wp2_with fail
                          go_roundg k3
                          case measure => omega
                          case rel =>
                            refine ⟨t + 1, by go_num, by omega, by omega, ?_, hB⟩
                            rw [hst.out]
                            exact hown
                      case neg => as_aux_lemma =>
                        have hd : decide ((t : Int) < (cl : Int)) = false := by simp; omega
                        have htk : c'.take t = c' := List.take_of_length_le (by have := hcln.out; omega)
                        rw [htk] at hown
                        have hwfm : ∀ x ∈ (me :: c'.filter fun n => decide (r' ≤ S.h n)), (Lit.int .i64 x).wf = true := fun x hx => by
                          rcases List.mem_cons.1 hx with rfl | hx
                          · exact wm.out
                          · exact hN'.out.2 x (List.mem_filter.1 hx).1
                        have hNv := Nums.own hown hwfm
                        have hbb := Lx.bstep hbz.out (Nat.le_refl _) hB
                        have hQ := rQuorum_calls u22 (.slice pv c'.length cv2) _ c' wr hNv (hN'.out.below hbb) (by have := hcln.out; omega)
                        rw [hcln.out] at hQ
                        have hq : quorum (me :: c'.filter fun n => decide (r' ≤ S.h n)) c' = true := by rw [← hSme]; exact hve.out
                        rw [hq] at hQ
                        obtain ⟨pu2, cu3, hu22, -⟩ := own_parts hown
                        generalize (me :: c'.filter fun n => decide (r' ≤ S.h n)).length = lv at hu22
                        subst hu22
                        have zb := (cell_below hB zz0).trans zz0
                        replace hQ := Lib.hid hQ
                        have hBB := Lib.hid hB
                        clear hown hNv hwfm htk ht1 ht2 hB hbb hq
                        go_wp2_with fail
                        refine hQ.out.mono ?_
                        clear hQ
                        rintro y w9 ⟨rfl, hb9⟩
                        have hb9' := Lx.bstep hBB.out (Nat.le_refl _) hb9
                        replace zb := (cell_below hb9 zb).trans zb
                        obtain ⟨_, _, us⟩ := hSz.isMap
                        have hlat : leftB S.l (readyO S m) j id' = true := hlat'.out
                        obtain ⟨w10, hdel, s10, hg10⟩ := (hSz.keep (hb9'.block mw (heap_lt' us))).drop hwid.out hlat
                        have hs10 := (stays_on hsz.out hb9').trans (Stays.of_grown (O := fun k => k = mw) hg10 (fun k hk _ => by cases hk; rfl)) (fun i _ h => h)
                        rw [hstep.out] at s10
                        rw [show S.l.length - j - 1 = S.l.length - (j + 1) by omega] at s10
                        clear hg10 us hb9 hb9' hlat
                        replace s10 := Lib.hid s10
                        replace hs10 := Lib.hid hs10
                        go_wp2_with fail
                        go_roundg k2
                        case measure => omega
                        case rel => exact ⟨j + 1, r', rfl, by go_num, by omega, by omega, hnext.out, s10.out, hs10.out⟩
          · as_aux_lemma =>
            have d2b : (d == 2) = false := by simpa using d2
            by_cases d3 : d = 3
            · as_aux_lemma =>
              subst d3
              clear d0 d1 d2 a1 a2 a3 a4
              have hD := Lib.hid (Drop_mine hJ1.out.rd hJ1.out.ok.ln)
              go_wp2_with fail
              refine hD.out.mono ?_
              clear hD
              rintro y w6 ⟨u, rfl, hu, hR6, hs6⟩
              obtain ⟨m1, m2, -⟩ := hJ1.out.maps hs6 (fun k hk => hk.elim .inl (fun h => .inr (.inl h)))
              obtain ⟨pu, cu, rfl, -⟩ := own_parts hu
              have hlen := fun ty => m1.len ty
              obtain ⟨_, _, u2⟩ := m2.isMap
              have hJ2 : Hid (JJ w ((w6.alloc (.map #[] 0)).alloc (.map #[] 0)) b hb 0 (.slice none 0 0) (dropS S) w6.heap.size 0 val mr n2 ro (w6.heap.size + 1) 0 (i + 1)) := by
                have hb1 : Below w6.heap.size w6 ((w6.alloc (.map #[] 0)).alloc (.map #[] 0)) := ((Below.refl _ _).alloc (Nat.le_refl _) _).alloc (by simp) _
                have hh := HMap.made (w6.alloc (.map #[] 0))
                rw [show (w6.alloc (Obj.map #[] 0)).heap.size = w6.heap.size + 1 by simp] at hh
                have hl := hR6.rd.hlt
                have hz := hR6.below.size
                have hm2 := heap_lt' u2
                have hne := hJ1.out.ne
                have hlo := hJ1.out.lo
                exact Lib.hid ⟨hR6.then hb1, hJ1.out.ok.drop, (SMap.made w6 val).keep (heap_alloc_old _ _ (by simp)), m2.keep (hb1.block mr hm2), hh, fun e he => (by simp [dropS] at he), fun e he => (by simp [dropS] at he), by have := hJ1.out.nb; omega, by omega, by omega⟩
              have hSme2 : Hid ((dropS S).me = me) := Lib.hid hSme
              clear hu hR6 hs6 m1 m2 u2
              have hWt := Lib.hid (Waits_calls hJ2.out.rd.rd)
              go_wp2_with fail
              refine hWt.out.mono ?_
              rintro y w9 ⟨rfl, hb9⟩
              have hJ9 := Lib.hid (hJ2.out.then hb9)
              have hlen := fun ty => hJ9.out.sm.len ty
              clear hb9 hWt
              go_wp2_with fail
              go_roundg k
              case measure => omega
              case rel => exact ⟨i + 1, _, _, rfl, rfl, by first | rfl | (rw [IntWalk.wrap64_in _ (by omega)]; rfl), by omega, by omega, _, _, _, _, _, _, _, _, hJ9.out, hSme2.out⟩
            · as_aux_lemma =>
              have d3b : (d == 3) = false := by simpa using d3
              clear d0 d1 d2 d3
              have hJ2 := Lib.hid hJ1.out.mono
              have hWt := Lib.hid (Waits_calls hJ2.out.rd.rd)
              go_wp2_with fail
              refine hWt.out.mono ?_
              rintro y w9 ⟨rfl, hb9⟩
              have hJ9 := Lib.hid (hJ2.out.then hb9)
              have hlen := fun ty => hJ9.out.sm.len ty
              clear hb9 hWt
              go_wp2_with fail
              go_roundg k
              case measure => omega
              case rel => exact ⟨i + 1, _, _, rfl, rfl, by first | rfl | (rw [IntWalk.wrap64_in _ (by omega)]; rfl), by omega, by omega, _, _, _, _, _, _, _, _, hJ9.out, hSme⟩
end Go.Proofs.Ytjjdfhokmiaekaa
