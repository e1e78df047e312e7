/-
  (*Disk).Crash.
-/
import Derived.Test.YtenjllkhbpoffaaDoorDskApp
import Derived.Test.YtenjllkhbpoffaaDoorDskCr
namespace Go.Proofs.YtenjllkhbpoffaaDoor
open Go Go.Maps Go.WideMaps Go.Dsk Go.Lx Go.Lst Go.RowKit

section
variable {w w1 : World} {O : Nat → Prop} {b bs bn : Nat} {lv cv : Value} {vs : List Value} {S N : Files} {l : List Lc} {room fuse : Int}
/-- What was sure is now: a copy of it. -/
theorem clone_step (hR : Rest w O b bs bn lv cv vs S N l l) (hb : Head w b bs bn lv cv room fuse) (hF : FM w1 w.heap.size S) (hB : Below w.heap.size w w1) :
    Head (w1.setCell ⟨b, 2, none⟩ (.map (some w.heap.size))) b bs w.heap.size lv cv room fuse ∧ Rest (w1.setCell ⟨b, 2, none⟩ (.map (some w.heap.size))) (Gr O w (w1.setCell ⟨b, 2, none⟩ (.map (some w.heap.size)))) b bs w.heap.size lv cv vs S S l l ∧ Stays O w (w1.setCell ⟨b, 2, none⟩ (.map (some w.heap.size))) := by
  have hob := hR.own b (.inl rfl)
  have hlt := hR.lo b hob
  have hb1 : Head w1 b bs bn lv cv room fuse := (hB.block b hlt).trans hb
  have hst : Stays O w (w1.setCell ⟨b, 2, none⟩ (.map (some w.heap.size))) := (Stays.of_below (O := O) hB).setCell (p := ⟨b, 2, none⟩) (fun _ => hob) _
  have hset : ∀ k, k ≠ b → (w1.setCell ⟨b, 2, none⟩ (.map (some w.heap.size))).heap[k]? = w1.heap[k]? := fun k hk => Below.heap_setCell _ _ _ _ (fun e => hk (by cases e; rfl))
  have hsz : (w1.setCell ⟨b, 2, none⟩ (.map (some w.heap.size))).heap.size = w1.heap.size := by simp
  have hall : ∀ k, O k → k ≠ b → (w1.setCell ⟨b, 2, none⟩ (.map (some w.heap.size))).heap[k]? = w.heap[k]? := fun k hO hn => (hset k hn).trans (hB.block k (hR.lo k hO))
  have hbs := hR.sure.lt
  refine ⟨heap_put (cs := [.int .i64 room, .map (some bs), .map (some bn), lv, cv, .int .i64 fuse]) hb1 2 _, ⟨?_, ?_, by omega, ?_, ?_, ?_, ?_, Gr.lo hR.lo hst.size⟩, hst⟩
  · exact hR.sure.keep (hall _ (hR.own _ (.inr (.inl rfl))) (hb.nemap hR.sure))
  · exact hF.keep (hset _ (by omega))
  · exact own_keep hR.row (fun k hk => hall k (hR.own _ (.inr (.inr (.inr (.inl hk))))) (own_ne hR.row hb (by decide) k hk))
  · exact own_keep hR.cuts (fun k hk => hall k (hR.own _ (.inr (.inr (.inr (.inr hk))))) (own_ne hR.cuts hb (by decide) k hk))
  · intro j h1 h2
    refine (hR.calls j h1 h2).keep (fun k hU => hall k hU.1 (fun e => hU.2 (.inl e))) (fun k hU => ⟨.inl hU.1, fun h => hU.2 ?_⟩)
    rcases h with h | h | h | h | h
    · exact .inl h
    · exact .inr (.inl h)
    · have := hR.lo k hU.1; omega
    · exact .inr (.inr (.inr (.inl h)))
    · exact .inr (.inr (.inr (.inr h)))
  · intro k hk
    rcases hk with h | h | h | h | h
    · exact .inl (hR.own k (.inl h))
    · exact .inl (hR.own k (.inr (.inl h)))
    · subst h; exact .inr ⟨Nat.le_refl _, by rw [hsz]; exact hF.lt⟩
    · exact .inl (hR.own k (.inr (.inr (.inr (.inl h)))))
    · exact .inl (hR.own k (.inr (.inr (.inr (.inr h)))))
end
set_option maxRecDepth 100000 in
theorem Crash_nil (w : World) (c y : Int) : Calls Tryd.prog 18 #[.pointer none, .int .i64 c, .int .i64 y] w fun e w' => e = .returned (.int .i64 1) ∧ w = w' := by
  go_enter Tryd.func18, Tryd.ntmps18
  go_wp2_with fail
  go_ret
  exact ⟨rfl, rfl⟩
set_option maxRecDepth 100000 in
set_option maxHeartbeats 4000000 in
theorem Crash_calls {w : World} {O : Nat → Prop} {b : Nat} {M : DM} (h : Dk w O b M) (c y : Int) (hl : M.loose.length < 1000000) :
    Calls Tryd.prog 18 #[.pointer (some ⟨b, 0, none⟩), .int .i64 c, .int .i64 y] w fun e w' => e = .returned (.int .i64 0) ∧ Dk w' (Gr O w w') b (crashM M c y) ∧ Stays O w w' := by
  obtain ⟨bs, bn, lv, cv, vs, h⟩ := h
  have hmn := fun A => eql_files_nil A bn
  have hC := Lib.hid (Clone_calls h.rest.sure)
  have q1 := h.c6.2.1
  have q2 := h.c6.2.2.1
  have hH := Lib.hid h
  have hmx : Hid (DOk (crashM M c y)) := Lib.hid (crash_ok h.ok c y)
  clear h
  replace hl := Lib.hid hl
  go_enter Tryd.func18, Tryd.ntmps18
  go_wp2_with fail
  refine hC.out.mono ?_
  rintro e w1 ⟨rfl, hF, hB⟩
  have hb1 : Head w1 b bs bn lv cv M.room M.fuse := (hB.block b (hH.out.rest.lo b (hH.out.rest.own b (.inl rfl)))).trans hH.out.blk
  have g2 := hb1.blk.cell 2 rfl
  have f2 := hb1.blk.frz 2
  have g3 := hb1.blk.cell 3 rfl
  have hD := Lib.hid (clone_step hH.out.rest hH.out.blk hF hB)
  clear hC q1 q2 hmn hF hB hb1
  have hlen : Hid (vs.length = M.loose.length) := Lib.hid (by simpa using hH.out.rest.row.1)
  obtain ⟨pl, cl, elv, -, -, -⟩ := Lst.own hH.out.rest.row
  rw [hlen.out] at elv
  obtain ⟨n, hn⟩ : ∃ n, M.loose.length = n := ⟨_, rfl⟩
  have hn9 : n ≤ 1000000 := by have := hl.out; omega
  rw [hn] at elv
  subst elv
  replace hn := Lib.hid hn
  go_wp2_with fail
  have hst := Lib.hid hD.out.2.2
  have hR0 := Lib.hid hD.out.2.1
  have hb0 := Lib.hid hD.out.1
  clear hD g2 f2 g3
  generalize hbn : w.heap.size = bn' at *
  generalize hW : w1.setCell ⟨b, 2, none⟩ (.map (some bn')) = W at *
  clear hW
  go_loopg [31] (n + 1) (fun g v31 A => ∃ i : Nat, i ≤ n ∧ n < i + g ∧ v31 = .int .i64 (i : Int) ∧ Rest A (Gr O w W) b bs bn' (.slice pl n cl) cv vs M.sure (crashAt M.sure M.loose c y i) M.loose M.loose ∧ Head A b bs bn' (.slice pl n cl) cv M.room M.fuse ∧ Stays (fun k => k = bn') W A)
  case atStart => exact ⟨0, by omega, by omega, rfl, by rw [crash_zero]; exact hR0.out, hb0.out, Stays.of_below (Below.refl _ _)⟩
  case round =>
    obtain ⟨i, hi, hg, rfl, hR, hb, hsA⟩ := hrel
    cases gk with
    | zero => omega
    | succ g =>
    have g2 := hb.blk.cell 2 rfl
    have g4 := hb.blk.cell 4 rfl
    by_cases hlt : i < n
    case neg =>
      have hd : decide (i < n) = false := decide_eq_false hlt
      have he : Hid (crashAt M.sure M.loose c y i = crashN M.sure M.loose c y) := Lib.hid (by
        unfold crashN
        rw [show i = M.loose.length by rw [hn.out]; omega])
      rw [he.out] at hR
      have hC2 := Lib.hid (settle_calls hb hR)
      replace hsA := Lib.hid hsA
      clear hi hg hlt hR hb g2 g4
      go_wp2_with fail
      refine hC2.out.mono ?_
      rintro e w5 ⟨rfl, bs', hb5, hR5, hs5⟩
      have g5 := hb5.blk.cell 5 rfl
      have f5 := hb5.blk.frz 5
      replace hb5 := Lib.hid hb5
      replace hR5 := Lib.hid hR5
      replace hs5 := Lib.hid hs5
      clear hC2
      go_wp2_with fail
      go_ret
      have hh := heap_put (cs := [.int .i64 M.room, .map (some bs'), .map (some bn'), .slice none 0 0, .slice none 0 0, .int .i64 M.fuse]) hb5.out 5 (.int .i64 (-1))
      have hst6 := stays_put (O := fun k => k = b) w5 b 5 rfl (.int .i64 (-1))
      have hR6 := hR5.out.keep (w' := w5.setCell ⟨b, 5, none⟩ (.int .i64 (-1))) (fun k hO hn => hst6.block k (hR5.out.lo k hO) hn) hst6.size hb5.out
      have hob : O b := hH.out.rest.own b (.inl rfl)
      have hbnO : Gr O w W bn' := hR5.out.own bn' (.inr (.inr (.inl rfl))) |>.elim id (fun h => by
        have := hR0.out.own bn' (.inr (.inr (.inl rfl)))
        exact this)
      have a1 := hst.out.size
      have a2 := hsA.out.size
      have a3 := hs5.out.size
      have a4 : (w5.setCell ⟨b, 5, none⟩ (.int .i64 (-1))).heap.size = w5.heap.size := by simp
      have e1 : Stays O w wr := hst.out.trans hsA.out (fun k hk e => by subst e; exact hbnO.elim id (fun h => by omega))
      have e2 : Stays O w w5 := e1.trans hs5.out (fun k hk e => e.elim id (fun h => by omega))
      have e3 : Stays O w (w5.setCell ⟨b, 5, none⟩ (.int .i64 (-1))) := e2.setCell (p := ⟨b, 5, none⟩) (fun _ => hob) _
      have hfin : DkAt (w5.setCell ⟨b, 5, none⟩ (.int .i64 (-1))) (Gr (Gr O w W) wr w5) b bs' bn' (.slice none 0 0) (.slice none 0 0) [] (crashM M c y) := ⟨hh, hR6, hmx.out⟩
      refine ⟨rfl, ⟨_, _, _, _, _, hfin.grow (fun k hk => ?_) (Gr.lo hH.out.rest.lo e3.size)⟩, e3⟩
      rcases hk with (h | h) | h
      · exact .inl h
      · exact .inr ⟨by omega, by omega⟩
      · exact .inr ⟨by omega, by omega⟩
    case pos =>
      have hd : decide (i < n) = true := decide_eq_true hlt
      have hil : i < M.loose.length := by rw [hn.out]; exact hlt
      have hvl : i < vs.length := by rw [hlen.out]; exact hil
      have hcall := hR.calls i hvl hil
      obtain ⟨p1, c1, e1, -, -, hcell⟩ := Lst.own hR.row
      obtain ⟨a, e2, hca⟩ := hcell i hvl
      subst e2
      obtain rfl : pl = some a := by injection e1
      clear e1
      obtain ⟨p2, c2, e3, -, -, hcell2⟩ := Lst.own hR.cuts
      obtain ⟨a2, e4, hca2⟩ := hcell2 i (by simpa using hil)
      subst e4
      rw [List.length_map, hn.out] at e3
      subst e3
      rw [List.getElem_map] at hca2
      have hfit := hH.out.ok.fit i M.loose[i] (List.getElem?_eq_getElem hil)
      have hsm := hH.out.ok.small (i + 1) hil
      have hrm := hH.out.ok.room
      rw [all_take_succ M.sure M.loose i hil] at hsm
      have hl0 := (hH.out.ok.small i (Nat.le_of_lt hil)).2
      clear hcell hcell2
      replace hsA := Lib.hid hsA
      by_cases c1 : (i : Int) < c
      · obtain ⟨hN, hF⟩ := crash_lt (S := M.sure) (by_ := y) hil c1
        rw [hF] at hR hN
        replace hN := Lib.hid hN
        have c1b : decide ((i : Int) < c) = true := decide_eq_true c1
        generalize all M.sure (M.loose.take i) = F at *
        generalize hv : vs[i] = v at *
        generalize hx : M.loose[i] = x at *
        clear hv hx g4 hca2 hF c1
        cases x with
        | app k s =>
          have hx : (atF F k ++ s).size ≤ tot (done F (.app k s)) := by
            have := tot_at (rise_put hR.now.rise k (atF F k ++ s)) k
            rw [at_put, if_pos rfl] at this
            exact this
          rw [ByteArray.size_append] at hx
          obtain ⟨b1, b2, rfl, z1, z2, -, -⟩ := hcall
          have hC := app_calls hR.now (by unfold maxLen; omega) k s hfit (by unfold maxLen; omega) 1099511627776 (by omega) b1 b2 z1 z2
          rw [show (min (1099511627776 : Int) (s.size : Int)).toNat = s.size by omega, ext_all] at hC
          replace hC := Lib.hid hC
          clear hx z1 z2 hfit hsm
          have hR9 := Lib.hid hR
          have hb9 := Lib.hid hb
          clear hR hb
          go_wp2_with fail
          refine hC.out.mono ?_
          rintro e A2 ⟨rfl, hF2, hs2⟩
          have hT := Lib.hid (hR9.out.turn hb9.out hF2 hs2)
          replace hs2 := Lib.hid hs2
          clear hF2 hC
          go_wp2_with fail
          go_roundg g
          case measure => omega
          case rel => exact ⟨i + 1, by omega, by omega, by go_num, by rw [hN.out]; exact hT.out.1, hT.out.2, hsA.out.trans hs2.out (fun _ _ h => h)⟩
        | cut k m =>
          obtain ⟨b1, b2, rfl, z1, z2, -, -⟩ := hcall
          have hC := cut_calls hR.now (by unfold maxLen; omega) k hfit.1 m hfit.2.1 1099511627776 b1 b2 z1 z2
          replace hC := Lib.hid hC
          clear z1 z2 hfit hsm
          have hR9 := Lib.hid hR
          have hb9 := Lib.hid hb
          clear hR hb
          go_wp2_with fail
          refine hC.out.mono ?_
          rintro e A2 ⟨rfl, hF2, hs2⟩
          have hT := Lib.hid (hR9.out.turn hb9.out hF2 hs2)
          replace hs2 := Lib.hid hs2
          clear hF2 hC
          go_wp2_with fail
          go_roundg g
          case measure => omega
          case rel => exact ⟨i + 1, by omega, by omega, by go_num, by rw [hN.out]; exact hT.out.1, hT.out.2, hsA.out.trans hs2.out (fun _ _ h => h)⟩
        | ren k t =>
          obtain ⟨b1, b2, rfl, z1, z2, -, -⟩ := hcall
          have hC := ren_calls hR.now (by unfold maxLen; omega) k t hfit.1 hfit.2.1 1099511627776 b1 b2 z1 z2
          replace hC := Lib.hid hC
          clear z1 z2 hfit hsm
          have hR9 := Lib.hid hR
          have hb9 := Lib.hid hb
          clear hR hb
          go_wp2_with fail
          refine hC.out.mono ?_
          rintro e A2 ⟨rfl, hF2, hs2⟩
          have hT := Lib.hid (hR9.out.turn hb9.out hF2 hs2)
          replace hs2 := Lib.hid hs2
          clear hF2 hC
          go_wp2_with fail
          go_roundg g
          case measure => omega
          case rel => exact ⟨i + 1, by omega, by omega, by go_num, by rw [hN.out]; exact hT.out.1, hT.out.2, hsA.out.trans hs2.out (fun _ _ h => h)⟩
        | rem k =>
          obtain ⟨b1, rfl, z1, -⟩ := hcall
          have hC := rem_calls hR.now k hfit 1099511627776 b1 z1
          replace hC := Lib.hid hC
          clear z1 hfit hsm
          have hR9 := Lib.hid hR
          have hb9 := Lib.hid hb
          clear hR hb
          go_wp2_with fail
          refine hC.out.mono ?_
          rintro e A2 ⟨rfl, hF2, hs2⟩
          have hT := Lib.hid (hR9.out.turn hb9.out hF2 hs2)
          replace hs2 := Lib.hid hs2
          clear hF2 hC
          go_wp2_with fail
          go_roundg g
          case measure => omega
          case rel => exact ⟨i + 1, by omega, by omega, by go_num, by rw [hN.out]; exact hT.out.1, hT.out.2, hsA.out.trans hs2.out (fun _ _ h => h)⟩
      have c1b : decide ((i : Int) < c) = false := decide_eq_false c1
      by_cases c2 : (i : Int) = c
      · obtain ⟨hN, hF⟩ := crash_eq (S := M.sure) (by_ := y) hil c2
        rw [hF] at hR hN
        have c2b : ((i : Int) == c) = true := by simpa using c2
        generalize all M.sure (M.loose.take i) = F at *
        generalize hv : vs[i] = v at *
        generalize hx : M.loose[i] = x at *
        clear hv hx hF c1
        by_cases hfl : flag x = 1
        · obtain ⟨k, s, rfl⟩ := flag_app hfl
          replace hN := Lib.hid hN
          have hx : (atF F k ++ s).size ≤ tot (done F (.app k s)) := by
            have := tot_at (rise_put hR.now.rise k (atF F k ++ s)) k
            rw [at_put, if_pos rfl] at this
            exact this
          rw [ByteArray.size_append] at hx
          obtain ⟨b1, b2, rfl, z1, z2, -, -⟩ := hcall
          have hC := app_calls hR.now (by unfold maxLen; omega) k s hfit (by unfold maxLen; omega) (max y 0) (by omega) b1 b2 z1 z2
          replace hC := Lib.hid hC
          replace c2 := Lib.hid c2
          unfold flag at hca2
          dsimp only at hca2
          clear hx z1 z2 hfit hsm hfl
          have hR9 := Lib.hid hR
          have hb9 := Lib.hid hb
          clear hR hb
          go_wp2_with fail
          refine hC.out.mono ?_
          rintro e A2 ⟨rfl, hF2, hs2⟩
          have hT := Lib.hid (hR9.out.turn hb9.out hF2 hs2)
          replace hs2 := Lib.hid hs2
          clear hF2 hC
          go_wp2_with fail
          go_roundg g
          case measure => omega
          case rel => exact ⟨i + 1, by omega, by omega, by go_num, by rw [hN.out]; exact hT.out.1, hT.out.2, hsA.out.trans hs2.out (fun _ _ h => h)⟩
        · have hflb : (flag x == 1) = false := by simpa using hfl
          rw [part_flag hfl] at hN
          replace hN := Lib.hid hN
          have hR9 := Lib.hid hR
          have hb9 := Lib.hid hb
          replace c2 := Lib.hid c2
          generalize flag x = fl at *
          clear hR hb hfl hcall hfit hsm
          go_wp2_with fail
          go_roundg g
          case measure => omega
          case rel => exact ⟨i + 1, by omega, by omega, by go_num, by rw [hN.out]; exact hR9.out, hb9.out, hsA.out⟩
      · have c2b : ((i : Int) == c) = false := by simpa using c2
        have hN := Lib.hid (crash_gt (S := M.sure) (l := M.loose) (c := c) (by_ := y) (i := i) (by omega))
        have hR9 := Lib.hid hR
        have hb9 := Lib.hid hb
        clear hR hb hcall hfit hsm c1 c2 hca2 g4
        go_wp2_with fail
        go_roundg g
        case measure => omega
        case rel => exact ⟨i + 1, by omega, by omega, by go_num, by rw [hN.out]; exact hR9.out, hb9.out, hsA.out⟩
end Go.Proofs.YtenjllkhbpoffaaDoor
