/-
  (*Log).Append, once more: blocks that nobody writes stay.
-/
import Derived.Test.YtkjfplkbgooflaaAppend
import Derived.Test.YtkjfplkbgooflaaPut
namespace Go.Proofs.Ytkjfplkbgooflaa
open Go Go.RowKit Go.Lst Go.Lx

set_option maxRecDepth 100000 in
set_option maxHeartbeats 2000000 in
theorem Append_calls2 {B B0 : Nat} {w : World} {b : Nat} {cv lv : Value} {L : LogS} (h : LogAt B B0 w b cv lv L) (ok : LogOk L) (e : Ent) (ev : Value) (he : Nums .i64 w ev e.c) :
    Calls Try.prog 9 #[.pointer (some ⟨b, 0, none⟩), entV e ev] w fun y w' => y = .returned (.int .i64 (appendE L e)) ∧ ∃ lv', LogAt B B0 w' b cv lv' (appendL L e) ∧ Stays (fun k => k = b ∨ lv.ownBlock = some k) w w' ∧ Calms B w w' ∧ (∀ k, lv'.ownBlock = some k → lv.ownBlock = some k ∨ w.heap.size ≤ k) ∧ (appendE L e ≠ 0 → Below w.heap.size w w') := by
  have C1 := Lib.hid (fun w' hb => Last_calls (h.below (w' := w') hb))
  have C2 := Lib.hid (fun w' hb => made_calls (h.below (w' := w') hb))
  have C3 := Lib.hid (fun w' hb => MayEntry_calls e ev w' (he.below (w' := w') hb))
  have C4 := Lib.hid (fun (hm : mayE e = true) w' hb => own_calls B e ev w' (he.below (w' := w') hb) (by have := mayE_len hm; omega))
  have hlast := ok.last
  have hi0 := ok.i0
  have hsz := h.sz
  obtain ⟨r, hr⟩ : ∃ r, appendE L e = r := ⟨_, rfl⟩
  obtain ⟨L', hL'⟩ : ∃ L', appendL L e = L' := ⟨_, rfl⟩
  unfold appendL at hL'
  rw [hr] at hL' ⊢
  unfold appendL
  rw [hr, hL']
  unfold appendE at hr
  obtain ⟨LA, hLA⟩ : ∃ LA, lastOf L = LA := ⟨_, rfl⟩
  rw [hLA] at hr C1 hlast
  have W1 : IntKind.u64.wrap (LA.1 + 1) = LA.1 + 1 := by rw [IntKind.wrap_u64]; omega
  obtain ⟨p, c, hlv, hlc, hcm, -⟩ := h.row.ents
  obtain ⟨pe, ce, hev, -⟩ := he.parts
  have hH := Lib.hid h
  obtain ⟨mE, hmE⟩ : ∃ mE, mayE e = mE := ⟨_, rfl⟩
  rw [hmE] at hr C3
  obtain ⟨ei, et, ek, es, ec⟩ := e
  unfold entV at *
  dsimp only at *
  have same : ∀ {w' : World}, Below w.heap.size w w' → ∃ lv', LogAt B B0 w' b cv lv' L ∧ Stays (fun k => k = b ∨ lv.ownBlock = some k) w w' ∧ Calms B w w' ∧ (∀ k, lv'.ownBlock = some k → lv.ownBlock = some k ∨ w.heap.size ≤ k) ∧ (r ≠ 0 → Below w.heap.size w w') :=
    fun {_} hb => ⟨lv, hH.out.below hb, Stays.of_below hb, Calms.below hb, fun k hk => .inl hk, fun _ => hb⟩
  replace same := @Lib.hid _ @same
  have hm1 := made1 w #[.int .u64 ei, .int .u64 et, .int .u8 ek, .string es, ev] 31
  dsimp only at hm1
  subst hev
  cases mE with
  | false =>
    rw [if_pos rfl] at hr
    subst hr
    rw [if_neg (by decide)] at hL'
    subst hL'
    clear h ok hlast hlv hi0 hsz W1 hlc hcm he
    go_enter Try.func9, Try.ntmps9
    go_wp2_with fail
    generalize (w.alloc (.cells #[.int .u64 ei, .int .u64 et, .int .u8 ek, .string es, .slice pe ec.length ce] 31)) = W at *
    obtain ⟨hE, hB, hz⟩ := hm1
    ((with_reducible refine (C1.out _ hB).mono ?_); rintro y w1 ⟨rfl, hb1⟩)
    replace hE := Lib.hid (hE.below hb1)
    replace hB := Lx.bstep hB (Nat.le_refl _) hb1
    go_wp2_with fail
    ((with_reducible refine (C2.out _ hB).mono ?_); rintro y w2 ⟨rfl, rfl⟩)
    obtain ⟨a0, a1, a2, a3, a4, -⟩ := hE.out.c5
    go_wp2_with fail
    ((with_reducible refine (C3.out _ hB).mono ?_); rintro y w2 ⟨rfl, hb2⟩)
    replace hE := Lib.hid (hE.out.below hb2)
    replace hB := Lx.bstep hB (Nat.le_refl _) hb2
    clear a0 a1 a2 a3 a4 hb1 hb2
    go_wp2_with fail
    go_ret
    exact ⟨rfl, same.out hB⟩
  | true =>
  rw [if_neg (by decide)] at hr
  by_cases c1 : ei = LA.1 + 1
  case neg =>
    rw [if_pos (.inl c1)] at hr
    subst hr
    rw [if_neg (by decide)] at hL'
    subst hL'
    have c1b : (ei != LA.1 + 1) = true := by simpa using c1
    clear h ok hlast hlv hi0 hsz hlc hcm he c1
    go_enter Try.func9, Try.ntmps9
    go_wp2_with fail
    generalize (w.alloc (.cells #[.int .u64 ei, .int .u64 et, .int .u8 ek, .string es, .slice pe ec.length ce] 31)) = W at *
    obtain ⟨hE, hB, hz⟩ := hm1
    ((with_reducible refine (C1.out _ hB).mono ?_); rintro y w1 ⟨rfl, hb1⟩)
    replace hE := Lib.hid (hE.below hb1)
    replace hB := Lx.bstep hB (Nat.le_refl _) hb1
    go_wp2_with fail
    ((with_reducible refine (C2.out _ hB).mono ?_); rintro y w2 ⟨rfl, rfl⟩)
    obtain ⟨a0, a1, a2, a3, a4, -⟩ := hE.out.c5
    go_wp2_with fail
    ((with_reducible refine (C3.out _ hB).mono ?_); rintro y w2 ⟨rfl, hb2⟩)
    replace hE := Lib.hid (hE.out.below hb2)
    replace hB := Lx.bstep hB (Nat.le_refl _) hb2
    clear a0 a1 a2 a3 a4 hb1 hb2
    obtain ⟨a0, a1, a2, a3, a4, -⟩ := hE.out.c5
    go_wp2_with fail
    go_ret
    exact ⟨rfl, same.out hB⟩
  have c1b : (ei != LA.1 + 1) = false := by simpa using c1
  by_cases c2 : et < LA.2
  · rw [if_pos (.inr c2)] at hr
    subst hr
    rw [if_neg (by decide)] at hL'
    subst hL'
    clear h ok hlast hlv hi0 hsz hlc hcm he c1
    go_enter Try.func9, Try.ntmps9
    go_wp2_with fail
    generalize (w.alloc (.cells #[.int .u64 ei, .int .u64 et, .int .u8 ek, .string es, .slice pe ec.length ce] 31)) = W at *
    obtain ⟨hE, hB, hz⟩ := hm1
    ((with_reducible refine (C1.out _ hB).mono ?_); rintro y w1 ⟨rfl, hb1⟩)
    replace hE := Lib.hid (hE.below hb1)
    replace hB := Lx.bstep hB (Nat.le_refl _) hb1
    go_wp2_with fail
    ((with_reducible refine (C2.out _ hB).mono ?_); rintro y w2 ⟨rfl, rfl⟩)
    obtain ⟨a0, a1, a2, a3, a4, -⟩ := hE.out.c5
    go_wp2_with fail
    ((with_reducible refine (C3.out _ hB).mono ?_); rintro y w2 ⟨rfl, hb2⟩)
    replace hE := Lib.hid (hE.out.below hb2)
    replace hB := Lx.bstep hB (Nat.le_refl _) hb2
    clear a0 a1 a2 a3 a4 hb1 hb2
    obtain ⟨a0, a1, a2, a3, a4, -⟩ := hE.out.c5
    go_wp2_with fail
    go_ret
    exact ⟨rfl, same.out hB⟩
  rw [if_neg (by omega)] at hr
  by_cases c3 : 4096 ≤ L.l.length
  · rw [if_pos c3] at hr
    subst hr
    rw [if_neg (by decide)] at hL'
    subst hL'
    have c3b : (4096 : Int) ≤ (L.l.length : Int) := by omega
    clear h ok hlast hi0 hsz hlc hcm he c1
    go_enter Try.func9, Try.ntmps9
    go_wp2_with fail
    generalize (w.alloc (.cells #[.int .u64 ei, .int .u64 et, .int .u8 ek, .string es, .slice pe ec.length ce] 31)) = W at *
    obtain ⟨hE, hB, hz⟩ := hm1
    ((with_reducible refine (C1.out _ hB).mono ?_); rintro y w1 ⟨rfl, hb1⟩)
    replace hE := Lib.hid (hE.below hb1)
    replace hB := Lx.bstep hB (Nat.le_refl _) hb1
    go_wp2_with fail
    ((with_reducible refine (C2.out _ hB).mono ?_); rintro y w2 ⟨rfl, rfl⟩)
    obtain ⟨a0, a1, a2, a3, a4, -⟩ := hE.out.c5
    go_wp2_with fail
    ((with_reducible refine (C3.out _ hB).mono ?_); rintro y w2 ⟨rfl, hb2⟩)
    replace hE := Lib.hid (hE.out.below hb2)
    replace hB := Lx.bstep hB (Nat.le_refl _) hb2
    clear a0 a1 a2 a3 a4 hb1 hb2
    obtain ⟨a0, a1, a2, a3, a4, -⟩ := hE.out.c5
    have hb3 := (hH.out.below hB).isBlk
    rw [hlv] at hb3
    obtain ⟨q0, q1, q2, q3, -⟩ := hb3.c4
    go_wp2_with fail
    go_ret
    exact ⟨rfl, same.out hB⟩
  rw [if_neg c3] at hr
  subst hr
  rw [if_pos rfl] at hL'
  subst hL'
  have c3b : decide ((4096 : Int) ≤ (L.l.length : Int)) = false := by simp; omega
  clear h ok hlast hi0 hsz hlc hcm c1 same
  go_enter Try.func9, Try.ntmps9
  go_wp2_with fail
  generalize (w.alloc (.cells #[.int .u64 ei, .int .u64 et, .int .u8 ek, .string es, .slice pe ec.length ce] 31)) = W at *
  obtain ⟨hE, hB, hz⟩ := hm1
  ((with_reducible refine (C1.out _ hB).mono ?_); rintro y w1 ⟨rfl, hb1⟩)
  replace hE := Lib.hid (hE.below hb1)
  replace hB := Lx.bstep hB (Nat.le_refl _) hb1
  go_wp2_with fail
  ((with_reducible refine (C2.out _ hB).mono ?_); rintro y w2 ⟨rfl, rfl⟩)
  obtain ⟨a0, a1, a2, a3, a4, -⟩ := hE.out.c5
  go_wp2_with fail
  ((with_reducible refine (C3.out _ hB).mono ?_); rintro y w2 ⟨rfl, hb2⟩)
  replace hE := Lib.hid (hE.out.below hb2)
  replace hB := Lx.bstep hB (Nat.le_refl _) hb2
  clear a0 a1 a2 a3 a4 hb1 hb2
  obtain ⟨a0, a1, a2, a3, a4, -⟩ := hE.out.c5
  have hLA2 := Lib.hid (hH.out.below hB)
  have hb3 := hLA2.out.isBlk
  rw [hlv] at hb3
  obtain ⟨q0, q1, q2, q3, -⟩ := hb3.c4
  go_wp2_with fail
  have hLW := hLA2.out
  clear hLA2 C1 C2 C3 hE hb3
  have hsl := (LogAt.lt hLW)
  have hlE : lv.ownBlock ≠ some w.heap.size := fun e => by have := hH.out.row.lt _ e; omega
  have k3 := fun x : Cls (OnlyRow lv w2) => x.is.cell q3 hLW.nb
  have k0 := fun x : Cls (OnlyRow lv w2) => x.is.cell a0 hlE
  have k1 := fun x : Cls (OnlyRow lv w2) => x.is.cell a1 hlE
  have k2 := fun x : Cls (OnlyRow lv w2) => x.is.cell a2 hlE
  have k4 := fun x : Cls (OnlyRow lv w2) => x.is.cell a3 hlE
  have k5 := fun x : Cls (OnlyRow lv w2) => x.is.cell a4 hlE
  have hnon2 : Nonempty (Cls (OnlyRow lv w2)) := ⟨⟨_, OnlyRow.refl _ _⟩⟩
  have hB0 := hLW.lo
  replace he := Lib.hid he
  replace hB := Lib.hid hB
  replace C4 := Lib.hid C4
  replace hLW := Lib.hid hLW
  replace c2 := Lib.hid c2
  replace c3 := Lib.hid c3
  replace hB0 := Lib.hid hB0
  replace hsl := Lib.hid hsl
  replace hlv := Lib.hid hlv
  refine Lx.wp_region_chain_tail (fun w' => ∃ x : Cls (OnlyRow lv w2), w' = x.wo) (fun _ => False) [6, 7, 8] [] 11 (fun w' => Below w2.heap.size w2 w') (by kernel_rfl) (by kernel_rfl) (by kernel_rfl) (by kernel_rfl) (cls_of (OnlyRow.drew _ _)) ((Below.refl _ _).drew) ?_
  simp only [List.take_succ_cons, List.take_zero, List.drop_succ_cons, List.drop_zero]
  repeat (refine Lx.wpCh_one (by rfl) (by rfl) ?_; go_big_quiet_step (fail); refine wpQuiet_nil ?_)
  clear k0 k1 k2 k3 k4 k5
  have hne : ∃ w', ∃ x : Cls (OnlyRow lv w2), w' = x.wo := ⟨_, cls_of (OnlyRow.refl _ _)⟩
  have hrw := Lib.hid (show Rw B B0 w2 (.slice p L.l.length c) L.l by rw [← hlv.out]; exact hLW.out.row)
  refine Lx.wpCh_relp (fun v w' => ∃ q d, v = .agg #[.int .u64 ei, .int .u64 et, .int .u8 ek, .string es, .slice q ec.length d] ∧ Cf B w' (.slice q ec.length d) ec ∧ Below w2.heap.size w2 w') (by rfl) (by rfl) (fun h => by cases h) (fun w' hx hS R hR => ?_) (fun v hv => ?_)
  · obtain ⟨x, rfl⟩ := hx
    have hC := C4.out hmE x.wo (Lx.bstep hB.out (Nat.le_refl _) hS)
    clear C4
    go_simp
    refine hC.mono ?_
    rintro y w'' ⟨cv', rfl, hcf, hb⟩
    obtain ⟨q, d, rfl, -⟩ := hcf.n.parts
    exact ⟨_, rfl, hR _ _ (cls_of (x.is.step hb)) ⟨q, d, rfl, hcf, Lx.bstep hS (Nat.le_refl _) hb⟩ (fun h => by cases h)⟩
  obtain ⟨_, -, q, d, rfl, -, -⟩ := hv
  go_big_quiet_step (fail)
  refine wpQuiet_nil ?_
  repeat (refine Lx.wpCh_one (by rfl) (by rfl) ?_; go_big_quiet_step (fail); refine wpQuiet_nil ?_)
  refine Lx.wpCh_relp (fun v w' => ∃ ad, v = .slice (some ad) 1 1 ∧ Ents B w' (.slice (some ad) 1 1) [⟨ei, et, ek, es, ec⟩] ∧ Below w2.heap.size w2 w') (by rfl) (by rfl) (fun h => by cases h) (fun w' hx hS R hR => ?_) (fun v hv => ?_)
  · obtain ⟨x, rfl⟩ := hx
    obtain ⟨q', d', e1, hcf, hb⟩ := hS
    cases e1
    replace hcf := Lib.hid hcf
    replace hb := Lib.hid hb
    go_simp
    have hbl : Below x.wo.heap.size x.wo (x.wo.alloc (.cells #[.int .u64 ei, .int .u64 et, .int .u8 ek, .string es, .slice q ec.length d] 31)) := (Below.refl _ _).alloc (Nat.le_refl _) _
    exact hR _ _ (cls_of (x.is.step hbl)) ⟨_, rfl, ents_one _ _ _ _ (Nat.le_refl _) (by unfold maxLen; omega) (blk_cells (Blk.new _ _ _)) (hcf.out.keep (Calms.below hbl)), Lx.bstep hb.out (Nat.le_refl _) hbl⟩ (fun h => by cases h)
  obtain ⟨_, -, ad, rfl, -, -⟩ := hv
  go_big_quiet_step (fail)
  refine wpQuiet_nil ?_
  repeat (refine Lx.wpCh_one (by rfl) (by rfl) ?_; go_big_quiet_step (fail); refine wpQuiet_nil ?_)
  refine Lx.wpCh_relp (fun v w' => Row B B0 w' v (L.l ++ [⟨ei, et, ek, es, ec⟩]) ∧ Calms B w2 w' ∧ ∀ k, v.ownBlock = some k → lv.ownBlock = some k ∨ w2.heap.size ≤ k) (by rfl) (by rfl) (fun h => by cases h) (fun w' hx hS R hR => ?_) (fun v hv => ?_)
  · obtain ⟨x, rfl⟩ := hx
    obtain ⟨ad', e1, hE1, hb⟩ := hS
    cases e1
    obtain ⟨v', w'', hr, hRow, hg, hcm, hvo, -⟩ := rw_append (hrw.out.below hb) hB0.out.1 (by have := hB0.out.2; have := hsl.out; have := hb.size; omega) 33 ad 1 [⟨ei, et, ek, es, ec⟩] hE1 (by simp) (by have := c3.out; simp; omega)
    rw [run_append_op (s := .tmp 41) (x := .tmp 44) (t := 33) rfl rfl rfl hr]
    refine hR _ _ (cls_of (x.is.trans (Stays.of_grown (O := fun k => lv.ownBlock = some k) hg (fun k hk _ => by rw [hlv.out]; exact hk)) (fun _ _ h => h))) ⟨hRow, (Calms.below hb).trans hcm, fun k hk => ?_⟩ (fun h => by cases h)
    rw [hlv.out]
    rcases hvo with h1 | h1
    · exact .inl (h1 ▸ hk)
    · rw [h1] at hk; cases hk; exact .inr hb.size
  obtain ⟨_, -, hv9, -, -⟩ := hv
  obtain ⟨p9, c9, rfl, -⟩ := hv9.ents
  clear hv9
  go_big_quiet_step (fail)
  refine wpQuiet_nil ?_
  repeat (refine Lx.wpCh_one (by rfl) (by rfl) ?_; go_big_quiet_step (fail); refine wpQuiet_nil ?_)
  refine Lx.wpCh_nil ?_
  intro w4 hx hS
  obtain ⟨x, rfl⟩ := hx
  have hx := Lib.hid x.is
  rw [show (L.l ++ [(⟨ei, et, ek, es, ec⟩ : Ent)]).length = L.l.length + 1 by simp] at hS
  replace hS := Lib.hid hS
  generalize x.wo = w4 at *
  clear x
  have hb4 : Blk w4 b [.int .u64 L.i, .int .u64 L.t, cv, lv] := ⟨_, (hx.out.block b hsl.out hLW.out.nb).trans hLW.out.blk⟩
  have f3 := hb4.frz 3
  have q3' := hb4.cell 3 rfl
  clear hb4 a0 a1 a2 a3 a4 q0 q1 q2 q3
  go_wp2_with fail
  go_ret
  refine ⟨rfl, _, hLW.out.put hx.out hS.out.2.1 (.inl hS.out.1) hS.out.2.2 (by have := c3.out; simp; omega), ?_, ?_, fun k hk => ?_, fun h => absurd rfl h⟩
  · refine Stays.setCell ?_ (fun _ => .inl rfl) _
    exact (Stays.of_below hB.out).trans hx.out (fun i _ h => .inr h)
  · have hn : ¬ Calm B w4 b := fun hc' => hLW.out.loud (hc'.keep (hx.out.block b hsl.out hLW.out.nb).symm)
    exact ((Calms.below hB.out).trans hS.out.2.1).trans (Calms.set hn _)
  · rcases hS.out.2.2 k hk with h1 | h1
    · exact .inl h1
    · exact .inr (Nat.le_trans hB.out.size h1)
end Go.Proofs.Ytkjfplkbgooflaa
