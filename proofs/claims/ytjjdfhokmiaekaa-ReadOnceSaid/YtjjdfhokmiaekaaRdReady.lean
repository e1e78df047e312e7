/-
  (*Reads).Ready.
-/
import Derived.Test.YtjjdfhokmiaekaaRdDel
namespace Go.Proofs.Ytjjdfhokmiaekaa
open Go Go.RowKit Go.Lst Go.Lx Go.Maps

theorem results_reads {fn : Func} {t : Tmp} (h : fn.results = #[.cell t 43]) {tmps : Array Value} {w : World} {b : Nat} {x : Value} (hp : tmps.getD t undef = .pointer (some ⟨b, 0, none⟩)) (h2 : w.cell? ⟨b, 0, none⟩ = some x) :
    (results fn tmps).run Try.prog w = .ok x w := by
  have hp' : tmps[t]?.getD undef = .pointer (some ⟨b, 0, none⟩) := by simpa using hp
  simp [results, h, go_sem, hp', h2]
theorem RdAt.put2 {B0 : Nat} {W w' : World} {b hb n : Nat} {wv v : Value} {S : RS} {l' : List Wt} (h : RdAt B0 W b hb n wv S) (h1 : w'.heap[b]? = W.heap[b]?) (h2 : w'.heap[hb]? = W.heap[hb]?) (hr : WRow B0 w' v l') (hv : ∀ k, v.ownBlock = some k → wv.ownBlock = some k) : RdAt B0 (w'.setCell ⟨b, 2, none⟩ v) b hb n v { S with l := l' } := by
  obtain ⟨a1, a2, a3, a4, a5, a6⟩ := h.apart
  have hbk : w'.heap[b]? = some (.cells [.int .i64 S.me, .int .u64 S.rd, wv, .map (some hb)].toArray 106 (0, 0)) := h1.trans h.blk
  have hcs := calms_set (i := 2) (fun hc' => a4 (hc'.keep h1.symm)) v
  refine ⟨heap_at hbk 2 _, hr.keep hcs (fun g hg => Below.heap_setCell _ _ _ _ (fun e => ?_)), (h.map.keep h2).keep (Below.heap_setCell _ _ _ _ (Ne.symm a1)), h.lo⟩
  dsimp only at e
  subst e
  exact a2 (hv _ hg)
def TwoRow (Bo : Nat) (wv : Value) (W w' : World) : Prop := Stays (InO Bo wv) W w'
set_option maxRecDepth 100000 in
set_option maxHeartbeats 4000000 in
theorem Ready_calls {B0 : Nat} {w : World} {b hb n : Nat} {wv : Value} {S : RS} (h : RdAt B0 w b hb n wv S) (hl : S.l.length ≤ 256) (hmy : ∀ e ∈ S.l, may e.c = true) (ap : Int) :
    Calls Try.prog 18 #[.pointer (some ⟨b, 0, none⟩), .int .u64 ap] w fun y w' => ∃ u v', y = .returned u ∧ w'.ownsRow w.heap.size 46 2 u (S.l.filter fun e => goesB S ap e).length (outC (S.l.filter fun e => goesB S ap e)) ∧ RdAt B0 w' b hb n v' { S with l := S.l.filter fun e => !goesB S ap e } ∧ Stays (fun k => k = b ∨ wv.ownBlock = some k) w w' ∧ Calms 0 w w' ∧ (∀ k, v'.ownBlock = some k → wv.ownBlock = some k) := by
  obtain ⟨pw, cw, hwv, hwc, hwm⟩ := h.row.parts
  obtain ⟨ln, hln⟩ : ∃ ln, S.l.length = ln := ⟨_, rfl⟩
  rw [hln] at hwv hwc
  have hwv' := Lib.hid hwv
  subst hwv
  have hH := Lib.hid h
  have hl' := Lib.hid hl
  have hmy' := Lib.hid hmy
  have hm := made3 w #[.pointer (some ⟨b, 0, none⟩)] #[.int .u64 ap] #[.slice none 0 0] 25 32 43
  obtain ⟨hP, hA, hO, hB, hz⟩ := hm
  have hOb : (((w.alloc (.cells #[.pointer (some ⟨b, 0, none⟩)] 25)).alloc (.cells #[.int .u64 ap] 32)).alloc (.cells #[.slice none 0 0] 43)).heap[w.heap.size + 1 + 1]? = some (.cells #[.slice none 0 0] 43 (0, 0)) := by
    have := heap_alloc_new ((w.alloc (.cells #[.pointer (some ⟨b, 0, none⟩)] 25)).alloc (.cells #[.int .u64 ap] 32)) (.cells #[.slice none 0 0] 43)
    simpa using this
  have p0 := hP.cell 0 rfl
  have a0 := hA.cell 0 rfl
  have o0 := hO.cell 0 rfl
  have hL := Lib.hid (hH.out.below hB)
  obtain ⟨q0, q1, q2, q3, -⟩ := hL.out.isBlk.c4
  have hblt := h.lt
  have hhlt := h.hlt
  have hwlt := Lib.hid (fun k hk => (hH.out.row.block (k := k) hk).2)
  clear h hl hmy hwc hwm hwv'
  replace hln := Lib.hid hln
  have hmf : ∀ (fn : Fn) (first cap : Array Value) (w : World), (Instr.makeFunc fn first cap).run Try.prog w = .ok (.func fn first cap) w := fun _ _ _ _ => rfl
  go_enter Try.func18, Try.ntmps18
  go_wp2_with fail
  generalize ((w.alloc (.cells #[.pointer (some ⟨b, 0, none⟩)] 25)).alloc (.cells #[.int .u64 ap] 32)).alloc (.cells #[.slice none 0 0] 43) = W at *
  have hno : ∀ i, InO (w.heap.size + 1 + 1) (.slice pw ln cw) i → i < W.heap.size ∧ i ≠ b ∧ i ≠ hb ∧ i ≠ w.heap.size ∧ i ≠ w.heap.size + 1 := fun i hi => by
    rcases hi with rfl | hi
    · omega
    · have h1 := hwlt.out i hi
      obtain ⟨a1, a2, a3, -⟩ := hH.out.apart
      refine ⟨by omega, fun e => a2 (e ▸ hi), fun e => a3 (e ▸ hi), by omega, by omega⟩
  have k0 := fun x : Cls (TwoRow (w.heap.size + 1 + 1) (.slice pw ln cw) W) => stays_at x.is p0 (fun e => (hno _ e).2.2.2.1 rfl)
  have k2 := fun x : Cls (TwoRow (w.heap.size + 1 + 1) (.slice pw ln cw) W) => stays_at x.is q2 (fun e => (hno _ e).2.1 rfl)
  have hnon : Nonempty (Cls (TwoRow (w.heap.size + 1 + 1) (.slice pw ln cw) W)) := ⟨⟨_, Stays.of_below (Below.refl _ _)⟩⟩
  replace hno := Lib.hid hno
  clear q0 q1 q2 q3
  refine Lx.wp_region_chain_tail (fun w' => ∃ x : Cls (TwoRow (w.heap.size + 1 + 1) (.slice pw ln cw) W), w' = x.wo) (fun _ => False) [6] [] 9 (fun w' => Below W.heap.size W w') (by kernel_rfl) (by kernel_rfl) (by kernel_rfl) (by kernel_rfl) (cls_of (Stays.of_below ((Below.refl _ _).drew))) ((Below.refl _ _).drew) ?_
  simp only [List.take_succ_cons, List.take_zero, List.drop_succ_cons, List.drop_zero]
  repeat (refine Lx.wpCh_one (by rfl) (by rfl) ?_; go_big_quiet_step (fail); refine wpQuiet_nil ?_)
  have hst0 := Lib.hid hOb
  have hp0 := Lib.hid p0
  have ha0 := Lib.hid a0
  have hBW := Lib.hid hB
  have hzz := Lib.hid hz
  have hbl := Lib.hid (And.intro hblt hhlt)
  clear hP hA hO
  refine Lx.wpCh_relp (fun v A => WRow B0 A v (S.l.filter fun e => !goesB S ap e) ∧ (∀ k, v.ownBlock = some k → (Value.slice pw ln cw).ownBlock = some k) ∧ Calms 0 W A ∧ ∃ base ov', W.heap.size ≤ base ∧ Out A (w.heap.size + 1 + 1) base ov' (S.l.filter fun e => goesB S ap e)) (by rfl) (by rfl) (fun h => by cases h) (fun w' hx hS R hR => ?_) (fun v hv => ?_)
  · obtain ⟨x, rfl⟩ := hx
    have hLx := hL.out.below hS
    obtain ⟨a1, a2, a3, a4, a5, a6⟩ := hLx.apart
    have hsz := hS.size
    have hOx : x.wo.heap[w.heap.size + 1 + 1]? = some (.cells #[.slice none 0 0] 43 (0, 0)) := (hS.block _ (by have := hzz.out; omega)).trans hst0.out
    have cx : Ctx x.wo b hb n (.slice pw ln cw) S w.heap.size (w.heap.size + 1) (w.heap.size + 1 + 1) ap :=
      ⟨hLx.hd, (cell_below hS hp0.out).trans hp0.out, (cell_below hS ha0.out).trans ha0.out,
        ⟨by omega, by omega, by have := hbl.out; omega, by have := hbl.out; omega, fun e => by have := hwlt.out _ e; omega, fun e => by have := hwlt.out _ e; omega, a2, a3, fun e => by have := hwlt.out _ e; omega⟩,
        by have := hzz.out; omega, ⟨calm_cells hOx (by decide), a6⟩, fun k hk => by have := hwlt.out k hk; have := hzz.out; omega⟩
    have hC := DeleteGoes_calls cx (ov := .slice none 0 0) (Stays.of_below (Below.refl _ _)) ⟨hOx, World.ownsRow_nil _ _ _ _⟩ hLx.row hl'.out hmy'.out
    replace hS := Lib.hid hS
    have hcc := Lib.hid (fun A' hs => cx.calms (A := A') hs)
    clear cx hOx hLx
    go_simp
    refine hC.mono ?_
    rintro e w' ⟨v', rfl, h1, h2, h3, ov', h4⟩
    exact ⟨_, rfl, hR _ _ (cls_of (x.is.trans h1 (fun _ _ h => h))) ⟨h2, h3, (Calms.below hS.out).trans (hcc.out _ h1), _, _, hsz, h4⟩ (fun h => by cases h)⟩
  obtain ⟨_, -, hv9, -⟩ := hv
  obtain ⟨p9, c9, rfl, -⟩ := hv9.parts
  clear hv9
  go_big_quiet_step (fail)
  refine wpQuiet_nil ?_
  repeat (refine Lx.wpCh_one (by rfl) (by rfl) ?_; go_big_quiet_step (fail); refine wpQuiet_nil ?_)
  refine Lx.wpCh_nil ?_
  intro w6 hx hS
  obtain ⟨x, rfl⟩ := hx
  have hx := Lib.hid x.is
  replace hS := Lib.hid hS
  obtain ⟨l9, hl9⟩ : ∃ l9, (S.l.filter fun e => !goesB S ap e).length = l9 := ⟨_, rfl⟩
  rw [hl9] at hS ⊢
  generalize x.wo = w6 at *
  clear x hnon k0 k2 hl9 p0 a0 o0 hOb hB hz hblt hhlt
  obtain ⟨hr6, ho6, hc6, base, ov', hbs, hO6⟩ := hS.out
  obtain ⟨po, lo, co, hov⟩ := own_slice hO6.row
  subst hov
  have hb1 := hbl.out
  have hz1 := hzz.out
  have e1 : w6.heap[b]? = W.heap[b]? := hx.out.block b hL.out.lt (fun e => (hno.out b e).2.1 rfl)
  have e2 : w6.heap[hb]? = W.heap[hb]? := hx.out.block hb hL.out.hlt (fun e => (hno.out hb e).2.2.1 rfl)
  have hL6 := hL.out.put2 e1 e2 hr6 ho6
  have hbk : Blk w6 b [.int .i64 S.me, .int .u64 S.rd, .slice pw ln cw, .map (some hb)] := ⟨_, e1.trans hL.out.blk⟩
  have f2 := hbk.frz 2
  have q2 := hbk.cell 2 rfl
  have hO7 := hO6.keep (w' := w6.setCell ⟨b, 2, none⟩ (.slice p9 l9 c9)) (Below.heap_setCell _ _ _ _ (by dsimp only; omega)) (fun k hk => Below.heap_setCell _ _ _ _ (by have := (own_block hO6.row hk).1; dsimp only; omega))
  have hbo : Blk (w6.setCell ⟨b, 2, none⟩ (.slice p9 l9 c9)) (w.heap.size + 1 + 1) [.slice po lo co] := ⟨_, hO7.blk⟩
  have fo := hbo.frz 0
  have qo := hbo.cell 0 rfl
  have hst6 := Lib.hid (((Stays.of_below (O := fun k => k = b ∨ (Value.slice pw ln cw).ownBlock = some k) hBW.out).trans hx.out (fun i hi h => by
    rcases h with rfl | h
    · omega
    · exact .inr h)).setCell (p := ⟨b, 2, none⟩) (fun _ => .inl rfl) (.slice p9 l9 c9))
  have hca6 := Lib.hid (((Calms.below hBW.out).trans hc6).trans (calms_set (i := 2) (fun hc' => hL.out.apart.2.2.2.1 (hc'.keep e1.symm)) (.slice p9 l9 c9)))
  have hno6 : Hid (∀ k, (Value.slice p9 l9 c9).ownBlock = some k → k < w.heap.size) := Lib.hid (fun k hk => hwlt.out k (ho6 k hk))
  have ho6' := Lib.hid ho6
  have hbs' := Lib.hid hbs
  clear hr6 ho6 hc6 hO6 e1 e2 hbk hbo hbs hb1 hz1
  replace hL6 := Lib.hid hL6
  replace hO7 := Lib.hid hO7
  go_wp2_with fail
  have hz2 := hzz.out
  have hb2 := hbl.out
  refine bodyPost_ret (results_reads rfl rfl (World.cell?_setCell_same _ _ _ qo)) rfl ⟨_, _, rfl, ?_, ?_, ?_, ?_, ho6'.out⟩
  · have h1 := own_keep (w' := (w6.setCell ⟨b, 2, none⟩ (.slice p9 l9 c9)).setCell ⟨w.heap.size + 1 + 1, 0, none⟩ (.slice po lo co)) hO7.out.row (fun g hg => Below.heap_setCell _ _ _ _ (by have := (own_block hO7.out.row hg).1; have := hbs'.out; dsimp only; omega))
    exact own_mono h1 (by have := hbs'.out; omega)
  · exact hL6.out.keep (Below.heap_setCell _ _ _ _ (by dsimp only; omega)) (fun k hk => Below.heap_setCell _ _ _ _ (by have := hno6.out k hk; dsimp only; omega)) (Below.heap_setCell _ _ _ _ (by dsimp only; omega)) (calms_set (calm_cells hO7.out.blk (by decide)) _)
  · exact hst6.out.setCell (p := ⟨w.heap.size + 1 + 1, 0, none⟩) (fun h => by dsimp only at h; omega) _
  · exact hca6.out.trans (calms_set (calm_cells hO7.out.blk (by decide)) _)
end Go.Proofs.Ytjjdfhokmiaekaa
