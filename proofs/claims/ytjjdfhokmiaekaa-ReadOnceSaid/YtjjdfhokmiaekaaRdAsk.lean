/-
  (*Reads).Ask.
-/
import Derived.Test.YtjjdfhokmiaekaaRdSure
import Derived.Test.YtjjdfhokmiaekaaTail
import Derived.Test.YtjjdfhokmiaekaaApp
namespace Go.Proofs.Ytjjdfhokmiaekaa
open Go Go.RowKit Go.Lst Go.Lx Go.Maps

set_option maxRecDepth 100000 in
theorem isId_calls (e : Wt) (cv : Value) (Bi : Nat) (id : Int) (w : World) (hb : w.cell? ⟨Bi, 0, none⟩ = some (.int .u64 id)) (hcv : ∃ p n c, cv = .slice p n c) :
    Calls Try.prog 57 #[wtV e cv, .pointer (some ⟨Bi, 0, none⟩)] w fun y w' => y = .returned (.bool (e.id == id)) ∧ Below w.heap.size w w' := by
  obtain ⟨p, n, c, rfl⟩ := hcv
  obtain ⟨i, x, r, cc⟩ := e
  unfold wtV
  dsimp only
  have hm1 := made1 w #[.int .u64 i, .int .u64 x, .int .u64 r, .slice p n c] 109
  dsimp only at hm1
  obtain ⟨hE, hB0, hz⟩ := hm1
  obtain ⟨e0, -⟩ := hE.c4
  have hb2 := (cell_below hB0 hb).trans hb
  clear hE hb
  go_enter Try.func57, Try.ntmps57
  go_wp2_with fail
  go_ret
  exact ⟨rfl, hB0⟩
set_option maxRecDepth 100000 in
set_option maxHeartbeats 1000000 in
theorem IndexAsk_calls {B0 : Nat} {w : World} {v : Value} {l : List Wt} (h : WRow B0 w v l) (Bi : Nat) (id : Int) (hb : w.cell? ⟨Bi, 0, none⟩ = some (.int .u64 id)) :
    Calls Try.prog 73 #[v, .func (.func 57) #[] #[.pointer (some ⟨Bi, 0, none⟩)]] w fun y w' => ∃ j : Int, y = .returned (.int .i64 j) ∧ decide (0 ≤ j) = l.any (fun e => e.id == id) ∧ Below w.heap.size w w' := by
  have hI := Lib.hid (fun e cv A hb hcv => isId_calls e cv Bi id A hb hcv)
  unfold wtV at hI
  obtain ⟨p, c, hv, hc1, hc2⟩ := h.parts
  have hr := Lib.hid h
  obtain ⟨n, hn⟩ : ∃ n, l.length = n := ⟨_, rfl⟩
  rw [hn] at hv hc1
  subst hv
  have hnm : n ≤ 9223372036854775807 := by unfold maxLen at hc2; omega
  have hbi := Lib.hid hb
  clear h hb
  replace hn := Lib.hid hn
  replace hc1 := Lib.hid hc1
  replace hc2 := Lib.hid hc2
  go_enter Try.func73, Try.ntmps73
  go_wp2_with fail
  go_loopg [8] (n + 1) (fun k v8 A => ∃ (j : Nat), v8 = .int .i64 (j : Int) ∧ j ≤ n ∧ n < j + k ∧ (l.take j).any (fun e => e.id == id) = false ∧ Below w.heap.size w A)
  case atStart => exact ⟨0, rfl, by omega, by omega, rfl, Below.refl _ _⟩
  case round =>
    obtain ⟨j, rfl, hj, hk, hany, hb⟩ := hrel
    cases gk with
    | zero => omega
    | succ k =>
      by_cases hlt : j < n
      case neg =>
        have hd : decide ((j : Int) < (n : Int)) = false := by simp; omega
        have hn' := hn.out
        rw [List.take_of_length_le (by omega)] at hany
        clear hj hk
        replace hany := Lib.hid hany
        replace hb := Lib.hid hb
        go_wp2_with fail
        go_ret
        exact ⟨_, rfl, by rw [hany.out]; rfl, hb.out⟩
      case pos =>
        have hlt1 : (j : Int) < (n : Int) := by omega
        have h0 : (0 : Int) ≤ (j : Int) := by omega
        have hn' := hn.out
        obtain ⟨a, c', cv, ev, g0, g1, g2, g3, hcv⟩ := hr.out.get j (by omega)
        injection ev with e1 e2 e3
        subst e1 e3
        replace g0 := (cell_below hb g0).trans g0
        replace g1 := (cell_below hb g1).trans g1
        replace g2 := (cell_below hb g2).trans g2
        replace g3 := (cell_below hb g3).trans g3
        obtain ⟨q, d, hcv2, -⟩ := hcv.n.parts
        have hst : (l.take (j + 1)).any (fun e => e.id == id) = (l[j].id == id) := by
          rw [List.take_succ_eq_append_getElem (by omega), List.any_append, hany]
          simp
        have hjl : j < l.length := by omega
        have hall : l[j].id == id → l.any (fun e => e.id == id) = true := fun h => List.any_eq_true.2 ⟨_, List.getElem_mem hjl, h⟩
        have hC := hI.out l[j] cv wr ((cell_below hb hbi.out).trans hbi.out) ⟨_, _, _, hcv2⟩
        subst hcv2
        generalize l[j] = e at *
        obtain ⟨i, x, r, cc⟩ := e
        dsimp only at g0 g1 g2 g3 hC hst hall
        cases hid : (i == id) with
        | true =>
          rw [hid] at hC
          have hall' := hall hid
          replace hC := Lib.hid hC
          replace hall' := Lib.hid hall'
          replace hb := Lib.hid hb
          clear hall hany hst hid hcv e2
          go_wp2_with fail
          refine hC.out.mono ?_
          rintro y w2 ⟨rfl, hb2⟩
          replace hb := Lib.hid (Lx.bstep hb.out (Nat.le_refl _) hb2)
          go_wp2_with fail
          go_ret
          exact ⟨_, rfl, by rw [hall'.out]; simp, hb.out⟩
        | false =>
          rw [hid] at hC hst
          replace hC := Lib.hid hC
          replace hst := Lib.hid hst
          replace hb := Lib.hid hb
          clear hall hany hid hcv e2
          go_wp2_with fail
          refine hC.out.mono ?_
          rintro y w2 ⟨rfl, hb2⟩
          replace hb := Lib.hid (Lx.bstep hb.out (Nat.le_refl _) hb2)
          go_wp2_with fail
          go_roundg k
          case measure => omega
          case rel => exact ⟨j + 1, by go_num, by omega, by omega, hst.out, hb.out⟩
set_option maxRecDepth 100000 in
theorem ContainsAsk_calls {B0 : Nat} {w : World} {v : Value} {l : List Wt} (h : WRow B0 w v l) (Bi : Nat) (id : Int) (hb : w.cell? ⟨Bi, 0, none⟩ = some (.int .u64 id)) :
    Calls Try.prog 56 #[v, .func (.func 57) #[] #[.pointer (some ⟨Bi, 0, none⟩)]] w fun y w' => y = .returned (.bool (l.any (fun e => e.id == id))) ∧ Below w.heap.size w w' := by
  have hC := Lib.hid (IndexAsk_calls h Bi id hb)
  obtain ⟨p, c, hv, hc1, hc2⟩ := h.parts
  rw [hv] at hC ⊢
  clear h hb hc1 hv
  go_enter Try.func56, Try.ntmps56
  go_wp2_with fail
  refine hC.out.mono ?_
  rintro y w2 ⟨j, rfl, hj, hb2⟩
  have hj2 : decide ((0 : Int) ≤ j) = decide (0 ≤ j) := rfl
  go_wp2_with fail
  go_ret
  exact ⟨by rw [← hj]; rfl, hb2⟩
theorem infoWait : (Try.prog.info? 109).map (fun i => (i.zero, i.size, i.bytes)) = some (some (.agg #[.int .u64 0, .int .u64 0, .int .u64 0, .slice none 0 0]), 4, 48) := by kernel_rfl
theorem blkc {w : World} {b : Nat} {cs : List Value} (h : Blk w b cs) : ∀ j u, cs[j]? = some u → w.cell? ((⟨b, 0, none⟩ : Addr).add j) = some u := fun j u hu => by
  have e : (⟨b, 0, none⟩ : Addr).add j = ⟨b, j, none⟩ := by unfold Addr.add; split <;> simp_all
  rw [e]
  exact h.cell j hu
theorem calm_cells {w : World} {g : Nat} {cs : Array Value} {T : TypeId} {fr : Nat × Nat} (h : w.heap[g]? = some (.cells cs T fr)) (hT : T ≠ 3) : ¬ Calm 0 w g := by
  rintro (hlt | ⟨cs', fr', e⟩)
  · omega
  · rw [h] at e
    injection e with e
    injection e with _ e2 _
    exact hT e2
theorem WRow.loud {B0 : Nat} {w : World} {v : Value} {l : List Wt} (h : WRow B0 w v l) {g : Nat} (hg : v.ownBlock = some g) : ¬ Calm 0 w g := by
  obtain ⟨cvs, hl, hown, hc⟩ := h
  rcases hown.2 with ⟨rfl, _⟩ | ⟨g', cap, cur, rfl, hB', hh, r⟩
  · cases hg
  · cases hg
    exact calm_cells hh (by decide)
theorem WRow.append {B0 : Nat} {w : World} {v : Value} {l : List Wt} (h : WRow B0 w v l) (hB0 : B0 ≤ w.heap.size) (ty : TypeId) (ad : Addr) (c : Nat) (e : Wt) (cv : Value) (hcf : Cf 0 w cv e.c) (hcells : ∀ j u, (wtC e cv)[j]? = some u → w.cell? (ad.add j) = some u) (hn : (l.length + 1) * 48 ≤ 140737488355328) :
    ∃ v' w', (Builtin.append_ #[104, 104] ty #[v, .slice (some ad) 1 c]).run Try.prog w = .ok v' w' ∧ WRow B0 w' v' (l ++ [e]) ∧ w.grownBy w' v.ownBlock ∧ Calms 0 w w' ∧ (v'.ownBlock = v.ownBlock ∨ v'.ownBlock = some w.heap.size) := by
  obtain ⟨i0, hi, hz0, hz1, hz2⟩ := info_parts infoWait
  have hcalm : ∀ w', w.grownBy w' v.ownBlock → Calms 0 w w' := fun w' hg => ⟨hg.size, fun g hlt hc => hg.block g hlt (fun e => h.loud e.symm hc)⟩
  obtain ⟨cvs, hl, hown, hc⟩ := h
  obtain ⟨q, d, hcv, -⟩ := hcf.n.parts
  obtain ⟨v', w', hr, h2, h3, -, h5⟩ := run_append_own_at (P := Try.prog) w B0 104 ty 109 i0 _ 4 48 Try.underlying104 hi hz0 hz1 hz2 rfl (by decide) v l.length (rowW l cvs) hown ad 1 c (wtC e cv) rfl hcells
    (fun u hu => by subst hcv; simp only [wtC, List.mem_cons, List.not_mem_nil, or_false] at hu; rcases hu with rfl | rfl | rfl | rfl <;> rfl) (by unfold maxLen; omega) hn hB0
  refine ⟨v', w', hr, ⟨cvs ++ [cv], by simp [hl], ?_, fun j h1 h2 => ?_⟩, h3, hcalm w' h3, h5⟩
  · rw [rowW_append l cvs e cv hl, List.length_append]; exact h2
  · by_cases hj : j < l.length
    · have e1 : (cvs ++ [cv])[j] = cvs[j]'(by omega) := List.getElem_append_left (by omega)
      have e2 : (l ++ [e])[j] = l[j] := List.getElem_append_left hj
      rw [e1, e2]
      exact (hc j hj (by omega)).keep (hcalm w' h3)
    · have hj2 : j = l.length := by simp at h1; omega
      subst hj2
      have e1 : (cvs ++ [cv])[l.length]'h2 = cv := by rw [List.getElem_append_right (by omega)]; simp [hl]
      have e2 : (l ++ [e])[l.length]'h1 = e := by rw [List.getElem_append_right (by omega)]; simp
      rw [e1, e2]
      exact hcf.keep (hcalm w' h3)
theorem heap_at {w : World} {b : Nat} {cs : List Value} {T : TypeId} (h1 : w.heap[b]? = some (.cells cs.toArray T (0, 0))) (i : Nat) (v : Value) : (w.setCell ⟨b, i, none⟩ v).heap[b]? = some (.cells (cs.set i v).toArray T (0, 0)) := by
  have hlt := heap_lt' h1
  have h' : w.heap[b] = .cells cs.toArray T (0, 0) := by simpa [Array.getElem?_eq_getElem hlt] using h1
  show (w.heap.modify b _)[b]? = _
  rw [Array.getElem?_eq_getElem (by simpa using hlt), Array.getElem_modify_self, h']
  simp
theorem calms_set {w : World} {b i : Nat} (h : ¬ Calm 0 w b) (v : Value) : Calms 0 w (w.setCell ⟨b, i, none⟩ v) :=
  ⟨by simp, fun g _ hc => Below.heap_setCell _ _ _ _ (fun e => h (by cases e; exact hc))⟩
theorem RdAt.putr {B0 : Nat} {w : World} {b hb n : Nat} {wv : Value} {S : RS} (h : RdAt B0 w b hb n wv S) (x : Int) : RdAt B0 (w.setCell ⟨b, 1, none⟩ (.int .u64 x)) b hb n wv { S with rd := x } := by
  obtain ⟨a1, a2, a3, a4, a5, a6⟩ := h.apart
  have hbk : w.heap[b]? = some (.cells [.int .i64 S.me, .int .u64 S.rd, wv, .map (some hb)].toArray 106 (0, 0)) := h.blk
  have hc := calms_set (i := 1) a4 (.int .u64 x)
  exact ⟨heap_at hbk 1 _, h.row.keep hc (fun g hg => Below.heap_setCell _ _ _ _ (fun e => a2 (by rw [hg]; cases e; rfl))), h.map.keep (Below.heap_setCell _ _ _ _ (Ne.symm a1)), h.lo⟩
theorem RdAt.put {B0 : Nat} {W w' : World} {b hb n : Nat} {wv v : Value} {S : RS} {l' : List Wt} (h : RdAt B0 W b hb n wv S) (hs : Stays (fun k => wv.ownBlock = some k) W w') (hc : Calms 0 W w') (hr : WRow B0 w' v l') (hv : ∀ k, v.ownBlock = some k → wv.ownBlock = some k ∨ W.heap.size ≤ k) : RdAt B0 (w'.setCell ⟨b, 2, none⟩ v) b hb n v { S with l := l' } := by
  obtain ⟨a1, a2, a3, a4, a5, a6⟩ := h.apart
  have hbb : w'.heap[b]? = W.heap[b]? := hs.block b h.lt a2
  have hbk : w'.heap[b]? = some (.cells [.int .i64 S.me, .int .u64 S.rd, wv, .map (some hb)].toArray 106 (0, 0)) := hbb.trans h.blk
  have hcs := calms_set (i := 2) (fun hc' => a4 (hc'.keep hbb.symm)) v
  refine ⟨heap_at hbk 2 _, hr.keep hcs (fun g hg => Below.heap_setCell _ _ _ _ (fun e => ?_)), (h.map.keep (hs.block hb h.hlt a3)).keep (Below.heap_setCell _ _ _ _ (Ne.symm a1)), h.lo⟩
  dsimp only at e
  subst e
  rcases hv _ hg with h1 | h1
  · exact a2 h1
  · have := h.lt; omega
/-- Worlds in which nothing but the row of waits was written. -/
def OneRow (wv : Value) (W w' : World) : Prop := Stays (fun k => wv.ownBlock = some k) W w'
theorem stays_at {O : Nat → Prop} {W w' : World} (h : Stays O W w') {a : Addr} {v : Value} (hc : W.cell? a = some v) (hn : ¬ O a.block) : w'.cell? a = some v := by
  have hlt : a.block < W.heap.size := by
    rcases Nat.lt_or_ge a.block W.heap.size with h' | h'
    · exact h'
    · simp [World.cell?, Array.getElem?_eq_none h'] at hc
  rw [cell_same (h.block a.block hlt hn), hc]
theorem stays_on {O : Nat → Prop} {W w1 w2 : World} (h : Stays O W w1) (hb : Below w1.heap.size w1 w2) : Stays O W w2 := h.trans (Stays.of_below (O := fun _ => False) hb) (fun i _ hf => hf.elim)
def askR (S : RS) (id cm : Int) (c : List Int) : Int := if askE S id cm c = 0 then S.rd + 1 else 0
theorem eql_map_nil (A : World) (b : Nat) : (binOp .eql 31 (.map (some b)) (.map none)).run Try.prog A = .ok (.bool false) A := by
  unfold binOp
  simp [run_equal_map_nil A 31 3 32 (some b) Try.underlying31]
set_option maxRecDepth 100000 in
set_option maxHeartbeats 4000000 in
theorem Ask_calls {B0 : Nat} {w : World} {b hb n : Nat} {wv : Value} {S : RS} (h : RdAt B0 w b hb n wv S) (id cm : Int) (v : Value) (c : List Int) (hcf : Cf 0 w v c) (hrd : 0 ≤ S.rd ∧ S.rd ≤ 1099511627776) :
    Calls Try.prog 15 #[.pointer (some ⟨b, 0, none⟩), .int .u64 id, .int .u64 cm, v] w fun y w' => y = .returned (.tuple #[.int .u64 (askR S id cm c), .int .i64 (askE S id cm c)]) ∧ ∃ wv', RdAt B0 w' b hb n wv' (askS S id cm c) ∧ Stays (fun k => k = b ∨ wv.ownBlock = some k) w w' ∧ Calms 0 w w' ∧ (∀ k, wv'.ownBlock = some k → wv.ownBlock = some k ∨ w.heap.size ≤ k) := by
  obtain ⟨pw, cw, hwv, -⟩ := h.row.parts
  obtain ⟨ln, hln⟩ : ∃ ln, S.l.length = ln := ⟨_, rfl⟩
  rw [hln] at hwv
  subst hwv
  have hH := Lib.hid h
  have hc := hcf.n
  replace hcf := Lib.hid hcf
  have hmn := fun A => eql_map_nil A hb
  obtain ⟨E, hE⟩ : ∃ E, askE S id cm c = E := ⟨_, rfl⟩
  obtain ⟨S', hS'⟩ : ∃ S', askS S id cm c = S' := ⟨_, rfl⟩
  obtain ⟨R, hR⟩ : ∃ R, askR S id cm c = R := ⟨_, rfl⟩
  rw [hE, hS', hR]
  unfold askR at hR
  rw [hE] at hR
  unfold askS at hS'
  rw [hE] at hS'
  unfold askE at hE
  have hM := Lib.hid (fun A (hb : Below w.heap.size w A) => May_calls v c A (hc.below hb))
  have hN := Lib.hid hc
  have hm1 := made1 w #[.int .u64 id] 32
  dsimp only at hm1
  obtain ⟨hI, hB, -⟩ := hm1
  have i0 := hI.cell 0 rfl
  have hrl := Lib.hid (hH.out.below hB)
  obtain ⟨q0, q1, q2, q3, -⟩ := hrl.out.isBlk.c4
  obtain ⟨p, cc, hv, hc1, -⟩ := hc.parts
  subst hv
  have same : ∀ {w' : World}, Below w.heap.size w w' → ∃ wv', RdAt B0 w' b hb n wv' S ∧ Stays (fun k => k = b ∨ (Value.slice pw ln cw).ownBlock = some k) w w' ∧ Calms 0 w w' ∧ (∀ k, wv'.ownBlock = some k → (Value.slice pw ln cw).ownBlock = some k ∨ w.heap.size ≤ k) :=
    fun {_} hb => ⟨(.slice pw ln cw), hH.out.below hb, Stays.of_below hb, Calms.below hb, fun k hk => .inl hk⟩
  replace same := @Lib.hid _ @same
  obtain ⟨mc, hmc⟩ : ∃ mc, may c = mc := ⟨_, rfl⟩
  rw [hmc] at hM hE
  clear h hc hI
  replace hc1 := Lib.hid hc1
  replace hmc := Lib.hid hmc
  replace hrd := Lib.hid hrd
  cases mc with
  | false =>
    rw [if_pos (.inl rfl)] at hE
    subst hE
    rw [if_neg (by decide)] at hS' hR
    subst hS' hR
    replace hB := Lib.hid hB
    go_enter Try.func15, Try.ntmps15
    go_wp2_with fail
    refine (hM.out _ hB.out).mono ?_
    rintro y w2 ⟨rfl, hb2⟩
    replace hB := Lib.hid (Lx.bstep hB.out (Nat.le_refl _) hb2)
    clear q0 q1 q2 q3 i0 hb2
    go_wp2_with fail
    go_ret2
    exact ⟨rfl, same.out hB.out⟩
  | true =>
  by_cases c1 : 281474976710656 < cm
  · rw [if_pos (.inr c1)] at hE
    subst hE
    rw [if_neg (by decide)] at hS' hR
    subst hS' hR
    replace hB := Lib.hid hB
    go_enter Try.func15, Try.ntmps15
    go_wp2_with fail
    refine (hM.out _ hB.out).mono ?_
    rintro y w2 ⟨rfl, hb2⟩
    replace hB := Lib.hid (Lx.bstep hB.out (Nat.le_refl _) hb2)
    clear q0 q1 q2 q3 i0 hb2
    go_wp2_with fail
    go_ret2
    exact ⟨rfl, same.out hB.out⟩
  rw [if_neg (by rintro (h | h); cases h; exact c1 h)] at hE
  have c1b : decide (281474976710656 < cm) = false := decide_eq_false c1
  rw [hln] at hE
  obtain ⟨an, han⟩ : ∃ an, S.l.any (fun w => w.id == id) = an := ⟨_, rfl⟩
  rw [han] at hE
  clear c1
  replace hln := Lib.hid hln
  replace hE := Lib.hid hE
  replace han := Lib.hid han
  replace hB := Lib.hid hB
  go_enter Try.func15, Try.ntmps15
  go_wp2_with fail
  generalize (w.alloc (.cells #[.int .u64 id] 32)) = W at *
  refine (hM.out _ hB.out).mono ?_
  rintro y w2 ⟨rfl, hb2⟩
  replace q0 := (cell_below hb2 q0).trans q0
  replace q1 := (cell_below hb2 q1).trans q1
  replace q2 := (cell_below hb2 q2).trans q2
  replace q3 := (cell_below hb2 q3).trans q3
  replace i0 := (cell_below hb2 i0).trans i0
  replace hB := Lib.hid (Lx.bstep hB.out (Nat.le_refl _) hb2)
  have hK := ContainsAsk_calls (hH.out.below hB.out).row _ id i0
  rw [han.out] at hK
  replace hK := Lib.hid hK
  clear hb2
  go_wp2_with fail
  refine hK.out.mono ?_
  rintro y w3 ⟨rfl, hb2⟩
  replace q0 := (cell_below hb2 q0).trans q0
  replace q1 := (cell_below hb2 q1).trans q1
  replace q2 := (cell_below hb2 q2).trans q2
  replace q3 := (cell_below hb2 q3).trans q3
  replace i0 := (cell_below hb2 i0).trans i0
  replace hB := Lib.hid (Lx.bstep hB.out (Nat.le_refl _) hb2)
  clear hb2 hK
  replace hE := hE.out
  cases an with
  | true =>
    rw [if_pos rfl] at hE
    replace hE := Lib.hid hE
    go_wp2_with fail
    go_ret2
    have hE1 := hE.out
    subst hE1
    rw [if_neg (by decide)] at hS' hR
    subst hS' hR
    exact ⟨rfl, same.out hB.out⟩
  | false =>
  rw [if_neg (by decide)] at hE
  by_cases c2 : 256 ≤ ln
  · rw [if_pos c2] at hE
    replace hE := Lib.hid hE
    have c2b : decide ((256 : Int) ≤ (ln : Int)) = true := by simp; omega
    go_wp2_with fail
    go_ret2
    have hE1 := hE.out
    subst hE1
    rw [if_neg (by decide)] at hS' hR
    subst hS' hR
    exact ⟨rfl, same.out hB.out⟩
  rw [if_neg c2] at hE
  rw [if_pos hE.symm] at hS' hR
  replace hE := Lib.hid hE
  replace hS' := Lib.hid hS'
  replace hR := Lib.hid hR
  have c2b : decide ((256 : Int) ≤ (ln : Int)) = false := by simp; omega
  obtain ⟨rd, hrd'⟩ : ∃ rd, S.rd = rd := ⟨_, rfl⟩
  have hrd2 := hrd.out
  rw [hrd'] at q1 hrd2
  have W1 : IntKind.u64.wrap (rd + 1) = rd + 1 := by rw [IntKind.wrap_u64]; omega
  have hb3 := (hH.out.below hB.out).isBlk
  have f1 := hb3.frz 1
  clear hb3 same
  replace hrd' := Lib.hid hrd'
  replace hrd2 := Lib.hid hrd2
  replace c2 := Lib.hid c2
  go_wp2_with fail
  have hL5 := (hH.out.below hB.out).putr (rd + 1)
  have hst5 := Lib.hid ((Stays.of_below (O := fun k => k = b ∨ (Value.slice pw ln cw).ownBlock = some k) hB.out).setCell (p := ⟨b, 1, none⟩) (fun _ => .inl rfl) (.int .u64 (rd + 1)))
  have hca5 := Lib.hid ((Calms.below hB.out).trans (calms_set (i := 1) (hH.out.below hB.out).apart.2.2.2.1 (.int .u64 (rd + 1))))
  have i5 : (w3.setCell ⟨b, 1, none⟩ (.int .u64 (rd + 1))).cell? ⟨w.heap.size, 0, none⟩ = some (.int .u64 id) := (cell_same (w := w3) (p := ⟨w.heap.size, 0, none⟩) (Below.heap_setCell _ _ _ _ (by have := hH.out.lt; dsimp only; omega))).trans i0
  have hsl := hst5.out.size
  clear q0 q1 q2 q3 i0 f1
  generalize w3.setCell ⟨b, 1, none⟩ (.int .u64 (rd + 1)) = W5 at *
  have hb5 := hL5.isBlk
  dsimp only at hb5
  obtain ⟨q0, q1, q2, q3, -⟩ := hb5.c4
  have hno : (Value.slice pw ln cw).ownBlock ≠ some b := hL5.apart.2.1
  have hni : (Value.slice pw ln cw).ownBlock ≠ some w.heap.size := fun e => by have := (hH.out.row.block e).2; omega
  have k1 := fun x : Cls (OneRow (.slice pw ln cw) W5) => stays_at x.is q1 hno
  have k2 := fun x : Cls (OneRow (.slice pw ln cw) W5) => stays_at x.is q2 hno
  have ki := fun x : Cls (OneRow (.slice pw ln cw) W5) => stays_at (a := ⟨w.heap.size, 0, none⟩) x.is i5 hni
  have hnon : Nonempty (Cls (OneRow (.slice pw ln cw) W5)) := ⟨⟨_, Stays.of_below (Below.refl _ _)⟩⟩
  have hB5 : Below w.heap.size w W5 ∨ True := .inr trivial
  clear hB5 q0 q1 q2 q3 i5 hb5 hno hni
  replace hL5 := Lib.hid hL5
  replace hsl := Lib.hid hsl
  refine Lx.wp_region_chain_tail (fun w' => ∃ x : Cls (OneRow (.slice pw ln cw) W5), w' = x.wo) (fun _ => False) [13, 15, 16] [] 19 (fun w' => Below W5.heap.size W5 w') (by kernel_rfl) (by kernel_rfl) (by kernel_rfl) (by kernel_rfl) (cls_of (Stays.of_below ((Below.refl _ _).drew))) ((Below.refl _ _).drew) ?_
  simp only [List.take_succ_cons, List.take_zero, List.drop_succ_cons, List.drop_zero]
  repeat (refine Lx.wpCh_one (by rfl) (by rfl) ?_; go_big_quiet_step (fail); refine wpQuiet_nil ?_)
  have hlc : Hid (c.length ≤ 100000) := Lib.hid (by have := hmc.out; simp [may] at this; omega)
  have hC5 := Lib.hid (hcf.out.keep hca5.out)
  have hwf := Lib.hid hN.out.2
  refine Lx.wpCh_relp (fun v A => ∃ q d, v = .slice q c.length d ∧ Cf 0 A (.slice q c.length d) c ∧ Below W5.heap.size W5 A) (by rfl) (by rfl) (fun h => by cases h) (fun w' hx hS R hR => ?_) (fun v hv => ?_)
  · obtain ⟨x, rfl⟩ := hx
    have hC := CloneAny_calls _ c x.wo (hC5.out.keep (Calms.below hS)).n hlc.out
    replace hS := Lib.hid hS
    go_simp
    refine hC.mono ?_
    rintro e w' ⟨u, rfl, hown, hb2⟩
    have hcf := Cf.own (B := 0) hown hwf.out
    obtain ⟨q, d, hu, -⟩ := hcf.n.parts
    subst hu
    exact ⟨_, rfl, hR _ _ (cls_of (stays_on x.is hb2)) ⟨_, _, rfl, hcf, Lx.bstep hS.out (Nat.le_refl _) hb2⟩ (fun h => by cases h)⟩
  obtain ⟨_, -, q, d, rfl, -, -⟩ := hv
  go_big_quiet_step (fail)
  refine wpQuiet_nil ?_
  repeat (refine Lx.wpCh_one (by rfl) (by rfl) ?_; go_big_quiet_step (fail); refine wpQuiet_nil ?_)
  refine Lx.wpCh_relp (fun v A => ∃ ad, v = .slice (some ad) 1 1 ∧ (∀ j u, (wtC ⟨id, cm, rd + 1, c⟩ (.slice q c.length d))[j]? = some u → A.cell? (ad.add j) = some u) ∧ Cf 0 A (.slice q c.length d) c ∧ Below W5.heap.size W5 A) (by rfl) (by rfl) (fun h => by cases h) (fun w' hx hS R hR => ?_) (fun v hv => ?_)
  · obtain ⟨x, rfl⟩ := hx
    replace hS := Lib.hid hS
    go_simp
    have hbl : Below x.wo.heap.size x.wo (x.wo.alloc (.cells #[.int .u64 id, .int .u64 cm, .int .u64 (rd + 1), .slice q c.length d] 109)) := (Below.refl _ _).alloc (Nat.le_refl _) _
    obtain ⟨q', d', e1, hcf, hb2⟩ := hS.out
    cases e1
    exact hR _ _ (cls_of (stays_on x.is hbl)) ⟨_, rfl, blkc (Blk.new x.wo _ _), hcf.keep (Calms.below hbl), Lx.bstep hb2 (Nat.le_refl _) hbl⟩ (fun h => by cases h)
  obtain ⟨_, -, ad, rfl, -, -⟩ := hv
  go_big_quiet_step (fail)
  refine wpQuiet_nil ?_
  repeat (refine Lx.wpCh_one (by rfl) (by rfl) ?_; go_big_quiet_step (fail); refine wpQuiet_nil ?_)
  have hlo : Hid (B0 ≤ W5.heap.size) := Lib.hid (by have := hH.out.lo; have := hH.out.lt; have := hsl.out; omega)
  refine Lx.wpCh_relp (fun v A => WRow B0 A v (S.l ++ [⟨id, cm, rd + 1, c⟩]) ∧ Calms 0 W5 A ∧ ∀ k, v.ownBlock = some k → (Value.slice pw ln cw).ownBlock = some k ∨ W5.heap.size ≤ k) (by rfl) (by rfl) (fun h => by cases h) (fun w' hx hS R hR => ?_) (fun v hv => ?_)
  · obtain ⟨x, rfl⟩ := hx
    obtain ⟨ad', e1, hcells, hcf, hb⟩ := hS
    cases e1
    have hrow := (hL5.out.below hb).row
    obtain ⟨v', w'', hr, hRow, hg, hcm, hvo⟩ := hrow.append (Nat.le_trans hlo.out hb.size) 104 ad 1 ⟨id, cm, rd + 1, c⟩ _ hcf hcells (by have h1 := hln.out; have h2 := c2.out; dsimp only; omega)
    rw [run_append_op (s := .tmp 51) (x := .tmp 62) (t := 104) rfl rfl rfl hr]
    refine hR _ _ (cls_of (x.is.trans (Stays.of_grown (O := fun k => (Value.slice pw ln cw).ownBlock = some k) hg (fun k hk _ => hk)) (fun _ _ h => h))) ⟨hRow, (Calms.below hb).trans hcm, fun k hk => ?_⟩ (fun h => by cases h)
    rcases hvo with h1 | h1
    · exact .inl (h1 ▸ hk)
    · rw [h1] at hk; cases hk; exact .inr hb.size
  obtain ⟨_, -, hv9, -, -⟩ := hv
  obtain ⟨p9, c9, rfl, -⟩ := hv9.parts
  clear hv9
  go_big_quiet_step (fail)
  refine wpQuiet_nil ?_
  repeat (refine Lx.wpCh_one (by rfl) (by rfl) ?_; go_big_quiet_step (fail); refine wpQuiet_nil ?_)
  refine Lx.wpCh_nil ?_
  intro w6 hx hS
  obtain ⟨x, rfl⟩ := hx
  have hx := Lib.hid x.is
  replace hS := Lib.hid hS
  obtain ⟨l9, hl9⟩ : ∃ l9, (S.l ++ [(⟨id, cm, rd + 1, c⟩ : Wt)]).length = l9 := ⟨_, rfl⟩
  rw [hl9] at hS ⊢
  generalize x.wo = w6 at *
  clear x hnon k1 k2 ki hl9
  have hb6 : Blk w6 b [.int .i64 S.me, .int .u64 (rd + 1), (.slice pw ln cw), .map (some hb)] := ⟨_, (hx.out.block b hL5.out.lt hL5.out.apart.2.1).trans hL5.out.blk⟩
  have f3 := hb6.frz 2
  have q3' := hb6.cell 2 rfl
  have hL6 := Lib.hid (hL5.out.put hx.out hS.out.2.1 hS.out.1 hS.out.2.2)
  have q1' := hb6.cell 1 rfl
  clear hb6
  go_wp2_with fail
  go_ret2
  have e1 := hS'.out
  have e2 := hR.out
  rw [hrd'.out] at e1 e2
  subst e1 e2
  refine ⟨by rw [← hE.out]; rfl, _, hL6.out, ?_, ?_, fun k hk => ?_⟩
  · exact (hst5.out.trans hx.out (fun i _ h => .inr h)).setCell (p := ⟨b, 2, none⟩) (fun _ => .inl rfl) _
  · have hbb := hx.out.block b hL5.out.lt hL5.out.apart.2.1
    exact (hca5.out.trans hS.out.2.1).trans (calms_set (fun hc' => hL5.out.apart.2.2.2.1 (hc'.keep hbb.symm)) _)
  · rcases hS.out.2.2 k hk with h1 | h1
    · exact .inl h1
    · exact .inr (Nat.le_trans hsl.out h1)
end Go.Proofs.Ytjjdfhokmiaekaa
