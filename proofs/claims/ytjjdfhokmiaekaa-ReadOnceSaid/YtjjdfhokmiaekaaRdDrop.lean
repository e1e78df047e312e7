/-
  (*Reads).Drop, Waits, Round.
-/
import Derived.Test.YtjjdfhokmiaekaaRdAck
namespace Go.Proofs.Ytjjdfhokmiaekaa
open Go Go.RowKit Go.Lst Go.Lx Go.Maps Go.ChangeMaps

theorem HMap.cleared {w : World} {b n : Nat} {h : Int → Int} (hm : HMap w b n h) : ∃ w', (∀ ty, (Builtin.clear_ #[31] ty #[.map (some b)]).run Try.prog w = .ok (.tuple #[]) w') ∧ HMap w' b 0 (fun _ => 0) ∧ w.grownBy w' (some b) := by
  obtain ⟨D, ⟨es, cl, hb, F, hs, rfl⟩, h2, h3⟩ := hm
  refine ⟨setBlock w b (.map #[] cl), fun ty => ?_, ⟨.map [], ⟨#[], cl, heap_setBlock_same hb _, ⟨by simp, MapKept.stamped_empty cl, by simp⟩, Nat.le_refl _, rfl⟩, ⟨_, rfl⟩, fun x => rfl⟩, ⟨rfl, rfl, rfl, by simp [setBlock], fun i _ hi => heap_setBlock_other hb _ (fun e => hi (by rw [e]))⟩⟩
  simp [Builtin.clear_, run_underlying Try.underlying31, MapKept.run_getObj_map hb, MapKept.run_setObj_map _ hb, Result.andThen]
  rfl
theorem infoU64 : (Try.prog.info? 32).map (fun i => (i.zero, i.size, i.bytes)) = some (some (.int .u64 0), 1, 8) := by kernel_rfl
theorem cell_two_new (w : World) (X : Obj) (u : Value) (T : TypeId) : ∀ j v, [u][j]? = some v → ((w.alloc X).alloc (.cells #[u] T)).cell? ((⟨w.heap.size + 1, 0, none⟩ : Addr).add j) = some v := by
  have h := cell_one_new (w.alloc X) u T
  rwa [show (w.alloc X).heap.size = w.heap.size + 1 by simp] at h
set_option maxRecDepth 100000 in
set_option maxHeartbeats 4000000 in
theorem Drop_calls {B0 : Nat} {w : World} {b hb n : Nat} {wv : Value} {S : RS} (h : RdAt B0 w b hb n wv S) (hl : S.l.length ≤ 256) :
    Calls Try.prog 20 #[.pointer (some ⟨b, 0, none⟩)] w fun y w' => ∃ u, y = .returned u ∧ w'.ownsRow w.heap.size 32 1 u S.l.length (S.l.map fun e => .int .u64 e.id) ∧ RdAt B0 w' b hb 0 (.slice none 0 0) { S with l := [], h := fun _ => 0 } ∧ Stays (fun k => k = b ∨ k = hb) w w' ∧ Calms 0 w w' := by
  obtain ⟨i0, hi, hz0, hz1, hz2⟩ := info_parts infoU64
  have hmn := fun A => eql_map_nil A hb
  obtain ⟨pw, cw, hwv, hwc, hwm⟩ := h.row.parts
  obtain ⟨ln, hln⟩ : ∃ ln, S.l.length = ln := ⟨_, rfl⟩
  rw [hln] at hwv hwc hl ⊢
  subst hwv
  have hH := Lib.hid h
  obtain ⟨q0, q1, q2, q3, -⟩ := h.isBlk.c4
  have hlo : B0 ≤ w.heap.size := by have := h.lo; have := h.lt; omega
  clear h
  replace hln := Lib.hid hln
  replace hwc := Lib.hid hwc
  replace hwm := Lib.hid hwm
  replace hlo := Lib.hid hlo
  go_enter Try.func20, Try.ntmps20
  go_wp2_with fail
  go_loopg [2, 19] (ln + 1) (fun k v2 v19 wr => ∃ i : Nat, v19 = .int .i64 (i : Int) ∧ i ≤ ln ∧ ln < i + k ∧ wr.ownsRow w.heap.size 32 1 v2 i ((S.l.take i).map fun e => .int .u64 e.id) ∧ Below w.heap.size w wr)
  case atStart => exact ⟨0, rfl, by omega, by omega, World.ownsRow_nil _ _ _ _, Below.refl _ _⟩
  case round =>
    obtain ⟨i, rfl, hile, hfuel, hown, hB⟩ := hrel
    cases gk with
    | zero => omega
    | succ k =>
      by_cases hlt : i < ln
      case pos =>
        have hlt1 : (i : Int) < (ln : Int) := by omega
        have h0 : (0 : Int) ≤ (i : Int) := by omega
        have hil : i < S.l.length := by have := hln.out; omega
        obtain ⟨a, c', cv, ev, g0, g1, g2, g3, hcv⟩ := hH.out.row.get i hil
        rw [hln.out] at ev
        injection ev with e1 e2 e3
        subst e1 e3
        replace g0 := (cell_below hB g0).trans g0
        replace g1 := (cell_below hB g1).trans g1
        replace g2 := (cell_below hB g2).trans g2
        replace g3 := (cell_below hB g3).trans g3
        obtain ⟨q, d, hcv2, -⟩ := hcv.n.parts
        subst hcv2
        have hst : (S.l.take (i + 1)).map (fun e => Value.int .u64 e.id) = (S.l.take i).map (fun e => Value.int .u64 e.id) ++ [.int .u64 S.l[i].id] := by
          rw [List.take_succ_eq_append_getElem hil, List.map_append]
          rfl
        generalize S.l[i] = e at *
        obtain ⟨id, x, r, cc⟩ := e
        dsimp only at g0 g1 g2 g3 hst
        have hbz := hB.size
        replace hst := Lib.hid hst
        clear e2 hcv
        go_wp2_with (at_builtin; refine wpList_append_own _ rfl (.tmp 23) (.tmp 27) 48 rfl w.heap.size 32 i0 (.int .u64 0) 1 8 Try.underlying48 hi hz0 hz1 hz2 rfl (by decide) _ _ _ rfl ((hown.alloc _).alloc _) ⟨wr.heap.size + 1, 0, none⟩ 1 1 [.int .u64 id] rfl rfl (cell_two_new _ _ _ _) (by simp [Value.oneCell']) (by unfold maxLen; omega) (by omega) (by simp; omega) ?_; intro v' w2 hown2 hgrow2 _)
        go_roundg k
        case measure => omega
        case rel =>
          refine ⟨i + 1, by go_num, by omega, by omega, ?_, ((hB.alloc hB.size _).alloc (by simp; omega) _).grown hgrow2 (by simp; omega) (fun j hj => (hown.lt j hj).1)⟩
          rw [hst.out]
          exact hown2
      case neg =>
        have hd : decide ((i : Int) < (ln : Int)) = false := by simp; omega
        have e : S.l.take i = S.l := List.take_of_length_le (by have := hln.out; omega)
        have hi' : i = ln := by omega
        rw [e, hi'] at hown
        have hL1 := hH.out.below hB
        have hL2 := hL1.put (Stays.of_below (Below.refl _ _)) (Calms.refl 0 wr) (WRow.nil B0 wr) (fun k hk => by cases hk)
        obtain ⟨w6, hclr, hM6, hg6⟩ := hL2.map.cleared
        have hap := hL2.apart
        have hst1 : Stays (fun k => k = b ∨ k = hb) w (wr.setCell ⟨b, 2, none⟩ (.slice none 0 0)) := (Stays.of_below hB).setCell (p := ⟨b, 2, none⟩) (fun _ => .inl rfl) _
        have hca1 : Calms 0 w (wr.setCell ⟨b, 2, none⟩ (.slice none 0 0)) := (Calms.below hB).trans (calms_set hL1.apart.2.2.2.1 _)
        have hc6 : Calms 0 (wr.setCell ⟨b, 2, none⟩ (.slice none 0 0)) w6 := ⟨hg6.size, fun g hlt hc => hg6.block g hlt (fun e => by cases e; exact hap.2.2.2.2.1 hc)⟩
        have hR6 : RdAt B0 w6 b hb 0 (.slice none 0 0) { S with l := [], h := fun _ => 0 } := ⟨(hg6.block b hL2.lt (fun e => hap.1 (by cases e; rfl))).trans hL2.blk, WRow.nil _ _, hM6, hL2.lo⟩
        have hst6 : Stays (fun k => k = b ∨ k = hb) w w6 := hst1.trans (Stays.of_grown (O := fun k => k = hb) hg6 (fun k hk _ => by cases hk; rfl)) (fun i _ h => .inr h)
        have hbr : ∀ g, u2.ownBlock = some g → w6.heap[g]? = wr.heap[g]? := fun g hg => by
          have h1 := hown.lt g hg
          have h2 := hH.out.lt
          have h3 := hH.out.hlt
          rw [hg6.block g (by simp; exact h1.2) (fun e => by cases e; omega)]
          exact Below.heap_setCell _ _ _ _ (by dsimp only; omega)
        have hown6 := own_keep hown hbr
        obtain ⟨pu, lu, cu, hu⟩ := own_slice hown
        subst hu
        have hbk := hL1.isBlk
        have f2 := hbk.frz 2
        have p2 := hbk.cell 2 rfl
        have p3 := hbk.cell 3 rfl
        replace hca1 := Lib.hid (hca1.trans hc6)
        clear hL1 hL2 hM6 hg6 hap hst1 hc6 hbr hbk q0 q1 q2 q3 hfuel hile
        replace hR6 := Lib.hid hR6
        replace hst6 := Lib.hid hst6
        replace hown6 := Lib.hid hown6
        replace hown := Lib.hid hown
        replace hB := Lib.hid hB
        go_wp2_with fail
        go_ret
        exact ⟨_, rfl, hown6.out, hR6.out, hst6.out, hca1.out⟩
set_option maxRecDepth 100000 in
theorem Waits_calls {B0 : Nat} {w : World} {b hb n : Nat} {wv : Value} {S : RS} (h : RdAt B0 w b hb n wv S) :
    Calls Try.prog 21 #[.pointer (some ⟨b, 0, none⟩)] w fun y w' => y = .returned (.int .i64 S.l.length) ∧ Below w.heap.size w w' := by
  obtain ⟨pw, cw, hwv, hwc, hwm⟩ := h.row.parts
  subst hwv
  obtain ⟨q0, q1, q2, q3, -⟩ := h.isBlk.c4
  clear h
  go_enter Try.func21, Try.ntmps21
  go_wp2_with fail
  go_ret
  exact ⟨rfl, Below.refl _ _⟩
set_option maxRecDepth 100000 in
theorem Round_calls {B0 : Nat} {w : World} {b hb n : Nat} {wv : Value} {S : RS} (h : RdAt B0 w b hb n wv S) :
    Calls Try.prog 16 #[.pointer (some ⟨b, 0, none⟩)] w fun y w' => y = .returned (.int .u64 S.rd) ∧ Below w.heap.size w w' := by
  obtain ⟨q0, q1, q2, q3, -⟩ := h.isBlk.c4
  clear h
  go_enter Try.func16, Try.ntmps16
  go_wp2_with fail
  go_ret
  exact ⟨rfl, Below.refl _ _⟩
end Go.Proofs.Ytjjdfhokmiaekaa
