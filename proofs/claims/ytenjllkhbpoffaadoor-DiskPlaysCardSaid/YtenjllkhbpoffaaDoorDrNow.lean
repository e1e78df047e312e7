/-
  The reference's disk: New, burns, Now, Left.
-/
import Derived.Test.YtenjllkhbpoffaaDoorDrAt
namespace Go.Proofs.YtenjllkhbpoffaaDoor
open Go Go.Maps Go.WideMaps Go.Dsk Go.Lx Go.Lst Go.RowKit

set_option maxRecDepth 100000 in
theorem rNew_bad (w : World) (room : Int) (h : room < 0 ∨ 16777216 < room) : Calls Tryd.prog 22 #[.int .i64 room] w fun y w' => y = .returned (.pointer none) ∧ Below w.heap.size w w' := by
  by_cases h1 : room < 0
  · have h1b : decide (room < 0) = true := decide_eq_true h1
    clear h h1
    go_enter Tryd.func22, Tryd.ntmps22
    go_wp2_with fail
    go_ret
    exact ⟨rfl, Below.refl _ _⟩
  have h1b : decide (room < 0) = false := decide_eq_false h1
  have h2b : decide (16777216 < room) = true := decide_eq_true (h.resolve_left h1)
  clear h h1
  go_enter Tryd.func22, Tryd.ntmps22
  go_wp2_with fail
  go_ret
  exact ⟨rfl, Below.refl _ _⟩
set_option maxRecDepth 100000 in
theorem rNew_good (w : World) (room : Int) (h : 0 ≤ room ∧ room ≤ 16777216) : Calls Tryd.prog 22 #[.int .i64 room] w fun y w' => ∃ b, y = .returned (.pointer (some ⟨b, 0, none⟩)) ∧ Rf w' (Gr (fun _ => False) w w') b (newM room) ∧ Below w.heap.size w w' := by
  have h1b : decide (room < 0) = false := decide_eq_false (by omega)
  have h2b : decide (16777216 < room) = false := decide_eq_false (by omega)
  replace h := Lib.hid h
  go_enter Tryd.func22, Tryd.ntmps22
  go_wp2_with fail
  go_ret
  have hb : Below w.heap.size w (w.alloc (.cells #[.int .i64 room, .slice none 0 0, .slice none 0 0, .int .i64 (-1)] 51)) := (Below.refl _ _).alloc (Nat.le_refl _) _
  refine ⟨w.heap.size, rfl, ⟨newM_ok h.out, .slice none 0 0, .slice none 0 0, ⟨heap_new _ _, RRow.nil _ _ _, RRow.nil _ _ _, fun k hk => ?_, fun k hk => ?_⟩⟩, hb⟩
  · rcases hk with rfl | hk | hk
    · exact .inr ⟨Nat.le_refl _, by simp⟩
    · cases hk
    · cases hk
  · exact hk.elim (fun h => h.elim) (fun h => h.2)
/-! burns -/
set_option maxRecDepth 100000 in
set_option maxHeartbeats 1000000 in
theorem rburns_calls {w : World} {O : Nat → Prop} {r : Nat} {sv lv : Value} {room fuse : Int} {S : Files} {l : List Lc} (h : RfAt w O r sv lv room S l fuse) (hfu : -1 ≤ fuse ∧ fuse ≤ 9223372036854775807) :
    Calls Tryd.prog 53 #[.pointer (some ⟨r, 0, none⟩)] w fun e w' => e = .returned (.bool (decide (fuse ≠ 0))) ∧ RfAt w' O r sv lv room S l (if 0 < fuse then fuse - 1 else fuse) ∧ Stays (fun k => k = r) w w' := by
  obtain ⟨q0, q1, q2, q3⟩ := h.c4
  have f3 := h.isBlk.frz 3
  have hH := Lib.hid h
  clear h q0 q1 q2
  by_cases c1 : fuse = 0
  · subst c1
    replace hfu := Lib.hid hfu
    go_enter Tryd.func53, Tryd.ntmps53
    go_wp2_with fail
    go_ret
    exact ⟨rfl, hH.out, Stays.of_below (Below.refl _ _)⟩
  have c1b : decide (fuse = 0) = false := decide_eq_false c1
  by_cases c2 : 0 < fuse
  · have c2b : decide (0 < fuse) = true := decide_eq_true c2
    have c3 : (-9223372036854775808 : Int) ≤ fuse - 1 := by omega
    have c4 : fuse - 1 ≤ 9223372036854775807 := by omega
    replace hfu := Lib.hid hfu
    go_enter Tryd.func53, Tryd.ntmps53
    go_wp2_with fail
    go_ret
    refine ⟨?_, ?_, ?_⟩
    · simp [c1]
    · exact hH.out.putF _
    · exact stays_put (O := fun k => k = r) w r 3 rfl _
  · have c2b : decide (0 < fuse) = false := decide_eq_false c2
    replace hfu := Lib.hid hfu
    go_enter Tryd.func53, Tryd.ntmps53
    go_wp2_with fail
    go_ret
    refine ⟨?_, ?_, ?_⟩
    · simp [c1]
    · exact hH.out
    · exact Stays.of_below (Below.refl _ _)
/-! Now -/
theorem cC_four (c : Lc) : ∃ x a b y, cC c = [.int .i64 x, .string a, .string b, .int .i64 y] := by
  cases c with
  | app k s => exact ⟨_, _, _, _, rfl⟩
  | cut k n => exact ⟨_, _, _, _, rfl⟩
  | ren a b => exact ⟨_, _, _, _, rfl⟩
  | rem k => exact ⟨_, _, _, _, rfl⟩
theorem rdone_calls {B : Nat} {w : World} {v : Value} {F : Files} (h : FRow B w v F) (hR : Rise F) (c : Lc) (hf : Fit F c) (hl : F.length ≤ 999) (hz : tot F ≤ 16777216) (hz2 : tot (Dsk.done F c) ≤ 16777216) : Calls Tryd.prog 56 #[v, .agg (cC c).toArray] w fun e w' => ∃ v', e = .returned v' ∧ FRow w.heap.size w' v' (Dsk.done F c) ∧ Below w.heap.size w w' := by
  cases c with
  | app k s =>
    have h1 : tot (putF F k (atF F k ++ s)) ≤ 16777216 := hz2
    have h2 := tot_put hR k (atF F k ++ s)
    have h3 := tot_at hR k
    rw [ByteArray.size_append] at h2
    exact rdone_app h hR k s (by omega) hl
  | cut k n =>
    have h3 := tot_at hR k
    exact rdone_cut h hR k n hf.2.2 hf.2.1 (by omega) hl
  | ren a b => exact rdone_ren h hR a b hl
  | rem k => exact rdone_rem h hR k hl
set_option maxRecDepth 100000 in
set_option maxHeartbeats 1000000 in
theorem rNow_calls {w : World} {O : Nat → Prop} {r : Nat} {sv lv : Value} {room fuse : Int} {S : Files} {l : List Lc} (h : RfAt w O r sv lv room S l fuse) (hk : LOk S l) :
    Calls Tryd.prog 46 #[.pointer (some ⟨r, 0, none⟩)] w fun e w' => ∃ v', e = .returned v' ∧ FRow 0 w' v' (all S l) ∧ Below w.heap.size w w' ∧ ∀ k, v'.ownBlock = some k → sv.ownBlock = some k ∨ w.heap.size ≤ k := by
  obtain ⟨q0, q1, q2, q3⟩ := h.c4
  obtain ⟨p, c, hv, hc1, hc2⟩ := h.loose.parts
  subst hv
  obtain ⟨n, hn⟩ : ∃ n, l.length = n := ⟨_, rfl⟩
  rw [hn] at hc1
  rw [hn] at h q2
  have hH := Lib.hid h
  replace hk := Lib.hid hk
  replace hn := Lib.hid hn
  have hc3 : (n : Int) ≤ 9223372036854775807 := by unfold maxLen at hc2; omega
  have hsv : Hid (FRow 0 w sv S) := Lib.hid h.sure
  clear h q0 q3
  replace hc1 := Lib.hid hc1
  replace hc2 := Lib.hid hc2
  go_enter Tryd.func46, Tryd.ntmps46
  go_wp2_with fail
  go_loopg [3, 4] (n + 1) (fun g v3 v4 A => ∃ j : Nat, j ≤ n ∧ n < j + g ∧ v4 = .int .i64 (j : Int) ∧ FRow 0 A v3 (all S (l.take j)) ∧ (∀ k, v3.ownBlock = some k → sv.ownBlock = some k ∨ w.heap.size ≤ k) ∧ Below w.heap.size w A)
  case atStart => exact ⟨0, by omega, by omega, rfl, hsv.out, fun k hk => .inl hk, Below.refl _ _⟩
  case round =>
    obtain ⟨j, hj, hg, rfl, hrow, ho, hb⟩ := hrel
    cases gk with
    | zero => omega
    | succ g =>
    have z1 := below_cell hb q1
    have z2 := below_cell hb q2
    by_cases hlt : j < n
    case neg =>
      as_aux_lemma =>
      obtain rfl : j = n := by omega
      have hd : decide (j < j) = false := decide_eq_false hlt
      have hr2 : Hid (FRow 0 wr u3 (all S l)) := Lib.hid (by rwa [List.take_of_length_le (Nat.le_of_eq hn.out)] at hrow)
      replace hb := Lib.hid hb
      replace ho := Lib.hid ho
      clear hrow hj hg
      go_wp2_with fail
      go_ret
      exact ⟨_, rfl, hr2.out, hb.out, ho.out⟩
    case pos =>
      as_aux_lemma =>
      have hd : decide (j < n) = true := decide_eq_true hlt
      have hj0 : (0 : Int) ≤ (j : Int) := by omega
      have hj1 : (j : Int) < (n : Int) := by omega
      have hjl : j < l.length := by rw [hn.out]; exact hlt
      obtain ⟨g1, c', e, hcell⟩ := (hH.out.below hb).loose.get j hjl
      obtain rfl : p = some ⟨g1, 0, none⟩ := by injection e
      clear e
      have hs1 := hk.out.small j (Nat.le_of_lt hjl)
      have hs2 := hk.out.small (j + 1) hjl
      have hD := rdone_calls hrow (rise_all hk.out.rise _) l[j] (hk.out.fits j l[j] (List.getElem?_eq_getElem hjl)) (by omega) hs1.1 (by rw [← all_take_succ _ _ _ hjl]; exact hs2.1)
      rw [← all_take_succ _ _ _ hjl] at hD
      obtain ⟨x, a, b, y, hx⟩ := cC_four l[j]
      rw [hx] at hD hcell
      have y0 : wr.cell? ⟨g1, j * 4, none⟩ = some (.int .i64 x) := hcell 0 (by omega)
      have y1 : wr.cell? ⟨g1, j * 4 + 1, none⟩ = some (.string a) := hcell 1 (by omega)
      have y2 : wr.cell? ⟨g1, j * 4 + 2, none⟩ = some (.string b) := hcell 2 (by omega)
      have y3 : wr.cell? ⟨g1, j * 4 + 3, none⟩ = some (.int .i64 y) := hcell 3 (by omega)
      replace hD := Lib.hid hD
      replace hb := Lib.hid hb
      clear hcell hx hrow ho hs1 hs2
      go_wp2_with fail
      refine hD.out.mono ?_
      rintro e w2 ⟨v2, rfl, hr2, hb2⟩
      have hown : Hid (∀ k, v2.ownBlock = some k → sv.ownBlock = some k ∨ w.heap.size ≤ k) := Lib.hid (fun k hk => .inr (Nat.le_trans hb.out.size (hr2.block hk).1))
      have hr3 : Hid (FRow 0 w2 v2 (all S (l.take (j + 1)))) := Lib.hid (RRow.mono hr2 (Nat.zero_le _))
      have hb3 := Lib.hid (Lx.bstep hb.out (Nat.le_refl _) hb2)
      clear hr2 hb2 hD hb
      go_wp2_with fail
      go_roundg g
      case measure => omega
      case rel => exact ⟨j + 1, by omega, by omega, by go_num, hr3.out, hown.out, hb3.out⟩
/-! Left -/
theorem tot_take {F : Files} (j : Nat) (hj : j < F.length) : tot (F.take (j + 1)) = tot (F.take j) + F[j].2.size := by
  unfold tot
  rw [List.take_succ_eq_append_getElem hj]
  simp only [List.map_append, List.sum_append, List.map_cons, List.map_nil, List.sum_cons, List.sum_nil, Nat.add_zero]
theorem tot_take_le (F : Files) (j : Nat) : tot (F.take j) ≤ tot F := by
  conv => rhs; rw [← List.take_append_drop j F]
  unfold tot
  rw [List.map_append, List.sum_append]
  omega
set_option maxRecDepth 100000 in
set_option maxHeartbeats 1000000 in
theorem rLeft_calls {w : World} {O : Nat → Prop} {r : Nat} {sv lv : Value} {room fuse : Int} {S : Files} {l : List Lc} (h : RfAt w O r sv lv room S l fuse) (hk : LOk S l) (hroom : 0 ≤ room ∧ room ≤ 16777216) :
    Calls Tryd.prog 25 #[.pointer (some ⟨r, 0, none⟩)] w fun e w' => e = .returned (.int .i64 (room - tot (all S l))) ∧ Below w.heap.size w w' := by
  obtain ⟨q0, q1, q2, q3⟩ := h.c4
  have hC := Lib.hid (rNow_calls h hk)
  have hsm := hk.small l.length (Nat.le_refl _)
  rw [List.take_length] at hsm
  obtain ⟨F, hF⟩ : ∃ F, all S l = F := ⟨_, rfl⟩
  rw [hF] at hC hsm ⊢
  obtain ⟨n, hn⟩ : ∃ n, F.length = n := ⟨_, rfl⟩
  rw [hn] at hsm
  obtain ⟨t1, t2⟩ := hsm
  have ht1 := Lib.hid t1
  have hro := Lib.hid hroom
  replace hn := Lib.hid hn
  replace t2 : Hid (n ≤ 64) := Lib.hid t2
  obtain ⟨T, hT⟩ : ∃ T : Int, room - (tot F : Int) = T := ⟨_, rfl⟩
  rw [hT]
  replace hT := Lib.hid hT
  clear h hk q1 q2 q3 hF t1 hroom
  go_enter Tryd.func25, Tryd.ntmps25
  go_wp2_with fail
  refine hC.out.mono ?_
  rintro e w1 ⟨v1, rfl, hr1, hb1, -⟩
  have q0' := below_cell hb1 q0
  clear q0 hC
  obtain ⟨p, c, hv, hc1, hc2⟩ := hr1.parts
  subst hv
  rw [hn.out] at hc1
  rw [hn.out] at hr1 ⊢
  replace hr1 := Lib.hid hr1
  replace hb1 := Lib.hid hb1
  replace hc1 := Lib.hid hc1
  replace hc2 := Lib.hid hc2
  go_wp2_with fail
  go_loopg [4, 5] (n + 1) (fun g v4 v5 A => ∃ j : Nat, j ≤ n ∧ n < j + g ∧ v4 = .int .i64 (room - (tot (F.take j) : Int)) ∧ v5 = .int .i64 (j : Int) ∧ A = w1)
  case atStart => exact ⟨0, by omega, by omega, by simp [tot], rfl, rfl⟩
  case round =>
    obtain ⟨j, hj, hg, rfl, rfl, rfl⟩ := hrel
    cases gk with
    | zero => omega
    | succ g =>
    by_cases hlt : j < n
    case neg =>
      as_aux_lemma =>
      obtain rfl : j = n := by omega
      have hd : decide (j < j) = false := decide_eq_false hlt
      rw [List.take_of_length_le (Nat.le_of_eq hn.out), hT.out]
      go_wp2_with fail
      go_ret
      exact ⟨rfl, hb1.out⟩
    case pos =>
      as_aux_lemma =>
      have hd : decide (j < n) = true := decide_eq_true hlt
      have hj0 : (0 : Int) ≤ (j : Int) := by omega
      have hj1 : (j : Int) < (n : Int) := by omega
      have hjl : j < F.length := by rw [hn.out]; exact hlt
      obtain ⟨g1, c', e, z1, z2⟩ := hr1.out.get j hjl
      obtain rfl : p = some ⟨g1, 0, none⟩ := by injection e
      clear e z1
      have a1 := tot_take j hjl
      have a2 := tot_take_le F (j + 1)
      have hto := ht1.out
      have hrr := hro.out
      generalize F[j].2 = s at *
      have b1 : (-9223372036854775808 : Int) ≤ room - (tot (F.take j) : Int) - (s.size : Int) := by omega
      have b2 : room - (tot (F.take j) : Int) - (s.size : Int) ≤ 9223372036854775807 := by omega
      have b3 : Hid (room - (tot (F.take j) : Int) - (s.size : Int) = room - (tot (F.take (j + 1)) : Int)) := Lib.hid (by omega)
      obtain ⟨Y2, hY2⟩ : ∃ Y2, room - (tot (F.take (j + 1)) : Int) = Y2 := ⟨_, rfl⟩
      rw [hY2] at b3
      replace hY2 := Lib.hid hY2
      have t2' := t2.out
      clear a1 a2 hto hrr
      generalize room - (tot (F.take j) : Int) = Y at *
      go_wp2_with fail
      go_roundg g
      case measure => omega
      case rel => exact ⟨j + 1, by omega, by omega, by rw [b3.out, hY2.out], by go_num, rfl⟩
end Go.Proofs.YtenjllkhbpoffaaDoor
