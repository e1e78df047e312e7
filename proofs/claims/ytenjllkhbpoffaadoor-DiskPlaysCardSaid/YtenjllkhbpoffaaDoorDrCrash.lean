/-
  The reference's disk: Crash.
-/
import Derived.Test.YtenjllkhbpoffaaDoorDrEnd
namespace Go.Proofs.YtenjllkhbpoffaaDoor
open Go Go.Maps Go.WideMaps Go.Dsk Go.Lx Go.Lst Go.RowKit

/-! plain -/
def piece (c y : Int) (i : Nat) (x : Lc) : List Lc := if (i : Int) < c then [x] else if (i : Int) = c then (match x with | .app k s => [.app k (s.extract 0 (min (max y 0) s.size).toNat)] | _ => []) else []
def lcut (l : List Lc) (c y : Int) : Nat → List Lc
  | 0 => []
  | i + 1 => lcut l c y i ++ (match l[i]? with | some x => piece c y i x | none => [])
theorem all_app (S : Files) (a b : List Lc) : all S (a ++ b) = all (all S a) b := by simp [all]
theorem lcut_succ (l : List Lc) (c y : Int) (i : Nat) (h : i < l.length) : lcut l c y (i + 1) = lcut l c y i ++ piece c y i l[i] := by
  show lcut l c y i ++ _ = _
  rw [List.getElem?_eq_getElem h]
theorem lcut_all (S : Files) (l : List Lc) (c y : Int) : ∀ i, i ≤ l.length → all S (lcut l c y i) = crashAt S l c y i
  | 0, _ => by rw [crash_zero]; rfl
  | i + 1, hi => by
    have ih := lcut_all S l c y i (by omega)
    rw [lcut_succ l c y i hi, all_app, ih]
    unfold piece
    by_cases h1 : (i : Int) < c
    · rw [if_pos h1, (crash_lt hi h1).1]; rfl
    · rw [if_neg h1]
      by_cases h2 : (i : Int) = c
      · rw [if_pos h2, (crash_eq hi h2).1]
        cases l[i] <;> rfl
      · rw [if_neg h2, crash_gt (by omega)]; rfl
theorem LOk.snoc {S : Files} {l : List Lc} (h : LOk S l) (x : Lc) (hf : Fit (all S l) x) (ht : tot (Dsk.done (all S l) x) ≤ 16777216 ∧ (Dsk.done (all S l) x).length ≤ 64) : LOk S (l ++ [x]) := by
  refine ⟨h.rise, fun j c' hj => ?_, fun j hj => ?_⟩
  · have hj' : j < l.length + 1 := by
      have := (List.getElem?_eq_some_iff.1 hj).1
      simpa using this
    rw [List.take_append_of_le_length (by omega)]
    by_cases hlt : j < l.length
    · rw [List.getElem?_append_left hlt] at hj
      exact h.fits j c' hj
    · have e : j = l.length := by omega
      subst e
      rw [List.getElem?_append_right (Nat.le_refl _)] at hj
      simp at hj
      subst hj
      rw [List.take_of_length_le (Nat.le_refl _)]
      exact hf
  · have hj' : j ≤ l.length + 1 := by simpa using hj
    by_cases hlt : j ≤ l.length
    · rw [List.take_append_of_le_length hlt]
      exact h.small j hlt
    · rw [List.take_of_length_le (by simp; omega), all_snoc]
      exact ht
theorem lcut_lok {S : Files} {l : List Lc} (h : LOk S l) (c y : Int) : ∀ i, i ≤ l.length → LOk S (lcut l c y i)
  | 0, _ => ⟨h.rise, fun j c hj => by simp [lcut] at hj, fun j hj => by
      obtain rfl : j = 0 := by simpa [lcut] using hj
      have := h.small 0 (Nat.zero_le _)
      simpa [lcut] using this⟩
  | i + 1, hi => by
    have ih := lcut_lok h c y i (by omega)
    have ha := lcut_all S l c y i (by omega)
    have hs := h.small (i + 1) hi
    have hs0 := h.small i (by omega)
    have hf := h.fits i l[i] (List.getElem?_eq_getElem hi)
    rw [all_take_succ S l i hi] at hs
    rw [lcut_succ l c y i hi]
    unfold piece
    by_cases h1 : (i : Int) < c
    · rw [if_pos h1]
      rw [(crash_lt hi h1).2] at ha
      exact ih.snoc _ (by rw [ha]; exact hf) (by rw [ha]; exact hs)
    · rw [if_neg h1]
      by_cases h2 : (i : Int) = c
      · rw [if_pos h2]
        rw [(crash_eq hi h2).2] at ha
        have hp := part_le (rise_all h.rise (l.take i)) y l[i] 16777216 (by omega) (by omega)
        generalize l[i] = x at *
        cases x with
        | app k s => exact ih.snoc _ (by rw [ha]; exact hf) (by rw [ha]; exact ⟨by have h9 : (tot (Dsk.part (all S (l.take i)) y (.app k s)) : Int) ≤ 16777216 := hp.1; exact Int.ofNat_le.1 h9, hp.2⟩)
        | cut k n => simpa using ih
        | ren a b => simpa using ih
        | rem k => simpa using ih
      · rw [if_neg h2]; simpa using ih
theorem lcut_len (l : List Lc) (c y : Int) : ∀ i, i ≤ l.length → (lcut l c y i).length ≤ i
  | 0, _ => Nat.le_refl _
  | i + 1, hi => by
    have ih := lcut_len l c y i (by omega)
    rw [lcut_succ l c y i hi, List.length_append]
    have : (piece c y i l[i]).length ≤ 1 := by
      unfold piece
      split
      · exact Nat.le_refl _
      · split
        · split
          · exact Nat.le_refl _
          · exact Nat.zero_le _
        · exact Nat.zero_le _
    omega
/-- A call's four cells: a call that appends, or another. -/
theorem cC_kind (x : Lc) : (∃ k s, x = .app k s) ∨ (∃ n a b y, cC x = [.int .i64 n, .string a, .string b, .int .i64 y] ∧ n ≠ 0 ∧ ∀ c z (i : Nat), ¬ (i : Int) < c → piece c z i x = []) := by
  cases x with
  | app k s => exact .inl ⟨k, s, rfl⟩
  | cut k n => exact .inr ⟨_, _, _, _, rfl, by decide, fun c z i h => by unfold piece; rw [if_neg h]; split <;> rfl⟩
  | ren k n => exact .inr ⟨_, _, _, _, rfl, by decide, fun c z i h => by unfold piece; rw [if_neg h]; split <;> rfl⟩
  | rem k => exact .inr ⟨_, _, _, _, rfl, by decide, fun c z i h => by unfold piece; rw [if_neg h]; split <;> rfl⟩
theorem crow_add {w wr W1 : World} {p6 : Option Addr} {c6 : Nat} {L : List Lc} (hrow : CRow w.heap.size wr (.slice p6 L.length c6) L) (hb : Below w.heap.size w wr) (hb1 : Below wr.heap.size wr W1) (hs1 : W1.heap.size = wr.heap.size + 1) (c0 : Lc) {x z : Int} {a b : ByteArray} (hc : cC c0 = [.int .i64 x, .string a, .string b, .int .i64 z]) (hn : L.length ≤ 1000000) (ty : TypeId) :
    ∃ q d w5, (Builtin.append_ #[49, 49] ty #[.slice p6 L.length c6, .slice (some ⟨wr.heap.size + 1, 0, none⟩) 1 1]).run Tryd.prog (W1.alloc (.cells #[.int .i64 x, .string a, .string b, .int .i64 z] 81)) = .ok (.slice q (L.length + 1) d) w5 ∧ CRow w.heap.size w5 (.slice q (L.length + 1) d) (L ++ [c0]) ∧ Below w.heap.size w w5 := by
  have hsz := hb.size
  obtain ⟨q, d, w5, hrun, hr5, hg5, -⟩ := CRow.append1 (RRow.below hrow hb1) (by omega) c0 hn ty
  rw [hc, hs1] at hrun
  rw [hc] at hg5
  have hbA : Below w.heap.size w (W1.alloc (.cells [.int .i64 x, .string a, .string b, .int .i64 z].toArray 81)) := (Lx.bstep hb (Nat.le_refl _) hb1).alloc (by omega) _
  exact ⟨q, d, w5, hrun, hr5, hbA.grown hg5 hbA.size (fun k hk => (hrow.block hk).1)⟩
set_option maxRecDepth 100000 in
set_option maxHeartbeats 4000000 in
theorem rCrash_calls {w : World} {O : Nat → Prop} {r : Nat} {M : DM} (h : Rf w O r M) (c y : Int) (hl : M.loose.length < 1000000) :
    Calls Tryd.prog 44 #[.pointer (some ⟨r, 0, none⟩), .int .i64 c, .int .i64 y] w fun e w' => e = .returned (.tuple #[]) ∧ Rf w' (Gr O w w') r (crashM M c y) ∧ Stays O w w' := by
  have hlo := Lib.hid h.lo
  obtain ⟨hok, sv, lv, hA⟩ := h
  obtain ⟨-, -, q2, -⟩ := hA.c4
  obtain ⟨lp, lc, hlv, hc1, hc2⟩ := hA.loose.parts
  subst hlv
  obtain ⟨n, hn⟩ : ∃ n, M.loose.length = n := ⟨_, rfl⟩
  rw [hn] at hA q2 hc1 hl
  replace hA := Lib.hid hA
  replace hok := Lib.hid hok
  replace hn := Lib.hid hn
  replace hc1 := Lib.hid hc1
  replace hc2 := Lib.hid hc2
  replace hl := Lib.hid hl
  go_enter Tryd.func44, Tryd.ntmps44
  go_wp2_with fail
  go_loopg [6, 7, 8] (n + 1) (fun g v6 v7 v8 A => ∃ j : Nat, j ≤ n ∧ n < j + g ∧ v7 = .int .i64 (j : Int) ∧ CRow w.heap.size A v6 (lcut M.loose c y j) ∧ Below w.heap.size w A)
  case atStart => exact ⟨0, by omega, by omega, rfl, RRow.nil _ _ _, Below.refl _ _⟩
  case round =>
    obtain ⟨j, hj, hg, rfl, hrow, hb⟩ := hrel
    cases gk with
    | zero => omega
    | succ g =>
    have z2 := below_cell hb q2
    obtain ⟨p6, c6, e6, -, -⟩ := hrow.parts
    subst e6
    by_cases hlt : j < n
    case neg =>
      as_aux_lemma =>
      obtain rfl : j = n := by omega
      have hd : decide (j < j) = false := decide_eq_false hlt
      have hLc := lcut_all M.sure M.loose c y j (Nat.le_of_eq hn.out.symm)
      have hLk := lcut_lok (DOk.lok hok.out) c y j (Nat.le_of_eq hn.out.symm)
      have hcn : crashAt M.sure M.loose c y j = crashN M.sure M.loose c y := by unfold crashN; rw [hn.out]
      rw [hcn] at hLc
      have hAr := hA.out.below hb
      have hszr := hb.size
      have hA1 := (hAr.grow (O' := Gr O w wr) (fun _ hk => .inl hk) (Gr.lo hlo.out hszr)).putL (RRow.mono hrow (Nat.zero_le _)) (fun k hk => .inr (hrow.block hk))
      have hN := rNow_calls hA1 hLk
      rw [hLc] at hN
      have fz := hAr.isBlk.frz 2
      replace hA1 := Lib.hid hA1
      replace hN := Lib.hid hN
      have hor : Hid (O r) := Lib.hid (hA.out.own r (.inl rfl))
      have hst1 : Hid (Stays O w (wr.setCell ⟨r, 2, none⟩ (.slice p6 (lcut M.loose c y j).length c6))) := Lib.hid ((Stays.of_below (O := O) hb).setCell (p := ⟨r, 2, none⟩) (fun _ => hor.out) _)
      replace hb := Lib.hid hb
      generalize (lcut M.loose c y j).length = ln at *
      generalize lcut M.loose c y j = L9 at *
      clear hrow hLk hLc hcn hj hg hAr
      go_wp2_with fail
      refine hN.out.mono ?_
      rintro e w2 ⟨v2, rfl, hr2, hb2, ho2⟩
      obtain ⟨p2, c2, e2, -, -⟩ := hr2.parts
      subst e2
      have hsW : Hid (wr.heap.size = (wr.setCell ⟨r, 2, none⟩ (.slice p6 ln c6)).heap.size) := Lib.hid (by simp)
      have hA2 := hA1.out.below hb2
      have hst2 : Stays O w w2 := hst1.out.trans (Stays.of_below (O := O) hb2) (fun _ _ h => h)
      have hsv : ∀ k, sv.ownBlock = some k → O k := fun k hk => hA.out.own k (.inr (.inl hk))
      have hA3 := (((hA2.grow (O' := Gr O w w2) (fun k hk => hk.imp_right (fun h' => ⟨h'.1, by have := hb2.size; have := hsW.out; omega⟩)) (Gr.lo hlo.out hst2.size)).putS hr2 (fun k hk => (ho2 k hk).elim (fun h => .inl (hsv k h)) (fun h => .inr ⟨by have := hsW.out; omega, (hr2.block hk).2⟩))).putL (RRow.nil _ _ _) (fun k hk => by cases hk)).putF (-1)
      have hst3 := ((hst2.setCell (p := ⟨r, 1, none⟩) (fun _ => hor.out) (.slice p2 (crashN M.sure M.loose c y).length c2)).setCell (p := ⟨r, 2, none⟩) (fun _ => hor.out) (.slice none 0 0)).setCell (p := ⟨r, 3, none⟩) (fun _ => hor.out) (.int .i64 (-1))
      have hfin := Lib.hid (show Rf _ _ r (crashM M c y) from ⟨crash_ok hok.out c y, _, _, hA3.grow (fun k hk => hk.imp_right (fun h' => ⟨h'.1, by simpa using h'.2⟩)) (Gr.lo hlo.out hst3.size)⟩)
      have hbk2 := hA2.isBlk
      have f1 := hbk2.frz 1
      have d1 := hbk2.cell 1 rfl
      have f2 := (hbk2.put 1 (.slice p2 (crashN M.sure M.loose c y).length c2)).frz 2
      have d2 := (hbk2.put 1 (.slice p2 (crashN M.sure M.loose c y).length c2)).cell 2 rfl
      have f3 := ((hbk2.put 1 (.slice p2 (crashN M.sure M.loose c y).length c2)).put 2 (.slice none 0 0)).frz 3
      have d3 := ((hbk2.put 1 (.slice p2 (crashN M.sure M.loose c y).length c2)).put 2 (.slice none 0 0)).cell 3 rfl
      replace hst3 := Lib.hid hst3
      clear hr2 hb2 ho2 hA2 hst2 hsv hA3 hbk2 hN
      go_wp2_with fail
      go_end0
      exact ⟨rfl, hfin.out, hst3.out⟩
    case pos =>
      as_aux_lemma =>
      have hd : decide (j < n) = true := decide_eq_true hlt
      have hj0 : (0 : Int) ≤ (j : Int) := by omega
      have hj1 : (j : Int) < (n : Int) := by omega
      have hjl : j < M.loose.length := by rw [hn.out]; exact hlt
      obtain ⟨g1, c', e, hcell⟩ := (hA.out.below hb).loose.get j hjl
      obtain rfl : lp = some ⟨g1, 0, none⟩ := by injection e
      clear e
      have hpi := lcut_succ M.loose c y j hjl
      have hl3 := hl.out
      have hn3 := hn.out
      have hnl : (n : Int) < 1000000 := by omega
      replace hnl := Lib.hid hnl
      replace hb := Lib.hid hb
      replace hrow := Lib.hid hrow
      have hWb : Hid (∀ C, Below wr.heap.size wr (wr.alloc (.cells C 81)) ∧ (wr.alloc (.cells C 81)).heap.size = wr.heap.size + 1) := Lib.hid (fun C => ⟨(Below.refl _ _).alloc (Nat.le_refl _) _, (made1 wr C 81).2.2.symm⟩)
      by_cases h1 : (j : Int) < c
      · as_aux_lemma =>
        have h1b : decide ((j : Int) < c) = true := decide_eq_true h1
        obtain ⟨x, a, b, z, hx⟩ := cC_four M.loose[j]
        unfold piece at hpi
        rw [if_pos h1] at hpi
        generalize hLj : M.loose[j] = Lj at *
        clear hLj
        rw [hx] at hcell
        have y0 : wr.cell? ⟨g1, j * 4, none⟩ = some (.int .i64 x) := hcell 0 (by omega)
        have y1 : wr.cell? ⟨g1, j * 4 + 1, none⟩ = some (.string a) := hcell 1 (by omega)
        have y2 : wr.cell? ⟨g1, j * 4 + 2, none⟩ = some (.string b) := hcell 2 (by omega)
        have y3 : wr.cell? ⟨g1, j * 4 + 3, none⟩ = some (.int .i64 z) := hcell 3 (by omega)
        clear hcell h1
        obtain ⟨q, d, w5, hrun, hr5, hb5⟩ := crow_add (W1 := wr.alloc (.cells #[.int .i64 x, .string a, .string b, .int .i64 z] 81)) hrow.out hb.out ((hWb.out _).1) ((hWb.out _).2) (Lj) hx (by have := lcut_len M.loose c y j (Nat.le_of_lt hjl); omega) 49
        rw [← hpi] at hr5
        replace hrun := Lib.hid hrun
        replace hr5 := Lib.hid hr5
        replace hb5 := Lib.hid hb5
        generalize (lcut M.loose c y j).length = ln at *
        clear hrow hb hpi
        go_wp2_with (at_builtin; (refine wpList_append_run (sv := .slice p6 ln c6) (xv := .slice (some ⟨wr.heap.size + 1, 0, none⟩) 1 1) rfl (.tmp 28) (.tmp 30) rfl rfl rfl hrun.out ?_))
        go_roundg g
        case measure => omega
        case rel => exact ⟨j + 1, by omega, by omega, by go_num, hr5.out, hb5.out⟩
      have h1b : decide ((j : Int) < c) = false := decide_eq_false h1
      rcases cC_kind M.loose[j] with ⟨k, s, hk⟩ | ⟨x, a, b, z, hx, hx0, hpc⟩
      case inr =>
        as_aux_lemma =>
        rw [hpc c y j h1, List.append_nil] at hpi
        rw [hx] at hcell
        have y0 : wr.cell? ⟨g1, j * 4, none⟩ = some (.int .i64 x) := hcell 0 (by omega)
        have y1 : wr.cell? ⟨g1, j * 4 + 1, none⟩ = some (.string a) := hcell 1 (by omega)
        have y2 : wr.cell? ⟨g1, j * 4 + 2, none⟩ = some (.string b) := hcell 2 (by omega)
        have y3 : wr.cell? ⟨g1, j * 4 + 3, none⟩ = some (.int .i64 z) := hcell 3 (by omega)
        have hx1 : (x == 0) = false := by simpa using hx0
        clear hcell hx hpc
        have hW := hWb.out #[.int .i64 x, .string a, .string b, .int .i64 z]
        have hfin : Hid (CRow w.heap.size (wr.alloc (.cells #[.int .i64 x, .string a, .string b, .int .i64 z] 81)) (.slice p6 (lcut M.loose c y j).length c6) (lcut M.loose c y (j + 1)) ∧ Below w.heap.size w (wr.alloc (.cells #[.int .i64 x, .string a, .string b, .int .i64 z] 81))) := Lib.hid (by
          rw [hpi]
          exact ⟨RRow.below hrow.out hW.1, Lx.bstep hb.out (Nat.le_refl _) hW.1⟩)
        clear hW hrow hb hpi
        by_cases h2 : (j : Int) = c
        · as_aux_lemma =>
          have h2b : ((j : Int) == c) = true := by simpa using h2
          clear h2 h1
          go_wp2_with fail
          go_roundg g
          case measure => omega
          case rel => exact ⟨j + 1, by omega, by omega, by go_num, hfin.out⟩
        · as_aux_lemma =>
          have h2b : ((j : Int) == c) = false := by simpa using h2
          go_wp2_with fail
          go_roundg g
          case measure => omega
          case rel => exact ⟨j + 1, by omega, by omega, by go_num, hfin.out⟩
      case inl =>
        as_aux_lemma =>
        unfold piece at hpi
        rw [if_neg h1, hk] at hpi
        rw [hk] at hcell
        have y0 : wr.cell? ⟨g1, j * 4, none⟩ = some (.int .i64 0) := hcell 0 (by omega)
        have y1 : wr.cell? ⟨g1, j * 4 + 1, none⟩ = some (.string k) := hcell 1 (by omega)
        have y2 : wr.cell? ⟨g1, j * 4 + 2, none⟩ = some (.string s) := hcell 2 (by omega)
        have y3 : wr.cell? ⟨g1, j * 4 + 3, none⟩ = some (.int .i64 0) := hcell 3 (by omega)
        clear hcell hk
        by_cases h2 : (j : Int) = c
        · as_aux_lemma =>
          rw [if_pos h2] at hpi
          have h2b : ((j : Int) == c) = true := by simpa using h2
          clear h2 h1
          dsimp only at hpi
          obtain ⟨q, d, w5, hrun, hr5, hb5⟩ := crow_add (W1 := wr.alloc (.cells #[.int .i64 0, .string k, .string (s.extract 0 (min (max y 0) s.size).toNat), .int .i64 0] 81)) hrow.out hb.out ((hWb.out _).1) ((hWb.out _).2) (.app k (s.extract 0 (min (max y 0) s.size).toNat)) rfl (by have := lcut_len M.loose c y j (Nat.le_of_lt hjl); omega) 49
          rw [← hpi] at hr5
          replace hrun := Lib.hid hrun
          replace hr5 := Lib.hid hr5
          replace hb5 := Lib.hid hb5
          generalize (lcut M.loose c y j).length = ln at *
          clear hrow hb hpi
          go_wp2_with (at_builtin; (refine wpList_append_run (sv := .slice p6 ln c6) (xv := .slice (some ⟨wr.heap.size + 1, 0, none⟩) 1 1) rfl (.tmp 50) (.tmp 52) rfl rfl rfl hrun.out ?_))
          go_roundg g
          case measure => omega
          case rel => exact ⟨j + 1, by omega, by omega, by go_num, hr5.out, hb5.out⟩
        · as_aux_lemma =>
          have h2b : ((j : Int) == c) = false := by simpa using h2
          rw [if_neg h2, List.append_nil] at hpi
          have hW := hWb.out #[.int .i64 0, .string k, .string s, .int .i64 0]
          have hfin : Hid (CRow w.heap.size (wr.alloc (.cells #[.int .i64 0, .string k, .string s, .int .i64 0] 81)) (.slice p6 (lcut M.loose c y j).length c6) (lcut M.loose c y (j + 1)) ∧ Below w.heap.size w (wr.alloc (.cells #[.int .i64 0, .string k, .string s, .int .i64 0] 81))) := Lib.hid (by
            rw [hpi]
            exact ⟨RRow.below hrow.out hW.1, Lx.bstep hb.out (Nat.le_refl _) hW.1⟩)
          clear hW hrow hb hpi
          go_wp2_with fail
          go_roundg g
          case measure => omega
          case rel => exact ⟨j + 1, by omega, by omega, by go_num, hfin.out⟩
end Go.Proofs.YtenjllkhbpoffaaDoor
