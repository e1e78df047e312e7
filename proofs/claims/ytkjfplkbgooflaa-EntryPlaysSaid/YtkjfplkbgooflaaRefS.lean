/-
  The reference's log: Slice.
-/
import Derived.Test.YtkjfplkbgooflaaRefC
import Derived.Test.YtkjfplkbgooflaaSlice
namespace Go.Proofs.Ytkjfplkbgooflaa
open Go Go.RowKit Go.Lst Go.Lx

theorem take_drop_step {l : List Ent} {i k : Nat} (hi : i < l.length) : ((l.take (i + 1)).drop k) = if k ≤ i then (l.take i).drop k ++ [l[i]] else [] := by
  split
  · rename_i h
    rw [List.take_succ_eq_append_getElem hi, List.drop_append_of_le_length (by rw [List.length_take]; omega)]
  · rename_i h
    exact List.drop_eq_nil_of_le (by rw [List.length_take]; omega)
theorem sliceR_end {l : List Ent} {i k m : Nat} (h : i = l.length ∨ ((l.take i).drop k).length = m) (hm : ((l.take i).drop k).length ≤ m) (hi : i ≤ l.length) (h0 : 0 < m) : (l.drop k).take m = (l.take i).drop k := by
  rw [List.length_drop, List.length_take] at h hm
  rcases h with h | h
  · subst h
    rw [List.take_length]
    exact List.take_of_length_le (by rw [List.length_drop]; omega)
  · rw [List.drop_take, ← h]
    congr 1
    omega
set_option maxRecDepth 100000 in
set_option maxHeartbeats 4000000 in
theorem rSlice_calls {B B0 : Nat} {w : World} {b : Nat} {cv lv : Value} {L : LogS} (h : RefAt B B0 w b cv lv L) (ok : LogOk L) (x most : Int) (hx : 0 ≤ x) :
    Calls Try.prog 27 #[.pointer (some ⟨b, 0, none⟩), .int .u64 x, .int .i64 most] w fun e w' => ∃ v, e = .returned (.tuple #[v, .int .i64 (sliceE L x most)]) ∧ Row B w.heap.size w' v (sliceL L x most) ∧ Below w.heap.size w w' := by
  have hsz := h.sz
  have hi0 := ok.i0
  have hBw : B ≤ w.heap.size := by have := h.lo; have := h.lt; omega
  obtain ⟨p, c, hlv, hlc, hcm, -⟩ := h.row.ents
  have hE := Lib.hid h.row.ents
  have hRl := Lib.hid (fun g hg => (h.row.block (k := g) hg).2)
  have hB := Lib.hid h.isBlk
  obtain ⟨n, hn⟩ : ∃ n, L.l.length = n := ⟨_, rfl⟩
  rw [hn] at hlv hsz
  subst hlv
  obtain ⟨SE, hSE⟩ : ∃ SE, sliceE L x most = SE := ⟨_, rfl⟩
  obtain ⟨SL, hSL⟩ : ∃ SL, sliceL L x most = SL := ⟨_, rfl⟩
  rw [hSE, hSL]
  unfold sliceL at hSL
  rw [hSE] at hSL
  unfold sliceE at hSE
  obtain ⟨q0, -⟩ := hB.out.c4
  by_cases c1 : most < 1
  · rw [if_pos (.inl c1)] at hSE
    subst hSE
    rw [if_neg (by decide)] at hSL
    subst hSL
    clear h ok hi0 hsz hBw hlc hcm
    go_enter Try.func27, Try.ntmps27
    go_wp2_with fail
    go_ret2
    exact ⟨_, rfl, Row.nil _ _ _, Below.refl _ _⟩
  have c1b : decide (most < 1) = false := by simp; omega
  by_cases c2 : (4096 : Int) < most
  · rw [if_pos (.inr c2)] at hSE
    subst hSE
    rw [if_neg (by decide)] at hSL
    subst hSL
    clear h ok hi0 hsz hBw hlc hcm
    go_enter Try.func27, Try.ntmps27
    go_wp2_with fail
    go_ret2
    exact ⟨_, rfl, Row.nil _ _ _, Below.refl _ _⟩
  have c2b : decide ((4096 : Int) < most) = false := by simp; omega
  rw [if_neg (by omega)] at hSE
  by_cases c3 : x ≤ L.i
  · rw [if_pos c3] at hSE
    subst hSE
    rw [if_neg (by decide)] at hSL
    subst hSL
    clear h ok hi0 hsz hBw hlc hcm
    go_enter Try.func27, Try.ntmps27
    go_wp2_with fail
    go_ret2
    exact ⟨_, rfl, Row.nil _ _ _, Below.refl _ _⟩
  have c3b : decide (x ≤ L.i) = false := by simp; omega
  rw [if_neg c3] at hSE
  subst hSE
  rw [if_pos rfl] at hSL
  have hat := Lib.hid ok.at'
  obtain ⟨k0, hk0⟩ : ∃ k0 : Nat, x = L.i + k0 + 1 := ⟨(x - L.i - 1).toNat, by omega⟩
  obtain ⟨ms, hms⟩ : ∃ ms : Nat, most = ms := ⟨most.toNat, by omega⟩
  rw [show (x - L.i - 1).toNat = k0 by omega, show most.toNat = ms by omega] at hSL
  subst hms
  have hms1 : 1 ≤ ms ∧ ms ≤ 4096 := by omega
  have hn63 : n < 4611686018427387904 := by omega
  clear h ok hi0 hx hlc hcm
  replace hBw := Lib.hid hBw
  replace hSL := Lib.hid hSL
  replace hk0 := Lib.hid hk0
  replace hn := Lib.hid hn
  replace hms1 := Lib.hid hms1
  replace hsz := Lib.hid hsz
  go_enter Try.func27, Try.ntmps27
  go_wp2_with fail
  clear c1 c2 c3 c1b c2b c3b q0
  go_loopg [8, 9] (n + 1) (fun k v8 v9 wr => ∃ (i : Nat) (out : List Ent), v9 = .int .i64 (i : Int) ∧ i ≤ n ∧ n < i + k ∧ out = (L.l.take i).drop k0 ∧ out.length ≤ ms ∧ Row B w.heap.size wr v8 out ∧ Below w.heap.size w wr)
  case atStart => exact ⟨0, [], rfl, by omega, by omega, by simp, by simp, Row.nil _ _ _, Below.refl _ _⟩
  case round =>
    obtain ⟨i, out, rfl, hi, hk, hout, hol, hrow, hb⟩ := hrel
    cases gk with
    | zero => omega
    | succ k =>
      have hBr := Lib.hid (hB.out.below hb)
      obtain ⟨q0, q1, q2, q3, -⟩ := hBr.out.c4
      clear q1 q2
      obtain ⟨po, co, hov, -⟩ := hrow.ents
      obtain ⟨ol, hol'⟩ : ∃ ol, out.length = ol := ⟨_, rfl⟩
      rw [hol'] at hol hov
      subst hov
      have hend : Hid (i = n ∨ ol = ms → (L.l.drop k0).take ms = out) := Lib.hid (fun h => by
        rw [hout]
        refine sliceR_end (h.imp (fun e => by rw [e, hn.out]) (fun e => ?_)) ?_ (by have := hn.out; omega) (by have := hms1.out; omega)
        · rw [← hout, hol', e]
        · rw [← hout, hol']; exact hol)
      by_cases hlt : i < n
      case neg =>
        have hd : decide ((i : Int) < (n : Int)) = false := by simp; omega
        have hSLo := hSL.out.symm.trans (hend.out (.inl (by omega)))
        subst hSLo
        replace hb := Lib.hid hb
        replace hrow := Lib.hid hrow
        clear hk hout hol'
        go_wp2_with fail
        go_ret2
        exact ⟨_, rfl, hrow.out, hb.out⟩
      case pos =>
      have hlt1 : (i : Int) < (n : Int) := by omega
      have h0 : (0 : Int) ≤ (i : Int) := by omega
      by_cases hmo : ol < ms
      case neg =>
        have hd : decide ((ol : Int) < (ms : Int)) = false := by simp; omega
        have hSLo := hSL.out.symm.trans (hend.out (.inr (by omega)))
        subst hSLo
        replace hb := Lib.hid hb
        replace hrow := Lib.hid hrow
        clear hk hout hol'
        go_wp2_with fail
        go_ret2
        exact ⟨_, rfl, hrow.out, hb.out⟩
      case pos =>
      have hmo1 : (ol : Int) < (ms : Int) := by omega
      have hil : i < L.l.length := by have := hn.out; omega
      have hstep := take_drop_step (k := k0) hil
      have hEr := hE.out.keepn (Calms.below hb) (fun h0 g hg => hb.block g (hRl.out g hg))
      obtain ⟨a, c', cw, ev, g0, g1, g2, g3, g4, hcw⟩ := hEr.get i hil
      rw [hn.out] at ev
      injection ev with e1 e2 e3
      subst e1 e3
      have hei := hat.out i hil |>.1
      generalize L.l[i] = en at *
      obtain ⟨ei, et, ek, s, ec⟩ := en
      obtain ⟨pw, cc, rfl, -⟩ := hcw.n.parts
      dsimp only at g0 g1 g2 g3 hcw hei
      clear hEr e2
      by_cases hge : x ≤ ei
      · rw [if_pos (by have := hk0.out; omega), ← hout] at hstep
        have hgeb : decide (x ≤ ei) = true := decide_eq_true hge
        have hcc := Lib.hid hcw
        have hm := made1 wr #[.int .u64 ei, .int .u64 et, .int .u8 ek, .string s, .slice pw ec.length cc] 31
        dsimp only at hm
        obtain ⟨A1, hb1, -⟩ := hm
        have hE1 := Lib.hid (ents_one (B := B) (w := wr.alloc (.cells #[.int .u64 ei, .int .u64 et, .int .u8 ek, .string s, .slice pw ec.length cc] 31)) ⟨wr.heap.size, 0, none⟩ 1 ⟨ei, et, ek, s, ec⟩ (.slice pw ec.length cc) (Nat.le_refl _) (by unfold maxLen; omega) (blk_cells A1) (hcw.keep (Calms.below hb1)))
        have hrow1 := Lib.hid (hrow.below hb1)
        have hBB := Lib.hid (Lx.bstep hb (Nat.le_refl _) hb1)
        have hob : Hid ((out.length + 1) * 64 ≤ 140737488355328) := Lib.hid (by have := hms1.out; omega)
        replace hei := Lib.hid hei
        replace hstep := Lib.hid hstep
        replace hil := Lib.hid hil
        replace hout := Lib.hid hout
        replace hb := Lib.hid hb
        replace hrow := Lib.hid hrow
        replace hol' := Lib.hid hol'
        clear hcw hb1 A1
        go_wp2_with (at_builtin; refine wpList_append_rw rfl (.tmp 47) (.tmp 55) rfl rfl (.inl hrow1.out) hBw.out hBB.out.size _ 1 [⟨ei, et, ek, s, ec⟩] rfl hE1.out (by simp) hob.out ?_; intro v8 w8 hRow hg hcm hvo hbb; replace hRow := Lib.hid hRow; have hB11 := Lib.hid (hBB.out.trans hbb); clear hg hcm hvo hbb)
        go_roundg k
        case measure => omega
        case rel =>
          exact ⟨i + 1, out ++ [⟨ei, et, ek, s, ec⟩], by first | rfl | (rw [IntWalk.wrap64_in _ (by omega)]; rfl), by omega, by omega, hstep.out.symm, by rw [List.length_append]; have := hol'.out; simp; omega, hRow.out, hB11.out⟩
      · rw [if_neg (by have := hk0.out; omega)] at hstep
        have hgeb : decide (x ≤ ei) = false := decide_eq_false hge
        have ho : out = [] := by rw [hout]; exact List.drop_eq_nil_of_le (by rw [List.length_take]; have := hk0.out; omega)
        replace hei := Lib.hid hei
        replace hstep := Lib.hid hstep
        replace hil := Lib.hid hil
        replace hout := Lib.hid hout
        replace hb := Lib.hid hb
        replace hrow := Lib.hid hrow
        replace hol' := Lib.hid hol'
        clear hcw g1 g2 g3 g4
        go_wp2_with fail
        go_roundg k
        case measure => omega
        case rel => exact ⟨i + 1, out, by first | rfl | (rw [IntWalk.wrap64_in _ (by omega)]; rfl), by omega, by omega, by rw [hstep.out, ho], by have := hol'.out; omega, hrow.out, hb.out⟩
end Go.Proofs.Ytkjfplkbgooflaa
