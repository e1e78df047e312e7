/-
  The reference's log: Last, TermAt, Fits.
-/
import Derived.Test.YtkjfplkbgooflaaRowO
namespace Go.Proofs.Ytkjfplkbgooflaa
open Go Go.RowKit Go.Lst Go.Lx

set_option maxRecDepth 100000 in
set_option maxHeartbeats 1000000 in
theorem rLast_calls {B B0 : Nat} {w : World} {b : Nat} {cv lv : Value} {L : LogS} (h : RefAt B B0 w b cv lv L) :
    Calls Try.prog 43 #[.pointer (some ⟨b, 0, none⟩)] w fun x w' => x = .returned (.tuple #[.int .u64 (lastOf L).1, .int .u64 (lastOf L).2]) ∧ Below w.heap.size w w' := by
  obtain ⟨p, c, hlv, hlc, hcm, -⟩ := h.row.ents
  subst hlv
  obtain ⟨q0, q1, q2, q3, -⟩ := h.isBlk.c4
  have hsz := h.sz
  by_cases h0 : L.l.length = 0
  · have hl : lastOf L = (L.i, L.t) := by unfold lastOf; rw [List.eq_nil_of_length_eq_zero h0]; rfl
    rw [hl]
    generalize L.l.length = n at *
    subst h0
    clear h hl
    go_enter Try.func43, Try.ntmps43
    go_wp2_with fail
    go_quiet (fail)
    go_wp2_with fail
    go_ret2
    exact ⟨rfl, below_drewN (Below.refl _ _) _⟩
  · obtain ⟨m, hm⟩ : ∃ m, L.l.length = m + 1 := ⟨L.l.length - 1, by omega⟩
    obtain ⟨a, c', cw, e, g0, g1, g2, g3, g4, hcf⟩ := h.row.ents.get m (by omega)
    obtain ⟨pw, cc, hcw, -⟩ := hcf.n.parts
    clear hcf
    obtain ⟨lw, hlw⟩ : ∃ lw, L.l[m].c.length = lw := ⟨_, rfl⟩
    rw [hlw] at hcw
    subst hcw
    injection e with e1 e2 e3
    subst e1 e3
    have hl : lastOf L = (L.l[m].i, L.l[m].t) := by
      have e5 : L.l.getLast? = some L.l[m] := by
        rw [List.getLast?_eq_getElem?, show L.l.length - 1 = m by omega]
        exact List.getElem?_eq_getElem (by omega)
      unfold lastOf
      rw [e5]
    rw [hl]
    generalize L.l[m] = en at *
    rw [hm] at q3 hlc hsz h0 
    have q3' := fun x : Ext w => (cell_below x.below q3).trans q3
    have f0 := fun x : Ext w => (cell_below x.below g0).trans g0
    have f1 := fun x : Ext w => (cell_below x.below g1).trans g1
    have f2 := fun x : Ext w => (cell_below x.below g2).trans g2
    have f3 := fun x : Ext w => (cell_below x.below g3).trans g3
    have f4 := fun x : Ext w => (cell_below x.below g4).trans g4
    have w1 : wrap64 (m : Int) = (m : Int) := IntWalk.wrap64_in _ (by omega)
    have w2 : (0 : Int) ≤ (m : Int) := by omega
    have w3 : (m : Int) < ((m + 1 : Nat) : Int) := by omega
    replace hlc := Lib.hid hlc
    replace hcm := Lib.hid hcm
    replace hsz := Lib.hid hsz
    clear h hl g0 g1 g2 g3 g4 hm hlw
    go_enter Try.func43, Try.ntmps43
    go_wp2_with fail
    refine Lx.wp_region_chain_lit (fun w' => ∃ x : Lx.Ext w, w' = x.wo) (fun b => w.heap.size ≤ b) [13] [12] (fun _ => True) (by kernel_rfl) (by kernel_rfl) (by kernel_rfl) (by kernel_rfl) Lx.ext_drew trivial ?_
    repeat (refine Lx.wpCh_one (by rfl) (by rfl) ?_; go_big_quiet_step (fail); refine wpQuiet_nil ?_)
    refine Lx.wpCh_freshp (.cells #[.int .u64 0, .int .u64 0, .int .u8 0, .string ⟨#[]⟩, .slice none 0 0] 31) (by rfl) (by rfl) (fun _ _ _ => trivial) Lx.ext_ne Lx.ext_grows (fun w ⟨x, hx⟩ => by subst hx; exact x.below.size) (fun w => by go_simp) (fun b4 hb4 => ?_)
    go_big_quiet_step (fail)
    refine wpQuiet_nil ?_
    refine Lx.wpCh_valp undef (fun w => Blk w b4 [.int .u64 en.i, .int .u64 en.t, .int .u8 en.k, .string en.s, .slice pw lw cc]) (by rfl) (by rfl) (fun _ => grows_and grows_true grows_block) Lx.ext_ne (fun w hx hS R hR => ?_) ?_
    · obtain ⟨x, rfl⟩ := hx
      have hb0 : Blk x.wo b4 [.int .u64 0, .int .u64 0, .int .u8 0, .string ⟨#[]⟩, .slice none 0 0] := ⟨_, hS.2⟩
      clear hS
      have ⟨r0, r1, r2, r3, r4, y0, y1, y2, y3, y4⟩ := hb0.c5
      replace hb0 := Lib.hid hb0
      go_simp
      exact hR _ ⟨⟨_, ((((x.below.setCell hb4 _).setCell hb4 _).setCell hb4 _).setCell hb4 _).setCell hb4 _⟩, rfl⟩ (((((hb0.out.put 0 _).put 1 _).put 2 _).put 3 _).put 4 _) (fun h => by cases h)
    go_big_quiet_step (fail)
    refine wpQuiet_nil ?_
    refine Lx.wpCh_nil ?_
    intro w4 hx hE
    obtain ⟨x, rfl⟩ := hx
    have hb := Lib.hid x.below
    obtain ⟨r0, r1, -⟩ := hE.c5
    clear q3' f0 f1 f2 f3 f4 hE
    generalize x.wo = w4 at *
    clear x
    go_wp2_with fail
    go_quiet (fail)
    go_wp2_with fail
    go_ret2
    exact ⟨rfl, below_drewN hb.out _⟩
set_option maxRecDepth 100000 in
set_option maxHeartbeats 1000000 in
theorem rTermAt_calls {B B0 : Nat} {w : World} {b : Nat} {cv lv : Value} {L : LogS} (h : RefAt B B0 w b cv lv L) (ok : LogOk L) (x : Int) (hx : 0 ≤ x) :
    Calls Try.prog 45 #[.pointer (some ⟨b, 0, none⟩), .int .u64 x] w fun y w' => y = .returned (.tuple #[.int .u64 (termAt L x).1, .int .i64 (termAt L x).2]) ∧ Below w.heap.size w w' := by
  have C1 := Lib.hid (rLast_calls h)
  have hlast := ok.last
  obtain ⟨p, c, hlv, hlc, hcm, -⟩ := h.row.ents
  have hsz := h.sz
  have hi0 := ok.i0
  obtain ⟨q0, q1, q2, q3, -⟩ := h.isBlk.c4
  obtain ⟨T, hT⟩ : ∃ T, termAt L x = T := ⟨_, rfl⟩
  rw [hT]
  unfold termAt at hT
  obtain ⟨LA, hLA⟩ : ∃ LA, lastOf L = LA := ⟨_, rfl⟩
  rw [hLA] at hT C1 hlast
  replace hLA := Lib.hid hLA
  by_cases c1 : x < L.i
  · rw [if_pos c1] at hT
    subst hT
    clear h ok hlast
    go_enter Try.func45, Try.ntmps45
    go_wp2_with fail
    refine C1.out.mono ?_
    rintro y w1 ⟨rfl, hb⟩
    have hq := (cell_below hb q0).trans q0
    go_wp2_with fail
    go_ret2
    exact ⟨rfl, hb⟩
  rw [if_neg c1] at hT
  by_cases c2 : LA.1 < x
  · rw [if_pos c2] at hT
    subst hT
    clear h ok hlast
    go_enter Try.func45, Try.ntmps45
    go_wp2_with fail
    refine C1.out.mono ?_
    rintro y w1 ⟨rfl, hb⟩
    have hq := (cell_below hb q0).trans q0
    go_wp2_with fail
    go_ret2
    exact ⟨rfl, hb⟩
  rw [if_neg c2] at hT
  by_cases c3 : x = L.i
  · rw [if_pos c3] at hT
    subst hT
    have c3b : (x == L.i) = true := by simp [c3]
    clear h ok hlast c3
    go_enter Try.func45, Try.ntmps45
    go_wp2_with fail
    refine C1.out.mono ?_
    rintro y w1 ⟨rfl, hb⟩
    have hq := (cell_below hb q0).trans q0
    have hq1 := (cell_below hb q1).trans q1
    go_wp2_with fail
    go_ret2
    exact ⟨rfl, hb⟩
  rw [if_neg c3] at hT
  subst hT
  have c3b : (x == L.i) = false := by simp [c3]
  obtain ⟨j, hj⟩ : ∃ j : Nat, x = L.i + j + 1 := ⟨(x - L.i - 1).toNat, by omega⟩
  have hjl : j < L.l.length := by omega
  have hen : entAt L x = L.l[j] := by
    unfold entAt
    rw [show (x - L.i - 1).toNat = j by omega, List.getD_eq_getElem?_getD, List.getElem?_eq_getElem hjl]; rfl
  rw [hen]
  obtain ⟨a, c', cw, e, g0, g1, -, -, -, -⟩ := h.row.ents.get j hjl
  rw [hlv] at e
  injection e with e1 e2 e3
  subst e1 e3 hlv
  generalize L.l[j] = en at *
  have w1 : IntKind.u64.wrap (x - L.i) = (j : Int) + 1 := by rw [IntKind.wrap_u64]; omega
  have w2 : IntKind.u64.wrap ((j : Int) + 1 - 1) = (j : Int) := by rw [IntKind.wrap_u64]; omega
  have w3 : (0 : Int) ≤ (j : Int) := by omega
  have w4 : (j : Int) < (L.l.length : Int) := by omega
  replace hj := Lib.hid hj
  replace hjl := Lib.hid hjl
  replace c3 := Lib.hid c3
  clear h ok hlast hen
  go_enter Try.func45, Try.ntmps45
  go_wp2_with fail
  refine C1.out.mono ?_
  rintro y wA ⟨rfl, hb⟩
  have hq := (cell_below hb q0).trans q0
  have hq1 := (cell_below hb q1).trans q1
  have hq3 := (cell_below hb q3).trans q3
  have hg1 := (cell_below hb g1).trans g1
  go_wp2_with fail
  go_quiet (fail)
  go_wp2_with fail
  go_ret2
  exact ⟨rfl, below_drewN hb _⟩
set_option maxRecDepth 100000 in
theorem rFits_calls {B B0 : Nat} {w : World} {b : Nat} {cv lv : Value} {L : LogS} (h : RefAt B B0 w b cv lv L) (ok : LogOk L) (x t : Int) (hx : 0 ≤ x) :
    Calls Try.prog 47 #[.pointer (some ⟨b, 0, none⟩), .int .u64 x, .int .u64 t] w fun y w' => y = .returned (.bool (fitsB L x t)) ∧ Below w.heap.size w w' := by
  have C1 := Lib.hid (rTermAt_calls h ok x hx)
  unfold fitsB
  obtain ⟨⟨p, q⟩, hT⟩ : ∃ T, termAt L x = T := ⟨_, rfl⟩
  rw [hT] at C1 ⊢
  dsimp only at C1 ⊢
  clear hT h ok hx
  cases hq : (q == 0)
  all_goals
    go_enter Try.func47, Try.ntmps47
    go_wp2_with fail
    refine C1.out.mono ?_
    rintro y w1 ⟨rfl, hb⟩
    go_wp2_with fail
    go_ret
    exact ⟨rfl, hb⟩
end Go.Proofs.Ytkjfplkbgooflaa
