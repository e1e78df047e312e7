/-
  The reference's log: Hint.
-/
import Derived.Test.YtkjfplkbgooflaaRefC
import Derived.Test.YtkjfplkbgooflaaHint
namespace Go.Proofs.Ytkjfplkbgooflaa
open Go Go.RowKit Go.Lst Go.Lx

theorem hint_facts {i0 x at' : Int} {n m u : Nat} (h0 : 0 ≤ i0) (h1 : i0 ≤ 281474976710656) (hx : x = i0 + ((u + 1 : Nat) : Int)) (hn : u + 1 ≤ n) (hl : n ≤ 4096) (ha : at' = i0 + ((m + 2 : Nat) : Int)) (hm : m + 1 ≤ u) :
    ∃ a1 d e, IntKind.u64.wrap (at' - 1) = a1 ∧ a1 = i0 + ((m + 1 : Nat) : Int) ∧ decide (i0 < a1) = true ∧ i0 < a1 ∧ IntKind.u64.wrap (at' - i0) = d ∧ IntKind.u64.wrap (d - 2) = (m : Int) ∧ (0 : Int) ≤ (m : Int) ∧ (m : Int) < (n : Int) ∧
    IntKind.u64.wrap (x - i0) = e ∧ IntKind.u64.wrap (e - 1) = (u : Int) ∧ (0 : Int) ≤ (u : Int) ∧ (u : Int) < (n : Int) :=
  ⟨i0 + ((m + 1 : Nat) : Int), ((m + 2 : Nat) : Int), ((u + 1 : Nat) : Int), by rw [IntKind.wrap_u64]; omega, rfl, by simp; omega, by omega, by rw [IntKind.wrap_u64]; omega, by rw [IntKind.wrap_u64]; omega, by omega, by omega, by rw [IntKind.wrap_u64]; omega, by rw [IntKind.wrap_u64]; omega, by omega, by omega⟩
theorem hint_facts1 {i0 at' : Int} (h0 : 0 ≤ i0) (h1 : i0 ≤ 281474976710656) (ha : at' = i0 + 1) : IntKind.u64.wrap (at' - 1) = i0 ∧ decide (i0 < i0) = false ∧ ¬ i0 < i0 :=
  ⟨by rw [IntKind.wrap_u64]; omega, by simp, by omega⟩
set_option maxRecDepth 100000 in
set_option maxHeartbeats 2000000 in
theorem rHint_calls {B B0 : Nat} {w : World} {b : Nat} {cv lv : Value} {L : LogS} (h : RefAt B B0 w b cv lv L) (ok : LogOk L) (x : Int) (hx : 0 ≤ x) :
    Calls Try.prog 46 #[.pointer (some ⟨b, 0, none⟩), .int .u64 x] w fun e w' => e = .returned (.int .u64 (hint L x)) ∧ Below w.heap.size w w' := by
  have C1 := Lib.hid (rLast_calls h)
  have hlast := ok.last
  have hi0 := ok.i0
  have hsz := h.sz
  obtain ⟨LA, hLA⟩ : ∃ LA, lastOf L = LA := ⟨_, rfl⟩
  obtain ⟨R, hR⟩ : ∃ R, hint L x = R := ⟨_, rfl⟩
  rw [hR]
  unfold hint at hR
  rw [hLA] at C1 hlast hR
  have hB := Lib.hid h.isBlk
  have W1 : IntKind.u64.wrap (LA.1 + 1) = LA.1 + 1 := by rw [IntKind.wrap_u64]; omega
  have W2 : IntKind.u64.wrap (L.i + 1) = L.i + 1 := by rw [IntKind.wrap_u64]; omega
  obtain ⟨p, c, hlv, hlc, hcm, -⟩ := h.row.ents
  have hE := Lib.hid h.row.ents
  have hRl := Lib.hid (fun g hg => (h.row.block (k := g) hg).2)
  obtain ⟨n, hn⟩ : ∃ n, L.l.length = n := ⟨_, rfl⟩
  rw [hn] at hlv hsz hlast
  subst hlv
  by_cases c1 : LA.1 < x
  · rw [if_pos c1] at hR
    subst hR
    clear h ok hi0 hlast hsz W2 hlc hcm
    go_enter Try.func46, Try.ntmps46
    go_wp2_with fail
    refine C1.out.mono ?_
    rintro y w1 ⟨rfl, hb⟩
    replace hb := Lib.hid hb
    go_wp2_with fail
    go_ret
    exact ⟨rfl, hb.out⟩
  rw [if_neg c1] at hR
  have c1b : decide (LA.1 < x) = false := by simp; omega
  by_cases c2 : x ≤ L.i
  · rw [if_pos c2] at hR
    subst hR
    clear h ok hi0 hlast hsz W1 hlc hcm
    go_enter Try.func46, Try.ntmps46
    go_wp2_with fail
    refine C1.out.mono ?_
    rintro y w1 ⟨rfl, hb⟩
    obtain ⟨q0, -⟩ := (hB.out.below hb).c4
    replace hb := Lib.hid hb
    go_wp2_with fail
    go_ret
    exact ⟨rfl, hb.out⟩
  rw [if_neg c2] at hR
  have c2b : decide (x ≤ L.i) = false := by simp; omega
  obtain ⟨u, hu⟩ : ∃ u : Nat, x = L.i + ((u + 1 : Nat) : Int) := ⟨(x - L.i - 1).toNat, by omega⟩
  have hu1 : u + 1 ≤ n := by omega
  have hup : upTo L x = u + 1 := by unfold upTo; omega
  rw [hup] at hR
  have hat := Lib.hid ok.at'
  have hul : u < L.l.length := by omega
  generalize htt : (L.l.getD (u + 1 - 1) e0).t = tt at *
  rw [Nat.add_sub_cancel, List.getD_eq_getElem?_getD, List.getElem?_eq_getElem hul, Option.getD_some] at htt
  have hR1 : hintR L.l tt u x = R := by
    rw [← hR, hintR, List.getD_eq_getElem?_getD, List.getElem?_eq_getElem hul, Option.getD_some, if_pos htt, (ok.at' _ hul).1]
    congr 1
    omega
  clear h ok hR W1 W2 hlc hcm hx c1 c2
  replace hlast := Lib.hid hlast
  replace hR1 := Lib.hid hR1
  replace htt := Lib.hid htt
  replace hu1 := Lib.hid hu1
  replace hup := Lib.hid hup
  replace hn := Lib.hid hn
  replace hsz := Lib.hid hsz
  replace hi0 := Lib.hid hi0
  replace hu := Lib.hid hu
  replace hul := Lib.hid hul
  go_enter Try.func46, Try.ntmps46
  go_wp2_with fail
  refine C1.out.mono ?_
  rintro y w1 ⟨rfl, hb⟩
  replace hB := Lib.hid (hB.out.below hb)
  obtain ⟨q0, -⟩ := hB.out.c4
  replace hb := Lib.hid hb
  clear C1
  go_wp2_with fail
  go_loopg [7] (u + 2) (fun k v7 wr => ∃ (m : Nat) (at' : Int), v7 = .int .u64 at' ∧ at' = L.i + ((m + 1 : Nat) : Int) ∧ m ≤ u ∧ m < k ∧ hintR L.l tt m at' = R ∧ Below w1.heap.size w1 wr)
  case atStart => exact ⟨u, x, rfl, hu.out, by omega, by omega, hR1.out, Below.refl _ _⟩
  case round =>
    obtain ⟨m, at', rfl, ha, hm, hk, hRm, hbr⟩ := hrel
    cases gk with
    | zero => omega
    | succ k =>
      replace hB := Lib.hid (hB.out.below hbr)
      obtain ⟨q0, q1, q2, q3, -⟩ := hB.out.c4
      have hB1 := Lib.hid (Lx.bstep hb.out (Nat.le_refl _) hbr)
      cases m with
      | zero =>
        obtain ⟨f1, f2, f3⟩ := hint_facts1 hi0.out.1 hi0.out.2 (at' := at') (by rw [ha]; rfl)
        rw [hintR] at hRm
        subst hRm
        clear hbr ha hm hk q1 q2 q3
        go_wp2_with fail
        go_quiet (fail)
        go_wp2_with fail
        go_ret
        exact ⟨rfl, below_drewN hB1.out _⟩
      | succ m =>
        obtain ⟨a1, d, e, f1, f2, f3, f3', f4, f5, f6, f7, f8, f9, f10, f11⟩ := hint_facts hi0.out.1 hi0.out.2 hu.out hu1.out hsz.out ha (by omega)
        have hml : m < L.l.length := by have := hn.out; have := hu1.out; omega
        have hEr := hE.out.keepn (Calms.below hB1.out) (fun h0 g hg => hB1.out.block g (hRl.out g hg))
        obtain ⟨a, c', cw, ev, -, g1, -⟩ := hEr.get m hml
        obtain ⟨a', c'', cw', ev', -, k1, -⟩ := hEr.get u hul.out
        rw [hn.out] at ev ev'
        injection ev with e1 e2 e3
        subst e1 e3
        injection ev' with e4 e5 e6
        injection e4 with e4
        subst e4
        rw [htt.out] at k1
        rw [hintR, List.getD_eq_getElem?_getD, List.getElem?_eq_getElem hml, Option.getD_some, (hat.out m hml).1] at hRm
        generalize L.l[m].t = tm at *
        replace hbr := Lib.hid hbr
        clear hEr e2 e5 e6 q1 q2
        by_cases ht : tm = tt
        · subst ht
          have htb : (tm == tm) = true := beq_self_eq_true tm
          rw [if_pos rfl] at hRm
          replace hRm := Lib.hid hRm
          replace hml := Lib.hid hml
          replace f2 := Lib.hid f2
          replace ha := Lib.hid ha
          go_wp2_with fail
          go_quiet (fail)
          go_wp2_with fail
          go_roundg k
          case measure => omega
          case rel => exact ⟨m, a1, rfl, f2.out, by omega, by omega, by have := hRm.out; rw [← this, f2.out]; congr 1; omega, below_drewN hbr.out _⟩
        · have htb : (tm == tt) = false := by simpa using ht
          rw [if_neg ht] at hRm
          subst hRm
          replace hml := Lib.hid hml
          replace f2 := Lib.hid f2
          replace ha := Lib.hid ha
          go_wp2_with fail
          go_quiet (fail)
          go_wp2_with fail
          go_ret
          exact ⟨rfl, below_drewN hB1.out _⟩
end Go.Proofs.Ytkjfplkbgooflaa
