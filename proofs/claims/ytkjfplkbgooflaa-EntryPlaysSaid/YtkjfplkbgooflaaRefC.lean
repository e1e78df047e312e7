/-
  The reference's log: ConfAt.
-/
import Derived.Test.YtkjfplkbgooflaaRef
import Derived.Test.YtkjfplkbgooflaaConf26
namespace Go.Proofs.Ytkjfplkbgooflaa
open Go Go.RowKit Go.Lst Go.Lx

/-- The last conf that is said at or ahead of an index. -/
def lastC (x : Int) (c0 : List Int) (i0 : Int) : List Ent → List Int × Int
  | [] => (c0, i0)
  | e :: es => if e.k = 3 ∧ e.i ≤ x then lastC x e.c e.i es else lastC x c0 i0 es
theorem find_ext {p q : Ent → Bool} : ∀ (l : List Ent), (∀ e ∈ l, p e = q e) → l.find? p = l.find? q
  | [], _ => rfl
  | e :: l, h => by
    rw [List.find?_cons, List.find?_cons, h e (by simp), find_ext l (fun e he => h e (by simp [he]))]
theorem lastC_find (x : Int) : ∀ (es : List Ent) (c0 : List Int) (i0 : Int), lastC x c0 i0 es = match es.reverse.find? (fun e => e.k == 3 && decide (e.i ≤ x)) with | some e => (e.c, e.i) | none => (c0, i0)
  | [], c0, i0 => rfl
  | e :: es, c0, i0 => by
    unfold lastC
    rw [List.reverse_cons, List.find?_append]
    have ih := lastC_find x es
    by_cases h : e.k = 3 ∧ e.i ≤ x
    · rw [if_pos h, ih]
      rcases es.reverse.find? _ with _ | e'
      · have hp : (e.k == 3 && decide (e.i ≤ x)) = true := by simp [h.1, h.2]
        rw [Option.none_or, List.find?_cons, hp]
      · rw [Option.some_or]
    · rw [if_neg h, ih]
      rcases es.reverse.find? _ with _ | e'
      · have hp : (e.k == 3 && decide (e.i ≤ x)) = false := by
          rcases hk : (e.k == 3) with _ | _
          · rfl
          · rw [Bool.true_and, decide_eq_false_iff_not]
            exact fun hx => h ⟨by simpa using hk, hx⟩
        rw [Option.none_or, List.find?_cons, hp, List.find?_nil]
      · rw [Option.some_or]
theorem lastC_says {L : LogS} (ok : LogOk L) (x : Int) : lastC x L.c L.i L.l = (saysC L x, saysI L x) := by
  have h : L.l.reverse.find? (fun e => e.k == 3 && decide (e.i ≤ x)) = saysE L x := by
    unfold saysE
    conv => lhs; rw [← List.take_append_drop (upTo L x) L.l]
    rw [List.reverse_append, List.find?_append]
    have h1 : ((L.l.drop (upTo L x)).reverse.find? fun e => e.k == 3 && decide (e.i ≤ x)) = none := by
      rw [List.find?_eq_none]
      intro e he
      rw [List.mem_reverse] at he
      obtain ⟨j, hj, rfl⟩ := List.getElem_of_mem he
      rw [List.getElem_drop]
      have hj' : upTo L x + j < L.l.length := by rw [List.length_drop] at hj; omega
      have : ¬ L.l[upTo L x + j].i ≤ x := fun e => by have := (upTo_iff ok x _ hj').1 e; omega
      simp [this]
    rw [h1, Option.none_or]
    refine find_ext _ fun e he => ?_
    rw [List.mem_reverse, List.mem_take_iff_getElem] at he
    obtain ⟨j, hj, rfl⟩ := he
    have := (upTo_iff ok x j (by omega)).2 (by omega)
    simp [this]
  rw [lastC_find, h]
  unfold saysC saysI
  cases saysE L x <;> rfl
set_option maxRecDepth 100000 in
set_option maxHeartbeats 2000000 in
theorem rConfAt_calls {B B0 : Nat} {w : World} {b : Nat} {cv lv : Value} {L : LogS} (h : RefAt B B0 w b cv lv L) (ok : LogOk L) (x : Int) :
    Calls Try.prog 44 #[.pointer (some ⟨b, 0, none⟩), .int .u64 x] w fun e w' => ∃ v, e = .returned (.tuple #[v, .int .u64 (saysI L x)]) ∧ Cf B w' v (saysC L x) ∧ Below w.heap.size w w' := by
  obtain ⟨p, c, hlv, hlc, hcm, -⟩ := h.row.ents
  obtain ⟨pc, dc, rfl, -⟩ := h.cf.n.parts
  obtain ⟨n, hn⟩ : ∃ n, L.l.length = n := ⟨_, rfl⟩
  have hsz := h.sz
  have hfin := Lib.hid (lastC_says ok x)
  rw [hn] at hlv hsz
  subst hlv
  have hE := Lib.hid h.row.ents
  have hRl := Lib.hid (fun g hg => (h.row.block (k := g) hg).2)
  have hF := Lib.hid h.cf
  have hB := Lib.hid h.isBlk
  obtain ⟨q0, q1, q2, q3, -⟩ := hB.out.c4
  clear h ok q1 hlc hcm
  replace hn := Lib.hid hn
  go_enter Try.func44, Try.ntmps44
  go_wp2_with fail
  go_quiet (fail)
  clear q0 q2 q3
  go_wp2_with fail
  go_loopg [6, 7, 8] (n + 1) (fun k v6 v7 v8 wr => ∃ (i : Nat) (ci : List Int) (ii : Int) (q : Option Addr) (d : Nat), v8 = .int .i64 (i : Int) ∧ v6 = .slice q ci.length d ∧ v7 = .int .u64 ii ∧ i ≤ n ∧ n < i + k ∧ Cf B wr (.slice q ci.length d) ci ∧ lastC x ci ii (L.l.drop i) = (saysC L x, saysI L x) ∧ Below w.heap.size w wr)
  case atStart => exact ⟨0, L.c, L.i, pc, dc, rfl, rfl, rfl, by omega, by omega, hF.out.keep (Calms.below (below_drewN (Below.refl _ _) _)), hfin.out, below_drewN (Below.refl _ _) _⟩
  case round =>
    clear hF hfin
    obtain ⟨i, ci, ii, q, d, rfl, rfl, rfl, hi, hk, hcf, hla, hb⟩ := hrel
    cases gk with
    | zero => omega
    | succ k =>
      replace hB := Lib.hid (hB.out.below hb)
      obtain ⟨q0, q1, q2, q3, -⟩ := hB.out.c4
      by_cases hlt : i < n
      · have hd : decide ((i : Int) < (n : Int)) = true := by simp; omega
        have hlt1 : (i : Int) < (n : Int) := by omega
        have h0 : (0 : Int) ≤ (i : Int) := by omega
        have hil : i < L.l.length := by have := hn.out; omega
        obtain ⟨a, c', cw, ev, g0, g1, g2, g3, g4, hcw⟩ := (hE.out.keepn (Calms.below hb) (fun h0 g hg => hb.block g (hRl.out g hg))).get i hil
        rw [hn.out] at ev
        injection ev with e1 e2 e3
        subst e1 e3
        rw [List.drop_eq_getElem_cons hil] at hla
        generalize L.l[i] = en at *
        unfold lastC at hla
        obtain ⟨ei, et, ek, s, ec⟩ := en
        obtain ⟨pw, cc, rfl, -⟩ := hcw.n.parts
        dsimp only at g0 g1 g2 g3 hcw hla
        clear g1 g3 q0 q1 q2 e2
        by_cases hk3 : ek = 3
        · have hkb : (ek == 3) = true := by simp [hk3]
          by_cases hx : ei ≤ x
          · rw [if_pos ⟨hk3, hx⟩] at hla
            have hxb : decide (ei ≤ x) = true := decide_eq_true hx
            replace hcw := Lib.hid hcw
            replace hla := Lib.hid hla
            replace hil := Lib.hid hil
            replace hcf := Lib.hid hcf
            replace hb := Lib.hid hb
            clear hk3
            go_wp2_with fail
            go_roundg k
            case measure => omega
            case rel => exact ⟨i + 1, ec, ei, pw, cc, by first | rfl | (rw [IntWalk.wrap64_in _ (by omega)]; rfl), rfl, rfl, by omega, by omega, hcw.out, hla.out, hb.out⟩
          · rw [if_neg (fun h => hx h.2)] at hla
            have hxb : decide (ei ≤ x) = false := decide_eq_false hx
            replace hcw := Lib.hid hcw
            replace hla := Lib.hid hla
            replace hil := Lib.hid hil
            replace hcf := Lib.hid hcf
            replace hb := Lib.hid hb
            clear hk3
            go_wp2_with fail
            go_roundg k
            case measure => omega
            case rel => exact ⟨i + 1, ci, ii, q, d, by first | rfl | (rw [IntWalk.wrap64_in _ (by omega)]; rfl), rfl, rfl, by omega, by omega, hcf.out, hla.out, hb.out⟩
        · rw [if_neg (fun h => hk3 h.1)] at hla
          have hkb : (ek == 3) = false := by simpa using hk3
          replace hcw := Lib.hid hcw
          replace hla := Lib.hid hla
          replace hil := Lib.hid hil
          replace hcf := Lib.hid hcf
          replace hb := Lib.hid hb
          clear hk3
          go_wp2_with fail
          go_roundg k
          case measure => omega
          case rel => exact ⟨i + 1, ci, ii, q, d, by first | rfl | (rw [IntWalk.wrap64_in _ (by omega)]; rfl), rfl, rfl, by omega, by omega, hcf.out, hla.out, hb.out⟩
      · have hd : decide ((i : Int) < (n : Int)) = false := by simp; omega
        have hin : i = n := by omega
        subst hin
        rw [List.drop_eq_nil_of_le (by have := hn.out; omega)] at hla
        unfold lastC at hla
        injection hla with h1 h2
        subst h1 h2
        replace hcf := Lib.hid hcf
        replace hb := Lib.hid hb
        go_wp2_with fail
        go_ret2
        exact ⟨_, rfl, hcf.out, hb.out⟩
end Go.Proofs.Ytkjfplkbgooflaa
