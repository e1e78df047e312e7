/-
  The reference's log: Store.
-/
import Derived.Test.YtkjfplkbgooflaaRefComp
import Derived.Test.YtkjfplkbgooflaaStoresMath
namespace Go.Proofs.Ytkjfplkbgooflaa
open Go Go.RowKit Go.Lst Go.Lx

theorem Ents.pre {B : Nat} {w : World} {p : Option Addr} {n c : Nat} {es : List Ent} (h : Ents B w (.slice p n c) es) (N : Nat) (hN : N ≤ es.length) : Ents B w (.slice p N c) (es.take N) := by
  obtain ⟨p', c', e, h1, h2, h3⟩ := h
  injection e with e1 e2 e3
  subst e1 e2 e3
  have hl : (es.take N).length = N := by rw [List.length_take]; omega
  refine ⟨p, c, by rw [hl], by rw [hl]; omega, h2, fun j hj => ?_⟩
  obtain ⟨a, cv, ha, h4, h5⟩ := h3 j (by omega)
  refine ⟨a, cv, ha, fun m hm => ?_, ?_⟩
  · rw [List.getElem_take]; exact h4 m hm
  · rw [List.getElem_take]; exact h5
theorem Ents.suf {B : Nat} {w : World} {a : Addr} {n c : Nat} {es : List Ent} (h : Ents B w (.slice (some a) n c) es) (i : Nat) (hi : i ≤ n) (hn : es.length = n) : Ents B w (.slice (some (a.add (i * 5))) (n - i) (c - i)) (es.drop i) := by
  have := h.sub i (n - i) (by omega)
  rwa [List.take_of_length_le (by rw [List.length_drop]; omega)] at this
/-- What is appended onto nil is a row of the call's own. -/
theorem append_nil {B : Nat} {w : World} (hB : B ≤ w.heap.size) (ty : TypeId) (v : Value) (es : List Ent) (hx : Ents B w v es) (hn : es.length * 64 ≤ 140737488355328) :
    ∃ v' w', (Builtin.append_ #[33, 33] ty #[.slice none 0 0, v]).run Try.prog w = .ok v' w' ∧ Row B w.heap.size w' v' es ∧ Below w.heap.size w w' := by
  obtain ⟨p, c, rfl, h1, h2, h3⟩ := id hx
  cases p with
  | some a =>
    obtain ⟨v', w', hr, g1, -, -, -, g5⟩ := row_append (Row.nil B w.heap.size w) hB (Nat.le_refl _) ty a c es hx (by simpa using hn)
    exact ⟨v', w', hr, g1, g5⟩
  | none =>
    have e0 : es = [] := by
      cases es with
      | nil => rfl
      | cons x xs => obtain ⟨_, _, e, _⟩ := h3 0 (by simp); cases e
    subst e0
    obtain ⟨i0, hi, hz0, hz1, hz2⟩ := info_parts infoEntry
    refine ⟨.slice none 0 0, w, ?_, Row.nil _ _ _, Below.refl _ _⟩
    simp [Builtin.append_, run_underlying Try.underlying33, sizeOf, typeInfo, hi, Builtin.lenOf, Builtin.firstCells, loadCells, loadCellsFrom]
theorem mayEs_drop {i t : Int} {es : List Ent} {j : Nat} (hj : j < es.length) : mayEs i t (es.drop j) = (mayE es[j] && decide (es[j].i = IntKind.u64.wrap (i + 1)) && decide (t ≤ es[j].t) && mayEs es[j].i es[j].t (es.drop (j + 1))) := by
  rw [List.drop_eq_getElem_cons hj, mayEs_cons]
theorem skipE_drop {L : LogS} {es : List Ent} {j : Nat} (hj : j < es.length) : skipE L (es.drop j) = if es[j].i ≤ L.i ∨ fitsB L es[j].i es[j].t = true then skipE L (es.drop (j + 1)) else es.drop j := by
  rw [List.drop_eq_getElem_cons hj, skipE]
theorem store_facts {ei el i0 : Int} {n j : Nat} (hj : j < n) (he : el = ei + ((n - 1 - j : Nat) : Int)) (h0 : 0 ≤ i0) (h1 : i0 < ei) (h2 : el ≤ 281474976710656) :
    ∃ d, IntKind.u64.wrap (el - i0) = d ∧ d = (ei - i0 - 1) + (((n - j - 1 : Nat) : Int) + 1) ∧ ∃ N : Nat, IntKind.u64.wrap (ei - i0) = (N : Int) + 1 ∧ IntKind.u64.wrap ((N : Int) + 1 - 1) = (N : Int) ∧ IntKind.u64.wrap (N : Int) = (N : Int) ∧ (ei - i0 - 1).toNat = N ∧ ei = i0 + N + 1 :=
  ⟨el - i0, by rw [IntKind.wrap_u64]; omega, by omega, (ei - i0 - 1).toNat, by rw [IntKind.wrap_u64]; omega, by rw [IntKind.wrap_u64]; omega, by rw [IntKind.wrap_u64]; omega, rfl, by omega⟩
set_option maxRecDepth 100000 in
set_option maxHeartbeats 8000000 in
theorem rStore_calls {B B0 : Nat} {w : World} {b : Nat} {cv lv : Value} {L : LogS} (h : RefAt B B0 w b cv lv L) (ok : LogOk L) (i t : Int) (hi : 0 ≤ i) (v : Value) (es : List Ent) (he : Ents B w v es) (hvb : 0 < es.length → ∀ k, v.ownBlock = some k → k < B) (hlen : es.length * 64 ≤ 140737488355328) :
    Calls Try.prog 25 #[.pointer (some ⟨b, 0, none⟩), .int .u64 i, .int .u64 t, v] w fun y w' => ∃ pv lv', y = .returned (.tuple #[.int .u64 (storeAt L i t es), pv, .int .i64 (storeE L i t es)]) ∧ Ents B w' pv (storePut L i t es) ∧ RefAt B B0 w' b cv lv' (storeL L i t es) ∧ Stays (fun k => k = b) w w' ∧ (∀ k, lv'.ownBlock = some k → lv.ownBlock = some k ∨ w.heap.size ≤ k) := by
  have hM := Lib.hid (fun e cv' w' hn => rMayEntry_calls e cv' w' hn)
  unfold entV at hM
  have hH := Lib.hid h
  have hlo := Lib.hid h.lo
  have hlt := Lib.hid h.lt
  have hok := Lib.hid ok
  have hC1 := Lib.hid (fun A (hb : Below w.heap.size w A) => rTermAt_calls (h.below hb) ok i hi)
  have hF := Lib.hid (fun A (hb : Below w.heap.size w A) x t' hx => rFits_calls (h.below hb) ok x t' hx)
  obtain ⟨n, hn⟩ : ∃ n, es.length = n := ⟨_, rfl⟩
  obtain ⟨p0, c0, hv, hlc, hcm, -⟩ := id he
  have he' := Lib.hid (fun A (hb : Below w.heap.size w A) => he.keepn (Calms.below hb) (fun h0 g hg => hb.block g (Nat.lt_of_lt_of_le (hvb h0 g hg) (by have := h.lo; have := h.lt; omega))))
  rw [hn] at hv hlc hlen
  subst hv
  have hnm : n ≤ 9223372036854775807 := by unfold maxLen at hcm; omega
  have noth : ∀ (A : World) (E : Int), Below w.heap.size w A → storeE L i t es = E → (E = 0 → skipE L es = []) → ∃ pv lv', Ending.returned (.tuple #[.int .u64 0, .slice none 0 0, .int .i64 E]) = Ending.returned (.tuple #[.int .u64 (storeAt L i t es), pv, .int .i64 (storeE L i t es)]) ∧ Ents B A pv (storePut L i t es) ∧ RefAt B B0 A b cv lv' (storeL L i t es) ∧ Stays (fun k => k = b) w A ∧ (∀ k, lv'.ownBlock = some k → lv.ownBlock = some k ∨ w.heap.size ≤ k) := fun A E hb hE h0 => by
    have hp : storePut L i t es = [] := by
      unfold storePut
      rw [hE]
      split
      · rename_i e; exact h0 e
      · rfl
    obtain ⟨n1, n2⟩ := store_none hp
    rw [hp, n1, n2, hE]
    exact ⟨_, lv, rfl, Ents.none _ _ (by unfold maxLen; omega), h.below hb, Stays.of_below hb, fun k hk => .inl hk⟩
  replace noth := Lib.hid noth
  have hE0 := Lib.hid (show storeE L i t es = (if mayEs i t es = false then 2 else if clashB L i t = true then 261 else match skipE L es with | [] => 0 | e :: r => if 4096 < (e.i - L.i - 1) + ((r.length : Int) + 1) then 6 else 0) from rfl)
  clear h ok he
  replace hlen := Lib.hid hlen
  replace hlc := Lib.hid hlc
  replace hcm := Lib.hid hcm
  replace hn := Lib.hid hn
  replace hi := Lib.hid hi
  replace hvb := Lib.hid hvb
  go_enter Try.func25, Try.ntmps25
  go_wp2_with fail
  go_loopg [11, 12, 13] (n + 1) (fun k v11 v12 v13 A => ∃ (j : Nat) (ia ta : Int), v13 = .int .i64 (j : Int) ∧ v11 = .int .u64 ia ∧ v12 = .int .u64 ta ∧ j ≤ n ∧ n < j + k ∧ mayEs ia ta (es.drop j) = mayEs i t es ∧ Below w.heap.size w A)
  case atStart => exact ⟨0, i, t, rfl, rfl, rfl, by omega, by omega, rfl, Below.refl _ _⟩
  case round => as_aux_lemma =>
    obtain ⟨j, ia, ta, rfl, rfl, rfl, hj, hk, hmay, hb⟩ := hrel
    cases gk with
    | zero => omega
    | succ k =>
      by_cases hlt1 : j < n
      case pos => as_aux_lemma =>
        have hlt2 : (j : Int) < (n : Int) := by omega
        have h0 : (0 : Int) ≤ (j : Int) := by omega
        have hjl : j < es.length := by have := hn.out; omega
        obtain ⟨a, c', cw, ev, g0, g1, g2, g3, g4, hcw⟩ := (he'.out _ hb).get j hjl
        rw [hn.out] at ev
        injection ev with e1 e2 e3
        subst e1 e3
        rw [mayEs_drop hjl] at hmay
        generalize es[j] = en at *
        obtain ⟨mE, hmE⟩ : ∃ mE, mayE en = mE := ⟨_, rfl⟩
        have hMc := hM.out en cw wr hcw.n
        rw [hmE] at hMc hmay
        obtain ⟨ei, et, ek, s, ec⟩ := en
        obtain ⟨pw, cc, rfl, -⟩ := hcw.n.parts
        dsimp only at g0 g1 g2 g3 hmay hMc
        obtain ⟨iw, hiw⟩ : ∃ iw, IntKind.u64.wrap (ia + 1) = iw := ⟨_, rfl⟩
        rw [hiw] at hmay
        have bad : mayEs i t es = false → ∀ A, Below w.heap.size w A → storeE L i t es = 2 := fun h _ _ => by rw [hE0.out, if_pos h]
        replace hMc := Lib.hid hMc
        clear hcw e2 hmE
        replace hjl := Lib.hid hjl
        cases mE with
        | false => as_aux_lemma =>
          have hm0 : mayEs i t es = false := by rw [← hmay]; rfl
          replace hm0 := Lib.hid hm0
          replace hb := Lib.hid hb
          clear hmay
          go_wp2_with fail
          refine hMc.out.mono ?_
          rintro y w2 ⟨rfl, hb2⟩
          replace hb2 := Lib.hid hb2
          go_wp2_with fail
          go_ret3
          exact noth.out _ 2 (Lx.bstep hb.out (Nat.le_refl _) hb2.out) (bad hm0.out _ hb.out) (fun h => by cases h)
        | true => as_aux_lemma =>
          by_cases hi2 : ei = iw
          case neg => as_aux_lemma =>
            have hm0 : mayEs i t es = false := by rw [← hmay, decide_eq_false hi2]; rfl
            have hib : (ei != iw) = true := by simpa using hi2
            replace hm0 := Lib.hid hm0
            replace hb := Lib.hid hb
            clear hmay hi2
            go_wp2_with fail
            refine hMc.out.mono ?_
            rintro y w2 ⟨rfl, hb2⟩
            replace g0 := (cell_below hb2 g0).trans g0
            replace g1 := (cell_below hb2 g1).trans g1
            replace hb2 := Lib.hid hb2
            go_wp2_with fail
            go_ret3
            exact noth.out _ 2 (Lx.bstep hb.out (Nat.le_refl _) hb2.out) (bad hm0.out _ hb.out) (fun h => by cases h)
          case pos => as_aux_lemma =>
          have hib : (ei != iw) = false := by simp [hi2]
          by_cases ht2 : et < ta
          · as_aux_lemma =>
            have hm0 : mayEs i t es = false := by rw [← hmay, decide_eq_false (show ¬ ta ≤ et by omega)]; simp
            have htb : decide (et < ta) = true := decide_eq_true ht2
            replace hm0 := Lib.hid hm0
            replace hb := Lib.hid hb
            clear hmay hi2
            go_wp2_with fail
            refine hMc.out.mono ?_
            rintro y w2 ⟨rfl, hb2⟩
            replace g0 := (cell_below hb2 g0).trans g0
            replace g1 := (cell_below hb2 g1).trans g1
            replace hb2 := Lib.hid hb2
            go_wp2_with fail
            go_ret3
            exact noth.out _ 2 (Lx.bstep hb.out (Nat.le_refl _) hb2.out) (bad hm0.out _ hb.out) (fun h => by cases h)
          · as_aux_lemma =>
            have htb : decide (et < ta) = false := decide_eq_false ht2
            have hm1 : mayEs ei et (es.drop (j + 1)) = mayEs i t es := by rw [← hmay, decide_eq_true hi2, decide_eq_true (show ta ≤ et by omega)]; rfl
            replace hm1 := Lib.hid hm1
            replace hb := Lib.hid hb
            clear hmay hi2 ht2
            go_wp2_with fail
            refine hMc.out.mono ?_
            rintro y w2 ⟨rfl, hb2⟩
            replace g0 := (cell_below hb2 g0).trans g0
            replace g1 := (cell_below hb2 g1).trans g1
            replace hb2 := Lib.hid (Lx.bstep hb.out (Nat.le_refl _) hb2)
            go_wp2_with fail
            go_roundg k
            case measure => omega
            case rel => exact ⟨j + 1, ei, et, by first | rfl | (rw [IntWalk.wrap64_in _ (by omega)]; rfl), rfl, rfl, by omega, by omega, hm1.out, hb2.out⟩
      case neg => as_aux_lemma =>
      have hd : decide ((j : Int) < (n : Int)) = false := by simp; omega
      have hm1 : mayEs i t es = true := by rw [← hmay, List.drop_eq_nil_of_le (by have := hn.out; omega)]; rfl
      replace hE0 := hE0.out
      rw [hm1, if_neg (by decide)] at hE0
      obtain ⟨⟨T, E⟩, hT⟩ : ∃ T, termAt L i = T := ⟨_, rfl⟩
      have hC := hC1.out _ hb
      rw [hT] at hC
      dsimp only at hC
      have hcl : clashB L i t = ((E == 5) || ((E == 0) && (T != t))) := by unfold clashB; rw [hT]
      have hcle := Lib.hid (fun h => clashB_le hok.out (i := i) (t := t) h)
      replace hC := Lib.hid hC
      clear hmay hj hk hC1 hT
      replace hm1 := Lib.hid hm1
      replace hb := Lib.hid hb
      go_wp2_with fail
      refine hC.out.mono ?_
      clear hC
      rintro y w1 ⟨rfl, hb1⟩
      replace hb := Lib.hid (Lx.bstep hb.out (Nat.le_refl _) hb1)
      clear hb1
      by_cases hc1 : E = 5
      · as_aux_lemma =>
        subst hc1
        have hs : storeE L i t es = 261 := by rw [hE0, hcl]; rfl
        replace hs := Lib.hid hs
        clear hE0 hcl
        go_wp2_with fail
        go_ret3
        exact noth.out _ 261 hb.out hs.out (fun h => by cases h)
      have hc1b : (E == 5) = false := by simpa using hc1
      by_cases hc2 : E = 0 ∧ T ≠ t
      · as_aux_lemma =>
        obtain ⟨rfl, hc3⟩ := hc2
        have hc3b : (T != t) = true := by simpa using hc3
        have hs : storeE L i t es = 261 := by rw [hE0, hcl, hc3b]; rfl
        replace hs := Lib.hid hs
        clear hE0 hcl hc3
        go_wp2_with fail
        go_ret3
        exact noth.out _ 261 hb.out hs.out (fun h => by cases h)
      have hnc : clashB L i t = false ∧ ((E == 0) = false ∨ (E == 0) = true ∧ (T != t) = false) := by
        by_cases h : E = 0
        · have hT2 : T = t := Classical.byContradiction fun h2 => hc2 ⟨h, h2⟩
          subst h hT2
          exact ⟨by rw [hcl]; simp, .inr ⟨rfl, bne_self_eq_false _⟩⟩
        · have h' : (E == 0) = false := by simpa using h
          exact ⟨by rw [hcl, hc1b, h']; rfl, .inl h'⟩
      obtain ⟨hnc1, hnc2⟩ := hnc
      rw [hnc1, if_neg (by decide)] at hE0
      have hil := hcle.out hnc1
      clear hc1 hc2 hcl hnc1 hcle
      replace hE0 := Lib.hid hE0
      replace hil := Lib.hid hil
      clear hlt1 hd
      have hat := Lib.hid (fun j (hj : j < es.length) => mayEs_at' es i t hi.out (by have := hil.out; have := hok.out.i0; have := hH.out.sz; omega) hm1.out j hj)
      rcases hnc2 with hnc2 | ⟨hnc2, hnc3⟩
      all_goals
        go_wp2_with fail
        go_loopg [16] (n + 1) (fun k v16 A => ∃ (j : Nat), v16 = .int .i64 (j : Int) ∧ j ≤ n ∧ n < j + k ∧ skipE L (es.drop j) = skipE L es ∧ Below w.heap.size w A)
        case atStart => exact ⟨0, rfl, by omega, by omega, rfl, hb.out⟩
        case round => as_aux_lemma =>
          clear hb
          obtain ⟨j, rfl, hj, hk, hsk, hb⟩ := hrel
          cases gk with
          | zero => omega
          | succ k =>
            by_cases hlt1 : j < n
            case neg => as_aux_lemma =>
              have hd : decide ((j : Int) < (n : Int)) = false := by simp; omega
              have hsk0 : skipE L es = [] := by rw [← hsk, List.drop_eq_nil_of_le (by have := hn.out; omega)]; rfl
              have hs : storeE L i t es = 0 := by rw [hE0.out, hsk0]
              replace hs := Lib.hid hs
              replace hsk0 := Lib.hid hsk0
              replace hb := Lib.hid hb
              clear hsk hj hk
              go_wp2_with fail
              go_ret3
              exact noth.out _ 0 hb.out hs.out (fun _ => hsk0.out)
            case pos => as_aux_lemma =>
            have hlt2 : (j : Int) < (n : Int) := by omega
            have h0 : (0 : Int) ≤ (j : Int) := by omega
            have hjl : j < es.length := by have := hn.out; omega
            have hEb := he'.out _ hb
            obtain ⟨a, c', cw, ev, g0, g1, -⟩ := hEb.get j hjl
            rw [hn.out] at ev
            injection ev with e1 e2 e3
            subst e1 e3
            have hB := (hH.out.below hb).isBlk
            obtain ⟨q0, -⟩ := hB.c4
            rw [skipE_drop hjl] at hsk
            obtain ⟨hej, hem⟩ := hat.out j hjl
            have hbnd := mayE_bounds hem
            have hFc := hF.out _ hb es[j].i es[j].t (by omega)
            obtain ⟨en, hen⟩ : ∃ en, es[j] = en := ⟨_, rfl⟩
            rw [hen] at hsk hej hbnd hFc g0 g1
            obtain ⟨fb, hfb⟩ : ∃ fb, fitsB L en.i en.t = fb := ⟨_, rfl⟩
            rw [hfb] at hsk hFc
            replace hFc := Lib.hid hFc
            replace hsk := Lib.hid hsk
            replace hen := Lib.hid hen
            clear e2 hB hem hEb
            replace hjl := Lib.hid hjl
            replace hej := Lib.hid hej
            replace hbnd := Lib.hid hbnd
            replace hfb := Lib.hid hfb
            by_cases hle : en.i ≤ L.i
            case pos => as_aux_lemma =>
              have hsk1 := hsk.out
              rw [if_pos (.inl hle)] at hsk1
              replace hsk1 := Lib.hid hsk1
              have hleb : decide (en.i ≤ L.i) = true := decide_eq_true hle
              obtain ⟨ei, et, ek, s, ec⟩ := en
              dsimp only at g0 g1 hle hleb
              replace hb := Lib.hid hb
              clear g1 hsk hle hFc
              go_wp2_with fail
              go_roundg k
              case measure => omega
              case rel => exact ⟨j + 1, by first | rfl | (rw [IntWalk.wrap64_in _ (by omega)]; rfl), by omega, by omega, hsk1.out, hb.out⟩
            case neg => as_aux_lemma =>
            have hleb : decide (en.i ≤ L.i) = false := decide_eq_false hle
            cases fb with
            | true => as_aux_lemma =>
              have hsk1 := hsk.out
              rw [if_pos (.inr rfl)] at hsk1
              replace hsk1 := Lib.hid hsk1
              obtain ⟨ei, et, ek, s, ec⟩ := en
              dsimp only at g0 g1 hle hleb hFc
              replace hb := Lib.hid hb
              clear hsk hle
              go_wp2_with fail
              refine hFc.out.mono ?_
              rintro y w2 ⟨rfl, hb2⟩
              replace hb := Lib.hid (Lx.bstep hb.out (Nat.le_refl _) hb2)
              clear g0 g1 hFc hb2 q0
              go_wp2_with fail
              go_roundg k
              case measure => omega
              case rel => exact ⟨j + 1, by first | rfl | (rw [IntWalk.wrap64_in _ (by omega)]; rfl), by omega, by omega, hsk1.out, hb.out⟩
            | false => as_aux_lemma =>
              have hsk1 := hsk.out
              rw [if_neg (by rintro (h | h); exact hle h; cases h)] at hsk1
              have hskc : skipE L es = en :: es.drop (j + 1) := by rw [← hsk1, List.drop_eq_getElem_cons hjl.out, hen.out]
              obtain ⟨z1, z2, -⟩ := skipE_spec hok.out hH.out.sz es i t hi.out hil.out hm1.out en _ hskc
              have hel : es.length - 1 < es.length := by have := hjl.out; omega
              have hei := (hat.out _ hel).1
              have heb := mayE_bounds (hat.out _ hel).2
              obtain ⟨kk, hkk⟩ : ∃ kk, n = kk + 1 := ⟨n - 1, by omega⟩
              have hkl : kk < es.length := by have := hn.out; omega
              have hei' : es[kk].i = en.i + ((n - 1 - j : Nat) : Int) := by
                have h1 := (hat.out kk hkl).1
                have h2 := hej.out
                omega
              have hebk := mayE_bounds (hat.out kk hkl).2
              obtain ⟨d, f1, f2, N, f3, f4, f5, f6, f7⟩ := store_facts hlt1 hei' hok.out.i0.1 z1 hebk.2.1
              have hrl : (es.drop (j + 1)).length = n - j - 1 := by rw [List.length_drop, hn.out]; omega
              have hE1 := hE0.out
              rw [hskc] at hE1
              dsimp only at hE1
              rw [hrl, ← f2] at hE1
              have hNl : N ≤ L.l.length := by omega
              obtain ⟨ax, cx, cvx, evx, k0, -⟩ := (he'.out _ hb).get kk hkl
              rw [hn.out] at evx
              injection evx with e1 e2 e3
              injection e1 with e1
              subst e1
              have hsk2 := hsk.out
              generalize es[kk].i = el at *
              obtain ⟨ei, et, ek, s, ec⟩ := en
              dsimp only at g0 g1 hle hleb hFc hE1 f3 f6 f7 z1
              have G2 : (0 : Int) ≤ (kk : Int) := by omega
              have G3 : (kk : Int) < ((kk + 1 : Nat) : Int) := by omega
              have G1 : wrap64 (kk : Int) = (kk : Int) := IntWalk.wrap64_in _ (by omega)
              replace hsk1 := Lib.hid hsk1
              replace hskc := Lib.hid hskc
              subst hkk
              clear hei heb hel hebk hei' e2 e3 hsk2 hsk hle
              replace hE1 := Lib.hid hE1
              replace hNl := Lib.hid hNl
              replace z1 := Lib.hid z1
              replace z2 := Lib.hid z2
              replace f2 := Lib.hid f2
              replace f6 := Lib.hid f6
              replace f7 := Lib.hid f7
              replace hrl := Lib.hid hrl
              replace hkl := Lib.hid hkl
              replace hb := Lib.hid hb
              go_wp2_with fail
              refine hFc.out.mono ?_
              clear hFc
              rintro y w2 ⟨rfl, hb2⟩
              replace g0 := (cell_below hb2 g0).trans g0
              replace k0 := (cell_below hb2 k0).trans k0
              replace q0 := (cell_below hb2 q0).trans q0
              replace hb := Lib.hid (Lx.bstep hb.out (Nat.le_refl _) hb2)
              clear g1 hb2
              by_cases hfull : (4096 : Int) < d
              case pos => as_aux_lemma =>
                have hs : storeE L i t es = 6 := by have := hE1.out; rwa [if_pos hfull] at this
                have hfb : decide ((4096 : Int) < d) = true := decide_eq_true hfull
                replace hs := Lib.hid hs
                clear hfull
                go_wp2_with fail
                go_quiet (fail)
                go_wp2_with fail
                go_ret3
                exact noth.out _ 6 (below_drewN hb.out _) hs.out (fun h => by cases h)
              have hs : storeE L i t es = 0 := by have := hE1.out; rwa [if_neg hfull] at this
              have hfb : decide ((4096 : Int) < d) = false := decide_eq_false hfull
              replace hs := Lib.hid hs
              replace hfull := Lib.hid hfull
              go_wp2_with fail
              go_quiet (fail)
              clear G1
              go_wp2_with fail
              have hlog := hH.out.below (below_drewN hb.out nq)
              have heb := he'.out _ (below_drewN hb.out nq)
              have hbW := Lib.hid (below_drewN hb.out nq)
              clear q0 g0 k0 hb hF
              generalize w2.drewN nq = W at *
              obtain ⟨q0, -, -, q3, -⟩ := hlog.isBlk.c4
              have hrow := hlog.row
              obtain ⟨ln, hln⟩ : ∃ n, L.l.length = n := ⟨_, rfl⟩
              obtain ⟨p3, c3, hlv, hlc3, hcm3, -⟩ := hrow.ents
              rw [hln] at hlv hlc3
              rw [hlv] at q3
              have n3 : (0 : Int) ≤ (N : Int) := by omega
              have n4 : (N : Int) ≤ (c3 : Int) := by have := hNl.out; omega
              have hnon : Nonempty (Ext W) := ⟨⟨W, Below.refl _ _⟩⟩
              have y0 := fun y : Ext W => (cell_below y.below q0).trans q0
              have y3 := fun y : Ext W => (cell_below y.below q3).trans q3
              replace hlog := Lib.hid hlog
              replace heb := Lib.hid heb
              replace hrow := Lib.hid hrow
              replace hln := Lib.hid hln
              replace hlv := Lib.hid hlv
              replace hlc3 := Lib.hid hlc3
              replace hcm3 := Lib.hid hcm3
              refine Lx.wp_region_chain_lit (fun w' => ∃ x : Lx.Ext W, w' = x.wo) (fun b => W.heap.size ≤ b) [13] [] (fun _ => True) (by kernel_rfl) (by kernel_rfl) (by kernel_rfl) (by kernel_rfl) Lx.ext_drew trivial ?_
              repeat (refine Lx.wpCh_one (by rfl) (by rfl) ?_; go_big_quiet_step (fail); refine wpQuiet_nil ?_)
              obtain ⟨F, hFe⟩ : ∃ F, es.drop j = F := ⟨_, rfl⟩
              have hFl : F.length = kk + 1 - j := by rw [← hFe, List.length_drop, hn.out]
              refine Lx.wpCh_relp (fun v A => Row B W.heap.size A v (L.l.take N) ∧ Below W.heap.size W A) (by rfl) (by rfl) (fun h => by cases h) (fun w' hx hS R hR => ?_) (fun v hv => ?_)
              · obtain ⟨x, rfl⟩ := hx
                have hE := (hlog.out.below x.below).row.ents
                rw [hlv.out] at hE
                have hlo := hlog.out.lo
                have hlt := hlog.out.lt
                have hsz := hlog.out.sz
                have hxs := x.below.size
                obtain ⟨v', w'', hr, hRow, hbl⟩ := append_nil (w := x.wo) (by omega) 33 _ _ (hE.pre N hNl.out) (by rw [List.length_take]; omega)
                rw [run_append_op (s := .tmp 119) (x := .tmp 131) (t := 33) rfl rfl rfl hr]
                have hb9 := Lx.bstep x.below (Nat.le_refl _) hbl
                exact hR _ _ ⟨⟨w'', hb9⟩, rfl⟩ ⟨hRow.mono hxs, hb9⟩ (fun h => by cases h)
              obtain ⟨_, -, hv9, -⟩ := hv
              obtain ⟨p9, c9, rfl, -⟩ := hv9.ents
              clear hv9
              obtain ⟨n9, hn9⟩ : ∃ n9, (L.l.take N).length = n9 := ⟨_, rfl⟩
              rw [hn9]
              replace hn9 := Lib.hid hn9
              go_big_quiet_step (fail)
              refine wpQuiet_nil ?_
              repeat (refine Lx.wpCh_one (by rfl) (by rfl) ?_; go_big_quiet_step (fail); refine wpQuiet_nil ?_)
              refine Lx.wpCh_nil ?_
              intro w4 hx hS
              obtain ⟨x, rfl⟩ := hx
              replace hS := Lib.hid hS
              generalize x.wo = w4 at *
              clear x y0 y3 q0 q3 hnon
              have m1 : (0 : Int) ≤ (j : Int) := by omega
              have m2 : (j : Int) ≤ ((kk + 1 : Nat) : Int) := by omega
              have m3 : ¬ (c0 - j = 0) := by have := hlc.out; omega
              have m4 : ¬ (c0 ≤ j) := by have := hlc.out; omega
              have hx9 : Ents B w4 (.slice (some (a.add (j * 5))) F.length (c0 - j)) F := by
                have h1 := (heb.out.suf j (by omega) hn.out)
                rw [hFe, ← hFl] at h1
                refine h1.keepn (Calms.below hS.out.2) (fun h0 g hg => hS.out.2.block g ?_)
                have h2 := hvb.out (by omega) a.block rfl
                have h3 : g = a.block := by
                  unfold Addr.add at hg
                  split at hg <;> · cases hg; rfl
                have := hlog.out.lo
                have := hlog.out.lt
                omega
              have hbS := Lib.hid hS.out.2
              have heb2 := heb
              clear heb
              replace hx9 := Lib.hid hx9
              have hWB : B ≤ W.heap.size := by have := hlog.out.lo; have := hlog.out.lt; omega
              replace hWB := Lib.hid hWB
              have hF0 : 0 < F.length := by rw [hFl]; omega
              have hF6 : ((L.l.take N).length + F.length) * 64 ≤ 140737488355328 := by
                have h1 := hn9.out
                have h2 := hNl.out
                have h3 := hlog.out.sz
                have h5 := hfull.out
                have h6 := f2.out
                have h7 := f7.out
                rw [hFl, List.length_take]
                omega
              have hRw := hS.out.1
              have hxv : ∀ x, x = kk + 1 - j → Value.slice (some (a.add (j * 5))) x (c0 - j) = .slice (some (a.add (j * 5))) F.length (c0 - j) := fun x hx => by rw [hFl, hx]
              replace hF6 := Lib.hid hF6
              replace hRw := Lib.hid hRw
              replace hF0 := Lib.hid hF0
              replace hxv := Lib.hid hxv
              clear hS
              go_wp2_with (at_builtin; refine wpList_append_rw rfl (.tmp 134) (.tmp 137) rfl rfl (.inl hRw.out) hWB.out (by exact hbS.out.size) (a.add (j * 5)) (c0 - j) F (hxv.out _ rfl) hx9.out hF0.out hF6.out ?_; intro v8 w8 hRow hg hcm8 hvo hbb; obtain ⟨p8, c8, rfl, -⟩ := hRow.ents; (obtain ⟨n8, hn8⟩ : ∃ n, (L.l.take N ++ F).length = n := ⟨_, rfl⟩); rw [hn8] at hRow ⊢; replace hRow := Lib.hid hRow; replace hbb := Lib.hid (hbS.out.trans hbb); clear hg hcm8 hvo; have hlog8 := hlog.out.below hbb.out; have f3 := hlog8.isBlk.frz 3; have q3 := hlog8.isBlk.cell 3 rfl; clear hlog8)
              have h8l : (L.l.take N ++ F).length ≤ 4096 := by
                have h5 := hfull.out
                have h6 := f2.out
                have h7 := f7.out
                rw [List.length_append, hFl, List.length_take]
                omega
              have hLf := Lib.hid (hlog.out.put (Stays.of_below hbb.out) (Calms.below hbb.out) (hRow.out.mono (by have := hlog.out.lo; have := hlog.out.lt; omega)).toO (fun k hk => .inr (hRow.out.block hk).1) h8l)
              have hst := Lib.hid (((Stays.of_below (O := fun k => k = b) hbW.out).trans (Stays.of_below (O := fun _ => False) hbb.out) (fun i _ hf => hf.elim)).setCell (p := ⟨b, 3, none⟩) (fun _ => rfl) (.slice p8 n8 c8))
              have hEf := Lib.hid (show Ents B (w8.setCell ⟨b, 3, none⟩ (.slice p8 n8 c8)) (.slice (some (a.add (j * 5))) (kk + 1 - j) (c0 - j)) F by
                have h1 := hx9.out
                rw [hFl] at h1
                have h6 := hlog.out.lt
                have h7 : w8.heap[b]? = W.heap[b]? := hbb.out.block b h6
                have h8 : ∀ g, (Value.slice (some (a.add (j * 5))) (kk + 1 - j) (c0 - j)).ownBlock = some g → g < B := fun g hg => by
                  have h2 := hvb.out (by omega) a.block rfl
                  have h3 : g = a.block := by
                    unfold Addr.add at hg
                    split at hg <;> · cases hg; rfl
                  omega
                have h9 := hlog.out.lo
                have hxW : Ents B W (.slice (some (a.add (j * 5))) (kk + 1 - j) (c0 - j)) F := by
                  have h1 := (heb2.out.suf j (by omega) hn.out)
                  rwa [hFe] at h1
                refine (hxW.keepn (Calms.below hbb.out) (fun _ g hg => hbb.out.block g (by have := h8 g hg; omega))).keepn (Calms.set (fun hc => hlog.out.loud (hc.keep h7.symm)) _) (fun _ g hg => Below.heap_setCell _ _ _ _ (by have := h8 g hg; dsimp only; omega)))
              generalize w8.setCell ⟨b, 3, none⟩ (.slice p8 n8 c8) = W9 at *
              go_quiet (fail)
              go_wp2_with fail
              go_ret3
              have hput : storePut L i t es = F := by unfold storePut; rw [if_pos hs.out, ← hFe]; exact hsk1.out.symm
              have hput2 : storePut L i t es = ⟨ei, et, ek, s, ec⟩ :: es.drop (j + 1) := by unfold storePut; rw [if_pos hs.out]; exact hskc.out
              have hat : storeAt L i t es = ei := by unfold storeAt; rw [hput2]
              have hL' : storeL L i t es = { L with l := L.l.take N ++ F } := by unfold storeL; rw [hput2]; dsimp only; rw [f6.out, ← hput2, hput]
              rw [hat, hs.out, hput, hL']
              have hbd := below_drewN (Below.refl W9.heap.size W9) nq
              exact ⟨_, _, rfl, hEf.out.keepn (Calms.below hbd) (fun _ _ _ => rfl), hLf.out.below hbd, hst.out.trans (Stays.of_below (O := fun _ => False) hbd) (fun i _ hf => hf.elim), fun k hk => .inr (Nat.le_trans hbW.out.size (hRow.out.block hk).1)⟩
end Go.Proofs.Ytkjfplkbgooflaa
