/-
  entry.may: do entries come one by one?
-/
import Derived.Test.YtkjfplkbgooflaaAppend
import Derived.WalkSmall
namespace Go.Proofs.Ytkjfplkbgooflaa
open Go Go.RowKit Go.Lst Go.Lx

def mayEs : Int → Int → List Ent → Bool
  | _, _, [] => true
  | i, t, e :: es => mayE e && decide (e.i = IntKind.u64.wrap (i + 1)) && decide (t ≤ e.t) && mayEs e.i e.t es
theorem mayEs_cons (i t : Int) (e : Ent) (es : List Ent) : mayEs i t (e :: es) = (mayE e && decide (e.i = IntKind.u64.wrap (i + 1)) && decide (t ≤ e.t) && mayEs e.i e.t es) := rfl
set_option maxRecDepth 100000 in
set_option maxHeartbeats 2000000 in
theorem may_calls (B : Nat) (i t : Int) (v : Value) (es : List Ent) (w : World) (h : Ents B w v es) :
    Calls Try.prog 39 #[.int .u64 i, .int .u64 t, v] w fun y w' => y = .returned (.bool (mayEs i t es)) ∧ Below w.heap.size w w' := by
  obtain ⟨p, c, hv, hlc, hcm, -⟩ := id h
  have hC := Lib.hid (fun e cv w' hn => MayEntry_calls e cv w' hn)
  unfold entV at hC
  have hH := Lib.hid h
  rw [hv]
  replace hv := Lib.hid hv
  replace hlc := Lib.hid hlc
  replace hcm := Lib.hid hcm
  clear h
  obtain ⟨n, hn⟩ : ∃ n, es.length = n := ⟨_, rfl⟩
  rw [hn]
  have hcm' := Lib.hid (show n ≤ maxLen by rw [← hn]; exact Nat.le_trans hlc.out hcm.out)
  go_enter Try.func39, Try.ntmps39
  go_wp2_with fail
  go_loopg [0, 1, 11] (n + 1) (fun k v0 v1 v11 wr => ∃ (j : Nat) (ci ct : Int), v0 = .int .u64 ci ∧ v1 = .int .u64 ct ∧ v11 = .int .i64 (j : Int) ∧ j ≤ n ∧ n < j + k ∧ mayEs i t es = mayEs ci ct (es.drop j) ∧ Below w.heap.size w wr)
  case atStart => exact ⟨0, i, t, rfl, rfl, rfl, by omega, by omega, rfl, Below.refl _ _⟩
  case round =>
    obtain ⟨j, ci, ct, rfl, rfl, rfl, hile, hfuel, hm, hB⟩ := hrel
    cases gk with
    | zero => omega
    | succ k =>
      by_cases hlt : j < n
      · have hlt1 : (j : Int) < (n : Int) := by omega
        have h0 : (0 : Int) ≤ (j : Int) := by omega
        have hltl : j < es.length := by omega
        rw [List.drop_eq_getElem_cons hltl] at hm
        obtain ⟨a, c', cw, ev, g0, g1, g2, g3, g4, hcf⟩ := hH.out.get j hltl
        obtain ⟨e1, e2, e3⟩ : p = some a ∧ n = es.length ∧ c = c' := by
          have := hv.out.symm.trans ev
          injection this with e1 e2 e3
          exact ⟨e1, hn.symm, e3⟩
        subst e1 e3
        clear e2 ev
        generalize es[j] = en at *
        obtain ⟨ei, et, ek, s, ec⟩ := en
        obtain ⟨pw, cc, rfl, -⟩ := hcf.n.parts
        have hn1 := Lib.hid (hcf.n.below hB)
        clear hcf
        dsimp only at *
        replace g0 := (cell_below hB g0).trans g0
        replace g1 := (cell_below hB g1).trans g1
        replace g2 := (cell_below hB g2).trans g2
        replace g3 := (cell_below hB g3).trans g3
        replace g4 := (cell_below hB g4).trans g4
        have hm1 := made1 wr #[.int .u64 ei, .int .u64 et, .int .u8 ek, .string s, .slice pw ec.length cc] 31
        dsimp only at hm1
        obtain ⟨mE, hmE⟩ : ∃ mE, mayE ⟨ei, et, ek, s, ec⟩ = mE := ⟨_, rfl⟩
        have hC1 := Lib.hid (hC.out ⟨ei, et, ek, s, ec⟩ (.slice pw ec.length cc))
        rw [mayEs_cons] at hm
        rw [hmE] at hm hC1
        dsimp only at hm hC1
        obtain ⟨I, hI⟩ : ∃ I, IntKind.u64.wrap (ci + 1) = I := ⟨_, rfl⟩
        rw [hI] at hm
        clear hmE
        replace hm := Lib.hid hm
        replace hm1 := Lib.hid hm1
        replace hB := Lib.hid hB
        go_wp2_with fail
        have hm2 := hm1.out
        clear hm1
        clear g0 g1 g2 g3 g4
        generalize wr.alloc (.cells #[.int .u64 ei, .int .u64 et, .int .u8 ek, .string s, .slice pw ec.length cc] 31) = W at *
        obtain ⟨hE, hb1, -⟩ := hm2
        ((with_reducible refine (hC1.out W (hn1.out.below hb1)).mono ?_); rintro y w2 ⟨rfl, hb2⟩)
        replace hE := hE.below hb2
        replace hB := Lib.hid (Lx.bstep hB.out (Nat.le_refl _) (Lx.bstep hb1 (Nat.le_refl _) hb2))
        clear hb1 hb2
        obtain ⟨a0, a1, a2, a3, a4, -⟩ := hE.c5
        cases mE with
        | false =>
          have hm' := Lib.hid (show mayEs i t es = false by rw [hm.out]; rfl)
          clear hm
          go_wp2_with fail
          go_ret
          exact ⟨by rw [hm'.out]; rfl, hB.out⟩
        | true =>
          by_cases hI1 : ei = I
          · have hI2 : (ei != I) = false := by rw [hI1]; exact bne_self_eq_false I
            by_cases ht : et < ct
            · have hm' := Lib.hid (show mayEs i t es = false by rw [hm.out, decide_eq_false (by omega : ¬ ct ≤ et)]; simp)
              replace hI1 := Lib.hid hI1
              clear hm
              go_wp2_with fail
              go_ret
              exact ⟨by rw [hm'.out]; rfl, hB.out⟩
            · have hm' := Lib.hid (show mayEs i t es = mayEs ei et (es.drop (j + 1)) by rw [hm.out, decide_eq_true (by omega : ct ≤ et), decide_eq_true hI1]; rfl)
              have ht' : decide (et < ct) = false := by simp; omega
              replace hI1 := Lib.hid hI1
              clear hm ht
              go_wp2_with fail
              go_quiet (fail)
              go_wp2_with fail
              go_roundg k
              case measure => omega
              case rel => exact ⟨j + 1, ei, et, rfl, rfl, by rw [IntWalk.wrap64_in _ (by have := hcm'.out; unfold maxLen at *; omega)]; rfl, by omega, by omega, hm'.out, below_drewN hB.out _⟩
          · have hI2 : (ei != I) = true := by simpa using hI1
            have hm' := Lib.hid (show mayEs i t es = false by rw [hm.out, decide_eq_false hI1]; simp)
            replace hI1 := Lib.hid hI1
            clear hm
            go_wp2_with fail
            go_ret
            exact ⟨by rw [hm'.out]; rfl, hB.out⟩
      · have hd : decide ((j : Int) < (n : Int)) = false := by simp; omega
        have hm' := Lib.hid (show mayEs i t es = true by rw [hm, List.drop_eq_nil_of_le (by omega)]; rfl)
        clear hm
        go_wp2_with fail
        go_ret
        exact ⟨by rw [hm'.out]; rfl, hB⟩
end Go.Proofs.Ytkjfplkbgooflaa
