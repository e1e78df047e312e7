/-
  A tally with a floor: no block of its own lies below it. NewTally, Vote.
-/
import Derived.Test.YtjjdfhokmiaekaaElect6
import Derived.Test.YtjjdfhokmiaekaaElCounts
namespace Go.Proofs.Ytjjdfhokmiaekaa
open Go.RowKit Go.Lst Go.Lx
attribute [local go_sem] run_eql_slice_nil

structure TalL (w : World) (lo b : Nat) (T : Int) (conf : List Int) (said : List Nat) : Prop where
  t : Tal w b T conf said
  lo : ∃ p c, w.cell? ⟨b, 1, none⟩ = some (.slice (some p) conf.length c) ∧ lo ≤ p.block
theorem TalL.below {w w' : World} {lo b : Nat} {T : Int} {conf : List Int} {said : List Nat} (h : TalL w lo b T conf said) (hb : Below w.heap.size w w') : TalL w' lo b T conf said := by
  obtain ⟨p, c, h1, h2⟩ := h.lo
  exact ⟨h.t.below hb, p, c, (cell_below hb h1).trans h1, h2⟩
theorem TalL.put {w : World} {lo b : Nat} {T : Int} {conf : List Int} {said : List Nat} (h : TalL w lo b T conf said) (i x : Nat) (hi : i < 65) : TalL (w.setCell ⟨b, 2 + i, none⟩ (.int .u8 (x : Int))) lo b T conf (said.set i x) := by
  obtain ⟨p, c, h1, h2⟩ := h.lo
  exact ⟨h.t.put i x hi, p, c, by rw [World.cell?_setCell_other _ _ _ _ (by intro e; injection e with _ e _; omega)]; exact h1, h2⟩
theorem TalL.keep {w w' : World} {lo b : Nat} {T : Int} {conf : List Int} {said : List Nat} (h : TalL w lo b T conf said) (hk : ∀ k, lo ≤ k → k ≤ b → w'.heap[k]? = w.heap[k]?) : TalL w' lo b T conf said := by
  obtain ⟨p, c, h1, h2⟩ := h.lo
  obtain ⟨q, d, g1, g2, g3⟩ := h.t.c1
  have hq : lo ≤ q.block := by
    rw [h1] at g1; injection g1 with g1; injection g1 with g1 _ _; injection g1 with g1; rw [← g1]; exact h2
  have hbl := hk b (by omega) (Nat.le_refl _)
  exact ⟨⟨h.t.few, (World.cell?_of_block hbl).trans h.t.c0, ⟨q, d, (World.cell?_of_block hbl).trans g1, g2, g3.keep (fun k e => by cases e; exact hk _ hq (by omega))⟩, fun i hi => (World.cell?_of_block hbl).trans (h.t.c2 i hi), fun i hi => (World.frozen?_of_block hbl).trans (h.t.fr i hi)⟩, p, c, (World.cell?_of_block hbl).trans h1, h2⟩
theorem TalL.le {w : World} {lo b : Nat} {T : Int} {conf : List Int} {said : List Nat} (h : TalL w lo b T conf said) : lo < b := by
  obtain ⟨p, c, h1, h2⟩ := h.lo
  obtain ⟨q, d, g1, g2, g3⟩ := h.t.c1
  rw [h1] at g1; injection g1 with g1; injection g1 with g1 _ _; injection g1 with g1; rw [← g1] at g2; omega
theorem tal_made_c1 (w : World) (T : Int) (p : Addr) (c : Nat) (xs : List Int) :
    (w.alloc (.cells ((Try.zeroCells117.setIfInBounds 0 (.int .u64 T)).setIfInBounds 1 (.slice (some p) xs.length c)) 117)).cell? ⟨w.heap.size, 1, none⟩ = some (.slice (some p) xs.length c) := by
  have hh : ∀ C : Array Value, (w.alloc (.cells C 117)).heap[w.heap.size]? = some (.cells C 117) := fun C => by show (w.heap.push _)[w.heap.size]? = _; simp
  simp only [World.cell?, hh, zeros_eq]; simp
def VotingL (w : World) (lo b : Nat) (T : Int) (conf : List Int) (r : Nat × List Nat) (e : Ending) (w' : World) : Prop :=
  e = .returned (.int .i64 (r.1 : Int)) ∧ TalL w' lo b T conf r.2 ∧ w.grownBy w' (some b)

set_option maxRecDepth 100000 in
set_option maxHeartbeats 1000000 in
theorem NewTallyL_calls (T : Int) (v : Value) (xs : List Int) (w : World) (h : Nums .i64 w v xs) (hT : 1 ≤ T ∧ T ≤ 281474976710656) (hm : may xs = true) :
    Calls Try.prog 32 #[.int .u64 T, v] w fun e w' => ∃ b, e = .returned (.tuple #[.pointer (some ⟨b, 0, none⟩), .int .i64 0]) ∧ w.heap.size ≤ b ∧ TalL w' w.heap.size b T xs (List.replicate 65 0) ∧ Below w.heap.size w w' := by
  have C1 := Lib.hid (May_calls v xs w h)
  rw [hm] at C1
  have hl : 0 < xs.length ∧ xs.length ≤ 7 := by simp [may] at hm; omega
  have C2 := Lib.hid (fun W h => Clone_calls v xs W h hl.1 (by omega))
  have hg : (decide (T < 1) || decide (281474976710656 < T)) = false := by simp; omega
  have hT1 : decide (T < 1) = false := by simp; omega
  have hT2 : decide (281474976710656 < T) = false := by simp; omega
  clear hm hT
  go_enter Try.func32, Try.ntmps32
  go_wp2_with fail
  refine C1.out.mono ?_
  rintro e w1 ⟨rfl, hb1⟩
  replace h := h.below hb1
  go_wp2_with fail
  refine (C2.out _ h).mono ?_
  rintro e w2 ⟨u, rfl, hown, hb2⟩
  have hN : Nums .i64 w2 u xs := ⟨Lst.own hown, h.2⟩
  obtain ⟨g, cap, rfl, hg1, hg2⟩ : ∃ g cap, u = .slice (some ⟨g, 0, none⟩) xs.length cap ∧ w1.heap.size ≤ g ∧ g < w2.heap.size := by
    rcases hown.2 with ⟨_, h0⟩ | ⟨g, cap, cur, h1, h2, h3, _⟩
    · omega
    · exact ⟨g, cap, h1, h2, (Array.getElem?_eq_some_iff.1 h3).1⟩
  have hT := Lib.hid (show TalL _ w.heap.size _ T xs (List.replicate 65 0) from ⟨tal_made w2 T ⟨g, 0, none⟩ cap xs hN hg2, _, _, tal_made_c1 w2 T ⟨g, 0, none⟩ cap xs, Nat.le_trans hb1.size hg1⟩)
  clear hown hN
  go_wp2_with fail
  go_ret2
  exact ⟨w2.heap.size, rfl, Nat.le_trans hb1.size hb2.size, hT.out, (Lx.bstep hb1 (Nat.le_refl _) hb2).alloc (Nat.le_trans hb1.size hb2.size) _⟩

set_option maxRecDepth 100000 in
set_option maxHeartbeats 2000000 in
theorem VoteL_calls (lo b : Nat) (T : Int) (conf : List Int) (said : List Nat) (who term : Int) (is : Bool) (w : World) (h : TalL w lo b T conf said) :
    Calls Try.prog 34 #[.pointer (some ⟨b, 0, none⟩), .int .i64 who, .int .u64 term, .bool is] w (VotingL w lo b T conf (vote T conf said who term is)) := by
  obtain ⟨p, c, h1, h2, h3⟩ := h.t.c1
  have h0 := h.t.c0
  have hh := Lib.hid h
  by_cases hw : who < 1 ∨ 64 < who
  · have hv : vote T conf said who term is = (2, said) := by unfold vote; rw [if_pos hw]
    rw [hv]
    by_cases hx : who < 1
    · clear h hw hv
      go_enter Try.func34, Try.ntmps34
      go_wp2_with fail
      go_ret
      exact ⟨rfl, hh.out, grown_below (Below.refl _ _)⟩
    · have hx2 : 64 < who := by omega
      clear h hw hv
      go_enter Try.func34, Try.ntmps34
      go_wp2_with fail
      go_ret
      exact ⟨rfl, hh.out, grown_below (Below.refl _ _)⟩
  · have hx1 : decide (who < 1) = false := by simp; omega
    have hx2 : decide (64 < who) = false := by simp; omega
    obtain ⟨m, rfl⟩ : ∃ m : Nat, who = (m : Int) := ⟨who.toNat, by omega⟩
    have hm : m < 65 := by omega
    have hmi : (m : Int) < 65 := by omega
    have hm0 : (0 : Int) ≤ (m : Int) := by omega
    by_cases ht : term = T
    · have hte : (term != T) = false := by simp [ht]
      have hH := Lib.hid (fun W h => Has_calls (.slice (some p) conf.length c) conf (m : Int) W h)
      by_cases hin : (m : Int) ∈ conf
      · rw [decide_eq_true hin] at hH
        have hc2 := h.t.c2 m hm
        have hfr := h.t.fr (2 + m) (by omega)
        by_cases hs : said.getD m 0 = 0
        · have hv : vote T conf said (m : Int) term is = (0, said.set m (if is then 1 else 2)) := by
            unfold vote; rw [if_neg hw, if_neg (by simp [ht, hin]; simpa using hs)]; simp
          rw [hv]
          have hsb : (((said.getD m 0 : Nat) : Int) != 0) = false := by rw [hs]; rfl
          generalize said.getD m 0 = S at *
          clear h hw hv hs
          cases is
          all_goals
            go_enter Try.func34, Try.ntmps34
            go_wp2_with fail
            refine (hH.out _ h3).mono ?_
            rintro e w1 ⟨rfl, hb1⟩
            replace hfr := (frozen_below hb1 (by rw [hc2]; rfl)).trans hfr
            replace hc2 := (cell_below hb1 hc2).trans hc2
            have hh1 := Lib.hid (hh.out.below hb1)
            clear h0 h1 h3
            have h0 := hh1.out.t.c0
            go_wp2_with fail
            go_ret
          · exact ⟨rfl, hh1.out.put m 2 hm, (grown_below hb1).trans (grown_put _ _ _ _)⟩
          · have hp := (hh1.out.put m 2 hm).put m 1 hm
            rw [List.set_set] at hp
            exact ⟨rfl, hp, ((grown_below hb1).trans (grown_put _ _ _ _)).trans (grown_put _ _ _ _)⟩
        · have hv : vote T conf said (m : Int) term is = (0, said) := by
            unfold vote; rw [if_neg hw, if_pos (by right; right; simpa using hs)]
          rw [hv]
          have hsb : (((said.getD m 0 : Nat) : Int) != 0) = true := by rw [bne_iff_ne]; omega
          generalize said.getD m 0 = S at *
          clear h hw hv hs
          go_enter Try.func34, Try.ntmps34
          go_wp2_with fail
          refine (hH.out _ h3).mono ?_
          rintro e w1 ⟨rfl, hb1⟩
          replace hc2 := (cell_below hb1 hc2).trans hc2
          have hh1 := Lib.hid (hh.out.below hb1)
          go_wp2_with fail
          go_ret
          exact ⟨rfl, hh1.out, grown_below hb1⟩
      · rw [decide_eq_false hin] at hH
        have hv : vote T conf said (m : Int) term is = (0, said) := by
          unfold vote; rw [if_neg hw, if_pos (by right; left; exact hin)]
        rw [hv]
        clear h hw hv
        go_enter Try.func34, Try.ntmps34
        go_wp2_with fail
        refine (hH.out _ h3).mono ?_
        rintro e w1 ⟨rfl, hb1⟩
        have hh1 := Lib.hid (hh.out.below hb1)
        go_wp2_with fail
        go_ret
        exact ⟨rfl, hh1.out, grown_below hb1⟩
    · have hte : (term != T) = true := by simp [ht]
      have hv : vote T conf said (m : Int) term is = (0, said) := by
        unfold vote; rw [if_neg hw, if_pos (by left; exact ht)]
      rw [hv]
      clear h hw hv
      go_enter Try.func34, Try.ntmps34
      go_wp2_with fail
      go_ret
      exact ⟨rfl, hh.out, grown_below (Below.refl _ _)⟩
end Go.Proofs.Ytjjdfhokmiaekaa
