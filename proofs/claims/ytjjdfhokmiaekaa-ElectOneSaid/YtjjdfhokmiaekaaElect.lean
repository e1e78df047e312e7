/-
  The contracts of elect's tally: NewTally, Vote, Won, Lost.
-/
import Derived.Test.YtjjdfhokmiaekaaConf3
import Derived.Laws.Cover3
namespace Go.Proofs.Ytjjdfhokmiaekaa
open Go.RowKit Go.Lst

theorem run_eql_slice_nil {P : Program} (w : World) (t e : TypeId) (a : Option Addr) (l c : Nat) (h : P.underlying t = some (.slice e)) : (binOp .eql t (.slice a l c) (.slice none 0 0)).run P w = .ok (.bool a.isNone) w := by
  unfold binOp
  simp [run_equal_slice_nil w t e a l c h]
attribute [local go_sem] run_eql_slice_nil
theorem infoInt : (Try.prog.info? 3).map (fun i => (i.zero, i.size, i.bytes)) = some (some (.int .i64 0), 1, 8) := by kernel_rfl
set_option maxRecDepth 100000 in
set_option maxHeartbeats 1000000 in
theorem Clone_calls (v : Value) (xs : List Int) (w : World) (h : Nums .i64 w v xs) (h0 : 0 < xs.length) (hl : xs.length ≤ 100000) :
    Calls Try.prog 58 #[v] w fun e w' => ∃ u, e = .returned u ∧ w'.ownsRow w.heap.size 3 1 u xs.length (xs.map fun x => .int .i64 x) ∧ Below w.heap.size w w' := by
  obtain ⟨i0, hi, hz0, hz1, hz2⟩ := info_parts infoInt
  obtain ⟨p, c, rfl, hc1, hc2, hcell⟩ := h.parts
  obtain ⟨a, rfl, hca⟩ := hcell 0 h0
  clear hca
  have hnl := run_eql_slice_nil (P := Try.prog) w 33 3 (some a) xs.length c Try.underlying33
  have hown : (w.alloc (.cells #[] 3)).ownsRow w.heap.size 3 1 (.slice (some ⟨w.heap.size, 0, none⟩) 0 0) 0 [] :=
    ⟨rfl, .inr ⟨w.heap.size, 0, #[], rfl, Nat.le_refl _, by show (w.heap.push _)[w.heap.size]? = _; simp, Nat.le_refl _, by unfold maxLen; omega, rfl, rfl⟩⟩
  have hnews : ∀ j u, (xs.map fun x => Value.int .i64 x)[j]? = some u → (w.alloc (.cells #[] 3)).cell? (a.add j) = some u := by
    intro j u hj
    obtain ⟨q, d, e1, _, _, hc⟩ := h.1
    injection e1 with e1 e2 e3
    subst e1
    obtain ⟨hj1, hj2⟩ := List.getElem?_eq_some_iff.1 hj
    obtain ⟨b, hb, hb2⟩ := hc j hj1
    cases hb
    rw [← hj2]
    exact (cell_below ((Below.refl _ _).alloc (Nat.le_refl _) _) hb2).trans hb2
  have hlen : (xs.map fun x => Value.int .i64 x).length = xs.length * 1 := by simp
  have hone : ∀ u ∈ xs.map (fun x => Value.int .i64 x), u.oneCell' = true := by
    intro u hu
    obtain ⟨x, _, rfl⟩ := List.mem_map.1 hu
    rfl
  have h63 : 0 + xs.length ≤ maxLen := by unfold maxLen; omega
  have h64 : (0 + xs.length) * 8 ≤ 140737488355328 := by omega
  clear h hcell hl h0
  generalize xs.map (fun x => Value.int .i64 x) = ys at *
  generalize xs.length = n at *
  have h63' := Lib.hid h63; have h64' := Lib.hid h64
  clear h63 h64
  go_enter Try.func58, Try.ntmps58
  go_wp2_with (at_builtin; refine wpList_append_own _ rfl (.tmp 5) (.tmp 6) 33 rfl w.heap.size 3 i0 (.int .i64 0) 1 8 Try.underlying33 hi hz0 hz1 hz2 rfl (by decide) _ 0 [] rfl hown a n c ys rfl hlen hnews hone h63'.out h64'.out (by simp) ?_; intro v' w2 hown2 hgrow2 _)
  go_ret
  rw [Nat.zero_add] at hown2
  exact ⟨_, rfl, hown2, ((Below.refl _ _).alloc (Nat.le_refl _) _).grown hgrow2 (by simp) (fun k hk => by cases hk; exact Nat.le_refl _)⟩

/-- Block b is a tally. -/
structure Tal (w : World) (b : Nat) (T : Int) (conf : List Int) (said : List Nat) : Prop where
  few : said.length = 65
  c0 : w.cell? ⟨b, 0, none⟩ = some (.int .u64 T)
  c1 : ∃ p c, w.cell? ⟨b, 1, none⟩ = some (.slice (some p) conf.length c) ∧ p.block < b ∧ Nums .i64 w (.slice (some p) conf.length c) conf
  c2 : ∀ i, i < 65 → w.cell? ⟨b, 2 + i, none⟩ = some (.int .u8 (said.getD i 0 : Nat))
  fr : ∀ i, i < 67 → w.frozen? ⟨b, i, none⟩ = false

theorem zero_at (n i : Nat) : (List.replicate n 0).getD i 0 = 0 := by rw [List.getD_eq_getElem?_getD, List.getElem?_replicate]; split <;> rfl
theorem zeros_eq : Try.zeroCells117 = #[.int .u64 0, .slice none 0 0] ++ Array.replicate 65 (.int .u8 0) := by kernel_rfl
theorem tal_made (w : World) (T : Int) (p : Addr) (c : Nat) (xs : List Int) (h : Nums .i64 w (.slice (some p) xs.length c) xs) (hp : p.block < w.heap.size) :
    Tal (w.alloc (.cells ((Try.zeroCells117.setIfInBounds 0 (.int .u64 T)).setIfInBounds 1 (.slice (some p) xs.length c)) 117)) w.heap.size T xs (List.replicate 65 0) := by
  have hh : ∀ C : Array Value, (w.alloc (.cells C 117)).heap[w.heap.size]? = some (.cells C 117) := fun C => by show (w.heap.push _)[w.heap.size]? = _; simp
  refine ⟨by simp, ?_, ⟨p, c, ?_, hp, h.below ((Below.refl _ _).alloc (Nat.le_refl _) _)⟩, fun i hi => ?_, fun i hi => ?_⟩
  · simp only [World.cell?, hh, zeros_eq]; simp
  · simp only [World.cell?, hh, zeros_eq]; simp
  · simp only [World.cell?, hh, zeros_eq]
    have e : ((#[.int .u64 0, .slice none 0 0] ++ Array.replicate 65 (.int .u8 0) : Array Value).setIfInBounds 0 (.int .u64 T)).setIfInBounds 1 (.slice (some p) xs.length c) = #[.int .u64 T, .slice (some p) xs.length c] ++ Array.replicate 65 (.int .u8 0) := by simp
    have e2 : (#[.int .u64 T, .slice (some p) xs.length c] ++ Array.replicate 65 (.int .u8 0) : Array Value)[2 + i]? = some (.int .u8 0) := by
      rw [Array.getElem?_append_right (by simp), Array.getElem?_replicate, if_pos (by simp; omega)]
    rw [e, zero_at]
    exact e2
  · simp only [World.frozen?, hh]; simp

set_option maxRecDepth 100000 in
set_option maxHeartbeats 1000000 in
theorem NewTally_calls (T : Int) (v : Value) (xs : List Int) (w : World) (h : Nums .i64 w v xs) (hT : 1 ≤ T ∧ T ≤ 281474976710656) (hm : may xs = true) :
    Calls Try.prog 32 #[.int .u64 T, v] w fun e w' => ∃ b, e = .returned (.tuple #[.pointer (some ⟨b, 0, none⟩), .int .i64 0]) ∧ w.heap.size ≤ b ∧ Tal w' b T xs (List.replicate 65 0) ∧ Below w.heap.size w w' := by
  have C1 := Lib.hid (May_calls v xs w h)
  rw [hm] at C1
  have hl : 0 < xs.length ∧ xs.length ≤ 7 := by simp [may] at hm; omega
  have C2 := Lib.hid (fun W h => Clone_calls v xs W h hl.1 (by omega))
  have hg : (decide (T < 1) || decide (281474976710656 < T)) = false := by simp; omega
  have hT1 : decide (T < 1) = false := by simp; omega
  have hT2 : decide (281474976710656 < T) = false := by simp; omega
  clear hm hT
  go_enter Try.func32, Try.ntmps32
  go_wp2_with fail
  refine C1.out.mono ?_
  rintro e w1 ⟨rfl, hb1⟩
  replace h := h.below hb1
  go_wp2_with fail
  refine (C2.out _ h).mono ?_
  rintro e w2 ⟨u, rfl, hown, hb2⟩
  have hN : Nums .i64 w2 u xs := ⟨Lst.own hown, h.2⟩
  obtain ⟨g, cap, rfl, hg1, hg2⟩ : ∃ g cap, u = .slice (some ⟨g, 0, none⟩) xs.length cap ∧ w1.heap.size ≤ g ∧ g < w2.heap.size := by
    rcases hown.2 with ⟨_, h0⟩ | ⟨g, cap, cur, h1, h2, h3, _⟩
    · omega
    · exact ⟨g, cap, h1, h2, (Array.getElem?_eq_some_iff.1 h3).1⟩
  have hT := Lib.hid (tal_made w2 T ⟨g, 0, none⟩ cap xs hN hg2)
  clear hown hN
  go_wp2_with fail
  go_ret2
  exact ⟨w2.heap.size, rfl, Nat.le_trans hb1.size hb2.size, hT.out, (Lx.bstep hb1 (Nat.le_refl _) hb2).alloc (Nat.le_trans hb1.size hb2.size) _⟩

theorem frozen_below {w w' : World} {a : Addr} (hb : Below w.heap.size w w') (h : (w.cell? a).isSome = true) : w'.frozen? a = w.frozen? a := by
  refine World.frozen?_of_block (hb.block _ ?_)
  by_cases hl : a.block < w.heap.size
  · exact hl
  · simp [World.cell?, Array.getElem?_eq_none (Nat.le_of_not_lt hl)] at h
theorem Tal.lt {w : World} {b : Nat} {T : Int} {conf : List Int} {said : List Nat} (h : Tal w b T conf said) : b < w.heap.size := by
  have := h.c0
  by_cases hl : b < w.heap.size
  · exact hl
  · simp [World.cell?, Array.getElem?_eq_none (Nat.le_of_not_lt hl)] at this
theorem Tal.below {w w' : World} {b : Nat} {T : Int} {conf : List Int} {said : List Nat} (h : Tal w b T conf said) (hb : Below w.heap.size w w') : Tal w' b T conf said := by
  obtain ⟨p, c, h1, h2, h3⟩ := h.c1
  have hbl := hb.block b h.lt
  refine ⟨h.few, (World.cell?_of_block hbl).trans h.c0, ⟨p, c, (World.cell?_of_block hbl).trans h1, h2, h3.below hb⟩, fun i hi => (World.cell?_of_block hbl).trans (h.c2 i hi), fun i hi => (World.frozen?_of_block hbl).trans (h.fr i hi)⟩
theorem nums_put {w w' : World} {p : Addr} {b : Nat} {k : IntKind} {n c : Nat} {xs : List Int} (h : Nums k w (.slice (some p) n c) xs) (hb : w.grownBy w' (some b)) (hp : p.block < b) (hlt : b < w.heap.size) : Nums k w' (.slice (some p) n c) xs := by
  refine ⟨?_, h.2⟩
  obtain ⟨q, d, e, h1, h2, h3⟩ := h.1
  injection e with e1 e2 e3
  subst e1
  refine ⟨some p, d, by rw [e2, e3], h1, h2, fun i hi => ?_⟩
  obtain ⟨a, ha, hc⟩ := h3 i hi
  cases ha
  refine ⟨p, rfl, ?_⟩
  have hbk : (p.add i).block = p.block := by unfold Addr.add; split <;> rfl
  rw [World.cell?_of_block (hb.block _ (by rw [hbk]; omega) (by rw [hbk]; intro e; cases e; omega)), hc]
theorem Tal.put {w : World} {b : Nat} {T : Int} {conf : List Int} {said : List Nat} (h : Tal w b T conf said) (i x : Nat) (hi : i < 65) : Tal (w.setCell ⟨b, 2 + i, none⟩ (.int .u8 (x : Int))) b T conf (said.set i x) := by
  obtain ⟨p, c, h1, h2, h3⟩ := h.c1
  have hlt := h.lt
  have hg : w.grownBy (w.setCell ⟨b, 2 + i, none⟩ (.int .u8 (x : Int))) (some b) := ⟨rfl, rfl, rfl, by simp, fun k _ hk => heap_setCell_other _ _ _ _ (fun e => hk (by rw [e]))⟩
  refine ⟨by rw [List.length_set]; exact h.few, ?_, ⟨p, c, ?_, h2, nums_put h3 hg h2 hlt⟩, fun j hj => ?_, fun j hj => ?_⟩
  · rw [World.cell?_setCell_other _ _ _ _ (by intro e; injection e with _ e _; omega)]; exact h.c0
  · rw [World.cell?_setCell_other _ _ _ _ (by intro e; injection e with _ e _; omega)]; exact h1
  · by_cases e : j = i
    · subst e
      rw [World.cell?_setCell_same' _ _ _ (by rw [h.c2 j hj]; rfl)]
      simp [List.getD, h.few, hj]
    · rw [World.cell?_setCell_other _ _ _ _ (by intro e'; injection e' with _ e' _; omega), h.c2 j hj]
      simp [List.getD, List.getElem?_set, Ne.symm e]
  · rw [World.frozen?_setCell]; exact h.fr j hj

/-- What a told vote does. -/
def vote (T : Int) (conf : List Int) (said : List Nat) (who term : Int) (is : Bool) : Nat × List Nat :=
  if who < 1 ∨ 64 < who then (2, said)
  else if term ≠ T ∨ who ∉ conf ∨ said.getD who.toNat 0 ≠ 0 then (0, said)
  else (0, said.set who.toNat (if is then 1 else 2))
def Voting (w : World) (b : Nat) (T : Int) (conf : List Int) (r : Nat × List Nat) (e : Ending) (w' : World) : Prop :=
  e = .returned (.int .i64 (r.1 : Int)) ∧ Tal w' b T conf r.2 ∧ w.grownBy w' (some b)
theorem grown_put (w : World) (b o : Nat) (v : Value) : w.grownBy (w.setCell ⟨b, o, none⟩ v) (some b) := ⟨rfl, rfl, rfl, by simp, fun k _ hk => heap_setCell_other _ _ _ _ (fun e => hk (by rw [e]))⟩
theorem grown_below {w w' : World} {b : Nat} (h : Below w.heap.size w w') : w.grownBy w' (some b) := ⟨h.os, h.tape, h.output, h.size, fun k hk _ => h.block k hk⟩

set_option maxRecDepth 100000 in
set_option maxHeartbeats 2000000 in
theorem Vote_calls (b : Nat) (T : Int) (conf : List Int) (said : List Nat) (who term : Int) (is : Bool) (w : World) (h : Tal w b T conf said) :
    Calls Try.prog 34 #[.pointer (some ⟨b, 0, none⟩), .int .i64 who, .int .u64 term, .bool is] w (Voting w b T conf (vote T conf said who term is)) := by
  obtain ⟨p, c, h1, h2, h3⟩ := h.c1
  have h0 := h.c0
  have hh := Lib.hid h
  by_cases hw : who < 1 ∨ 64 < who
  · have hv : vote T conf said who term is = (2, said) := by unfold vote; rw [if_pos hw]
    rw [hv]
    by_cases hx : who < 1
    · clear h hw hv
      go_enter Try.func34, Try.ntmps34
      go_wp2_with fail
      go_ret
      exact ⟨rfl, hh.out, grown_below (Below.refl _ _)⟩
    · have hx2 : 64 < who := by omega
      clear h hw hv
      go_enter Try.func34, Try.ntmps34
      go_wp2_with fail
      go_ret
      exact ⟨rfl, hh.out, grown_below (Below.refl _ _)⟩
  · have hx1 : decide (who < 1) = false := by simp; omega
    have hx2 : decide (64 < who) = false := by simp; omega
    obtain ⟨m, rfl⟩ : ∃ m : Nat, who = (m : Int) := ⟨who.toNat, by omega⟩
    have hm : m < 65 := by omega
    have hmi : (m : Int) < 65 := by omega
    have hm0 : (0 : Int) ≤ (m : Int) := by omega
    by_cases ht : term = T
    · have hte : (term != T) = false := by simp [ht]
      have hH := Lib.hid (fun W h => Has_calls (.slice (some p) conf.length c) conf (m : Int) W h)
      by_cases hin : (m : Int) ∈ conf
      · rw [decide_eq_true hin] at hH
        have hc2 := h.c2 m hm
        have hfr := h.fr (2 + m) (by omega)
        by_cases hs : said.getD m 0 = 0
        · have hv : vote T conf said (m : Int) term is = (0, said.set m (if is then 1 else 2)) := by
            unfold vote; rw [if_neg hw, if_neg (by simp [ht, hin]; simpa using hs)]; simp
          rw [hv]
          have hsb : (((said.getD m 0 : Nat) : Int) != 0) = false := by rw [hs]; rfl
          generalize said.getD m 0 = S at *
          clear h hw hv hs
          cases is
          all_goals
            go_enter Try.func34, Try.ntmps34
            go_wp2_with fail
            refine (hH.out _ h3).mono ?_
            rintro e w1 ⟨rfl, hb1⟩
            replace hfr := (frozen_below hb1 (by rw [hc2]; rfl)).trans hfr
            replace hc2 := (cell_below hb1 hc2).trans hc2
            have hh1 := Lib.hid (hh.out.below hb1)
            clear h0 h1 h3
            have h0 := hh1.out.c0
            go_wp2_with fail
            go_ret
          · exact ⟨rfl, hh1.out.put m 2 hm, (grown_below hb1).trans (grown_put _ _ _ _)⟩
          · have hp := (hh1.out.put m 2 hm).put m 1 hm
            rw [List.set_set] at hp
            exact ⟨rfl, hp, ((grown_below hb1).trans (grown_put _ _ _ _)).trans (grown_put _ _ _ _)⟩
        · have hv : vote T conf said (m : Int) term is = (0, said) := by
            unfold vote; rw [if_neg hw, if_pos (by right; right; simpa using hs)]
          rw [hv]
          have hsb : (((said.getD m 0 : Nat) : Int) != 0) = true := by rw [bne_iff_ne]; omega
          generalize said.getD m 0 = S at *
          clear h hw hv hs
          go_enter Try.func34, Try.ntmps34
          go_wp2_with fail
          refine (hH.out _ h3).mono ?_
          rintro e w1 ⟨rfl, hb1⟩
          replace hc2 := (cell_below hb1 hc2).trans hc2
          have hh1 := Lib.hid (hh.out.below hb1)
          go_wp2_with fail
          go_ret
          exact ⟨rfl, hh1.out, grown_below hb1⟩
      · rw [decide_eq_false hin] at hH
        have hv : vote T conf said (m : Int) term is = (0, said) := by
          unfold vote; rw [if_neg hw, if_pos (by right; left; exact hin)]
        rw [hv]
        clear h hw hv
        go_enter Try.func34, Try.ntmps34
        go_wp2_with fail
        refine (hH.out _ h3).mono ?_
        rintro e w1 ⟨rfl, hb1⟩
        have hh1 := Lib.hid (hh.out.below hb1)
        go_wp2_with fail
        go_ret
        exact ⟨rfl, hh1.out, grown_below hb1⟩
    · have hte : (term != T) = true := by simp [ht]
      have hv : vote T conf said (m : Int) term is = (0, said) := by
        unfold vote; rw [if_neg hw, if_pos (by left; exact ht)]
      rw [hv]
      clear h hw hv
      go_enter Try.func34, Try.ntmps34
      go_wp2_with fail
      go_ret
      exact ⟨rfl, hh.out, grown_below (Below.refl _ _)⟩
end Go.Proofs.Ytjjdfhokmiaekaa
