/-
  The contracts of the reference's tally.
-/
import Derived.Test.YtjjdfhokmiaekaaElect3
import Derived.Test.YtjjdfhokmiaekaaMayConf
import Derived.Test.YtjjdfhokmiaekaaOwn
import Derived.Test.YtjjdfhokmiaekaaChain
namespace Go.Proofs.Ytjjdfhokmiaekaa
open Go.RowKit Go.Lst Go.Lx

/-- Block b is a tally of the reference. Its conf lies below C0, its own rows from B0 on. -/
structure RTal (w : World) (C0 B0 b : Nat) (T : Int) (conf ys ns : List Int) (yv nv : Value) : Prop where
  blk : ∃ a c, Blk w b [.int .u64 T, .slice (some a) conf.length c, yv, nv] ∧ Nums .i64 w (.slice (some a) conf.length c) conf ∧ a.block < C0
  hc : C0 ≤ B0
  hb : B0 ≤ b
  y : w.ownsRow B0 3 1 yv ys.length (ys.map fun x => .int .i64 x)
  n : w.ownsRow B0 3 1 nv ns.length (ns.map fun x => .int .i64 x)
  yb : yv.ownBlock ≠ some b
  nb : nv.ownBlock ≠ some b
  yn : ∀ k, yv.ownBlock = some k → nv.ownBlock ≠ some k
  wy : ∀ x ∈ ys, (Lit.int .i64 x).wf = true
  wn : ∀ x ∈ ns, (Lit.int .i64 x).wf = true
theorem RTal.lt {w : World} {C0 B0 b : Nat} {T : Int} {conf ys ns : List Int} {yv nv : Value} (h : RTal w C0 B0 b T conf ys ns yv nv) : b < w.heap.size := by
  obtain ⟨a, c, h1, _⟩ := h.blk
  exact h1.lt
/-- It is kept where its blocks are. -/
theorem RTal.keep {w w' : World} {C0 B0 b : Nat} {T : Int} {conf ys ns : List Int} {yv nv : Value} (h : RTal w C0 B0 b T conf ys ns yv nv) (hk : ∀ k, k < w.heap.size → (k < C0 ∨ B0 ≤ k) → w'.heap[k]? = w.heap[k]?) : RTal w' C0 B0 b T conf ys ns yv nv := by
  obtain ⟨a, c, h1, h2, h3⟩ := h.blk
  have hcl : C0 ≤ w.heap.size := by have := h.lt; have := h.hc; have := h.hb; omega
  refine ⟨⟨a, c, h1.same (hk b h.lt (.inr h.hb)), h2.keep (fun k e => by cases e; exact hk _ (by omega) (.inl h3)), h3⟩, h.hc, h.hb, own_keep h.y (fun k e => hk k (own_block h.y e).2 (.inr (own_block h.y e).1)), own_keep h.n (fun k e => hk k (own_block h.n e).2 (.inr (own_block h.n e).1)), h.yb, h.nb, h.yn, h.wy, h.wn⟩
theorem RTal.below {w w' : World} {C0 B0 b : Nat} {T : Int} {conf ys ns : List Int} {yv nv : Value} (h : RTal w C0 B0 b T conf ys ns yv nv) (hb : Below w.heap.size w w') : RTal w' C0 B0 b T conf ys ns yv nv :=
  h.keep fun k hk _ => hb.block k hk
theorem RTal.grown {w w' : World} {C0 B0 b g : Nat} {T : Int} {conf ys ns : List Int} {yv nv : Value} (h : RTal w C0 B0 b T conf ys ns yv nv) (hg : w.grownBy w' (some g)) (h1 : C0 ≤ g) (h2 : g < B0) : RTal w' C0 B0 b T conf ys ns yv nv :=
  h.keep fun k hk hc => hg.block k hk (fun e => by cases e; omega)

set_option maxRecDepth 100000 in
theorem rNewTally_calls (C0 : Nat) (T : Int) (v : Value) (xs : List Int) (w : World) (h : Nums .i64 w v xs) (hC : C0 ≤ w.heap.size) (hv : 0 < xs.length → ∀ k, v.ownBlock = some k → k < C0) :
    Calls Try.prog 33 #[.int .u64 T, v] w fun e w' => (∃ u, e = .returned u ∧ ((1 ≤ T ∧ T ≤ 281474976710656) ∧ may xs = true → ∃ b, u = .pointer (some ⟨b, 0, none⟩) ∧ RTal w' C0 w.heap.size b T xs [] [] (.slice none 0 0) (.slice none 0 0)) ∧ (¬((1 ≤ T ∧ T ≤ 281474976710656) ∧ may xs = true) → u = .pointer none)) ∧ Below w.heap.size w w' := by
  have C1 := Lib.hid (fun W h => rMayConf_calls v xs W h)
  replace hv := Lib.hid hv
  by_cases h1 : T < 1
  · have h1' := Lib.hid h1
    clear h
    go_enter Try.func33, Try.ntmps33
    go_wp2_with fail
    go_ret
    exact ⟨⟨_, rfl, fun h => by have := h1'.out; omega, fun _ => rfl⟩, Below.refl _ _⟩
  · by_cases h2 : 281474976710656 < T
    · have h2' := Lib.hid h2
      clear h
      go_enter Try.func33, Try.ntmps33
      go_wp2_with fail
      go_ret
      exact ⟨⟨_, rfl, fun h => by have := h2'.out; omega, fun _ => rfl⟩, Below.refl _ _⟩
    · cases hm : may xs with
      | false =>
        rw [hm] at C1
        have h' := Lib.hid h
        clear h hm
        go_enter Try.func33, Try.ntmps33
        go_wp2_with fail
        refine (C1.out _ h'.out).mono ?_
        rintro e w1 ⟨rfl, hb1⟩
        go_wp2_with fail
        go_ret
        exact ⟨⟨_, rfl, fun h => (by cases h.2), fun _ => rfl⟩, hb1⟩
      | true =>
        rw [hm] at C1
        have hl : 0 < xs.length ∧ xs.length ≤ 7 := by simp [may] at hm; omega
        obtain ⟨a, c, rfl, hlt⟩ := h.block_lt hl.1
        have h' := Lib.hid h
        have hlt' := Lib.hid (hv.out hl.1 a.block rfl)
        have hC' := Lib.hid hC
        clear h hm hl hlt hv hC
        go_enter Try.func33, Try.ntmps33
        go_wp2_with fail
        refine (C1.out _ h'.out).mono ?_
        rintro e w1 ⟨rfl, hb1⟩
        replace h' := Lib.hid (h'.out.below hb1)
        replace hb1 := Lib.hid hb1
        go_wp2_with fail
        go_ret
        have hR : RTal (w1.alloc (.cells #[.int .u64 T, .slice (some a) xs.length c, .slice none 0 0, .slice none 0 0] 119)) C0 w.heap.size w1.heap.size T xs [] [] (.slice none 0 0) (.slice none 0 0) :=
          ⟨⟨a, c, Blk.new _ _ _, h'.out.below ((Below.refl _ _).alloc (Nat.le_refl _) _), hlt'.out⟩, hC'.out, hb1.out.size, own_nil _ _ _, own_nil _ _ _, by simp [Value.ownBlock], by simp [Value.ownBlock], fun k e => (by cases e), fun x hx => (by cases hx), fun x hx => (by cases hx)⟩
        refine ⟨⟨_, rfl, fun _ => ⟨_, rfl, hR⟩, fun h => absurd ⟨by omega, by first | rfl | trivial⟩ h⟩, hb1.out.alloc hb1.out.size _⟩
/-- The blocks of a tally of the reference that a vote may turn. -/
def Turns (b : Nat) (yv nv : Value) (k : Nat) : Prop := k = b ∨ yv.ownBlock = some k ∨ nv.ownBlock = some k
theorem RTal.turns {w : World} {C0 B0 b : Nat} {T : Int} {conf ys ns : List Int} {yv nv : Value} (h : RTal w C0 B0 b T conf ys ns yv nv) {k : Nat} (hk : Turns b yv nv k) : B0 ≤ k ∧ k < w.heap.size := by
  rcases hk with rfl | hk | hk
  · exact ⟨h.hb, h.lt⟩
  · exact own_block h.y hk
  · exact own_block h.n hk
theorem RTal.add_y {w w4 : World} {C0 B0 b : Nat} {T : Int} {conf ys ns : List Int} {yv nv v' : Value} {who : Int} {X : Obj} (h : RTal w C0 B0 b T conf ys ns yv nv) (hw : (Lit.int .i64 who).wf = true)
    (hown : w4.ownsRow B0 3 1 v' (ys.length + 1) (ys.map (fun x => .int .i64 x) ++ [.int .i64 who])) (hg : (w.alloc X).grownBy w4 yv.ownBlock) (hf : v'.ownBlock = yv.ownBlock ∨ v'.ownBlock = some (w.alloc X).heap.size) :
    RTal (w4.setCell ⟨b, 2, none⟩ v') C0 B0 b T conf (ys ++ [who]) ns v' nv ∧ Stays (Turns b yv nv) w (w4.setCell ⟨b, 2, none⟩ v') := by
  obtain ⟨a, c, h1, h2, h3⟩ := h.blk
  have hlt := h.lt
  have hC : C0 ≤ b := Nat.le_trans h.hc h.hb
  have hz : (w.alloc X).heap.size = w.heap.size + 1 := by simp
  have hcl : C0 ≤ w.heap.size := by omega
  have hfr : ∀ k, v'.ownBlock = some k → yv.ownBlock = some k ∨ k = w.heap.size + 1 := fun k e => by
    rcases hf with hf | hf
    · exact .inl (hf ▸ e)
    · rw [hf, hz] at e; cases e; exact .inr rfl
  have hold : ∀ k, k < w.heap.size → k ≠ b → yv.ownBlock ≠ some k → (w4.setCell ⟨b, 2, none⟩ v').heap[k]? = w.heap[k]? := fun k hk hne hy =>
    (Below.heap_setCell _ _ _ _ hne).trans ((hg.block k (by omega) (fun e => hy e.symm)).trans (Below.heap_alloc _ _ _ hk))
  have hblk : Blk w4 b [.int .u64 T, .slice (some a) conf.length c, yv, nv] := h1.same ((hg.block b (by omega) (fun e => h.yb e.symm)).trans (Below.heap_alloc _ _ _ hlt))
  have hput := hblk.put 2 v'
  simp only [List.set_cons_succ, List.set_cons_zero] at hput
  refine ⟨⟨⟨a, c, hput, h2.keep (fun k e => ?_), h3⟩, h.hc, h.hb, ?_, own_keep h.n (fun k e => ?_), ?_, h.nb, fun k e e2 => ?_, ?_, h.wn⟩, ?_⟩
  · cases e
    refine hold _ (by omega) (by omega) (fun e => ?_)
    have := (own_block h.y e).1
    have := h.hc
    omega
  · have e1 : (ys ++ [who]).map (fun x => Value.int .i64 x) = ys.map (fun x => .int .i64 x) ++ [.int .i64 who] := by simp
    rw [e1, List.length_append]
    refine own_keep hown (fun k e => Below.heap_setCell _ _ _ _ (fun e2 => ?_))
    rcases hfr k e with e3 | e3
    · have e4 : k = b := e2; exact h.yb (e4 ▸ e3)
    · simp at e2; omega
  · exact hold k (own_block h.n e).2 (fun e2 => h.nb (e2 ▸ e)) (fun e2 => h.yn k e2 e)
  · intro e
    rcases hfr b e with e3 | e3
    · exact h.yb e3
    · omega
  · rcases hfr k e with e3 | e3
    · exact h.yn k e3 e2
    · have := (own_block h.n e2).2; omega
  · intro x hx
    rcases List.mem_append.1 hx with h4 | h4
    · exact h.wy x h4
    · simp at h4; rw [h4]; exact hw
  · exact ⟨hg.os, hg.tape, hg.output, by have := hg.size; simp at this ⊢; omega, fun k hk hn => hold k hk (fun e => hn (.inl e)) (fun e => hn (.inr (.inl e)))⟩
theorem RTal.add_n {w w4 : World} {C0 B0 b : Nat} {T : Int} {conf ys ns : List Int} {yv nv v' : Value} {who : Int} {X : Obj} (h : RTal w C0 B0 b T conf ys ns yv nv) (hw : (Lit.int .i64 who).wf = true)
    (hown : w4.ownsRow B0 3 1 v' (ns.length + 1) (ns.map (fun x => .int .i64 x) ++ [.int .i64 who])) (hg : (w.alloc X).grownBy w4 nv.ownBlock) (hf : v'.ownBlock = nv.ownBlock ∨ v'.ownBlock = some (w.alloc X).heap.size) :
    RTal (w4.setCell ⟨b, 3, none⟩ v') C0 B0 b T conf ys (ns ++ [who]) yv v' ∧ Stays (Turns b yv nv) w (w4.setCell ⟨b, 3, none⟩ v') := by
  obtain ⟨a, c, h1, h2, h3⟩ := h.blk
  have hlt := h.lt
  have hC : C0 ≤ b := Nat.le_trans h.hc h.hb
  have hz : (w.alloc X).heap.size = w.heap.size + 1 := by simp
  have hcl : C0 ≤ w.heap.size := by omega
  have hfr : ∀ k, v'.ownBlock = some k → nv.ownBlock = some k ∨ k = w.heap.size + 1 := fun k e => by
    rcases hf with hf | hf
    · exact .inl (hf ▸ e)
    · rw [hf, hz] at e; cases e; exact .inr rfl
  have hold : ∀ k, k < w.heap.size → k ≠ b → nv.ownBlock ≠ some k → (w4.setCell ⟨b, 3, none⟩ v').heap[k]? = w.heap[k]? := fun k hk hne hy =>
    (Below.heap_setCell _ _ _ _ hne).trans ((hg.block k (by omega) (fun e => hy e.symm)).trans (Below.heap_alloc _ _ _ hk))
  have hblk : Blk w4 b [.int .u64 T, .slice (some a) conf.length c, yv, nv] := h1.same ((hg.block b (by omega) (fun e => h.nb e.symm)).trans (Below.heap_alloc _ _ _ hlt))
  have hput := hblk.put 3 v'
  simp only [List.set_cons_succ, List.set_cons_zero] at hput
  refine ⟨⟨⟨a, c, hput, h2.keep (fun k e => ?_), h3⟩, h.hc, h.hb, own_keep h.y (fun k e => ?_), ?_, h.yb, ?_, fun k e e2 => ?_, h.wy, ?_⟩, ?_⟩
  · cases e
    refine hold _ (by omega) (by omega) (fun e => ?_)
    have := (own_block h.n e).1
    have := h.hc
    omega
  · exact hold k (own_block h.y e).2 (fun e2 => h.yb (e2 ▸ e)) (fun e2 => h.yn k e e2)
  · have e1 : (ns ++ [who]).map (fun x => Value.int .i64 x) = ns.map (fun x => .int .i64 x) ++ [.int .i64 who] := by simp
    rw [e1, List.length_append]
    refine own_keep hown (fun k e => Below.heap_setCell _ _ _ _ (fun e2 => ?_))
    rcases hfr k e with e3 | e3
    · have e4 : k = b := e2; exact h.nb (e4 ▸ e3)
    · simp at e2; omega
  · intro e
    rcases hfr b e with e3 | e3
    · exact h.nb e3
    · omega
  · rcases hfr k e2 with e3 | e3
    · exact h.yn k e e3
    · have := (own_block h.y e).2; omega
  · intro x hx
    rcases List.mem_append.1 hx with h4 | h4
    · exact h.wn x h4
    · simp at h4; rw [h4]; exact hw
  · exact ⟨hg.os, hg.tape, hg.output, by have := hg.size; simp at this ⊢; omega, fun k hk hn => hold k hk (fun e => hn (.inl e)) (fun e => hn (.inr (.inr e)))⟩

def rvote (T : Int) (conf ys ns : List Int) (who term : Int) (is : Bool) : Nat × List Int × List Int :=
  if who < 1 ∨ 64 < who then (2, ys, ns)
  else if term ≠ T ∨ who ∉ conf ∨ who ∈ ys ∨ who ∈ ns then (0, ys, ns)
  else if is = true then (0, ys ++ [who], ns) else (0, ys, ns ++ [who])
def RVoted (w : World) (C0 B0 b : Nat) (T : Int) (conf : List Int) (yv nv : Value) (r : Nat × List Int × List Int) (e : Ending) (w' : World) : Prop :=
  e = .returned (.int .i64 (r.1 : Int)) ∧ (∃ yv' nv', RTal w' C0 B0 b T conf r.2.1 r.2.2 yv' nv') ∧ Stays (Turns b yv nv) w w'
set_option maxRecDepth 100000 in
set_option maxHeartbeats 4000000 in
theorem rVote_calls (C0 B0 b : Nat) (T : Int) (conf ys ns : List Int) (yv nv : Value) (who term : Int) (is : Bool) (w : World) (h : RTal w C0 B0 b T conf ys ns yv nv) (hw : (Lit.int .i64 who).wf = true) (hyl : ys.length ≤ 1000) (hnl : ns.length ≤ 1000) :
    Calls Try.prog 35 #[.pointer (some ⟨b, 0, none⟩), .int .i64 who, .int .u64 term, .bool is] w (RVoted w C0 B0 b T conf yv nv (rvote T conf ys ns who term is)) := by
  obtain ⟨i0, hi, hz0, hz1, hz2⟩ := info_parts infoInt
  obtain ⟨a, c, h1, h2, h3⟩ := h.blk
  obtain ⟨q0, q1, q2, q3, -⟩ := h1.c4
  have hh := Lib.hid h
  have hN := Lib.hid h2
  clear h1 h2 h3
  have same : ∀ {w' : World} {r : Nat}, Below w.heap.size w w' → rvote T conf ys ns who term is = (r, ys, ns) → ∀ {e : Ending}, e = .returned (.int .i64 (r : Int)) → RVoted w C0 B0 b T conf yv nv (rvote T conf ys ns who term is) e w' := fun {_} {_} hb hr {_} he => by
    rw [hr]; exact ⟨he, ⟨yv, nv, hh.out.below hb⟩, Stays.of_below hb⟩
  replace same := @Lib.hid _ @same
  obtain ⟨R, hR⟩ : ∃ R, rvote T conf ys ns who term is = R := ⟨_, rfl⟩
  have hR' := Lib.hid hR
  clear h hR
  by_cases c1 : who < 1
  · have hr : R = (2, ys, ns) := by rw [← hR'.out]; unfold rvote; rw [if_pos (.inl c1)]
    replace hr := Lib.hid hr
    go_enter Try.func35, Try.ntmps35
    go_wp2_with fail
    go_ret
    exact same.out (Below.refl _ _) (hR'.out.trans hr.out) rfl
  by_cases c2 : 64 < who
  · have hr : R = (2, ys, ns) := by rw [← hR'.out]; unfold rvote; rw [if_pos (.inr c2)]
    replace hr := Lib.hid hr
    go_enter Try.func35, Try.ntmps35
    go_wp2_with fail
    go_ret
    exact same.out (Below.refl _ _) (hR'.out.trans hr.out) rfl
  have c12 : ¬(who < 1 ∨ 64 < who) := by omega
  by_cases c3 : term = T
  case neg =>
    have hr : R = (0, ys, ns) := by rw [← hR'.out]; unfold rvote; rw [if_neg c12, if_pos (.inl c3)]
    replace hr := Lib.hid hr
    have c3b : (term != T) = true := by simpa using c3
    clear c12 c3
    go_enter Try.func35, Try.ntmps35
    go_wp2_with fail
    go_ret
    exact same.out (Below.refl _ _) (hR'.out.trans hr.out) rfl
  have c3b : (term != T) = false := by simp [c3]
  replace c3 := Lib.hid c3
  have H1 := Lib.hid (fun W h => rHas_calls (.slice (some a) conf.length c) conf who W h)
  by_cases c4 : who ∈ conf
  case neg =>
    have hr : R = (0, ys, ns) := by rw [← hR'.out]; unfold rvote; rw [if_neg c12, if_pos (.inr (.inl c4))]
    replace hr := Lib.hid hr
    rw [decide_eq_false c4] at H1
    clear c12 c4
    go_enter Try.func35, Try.ntmps35
    go_wp2_with fail
    refine (H1.out _ hN.out).mono ?_
    rintro e w1 ⟨rfl, hb1⟩
    go_wp2_with fail
    go_ret
    exact same.out hb1 (hR'.out.trans hr.out) rfl
  rw [decide_eq_true c4] at H1
  have H2 := Lib.hid (fun W h => rHas_calls yv ys who W h)
  have N2 := Lib.hid (Nums.own hh.out.y hh.out.wy)
  have hB1 := Lib.hid (Below.refl w.heap.size w)
  have hE := Lib.hid hh.out
  by_cases c5 : who ∈ ys
  case pos =>
    have hr : R = (0, ys, ns) := by rw [← hR'.out]; unfold rvote; rw [if_neg c12, if_pos (.inr (.inr (.inl c5)))]
    replace hr := Lib.hid hr
    rw [decide_eq_true c5] at H2
    clear c12 c4 c5
    go_enter Try.func35, Try.ntmps35
    go_wp2_with fail
    refine (H1.out _ hN.out).mono ?_
    rintro e w1 ⟨rfl, hb1⟩
    replace hb1 : Below w.heap.size w w1 := Lx.bstep (by repeat (first | exact Below.refl _ _ | exact Lx.Ext.below _ | refine Below.drew ?_ | refine below_drewN ?_ _ | (refine Below.alloc ?_ (by first | exact Nat.le_refl _ | (simp; done) | (simp; omega)) _) | (refine Below.setCell ?_ (by first | exact Nat.le_refl _ | (simp; done) | (simp; omega)) _))) (Nat.le_refl _) hb1
    replace hE := Lib.hid (hE.out.below hb1)
    replace N2 := Lib.hid (N2.out.below hb1)
    replace hB1 := Lib.hid (Lx.bstep hB1.out (Nat.le_refl _) hb1)
    clear hb1
    clear q0 q1 q2 q3
    obtain ⟨a', c', q, -, -⟩ := hE.out.blk
    obtain ⟨q0, q1, q2, q3, -⟩ := q.c4
    clear q
    go_wp2_with fail
    refine (H2.out _ N2.out).mono ?_
    rintro e w2 ⟨rfl, hb2⟩
    replace hb2 : Below w1.heap.size w1 w2 := Lx.bstep (by repeat (first | exact Below.refl _ _ | exact Lx.Ext.below _ | refine Below.drew ?_ | refine below_drewN ?_ _ | (refine Below.alloc ?_ (by first | exact Nat.le_refl _ | (simp; done) | (simp; omega)) _) | (refine Below.setCell ?_ (by first | exact Nat.le_refl _ | (simp; done) | (simp; omega)) _))) (Nat.le_refl _) hb2
    replace hE := Lib.hid (hE.out.below hb2)
    replace hB1 := Lib.hid (Lx.bstep hB1.out (Nat.le_refl _) hb2)
    clear hb2
    go_wp2_with fail
    go_ret
    exact same.out hB1.out (hR'.out.trans hr.out) rfl
  rw [decide_eq_false c5] at H2
  have H3 := Lib.hid (fun W h => rHas_calls nv ns who W h)
  have N3 := Lib.hid (Nums.own hh.out.n hh.out.wn)
  by_cases c6 : who ∈ ns
  case pos =>
    have hr : R = (0, ys, ns) := by rw [← hR'.out]; unfold rvote; rw [if_neg c12, if_pos (.inr (.inr (.inr c6)))]
    replace hr := Lib.hid hr
    rw [decide_eq_true c6] at H3
    clear c12 c4 c5 c6
    go_enter Try.func35, Try.ntmps35
    go_wp2_with fail
    refine (H1.out _ hN.out).mono ?_
    rintro e w1 ⟨rfl, hb1⟩
    replace hb1 : Below w.heap.size w w1 := Lx.bstep (by repeat (first | exact Below.refl _ _ | exact Lx.Ext.below _ | refine Below.drew ?_ | refine below_drewN ?_ _ | (refine Below.alloc ?_ (by first | exact Nat.le_refl _ | (simp; done) | (simp; omega)) _) | (refine Below.setCell ?_ (by first | exact Nat.le_refl _ | (simp; done) | (simp; omega)) _))) (Nat.le_refl _) hb1
    replace hE := Lib.hid (hE.out.below hb1)
    replace N2 := Lib.hid (N2.out.below hb1)
    replace N3 := Lib.hid (N3.out.below hb1)
    replace hB1 := Lib.hid (Lx.bstep hB1.out (Nat.le_refl _) hb1)
    clear hb1
    clear q0 q1 q2 q3
    obtain ⟨a', c', q, -, -⟩ := hE.out.blk
    obtain ⟨q0, q1, q2, q3, -⟩ := q.c4
    clear q
    go_wp2_with fail
    refine (H2.out _ N2.out).mono ?_
    rintro e w2 ⟨rfl, hb2⟩
    replace hb2 : Below w1.heap.size w1 w2 := Lx.bstep (by repeat (first | exact Below.refl _ _ | exact Lx.Ext.below _ | refine Below.drew ?_ | refine below_drewN ?_ _ | (refine Below.alloc ?_ (by first | exact Nat.le_refl _ | (simp; done) | (simp; omega)) _) | (refine Below.setCell ?_ (by first | exact Nat.le_refl _ | (simp; done) | (simp; omega)) _))) (Nat.le_refl _) hb2
    replace hE := Lib.hid (hE.out.below hb2)
    replace N3 := Lib.hid (N3.out.below hb2)
    replace hB1 := Lib.hid (Lx.bstep hB1.out (Nat.le_refl _) hb2)
    clear hb2
    clear q0 q1 q2 q3
    obtain ⟨a', c', q, -, -⟩ := hE.out.blk
    obtain ⟨q0, q1, q2, q3, -⟩ := q.c4
    clear q
    go_wp2_with fail
    refine (H3.out _ N3.out).mono ?_
    rintro e w3 ⟨rfl, hb3⟩
    replace hb3 : Below w2.heap.size w2 w3 := Lx.bstep (by repeat (first | exact Below.refl _ _ | exact Lx.Ext.below _ | refine Below.drew ?_ | refine below_drewN ?_ _ | (refine Below.alloc ?_ (by first | exact Nat.le_refl _ | (simp; done) | (simp; omega)) _) | (refine Below.setCell ?_ (by first | exact Nat.le_refl _ | (simp; done) | (simp; omega)) _))) (Nat.le_refl _) hb3
    replace hE := Lib.hid (hE.out.below hb3)
    replace hB1 := Lib.hid (Lx.bstep hB1.out (Nat.le_refl _) hb3)
    clear hb3
    go_wp2_with fail
    go_ret
    exact same.out hB1.out (hR'.out.trans hr.out) rfl
  rw [decide_eq_false c6] at H3
  have c7 : ¬(term ≠ T ∨ who ∉ conf ∨ who ∈ ys ∨ who ∈ ns) := by rintro (h | h | h | h); exact h c3.out; exact h c4; exact c5 h; exact c6 h
  cases is with
  | true =>
    have hr : R = (0, ys ++ [who], ns) := by rw [← hR'.out]; unfold rvote; rw [if_neg c12, if_neg c7, if_pos rfl]
    replace hr := Lib.hid hr
    clear c12 c4 c5 c6 c7
    go_enter Try.func35, Try.ntmps35
    go_wp2_with fail
    refine (H1.out _ hN.out).mono ?_
    rintro e w1 ⟨rfl, hb1⟩
    replace hb1 : Below w.heap.size w w1 := Lx.bstep (by repeat (first | exact Below.refl _ _ | exact Lx.Ext.below _ | refine Below.drew ?_ | refine below_drewN ?_ _ | (refine Below.alloc ?_ (by first | exact Nat.le_refl _ | (simp; done) | (simp; omega)) _) | (refine Below.setCell ?_ (by first | exact Nat.le_refl _ | (simp; done) | (simp; omega)) _))) (Nat.le_refl _) hb1
    replace hE := Lib.hid (hE.out.below hb1)
    replace N2 := Lib.hid (N2.out.below hb1)
    replace N3 := Lib.hid (N3.out.below hb1)
    replace hB1 := Lib.hid (Lx.bstep hB1.out (Nat.le_refl _) hb1)
    clear hb1
    clear q0 q1 q2 q3
    obtain ⟨a', c', q, -, -⟩ := hE.out.blk
    obtain ⟨q0, q1, q2, q3, -⟩ := q.c4
    clear q
    go_wp2_with fail
    refine (H2.out _ N2.out).mono ?_
    rintro e w2 ⟨rfl, hb2⟩
    replace hb2 : Below w1.heap.size w1 w2 := Lx.bstep (by repeat (first | exact Below.refl _ _ | exact Lx.Ext.below _ | refine Below.drew ?_ | refine below_drewN ?_ _ | (refine Below.alloc ?_ (by first | exact Nat.le_refl _ | (simp; done) | (simp; omega)) _) | (refine Below.setCell ?_ (by first | exact Nat.le_refl _ | (simp; done) | (simp; omega)) _))) (Nat.le_refl _) hb2
    replace hE := Lib.hid (hE.out.below hb2)
    replace N3 := Lib.hid (N3.out.below hb2)
    replace hB1 := Lib.hid (Lx.bstep hB1.out (Nat.le_refl _) hb2)
    clear hb2
    clear q0 q1 q2 q3
    obtain ⟨a', c', q, -, -⟩ := hE.out.blk
    obtain ⟨q0, q1, q2, q3, -⟩ := q.c4
    clear q
    go_wp2_with fail
    refine (H3.out _ N3.out).mono ?_
    rintro e w3 ⟨rfl, hb3⟩
    replace hb3 : Below w2.heap.size w2 w3 := Lx.bstep (by repeat (first | exact Below.refl _ _ | exact Lx.Ext.below _ | refine Below.drew ?_ | refine below_drewN ?_ _ | (refine Below.alloc ?_ (by first | exact Nat.le_refl _ | (simp; done) | (simp; omega)) _) | (refine Below.setCell ?_ (by first | exact Nat.le_refl _ | (simp; done) | (simp; omega)) _))) (Nat.le_refl _) hb3
    replace hE := Lib.hid (hE.out.below hb3)
    replace hB1 := Lib.hid (Lx.bstep hB1.out (Nat.le_refl _) hb3)
    clear hb3
    clear q0 q1 q2 q3
    obtain ⟨a', c', q, -, -⟩ := hE.out.blk
    obtain ⟨q0, q1, q2, q3, -⟩ := q.c4
    clear q
    have hbl := hE.out.lt
    have hown := own_below hE.out.y ((by repeat (first | exact Below.refl _ _ | exact Lx.Ext.below _ | refine Below.drew ?_ | refine below_drewN ?_ _ | (refine Below.alloc ?_ (by first | exact Nat.le_refl _ | (simp; done) | (simp; omega)) _) | (refine Below.setCell ?_ (by first | exact Nat.le_refl _ | (simp; done) | (simp; omega)) _))) : Below w3.heap.size w3 (w3.alloc (.cells #[.int .i64 who] 3)))
    have h63 : ys.length + 1 ≤ maxLen := by unfold maxLen; omega
    have h64 : (ys.length + 1) * 8 ≤ 140737488355328 := by omega
    have hbs : B0 ≤ (w3.alloc (.cells #[.int .i64 who] 3)).heap.size := by have := hE.out.lt; have := hE.out.hb; simp; omega
    replace h63 := Lib.hid h63
    replace h64 := Lib.hid h64
    replace hbs := Lib.hid hbs
    have hgo := Lib.hid (fun (w4 : World) (hg : (w3.alloc (.cells #[.int .i64 who] 3)).grownBy w4 yv.ownBlock) => (hE.out.blk.choose_spec.choose_spec.1.same ((hg.block b (by simp; omega) (fun e => hE.out.yb e.symm)).trans (Below.heap_alloc _ _ _ hbl)) : Blk w4 b _))
    go_wp2_with (at_builtin; refine wpList_append_own_at _ rfl (.tmp 51) (.tmp 53) 33 rfl B0 3 i0 (.int .i64 0) 1 8 Try.underlying33 hi hz0 hz1 hz2 rfl (by decide) yv ys.length (ys.map fun x => .int .i64 x) rfl hown ⟨w3.heap.size, 0, none⟩ 1 1 [.int .i64 who] rfl rfl (cell_one_new _ _ _) (by simp [Value.oneCell']) h63.out h64.out hbs.out ?_; intro v' w4 hown4 hg4 _ hf4; obtain ⟨pp, ll, cc, rfl⟩ := own_slice hown4; clear hown q0 q1 q2 q3; have q := hgo.out w4 hg4; obtain ⟨q0, q1, q2, q3, p0, p1, p2, p3⟩ := q.c4; clear q; replace hg4 := Lib.hid hg4; replace hown4 := Lib.hid hown4; replace hf4 := Lib.hid hf4)
    go_ret
    rw [hR'.out, hr.out]
    have := hE.out.add_y hw hown4.out hg4.out hf4.out
    exact ⟨rfl, ⟨_, _, this.1⟩, (Stays.of_below hB1.out).trans this.2 (fun _ _ h => h)⟩
  | false =>
    have hr : R = (0, ys, ns ++ [who]) := by rw [← hR'.out]; unfold rvote; rw [if_neg c12, if_neg c7, if_neg (by simp)]
    replace hr := Lib.hid hr
    clear c12 c4 c5 c6 c7
    go_enter Try.func35, Try.ntmps35
    go_wp2_with fail
    refine (H1.out _ hN.out).mono ?_
    rintro e w1 ⟨rfl, hb1⟩
    replace hb1 : Below w.heap.size w w1 := Lx.bstep (by repeat (first | exact Below.refl _ _ | exact Lx.Ext.below _ | refine Below.drew ?_ | refine below_drewN ?_ _ | (refine Below.alloc ?_ (by first | exact Nat.le_refl _ | (simp; done) | (simp; omega)) _) | (refine Below.setCell ?_ (by first | exact Nat.le_refl _ | (simp; done) | (simp; omega)) _))) (Nat.le_refl _) hb1
    replace hE := Lib.hid (hE.out.below hb1)
    replace N2 := Lib.hid (N2.out.below hb1)
    replace N3 := Lib.hid (N3.out.below hb1)
    replace hB1 := Lib.hid (Lx.bstep hB1.out (Nat.le_refl _) hb1)
    clear hb1
    clear q0 q1 q2 q3
    obtain ⟨a', c', q, -, -⟩ := hE.out.blk
    obtain ⟨q0, q1, q2, q3, -⟩ := q.c4
    clear q
    go_wp2_with fail
    refine (H2.out _ N2.out).mono ?_
    rintro e w2 ⟨rfl, hb2⟩
    replace hb2 : Below w1.heap.size w1 w2 := Lx.bstep (by repeat (first | exact Below.refl _ _ | exact Lx.Ext.below _ | refine Below.drew ?_ | refine below_drewN ?_ _ | (refine Below.alloc ?_ (by first | exact Nat.le_refl _ | (simp; done) | (simp; omega)) _) | (refine Below.setCell ?_ (by first | exact Nat.le_refl _ | (simp; done) | (simp; omega)) _))) (Nat.le_refl _) hb2
    replace hE := Lib.hid (hE.out.below hb2)
    replace N3 := Lib.hid (N3.out.below hb2)
    replace hB1 := Lib.hid (Lx.bstep hB1.out (Nat.le_refl _) hb2)
    clear hb2
    clear q0 q1 q2 q3
    obtain ⟨a', c', q, -, -⟩ := hE.out.blk
    obtain ⟨q0, q1, q2, q3, -⟩ := q.c4
    clear q
    go_wp2_with fail
    refine (H3.out _ N3.out).mono ?_
    rintro e w3 ⟨rfl, hb3⟩
    replace hb3 : Below w2.heap.size w2 w3 := Lx.bstep (by repeat (first | exact Below.refl _ _ | exact Lx.Ext.below _ | refine Below.drew ?_ | refine below_drewN ?_ _ | (refine Below.alloc ?_ (by first | exact Nat.le_refl _ | (simp; done) | (simp; omega)) _) | (refine Below.setCell ?_ (by first | exact Nat.le_refl _ | (simp; done) | (simp; omega)) _))) (Nat.le_refl _) hb3
    replace hE := Lib.hid (hE.out.below hb3)
    replace hB1 := Lib.hid (Lx.bstep hB1.out (Nat.le_refl _) hb3)
    clear hb3
    clear q0 q1 q2 q3
    obtain ⟨a', c', q, -, -⟩ := hE.out.blk
    obtain ⟨q0, q1, q2, q3, -⟩ := q.c4
    clear q
    have hbl := hE.out.lt
    have hown := own_below hE.out.n ((by repeat (first | exact Below.refl _ _ | exact Lx.Ext.below _ | refine Below.drew ?_ | refine below_drewN ?_ _ | (refine Below.alloc ?_ (by first | exact Nat.le_refl _ | (simp; done) | (simp; omega)) _) | (refine Below.setCell ?_ (by first | exact Nat.le_refl _ | (simp; done) | (simp; omega)) _))) : Below w3.heap.size w3 (w3.alloc (.cells #[.int .i64 who] 3)))
    have h63 : ns.length + 1 ≤ maxLen := by unfold maxLen; omega
    have h64 : (ns.length + 1) * 8 ≤ 140737488355328 := by omega
    have hbs : B0 ≤ (w3.alloc (.cells #[.int .i64 who] 3)).heap.size := by have := hE.out.lt; have := hE.out.hb; simp; omega
    replace h63 := Lib.hid h63
    replace h64 := Lib.hid h64
    replace hbs := Lib.hid hbs
    have hgo := Lib.hid (fun (w4 : World) (hg : (w3.alloc (.cells #[.int .i64 who] 3)).grownBy w4 nv.ownBlock) => (hE.out.blk.choose_spec.choose_spec.1.same ((hg.block b (by simp; omega) (fun e => hE.out.nb e.symm)).trans (Below.heap_alloc _ _ _ hbl)) : Blk w4 b _))
    go_wp2_with (at_builtin; refine wpList_append_own_at _ rfl (.tmp 61) (.tmp 63) 33 rfl B0 3 i0 (.int .i64 0) 1 8 Try.underlying33 hi hz0 hz1 hz2 rfl (by decide) nv ns.length (ns.map fun x => .int .i64 x) rfl hown ⟨w3.heap.size, 0, none⟩ 1 1 [.int .i64 who] rfl rfl (cell_one_new _ _ _) (by simp [Value.oneCell']) h63.out h64.out hbs.out ?_; intro v' w4 hown4 hg4 _ hf4; obtain ⟨pp, ll, cc, rfl⟩ := own_slice hown4; clear hown q0 q1 q2 q3; have q := hgo.out w4 hg4; obtain ⟨q0, q1, q2, q3, p0, p1, p2, p3⟩ := q.c4; clear q; replace hg4 := Lib.hid hg4; replace hown4 := Lib.hid hown4; replace hf4 := Lib.hid hf4)
    go_ret
    rw [hR'.out, hr.out]
    have := hE.out.add_n hw hown4.out hg4.out hf4.out
    exact ⟨rfl, ⟨_, _, this.1⟩, (Stays.of_below hB1.out).trans this.2 (fun _ _ h => h)⟩

end Go.Proofs.Ytjjdfhokmiaekaa
