/-
  The contracts of member's Add and Remove.
-/
import Derived.Test.YtjjdfhokmiaekaaMember
namespace Go.Proofs.Ytjjdfhokmiaekaa
open Go.RowKit Go.Lst Go.Lx

theorem nums_one (k : IntKind) (W : World) (n : Int) (T : TypeId) (hn : (Lit.int k n).wf = true) : Nums k (W.alloc (.cells #[.int k n] T)) (.slice (some ⟨W.heap.size, 0, none⟩) 1 1) [n] := by
  refine ⟨⟨some ⟨W.heap.size, 0, none⟩, 1, rfl, by simp, by unfold maxLen; omega, fun i hi => ⟨_, rfl, ?_⟩⟩, fun x hx => by simp at hx; rw [hx]; exact hn⟩
  simp at hi
  subst hi
  exact (Blk.new W #[.int k n] T).cell 0 rfl

theorem nums_rest {k : IntKind} {w : World} {a : Addr} {xs : List Int} {n c : Nat} (h : Nums k w (.slice (some a) n c) xs) (j : Nat) (hj : j ≤ xs.length) : ∃ ad, (if c = j then some a else some (a.add j)) = some ad ∧ Nums k w (.slice (some ad) (xs.length - j) (c - j)) (xs.drop j) := by
  by_cases e : c = j
  · rw [if_pos e]
    refine ⟨a, rfl, ?_⟩
    have hc : xs.length ≤ c := by obtain ⟨q, d, e, k1, k2, _⟩ := h.parts; injection e with e1 e2 e3; omega
    have e0 : xs.drop j = [] := List.drop_eq_nil_of_le (by omega)
    rw [e0, show xs.length - j = 0 by omega, show c - j = 0 by omega]
    exact ⟨⟨some a, 0, rfl, by simp, by unfold maxLen; omega, fun i hi => by simp at hi⟩, fun x hx => by cases hx⟩
  · rw [if_neg e]
    exact ⟨_, rfl, nums_from h j hj⟩
set_option maxRecDepth 100000 in
set_option maxHeartbeats 2000000 in
theorem Add_calls (v : Value) (xs : List Int) (n : Int) (w : World) (h : Nums .i64 w v xs) (hn : (Lit.int .i64 n).wf = true) :
    Calls Try.prog 44 #[v, .int .i64 n] w fun e w' => (∃ u, e = .returned (.tuple #[u, .int .i64 (addE xs n : Int)]) ∧ Nums .i64 w' u (addL xs n)) ∧ Below w.heap.size w w' := by
  have C1 := Lib.hid (May_calls v xs w h)
  obtain ⟨E, hE⟩ : ∃ E, addE xs n = E := ⟨_, rfl⟩
  obtain ⟨R, hR⟩ : ∃ R, addL xs n = R := ⟨_, rfl⟩
  have bad : ∀ {w'}, E ≠ 0 → Nums .i64 w' (.slice none 0 0) R := fun h0 => by
    rw [← hR]; unfold addL; rw [hE, if_neg h0]; exact Nums.nil _ _
  rw [hE, hR]
  by_cases hm : may xs = true
  case neg =>
    have hm' : may xs = false := by cases hx : may xs with | false => rfl | true => exact absurd hx hm
    obtain rfl : 2 = E := by rw [← hE]; unfold addE; rw [if_pos (.inl hm')]
    rw [hm'] at C1
    replace bad := @Lib.hid _ @bad
    clear h hE hR hm hm'
    go_enter Try.func44, Try.ntmps44
    go_wp2_with fail
    refine C1.out.mono ?_
    rintro e w1 ⟨rfl, hb1⟩
    go_wp2_with fail
    go_ret2
    exact ⟨⟨_, rfl, bad.out (by decide)⟩, hb1⟩
  rw [hm] at C1
  by_cases h1 : n < 1
  · obtain rfl : 2 = E := by rw [← hE]; unfold addE; rw [if_pos (.inr (.inl h1))]
    replace bad := @Lib.hid _ @bad
    clear h hE hR hm
    go_enter Try.func44, Try.ntmps44
    go_wp2_with fail
    refine C1.out.mono ?_
    rintro e w1 ⟨rfl, hb1⟩
    go_wp2_with fail
    go_ret2
    exact ⟨⟨_, rfl, bad.out (by decide)⟩, hb1⟩
  by_cases h2 : 64 < n
  · obtain rfl : 2 = E := by rw [← hE]; unfold addE; rw [if_pos (.inr (.inr h2))]
    replace bad := @Lib.hid _ @bad
    clear h hE hR hm
    go_enter Try.func44, Try.ntmps44
    go_wp2_with fail
    refine C1.out.mono ?_
    rintro e w1 ⟨rfl, hb1⟩
    go_wp2_with fail
    go_ret2
    exact ⟨⟨_, rfl, bad.out (by decide)⟩, hb1⟩
  have h12 : ¬(may xs = false ∨ n < 1 ∨ 64 < n) := by rw [hm]; simp; omega
  have C2 := Lib.hid (fun W h => Has_calls v xs n W h)
  have hN := Lib.hid h
  by_cases h3 : n ∈ xs
  · obtain rfl : 7 = E := by rw [← hE]; unfold addE; rw [if_neg h12, if_pos h3]
    rw [decide_eq_true h3] at C2
    replace bad := @Lib.hid _ @bad
    clear h hE hR hm h12 h3
    go_enter Try.func44, Try.ntmps44
    go_wp2_with fail
    refine C1.out.mono ?_
    rintro e w1 ⟨rfl, hb1⟩
    go_wp2_with fail
    refine (C2.out _ (hN.out.below hb1)).mono ?_
    rintro e w2 ⟨rfl, hb2⟩
    replace hb1 := Lib.hid (Lx.bstep hb1 (Nat.le_refl _) hb2)
    clear hb2
    go_wp2_with fail
    go_ret2
    exact ⟨⟨_, rfl, bad.out (by decide)⟩, hb1.out⟩
  rw [decide_eq_false h3] at C2
  have hmf := may_facts hm
  obtain ⟨a, c, rfl, hlt⟩ := h.block_lt hmf.2.2.1
  by_cases h4 : 7 ≤ xs.length
  · obtain rfl : 6 = E := by rw [← hE]; unfold addE; rw [if_neg h12, if_neg h3, if_pos h4]
    replace bad := @Lib.hid _ @bad
    clear h hE hR hm h12 h3 hmf
    go_enter Try.func44, Try.ntmps44
    go_wp2_with fail
    refine C1.out.mono ?_
    rintro e w1 ⟨rfl, hb1⟩
    go_wp2_with fail
    refine (C2.out _ (hN.out.below hb1)).mono ?_
    rintro e w2 ⟨rfl, hb2⟩
    replace hb1 := Lib.hid (Lx.bstep hb1 (Nat.le_refl _) hb2)
    clear hb2
    go_wp2_with fail
    go_ret2
    exact ⟨⟨_, rfl, bad.out (by decide)⟩, hb1.out⟩
  obtain rfl : 0 = E := by rw [← hE]; unfold addE; rw [if_neg h12, if_neg h3, if_neg h4]
  have hR2 : R = ins xs n := by rw [← hR]; unfold addL; rw [hE, if_pos rfl]
  have C3 := Lib.hid (fun W h => BinarySearch_calls (.slice (some a) xs.length c) xs n W h hmf.1 h3 (by omega))
  have hcap : xs.length ≤ c := by obtain ⟨q, d, e, k1, k2, _⟩ := h.parts; injection e with e1 e2 e3; omega
  have hn7 : xs.length < 7 := by omega
  clear bad hE hR h12 h3 hm hlt h
  obtain ⟨m, hm0⟩ : ∃ m, xs.length = m := ⟨_, rfl⟩
  rw [hm0] at C1 C2 C3 hN hcap ⊢
  rw [hm0] at hn7
  have h40 : ¬ 7 ≤ m := by omega
  clear h4
  replace hmf := Lib.hid hmf
  replace hm0 := Lib.hid hm0
  replace hR2 := Lib.hid hR2
  replace hcap := Lib.hid hcap
  go_enter Try.func44, Try.ntmps44
  go_wp2_with fail
  refine C1.out.mono ?_
  rintro e w1 ⟨rfl, hb1⟩
  have hB := Lib.hid (Below.refl w.heap.size w)
  replace hb1 : Below w.heap.size w w1 := Lx.bstep (by repeat (first | exact Below.refl _ _ | exact Lx.Ext.below _ | refine Below.drew ?_ | refine below_drewN ?_ _ | (refine Below.alloc ?_ (by first | exact Nat.le_refl _ | (simp; done) | (simp; omega)) _) | (refine Below.setCell ?_ (by first | exact Nat.le_refl _ | (simp; done) | (simp; omega)) _))) (Nat.le_refl _) hb1
  replace hN := Lib.hid (hN.out.below hb1)
  replace hB := Lib.hid (Lx.bstep hB.out (Nat.le_refl _) hb1)
  clear hb1
  go_wp2_with fail
  refine (C2.out _ hN.out).mono ?_
  rintro e w2 ⟨rfl, hb2⟩
  replace hb2 : Below w1.heap.size w1 w2 := Lx.bstep (by repeat (first | exact Below.refl _ _ | exact Lx.Ext.below _ | refine Below.drew ?_ | refine below_drewN ?_ _ | (refine Below.alloc ?_ (by first | exact Nat.le_refl _ | (simp; done) | (simp; omega)) _) | (refine Below.setCell ?_ (by first | exact Nat.le_refl _ | (simp; done) | (simp; omega)) _))) (Nat.le_refl _) hb2
  replace hN := Lib.hid (hN.out.below hb2)
  replace hB := Lib.hid (Lx.bstep hB.out (Nat.le_refl _) hb2)
  clear hb2
  go_wp2_with fail
  refine (C3.out _ hN.out).mono ?_
  rintro e w3 ⟨⟨k, b, rfl, hk, hlo, hhi⟩, hb3⟩
  replace hb3 : Below w2.heap.size w2 w3 := Lx.bstep (by repeat (first | exact Below.refl _ _ | exact Lx.Ext.below _ | refine Below.drew ?_ | refine below_drewN ?_ _ | (refine Below.alloc ?_ (by first | exact Nat.le_refl _ | (simp; done) | (simp; omega)) _) | (refine Below.setCell ?_ (by first | exact Nat.le_refl _ | (simp; done) | (simp; omega)) _))) (Nat.le_refl _) hb3
  replace hN := Lib.hid (hN.out.below hb3)
  replace hB := Lib.hid (Lx.bstep hB.out (Nat.le_refl _) hb3)
  clear hb3
  have hk1 : (k : Int) ≤ (m : Int) := by omega
  have hk0 : (0 : Int) ≤ (k : Int) := by omega
  have hkc : (k : Int) ≤ (c : Int) := by have := hcap.out; omega
  have hins := Lib.hid (ins_at hlo (by rw [hm0.out]; exact hhi) (by rw [hm0.out]; exact hk))
  replace hk := Lib.hid hk
  clear hlo hhi
  go_wp2_with fail
  have hn' := Lib.hid hn
  clear hn
  refine Lx.wp_region_chain_lit (fun w' => ∃ x : Ext w3, w' = x.wo) (fun _ => False) [5, 6, 10] [] (fun _ => True) (by kernel_rfl) (by kernel_rfl) (by kernel_rfl) (by kernel_rfl) Lx.ext_drew trivial ?_
  repeat (refine Lx.wpCh_one (by rfl) (by rfl) ?_; go_big_quiet_step (fail); refine wpQuiet_nil ?_)
  refine Lx.wpCh_relp (fun v w' => ∃ b, v = .slice (some ⟨b, 0, none⟩) 1 1 ∧ Nums .i64 w' v [n]) (by rfl) (by rfl) (fun h => by cases h) (fun w' hx _ R hR => ?_) (fun v hv => ?_)
  · obtain ⟨x, rfl⟩ := hx
    go_simp
    exact hR _ _ ⟨⟨_, x.below.alloc x.below.size _⟩, rfl⟩ ⟨_, rfl, nums_one _ _ _ _ hn'.out⟩ (fun h => by cases h)
  obtain ⟨_, _, b1, rfl, _⟩ := hv
  go_big_quiet_step (fail)
  refine wpQuiet_nil ?_
  repeat (refine Lx.wpCh_one (by rfl) (by rfl) ?_; go_big_quiet_step (fail); refine wpQuiet_nil ?_)
  have hkl := Lib.hid (show (xs.take k).length = k by rw [List.length_take, hm0.out]; have := hk.out; omega)
  refine Lx.wpCh_relp (fun v w' => w'.ownsRow w3.heap.size 3 1 v (k + 1) ((xs.take k ++ [n]).map fun x => .int .i64 x)) (by rfl) (by rfl) (fun h => by cases h) (fun w' hx hS R hR => ?_) (fun v hv => ?_)
  · obtain ⟨x, rfl⟩ := hx
    obtain ⟨b2, hb2, hN1⟩ := hS
    obtain ⟨v', w'', hr, hN2, hb, hown⟩ := run_append_exact (P := Try.prog) x.wo 33 33 3 .i64 8 Try.underlying33 infoInt (some a) (xs.take k) (by rw [hkl.out]; exact nums_upto (hN.out.below x.below) k (by have := hm0.out; have := hk.out; omega)) (.slice (some ⟨b1, 0, none⟩) 1 1) [n] hN1 (.inl rfl) (by rw [hkl.out]; simp; have := hk.out; omega) (by rw [hkl.out]; unfold maxLen; simp; have := hk.out; omega)
    rw [hkl.out] at hr
    replace hown := Lib.hid (hown (by simp))
    have hb' := Lib.hid hb
    clear hN1 hN2 hb hb2
    rw [run_append_op (s := .tmp 33) (x := .tmp 35) (t := 33) rfl rfl rfl hr]
    refine hR _ _ ⟨⟨_, Lx.bstep x.below (Nat.le_refl _) hb'.out⟩, rfl⟩ ?_ (fun h => by cases h)
    have h9 := own_mono hown.out x.below.size
    rw [hkl.out] at h9
    exact h9
  obtain ⟨w9, -, hv9⟩ := hv
  obtain ⟨p1, l1, c1, rfl⟩ := own_slice hv9
  clear hv9
  go_big_quiet_step (fail)
  refine wpQuiet_nil ?_
  repeat (refine Lx.wpCh_one (by rfl) (by rfl) ?_; go_big_quiet_step (fail); refine wpQuiet_nil ?_)
  refine Lx.wpCh_relp (fun v w' => w'.ownsRow w3.heap.size 3 1 v (k + 1 + (m - k)) ((xs.take k ++ [n] ++ xs.drop k).map fun x => .int .i64 x)) (by rfl) (by rfl) (fun h => by cases h) (fun w' hx hS R hR => ?_) (fun v hv => ?_)
  · obtain ⟨x, rfl⟩ := hx
    obtain ⟨i0, hi, hz0, hz1, hz2⟩ := info_parts infoInt
    obtain ⟨ad, had, hNr⟩ := nums_rest (hN.out.below x.below) k (by have := hm0.out; have := hk.out; omega)
    rw [hm0.out] at hNr
    have hdl : (xs.drop k).length = m - k := by rw [List.length_drop, hm0.out]
    obtain ⟨v', w'', hr, hown, hg, -, -⟩ := run_append_own_at (P := Try.prog) x.wo w3.heap.size 33 33 3 i0 (.int .i64 0) 1 8 Try.underlying33 hi hz0 hz1 hz2 rfl (by decide) _ (k + 1) _ hS ad (m - k) (c - k) ((xs.drop k).map fun x => .int .i64 x) (by rw [List.length_map, hdl]; omega) (nums_cells hNr) (fun u hu => by obtain ⟨z, _, rfl⟩ := List.mem_map.1 hu; rfl) (by unfold maxLen; have := hk.out; omega) (by have := hk.out; omega) x.below.size
    have hS' := Lib.hid hS
    rw [run_append_op (s := .tmp 36) (x := .tmp 39) (t := 33) rfl rfl (by rw [← had]; rfl) hr]
    refine hR _ _ ⟨⟨_, x.below.grown hg x.below.size (fun q e => (own_block hS e).1)⟩, rfl⟩ ?_ (fun h => by cases h)
    rw [List.map_append]
    exact hown
  obtain ⟨w9, -, hv9⟩ := hv
  obtain ⟨p2, l2, c2, rfl⟩ := own_slice hv9
  clear hv9
  go_big_quiet_step (fail)
  refine wpQuiet_nil ?_
  repeat (refine Lx.wpCh_one (by rfl) (by rfl) ?_; go_big_quiet_step (fail); refine wpQuiet_nil ?_)
  refine Lx.wpCh_nil ?_
  intro w4 hx hS
  obtain ⟨x, rfl⟩ := hx
  replace hB := Lib.hid (Lx.bstep hB.out (Nat.le_refl _) x.below)
  replace hS := Lib.hid hS
  generalize x.wo = w4 at *
  go_wp2_with fail
  all_goals
    go_ret2
    refine ⟨⟨_, rfl, ?_⟩, hB.out⟩
    rw [hR2.out, hins.out]
    have hlen2 : (xs.take k ++ [n] ++ xs.drop k).length = k + 1 + (m - k) := by simp [hm0.out]; have := hk.out; omega
    have hS2 := hS.out
    rw [← hlen2] at hS2
    refine Nums.own hS2 (fun z hz => ?_)
    rcases List.mem_append.1 hz with h | h
    · rcases List.mem_append.1 h with h | h
      · exact hN.out.2 z (List.mem_of_mem_take h)
      · simp at h; rw [h]; exact hn'.out
    · exact hN.out.2 z (List.mem_of_mem_drop h)

/-! Remove. -/
def remE (conf : List Int) (n : Int) : Nat := if may conf = false then 2 else if n ∉ conf then 5 else if conf.length = 1 then 2 else 0
def rem (conf : List Int) (n : Int) : List Int := conf.filter (fun x => decide (x ≠ n))
def remL (conf : List Int) (n : Int) : List Int := if remE conf n = 0 then rem conf n else []
theorem rem_at {xs : List Int} {n : Int} {k : Nat} (hd : xs.Nodup) (hk : k < xs.length) (h : xs.getD k 0 = n) : rem xs n = xs.take k ++ xs.drop (k + 1) := by
  have hx : xs[k] = n := by rw [List.getD_eq_getElem?_getD, List.getElem?_eq_getElem hk] at h; exact h
  have e : xs = xs.take k ++ n :: xs.drop (k + 1) := by rw [← hx, ← List.drop_eq_getElem_cons hk, List.take_append_drop]
  have hd' := hd
  rw [e] at hd'
  have h1 := List.nodup_append.1 hd'
  have h2 := List.nodup_cons.1 h1.2.1
  unfold rem
  conv => lhs; rw [e]
  rw [List.filter_append, List.filter_cons]
  simp only [ne_eq, not_true_eq_false, decide_false, Bool.false_eq_true, if_false]
  congr 1
  · refine List.filter_eq_self.2 fun x hx => ?_
    have := h1.2.2 x hx n (by simp)
    simpa using this
  · refine List.filter_eq_self.2 fun x hx => ?_
    have : x ≠ n := fun e => h2.1 (e ▸ hx)
    simpa using this
set_option maxRecDepth 100000 in
set_option maxHeartbeats 2000000 in
theorem Remove_calls (v : Value) (xs : List Int) (n : Int) (w : World) (h : Nums .i64 w v xs) :
    Calls Try.prog 45 #[v, .int .i64 n] w fun e w' => (∃ u, e = .returned (.tuple #[u, .int .i64 (remE xs n : Int)]) ∧ Nums .i64 w' u (remL xs n)) ∧ Below w.heap.size w w' := by
  have C1 := Lib.hid (May_calls v xs w h)
  obtain ⟨E, hE⟩ : ∃ E, remE xs n = E := ⟨_, rfl⟩
  obtain ⟨R, hR⟩ : ∃ R, remL xs n = R := ⟨_, rfl⟩
  have bad : ∀ {w'}, E ≠ 0 → Nums .i64 w' (.slice none 0 0) R := fun h0 => by
    rw [← hR]; unfold remL; rw [hE, if_neg h0]; exact Nums.nil _ _
  rw [hE, hR]
  by_cases hm : may xs = true
  case neg =>
    have hm' : may xs = false := by cases hx : may xs with | false => rfl | true => exact absurd hx hm
    obtain rfl : 2 = E := by rw [← hE]; unfold remE; rw [if_pos hm']
    rw [hm'] at C1
    replace bad := @Lib.hid _ @bad
    clear h hE hR hm hm'
    go_enter Try.func45, Try.ntmps45
    go_wp2_with fail
    refine C1.out.mono ?_
    rintro e w1 ⟨rfl, hb1⟩
    go_wp2_with fail
    go_ret2
    exact ⟨⟨_, rfl, bad.out (by decide)⟩, hb1⟩
  rw [hm] at C1
  have hm0 : ¬ may xs = false := by rw [hm]; simp
  have hmf := may_facts hm
  have hnd := may_nodup hm
  have C2 := Lib.hid (fun W h => Index_calls v xs n W h)
  obtain ⟨a, c, rfl, hlt⟩ := h.block_lt hmf.2.2.1
  have hcap : xs.length ≤ c := by obtain ⟨q, d, e, k1, k2, _⟩ := h.parts; injection e with e1 e2 e3; omega
  have hcm : c ≤ maxLen := by obtain ⟨q, d, e, k1, k2, _⟩ := h.parts; injection e with e1 e2 e3; omega
  have hN := Lib.hid h
  have hB := Lib.hid (Below.refl w.heap.size w)
  have hE' := Lib.hid hE
  have hR' := Lib.hid hR
  replace bad := @Lib.hid _ @bad
  obtain ⟨m, hmm⟩ : ∃ m, xs.length = m := ⟨_, rfl⟩
  have hm7 : m ≤ 7 := by omega
  rw [hmm] at C1 C2 hN hcap ⊢
  replace hmm := Lib.hid hmm
  replace hnd := Lib.hid hnd
  replace hmf := Lib.hid hmf
  replace hm0 := Lib.hid hm0
  replace hcap := Lib.hid hcap
  replace hcm := Lib.hid hcm
  clear h hE hR hm hlt
  go_enter Try.func45, Try.ntmps45
  go_wp2_with fail
  refine C1.out.mono ?_
  rintro e w1 ⟨rfl, hb1⟩
  replace hb1 : Below w.heap.size w w1 := Lx.bstep (by repeat (first | exact Below.refl _ _ | exact Lx.Ext.below _ | refine Below.drew ?_ | refine below_drewN ?_ _ | (refine Below.alloc ?_ (by first | exact Nat.le_refl _ | (simp; done) | (simp; omega)) _) | (refine Below.setCell ?_ (by first | exact Nat.le_refl _ | (simp; done) | (simp; omega)) _))) (Nat.le_refl _) hb1
  replace hN := Lib.hid (hN.out.below hb1)
  replace hB := Lib.hid (Lx.bstep hB.out (Nat.le_refl _) hb1)
  clear hb1
  go_wp2_with fail
  refine (C2.out _ hN.out).mono ?_
  rintro e w2 ⟨⟨i, rfl, hi⟩, hb2⟩
  replace hb2 : Below w1.heap.size w1 w2 := Lx.bstep (by repeat (first | exact Below.refl _ _ | exact Lx.Ext.below _ | refine Below.drew ?_ | refine below_drewN ?_ _ | (refine Below.alloc ?_ (by first | exact Nat.le_refl _ | (simp; done) | (simp; omega)) _) | (refine Below.setCell ?_ (by first | exact Nat.le_refl _ | (simp; done) | (simp; omega)) _))) (Nat.le_refl _) hb2
  replace hN := Lib.hid (hN.out.below hb2)
  replace hB := Lib.hid (Lx.bstep hB.out (Nat.le_refl _) hb2)
  clear hb2
  rcases hi with ⟨hni, rfl⟩ | ⟨k, rfl, hk, hkx, -⟩
  · obtain rfl : 5 = E := by rw [← hE'.out]; unfold remE; rw [if_neg hm0.out, if_pos hni]
    clear hni
    go_wp2_with fail
    go_ret2
    exact ⟨⟨_, rfl, bad.out (by decide)⟩, hB.out⟩
  have hkl := Lib.hid (show k < xs.length by rw [hmm.out]; exact hk)
  have hin : ¬ n ∉ xs := by rw [← hkx]; exact fun h => h (getD_mem xs k hkl.out)
  by_cases h1 : m = 1
  · obtain rfl : 2 = E := by rw [← hE'.out]; unfold remE; rw [if_neg hm0.out, if_neg hin, if_pos (hmm.out.trans h1)]
    have h1b : ((m : Int) == 1) = true := by rw [h1]; rfl
    have h1' := Lib.hid h1
    clear hin hk hkx h1
    go_wp2_with fail
    go_ret2
    exact ⟨⟨_, rfl, bad.out (by decide)⟩, hB.out⟩
  have h1b : ((m : Int) == 1) = false := beq_eq_false_iff_ne.2 (by omega)
  have hE0 : E = 0 := by rw [← hE'.out]; unfold remE; rw [if_neg hm0.out, if_neg hin, if_neg (fun e => h1 (hmm.out.symm.trans e))]
  have hR2 : R = xs.take k ++ xs.drop (k + 1) := by rw [← hR'.out]; unfold remL; rw [hE'.out, hE0, if_pos rfl]; exact rem_at hnd.out hkl.out hkx
  subst hE0
  have hk1 : (k : Int) ≤ (m : Int) := by omega
  have hk2 : (k : Int) + 1 ≤ (m : Int) := by omega
  have hk0 : (0 : Int) ≤ (k : Int) := by omega
  have hkc : (k : Int) ≤ (c : Int) := by have := hcap.out; omega
  replace hk := Lib.hid hk
  replace hR2 := Lib.hid hR2
  clear hin hkx h1 hE' hR'
  go_wp2_with fail
  refine Lx.wp_region_chain_lit (fun w' => ∃ x : Ext w2, w' = x.wo) (fun _ => False) [8] [] (fun _ => True) (by kernel_rfl) (by kernel_rfl) (by kernel_rfl) (by kernel_rfl) Lx.ext_drew trivial ?_
  repeat (refine Lx.wpCh_one (by rfl) (by rfl) ?_; go_big_quiet_step (fail); refine wpQuiet_nil ?_)
  have hkl2 := Lib.hid (show (xs.take k).length = k by rw [List.length_take, hmm.out]; have := hk.out; omega)
  refine Lx.wpCh_relp (fun v w' => Nums .i64 w' v (xs.take k ++ xs.drop (k + 1))) (by rfl) (by rfl) (fun h => by cases h) (fun w' hx hS R hR => ?_) (fun v hv => ?_)
  · obtain ⟨x, rfl⟩ := hx
    obtain ⟨ad, had, hNr⟩ := nums_rest (hN.out.below x.below) (k + 1) (by have := hmm.out; have := hk.out; omega)
    rw [hmm.out] at hNr
    have hdl : (xs.drop (k + 1)).length = m - (k + 1) := by rw [List.length_drop, hmm.out]
    obtain ⟨v', w'', hr, hN2, hb, -⟩ := run_append_exact (P := Try.prog) x.wo 33 33 3 .i64 8 Try.underlying33 infoInt (some a) (xs.take k) (by rw [hkl2.out]; exact nums_upto (hN.out.below x.below) k (by have := hmm.out; have := hk.out; omega)) _ (xs.drop (k + 1)) hNr (.inl rfl) (by rw [hkl2.out, hdl]; have := hk.out; omega) (by rw [hkl2.out, hdl]; unfold maxLen; have := hk.out; omega)
    rw [hkl2.out] at hr
    rw [run_append_op (s := .tmp 23) (x := .tmp 27) (t := 33) rfl rfl (by rw [← had]; rfl) hr]
    exact hR _ _ ⟨⟨_, Lx.bstep x.below (Nat.le_refl _) hb⟩, rfl⟩ hN2 (fun h => by cases h)
  obtain ⟨w9, -, hv9⟩ := hv
  obtain ⟨p2, c2, rfl, -⟩ := hv9.parts
  clear hv9
  go_big_quiet_step (fail)
  refine wpQuiet_nil ?_
  repeat (refine Lx.wpCh_one (by rfl) (by rfl) ?_; go_big_quiet_step (fail); refine wpQuiet_nil ?_)
  refine Lx.wpCh_nil ?_
  intro w4 hx hS
  obtain ⟨x, rfl⟩ := hx
  replace hB := Lib.hid (Lx.bstep hB.out (Nat.le_refl _) x.below)
  replace hS := Lib.hid hS
  generalize x.wo = w4 at *
  generalize (xs.take k ++ xs.drop (k + 1)).length = l2 at *
  go_wp2_with fail
  all_goals
    go_ret2
    refine ⟨⟨_, rfl, ?_⟩, hB.out⟩
    rw [hR2.out]
    exact hS.out
end Go.Proofs.Ytjjdfhokmiaekaa
