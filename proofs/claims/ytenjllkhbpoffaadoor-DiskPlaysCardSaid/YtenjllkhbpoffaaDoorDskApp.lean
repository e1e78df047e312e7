/-
  (*Disk).Append, Cut, Rename, Remove.
-/
import Derived.Test.YtenjllkhbpoffaaDoorDskLeft
namespace Go.Proofs.YtenjllkhbpoffaaDoor
open Go Go.Maps Go.WideMaps Go.Dsk Go.Lx Go.Lst Go.RowKit

section
variable {w w2 w3 wX w' : World} {O : Nat → Prop} {b bs bn : Nat} {lv cv : Value} {vs : List Value} {M M' : DM}
theorem DkAt.wide (h : DkAt w O b bs bn lv cv vs M) (hb : Below w.heap.size w w') : DkAt w' (Gr O w w') b bs bn lv cv vs M := (h.below hb).grow (fun _ hk => .inl hk) (Gr.lo h.rest.lo hb.size)
theorem Dk.wide (h : Dk w O b M) (hb : Below w.heap.size w w') : Dk w' (Gr O w w') b M := by
  obtain ⟨bs, bn, lv, cv, vs, h⟩ := h
  exact ⟨bs, bn, lv, cv, vs, h.wide hb⟩
theorem op_fin (hlo : ∀ k, O k → k < w.heap.size) (hb : O b) (h12 : Below w.heap.size w w2) (h23 : Stays (fun k => k = b) w2 w3) (h3X : Below w3.heap.size w3 wX) (hs : Stays (Gr O w w2) wX w') (hD : Dk w' (Gr (Gr O w w2) wX w') b M') : Dk w' (Gr O w w') b M' ∧ Stays O w w' := by
  have a1 := h12.size
  have a2 := h23.size
  have a3 := h3X.size
  have a4 := hs.size
  have h1 : Stays O w w2 := Stays.of_below h12
  have h2 : Stays O w2 w3 := ⟨h23.os, h23.tape, h23.output, h23.size, fun k hk hn => h23.block k hk (fun e => hn (by rw [e]; exact hb))⟩
  have h3 : Stays O w3 wX := Stays.of_below h3X
  have h5 : Stays O w w' := ((h1.trans h2 (fun _ _ h => h)).trans h3 (fun _ _ h => h)).trans hs (fun i hi hg => hg.elim id (fun h' => by omega))
  refine ⟨hD.grow (fun k hk => ?_) (Gr.lo hlo h5.size), h5⟩
  rcases hk with (h | h) | h
  · exact .inl h
  · exact .inr ⟨h.1, by omega⟩
  · exact .inr ⟨by omega, h.2⟩
theorem op_err (h : DkAt w3 (Gr O w w2) b bs bn lv cv vs M') (hlo : ∀ k, O k → k < w.heap.size) (hb : O b) (h12 : Below w.heap.size w w2) (h23 : Stays (fun k => k = b) w2 w3) (h3X : Below w3.heap.size w3 wX) : Dk wX (Gr O w wX) b M' ∧ Stays O w wX :=
  op_fin hlo hb h12 h23 h3X (Stays.of_below (Below.refl _ _)) ⟨bs, bn, lv, cv, vs, (h.below h3X).grow (fun _ hk => .inl hk) (Gr.lo (h.below h3X).rest.lo (Nat.le_refl _))⟩
end
theorem burn_ok {M : DM} (h : DOk M) : DOk (burnM M) := by
  unfold burnM
  split
  · exact ⟨h.room, h.rise, h.now, h.small, h.fit, by have := h.fuse; dsimp only; omega⟩
  · exact h
theorem burn_now (M : DM) : (burnM M).now = M.now ∧ (burnM M).room = M.room ∧ (burnM M).loose = M.loose ∧ (burnM M).sure = M.sure := by unfold burnM; split <;> exact ⟨rfl, rfl, rfl, rfl⟩
theorem tot_now {M : DM} (h : DOk M) : (tot M.now : Int) ≤ M.room ∧ M.now.length ≤ 64 := by
  have := h.small M.loose.length (Nat.le_refl _)
  rwa [List.take_length, ← h.now] at this

theorem _root_.Go.Lx.Blk.keepN {w w' : World} {b k : Nat} {cs : List Value} (h : Blk w k cs) (hs : Stays (fun i => i = b) w w') (hn : b < k) : Blk w' k cs := h.same (hs.block k h.lt (fun e => by omega))
def appE (M : DM) (k s : ByteArray) : Int := if M.fuse = 0 then 60 else if nameB k = false then 2 else if M.room - tot M.now < s.size then 6 else if hasF M.now k = false ∧ 64 ≤ M.now.length then 6 else 0
def appM (M : DM) (k s : ByteArray) : DM := if appE M k s = 0 then doesM (burnM M) (.app k s) else burnM M
theorem app_fits {M : DM} (h : DOk M) (hr : Rise M.now) (k s : ByteArray) (h1 : ¬ M.room - tot M.now < s.size) (h2 : ¬ (hasF M.now k = false ∧ 64 ≤ M.now.length)) : (tot (done M.now (.app k s)) : Int) ≤ M.room ∧ (done M.now (.app k s)).length ≤ 64 := by
  obtain ⟨t1, t2⟩ := tot_now h
  have e1 := tot_put hr k (atF M.now k ++ s)
  have e2 := len_put hr k (atF M.now k ++ s)
  rw [ByteArray.size_append] at e1
  refine ⟨?_, ?_⟩
  · show (tot (putF M.now k (atF M.now k ++ s)) : Int) ≤ M.room
    omega
  · show (putF M.now k (atF M.now k ++ s)).length ≤ 64
    by_cases hh : hasF M.now k = true
    · rw [if_pos hh] at e2; omega
    · rw [if_neg hh] at e2
      have : hasF M.now k = false := by simpa using hh
      have : ¬ 64 ≤ M.now.length := fun e => h2 ⟨this, e⟩
      omega
set_option maxRecDepth 100000 in
theorem Append_nil (w : World) (k s : ByteArray) : Calls Tryd.prog 11 #[.pointer none, .string k, .string s] w fun y w' => y = .returned (.int .i64 1) ∧ Below w.heap.size w w' := by
  have hC := Lib.hid burns_nil
  go_enter Tryd.func11, Tryd.ntmps11
  go_wp2_with fail
  refine (hC.out _).mono ?_
  rintro e w1 ⟨rfl, rfl⟩
  go_wp2_with fail
  go_ret
  exact ⟨rfl, (by repeat (first | exact Below.refl _ _ | exact Lx.Ext.below _ | refine Below.drew ?_ | refine below_drewN ?_ _ | (refine Below.alloc ?_ (by first | exact Nat.le_refl _ | (simp; done) | (simp; omega)) _) | (refine Below.setCell ?_ (by first | exact Nat.le_refl _ | (simp; done) | (simp; omega)) _)))⟩
set_option maxRecDepth 100000 in
set_option maxHeartbeats 4000000 in
theorem Append_calls {w : World} {O : Nat → Prop} {b : Nat} {M : DM} (h : Dk w O b M) (k s : ByteArray) (hk : k.size ≤ maxLen) (hs : s.size ≤ maxLen) (hl : M.loose.length < 1000000) :
    Calls Tryd.prog 11 #[.pointer (some ⟨b, 0, none⟩), .string k, .string s] w fun y w' => y = .returned (.int .i64 (appE M k s)) ∧ Dk w' (Gr O w w') b (appM M k s) ∧ Stays O w w' := by
  obtain ⟨bs, bn, lv, cv, vs, h⟩ := h
  have hm := made2 w #[.string k] #[.string s] 9 9
  obtain ⟨hb1, hb2, hB, hz⟩ := hm
  have hW := h.wide hB
  have hC := Lib.hid (burns_calls hW)
  have hob : Hid (O b) := Lib.hid (h.rest.own b (.inl rfl))
  have hlo := Lib.hid h.rest.lo
  have hnow := Lib.hid (burn_now M)
  have hok := Lib.hid h.ok
  have hrise := Lib.hid h.rest.now.rise
  have hown : Hid (¬ OwnB b bs bn lv cv w.heap.size ∧ ¬ OwnB b bs bn lv cv (w.heap.size + 1) ∧ b < w.heap.size ∧ Gr O w ((w.alloc (.cells #[.string k] 9)).alloc (.cells #[.string s] 9)) w.heap.size ∧ Gr O w ((w.alloc (.cells #[.string k] 9)).alloc (.cells #[.string s] 9)) (w.heap.size + 1)) := Lib.hid
    ⟨fun e => by have := h.rest.lo _ (h.rest.own _ e); omega, fun e => by have := h.rest.lo _ (h.rest.own _ e); omega, h.rest.lo b (h.rest.own b (.inl rfl)), .inr ⟨by omega, by omega⟩, .inr ⟨by omega, by omega⟩⟩
  obtain ⟨E, hE⟩ : ∃ E, appE M k s = E := ⟨_, rfl⟩
  obtain ⟨M', hM'⟩ : ∃ M', appM M k s = M' := ⟨_, rfl⟩
  rw [hE, hM']
  unfold appM at hM'
  rw [hE] at hM'
  unfold appE at hE
  replace hB := Lib.hid hB
  replace hb1 := Lib.hid hb1
  replace hb2 := Lib.hid hb2
  clear h hW hz
  replace hk := Lib.hid hk
  replace hs := Lib.hid hs
  replace hl := Lib.hid hl
  rcases burn_cases M with ⟨hf, hE0⟩ | ⟨hf, hE0⟩
  · rw [if_pos hf] at hE
    subst hE
    rw [if_neg (by decide)] at hM'
    subst hM'
    rw [hE0] at hC
    clear hf hE0 hb1 hb2
    go_enter Tryd.func11, Tryd.ntmps11
    go_wp2_with fail
    refine hC.out.mono ?_
    rintro e w3 ⟨rfl, hD3, hs3⟩
    replace hD3 := Lib.hid hD3
    replace hs3 := Lib.hid hs3
    go_wp2_with fail
    go_ret
    exact ⟨rfl, op_err hD3.out hlo.out hob.out hB.out hs3.out (Below.refl _ _)⟩
  rw [if_neg hf] at hE
  rw [hE0] at hC
  clear hf hE0
  have hN := Lib.hid (fun A : World => Name_calls A k hk.out)
  go_enter Tryd.func11, Tryd.ntmps11
  go_wp2_with fail
  refine hC.out.mono ?_
  rintro e w3 ⟨rfl, hD3, hs3⟩
  have hD3' := Lib.hid hD3
  replace hs3 := Lib.hid hs3
  have y1 := (hb1.out.keepN hs3.out hown.out.2.2.1).cell 0 rfl
  have y2 := (hb2.out.keepN hs3.out (by have := hown.out.2.2.1; omega)).cell 0 rfl
  have q2 := hD3'.out.c6.2.2.1
  have hlk := fun n => FM.look_ok ((hD3'.out.rest.now).keep (w' := w3.drewN n) rfl) hk.out
  obtain ⟨n1, n2, n3, n4⟩ := hnow.out
  rw [n1] at hlk
  clear hD3 hC hb1 hb2
  obtain ⟨hh, hhe⟩ : ∃ hh, hasF M.now k = hh := ⟨_, rfl⟩
  rw [hhe] at hlk
  replace n1 := Lib.hid n1
  replace n2 := Lib.hid n2
  replace n3 := Lib.hid n3
  replace n4 := Lib.hid n4
  clear hnow
  replace hhe := Lib.hid hhe
  go_wp2_with fail
  go_quiet (fail)
  have hb4 : Below w3.heap.size w3 (w3.drewN nq) := below_drewN (Below.refl _ _) _
  replace y1 := below_cell hb4 y1
  replace y2 := below_cell hb4 y2
  replace q2 := below_cell hb4 q2
  replace hb4 := Lib.hid hb4
  clear hlk
  generalize w3.drewN nq = w4 at *
  go_wp2_with fail
  refine (hN.out _).mono ?_
  rintro e w5 ⟨rfl, hb5⟩
  replace y1 := below_cell hb5 y1
  replace y2 := below_cell hb5 y2
  replace q2 := below_cell hb5 q2
  have hb6 := Lib.hid (Lx.bstep hb4.out (Nat.le_refl _) (by have := hb5; exact this))
  clear hb4 hb5 hN
  cases hn : nameB k with
  | false =>
    rw [if_pos hn] at hE
    subst hE
    rw [if_neg (by decide)] at hM'
    subst hM'
    clear hn
    go_wp2_with fail
    go_ret
    exact ⟨rfl, op_err hD3'.out hlo.out hob.out hB.out hs3.out hb6.out⟩
  | true =>
    rw [if_neg (by rw [hn]; decide)] at hE
    clear hn
    go_wp2_with fail
    have hD5 := hD3'.out.below hb6.out
    have hL := Lib.hid (fun x : Ext w5 => Left_calls ⟨bs, bn, lv, cv, vs, hD5.below x.below⟩)
    rw [n1.out, n2.out] at hL
    obtain ⟨lf, hlf⟩ : ∃ lf, M.room - tot M.now = lf := ⟨_, rfl⟩
    rw [hlf] at hL hE
    replace hlf := Lib.hid hlf
    have z2 := fun x : Ext w5 => below_cell x.below y2
    have hnon : Nonempty (Ext w5) := ⟨⟨w5, Below.refl _ _⟩⟩
    clear hD5
    by_cases hd : lf < s.size
    · rw [if_pos hd] at hE
      subst hE
      rw [if_neg (by decide)] at hM'
      subst hM'
      have hdb : decide (lf < s.size) = true := decide_eq_true hd
      clear hd
      refine Lx.wp_region_chain_lit (fun w' => ∃ x : Lx.Ext w5, w' = x.wo) (fun b => w5.heap.size ≤ b) [3] [] (fun _ => True) (by kernel_rfl) (by kernel_rfl) (by kernel_rfl) (by kernel_rfl) Lx.ext_drew trivial ?_
      repeat (refine Lx.wpCh_one (by rfl) (by rfl) ?_; go_big_quiet_step (fail); refine wpQuiet_nil ?_)
      refine Lx.wpCh_extp (.int .i64 lf) (by rfl) (by rfl) (fun x R hR => ?_) ?_
      · go_simp
        refine (hL.out x).mono ?_
        rintro e w'' ⟨rfl, hb⟩
        exact ⟨_, rfl, hR _ hb⟩
      go_big_quiet_step (fail)
      refine wpQuiet_nil ?_
      repeat (refine Lx.wpCh_one (by rfl) (by rfl) ?_; go_big_quiet_step (fail); refine wpQuiet_nil ?_)
      refine Lx.wpCh_nil ?_
      intro w7 hx _
      obtain ⟨x, rfl⟩ := hx
      have hb7 := x.below
      generalize x.wo = w7 at *
      have z2' : w7.cell? ⟨w.heap.size + 1, 0, none⟩ = some (.string s) := below_cell hb7 y2
      clear x z2 hL hnon y2
      replace y1 := below_cell hb7 y1
      replace q2 := below_cell hb7 q2
      have hb8 := Lib.hid (Lx.bstep hb6.out (by have := hb6.out.size; omega) hb7)
      clear hb6 hb7
      go_wp2_with fail
      go_ret
      exact ⟨rfl, op_err hD3'.out hlo.out hob.out hB.out hs3.out hb8.out⟩
    rw [if_neg hd] at hE
    have hdb : decide (lf < s.size) = false := decide_eq_false hd
    replace hd := Lib.hid hd
    refine Lx.wp_region_chain_lit (fun w' => ∃ x : Lx.Ext w5, w' = x.wo) (fun b => w5.heap.size ≤ b) [3] [] (fun _ => True) (by kernel_rfl) (by kernel_rfl) (by kernel_rfl) (by kernel_rfl) Lx.ext_drew trivial ?_
    repeat (refine Lx.wpCh_one (by rfl) (by rfl) ?_; go_big_quiet_step (fail); refine wpQuiet_nil ?_)
    refine Lx.wpCh_extp (.int .i64 lf) (by rfl) (by rfl) (fun x R hR => ?_) ?_
    · go_simp
      refine (hL.out x).mono ?_
      rintro e w'' ⟨rfl, hb⟩
      exact ⟨_, rfl, hR _ hb⟩
    go_big_quiet_step (fail)
    refine wpQuiet_nil ?_
    repeat (refine Lx.wpCh_one (by rfl) (by rfl) ?_; go_big_quiet_step (fail); refine wpQuiet_nil ?_)
    refine Lx.wpCh_nil ?_
    intro w7 hx _
    obtain ⟨x, rfl⟩ := hx
    have hb7 := x.below
    generalize x.wo = w7 at *
    have z2' : w7.cell? ⟨w.heap.size + 1, 0, none⟩ = some (.string s) := below_cell hb7 y2
    clear x z2 hL hnon y2
    replace y1 := below_cell hb7 y1
    replace q2 := below_cell hb7 q2
    have hb8 := Lib.hid (Lx.bstep hb6.out (by have := hb6.out.size; omega) hb7)
    clear hb6 hb7
    have hlen := fun ty => FM.len ((hD3'.out.rest.now).below hb8.out) ty
    rw [n1.out] at hlen
    by_cases hm : hasF M.now k = false ∧ 64 ≤ M.now.length
    · rw [if_pos hm] at hE
      subst hE
      rw [if_neg (by decide)] at hM'
      subst hM'
      obtain ⟨m1, m2⟩ := hm
      rw [hhe.out] at m1
      subst m1
      have hlb : decide ((64 : Int) ≤ (M.now.length : Int)) = true := decide_eq_true (by omega)
      clear hd m2
      go_wp2_with fail
      go_ret
      exact ⟨rfl, op_err hD3'.out hlo.out hob.out hB.out hs3.out hb8.out⟩
    rw [if_neg hm] at hE
    subst hE
    rw [if_pos rfl] at hM'
    subst hM'
    have hfit := app_fits hok.out hrise.out k s (by rw [hlf.out]; exact hd.out) hm
    have hD7 := hD3'.out.below hb8.out
    have hC := does_app hD7 k s w.heap.size (w.heap.size + 1) ⟨y1, z2', ⟨hown.out.2.2.2.1, hown.out.1⟩, ⟨hown.out.2.2.2.2, hown.out.2.1⟩⟩ (by exact hk.out) (by rw [n1.out, n2.out]; exact hfit) (by rw [n3.out]; exact hl.out)
    replace hC := Lib.hid hC
    clear hD7 hfit hd
    cases hh with
    | true =>
      clear hm hlen y1 q2
      go_wp2_with fail
      refine hC.out.mono ?_
      rintro e w9 ⟨rfl, hD9, hs9⟩
      replace hD9 := Lib.hid hD9
      replace hs9 := Lib.hid hs9
      clear hC
      go_wp2_with fail
      go_ret
      exact ⟨rfl, op_fin hlo.out hob.out hB.out hs3.out hb8.out hs9.out hD9.out⟩
    | false =>
      have hlb : decide ((64 : Int) ≤ (M.now.length : Int)) = false := decide_eq_false (fun e => hm ⟨hhe.out, by omega⟩)
      clear hm y1
      go_wp2_with fail
      refine hC.out.mono ?_
      rintro e w9 ⟨rfl, hD9, hs9⟩
      replace hD9 := Lib.hid hD9
      replace hs9 := Lib.hid hs9
      clear hC
      go_wp2_with fail
      go_ret
      exact ⟨rfl, op_fin hlo.out hob.out hB.out hs3.out hb8.out hs9.out hD9.out⟩
/-! Cut -/
def cutE (M : DM) (k : ByteArray) (n : Int) : Int := if M.fuse = 0 then 60 else if hasF M.now k = false then 5 else if n < 0 then 2 else if ((atF M.now k).size : Int) < n then 2 else 0
def cutM (M : DM) (k : ByteArray) (n : Int) : DM := if cutE M k n = 0 then doesM (burnM M) (.cut k n.toNat) else burnM M
theorem cut_fits {M : DM} (h : DOk M) (hr : Rise M.now) (k : ByteArray) (n : Nat) (h1 : n ≤ (atF M.now k).size) (h2 : hasF M.now k = true) : (tot (done M.now (.cut k n)) : Int) ≤ M.room ∧ (done M.now (.cut k n)).length ≤ 64 := by
  obtain ⟨t1, t2⟩ := tot_now h
  have e1 := tot_put hr k ((atF M.now k).extract 0 n)
  have e2 := len_put hr k ((atF M.now k).extract 0 n)
  rw [ByteArray.size_extract] at e1
  rw [if_pos h2] at e2
  refine ⟨?_, ?_⟩
  · show (tot (putF M.now k ((atF M.now k).extract 0 n)) : Int) ≤ M.room
    omega
  · show (putF M.now k ((atF M.now k).extract 0 n)).length ≤ 64
    omega
set_option maxRecDepth 100000 in
theorem Cut_nil (w : World) (k : ByteArray) (n : Int) : Calls Tryd.prog 12 #[.pointer none, .string k, .int .i64 n] w fun y w' => y = .returned (.int .i64 1) ∧ Below w.heap.size w w' := by
  have hC := Lib.hid burns_nil
  go_enter Tryd.func12, Tryd.ntmps12
  go_wp2_with fail
  refine (hC.out _).mono ?_
  rintro e w1 ⟨rfl, rfl⟩
  go_wp2_with fail
  go_ret
  exact ⟨rfl, (by repeat (first | exact Below.refl _ _ | exact Lx.Ext.below _ | refine Below.drew ?_ | refine below_drewN ?_ _ | (refine Below.alloc ?_ (by first | exact Nat.le_refl _ | (simp; done) | (simp; omega)) _) | (refine Below.setCell ?_ (by first | exact Nat.le_refl _ | (simp; done) | (simp; omega)) _)))⟩
set_option maxRecDepth 100000 in
set_option maxHeartbeats 4000000 in
theorem Cut_calls {w : World} {O : Nat → Prop} {b : Nat} {M : DM} (h : Dk w O b M) (k : ByteArray) (n : Int) (hk : k.size ≤ maxLen) (hl : M.loose.length < 1000000) :
    Calls Tryd.prog 12 #[.pointer (some ⟨b, 0, none⟩), .string k, .int .i64 n] w fun y w' => y = .returned (.int .i64 (cutE M k n)) ∧ Dk w' (Gr O w w') b (cutM M k n) ∧ Stays O w w' := by
  obtain ⟨bs, bn, lv, cv, vs, h⟩ := h
  have hm := made2 w #[.string k] #[.int .i64 n] 9 3
  obtain ⟨hb1, hb2, hB, hz⟩ := hm
  have hW := h.wide hB
  have hC := Lib.hid (burns_calls hW)
  have hob : Hid (O b) := Lib.hid (h.rest.own b (.inl rfl))
  have hlo := Lib.hid h.rest.lo
  have hnow := Lib.hid (burn_now M)
  have hok := Lib.hid h.ok
  have hrise := Lib.hid h.rest.now.rise
  have hown : Hid (¬ OwnB b bs bn lv cv w.heap.size ∧ ¬ OwnB b bs bn lv cv (w.heap.size + 1) ∧ b < w.heap.size ∧ Gr O w ((w.alloc (.cells #[.string k] 9)).alloc (.cells #[.int .i64 n] 3)) w.heap.size ∧ Gr O w ((w.alloc (.cells #[.string k] 9)).alloc (.cells #[.int .i64 n] 3)) (w.heap.size + 1)) := Lib.hid
    ⟨fun e => by have := h.rest.lo _ (h.rest.own _ e); omega, fun e => by have := h.rest.lo _ (h.rest.own _ e); omega, h.rest.lo b (h.rest.own b (.inl rfl)), .inr ⟨by omega, by omega⟩, .inr ⟨by omega, by omega⟩⟩
  obtain ⟨E, hE⟩ : ∃ E, cutE M k n = E := ⟨_, rfl⟩
  obtain ⟨M', hM'⟩ : ∃ M', cutM M k n = M' := ⟨_, rfl⟩
  rw [hE, hM']
  unfold cutM at hM'
  rw [hE] at hM'
  unfold cutE at hE
  replace hB := Lib.hid hB
  replace hb1 := Lib.hid hb1
  replace hb2 := Lib.hid hb2
  clear h hW hz
  replace hk := Lib.hid hk
  replace hl := Lib.hid hl
  rcases burn_cases M with ⟨hf, hE0⟩ | ⟨hf, hE0⟩
  · rw [if_pos hf] at hE
    subst hE
    rw [if_neg (by decide)] at hM'
    subst hM'
    rw [hE0] at hC
    clear hf hE0 hb1 hb2
    go_enter Tryd.func12, Tryd.ntmps12
    go_wp2_with fail
    refine hC.out.mono ?_
    rintro e w3 ⟨rfl, hD3, hs3⟩
    replace hD3 := Lib.hid hD3
    replace hs3 := Lib.hid hs3
    go_wp2_with fail
    go_ret
    exact ⟨rfl, op_err hD3.out hlo.out hob.out hB.out hs3.out (Below.refl _ _)⟩
  rw [if_neg hf] at hE
  rw [hE0] at hC
  clear hf hE0
  go_enter Tryd.func12, Tryd.ntmps12
  go_wp2_with fail
  refine hC.out.mono ?_
  rintro e w3 ⟨rfl, hD3, hs3⟩
  have hD3' := Lib.hid hD3
  replace hs3 := Lib.hid hs3
  have y1 := (hb1.out.keepN hs3.out hown.out.2.2.1).cell 0 rfl
  have y2 := (hb2.out.keepN hs3.out (by have := hown.out.2.2.1; omega)).cell 0 rfl
  have q2 := hD3'.out.c6.2.2.1
  have hlk := fun n => FM.look_ok ((hD3'.out.rest.now).keep (w' := w3.drewN n) rfl) hk.out
  obtain ⟨n1, n2, n3, n4⟩ := hnow.out
  rw [n1] at hlk
  clear hD3 hC hb1 hb2
  obtain ⟨hh, hhe⟩ : ∃ hh, hasF M.now k = hh := ⟨_, rfl⟩
  obtain ⟨sz, hsz⟩ : ∃ sz, atF M.now k = sz := ⟨_, rfl⟩
  rw [hhe, hsz] at hlk
  replace n1 := Lib.hid n1
  replace n2 := Lib.hid n2
  replace n3 := Lib.hid n3
  replace n4 := Lib.hid n4
  clear hnow
  replace hhe := Lib.hid hhe
  replace hsz := Lib.hid hsz
  go_wp2_with fail
  go_quiet (fail)
  have hb4 : Below w3.heap.size w3 (w3.drewN nq) := below_drewN (Below.refl _ _) _
  replace y1 := below_cell hb4 y1
  replace y2 := below_cell hb4 y2
  replace q2 := below_cell hb4 q2
  replace hb4 := Lib.hid hb4
  clear hlk
  generalize w3.drewN nq = w4 at *
  cases hh with
  | false =>
    rw [if_pos hhe.out] at hE
    subst hE
    rw [if_neg (by decide)] at hM'
    subst hM'
    go_wp2_with fail
    go_ret
    exact ⟨rfl, op_err hD3'.out hlo.out hob.out hB.out hs3.out hb4.out⟩
  | true =>
  rw [if_neg (by rw [hhe.out]; decide)] at hE
  rw [hsz.out] at hE
  by_cases h1 : n < 0
  · rw [if_pos h1] at hE
    subst hE
    rw [if_neg (by decide)] at hM'
    subst hM'
    have h1b : decide (n < 0) = true := decide_eq_true h1
    clear h1
    go_wp2_with fail
    go_ret
    exact ⟨rfl, op_err hD3'.out hlo.out hob.out hB.out hs3.out hb4.out⟩
  rw [if_neg h1] at hE
  have h1b : decide (n < 0) = false := decide_eq_false h1
  by_cases h2 : (sz.size : Int) < n
  · rw [if_pos h2] at hE
    subst hE
    rw [if_neg (by decide)] at hM'
    subst hM'
    have h2b : decide ((sz.size : Int) < n) = true := decide_eq_true h2
    clear h1 h2
    go_wp2_with fail
    go_ret
    exact ⟨rfl, op_err hD3'.out hlo.out hob.out hB.out hs3.out hb4.out⟩
  rw [if_neg h2] at hE
  have h2b : decide ((sz.size : Int) < n) = false := decide_eq_false h2
  subst hE
  rw [if_pos rfl] at hM'
  obtain ⟨j, rfl⟩ : ∃ j : Nat, n = (j : Int) := ⟨n.toNat, by omega⟩
  rw [show (j : Int).toNat = j by omega] at hM'
  subst hM'
  have hj : j ≤ (atF M.now k).size := by rw [hsz.out]; omega
  have hfit := cut_fits hok.out hrise.out k j hj hhe.out
  have hD7 := hD3'.out.below hb4.out
  have hC := does_cut hD7 k j w.heap.size (w.heap.size + 1) ⟨y1, y2, ⟨hown.out.2.2.2.1, hown.out.1⟩, ⟨hown.out.2.2.2.2, hown.out.2.1⟩⟩ (by rw [n1.out]; exact ⟨hk.out, hj, hhe.out⟩) (by rw [n1.out, n2.out]; exact hfit) (by rw [n3.out]; exact hl.out)
  have h3b : decide (sz.size < j) = false := decide_eq_false (by omega)
  clear h1 h2 hj h2b
  replace hC := Lib.hid hC
  clear hD7 hfit
  go_wp2_with fail
  refine hC.out.mono ?_
  rintro e w9 ⟨rfl, hD9, hs9⟩
  replace hD9 := Lib.hid hD9
  replace hs9 := Lib.hid hs9
  clear hC
  go_wp2_with fail
  go_ret
  exact ⟨rfl, op_fin hlo.out hob.out hB.out hs3.out hb4.out hs9.out hD9.out⟩
/-! Rename -/
def renE (M : DM) (k t : ByteArray) : Int := if M.fuse = 0 then 60 else if hasF M.now k = false then 5 else if nameB t = false then 2 else 0
def renM (M : DM) (k t : ByteArray) : DM := if renE M k t = 0 then doesM (burnM M) (.ren k t) else burnM M
theorem ren_fits {M : DM} (h : DOk M) (hr : Rise M.now) (k t : ByteArray) (h2 : hasF M.now k = true) : (tot (done M.now (.ren k t)) : Int) ≤ M.room ∧ (done M.now (.ren k t)).length ≤ 64 := by
  obtain ⟨t1, t2⟩ := tot_now h
  have e1 := tot_put (rise_del hr k) t (atF M.now k)
  have e2 := len_put (rise_del hr k) t (atF M.now k)
  have e3 := tot_del hr k
  have e4 := len_del hr k
  rw [if_pos h2] at e4
  refine ⟨?_, ?_⟩
  · show (tot (putF (delF M.now k) t (atF M.now k)) : Int) ≤ M.room
    omega
  · show (putF (delF M.now k) t (atF M.now k)).length ≤ 64
    omega
set_option maxRecDepth 100000 in
theorem Rename_nil (w : World) (k t : ByteArray) : Calls Tryd.prog 13 #[.pointer none, .string k, .string t] w fun y w' => y = .returned (.int .i64 1) ∧ Below w.heap.size w w' := by
  have hC := Lib.hid burns_nil
  go_enter Tryd.func13, Tryd.ntmps13
  go_wp2_with fail
  refine (hC.out _).mono ?_
  rintro e w1 ⟨rfl, rfl⟩
  go_wp2_with fail
  go_ret
  exact ⟨rfl, (by repeat (first | exact Below.refl _ _ | exact Lx.Ext.below _ | refine Below.drew ?_ | refine below_drewN ?_ _ | (refine Below.alloc ?_ (by first | exact Nat.le_refl _ | (simp; done) | (simp; omega)) _) | (refine Below.setCell ?_ (by first | exact Nat.le_refl _ | (simp; done) | (simp; omega)) _)))⟩
set_option maxRecDepth 100000 in
set_option maxHeartbeats 4000000 in
theorem Rename_calls {w : World} {O : Nat → Prop} {b : Nat} {M : DM} (h : Dk w O b M) (k t : ByteArray) (hk : k.size ≤ maxLen) (ht : t.size ≤ maxLen) (hl : M.loose.length < 1000000) :
    Calls Tryd.prog 13 #[.pointer (some ⟨b, 0, none⟩), .string k, .string t] w fun y w' => y = .returned (.int .i64 (renE M k t)) ∧ Dk w' (Gr O w w') b (renM M k t) ∧ Stays O w w' := by
  obtain ⟨bs, bn, lv, cv, vs, h⟩ := h
  have hm := made2 w #[.string k] #[.string t] 9 9
  obtain ⟨hb1, hb2, hB, hz⟩ := hm
  have hW := h.wide hB
  have hC := Lib.hid (burns_calls hW)
  have hob : Hid (O b) := Lib.hid (h.rest.own b (.inl rfl))
  have hlo := Lib.hid h.rest.lo
  have hnow := Lib.hid (burn_now M)
  have hok := Lib.hid h.ok
  have hrise := Lib.hid h.rest.now.rise
  have hown : Hid (¬ OwnB b bs bn lv cv w.heap.size ∧ ¬ OwnB b bs bn lv cv (w.heap.size + 1) ∧ b < w.heap.size ∧ Gr O w ((w.alloc (.cells #[.string k] 9)).alloc (.cells #[.string t] 9)) w.heap.size ∧ Gr O w ((w.alloc (.cells #[.string k] 9)).alloc (.cells #[.string t] 9)) (w.heap.size + 1)) := Lib.hid
    ⟨fun e => by have := h.rest.lo _ (h.rest.own _ e); omega, fun e => by have := h.rest.lo _ (h.rest.own _ e); omega, h.rest.lo b (h.rest.own b (.inl rfl)), .inr ⟨by omega, by omega⟩, .inr ⟨by omega, by omega⟩⟩
  obtain ⟨E, hE⟩ : ∃ E, renE M k t = E := ⟨_, rfl⟩
  obtain ⟨M', hM'⟩ : ∃ M', renM M k t = M' := ⟨_, rfl⟩
  rw [hE, hM']
  unfold renM at hM'
  rw [hE] at hM'
  unfold renE at hE
  replace hB := Lib.hid hB
  replace hb1 := Lib.hid hb1
  replace hb2 := Lib.hid hb2
  clear h hW hz
  replace hk := Lib.hid hk
  replace hl := Lib.hid hl
  rcases burn_cases M with ⟨hf, hE0⟩ | ⟨hf, hE0⟩
  · rw [if_pos hf] at hE
    subst hE
    rw [if_neg (by decide)] at hM'
    subst hM'
    rw [hE0] at hC
    clear hf hE0 hb1 hb2
    go_enter Tryd.func13, Tryd.ntmps13
    go_wp2_with fail
    refine hC.out.mono ?_
    rintro e w3 ⟨rfl, hD3, hs3⟩
    replace hD3 := Lib.hid hD3
    replace hs3 := Lib.hid hs3
    go_wp2_with fail
    go_ret
    exact ⟨rfl, op_err hD3.out hlo.out hob.out hB.out hs3.out (Below.refl _ _)⟩
  rw [if_neg hf] at hE
  rw [hE0] at hC
  clear hf hE0
  have hN := Lib.hid (fun A : World => Name_calls A t ht)
  replace ht := Lib.hid ht
  go_enter Tryd.func13, Tryd.ntmps13
  go_wp2_with fail
  refine hC.out.mono ?_
  rintro e w3 ⟨rfl, hD3, hs3⟩
  have hD3' := Lib.hid hD3
  replace hs3 := Lib.hid hs3
  have y1 := (hb1.out.keepN hs3.out hown.out.2.2.1).cell 0 rfl
  have y2 := (hb2.out.keepN hs3.out (by have := hown.out.2.2.1; omega)).cell 0 rfl
  have q2 := hD3'.out.c6.2.2.1
  have hlk := fun n => FM.look_ok ((hD3'.out.rest.now).keep (w' := w3.drewN n) rfl) hk.out
  obtain ⟨n1, n2, n3, n4⟩ := hnow.out
  rw [n1] at hlk
  clear hD3 hC hb1 hb2
  obtain ⟨hh, hhe⟩ : ∃ hh, hasF M.now k = hh := ⟨_, rfl⟩
  obtain ⟨sz, hsz⟩ : ∃ sz, atF M.now k = sz := ⟨_, rfl⟩
  rw [hhe, hsz] at hlk
  replace n1 := Lib.hid n1
  replace n2 := Lib.hid n2
  replace n3 := Lib.hid n3
  replace n4 := Lib.hid n4
  clear hnow
  replace hhe := Lib.hid hhe
  replace hsz := Lib.hid hsz
  go_wp2_with fail
  go_quiet (fail)
  have hb4 : Below w3.heap.size w3 (w3.drewN nq) := below_drewN (Below.refl _ _) _
  replace y1 := below_cell hb4 y1
  replace y2 := below_cell hb4 y2
  replace q2 := below_cell hb4 q2
  replace hb4 := Lib.hid hb4
  clear hlk
  generalize w3.drewN nq = w4 at *
  cases hh with
  | false =>
    rw [if_pos hhe.out] at hE
    subst hE
    rw [if_neg (by decide)] at hM'
    subst hM'
    go_wp2_with fail
    go_ret
    exact ⟨rfl, op_err hD3'.out hlo.out hob.out hB.out hs3.out hb4.out⟩
  | true =>
  rw [if_neg (by rw [hhe.out]; decide)] at hE
  go_wp2_with fail
  refine (hN.out _).mono ?_
  rintro e w5 ⟨rfl, hb5⟩
  replace y1 := below_cell hb5 y1
  replace y2 := below_cell hb5 y2
  replace q2 := below_cell hb5 q2
  have hb6 := Lib.hid (Lx.bstep hb4.out (by have := hb4.out.size; omega) hb5)
  clear hb4 hb5 hN
  cases hn : nameB t with
  | false =>
    rw [if_pos hn] at hE
    subst hE
    rw [if_neg (by decide)] at hM'
    subst hM'
    clear hn
    go_wp2_with fail
    go_ret
    exact ⟨rfl, op_err hD3'.out hlo.out hob.out hB.out hs3.out hb6.out⟩
  | true =>
  rw [if_neg (by rw [hn]; decide)] at hE
  clear hn
  subst hE
  rw [if_pos rfl] at hM'
  subst hM'
  have hfit := ren_fits hok.out hrise.out k t hhe.out
  have hD7 := hD3'.out.below hb6.out
  have hC := does_ren hD7 k t w.heap.size (w.heap.size + 1) ⟨y1, y2, ⟨hown.out.2.2.2.1, hown.out.1⟩, ⟨hown.out.2.2.2.2, hown.out.2.1⟩⟩ (by rw [n1.out]; exact ⟨hk.out, ht.out, hhe.out⟩) (by rw [n1.out, n2.out]; exact hfit) (by rw [n3.out]; exact hl.out)
  replace hC := Lib.hid hC
  clear hD7 hfit
  go_wp2_with fail
  refine hC.out.mono ?_
  rintro e w9 ⟨rfl, hD9, hs9⟩
  replace hD9 := Lib.hid hD9
  replace hs9 := Lib.hid hs9
  clear hC
  go_wp2_with fail
  go_ret
  exact ⟨rfl, op_fin hlo.out hob.out hB.out hs3.out hb6.out hs9.out hD9.out⟩
/-! Remove -/
def remE (M : DM) (k : ByteArray) : Int := if M.fuse = 0 then 60 else if hasF M.now k = false then 5 else 0
def remM (M : DM) (k : ByteArray) : DM := if remE M k = 0 then doesM (burnM M) (.rem k) else burnM M
theorem rem_fits {M : DM} (h : DOk M) (hr : Rise M.now) (k : ByteArray) : (tot (done M.now (.rem k)) : Int) ≤ M.room ∧ (done M.now (.rem k)).length ≤ 64 := by
  obtain ⟨t1, t2⟩ := tot_now h
  have e3 := tot_del hr k
  have e4 := len_del hr k
  refine ⟨?_, ?_⟩
  · show (tot (delF M.now k) : Int) ≤ M.room
    omega
  · show (delF M.now k).length ≤ 64
    omega
set_option maxRecDepth 100000 in
theorem Remove_nil (w : World) (k : ByteArray) : Calls Tryd.prog 14 #[.pointer none, .string k] w fun y w' => y = .returned (.int .i64 1) ∧ Below w.heap.size w w' := by
  have hC := Lib.hid burns_nil
  go_enter Tryd.func14, Tryd.ntmps14
  go_wp2_with fail
  refine (hC.out _).mono ?_
  rintro e w1 ⟨rfl, rfl⟩
  go_wp2_with fail
  go_ret
  exact ⟨rfl, (by repeat (first | exact Below.refl _ _ | exact Lx.Ext.below _ | refine Below.drew ?_ | refine below_drewN ?_ _ | (refine Below.alloc ?_ (by first | exact Nat.le_refl _ | (simp; done) | (simp; omega)) _) | (refine Below.setCell ?_ (by first | exact Nat.le_refl _ | (simp; done) | (simp; omega)) _)))⟩
set_option maxRecDepth 100000 in
set_option maxHeartbeats 4000000 in
theorem Remove_calls {w : World} {O : Nat → Prop} {b : Nat} {M : DM} (h : Dk w O b M) (k : ByteArray) (hk : k.size ≤ maxLen) (hl : M.loose.length < 1000000) :
    Calls Tryd.prog 14 #[.pointer (some ⟨b, 0, none⟩), .string k] w fun y w' => y = .returned (.int .i64 (remE M k)) ∧ Dk w' (Gr O w w') b (remM M k) ∧ Stays O w w' := by
  obtain ⟨bs, bn, lv, cv, vs, h⟩ := h
  have hm := made1 w #[.string k] 9
  obtain ⟨hb1, hB, hz⟩ := hm
  have hW := h.wide hB
  have hC := Lib.hid (burns_calls hW)
  have hob : Hid (O b) := Lib.hid (h.rest.own b (.inl rfl))
  have hlo := Lib.hid h.rest.lo
  have hnow := Lib.hid (burn_now M)
  have hok := Lib.hid h.ok
  have hrise := Lib.hid h.rest.now.rise
  have hown : Hid (¬ OwnB b bs bn lv cv w.heap.size ∧ b < w.heap.size ∧ Gr O w (w.alloc (.cells #[.string k] 9)) w.heap.size) := Lib.hid
    ⟨fun e => by have := h.rest.lo _ (h.rest.own _ e); omega, h.rest.lo b (h.rest.own b (.inl rfl)), .inr ⟨by omega, by omega⟩⟩
  obtain ⟨E, hE⟩ : ∃ E, remE M k = E := ⟨_, rfl⟩
  obtain ⟨M', hM'⟩ : ∃ M', remM M k = M' := ⟨_, rfl⟩
  rw [hE, hM']
  unfold remM at hM'
  rw [hE] at hM'
  unfold remE at hE
  replace hB := Lib.hid hB
  replace hb1 := Lib.hid hb1
  clear h hW hz
  replace hk := Lib.hid hk
  replace hl := Lib.hid hl
  rcases burn_cases M with ⟨hf, hE0⟩ | ⟨hf, hE0⟩
  · rw [if_pos hf] at hE
    subst hE
    rw [if_neg (by decide)] at hM'
    subst hM'
    rw [hE0] at hC
    clear hf hE0 hb1
    go_enter Tryd.func14, Tryd.ntmps14
    go_wp2_with fail
    refine hC.out.mono ?_
    rintro e w3 ⟨rfl, hD3, hs3⟩
    replace hD3 := Lib.hid hD3
    replace hs3 := Lib.hid hs3
    go_wp2_with fail
    go_ret
    exact ⟨rfl, op_err hD3.out hlo.out hob.out hB.out hs3.out (Below.refl _ _)⟩
  rw [if_neg hf] at hE
  rw [hE0] at hC
  clear hf hE0
  go_enter Tryd.func14, Tryd.ntmps14
  go_wp2_with fail
  refine hC.out.mono ?_
  rintro e w3 ⟨rfl, hD3, hs3⟩
  have hD3' := Lib.hid hD3
  replace hs3 := Lib.hid hs3
  have y1 := (hb1.out.keepN hs3.out hown.out.2.1).cell 0 rfl
  have q2 := hD3'.out.c6.2.2.1
  have hlk := fun n => FM.look_ok ((hD3'.out.rest.now).keep (w' := w3.drewN n) rfl) hk.out
  obtain ⟨n1, n2, n3, n4⟩ := hnow.out
  rw [n1] at hlk
  clear hD3 hC hb1
  obtain ⟨hh, hhe⟩ : ∃ hh, hasF M.now k = hh := ⟨_, rfl⟩
  obtain ⟨sz, hsz⟩ : ∃ sz, atF M.now k = sz := ⟨_, rfl⟩
  rw [hhe, hsz] at hlk
  replace n1 := Lib.hid n1
  replace n2 := Lib.hid n2
  replace n3 := Lib.hid n3
  replace n4 := Lib.hid n4
  clear hnow
  replace hhe := Lib.hid hhe
  replace hsz := Lib.hid hsz
  go_wp2_with fail
  go_quiet (fail)
  have hb4 : Below w3.heap.size w3 (w3.drewN nq) := below_drewN (Below.refl _ _) _
  replace y1 := below_cell hb4 y1
  replace q2 := below_cell hb4 q2
  replace hb4 := Lib.hid hb4
  clear hlk
  generalize w3.drewN nq = w4 at *
  cases hh with
  | false =>
    rw [if_pos hhe.out] at hE
    subst hE
    rw [if_neg (by decide)] at hM'
    subst hM'
    go_wp2_with fail
    go_ret
    exact ⟨rfl, op_err hD3'.out hlo.out hob.out hB.out hs3.out hb4.out⟩
  | true =>
  rw [if_neg (by rw [hhe.out]; decide)] at hE
  subst hE
  rw [if_pos rfl] at hM'
  subst hM'
  have hfit := rem_fits hok.out hrise.out k
  have hD7 := hD3'.out.below hb4.out
  have hC := does_rem hD7 k w.heap.size ⟨y1, ⟨hown.out.2.2, hown.out.1⟩⟩ (by exact hk.out) (by rw [n1.out, n2.out]; exact hfit) (by rw [n3.out]; exact hl.out)
  replace hC := Lib.hid hC
  clear hD7 hfit
  go_wp2_with fail
  refine hC.out.mono ?_
  rintro e w9 ⟨rfl, hD9, hs9⟩
  replace hD9 := Lib.hid hD9
  replace hs9 := Lib.hid hs9
  clear hC
  go_wp2_with fail
  go_ret
  exact ⟨rfl, op_fin hlo.out hob.out hB.out hs3.out hb4.out hs9.out hD9.out⟩
end Go.Proofs.YtenjllkhbpoffaaDoor
