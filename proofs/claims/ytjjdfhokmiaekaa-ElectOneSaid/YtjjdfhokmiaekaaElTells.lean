/-
  The walk of ElectTells.
-/
import Derived.Test.YtjjdfhokmiaekaaElRef2
import Derived.Test.YtjjdfhokmiaekaaBlk
import Derived.Test.YtjjdfhokmiaekaaChain
namespace Go.Proofs.Ytjjdfhokmiaekaa
open Go.RowKit Go.Lst Go.Lx

theorem strEntry : Str Try.prog 55 5 := ⟨⟨_, Try.underlying55, rfl⟩, by kernel_rfl⟩
theorem strVote : Str Try.prog 53 2 := ⟨⟨_, Try.underlying53, rfl⟩, by kernel_rfl⟩
set_option maxRecDepth 100000 in
theorem end_calls (i t : Int) (r : Value × Value × Value) (w : World) :
    Calls Try.prog 24 #[ev i t r] w fun e w' => e = .returned (ev i t (.int .u8 0, .string ByteArray.empty, .slice none 0 0)) ∧ Below w.heap.size w w' := by
  unfold ev
  go_enter Try.func24, Try.ntmps24
  go_wp2_with fail
  exact bodyPost_ret (results_blk1 rfl rfl strEntry (Blk.new' _ _ (by simp) _ _)) rfl ⟨rfl, (by repeat (first | exact Below.refl _ _ | exact Lx.Ext.below _ | refine Below.drew ?_ | refine below_drewN ?_ _ | (refine Below.alloc ?_ (by first | exact Nat.le_refl _ | (simp; done) | (simp; omega)) _) | (refine Below.setCell ?_ (by first | exact Nat.le_refl _ | (simp; done) | (simp; omega)) _)))⟩
theorem end_calls' (i t : Int) (x y z : Value) (w : World) :
    Calls Try.prog 24 #[.agg #[.int .u64 i, .int .u64 t, x, y, z]] w fun e w' => e = .returned (.agg #[.int .u64 i, .int .u64 t, .int .u8 0, .string ByteArray.empty, .slice none 0 0]) ∧ Below w.heap.size w w' := end_calls i t (x, y, z) w
/-- What Grant and its reference answer; what Stand does; what Wait does. -/
structure Tells (v : Int × Int) (term who i t i' t' base draw : Int) (g1 g2 : Int) (y : Bool) (e s1 s2 f n g : Int) : Prop where
  grant : ∀ w, Calls Try.prog 23 #[.agg #[.int .u64 v.1, .int .i64 v.2], .int .u64 term, .int .i64 who, .agg #[.int .u64 i, .int .u64 t, .int .u8 0, .string ByteArray.empty, .slice none 0 0], .agg #[.int .u64 i', .int .u64 t', .int .u8 0, .string ByteArray.empty, .slice none 0 0]] w
    fun x w' => x = .returned (.tuple #[.agg #[.int .u64 g1, .int .i64 g2], .bool y, .int .i64 e]) ∧ Below w.heap.size w w'
  stand : ∀ w, Calls Try.prog 25 #[.agg #[.int .u64 v.1, .int .i64 v.2], .int .i64 who] w fun x w' => x = .returned (.tuple #[.agg #[.int .u64 s1, .int .i64 s2], .int .i64 f]) ∧ Below w.heap.size w w'
  mg : mayGrant v term who = true → e = 0
  mb : mayGrant v term who = false → g1 = 0 ∧ g2 = 0 ∧ y = false ∧ e = 2
  sb : (mayVote v.1 v.2 = false ∨ who < 1 ∨ 64 < who) → s1 = 0 ∧ s2 = 0 ∧ f = 2
  so : ¬(mayVote v.1 v.2 = false ∨ who < 1 ∨ 64 < who) → v.1 = 281474976710656 → s1 = 0 ∧ s2 = 0 ∧ f = 9
  sk : ¬(mayVote v.1 v.2 = false ∨ who < 1 ∨ 64 < who) → v.1 < 281474976710656 → s1 = v.1 + 1 ∧ s2 = who ∧ f = 0
  wb : (base < 1 ∨ 1048576 < base) → n = 0 ∧ g = 2
  wk : ¬(base < 1 ∨ 1048576 < base) → n = base + draw % base ∧ g = 0
  rgrant : mayGrant v term who = true → ∀ (x y' z x' y'' z' : Value) w, Calls Try.prog 30 #[.agg #[.int .u64 v.1, .int .i64 v.2], .int .u64 term, .int .i64 who, .agg #[.int .u64 i, .int .u64 t, x, y', z], .agg #[.int .u64 i', .int .u64 t', x', y'', z']] w
    fun x w' => x = .returned (.tuple #[.agg #[.int .u64 g1, .int .i64 g2], .bool y]) ∧ Below w.heap.size w w'
  wait : ∀ w, Calls Try.prog 26 #[.int .i64 base, .int .u32 draw] w fun x w' => x = .returned (.tuple #[.int .i64 n, .int .i64 g]) ∧ w = w'

set_option maxRecDepth 100000 in
set_option maxHeartbeats 4000000 in
/-- The law up to its third question, whatever comes behind. -/
theorem tells_ahead (T F : Int) (term who : Int) (i t i' t' : Int) (k k' : Int) (tx tx' : ByteArray) (p p' : Option Addr) (n c n' c' : Nat) (base draw : Int) (w : World) (hT : 0 ≤ T) (hd : 0 ≤ draw ∧ draw < 4294967296)
    (g1 g2 : Int) (y : Bool) (e s1 s2 f m g : Int) (H : Tells (T, F) term who i t i' t' base draw g1 g2 y e s1 s2 f m g) (hm : ∀ w, Calls Try.prog 29 #[.agg #[.int .u64 T, .int .i64 F], .int .u64 term, .int .i64 who] w fun e w' => e = .returned (.bool (mayGrant (T, F) term who)) ∧ Below w.heap.size w w') :
    Calls Try.prog 4 #[.agg #[.int .u64 T, .int .i64 F], .int .u64 term, .int .i64 who, .agg #[.int .u64 i, .int .u64 t, .int .u8 k, .string tx, .slice p n c], .agg #[.int .u64 i', .int .u64 t', .int .u8 k', .string tx', .slice p' n' c'], .int .i64 base, .int .u32 draw] w
      fun e w' => e = .returned (.bool true) ∧ Below w.heap.size w w' := by
  have SB := H.sb; have SO := H.so; have SK := H.sk; have WB := H.wb; have WK := H.wk
  dsimp only at SB SO SK
  have HH := Lib.hid H
  clear H
  replace SB := Lib.hid SB
  replace SO := Lib.hid SO
  replace SK := Lib.hid SK
  replace WB := Lib.hid WB
  replace WK := Lib.hid WK
  have N1 := Lib.hid (fun W => Newer_calls t i t' i' W)
  have N2 := Lib.hid (fun W => rNewer_calls t i t' i' W)
  replace hm := Lib.hid hm
  have hv := Lib.hid (fun W => rMay_calls T F W hT)
  have hml : mayVote T F = true → T ≤ 281474976710656 := fun h => by unfold mayVote at h; rw [decide_eq_true_eq] at h; exact h.1
  replace hml := Lib.hid hml
  generalize newer t i t' i' = nw at *
  go_enter Try.func4, Try.ntmps4
  go_wp2_with fail
  · refine (works25_calls _).mono ?_
    rintro e w1 ⟨rfl, hb1⟩
    replace hb1 : Below w.heap.size w w1 := Lx.bstep (by repeat (first | exact Below.refl _ _ | exact Lx.Ext.below _ | refine Below.drew ?_ | refine below_drewN ?_ _ | (refine Below.alloc ?_ (by first | exact Nat.le_refl _ | (simp; done) | (simp; omega)) _) | (refine Below.setCell ?_ (by first | exact Nat.le_refl _ | (simp; done) | (simp; omega)) _))) (by first | (simp; done) | (simp; omega)) hb1
    go_wp2_with fail
    go_ret
    exact ⟨rfl, hb1⟩
  have hm3 := made3 w #[.int .u64 T, .int .i64 F] #[.int .u64 i, .int .u64 t, .int .u8 k, .string tx, .slice p n c] #[.int .u64 i', .int .u64 t', .int .u8 k', .string tx', .slice p' n' c'] 53 55 55
  dsimp only at hm3
  generalize (((w.alloc (.cells #[.int .u64 T, .int .i64 F] 53)).alloc (.cells #[.int .u64 i, .int .u64 t, .int .u8 k, .string tx, .slice p n c] 55)).alloc (.cells #[.int .u64 i', .int .u64 t', .int .u8 k', .string tx', .slice p' n' c'] 55)) = W at *
  obtain ⟨hA, hB, hD, hW, hz⟩ := hm3
  have a01 := fun x : Ext W => (hA.below x.below).c2
  have b01 := fun x : Ext W => (hB.below x.below).c5
  have d01 := fun x : Ext W => (hD.below x.below).c5
  have a0 := fun x : Ext W => (a01 x).1; have a1 := fun x : Ext W => (a01 x).2.1
  have b0 := fun x : Ext W => (b01 x).1; have b1 := fun x : Ext W => (b01 x).2.1; have b2 := fun x : Ext W => (b01 x).2.2.1; have b3 := fun x : Ext W => (b01 x).2.2.2.1; have b4 := fun x : Ext W => (b01 x).2.2.2.2.1
  have d0 := fun x : Ext W => (d01 x).1; have d1 := fun x : Ext W => (d01 x).2.1; have d2 := fun x : Ext W => (d01 x).2.2.1; have d3 := fun x : Ext W => (d01 x).2.2.2.1; have d4 := fun x : Ext W => (d01 x).2.2.2.2.1
  clear a01 b01 d01
  replace hA := Lib.hid hA
  replace hB := Lib.hid hB
  replace hD := Lib.hid hD
  replace hW := Lib.hid hW
  replace hz := Lib.hid hz
  refine Lx.wp_region_chain_lit (fun w' => ∃ x : Lx.Ext W, w' = x.wo) (fun b => W.heap.size ≤ b) [4, 6, 7, 13] [12] (fun _ => True) (by kernel_rfl) (by kernel_rfl) (by kernel_rfl) (by kernel_rfl) Lx.ext_drew trivial ?_
  repeat (refine Lx.wpCh_one (by rfl) (by rfl) ?_; go_big_quiet_step (fail); refine wpQuiet_nil ?_)
  refine Lx.wpCh_extp (.agg #[.int .u64 i, .int .u64 t, .int .u8 0, .string ByteArray.empty, .slice none 0 0]) (by rfl) (by rfl) (fun x R hR => ?_) ?_
  · go_simp
    refine (end_calls' _ _ _ _ _ _).mono ?_
    rintro e w'' ⟨rfl, hb⟩
    exact ⟨_, rfl, hR _ hb⟩
  go_big_quiet_step (fail)
  refine wpQuiet_nil ?_
  repeat (refine Lx.wpCh_one (by rfl) (by rfl) ?_; go_big_quiet_step (fail); refine wpQuiet_nil ?_)
  refine Lx.wpCh_extp (.agg #[.int .u64 i', .int .u64 t', .int .u8 0, .string ByteArray.empty, .slice none 0 0]) (by rfl) (by rfl) (fun x R hR => ?_) ?_
  · go_simp
    refine (end_calls' _ _ _ _ _ _).mono ?_
    rintro e w'' ⟨rfl, hb⟩
    exact ⟨_, rfl, hR _ hb⟩
  go_big_quiet_step (fail)
  refine wpQuiet_nil ?_
  repeat (refine Lx.wpCh_one (by rfl) (by rfl) ?_; go_big_quiet_step (fail); refine wpQuiet_nil ?_)
  refine Lx.wpCh_extp (.tuple #[.agg #[.int .u64 g1, .int .i64 g2], .bool y, .int .i64 e]) (by rfl) (by rfl) (fun x R hR => ?_) ?_
  · go_simp
    refine (HH.out.grant _).mono ?_
    rintro e w'' ⟨rfl, hb⟩
    exact ⟨_, rfl, hR _ hb⟩
  go_big_quiet_step (fail)
  refine wpQuiet_nil ?_
  repeat (refine Lx.wpCh_one (by rfl) (by rfl) ?_; go_big_quiet_step (fail); refine wpQuiet_nil ?_)
  clear a0 a1 b0 b1 b2 b3 b4 d0 d1 d2 d3 d4
  refine Lx.wpCh_freshp (.cells #[.int .u64 0, .int .i64 0] 53) (by rfl) (by rfl) (fun _ _ _ => trivial) Lx.ext_ne Lx.ext_grows (fun w ⟨x, hx⟩ => by subst hx; exact x.below.size) (fun w => by go_simp) (fun b hb => ?_)
  go_big_quiet_step (fail)
  refine wpQuiet_nil ?_
  refine Lx.wpCh_valp undef (fun w => Blk w b [.int .u64 g1, .int .i64 g2]) (by rfl) (by rfl) (fun _ => grows_and grows_true grows_block) Lx.ext_ne (fun w hx hS R hR => ?_) ?_
  · obtain ⟨x, rfl⟩ := hx
    have hb0 : Blk x.wo b [.int .u64 0, .int .i64 0] := ⟨_, hS.2⟩
    clear hS
    have ⟨q0, q1, q2, q3⟩ := hb0.c2
    replace hb0 := Lib.hid hb0
    go_simp
    exact hR _ ⟨⟨_, (x.below.setCell hb _).setCell hb _⟩, rfl⟩ ((hb0.out.put 0 _).put 1 _) (fun h => by cases h)
  go_big_quiet_step (fail)
  refine wpQuiet_nil ?_
  repeat (refine Lx.wpCh_one (by rfl) (by rfl) ?_; go_big_quiet_step (fail); refine wpQuiet_nil ?_)
  refine Lx.wpCh_nil ?_
  intro w1 hx hE
  obtain ⟨x, rfl⟩ := hx
  have hb1 := x.below
  generalize x.wo = w1 at *
  clear x
  replace hE := Lib.hid hE
  replace hb := Lib.hid hb
  replace hb1 : Below W.heap.size W w1 := Lx.bstep (by repeat (first | exact Below.refl _ _ | exact Lx.Ext.below _ | refine Below.drew ?_ | refine below_drewN ?_ _ | (refine Below.alloc ?_ (by first | exact Nat.le_refl _ | (simp; done) | (simp; omega)) _) | (refine Below.setCell ?_ (by first | exact Nat.le_refl _ | (simp; done) | (simp; omega)) _))) (Nat.le_refl _) hb1
  replace hA := Lib.hid (hA.out.below hb1)
  replace hB := Lib.hid (hB.out.below hb1)
  replace hD := Lib.hid (hD.out.below hb1)
  replace hW := Lib.hid (Lx.bstep hW.out (Nat.le_refl _) hb1)
  clear hb1
  obtain ⟨q0, q1, -, -⟩ := hA.out.c2
  go_wp2_with fail
  refine (HH.out.stand _).mono ?_
  rintro e w2 ⟨rfl, hb2⟩
  clear q0 q1
  replace hb2 : Below w1.heap.size w1 w2 := Lx.bstep (by repeat (first | exact Below.refl _ _ | exact Lx.Ext.below _ | refine Below.drew ?_ | refine below_drewN ?_ _ | (refine Below.alloc ?_ (by first | exact Nat.le_refl _ | (simp; done) | (simp; omega)) _) | (refine Below.setCell ?_ (by first | exact Nat.le_refl _ | (simp; done) | (simp; omega)) _))) (Nat.le_refl _) hb2
  replace hA := Lib.hid (hA.out.below hb2)
  replace hB := Lib.hid (hB.out.below hb2)
  replace hD := Lib.hid (hD.out.below hb2)
  replace hE := Lib.hid (hE.out.below hb2)
  replace hW := Lib.hid (Lx.bstep hW.out (Nat.le_refl _) hb2)
  clear hb2
  go_wp2_with fail
  refine (HH.out.wait _).mono ?_
  rintro e w3 ⟨rfl, rfl⟩
  have hm1 := made1 w2 #[.int .u64 s1, .int .i64 s2] 53
  dsimp only at hm1
  go_wp2_with fail
  generalize (w2.alloc (.cells #[.int .u64 s1, .int .i64 s2] 53)) = W2 at *
  obtain ⟨hS, hb3, -⟩ := hm1
  replace hS := Lib.hid hS
  replace hb3 : Below w2.heap.size w2 W2 := Lx.bstep (by repeat (first | exact Below.refl _ _ | exact Lx.Ext.below _ | refine Below.drew ?_ | refine below_drewN ?_ _ | (refine Below.alloc ?_ (by first | exact Nat.le_refl _ | (simp; done) | (simp; omega)) _) | (refine Below.setCell ?_ (by first | exact Nat.le_refl _ | (simp; done) | (simp; omega)) _))) (Nat.le_refl _) hb3
  replace hA := Lib.hid (hA.out.below hb3)
  replace hB := Lib.hid (hB.out.below hb3)
  replace hD := Lib.hid (hD.out.below hb3)
  replace hE := Lib.hid (hE.out.below hb3)
  replace hW := Lib.hid (Lx.bstep hW.out (Nat.le_refl _) hb3)
  clear hb3
  have b01 := fun x : Ext W2 => (hB.out.below x.below).c5
  have d01 := fun x : Ext W2 => (hD.out.below x.below).c5
  have b0 := fun x : Ext W2 => (b01 x).1; have b1 := fun x : Ext W2 => (b01 x).2.1
  have d0 := fun x : Ext W2 => (d01 x).1; have d1 := fun x : Ext W2 => (d01 x).2.1
  clear b01 d01
  refine Lx.wp_region_chain_lit (fun w' => ∃ x : Lx.Ext W2, w' = x.wo) (fun b => W2.heap.size ≤ b) [8, 17] [] (fun _ => True) (by kernel_rfl) (by kernel_rfl) (by kernel_rfl) (by kernel_rfl) Lx.ext_drew trivial ?_
  repeat (refine Lx.wpCh_one (by rfl) (by rfl) ?_; go_big_quiet_step (fail); refine wpQuiet_nil ?_)
  refine Lx.wpCh_extp (.bool nw) (by rfl) (by rfl) (fun x R hR => ?_) ?_
  · go_simp
    refine (N1.out _).mono ?_
    rintro e w'' ⟨rfl, hb⟩
    exact ⟨_, rfl, hR _ hb⟩
  go_big_quiet_step (fail)
  refine wpQuiet_nil ?_
  repeat (refine Lx.wpCh_one (by rfl) (by rfl) ?_; go_big_quiet_step (fail); refine wpQuiet_nil ?_)
  refine Lx.wpCh_extp (.bool nw) (by rfl) (by rfl) (fun x R hR => ?_) ?_
  · go_simp
    refine (Lx.same_below (N2.out _)).mono ?_
    rintro e w'' ⟨rfl, hb⟩
    exact ⟨_, rfl, hR _ hb⟩
  go_big_quiet_step (fail)
  refine wpQuiet_nil ?_
  repeat (refine Lx.wpCh_one (by rfl) (by rfl) ?_; go_big_quiet_step (fail); refine wpQuiet_nil ?_)
  refine Lx.wpCh_nil ?_
  intro w3 hx _
  obtain ⟨x, rfl⟩ := hx
  have hb3 := x.below
  generalize x.wo = w3 at *
  clear x b0 b1 d0 d1 N1 N2
  replace hb3 : Below W2.heap.size W2 w3 := Lx.bstep (by repeat (first | exact Below.refl _ _ | exact Lx.Ext.below _ | refine Below.drew ?_ | refine below_drewN ?_ _ | (refine Below.alloc ?_ (by first | exact Nat.le_refl _ | (simp; done) | (simp; omega)) _) | (refine Below.setCell ?_ (by first | exact Nat.le_refl _ | (simp; done) | (simp; omega)) _))) (Nat.le_refl _) hb3
  replace hA := Lib.hid (hA.out.below hb3)
  replace hB := Lib.hid (hB.out.below hb3)
  replace hD := Lib.hid (hD.out.below hb3)
  replace hE := Lib.hid (hE.out.below hb3)
  replace hS := Lib.hid (hS.out.below hb3)
  replace hW := Lib.hid (Lx.bstep hW.out (Nat.le_refl _) hb3)
  clear hb3
  obtain ⟨q0, q1, -, -⟩ := hA.out.c2
  go_wp2_with fail
  refine (hm.out _).mono ?_
  rintro e w4 ⟨rfl, hb4⟩
  clear q0 q1
  replace hb4 : Below w3.heap.size w3 w4 := Lx.bstep (by repeat (first | exact Below.refl _ _ | exact Lx.Ext.below _ | refine Below.drew ?_ | refine below_drewN ?_ _ | (refine Below.alloc ?_ (by first | exact Nat.le_refl _ | (simp; done) | (simp; omega)) _) | (refine Below.setCell ?_ (by first | exact Nat.le_refl _ | (simp; done) | (simp; omega)) _))) (Nat.le_refl _) hb4
  replace hA := Lib.hid (hA.out.below hb4)
  replace hB := Lib.hid (hB.out.below hb4)
  replace hD := Lib.hid (hD.out.below hb4)
  replace hE := Lib.hid (hE.out.below hb4)
  replace hS := Lib.hid (hS.out.below hb4)
  replace hW := Lib.hid (Lx.bstep hW.out (Nat.le_refl _) hb4)
  clear hb4
  cases hM : mayGrant (T, F) term who
  case' true =>
    have hM' := Lib.hid hM
    clear hM
    obtain rfl := HH.out.mg hM'.out
    obtain ⟨q0, q1, -, -⟩ := hA.out.c2
    obtain ⟨b0, b1, b2, b3, b4, -⟩ := hB.out.c5
    obtain ⟨d0, d1, d2, d3, d4, -⟩ := hD.out.c5
    go_wp2_with fail
    refine (HH.out.rgrant hM'.out _ _ _ _ _ _ _).mono ?_
    rintro e w5 ⟨rfl, hb5⟩
    clear q0 q1 b0 b1 b2 b3 b4 d0 d1 d2 d3 d4 hB hD
    replace hb5 : Below w4.heap.size w4 w5 := Lx.bstep (by repeat (first | exact Below.refl _ _ | exact Lx.Ext.below _ | refine Below.drew ?_ | refine below_drewN ?_ _ | (refine Below.alloc ?_ (by first | exact Nat.le_refl _ | (simp; done) | (simp; omega)) _) | (refine Below.setCell ?_ (by first | exact Nat.le_refl _ | (simp; done) | (simp; omega)) _))) (Nat.le_refl _) hb5
    replace hA := Lib.hid (hA.out.below hb5)
    replace hE := Lib.hid (hE.out.below hb5)
    replace hS := Lib.hid (hS.out.below hb5)
    replace hW := Lib.hid (Lx.bstep hW.out (Nat.le_refl _) hb5)
    clear hb5
    obtain ⟨q0, q1, -, -⟩ := hA.out.c2
    obtain ⟨e0, e1, -, -⟩ := hE.out.c2
    have lA := hA.out.lt
    have lE := hE.out.lt
    go_wp2_with fail
    have hm2 := made2 w5 #[.int .u64 g1, .int .i64 g2] #[.int .u64 0, .int .i64 0] 53 53
    dsimp only at hm2
    generalize ((w5.alloc (.cells #[.int .u64 g1, .int .i64 g2] 53)).alloc (.cells #[.int .u64 0, .int .i64 0] 53)) = w6 at *
    obtain ⟨-, hQ, hb6, -⟩ := hm2
    clear q0 q1 e0 e1 lA lE hE
    replace hQ := Lib.hid hQ
    have hq := Lib.hid (show w.heap.size ≤ w5.heap.size + 1 by have := hW.out.size; omega)
    have hne := Lib.hid (show w2.heap.size ≠ w5.heap.size + 1 by have := hS.out.lt; omega)
    replace hb6 : Below w5.heap.size w5 w6 := Lx.bstep (by repeat (first | exact Below.refl _ _ | exact Lx.Ext.below _ | refine Below.drew ?_ | refine below_drewN ?_ _ | (refine Below.alloc ?_ (by first | exact Nat.le_refl _ | (simp; done) | (simp; omega)) _) | (refine Below.setCell ?_ (by first | exact Nat.le_refl _ | (simp; done) | (simp; omega)) _))) (Nat.le_refl _) hb6
    replace hA := Lib.hid (hA.out.below hb6)
    replace hS := Lib.hid (hS.out.below hb6)
    replace hW := Lib.hid (Lx.bstep hW.out (Nat.le_refl _) hb6)
    clear hb6
    generalize w5.heap.size + 1 = bq at *
  case' false =>
    have hM' := Lib.hid hM
    clear hM
    obtain ⟨rfl, rfl, rfl, rfl⟩ := HH.out.mb hM'.out
    generalize w4 = w5 at *
    clear hB hD
    obtain ⟨q0, q1, -, -⟩ := hA.out.c2
    obtain ⟨e0, e1, -, -⟩ := hE.out.c2
    have lA := hA.out.lt
    have lE := hE.out.lt
    go_wp2_with fail
    have hm2 := made1 w5 #[.int .u64 0, .int .i64 0] 53
    dsimp only at hm2
    generalize (w5.alloc (.cells #[.int .u64 0, .int .i64 0] 53)) = w6 at *
    obtain ⟨hQ, hb6, -⟩ := hm2
    clear q0 q1 e0 e1 lA lE hE
    replace hQ := Lib.hid hQ
    have hq := Lib.hid (show w.heap.size ≤ w5.heap.size by have := hW.out.size; omega)
    have hne := Lib.hid (show w2.heap.size ≠ w5.heap.size by have := hS.out.lt; omega)
    replace hb6 : Below w5.heap.size w5 w6 := Lx.bstep (by repeat (first | exact Below.refl _ _ | exact Lx.Ext.below _ | refine Below.drew ?_ | refine below_drewN ?_ _ | (refine Below.alloc ?_ (by first | exact Nat.le_refl _ | (simp; done) | (simp; omega)) _) | (refine Below.setCell ?_ (by first | exact Nat.le_refl _ | (simp; done) | (simp; omega)) _))) (Nat.le_refl _) hb6
    replace hA := Lib.hid (hA.out.below hb6)
    replace hS := Lib.hid (hS.out.below hb6)
    replace hW := Lib.hid (Lx.bstep hW.out (Nat.le_refl _) hb6)
    clear hb6
    generalize w5.heap.size = bq at *
  all_goals
    refine (hv.out _).mono ?_
    rintro e w7 ⟨rfl, hb7⟩
    replace hb7 : Below w6.heap.size w6 w7 := Lx.bstep (by repeat (first | exact Below.refl _ _ | exact Lx.Ext.below _ | refine Below.drew ?_ | refine below_drewN ?_ _ | (refine Below.alloc ?_ (by first | exact Nat.le_refl _ | (simp; done) | (simp; omega)) _) | (refine Below.setCell ?_ (by first | exact Nat.le_refl _ | (simp; done) | (simp; omega)) _))) (Nat.le_refl _) hb7
    replace hA := Lib.hid (hA.out.below hb7)
    replace hS := Lib.hid (hS.out.below hb7)
    replace hQ := Lib.hid (hQ.out.below hb7)
    replace hW := Lib.hid (Lx.bstep hW.out (Nat.le_refl _) hb7)
    clear hb7
    obtain ⟨q0, q1, -, -⟩ := hA.out.c2
    obtain ⟨r0, r1, r2, r3⟩ := hQ.out.c2
    obtain ⟨t0, t1, -, -⟩ := hS.out.c2
    have h6 : T < 281474976710656 → IntKind.u64.wrap (T + 1) = T + 1 := fun h => by simp [IntKind.wrap, IntKind.bits, IntKind.signed]; omega
    generalize mayVote T F = mv at *
    have hc : mv = false ∨ (mv = true ∧ (who < 1 ∨ 64 < who)) ∨ (mv = true ∧ 1 ≤ who ∧ who ≤ 64 ∧ T = 281474976710656) ∨ (mv = true ∧ 1 ≤ who ∧ who ≤ 64 ∧ T < 281474976710656) := by
      cases mv with
      | false => exact .inl rfl
      | true =>
        have := hml.out rfl
        right
        by_cases h1 : who < 1 ∨ 64 < who
        · exact .inl ⟨rfl, h1⟩
        · right
          by_cases h2 : T < 281474976710656
          · exact .inr ⟨rfl, by omega, by omega, h2⟩
          · exact .inl ⟨rfl, by omega, by omega, by omega⟩
    clear hml hv hm
    have hw : (base < 1 ∨ 1048576 < base) ∧ m = 0 ∧ g = 2 ∨ (1 ≤ base ∧ base ≤ 1048576 ∧ m = base + draw % base ∧ g = 0 ∧ 0 ≤ draw % base ∧ draw % base < base) := by
      by_cases h : base < 1 ∨ 1048576 < base
      · exact .inl ⟨h, WB.out h⟩
      · exact .inr ⟨by omega, by omega, (WK.out h).1, (WK.out h).2, Int.emod_nonneg _ (by omega), Int.emod_lt_of_pos _ (by omega)⟩
    clear WB WK
    have hne' := Ne.symm hne.out
    have hne2 := hne.out
    have hwu : 1 ≤ base → base ≤ 1048576 → IntKind.u32.wrap base = base := fun h1 h2 => by simp [IntKind.wrap, IntKind.bits, IntKind.signed]; omega
    have ht : Int.tmod draw base = draw % base := Int.tmod_eq_emod_of_nonneg hd.1
    rcases hw with ⟨hw, rfl, rfl⟩ | ⟨hw1, hw2, rfl, rfl, hw3, hw4⟩
    case' inl => clear hwu ht
    case' inr =>
      replace hwu := hwu hw1 hw2
      have hw0 : (base == 0) = false := beq_eq_false_iff_ne.2 (by omega)
    all_goals
      rcases hc with rfl | ⟨rfl, hc⟩ | ⟨rfl, hc1, hc2, hc3⟩ | ⟨rfl, hc1, hc2, hc3⟩
      · obtain ⟨rfl, rfl, rfl⟩ := SB.out (.inl rfl)
        clear h6 SB SO SK
        go_wp2_with fail
        all_goals
          refine (works25_calls _).mono ?_
          rintro e w8 ⟨rfl, hb8⟩
          go_wp2_with fail
          go_ret
          exact ⟨rfl, Lx.bstep hW.out (Nat.le_refl _) hb8⟩
      · obtain ⟨rfl, rfl, rfl⟩ := SB.out (.inr hc)
        clear h6 SB SO SK
        go_wp2_with fail
        all_goals
          refine (works25_calls _).mono ?_
          rintro e w8 ⟨rfl, hb8⟩
          go_wp2_with fail
          go_ret
          exact ⟨rfl, Lx.bstep hW.out (Nat.le_refl _) hb8⟩
      · obtain ⟨rfl, rfl, rfl⟩ := SO.out (by simp; omega) hc3
        clear h6 SB SO SK
        have hc4 : ¬ T < 281474976710656 := by omega
        clear hc3
        go_wp2_with fail
        all_goals
          refine (works25_calls _).mono ?_
          rintro e w8 ⟨rfl, hb8⟩
          go_wp2_with fail
          go_ret
          exact ⟨rfl, Lx.bstep hW.out (Nat.le_refl _) hb8⟩
      · obtain ⟨rfl, rfl, rfl⟩ := SK.out (by simp; omega) hc3
        replace h6 := h6 hc3
        clear SB SO SK
        go_wp2_with fail
        all_goals
          refine (works25_calls _).mono ?_
          rintro e w8 ⟨rfl, hb8⟩
          go_wp2_with fail
          go_ret
          exact ⟨rfl, Lx.bstep ((hW.out.setCell (p := ⟨bq, 0, none⟩) hq.out _).setCell (p := ⟨bq, 1, none⟩) hq.out _) (by simp) hb8⟩
end Go.Proofs.Ytjjdfhokmiaekaa
