/-
  codicillaw28.works, heavy.
-/
import Derived.Test.YtjjdfhokmiaekaaRdReady
namespace Go.Proofs.Ytjjdfhokmiaekaa
open Go Go.RowKit Go.Lst Go.Lx Go.Maps

theorem cf_123 (w : World) : Cf 0 (w.alloc (.cells #[.int .i64 1, .int .i64 2, .int .i64 3] 3)) (.slice (some ⟨w.heap.size, 0, none⟩) 3 3) [1, 2, 3] := by
  refine Cf.own (B' := w.heap.size) (xs := [1, 2, 3]) ?_ (by decide)
  exact World.ownsRow_lit w #[.int .i64 1, .int .i64 2, .int .i64 3] 3 (Nat.le_refl _) (by unfold maxLen; omega) rfl
def readyS (S : RS) (ap : Int) : RS := { S with l := S.l.filter fun e => !goesB S ap e }
def readyO (S : RS) (ap : Int) : List Wt := S.l.filter fun e => goesB S ap e
def dropS (S : RS) : RS := { S with l := [], h := fun _ => 0 }
/-- A reader's block that the call made. -/
structure MineR (w0 w : World) (b hb n : Nat) (wv : Value) (S : RS) : Prop where
  rd : RdAt w0.heap.size w b hb n wv S
  below : Below w0.heap.size w0 w
section
variable {w0 w w' : World} {b hb n : Nat} {wv : Value} {S : RS}
theorem MineR.then (h : MineR w0 w b hb n wv S) (hl : Below w.heap.size w w') : MineR w0 w' b hb n wv S := ⟨h.rd.below hl, Lx.bstep h.below (Nat.le_refl _) hl⟩
theorem MineR.step (h : MineR w0 w b hb n wv S) {O : Nat → Prop} (hs : Stays O w w') (ho : ∀ k, O k → k = b ∨ k = hb ∨ wv.ownBlock = some k) : Below w0.heap.size w0 w' :=
  h.below.trans (hs.below h.below.size (fun k hk => by
    rcases ho k hk with rfl | rfl | h1
    · exact h.rd.lo.1
    · exact h.rd.lo.2
    · exact (h.rd.row.block h1).1))
theorem NewRd_mine (w0 w : World) (hw : Below w0.heap.size w0 w) (me : Int) (h1 : ¬ me < 1) (h2 : ¬ 64 < me) : Calls Try.prog 14 #[.int .i64 me] w fun y w' => ∃ b hb, y = .returned (.tuple #[.pointer (some ⟨b, 0, none⟩), .int .i64 0]) ∧ MineR w0 w' b hb 0 (.slice none 0 0) ⟨me, 0, [], fun _ => 0⟩ ∧ Below w.heap.size w w' := by
  refine (NewRd_good w me h1 h2).mono ?_
  rintro y w' ⟨b, hb, rfl, hR, hB⟩
  exact ⟨b, hb, rfl, ⟨⟨hR.blk, hR.row.mono hw.size, hR.map, ⟨Nat.le_trans hw.size hR.lo.1, Nat.le_trans hw.size hR.lo.2⟩⟩, Lx.bstep hw (Nat.le_refl _) hB⟩, hB⟩
theorem Ask_mine (h : MineR w0 w b hb n wv S) (id cm : Int) (v : Value) (c : List Int) (hcf : Cf 0 w v c) (hrd : 0 ≤ S.rd ∧ S.rd ≤ 1099511627776) :
    Calls Try.prog 15 #[.pointer (some ⟨b, 0, none⟩), .int .u64 id, .int .u64 cm, v] w fun y w' => y = .returned (.tuple #[.int .u64 (askR S id cm c), .int .i64 (askE S id cm c)]) ∧ ∃ wv', MineR w0 w' b hb n wv' (askS S id cm c) ∧ Stays (fun k => k = b ∨ wv.ownBlock = some k) w w' ∧ (∀ k, wv'.ownBlock = some k → wv.ownBlock = some k ∨ w.heap.size ≤ k) := by
  refine (Ask_calls h.rd id cm v c hcf hrd).mono ?_
  rintro y w' ⟨rfl, wv', h1, h2, h3, h4⟩
  exact ⟨rfl, wv', ⟨h1, h.step h2 (fun k hk => hk.elim .inl (fun h => .inr (.inr h)))⟩, h2, h4⟩
theorem Ack_mine (h : MineR w0 w b hb n wv S) (hn : n < 1000000) (f r : Int) (hf : (Lit.int .i64 f).wf = true) (hr : (Lit.int .u64 r).wf = true) :
    Calls Try.prog 17 #[.pointer (some ⟨b, 0, none⟩), .agg #[.int .i64 f, .int .u64 r]] w fun y w' => y = .returned (.int .i64 (ackE S f)) ∧ MineR w0 w' b hb (n + 1) wv (ackS S f r) ∧ Stays (fun k => k = hb) w w' := by
  refine (Ack_calls h.rd hn f r hf hr).mono ?_
  rintro y w' ⟨rfl, h1, h2, h3⟩
  exact ⟨rfl, ⟨h1, h.step h2 (fun k hk => .inr (.inl hk))⟩, h2⟩
theorem Ready_mine (h : MineR w0 w b hb n wv S) (hl : S.l.length ≤ 256) (hmy : ∀ e ∈ S.l, may e.c = true) (ap : Int) :
    Calls Try.prog 18 #[.pointer (some ⟨b, 0, none⟩), .int .u64 ap] w fun y w' => ∃ u v', y = .returned u ∧ w'.ownsRow w.heap.size 46 2 u (readyO S ap).length (outC (readyO S ap)) ∧ MineR w0 w' b hb n v' (readyS S ap) ∧ Stays (fun k => k = b ∨ wv.ownBlock = some k) w w' ∧ (∀ k, v'.ownBlock = some k → wv.ownBlock = some k) := by
  refine (Ready_calls h.rd hl hmy ap).mono ?_
  rintro y w' ⟨u, v', rfl, h1, h2, h3, h4, h5⟩
  exact ⟨u, v', rfl, h1, ⟨h2, h.step h3 (fun k hk => hk.elim .inl (fun h => .inr (.inr h)))⟩, h3, h5⟩
theorem Drop_mine (h : MineR w0 w b hb n wv S) (hl : S.l.length ≤ 256) :
    Calls Try.prog 20 #[.pointer (some ⟨b, 0, none⟩)] w fun y w' => ∃ u, y = .returned u ∧ w'.ownsRow w.heap.size 32 1 u S.l.length (S.l.map fun e => .int .u64 e.id) ∧ MineR w0 w' b hb 0 (.slice none 0 0) (dropS S) ∧ Stays (fun k => k = b ∨ k = hb) w w' := by
  refine (Drop_calls h.rd hl).mono ?_
  rintro y w' ⟨u, rfl, h1, h2, h3, h4⟩
  exact ⟨u, rfl, h1, ⟨h2, h.step h3 (fun k hk => hk.elim .inl (fun h => .inr (.inl h)))⟩, h3⟩
theorem own_stays {O : Nat → Prop} {B T sz m : Nat} {u : Value} {xs : List Value} (h : w.ownsRow B T sz u m xs) (hs : Stays O w w') (hno : ∀ k, O k → k < B) : w'.ownsRow B T sz u m xs :=
  own_keep h (fun g hg => hs.block g (own_block h hg).2 (fun e => by have := hno g e; have := (own_block h hg).1; omega))
end
theorem own_parts {w : World} {B : Nat} {e : TypeId} {sz : Nat} {v : Value} {n : Nat} {xs : List Value} (h : w.ownsRow B e sz v n xs) : ∃ p c, v = .slice p n c ∧ n ≤ c := by
  rcases h.2 with ⟨rfl, rfl⟩ | ⟨g, cap, cur, rfl, hB, hh, hn, r⟩
  · exact ⟨_, _, rfl, Nat.le_refl _⟩
  · exact ⟨_, _, rfl, hn⟩
theorem own_one {w : World} {B : Nat} {e : TypeId} {sz : Nat} {v : Value} {xs : List Value} (h : w.ownsRow B e sz v 1 xs) : ∃ g c, v = .slice (some ⟨g, 0, none⟩) 1 c ∧ ∀ j, j < 1 * sz → w.cell? ⟨g, j, none⟩ = xs[j]? := by
  rcases h.2 with ⟨rfl, h0⟩ | ⟨g, cap, cur, rfl, hB, hh, hn, r⟩
  · cases h0
  · exact ⟨g, cap, rfl, fun j hj => h.cellAt j hj⟩
def R0 : RS := ⟨1, 0, [], fun _ => 0⟩
def R1 : RS := askS R0 7 4 [1, 2, 3]
def R2 : RS := readyS R1 9
def R3 : RS := ackS R2 2 1
def R4 : RS := readyS R3 3
def R5 : RS := readyS R4 9
def R6 : RS := askS R5 8 4 [1, 2, 3]
theorem small (l : List Wt) (h : (decide (l.length ≤ 256) && l.all fun e => may e.c) = true) : l.length ≤ 256 ∧ ∀ e ∈ l, may e.c = true := by
  rw [Bool.and_eq_true, decide_eq_true_eq, List.all_eq_true] at h
  exact h
set_option maxRecDepth 100000 in
set_option maxHeartbeats 4000000 in
theorem works28_calls (w : World) : Calls Try.prog 13 #[] w fun y w' => y = .returned (.bool true) ∧ Below w.heap.size w w' := by
  have g1 : askE R0 7 4 [1, 2, 3] = 0 ∧ askR R0 7 4 [1, 2, 3] = 1 := ⟨by kernel_rfl, by kernel_rfl⟩
  have g2 := small R1.l (by kernel_rfl)
  have g3 : ackE R2 2 = 0 ∧ 0 ≤ R5.rd ∧ R5.rd ≤ 1099511627776 := ⟨by kernel_rfl, by decide +kernel, by decide +kernel⟩
  have g4 := small R3.l (by kernel_rfl)
  have g5 := small R4.l (by kernel_rfl)
  have g6 := small R6.l (by kernel_rfl)
  have z2 : (readyO R1 9) = [] := by kernel_rfl
  have z4 : (readyO R3 3) = [] := by kernel_rfl
  have z5 : (readyO R4 9) = [⟨7, 4, 1, [1, 2, 3]⟩] := by kernel_rfl
  have z6 : R6.l = [⟨8, 4, 2, [1, 2, 3]⟩] := by kernel_rfl
  have z7 : (dropS R6).l = [] ∧ (dropS R6).rd = 2 := ⟨by kernel_rfl, by kernel_rfl⟩
  have hN := Lib.hid (NewRd_mine w w (Below.refl _ _) 1 (by decide) (by decide))
  replace g1 := Lib.hid g1
  replace g2 := Lib.hid g2
  replace g3 := Lib.hid g3
  replace g4 := Lib.hid g4
  replace g5 := Lib.hid g5
  replace g6 := Lib.hid g6
  replace z2 := Lib.hid z2
  replace z4 := Lib.hid z4
  replace z5 := Lib.hid z5
  replace z6 := Lib.hid z6
  replace z7 := Lib.hid z7
  go_enter Try.func13, Try.ntmps13
  go_wp2_with fail
  refine hN.out.mono ?_
  clear hN
  rintro y w1 ⟨b, hb, rfl, hR, -⟩
  have hbl := (Below.refl w1.heap.size w1).alloc (Nat.le_refl _) (.cells #[.int .i64 1, .int .i64 2, .int .i64 3] 3)
  have hA := Ask_mine (S := R0) (hR.then hbl) 7 4 _ [1, 2, 3] (cf_123 w1) (by decide)
  rw [g1.out.1, g1.out.2] at hA
  replace hA := Lib.hid hA
  clear hR hbl g1
  go_wp2_with fail
  generalize w1.alloc (.cells #[.int .i64 1, .int .i64 2, .int .i64 3] 3) = W1 at *
  refine hA.out.mono ?_
  clear hA
  rintro y w2 ⟨rfl, v2, hR2, -, -⟩
  have hC := Lib.hid (Ready_mine (S := R1) hR2 g2.out.1 g2.out.2 9)
  clear hR2
  go_wp2_with fail
  refine hC.out.mono ?_
  clear hC
  rintro y w3 ⟨u3, v3, rfl, hu3, hR3, -, -⟩
  rw [z2.out] at hu3
  obtain ⟨p3, c3, rfl, -⟩ := own_parts hu3
  have hC := Ack_mine (S := R2) hR3 (by decide) 2 1 (by decide) (by decide)
  rw [g3.out.1] at hC
  replace hC := Lib.hid hC
  clear hu3 hR3
  go_wp2_with fail
  refine hC.out.mono ?_
  clear hC
  rintro y w4 ⟨rfl, hR4, -⟩
  have hC := Lib.hid (Ready_mine (S := R3) hR4 g4.out.1 g4.out.2 3)
  clear hR4
  go_wp2_with fail
  refine hC.out.mono ?_
  clear hC
  rintro y w5 ⟨u5, v5, rfl, hu5, hR5, -, -⟩
  rw [z4.out] at hu5
  obtain ⟨p5, c5, rfl, -⟩ := own_parts hu5
  have hC := Lib.hid (Ready_mine (S := R4) hR5 g5.out.1 g5.out.2 9)
  have hb5 : Hid (b < w5.heap.size ∧ hb < w5.heap.size ∧ ∀ k, v5.ownBlock = some k → k < w5.heap.size) := Lib.hid ⟨hR5.rd.lt, hR5.rd.hlt, fun k hk => (hR5.rd.row.block hk).2⟩
  clear hR5 hu5
  go_wp2_with fail
  refine hC.out.mono ?_
  clear hC
  rintro y w6 ⟨u6, v6, rfl, hu6, hR6, -, ho6⟩
  rw [z5.out] at hu6
  have hbl := (Below.refl w6.heap.size w6).alloc (Nat.le_refl _) (.cells #[.int .i64 1, .int .i64 2, .int .i64 3] 3)
  have hA := Lib.hid (Ask_mine (S := R5) (hR6.then hbl) 8 4 _ [1, 2, 3] (cf_123 w6) g3.out.2)
  have hu7 := Lib.hid (own_keep hu6 (fun g hg => hbl.block g (own_block hu6 hg).2))
  obtain ⟨p6, c6, rfl, -⟩ := own_parts hu6
  have hv6 : Hid (∀ k, v6.ownBlock = some k → k < w5.heap.size) := Lib.hid (fun k hk => hb5.out.2.2 k (ho6 k hk))
  clear hu6 hR6 hbl ho6
  go_wp2_with fail
  generalize w6.alloc (.cells #[.int .i64 1, .int .i64 2, .int .i64 3] 3) = W6 at *
  refine hA.out.mono ?_
  clear hA
  rintro y w7 ⟨rfl, v7, hR7, hs7, -⟩
  have hu8 := own_stays hu7.out hs7 (fun k hk => by
    rcases hk with rfl | hk
    · exact hb5.out.1
    · exact hv6.out k hk)
  have hD := Lib.hid (Drop_mine (S := R6) hR7 g6.out.1)
  replace hu8 := Lib.hid hu8
  clear hR7 hs7 hu7
  generalize askR R5 8 4 [1, 2, 3] = r7
  generalize askE R5 8 4 [1, 2, 3] = e7
  go_wp2_with fail
  refine hD.out.mono ?_
  clear hD
  rintro y w8 ⟨u8, rfl, hd8, hR8, hs8⟩
  have hu9 := own_stays hu8.out hs8 (fun k hk => by
    rcases hk with rfl | rfl
    · exact hb5.out.1
    · exact hb5.out.2.1)
  rw [z6.out] at hd8
  obtain ⟨g9, c9, e9, hc9⟩ := own_one hu9
  obtain ⟨g8, d8, e8, hc8⟩ := own_one hd8
  subst e8
  cases e9
  have x0 : w8.cell? ⟨g9, 0, none⟩ = some (.int .u64 7) := hc9 0 (by decide)
  have x1 : w8.cell? ⟨g9, 1, none⟩ = some (.int .u64 4) := hc9 1 (by decide)
  have x2 : w8.cell? ⟨g8, 0, none⟩ = some (.int .u64 8) := hc8 0 (by decide)
  have hW := Lib.hid (Waits_calls hR8.rd)
  have hRo := Lib.hid (fun A (hl : Below w8.heap.size w8 A) => Round_calls (hR8.rd.below hl))
  have hB8 := Lib.hid hR8.below
  rw [z7.out.1] at hW
  rw [z7.out.2] at hRo
  clear hu8 hu9 hd8 hR8 hs8 hc8 hc9
  go_wp2_with fail
  refine hW.out.mono ?_
  clear hW
  rintro y w9 ⟨rfl, hl9⟩
  have hR9 := hRo.out _ hl9
  clear hRo
  go_wp2_with fail
  refine hR9.mono ?_
  clear hR9
  rintro y w10 ⟨rfl, hl10⟩
  have hBf := Lib.hid (Lx.bstep (Lx.bstep hB8.out (Nat.le_refl _) hl9) (Nat.le_refl _) hl10)
  clear x0 x1 x2 hl9 hl10
  go_wp2_with fail
  go_ret
  exact ⟨rfl, hBf.out⟩
end Go.Proofs.Ytjjdfhokmiaekaa
