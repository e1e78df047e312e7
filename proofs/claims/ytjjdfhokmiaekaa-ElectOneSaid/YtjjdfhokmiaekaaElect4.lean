/-
  The contracts of elect's Grant, Stand, Wait, and of the law's end.
-/
import Derived.Test.YtjjdfhokmiaekaaElect3
namespace Go.Proofs.Ytjjdfhokmiaekaa
open Go.RowKit Go.Lst
attribute [local go_sem] run_eql_slice_nil

def vv (v : Int × Int) : Value := .agg #[.int .u64 v.1, .int .i64 v.2]
/-- An entry as a value: of it only the end is asked. -/
def ev (i t : Int) (r : Value × Value × Value) : Value := .agg #[.int .u64 i, .int .u64 t, r.1, r.2.1, r.2.2]
/-- A block of two cells, as the walk asks of it. -/
structure Two (w : World) (b : Nat) (x y : Value) : Prop where
  c0 : w.cell? ⟨b, 0, none⟩ = some x
  c1 : w.cell? ⟨b, 1, none⟩ = some y
  f0 : w.frozen? ⟨b, 0, none⟩ = false
  f1 : w.frozen? ⟨b, 1, none⟩ = false
theorem Two.of {w : World} {b : Nat} {x y : Value} {T : TypeId} (h : w.heap[b]? = some (.cells #[x, y] T)) : Two w b x y := by
  refine ⟨?_, ?_, ?_, ?_⟩ <;> simp only [World.cell?, World.frozen?, h] <;> simp
theorem Two.below {w w' : World} {b : Nat} {x y : Value} (h : Two w b x y) (hb : Below w.heap.size w w') : Two w' b x y := by
  have hl : b < w.heap.size := by
    by_cases hl : b < w.heap.size
    · exact hl
    · have := h.c0
      simp [World.cell?, Array.getElem?_eq_none (Nat.le_of_not_lt hl)] at this
  have hbl := hb.block b hl
  exact ⟨(World.cell?_of_block hbl).trans h.c0, (World.cell?_of_block hbl).trans h.c1, (World.frozen?_of_block hbl).trans h.f0, (World.frozen?_of_block hbl).trans h.f1⟩
theorem Two.alloc (w : World) (x y : Value) (T : TypeId) : Two (w.alloc (.cells #[x, y] T)) w.heap.size x y := Two.of (T := T) (by show (w.heap.push _)[w.heap.size]? = _; simp)
theorem Two.put {w : World} {b : Nat} {x y : Value} (h : Two w b x y) (x' y' : Value) : Two ((w.setCell ⟨b, 0, none⟩ x').setCell ⟨b, 1, none⟩ y') b x' y' := by
  refine ⟨?_, ?_, ?_, ?_⟩
  · rw [World.cell?_setCell_other _ _ _ _ (by simp)]
    exact World.cell?_setCell_same' _ _ _ (by rw [h.c0]; rfl)
  · exact World.cell?_setCell_same' _ _ _ (by rw [World.cell?_setCell_other _ _ _ _ (by simp), h.c1]; rfl)
  · rw [World.frozen?_setCell, World.frozen?_setCell]; exact h.f0
  · rw [World.frozen?_setCell, World.frozen?_setCell]; exact h.f1
theorem below_put2 {B : Nat} {w w' : World} {b : Nat} (h : Below B w w') (hb : B ≤ b) (x y : Value) : Below B w ((w'.setCell ⟨b, 0, none⟩ x).setCell ⟨b, 1, none⟩ y) :=
  (h.setCell (p := ⟨b, 0, none⟩) hb _).setCell (p := ⟨b, 1, none⟩) hb _
theorem results_vote2 {fn : Func} {t s : Tmp} (h : fn.results = #[.cell t 53, .tmp s]) {tmps : Array Value} {w : World} {b : Nat} {x y : Value} (hp : tmps.getD t undef = .pointer (some ⟨b, 0, none⟩)) (h2 : Two w b x y) :
    (results fn tmps).run Try.prog w = .ok (.tuple #[.agg #[x, y], tmps.getD s undef]) w := by
  have hp' : tmps[t]?.getD undef = .pointer (some ⟨b, 0, none⟩) := by simpa using hp
  simp [results, h, go_sem, hp', h2.c0, h2.c1]
theorem two_two (w w1 : World) (x y z u : Value) (T U : TypeId) (hb : Below ((w.alloc (.cells #[x, y] T)).alloc (.cells #[z, u] U)).heap.size ((w.alloc (.cells #[x, y] T)).alloc (.cells #[z, u] U)) w1) :
    Two w1 w.heap.size x y ∧ Two w1 (w.heap.size + 1) z u := by
  constructor
  · exact ((Two.alloc w x y T).below ((Below.refl _ _).alloc (Nat.le_refl _) _)).below hb
  · have := Two.alloc (w.alloc (.cells #[x, y] T)) z u U
    rw [show (w.alloc (.cells #[x, y] T)).heap.size = w.heap.size + 1 from by simp] at this
    exact this.below hb

set_option maxRecDepth 100000 in
set_option maxHeartbeats 1000000 in
theorem Wait_calls (base draw : Int) (w : World) (hd : 0 ≤ draw ∧ draw < 4294967296) :
    Calls Try.prog 26 #[.int .i64 base, .int .u32 draw] w fun e w' => e = .returned (if base < 1 ∨ 1048576 < base then .tuple #[.int .i64 0, .int .i64 2] else .tuple #[.int .i64 (base + draw % base), .int .i64 0]) ∧ w = w' := by
  by_cases h1 : base < 1
  · rw [if_pos (.inl h1)]
    go_enter Try.func26, Try.ntmps26
    go_wp2_with fail
    go_ret2
    exact ⟨rfl, rfl⟩
  · by_cases h2 : 1048576 < base
    · rw [if_pos (.inr h2)]
      go_enter Try.func26, Try.ntmps26
      go_wp2_with fail
      go_ret2
      exact ⟨rfl, rfl⟩
    · rw [if_neg (by omega)]
      have h3 : base ≤ 1048576 := by omega
      have hw : IntKind.u32.wrap base = base := by simp [IntKind.wrap, IntKind.bits, IntKind.signed]; omega
      have hm1 : 0 ≤ draw % base := Int.emod_nonneg _ (by omega)
      have hm2 : draw % base < base := Int.emod_lt_of_pos _ (by omega)
      have h0 : (base == 0) = false := beq_eq_false_iff_ne.2 (by omega)
      have ht : Int.tmod draw base = draw % base := Int.tmod_eq_emod_of_nonneg hd.1
      go_enter Try.func26, Try.ntmps26
      go_wp2_with fail
      go_ret2
      exact ⟨by simp_all, rfl⟩

set_option maxRecDepth 100000 in
set_option maxHeartbeats 1000000 in
theorem Stand_calls (v : Int × Int) (me : Int) (w : World) (hT : 0 ≤ v.1) : Calls Try.prog 25 #[vv v, .int .i64 me] w fun e w' => e = .returned (
      if mayVote v.1 v.2 = false ∨ me < 1 ∨ 64 < me then .tuple #[vv (0, 0), .int .i64 2] else if v.1 = 281474976710656 then .tuple #[vv (0, 0), .int .i64 9] else .tuple #[vv (v.1 + 1, me), .int .i64 0]) ∧ Below w.heap.size w w' := by
  obtain ⟨T, F⟩ := v
  have C1 := Lib.hid (fun W => mayVote_calls T F W hT)
  unfold vv
  dsimp only at *
  cases hm : mayVote T F with
  | false =>
    rw [hm] at C1
    rw [if_pos (.inl rfl)]
    go_enter Try.func25, Try.ntmps25
    go_wp2_with fail
    refine (C1.out _).mono ?_
    rintro e w1 ⟨rfl, hb1⟩
    obtain ⟨⟨a0, a1, a2, a3⟩, ⟨b0, b1, b2, b3⟩⟩ := two_two _ _ _ _ _ _ _ _ hb1
    have hB := Lib.hid (Lx.bstep (((Below.refl w.heap.size w).alloc (Nat.le_refl _) (.cells #[.int .u64 T, .int .i64 F] 53)).alloc (by simp) (.cells #[.int .u64 0, .int .i64 0] 53)) (by simp) hb1)
    have hb := Lib.hid (Two.mk b0 b1 b2 b3)
    clear hb1
    go_wp2_with fail
    exact bodyPost_ret (results_vote2 rfl rfl (hb.out.put _ _)) rfl ⟨rfl, below_put2 hB.out (by omega) _ _⟩
  | true =>
    rw [hm] at C1
    have hT2 : T ≤ 281474976710656 := by unfold mayVote at hm; rw [decide_eq_true_eq] at hm; exact hm.1
    clear hm
    by_cases h1 : me < 1
    · rw [if_pos (.inr (.inl h1))]
      go_enter Try.func25, Try.ntmps25
      go_wp2_with fail
      refine (C1.out _).mono ?_
      rintro e w1 ⟨rfl, hb1⟩
      obtain ⟨⟨a0, a1, a2, a3⟩, ⟨b0, b1, b2, b3⟩⟩ := two_two _ _ _ _ _ _ _ _ hb1
      have hB := Lib.hid (Lx.bstep (((Below.refl w.heap.size w).alloc (Nat.le_refl _) (.cells #[.int .u64 T, .int .i64 F] 53)).alloc (by simp) (.cells #[.int .u64 0, .int .i64 0] 53)) (by simp) hb1)
      have hb := Lib.hid (Two.mk b0 b1 b2 b3)
      clear hb1
      go_wp2_with fail
      exact bodyPost_ret (results_vote2 rfl rfl (hb.out.put _ _)) rfl ⟨rfl, below_put2 hB.out (by omega) _ _⟩
    · by_cases h2 : 64 < me
      · rw [if_pos (.inr (.inr h2))]
        go_enter Try.func25, Try.ntmps25
        go_wp2_with fail
        refine (C1.out _).mono ?_
        rintro e w1 ⟨rfl, hb1⟩
        obtain ⟨⟨a0, a1, a2, a3⟩, ⟨b0, b1, b2, b3⟩⟩ := two_two _ _ _ _ _ _ _ _ hb1
        have hB := Lib.hid (Lx.bstep (((Below.refl w.heap.size w).alloc (Nat.le_refl _) (.cells #[.int .u64 T, .int .i64 F] 53)).alloc (by simp) (.cells #[.int .u64 0, .int .i64 0] 53)) (by simp) hb1)
        have hb := Lib.hid (Two.mk b0 b1 b2 b3)
        clear hb1
        go_wp2_with fail
        exact bodyPost_ret (results_vote2 rfl rfl (hb.out.put _ _)) rfl ⟨rfl, below_put2 hB.out (by omega) _ _⟩
      · rw [if_neg (by simp; omega)]
        by_cases h3 : T = 281474976710656
        · rw [if_pos h3]
          have h4 : (T == 281474976710656) = true := by simp [h3]
          have h3' := Lib.hid h3
          clear h3
          go_enter Try.func25, Try.ntmps25
          go_wp2_with fail
          refine (C1.out _).mono ?_
          rintro e w1 ⟨rfl, hb1⟩
          obtain ⟨⟨a0, a1, a2, a3⟩, ⟨b0, b1, b2, b3⟩⟩ := two_two _ _ _ _ _ _ _ _ hb1
          have hB := Lib.hid (Lx.bstep (((Below.refl w.heap.size w).alloc (Nat.le_refl _) (.cells #[.int .u64 T, .int .i64 F] 53)).alloc (by simp) (.cells #[.int .u64 0, .int .i64 0] 53)) (by simp) hb1)
          have hb := Lib.hid (Two.mk b0 b1 b2 b3)
          clear hb1
          go_wp2_with fail
          exact bodyPost_ret (results_vote2 rfl rfl (hb.out.put _ _)) rfl ⟨rfl, below_put2 hB.out (by omega) _ _⟩
        · rw [if_neg h3]
          have h4 : (T == 281474976710656) = false := beq_eq_false_iff_ne.2 h3
          have h5 : T < 281474976710656 := by omega
          have h6 : IntKind.u64.wrap (T + 1) = T + 1 := by simp [IntKind.wrap, IntKind.bits, IntKind.signed]; omega
          clear h3
          go_enter Try.func25, Try.ntmps25
          go_wp2_with fail
          refine (C1.out _).mono ?_
          rintro e w1 ⟨rfl, hb1⟩
          obtain ⟨⟨a0, a1, a2, a3⟩, ⟨b0, b1, b2, b3⟩⟩ := two_two _ _ _ _ _ _ _ _ hb1
          have hB := Lib.hid (Lx.bstep (((Below.refl w.heap.size w).alloc (Nat.le_refl _) (.cells #[.int .u64 T, .int .i64 F] 53)).alloc (by simp) (.cells #[.int .u64 0, .int .i64 0] 53)) (by simp) hb1)
          have hb := Lib.hid (Two.mk b0 b1 b2 b3)
          clear hb1
          go_wp2_with fail
          exact bodyPost_ret (results_vote2 rfl rfl (hb.out.put _ _)) rfl ⟨rfl, below_put2 hB.out (by omega) _ _⟩
end Go.Proofs.Ytjjdfhokmiaekaa
