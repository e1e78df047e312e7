/-
  The walk of ElectTells, out of the contracts.
-/
import Derived.Test.YtjjdfhokmiaekaaElTells
import Derived.Test.YtjjdfhokmiaekaaElArgs
namespace Go.Proofs.Ytjjdfhokmiaekaa
open Go.RowKit Go.Lst Go.Lx

theorem tells_of (T F term who i t i' t' base draw : Int) (hT : 0 ≤ T) (hd : 0 ≤ draw ∧ draw < 4294967296) : ∃ g1 g2 y e s1 s2 f m g, Tells (T, F) term who i t i' t' base draw g1 g2 y e s1 s2 f m g := by
  have S := fun w => Stand_calls (T, F) who w hT
  have hst : ∃ s1 s2 f : Int, (∀ w, Calls Try.prog 25 #[.agg #[.int .u64 T, .int .i64 F], .int .i64 who] w fun x w' => x = .returned (.tuple #[.agg #[.int .u64 s1, .int .i64 s2], .int .i64 f]) ∧ Below w.heap.size w w') ∧
      ((mayVote T F = false ∨ who < 1 ∨ 64 < who) → s1 = 0 ∧ s2 = 0 ∧ f = 2) ∧ (¬(mayVote T F = false ∨ who < 1 ∨ 64 < who) → T = 281474976710656 → s1 = 0 ∧ s2 = 0 ∧ f = 9) ∧
      (¬(mayVote T F = false ∨ who < 1 ∨ 64 < who) → T < 281474976710656 → s1 = T + 1 ∧ s2 = who ∧ f = 0) := by
    dsimp only at S
    by_cases h : mayVote T F = false ∨ who < 1 ∨ 64 < who
    · simp only [if_pos h] at S
      exact ⟨0, 0, 2, S, fun _ => ⟨rfl, rfl, rfl⟩, fun h' => absurd h h', fun h' => absurd h h'⟩
    · simp only [if_neg h] at S
      by_cases h2 : T = 281474976710656
      · simp only [if_pos h2] at S
        exact ⟨0, 0, 9, S, fun h' => absurd h' h, fun _ _ => ⟨rfl, rfl, rfl⟩, fun _ h3 => by omega⟩
      · simp only [if_neg h2] at S
        exact ⟨T + 1, who, 0, S, fun h' => absurd h' h, fun _ h3 => absurd h3 h2, fun _ _ => ⟨rfl, rfl, rfl⟩⟩
  obtain ⟨s1, s2, f, hs, hsb, hso, hsk⟩ := hst
  have W := fun w => Wait_calls base draw w hd
  have hwt : ∃ m g : Int, (∀ w, Calls Try.prog 26 #[.int .i64 base, .int .u32 draw] w fun x w' => x = .returned (.tuple #[.int .i64 m, .int .i64 g]) ∧ w = w') ∧
      ((base < 1 ∨ 1048576 < base) → m = 0 ∧ g = 2) ∧ (¬(base < 1 ∨ 1048576 < base) → m = base + draw % base ∧ g = 0) := by
    by_cases h : base < 1 ∨ 1048576 < base
    · simp only [if_pos h] at W
      exact ⟨0, 2, W, fun _ => ⟨rfl, rfl⟩, fun h' => absurd h h'⟩
    · simp only [if_neg h] at W
      exact ⟨_, 0, W, fun h' => absurd h' h, fun _ => ⟨rfl, rfl⟩⟩
  obtain ⟨m, g, hw, hwb, hwk⟩ := hwt
  cases hM : mayGrant (T, F) term who with
  | true =>
    obtain ⟨⟨⟨g1, g2⟩, y⟩, hg⟩ : ∃ R, grant (T, F) term who i t i' t' = R := ⟨_, rfl⟩
    refine ⟨g1, g2, y, 0, s1, s2, f, m, g, ⟨fun w => ?_, hs, fun _ => rfl, fun h => (by rw [hM] at h; cases h), hsb, hso, hsk, hwb, hwk, fun _ x y' z x' y'' z' w => ?_, hw⟩⟩
    · have := Grant_good (T, F) term who i t i' t' (.int .u8 0, .string ByteArray.empty, .slice none 0 0) (.int .u8 0, .string ByteArray.empty, .slice none 0 0) w hT hM
      rw [hg] at this
      exact this
    · have := rGrant_calls (T, F) term who i t i' t' (x, y', z) (x', y'', z') w
      rw [hg] at this
      exact this
  | false =>
    refine ⟨0, 0, false, 2, s1, s2, f, m, g, ⟨fun w => ?_, hs, fun h => (by rw [hM] at h; cases h), fun _ => ⟨rfl, rfl, rfl, rfl⟩, hsb, hso, hsk, hwb, hwk, fun h => (by rw [hM] at h; cases h), hw⟩⟩
    exact Grant_bad (T, F) term who i t i' t' (.int .u8 0, .string ByteArray.empty, .slice none 0 0) (.int .u8 0, .string ByteArray.empty, .slice none 0 0) w hT hM
theorem ElectTells_walk (T F term who i t k : Int) (tx : ByteArray) (p : Option Addr) (n c : Nat) (i' t' k' : Int) (tx' : ByteArray) (p' : Option Addr) (n' c' : Nat) (base draw : Int) (w : World) (wT : (Lit.int .u64 T).wf = true) (_ : (Lit.int .u64 term).wf = true) (_ : (Lit.int .i64 who).wf = true) (_ : (Lit.int .i64 base).wf = true) (wd : (Lit.int .u32 draw).wf = true) :
    Calls Try.prog 4 #[.agg #[.int .u64 T, .int .i64 F], .int .u64 term, .int .i64 who, .agg #[.int .u64 i, .int .u64 t, .int .u8 k, .string tx, .slice p n c], .agg #[.int .u64 i', .int .u64 t', .int .u8 k', .string tx', .slice p' n' c'], .int .i64 base, .int .u32 draw] w
      fun e w' => e = .returned (.bool true) ∧ Below w.heap.size w w' := by
  have hT : 0 ≤ T := by simp [Lit.wf, IntKind.min, IntKind.max, IntKind.bits, IntKind.signed] at wT; omega
  have hd : 0 ≤ draw ∧ draw < 4294967296 := by simp [Lit.wf, IntKind.min, IntKind.max, IntKind.bits, IntKind.signed] at wd; omega
  obtain ⟨g1, g2, y, e, s1, s2, f, m, g, H⟩ := tells_of T F term who i t i' t' base draw hT hd
  exact tells_ahead T F term who i t i' t' k k' tx tx' p p' n c n' c' base draw w hT hd g1 g2 y e s1 s2 f m g H (fun W => rMayGrant_calls (T, F) term who W hT)
end Go.Proofs.Ytjjdfhokmiaekaa
