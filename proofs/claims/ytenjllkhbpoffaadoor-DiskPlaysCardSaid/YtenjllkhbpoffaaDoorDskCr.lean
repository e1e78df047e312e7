/-
  What a crash leaves (plain).
-/
import Derived.Test.YtenjllkhbpoffaaDoorDsk
namespace Go.Dsk
open Go Go.Maps

def part (F : Files) (by_ : Int) : Lc → Files
  | .app k s => putF F k (atF F k ++ s.extract 0 (min (max by_ 0) s.size).toNat)
  | _ => F
/-- Behind i calls of the loop. -/
def crashAt (S : Files) (l : List Lc) (c by_ : Int) (i : Nat) : Files :=
  if (i : Int) ≤ c then all S (l.take i) else if c < 0 then S else match l[c.toNat]? with
    | some x => part (all S (l.take c.toNat)) by_ x
    | none => all S (l.take c.toNat)
def crashN (S : Files) (l : List Lc) (c by_ : Int) : Files := crashAt S l c by_ l.length
def crashM (M : DM) (c by_ : Int) : DM := ⟨M.room, crashN M.sure M.loose c by_, crashN M.sure M.loose c by_, [], -1⟩
theorem crash_zero (S : Files) (l : List Lc) (c by_ : Int) : crashAt S l c by_ 0 = S := by
  unfold crashAt
  by_cases h : (0 : Int) ≤ c
  · rw [if_pos (by simpa using h)]; simp [all]
  · rw [if_neg (by simpa using h), if_pos (by omega)]
theorem all_take_succ (S : Files) (l : List Lc) (i : Nat) (h : i < l.length) : all S (l.take (i + 1)) = done (all S (l.take i)) l[i] := by
  rw [List.take_succ_eq_append_getElem h, all_snoc]
theorem crash_lt {S : Files} {l : List Lc} {c by_ : Int} {i : Nat} (hi : i < l.length) (h : (i : Int) < c) : crashAt S l c by_ (i + 1) = done (crashAt S l c by_ i) l[i] ∧ crashAt S l c by_ i = all S (l.take i) := by
  unfold crashAt
  rw [if_pos (by omega), if_pos (by omega), all_take_succ S l i hi]
  exact ⟨rfl, rfl⟩
theorem crash_eq {S : Files} {l : List Lc} {c by_ : Int} {i : Nat} (hi : i < l.length) (h : (i : Int) = c) : crashAt S l c by_ (i + 1) = part (crashAt S l c by_ i) by_ l[i] ∧ crashAt S l c by_ i = all S (l.take i) := by
  unfold crashAt
  rw [if_neg (by omega), if_neg (by omega), if_pos (by omega)]
  have e : c.toNat = i := by omega
  rw [e, List.getElem?_eq_getElem hi]
  exact ⟨rfl, rfl⟩
theorem crash_gt {S : Files} {l : List Lc} {c by_ : Int} {i : Nat} (h : c < (i : Int)) : crashAt S l c by_ (i + 1) = crashAt S l c by_ i := by
  unfold crashAt
  rw [if_neg (show ¬ ((i + 1 : Nat) : Int) ≤ c by omega), if_neg (show ¬ (i : Int) ≤ c by omega)]
theorem flag_app {c : Lc} (h : flag c = 1) : ∃ k s, c = .app k s := by
  cases c with
  | app k s => exact ⟨k, s, rfl⟩
  | _ => exact absurd (show (0 : Int) = 1 from h) (by decide)
theorem part_flag {F : Files} {by_ : Int} {c : Lc} (h : flag c ≠ 1) : part F by_ c = F := by
  cases c with
  | app k s => exact absurd rfl h
  | _ => rfl
theorem rise_part {F : Files} (h : Rise F) (by_ : Int) (c : Lc) : Rise (part F by_ c) := by
  cases c with
  | app k s => exact rise_put h _ _
  | _ => exact h
theorem part_le {F : Files} (h : Rise F) (by_ : Int) (c : Lc) (room : Int) (h0 : (tot F : Int) ≤ room ∧ F.length ≤ 64) (h1 : (tot (done F c) : Int) ≤ room ∧ (done F c).length ≤ 64) : (tot (part F by_ c) : Int) ≤ room ∧ (part F by_ c).length ≤ 64 := by
  cases c with
  | app k s =>
    have a1 := tot_put h k (atF F k ++ s)
    have a2 := len_put h k (atF F k ++ s)
    have b1 := tot_put h k (atF F k ++ s.extract 0 (min (max by_ 0) s.size).toNat)
    have b2 := len_put h k (atF F k ++ s.extract 0 (min (max by_ 0) s.size).toNat)
    rw [ByteArray.size_append] at a1 b1
    rw [ByteArray.size_extract] at b1
    obtain ⟨c1, c2⟩ := h1
    have c1' : (tot (putF F k (atF F k ++ s)) : Int) ≤ room := c1
    have c2' : (putF F k (atF F k ++ s)).length ≤ 64 := c2
    refine ⟨?_, ?_⟩
    · show (tot (putF F k (atF F k ++ s.extract 0 (min (max by_ 0) s.size).toNat)) : Int) ≤ room
      omega
    · show (putF F k (atF F k ++ s.extract 0 (min (max by_ 0) s.size).toNat)).length ≤ 64
      omega
  | _ => exact h0
theorem crash_ok {M : DM} (h : DOk M) (c by_ : Int) : DOk (crashM M c by_) := by
  have hF : Rise (crashN M.sure M.loose c by_) ∧ (tot (crashN M.sure M.loose c by_) : Int) ≤ M.room ∧ (crashN M.sure M.loose c by_).length ≤ 64 := by
    have h0 := h.small 0 (Nat.zero_le _)
    unfold crashN crashAt
    split
    · exact ⟨rise_all h.rise _, h.small _ (Nat.le_refl _)⟩
    · split
      · exact ⟨h.rise, by simpa [all] using h0⟩
      · rename_i h1 h2
        have hc : c.toNat < M.loose.length := by omega
        rw [List.getElem?_eq_getElem hc]
        refine ⟨rise_part (rise_all h.rise _) _ _, part_le (rise_all h.rise _) _ _ _ (h.small _ (Nat.le_of_lt hc)) ?_⟩
        rw [← all_take_succ M.sure M.loose _ hc]
        exact h.small _ hc
  refine ⟨h.room, hF.1, rfl, fun j hj => ?_, fun j x hx => by simp [crashM] at hx, by simp [crashM]⟩
  obtain rfl : j = 0 := by simpa [crashM] using hj
  exact hF.2
end Go.Dsk
