/-
  The contracts of the confs' functions: member.May, Has, Majority, Quorum; codicilref23.MayConf; codicilref24.Has, Quorum. Over any list of ints.
-/
import Derived.Test.YtjjdfhokmiaekaaProg
import Derived.Test.YtjjdfhokmiaekaaLst
namespace Go.Proofs.Ytjjdfhokmiaekaa
open Go.RowKit Go.Lst

def up : List Int → Bool
  | [] => true
  | [x] => decide (1 ≤ x ∧ x ≤ 64)
  | x :: y :: l => decide (1 ≤ x ∧ x ≤ 64) && decide (x < y) && up (y :: l)
/-- Which confs may be. -/
def may (l : List Int) : Bool := up l && decide (1 ≤ l.length ∧ l.length ≤ 7)
/-- As the loop asks it. -/
def upAt (l : List Int) (i : Nat) : Bool := decide (1 ≤ l.getD i 0 ∧ l.getD i 0 ≤ 64 ∧ (0 < i → l.getD (i - 1) 0 < l.getD i 0))
theorem up_iff (l : List Int) : up l = true ↔ ∀ i, i < l.length → upAt l i = true := by
  induction l with
  | nil => simp [up]
  | cons x l ih =>
    cases l with
    | nil =>
      simp only [up, List.length_singleton]
      constructor
      · intro h i hi
        obtain rfl : i = 0 := by omega
        simpa [upAt] using h
      · intro h
        simpa [upAt] using h 0 (by omega)
    | cons y l =>
      simp only [up, Bool.and_eq_true, decide_eq_true_eq, ih]
      constructor
      · rintro ⟨⟨h1, h2⟩, h3⟩ i hi
        cases i with
        | zero => simp [upAt, h1]
        | succ i =>
          have := h3 i (by simpa using hi)
          unfold upAt at this ⊢
          rw [decide_eq_true_eq] at this ⊢
          simp only [List.getD_cons_succ, Nat.add_sub_cancel]
          refine ⟨this.1, this.2.1, fun _ => ?_⟩
          cases i with
          | zero => simpa using h2
          | succ i => simpa using this.2.2 (by omega)
      · intro h
        refine ⟨⟨?_, ?_⟩, fun i hi => ?_⟩
        · have := h 0 (by simp); simpa [upAt] using this
        · have := h 1 (by simp); simp [upAt] at this; omega
        · have := h (i + 1) (by simpa using hi)
          unfold upAt at this ⊢
          rw [decide_eq_true_eq] at this ⊢
          simp only [List.getD_cons_succ, Nat.add_sub_cancel] at this
          refine ⟨this.1, this.2.1, fun h0 => ?_⟩
          have h2 := this.2.2 (by omega)
          cases i with
          | zero => omega
          | succ i => simpa using h2

theorem snoc_all {P : Nat → Prop} {i : Nat} (h : ∀ j, j < i → P j) (h' : P i) : ∀ j, j < i + 1 → P j := fun j hj => by
  by_cases e : j = i
  · rw [e]; exact h'
  · exact h j (by omega)
theorem may_false {xs : List Int} {i : Nat} (hi : i < xs.length) (h : upAt xs i = false) : may xs = false := by
  have : up xs = false := by
    cases e : up xs with
    | false => rfl
    | true => rw [(up_iff xs).1 e i hi] at h; cases h
  simp [may, this]
theorem may_all {xs : List Int} (h : ∀ j, j < xs.length → upAt xs j = true) : may xs = decide (1 ≤ xs.length ∧ xs.length ≤ 7) := by
  simp [may, (up_iff xs).2 h]

set_option maxRecDepth 100000 in
set_option maxHeartbeats 1000000 in
theorem May_calls (v : Value) (xs : List Int) (w : World) (h : Nums .i64 w v xs) :
    Calls Try.prog 47 #[v] w fun e w' => e = .returned (.bool (may xs)) ∧ Below w.heap.size w w' := by
  obtain ⟨p, c, rfl, hc1, hc2, hcell⟩ := h.parts
  clear h
  go_enter Try.func47, Try.ntmps47
  go_wp2_with fail
  go_loopg [7] (xs.length + 1) (fun k v7 wr => ∃ i : Nat, v7 = .int .i64 (i : Int) ∧ i ≤ xs.length ∧ xs.length < i + k ∧ (∀ j, j < i → upAt xs j = true) ∧ Below w.heap.size w wr)
  case atStart => exact ⟨0, rfl, by omega, by omega, fun j hj => by omega, Below.refl _ _⟩
  case round =>
    obtain ⟨i, rfl, hile, hfuel, hup, hB⟩ := hrel
    cases gk with
    | zero => omega
    | succ k =>
      have hup' := Lib.hid hup
      clear hup
      by_cases hlt : i < xs.length
      · have hlt1 : (i : Int) < (xs.length : Int) := by omega
        have h0 : (0 : Int) ≤ (i : Int) := by omega
        have hpc : i = 0 ∨ (∃ a, p = some a ∧ wr.cell? (a.add (i - 1)) = some (.int .i64 (xs.getD (i - 1) 0))) := by
          by_cases h : i = 0
          · exact .inl h
          · obtain ⟨b, h1, h2⟩ := hcell (i - 1) (by omega)
            exact .inr ⟨b, h1, (cell_below hB h2).trans h2⟩
        obtain ⟨a, rfl, hca⟩ := hcell i hlt
        replace hca := (cell_below hB hca).trans hca
        have hu : upAt xs i = decide (1 ≤ xs.getD i 0 ∧ xs.getD i 0 ≤ 64 ∧ (0 < i → xs.getD (i - 1) 0 < xs.getD i 0)) := rfl
        have hbad := Lib.hid (fun h => may_false (xs := xs) (i := i) hlt h)
        generalize xs.getD i 0 = X at *
        generalize xs.getD (i - 1) 0 = Y at *
        by_cases hx1 : X < 1
        · have hm := Lib.hid (hbad.out (by rw [hu]; simp; omega))
          clear hu hbad hpc
          go_wp2_with fail
          go_ret
          exact ⟨by rw [hm.out]; rfl, hB⟩
        · by_cases hx2 : 64 < X
          · have hm := Lib.hid (hbad.out (by rw [hu]; simp; omega))
            clear hu hbad hpc
            go_wp2_with fail
            go_ret
            exact ⟨by rw [hm.out]; rfl, hB⟩
          · by_cases hi0 : i = 0
            · have hu' := Lib.hid (show upAt xs i = true by rw [hu]; simp; omega)
              clear hu hbad hpc
              subst hi0
              rw [show a.add 0 = a from rfl] at hca
              go_wp2_with fail
              go_roundg k
              case measure => omega
              case rel => exact ⟨1, rfl, by omega, by omega, snoc_all (i := 0) hup'.out hu'.out, hB⟩
            · obtain ⟨b, hb, hcb⟩ : ∃ b, some a = some b ∧ wr.cell? (b.add (i - 1)) = some (.int .i64 Y) := hpc.resolve_left hi0
              cases hb
              have hd : decide ((0 : Int) < (i : Int)) = true := by simp; omega
              have hi1 : (i : Int) - 1 = ((i - 1 : Nat) : Int) := by omega
              have hi2 : wrap64 ((i - 1 : Nat) : Int) = ((i - 1 : Nat) : Int) := IntWalk.wrap64_in _ (by unfold maxLen at *; omega)
              have hi3 : ((i - 1 : Nat) : Int) < (xs.length : Int) := by omega
              have hi4 : (0 : Int) ≤ ((i - 1 : Nat) : Int) := by omega
              generalize i - 1 = i' at *
              by_cases hy : X ≤ Y
              · have hm := Lib.hid (hbad.out (by rw [hu]; simp; omega))
                clear hu hbad hpc
                go_wp2_with fail
                go_ret
                exact ⟨by rw [hm.out]; rfl, hB⟩
              · have hu' := Lib.hid (show upAt xs i = true by rw [hu]; simp; omega)
                clear hu hbad hpc
                go_wp2_with fail
                go_roundg k
                case measure => omega
                case rel => exact ⟨i + 1, by rw [IntWalk.wrap64_in _ (by unfold maxLen at *; omega)]; rfl, by omega, by omega, snoc_all hup'.out hu'.out, hB⟩
      · have hd : decide ((i : Int) < (xs.length : Int)) = false := by simp; omega
        have hm := Lib.hid (may_all (xs := xs) fun j hj => hup'.out j (by omega))
        by_cases h1 : 1 ≤ xs.length
        · have g1 : decide ((1 : Int) ≤ (xs.length : Int)) = true := by simp; omega
          by_cases h7 : xs.length ≤ 7
          · have g7 : decide ((xs.length : Int) ≤ 7) = true := by simp; omega
            have hr : may xs = true := by rw [hm.out]; simp; omega
            have hr' := Lib.hid hr
            clear hr
            go_wp2_with fail
            go_ret
            exact ⟨by rw [hr'.out]; rfl, hB⟩
          · have g7 : decide ((xs.length : Int) ≤ 7) = false := by simp; omega
            have hr : may xs = false := by rw [hm.out]; simp; omega
            have hr' := Lib.hid hr
            clear hr
            go_wp2_with fail
            go_ret
            exact ⟨by rw [hr'.out]; rfl, hB⟩
        · have g1 : decide ((1 : Int) ≤ (xs.length : Int)) = false := by simp; omega
          have hr : may xs = false := by rw [hm.out]; simp; omega
          have hr' := Lib.hid hr
          clear hr
          go_wp2_with fail
          go_ret
          exact ⟨by rw [hr'.out]; rfl, hB⟩
end Go.Proofs.Ytjjdfhokmiaekaa
