/-
  A slice of texts that is read; the contract of codicilref07.Same, and of codicillaw07.works.
-/
import Derived.Test.YtfcicfkgbepagaaSegRun
namespace Go.Proofs.Ytfcicfkgbepagaa
open Go.RowKit

/-- A slice of texts, as it is read in a world: nil, or cells. -/
def Reads (w : World) (v : Value) (ts : List (List UInt8)) : Prop :=
  ∃ (p : Option Addr) (c : Nat), v = .slice p ts.length c ∧ ts.length ≤ c ∧ c ≤ maxLen ∧ ∀ i (_ : i < ts.length), ∃ a, p = some a ∧ w.cell? (a.add i) = some (sv ts[i])
theorem Texts.reads {w0 : Nat} {w : World} {v : Value} {ts : List (List UInt8)} (h : Texts w0 w v ts) : Reads w v ts := by
  rcases h.2 with ⟨rfl, h0⟩ | ⟨g, cap, cur, rfl, _, h2, h3, h4, h5, h6⟩
  · exact ⟨none, 0, by rw [h0], by omega, by unfold maxLen; omega, fun i hi => by omega⟩
  · refine ⟨some ⟨g, 0, none⟩, cap, rfl, h3, h4, fun i hi => ⟨_, rfl, ?_⟩⟩
    have e : (Addr.add ⟨g, 0, none⟩ i) = ⟨g, i, none⟩ := by unfold Addr.add; split <;> simp_all
    rw [e]
    simp only [World.cell?, h2, Option.isSome_none, Bool.false_eq_true, if_false]
    have : (cur.toList.take (ts.length * 1))[i]? = some (sv ts[i]) := by rw [h6]; simp [hi]
    rw [List.getElem?_take, if_pos (by omega)] at this
    simpa using this
theorem Reads.below {w w' : World} {v : Value} {ts : List (List UInt8)} (h : Reads w v ts) (hb : Below w.heap.size w w') : Reads w' v ts := by
  obtain ⟨p, c, e1, e2, e3, e4⟩ := h
  refine ⟨p, c, e1, e2, e3, fun i hi => ?_⟩
  obtain ⟨a, e5, e6⟩ := e4 i hi
  refine ⟨a, e5, ?_⟩
  rw [World.cell?_of_block (hb.block _ ?_)]
  · exact e6
  · by_cases hl : (a.add i).block < w.heap.size
    · exact hl
    · simp [World.cell?, Array.getElem?_eq_none (Nat.le_of_not_lt hl)] at e6

theorem str_list (l : List UInt8) : (str l).toList = l := by rw [ByteArray.toList_eq, str_data]
theorem cell_below {w w' : World} {a : Addr} {v : Value} (hb : Below w.heap.size w w') (h : w.cell? a = some v) : w'.cell? a = w.cell? a := by
  refine World.cell?_of_block (hb.block _ ?_)
  by_cases hl : a.block < w.heap.size
  · exact hl
  · simp [World.cell?, Array.getElem?_eq_none (Nat.le_of_not_lt hl)] at h
theorem cell_in {w : World} {p : Option Addr} {xs : List (List UInt8)} (h : ∀ i (_ : i < xs.length), ∃ a, p = some a ∧ w.cell? (a.add i) = some (sv xs[i])) (i : Nat) (hi : i < xs.length) :
    ∃ a, p = some a ∧ w.cell? (a.add i) = some (.string (str (xs.getD i []))) := by
  obtain ⟨a, h1, h2⟩ := h i hi
  refine ⟨a, h1, ?_⟩
  rw [h2, List.getD_eq_getElem?_getD, List.getElem?_eq_getElem hi]; rfl
theorem add_nat (a : Addr) (i : Nat) : a.add ((i : Int).toNat * 1) = a.add i := by simp
set_option maxRecDepth 100000 in
set_option maxHeartbeats 1000000 in
theorem Same_calls (va vb : Value) (xs ys : List (List UInt8)) (w : World) (ha : Reads w va xs) (hb : Reads w vb ys) :
    Calls Try.prog 24 #[va, vb] w fun e w' => e = .returned (.bool (decide (xs = ys))) ∧ Below w.heap.size w w' := by
  obtain ⟨p, c, rfl, hc1, hc2, hcell⟩ := ha
  obtain ⟨q, d, rfl, hd1, hd2, hdell⟩ := hb
  by_cases hne : xs.length = ys.length
  · have hne' : ((xs.length : Int) != (ys.length : Int)) = false := by rw [hne]; simp
    go_enter Try.func24, Try.ntmps24
    go_wp2_with fail
    go_loopg [5] (xs.length + 1) (fun k v5 wr => ∃ i : Nat, v5 = .int .i64 (i : Int) ∧ i ≤ xs.length ∧ xs.length < i + k ∧ xs.take i = ys.take i ∧ Below w.heap.size w wr)
    case atStart => exact ⟨0, rfl, by omega, by omega, rfl, Below.refl _ _⟩
    case round =>
      obtain ⟨i, rfl, hile, hfuel, htk, hB⟩ := hrel
      cases gk with
      | zero => omega
      | succ k =>
        by_cases hlt : i < xs.length
        · have hlt1 : (i : Int) < (xs.length : Int) := by omega
          have hlt2 : (i : Int) < (ys.length : Int) := by omega
          have h0 : (0 : Int) ≤ (i : Int) := by omega
          obtain ⟨a, rfl, hca⟩ := cell_in hcell i hlt
          obtain ⟨b, rfl, hcb⟩ := cell_in hdell i (by omega)
          replace hca := (cell_below hB hca).trans hca
          replace hcb := (cell_below hB hcb).trans hcb
          have ht1 : xs.take (i + 1) = xs.take i ++ [xs.getD i []] := by rw [List.take_add_one, List.getD_eq_getElem?_getD, List.getElem?_eq_getElem hlt]; rfl
          have ht2 : ys.take (i + 1) = ys.take i ++ [ys.getD i []] := by rw [List.take_add_one, List.getD_eq_getElem?_getD, List.getElem?_eq_getElem (by omega)]; rfl
          generalize hX : xs.getD i [] = X at *
          generalize hY : ys.getD i [] = Y at *
          by_cases hxy : X = Y
          · have hxy' : (!(str X).toList == (str Y).toList) = false := by rw [str_list, str_list, hxy]; simp
            rw [hX, hY] at *
            have ht := Lib.hid (show xs.take (i + 1) = ys.take (i + 1) by rw [ht1, ht2, htk, hxy])
            clear ht1 ht2 htk hxy hX hY
            go_wp2_with fail
            go_region
            go_wp2_with fail
            go_roundg k
            case measure => omega
            case rel => exact ⟨i + 1, by rw [IntWalk.wrap64_in _ (by unfold maxLen at *; omega)]; rfl, by omega, by omega, ht.out, hB.drew⟩
          · have hxy' : (!(str X).toList == (str Y).toList) = true := by rw [str_list, str_list]; simpa using hxy
            have hr : decide (xs = ys) = false := decide_eq_false (fun h => hxy (by rw [← hX, ← hY, h]))
            clear ht1 ht2 htk hxy hX hY
            go_wp2_with fail
            go_region
            go_wp2_with fail
            go_ret
            exact ⟨by rw [hr]; rfl, hB.drew⟩
        · have hlt1 : ¬ (i : Int) < (xs.length : Int) := by omega
          have hr : decide (xs = ys) = true := decide_eq_true (by rw [← List.take_of_length_le (i := i) (l := xs) (by omega), ← List.take_of_length_le (i := i) (l := ys) (by omega), htk])
          go_wp2_with fail
          go_ret
          exact ⟨rfl, hB⟩
  · have hne' : ((xs.length : Int) != (ys.length : Int)) = true := by rw [bne_iff_ne]; omega
    have hr : decide (xs = ys) = false := decide_eq_false (fun h => hne (by rw [h]))
    rw [hr]
    go_enter Try.func24, Try.ntmps24
    go_wp2_with fail
    go_ret
    exact ⟨rfl, Below.refl _ _⟩
end Go.Proofs.Ytfcicfkgbepagaa
