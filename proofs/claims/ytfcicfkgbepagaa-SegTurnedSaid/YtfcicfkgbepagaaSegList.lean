/-
  The contracts of codicillaw07.size and frames, over texts of at most 1048576 letters together.
-/
import Derived.Test.YtfcicfkgbepagaaSegWorks
namespace Go.Proofs.Ytfcicfkgbepagaa
open Go.RowKit

def total (ts : List (List UInt8)) : Nat := (ts.map List.length).sum
def framesOf (ts : List (List UInt8)) : List UInt8 := (ts.map frame).flatten
theorem total_take (ts : List (List UInt8)) (i : Nat) (h : i < ts.length) : total (ts.take (i + 1)) = total (ts.take i) + (ts.getD i []).length := by
  unfold total
  rw [List.take_add_one, List.getElem?_eq_getElem h, List.map_append, List.sum_append, List.getD_eq_getElem?_getD, List.getElem?_eq_getElem h]
  simp
theorem total_take_le (ts : List (List UInt8)) (i : Nat) : total (ts.take i) ≤ total ts := by
  have := congrArg total (List.take_append_drop i ts)
  unfold total at *
  rw [List.map_append, List.sum_append] at this
  omega
theorem frames_take (ts : List (List UInt8)) (i : Nat) (h : i < ts.length) : framesOf (ts.take (i + 1)) = framesOf (ts.take i) ++ frame (ts.getD i []) := by
  unfold framesOf
  rw [List.take_add_one, List.getElem?_eq_getElem h, List.map_append, List.flatten_append, List.getD_eq_getElem?_getD, List.getElem?_eq_getElem h]
  simp
theorem frame_len (t : List UInt8) : (frame t).length = 12 + t.length := by
  simp [frame, be4, le4]; omega
theorem frames_len (ts : List (List UInt8)) : (framesOf ts).length = 12 * ts.length + total ts := by
  induction ts with
  | nil => rfl
  | cons t ts ih =>
    have e : framesOf (t :: ts) = frame t ++ framesOf ts := by simp [framesOf]
    rw [e, List.length_append, ih, frame_len]
    simp [total]; omega
theorem getD_len (ts : List (List UInt8)) (i : Nat) (h : i < ts.length) : (ts.getD i []).length ≤ total ts := by
  have := total_take ts i h
  have := total_take_le ts (i + 1)
  omega

/-- Each text is one that a process can hold: the form's own reach. -/
def Fits (ts : List (List UInt8)) : Prop := ∀ i, i < ts.length → (ts.getD i []).length ≤ 140737488355328
theorem fits_total {ts : List (List UInt8)} (h : Fits ts) (i : Nat) (hi : i ≤ ts.length) : total (ts.take i) ≤ i * 140737488355328 := by
  induction i with
  | zero => simp [total]
  | succ i ih =>
    have h1 := total_take ts i (by omega)
    have h2 := h i (by omega)
    have h3 := ih (by omega)
    rw [h1, Nat.succ_mul]
    omega
set_option maxRecDepth 100000 in
set_option maxHeartbeats 1000000 in
theorem size_calls (v : Value) (ts : List (List UInt8)) (w : World) (h : Reads w v ts) (hn : Fits ts) :
    Calls Try.prog 25 #[v] w fun e w' => e = .returned (.int .i64 (if ts.length ≤ 100 then (total ts : Int) else 1048576)) ∧ Below w.heap.size w w' := by
  obtain ⟨p, c, rfl, hc1, hc2, hcell⟩ := h
  go_enter Try.func25, Try.ntmps25
  go_wp2_with fail
  go_loopg [3, 4] (ts.length + 1) (fun k v3 v4 wr => ∃ i : Nat, v4 = .int .i64 (i : Int) ∧ v3 = .int .i64 (total (ts.take i) : Int) ∧ i ≤ ts.length ∧ i ≤ 200 ∧ ts.length < i + k ∧ Below w.heap.size w wr)
  case atStart => exact ⟨0, rfl, rfl, by omega, by omega, by omega, Below.refl _ _⟩
  case round =>
    obtain ⟨i, rfl, rfl, hile, hi2, hfuel, hB⟩ := hrel
    cases gk with
    | zero => omega
    | succ k =>
      by_cases hlt : i < ts.length ∧ i < 200
      · obtain ⟨hlt, hlt2⟩ := hlt
        have hlt1 : (i : Int) < (ts.length : Int) := by omega
        have h0 : (0 : Int) ≤ (i : Int) := by omega
        have hd1 : decide ((i : Int) < (ts.length : Int)) = true := by simpa using hlt
        have hd2 : decide ((i : Int) < 200) = true := by simp; omega
        obtain ⟨a, rfl, hca⟩ := cell_in hcell i hlt
        replace hca := (cell_below hB hca).trans hca
        have ht := total_take ts i hlt
        have hl := fits_total hn i (by omega)
        have hl2 := hn i hlt
        have hsz := str_size (ts.getD i [])
        have ht3 : wrap64 ((total (ts.take i) : Int) + ((str (ts.getD i [])).size : Int)) = (total (ts.take (i + 1)) : Int) := by
          rw [IntWalk.wrap64_in _ (by omega), hsz]; omega
        have ht3 := Lib.hid ht3
        clear hl hl2 hsz ht hn
        generalize ts.getD i [] = X at *
        go_wp2_with fail
        go_roundg k
        case measure => omega
        case rel => exact ⟨i + 1, by go_num, by rw [← ht3.out], by omega, by omega, by omega, hB⟩
      · by_cases h100 : ts.length ≤ 100
        · have hd : decide ((i : Int) < (ts.length : Int)) = false := by simp; omega
          have hd3 : decide ((100 : Int) < (ts.length : Int)) = false := by simp; omega
          have e : ts.take i = ts := List.take_of_length_le (by omega)
          have hr : Ending.returned (.int .i64 (total (ts.take i) : Int)) = .returned (.int .i64 (total ts : Int)) := by rw [e]
          have hr' := Lib.hid hr
          clear hn hr e
          go_wp2_with fail
          go_ret
          exact ⟨hr'.out, hB⟩
        · have hd3 : decide ((100 : Int) < (ts.length : Int)) = true := by simp; omega
          by_cases hlt3 : i < ts.length
          all_goals
            have hd : decide ((i : Int) < (ts.length : Int)) = decide (i < ts.length) := by simp
            have hd4 : decide ((i : Int) < 200) = false ∨ ¬ i < ts.length := by simp; omega
            clear hn
            simp only [hlt3, decide_true, decide_false, not_true, not_false_iff, or_true, or_false] at hd hd4
            go_wp2_with fail
            go_ret
            exact ⟨by first | rfl | (rw [if_neg h100]; rfl), hB⟩

set_option maxRecDepth 100000 in
set_option maxHeartbeats 1000000 in
theorem frames_calls (v : Value) (ts : List (List UInt8)) (w : World) (h : Reads w v ts) (hn : total ts ≤ 8192) (hm : ts.length ≤ 100) :
    Calls Try.prog 26 #[v] w fun e w' => e = .returned (.tuple #[.string (str (framesOf ts)), .bool true]) ∧ Below w.heap.size w w' := by
  obtain ⟨p, c, rfl, hc1, hc2, hcell⟩ := h
  go_enter Try.func26, Try.ntmps26
  go_wp2_with fail
  go_loopg [4, 5] (ts.length + 1) (fun k v4 v5 wr => ∃ i : Nat, v5 = .int .i64 (i : Int) ∧ v4 = .string (str (framesOf (ts.take i))) ∧ i ≤ ts.length ∧ ts.length < i + k ∧ Below w.heap.size w wr)
  case atStart => exact ⟨0, rfl, rfl, by omega, by omega, Below.refl _ _⟩
  case round =>
    obtain ⟨i, rfl, rfl, hile, hfuel, hB⟩ := hrel
    cases gk with
    | zero => omega
    | succ k =>
      by_cases hlt : i < ts.length
      · have hlt1 : (i : Int) < (ts.length : Int) := by omega
        have h0 : (0 : Int) ≤ (i : Int) := by omega
        obtain ⟨a, rfl, hca⟩ := cell_in hcell i hlt
        replace hca := (cell_below hB hca).trans hca
        have hg := getD_len ts i hlt
        have hF := Lib.hid (fun W => Frame_calls (str (ts.getD i [])) W (by rw [str_size]; omega))
        rw [str_data] at hF
        have hfl := frame_len (ts.getD i [])
        have hfl2 := frames_len (ts.take i)
        have htl := total_take_le ts i
        rw [List.length_take] at hfl2
        have hadd := Lib.hid (str_append (framesOf (ts.take i)) (frame (ts.getD i [])))
        rw [← frames_take ts i hlt] at hadd
        have hs1 := str_size (framesOf (ts.take i))
        have hs2 := str_size (frame (ts.getD i []))
        have hsz : (str (framesOf (ts.take i))).size + (str (frame (ts.getD i []))).size ≤ 30000 := by omega
        have hi1 : (i : Int) ≤ 100 := by omega
        generalize ts.getD i [] = X at *
        generalize frame X = F at *
        generalize str (framesOf (ts.take i)) = G at *
        clear hs1 hs2 hfl hfl2 htl hg hn hm
        go_wp2_with fail
        refine (hF.out _).mono ?_
        rintro e w1 ⟨rfl, hb1⟩
        go_wp2_with fail
        go_roundg k
        case measure => omega
        case rel => exact ⟨i + 1, by go_num, by rw [hadd.out], by omega, by omega, Lx.bstep hB (Nat.le_refl _) hb1⟩
      · have hd : decide ((i : Int) < (ts.length : Int)) = false := by simp; omega
        have e : ts.take i = ts := List.take_of_length_le (by omega)
        rw [e]
        clear hn hm
        go_wp2_with fail
        go_ret2
        exact ⟨rfl, hB⟩
end Go.Proofs.Ytfcicfkgbepagaa
