/-
  The walk of SegCut.
-/
import Derived.Test.YtfcicfkgbepagaaSegJoin
namespace Go.Proofs.Ytfcicfkgbepagaa
open Go.RowKit

set_option maxRecDepth 100000 in
set_option maxHeartbeats 2000000 in
theorem Cut_far (v : Value) (a : Int) (w : World) (N : Nat) (hN : Calls Try.prog 25 #[v] w (fun e w' => e = .returned (.int .i64 (N : Int)) ∧ Below w.heap.size w w')) (h : ¬ (N : Int) ≤ 8192) :
    Calls Try.prog 7 #[v, .int .u16 a] w fun e w' => e = .returned (.bool true) ∧ Below w.heap.size w w' := by
  have hN' := Lib.hid hN
  clear hN
  have hx2 : decide ((8192 : Int) < (N : Int)) = true := by simp; omega
  clear h
  go_enter Try.func7, Try.ntmps7
  go_wp2_with fail
  refine hN'.out.mono ?_
  rintro e w1 ⟨rfl, hb1⟩
  go_wp2_with fail
  refine (works07_calls _).mono ?_
  rintro e w8 ⟨rfl, hb8⟩
  go_wp2_with fail
  go_ret
  exact ⟨rfl, Lx.bstep hb1 (Nat.le_refl _) hb8⟩

theorem cut_str (ts : List (List UInt8)) (n : Nat) : (str (framesOf ts)).extract 0 n = str ((framesOf ts).take n) := by
  rw [← str_of ((str (framesOf ts)).extract 0 n), piece, str_data]; rfl
theorem reads_take {w : World} {p : Option Addr} {ts : List (List UInt8)} {n c : Nat} (j : Nat) (hj : j ≤ ts.length) (h : Reads w (.slice p n c) ts) : Reads w (.slice p j c) (ts.take j) := by
  have h' : Reads w (.slice p n c) (ts.take j ++ ts.drop j) := by rw [List.take_append_drop]; exact h
  have := reads_pre h'
  rw [List.length_take, Nat.min_eq_left hj] at this
  exact this

/-- What a cut leaves, as the law's last lines ask it. -/
theorem cut_facts (ts : List (List UInt8)) (hsm : Small ts) (n : Nat) (hn : n ≤ (framesOf ts).length) : ∃ j g e : Nat, scanAll ((framesOf ts).take n) = (ts.take j, g, e) ∧ j ≤ ts.length ∧
    ((g = n ∧ e = 0) ∨ (e = 70 ∧ (g : Int) ≤ (n : Int) ∧ ((g : Int) == (n : Int)) = false)) ∧ ((n : Int) < ((framesOf ts).length : Int) ∨ j = ts.length) ∧ (j < ts.length → (n : Int) - (g : Int) < 12 + ((ts.getD j []).length : Int)) := by
  obtain ⟨j, g, h1, h2, h3, h4, h5⟩ := scan_cut ts (len_of ts hsm.2) n hn
  refine ⟨j, g, if g = n then 0 else 70, h3, h1, ?_, by omega, fun h => by have := h4 h; omega⟩
  by_cases e : g = n
  · simp [e]
  · rw [if_neg e]
    exact .inr ⟨rfl, by omega, beq_eq_false_iff_ne.2 (by omega)⟩

set_option maxRecDepth 100000 in
set_option maxHeartbeats 2000000 in
theorem Cut_near (v : Value) (ts : List (List UInt8)) (a : Int) (w : World) (hr : Reads w v ts) (N : Nat) (hN : Calls Try.prog 25 #[v] w (fun e w' => e = .returned (.int .i64 (N : Int)) ∧ Below w.heap.size w w')) (hx : (N : Int) ≤ 8192) (hsm : Small ts) (ha : 0 ≤ a ∧ a < 65536) :
    Calls Try.prog 7 #[v, .int .u16 a] w fun e w' => e = .returned (.bool true) ∧ Below w.heap.size w w' := by
  have hN' := Lib.hid hN
  have hF := Lib.hid (fun W h => frames_calls v ts W h hsm.2 hsm.1)
  have hFs : ((str (framesOf ts)).size : Int) ≤ 9392 := by rw [str_size, frames_len]; have := hsm.1; have := hsm.2; omega
  have hFl : (str (framesOf ts)).size = (framesOf ts).length := str_size _
  obtain ⟨n, hn, hnl⟩ : ∃ n : Nat, a % ((((str (framesOf ts)).size : Nat) : Int) + 1) = (n : Int) ∧ n ≤ (str (framesOf ts)).size := by
    have h3 := Int.emod_nonneg a (show ((((str (framesOf ts)).size : Nat) : Int) + 1) ≠ 0 by omega)
    have h4 := Int.emod_lt_of_pos a (show 0 < ((((str (framesOf ts)).size : Nat) : Int) + 1) by omega)
    exact ⟨(a % ((((str (framesOf ts)).size : Nat) : Int) + 1)).toNat, by omega, by omega⟩
  obtain ⟨j, g, e, c1, c2, c3, c6, c7⟩ := cut_facts ts hsm n (by omega)
  have hS := Lib.hid (fun W => (Scan_calls ((str (framesOf ts)).extract 0 n) W (by simp; omega)).mono fun _ _ => scan_post)
  rw [cut_str, str_data, c1, ← cut_str] at hS
  rw [← hFl] at c6
  have hx2 : decide ((8192 : Int) < (N : Int)) = false := by simp; omega
  have hl100 := hsm.1
  have hlj : (ts.take j).length = j := by rw [List.length_take]; omega
  have hgs : ((ts.getD j []).length : Int) ≤ 8192 ∨ ts.length ≤ j := by
    by_cases hj : j < ts.length
    · have := getD_len ts j hj; have := hsm.2; omega
    · omega
  have hn0 : (n : Int) ≤ (str (framesOf ts)).size := by omega
  clear c1 hN hsm hFl
  generalize str (framesOf ts) = F at *
  dsimp only at *
  by_cases hj : j < ts.length
  · have hjd : decide ((j : Int) < (ts.length : Int)) = true := by simp; omega
    have c7' := c7 hj
    have hgs' : ((ts.getD j []).length : Int) ≤ 8192 := by omega
    have hjn : (0 : Int) ≤ (j : Int) := by omega
    have hji : (j : Int) < (ts.length : Int) := by omega
    have c6' : n < F.size := by omega
    clear c7 hgs c6
    rcases c3 with ⟨rfl, rfl⟩ | ⟨rfl, c4, c5⟩
    all_goals
      go_enter Try.func7, Try.ntmps7
      go_wp2_with fail
      refine hN'.out.mono ?_
      rintro e w1 ⟨rfl, hb1⟩
      replace hr := hr.below hb1
      go_wp2_with fail
      refine (hF.out _ hr).mono ?_
      rintro e w2 ⟨rfl, hb2⟩
      replace hr := hr.below hb2
      go_wp2_with fail
      refine (hS.out _).mono ?_
      rintro e w3 ⟨u, rfl, hu, hb3⟩
      replace hr := hr.below hb3
      have hr' := Lib.hid hr
      have hu' := Lib.hid hu
      obtain ⟨p1, d1, rfl, hc1, hc2, hcell⟩ := hr
      obtain ⟨p2, d2, rfl, hd1, hd2, _⟩ := hu
      rw [hlj] at *
      have hjc : j ≤ d1 := by omega
      rw [hn]
      clear hN' hF hS hn
      go_wp2_with fail
      refine (Same_calls _ _ (ts.take j) (ts.take j) _ hu'.out (reads_take j (by omega) hr'.out)).mono ?_
      rintro e w4 ⟨rfl, hb4⟩
      rw [decide_eq_true (Eq.refl (ts.take j))]
      obtain ⟨x, rfl, hx1⟩ := cell_in hcell j hj
      replace hx1 := (cell_below hb4 hx1).trans hx1
      have hcs := str_size (ts.getD j [])
      generalize ts.getD j [] = X at *
      rw [← hcs] at c7' hgs'
      have hX : (0 : Int) ≤ ((str X).size : Int) := by omega
      have hz0 : decide (12 + ((str X).size : Int) ≤ 0) = false := by simp; omega
      try have hz1 : decide (12 + ((str X).size : Int) ≤ (n : Int) - (g : Int)) = false := by simp; omega
      clear hcell hcs
      go_wp2_with fail
      refine (works07_calls _).mono ?_
      rintro e w8 ⟨rfl, hb8⟩
      go_wp2_with fail
      go_ret
      exact ⟨rfl, Lx.bstep (Lx.bstep (Lx.bstep (Lx.bstep hb1 (Nat.le_refl _) hb2) (Nat.le_refl _) hb3) (Nat.le_refl _) hb4) (Nat.le_refl _) hb8⟩
  · obtain rfl : j = ts.length := by omega
    clear c7 hgs c6
    rcases c3 with ⟨rfl, rfl⟩ | ⟨rfl, c4, c5⟩
    all_goals
      go_enter Try.func7, Try.ntmps7
      go_wp2_with fail
      refine hN'.out.mono ?_
      rintro e w1 ⟨rfl, hb1⟩
      replace hr := hr.below hb1
      go_wp2_with fail
      refine (hF.out _ hr).mono ?_
      rintro e w2 ⟨rfl, hb2⟩
      replace hr := hr.below hb2
      go_wp2_with fail
      refine (hS.out _).mono ?_
      rintro e w3 ⟨u, rfl, hu, hb3⟩
      replace hr := hr.below hb3
      have hr' := Lib.hid hr
      have hu' := Lib.hid hu
      obtain ⟨p1, d1, rfl, hc1, hc2, hcell⟩ := hr
      obtain ⟨p2, d2, rfl, hd1, hd2, _⟩ := hu
      rw [hlj] at *
      rw [hn]
      clear hN' hF hS hn
      go_wp2_with fail
      refine (Same_calls _ _ (ts.take ts.length) (ts.take ts.length) _ hu'.out (reads_take ts.length (by omega) hr'.out)).mono ?_
      rintro e w4 ⟨rfl, hb4⟩
      rw [decide_eq_true (Eq.refl (ts.take ts.length))]
      clear hcell
      go_wp2_with fail
      all_goals
        refine (works07_calls _).mono ?_
        rintro e w8 ⟨rfl, hb8⟩
        go_wp2_with fail
        go_ret
        exact ⟨rfl, Lx.bstep (Lx.bstep (Lx.bstep (Lx.bstep hb1 (Nat.le_refl _) hb2) (Nat.le_refl _) hb3) (Nat.le_refl _) hb4) (Nat.le_refl _) hb8⟩

theorem SegCut_walk (v : Value) (ts : List (List UInt8)) (a : Int) (w : World) (hr : Reads w v ts) (hn : Fits ts) (wa : (Lit.int .u16 a).wf = true) :
    Calls Try.prog 7 #[v, .int .u16 a] w fun e w' => e = .returned (.bool true) ∧ Below w.heap.size w w' := by
  obtain ⟨N, hN, hN2⟩ := size_says v ts w hr hn
  by_cases h : (N : Int) ≤ 8192
  · exact Cut_near v ts a w hr N hN h (hN2.1 h) (Lx.wf_u16 wa)
  · exact Cut_far v a w N hN h
end Go.Proofs.Ytfcicfkgbepagaa
