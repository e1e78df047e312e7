/-
  The law's play: a step, on both.
-/
import Derived.Test.YtenjllkhbpoffaaDoorDrTwo
namespace Go.Proofs.YtenjllkhbpoffaaDoor
open Go Go.Maps Go.WideMaps Go.Dsk Go.Lx Go.Lst Go.RowKit

theorem blk_same {w w' : World} {b : Nat} {cs : List Value} (h : Blk w b cs) (hk : w'.heap[b]? = w.heap[b]?) : Blk w' b cs := by
  obtain ⟨T, h1⟩ := h
  exact ⟨T, hk.trans h1⟩
theorem loose_if {M : DM} (E : Int) (c : Lc) : (if E = 0 then doesM (burnM M) c else burnM M).loose.length ≤ M.loose.length + 1 := by
  obtain ⟨-, -, b3, -⟩ := burn_now M
  split
  · show ((burnM M).loose ++ [c]).length ≤ _
    rw [b3, List.length_append]; exact Nat.le_refl _
  · rw [b3]; omega
set_option maxRecDepth 100000 in
set_option maxHeartbeats 4000000 in
theorem play_app {w0 A : World} {d r : Nat} {M : DM} (h : Pl w0 A (fun _ => False) d r M M) (a b : ByteArray) (n m : Int) (ha : a.size ≤ maxLen) (hb : b.size ≤ maxLen) (hn : -9223372036854775808 ≤ n ∧ n ≤ 9223372036854775807) (hm : -9223372036854775808 ≤ m ∧ m ≤ 9223372036854775807) (hl : M.loose.length < 1000000) :
    Calls Tryd.prog 23 #[.pointer (some ⟨d, 0, none⟩), .pointer (some ⟨r, 0, none⟩), .agg #[.int .i64 0, .string a, .string b, .int .i64 n, .int .i64 m]] A fun e w' => e = .returned (.bool true) ∧ ∃ M', Pl w0 w' (fun _ => False) d r M' M' ∧ M'.loose.length ≤ M.loose.length + 1 := by
  have hmm := made1 A #[.int .i64 0, .string a, .string b, .int .i64 n, .int .i64 m] 31
  obtain ⟨hbk, hB0, -⟩ := hmm
  have hS := h.alloc (.cells #[.int .i64 0, .string a, .string b, .int .i64 n, .int .i64 m] 31)
  have hblk := Lib.hid hbk
  have hPl := Lib.hid hS
  obtain ⟨sb, hsb⟩ : ∃ sb, A.heap.size = sb := ⟨_, rfl⟩
  rw [hsb] at hblk hPl
  obtain ⟨k0, -, -, -, -, -⟩ := hbk.c5
  clear h hbk hB0 hS
  replace ha := Lib.hid ha
  replace hb := Lib.hid hb
  replace hn := Lib.hid hn
  replace hm := Lib.hid hm
  replace hl := Lib.hid hl
  obtain ⟨E, hE⟩ : ∃ E, appE M a b = E := ⟨_, rfl⟩
  obtain ⟨M1, hM1⟩ : ∃ M1, appM M a b = M1 := ⟨_, rfl⟩
  have hbd : Hid (M1.loose.length ≤ M.loose.length + 1) := Lib.hid (by rw [← hM1]; exact loose_if _ _)
  replace hE := Lib.hid hE
  replace hM1 := Lib.hid hM1
  go_enter Tryd.func23, Tryd.ntmps23
  go_wp2_with fail
  try rw [hsb]
  generalize A.alloc (.cells #[.int .i64 0, .string a, .string b, .int .i64 n, .int .i64 m] 31) = W at *
  have g := fun x : Cls (fun w' => Blk w' sb [.int .i64 0, .string a, .string b, .int .i64 n, .int .i64 m]) => x.is.c5
  have g1 := fun x : Cls (fun w' => Blk w' sb [.int .i64 0, .string a, .string b, .int .i64 n, .int .i64 m]) => (g x).2.1
  have g2 := fun x : Cls (fun w' => Blk w' sb [.int .i64 0, .string a, .string b, .int .i64 n, .int .i64 m]) => (g x).2.2.1
  have g3 := fun x : Cls (fun w' => Blk w' sb [.int .i64 0, .string a, .string b, .int .i64 n, .int .i64 m]) => (g x).2.2.2.1
  have g4 := fun x : Cls (fun w' => Blk w' sb [.int .i64 0, .string a, .string b, .int .i64 n, .int .i64 m]) => (g x).2.2.2.2.1
  clear g k0
  have hnon : Nonempty (Cls (fun w' => Blk w' sb [.int .i64 0, .string a, .string b, .int .i64 n, .int .i64 m])) := ⟨⟨_, hblk.out⟩⟩
  refine Lx.wp_region_chain_lit (fun w' => ∃ x : Cls (fun w' => Blk w' sb [.int .i64 0, .string a, .string b, .int .i64 n, .int .i64 m]), w' = x.wo) (fun _ => False) [5, 11] [] (fun w' => Pl w0 w' (fun k => k = sb) d r M M) (by kernel_rfl) (by kernel_rfl) (by kernel_rfl) (by kernel_rfl) (cls_of hblk.out) ?_ ?_
  · exact hPl.out.then ((Below.refl _ _).drew)
  repeat (refine Lx.wpCh_one (by rfl) (by rfl) ?_; go_big_quiet_step (fail); refine wpQuiet_nil ?_)
  refine Lx.wpCh_cls (.int .i64 E) (fun w' => Pl w0 w' (fun k => k = sb) d r M1 M) (by rfl) (by rfl) (fun h => by cases h) ⟨_, hblk.out⟩ (fun x hS R hR => ?_) ?_
  · have hbl := Lib.hid x.is
    replace hS := Lib.hid hS
    go_simp
    refine (Pl.dop (Qe := fun e => e = .returned (.int .i64 (appE M a b))) (M1 := appM M a b) hS.out (fun Od hd => Append_calls hd a b ha.out hb.out hl.out)).mono ?_
    rw [hE.out, hM1.out]
    rintro e w'' ⟨rfl, hP, hX⟩
    exact ⟨_, rfl, hR _ (blk_same hbl.out (hX sb rfl)) hP (fun h => by cases h)⟩
  go_big_quiet_step (fail)
  refine wpQuiet_nil ?_
  repeat (refine Lx.wpCh_one (by rfl) (by rfl) ?_; go_big_quiet_step (fail); refine wpQuiet_nil ?_)
  refine Lx.wpCh_cls (.int .i64 E) (fun w' => Pl w0 w' (fun k => k = sb) d r M1 M1) (by rfl) (by rfl) (fun h => by cases h) ⟨_, hblk.out⟩ (fun x hS R hR => ?_) ?_
  · have hbl := Lib.hid x.is
    replace hS := Lib.hid hS
    go_simp
    refine (Pl.rop (Qe := fun e => e = .returned (.int .i64 (appE M a b))) (N1 := appM M a b) hS.out (fun Or hr => rAppend_calls hr a b ha.out hb.out hl.out)).mono ?_
    rw [hE.out, hM1.out]
    rintro e w'' ⟨rfl, hP, hX⟩
    exact ⟨_, rfl, hR _ (blk_same hbl.out (hX sb rfl)) hP (fun h => by cases h)⟩
  go_big_quiet_step (fail)
  refine wpQuiet_nil ?_
  repeat (refine Lx.wpCh_one (by rfl) (by rfl) ?_; go_big_quiet_step (fail); refine wpQuiet_nil ?_)
  refine Lx.wpCh_nil ?_
  intro w1 hx hS9
  obtain ⟨x, rfl⟩ := hx
  clear g1 g2 g3 g4 hblk
  replace hS9 := Lib.hid hS9
  generalize x.wo = w9 at *
  go_wp2_with fail
  go_ret
  exact ⟨rfl, M1, hS9.out.drop, hbd.out⟩
set_option maxRecDepth 100000 in
set_option maxHeartbeats 4000000 in
theorem play_cut {w0 A : World} {d r : Nat} {M : DM} (h : Pl w0 A (fun _ => False) d r M M) (a b : ByteArray) (n m : Int) (ha : a.size ≤ maxLen) (hb : b.size ≤ maxLen) (hn : -9223372036854775808 ≤ n ∧ n ≤ 9223372036854775807) (hm : -9223372036854775808 ≤ m ∧ m ≤ 9223372036854775807) (hl : M.loose.length < 1000000) :
    Calls Tryd.prog 23 #[.pointer (some ⟨d, 0, none⟩), .pointer (some ⟨r, 0, none⟩), .agg #[.int .i64 1, .string a, .string b, .int .i64 n, .int .i64 m]] A fun e w' => e = .returned (.bool true) ∧ ∃ M', Pl w0 w' (fun _ => False) d r M' M' ∧ M'.loose.length ≤ M.loose.length + 1 := by
  have hmm := made1 A #[.int .i64 1, .string a, .string b, .int .i64 n, .int .i64 m] 31
  obtain ⟨hbk, hB0, -⟩ := hmm
  have hS := h.alloc (.cells #[.int .i64 1, .string a, .string b, .int .i64 n, .int .i64 m] 31)
  have hblk := Lib.hid hbk
  have hPl := Lib.hid hS
  obtain ⟨sb, hsb⟩ : ∃ sb, A.heap.size = sb := ⟨_, rfl⟩
  rw [hsb] at hblk hPl
  obtain ⟨k0, -, -, -, -, -⟩ := hbk.c5
  clear h hbk hB0 hS
  replace ha := Lib.hid ha
  replace hb := Lib.hid hb
  replace hn := Lib.hid hn
  replace hm := Lib.hid hm
  replace hl := Lib.hid hl
  obtain ⟨E, hE⟩ : ∃ E, cutE M a n = E := ⟨_, rfl⟩
  obtain ⟨M1, hM1⟩ : ∃ M1, cutM M a n = M1 := ⟨_, rfl⟩
  have hbd : Hid (M1.loose.length ≤ M.loose.length + 1) := Lib.hid (by rw [← hM1]; exact loose_if _ _)
  replace hE := Lib.hid hE
  replace hM1 := Lib.hid hM1
  go_enter Tryd.func23, Tryd.ntmps23
  go_wp2_with fail
  try rw [hsb]
  generalize A.alloc (.cells #[.int .i64 1, .string a, .string b, .int .i64 n, .int .i64 m] 31) = W at *
  have g := fun x : Cls (fun w' => Blk w' sb [.int .i64 1, .string a, .string b, .int .i64 n, .int .i64 m]) => x.is.c5
  have g1 := fun x : Cls (fun w' => Blk w' sb [.int .i64 1, .string a, .string b, .int .i64 n, .int .i64 m]) => (g x).2.1
  have g2 := fun x : Cls (fun w' => Blk w' sb [.int .i64 1, .string a, .string b, .int .i64 n, .int .i64 m]) => (g x).2.2.1
  have g3 := fun x : Cls (fun w' => Blk w' sb [.int .i64 1, .string a, .string b, .int .i64 n, .int .i64 m]) => (g x).2.2.2.1
  have g4 := fun x : Cls (fun w' => Blk w' sb [.int .i64 1, .string a, .string b, .int .i64 n, .int .i64 m]) => (g x).2.2.2.2.1
  clear g k0
  have hnon : Nonempty (Cls (fun w' => Blk w' sb [.int .i64 1, .string a, .string b, .int .i64 n, .int .i64 m])) := ⟨⟨_, hblk.out⟩⟩
  refine Lx.wp_region_chain_lit (fun w' => ∃ x : Cls (fun w' => Blk w' sb [.int .i64 1, .string a, .string b, .int .i64 n, .int .i64 m]), w' = x.wo) (fun _ => False) [5, 11] [] (fun w' => Pl w0 w' (fun k => k = sb) d r M M) (by kernel_rfl) (by kernel_rfl) (by kernel_rfl) (by kernel_rfl) (cls_of hblk.out) ?_ ?_
  · exact hPl.out.then ((Below.refl _ _).drew)
  repeat (refine Lx.wpCh_one (by rfl) (by rfl) ?_; go_big_quiet_step (fail); refine wpQuiet_nil ?_)
  refine Lx.wpCh_cls (.int .i64 E) (fun w' => Pl w0 w' (fun k => k = sb) d r M1 M) (by rfl) (by rfl) (fun h => by cases h) ⟨_, hblk.out⟩ (fun x hS R hR => ?_) ?_
  · have hbl := Lib.hid x.is
    replace hS := Lib.hid hS
    go_simp
    refine (Pl.dop (Qe := fun e => e = .returned (.int .i64 (cutE M a n))) (M1 := cutM M a n) hS.out (fun Od hd => Cut_calls hd a n ha.out hl.out)).mono ?_
    rw [hE.out, hM1.out]
    rintro e w'' ⟨rfl, hP, hX⟩
    exact ⟨_, rfl, hR _ (blk_same hbl.out (hX sb rfl)) hP (fun h => by cases h)⟩
  go_big_quiet_step (fail)
  refine wpQuiet_nil ?_
  repeat (refine Lx.wpCh_one (by rfl) (by rfl) ?_; go_big_quiet_step (fail); refine wpQuiet_nil ?_)
  refine Lx.wpCh_cls (.int .i64 E) (fun w' => Pl w0 w' (fun k => k = sb) d r M1 M1) (by rfl) (by rfl) (fun h => by cases h) ⟨_, hblk.out⟩ (fun x hS R hR => ?_) ?_
  · have hbl := Lib.hid x.is
    replace hS := Lib.hid hS
    go_simp
    refine (Pl.rop (Qe := fun e => e = .returned (.int .i64 (cutE M a n))) (N1 := cutM M a n) hS.out (fun Or hr => rCut_calls hr a n ha.out hl.out)).mono ?_
    rw [hE.out, hM1.out]
    rintro e w'' ⟨rfl, hP, hX⟩
    exact ⟨_, rfl, hR _ (blk_same hbl.out (hX sb rfl)) hP (fun h => by cases h)⟩
  go_big_quiet_step (fail)
  refine wpQuiet_nil ?_
  repeat (refine Lx.wpCh_one (by rfl) (by rfl) ?_; go_big_quiet_step (fail); refine wpQuiet_nil ?_)
  refine Lx.wpCh_nil ?_
  intro w1 hx hS9
  obtain ⟨x, rfl⟩ := hx
  clear g1 g2 g3 g4 hblk
  replace hS9 := Lib.hid hS9
  generalize x.wo = w9 at *
  go_wp2_with fail
  go_ret
  exact ⟨rfl, M1, hS9.out.drop, hbd.out⟩
set_option maxRecDepth 100000 in
set_option maxHeartbeats 4000000 in
theorem play_ren {w0 A : World} {d r : Nat} {M : DM} (h : Pl w0 A (fun _ => False) d r M M) (a b : ByteArray) (n m : Int) (ha : a.size ≤ maxLen) (hb : b.size ≤ maxLen) (hn : -9223372036854775808 ≤ n ∧ n ≤ 9223372036854775807) (hm : -9223372036854775808 ≤ m ∧ m ≤ 9223372036854775807) (hl : M.loose.length < 1000000) :
    Calls Tryd.prog 23 #[.pointer (some ⟨d, 0, none⟩), .pointer (some ⟨r, 0, none⟩), .agg #[.int .i64 2, .string a, .string b, .int .i64 n, .int .i64 m]] A fun e w' => e = .returned (.bool true) ∧ ∃ M', Pl w0 w' (fun _ => False) d r M' M' ∧ M'.loose.length ≤ M.loose.length + 1 := by
  have hmm := made1 A #[.int .i64 2, .string a, .string b, .int .i64 n, .int .i64 m] 31
  obtain ⟨hbk, hB0, -⟩ := hmm
  have hS := h.alloc (.cells #[.int .i64 2, .string a, .string b, .int .i64 n, .int .i64 m] 31)
  have hblk := Lib.hid hbk
  have hPl := Lib.hid hS
  obtain ⟨sb, hsb⟩ : ∃ sb, A.heap.size = sb := ⟨_, rfl⟩
  rw [hsb] at hblk hPl
  obtain ⟨k0, -, -, -, -, -⟩ := hbk.c5
  clear h hbk hB0 hS
  replace ha := Lib.hid ha
  replace hb := Lib.hid hb
  replace hn := Lib.hid hn
  replace hm := Lib.hid hm
  replace hl := Lib.hid hl
  obtain ⟨E, hE⟩ : ∃ E, renE M a b = E := ⟨_, rfl⟩
  obtain ⟨M1, hM1⟩ : ∃ M1, renM M a b = M1 := ⟨_, rfl⟩
  have hbd : Hid (M1.loose.length ≤ M.loose.length + 1) := Lib.hid (by rw [← hM1]; exact loose_if _ _)
  replace hE := Lib.hid hE
  replace hM1 := Lib.hid hM1
  go_enter Tryd.func23, Tryd.ntmps23
  go_wp2_with fail
  try rw [hsb]
  generalize A.alloc (.cells #[.int .i64 2, .string a, .string b, .int .i64 n, .int .i64 m] 31) = W at *
  have g := fun x : Cls (fun w' => Blk w' sb [.int .i64 2, .string a, .string b, .int .i64 n, .int .i64 m]) => x.is.c5
  have g1 := fun x : Cls (fun w' => Blk w' sb [.int .i64 2, .string a, .string b, .int .i64 n, .int .i64 m]) => (g x).2.1
  have g2 := fun x : Cls (fun w' => Blk w' sb [.int .i64 2, .string a, .string b, .int .i64 n, .int .i64 m]) => (g x).2.2.1
  have g3 := fun x : Cls (fun w' => Blk w' sb [.int .i64 2, .string a, .string b, .int .i64 n, .int .i64 m]) => (g x).2.2.2.1
  have g4 := fun x : Cls (fun w' => Blk w' sb [.int .i64 2, .string a, .string b, .int .i64 n, .int .i64 m]) => (g x).2.2.2.2.1
  clear g k0
  have hnon : Nonempty (Cls (fun w' => Blk w' sb [.int .i64 2, .string a, .string b, .int .i64 n, .int .i64 m])) := ⟨⟨_, hblk.out⟩⟩
  refine Lx.wp_region_chain_lit (fun w' => ∃ x : Cls (fun w' => Blk w' sb [.int .i64 2, .string a, .string b, .int .i64 n, .int .i64 m]), w' = x.wo) (fun _ => False) [5, 11] [] (fun w' => Pl w0 w' (fun k => k = sb) d r M M) (by kernel_rfl) (by kernel_rfl) (by kernel_rfl) (by kernel_rfl) (cls_of hblk.out) ?_ ?_
  · exact hPl.out.then ((Below.refl _ _).drew)
  repeat (refine Lx.wpCh_one (by rfl) (by rfl) ?_; go_big_quiet_step (fail); refine wpQuiet_nil ?_)
  refine Lx.wpCh_cls (.int .i64 E) (fun w' => Pl w0 w' (fun k => k = sb) d r M1 M) (by rfl) (by rfl) (fun h => by cases h) ⟨_, hblk.out⟩ (fun x hS R hR => ?_) ?_
  · have hbl := Lib.hid x.is
    replace hS := Lib.hid hS
    go_simp
    refine (Pl.dop (Qe := fun e => e = .returned (.int .i64 (renE M a b))) (M1 := renM M a b) hS.out (fun Od hd => Rename_calls hd a b ha.out hb.out hl.out)).mono ?_
    rw [hE.out, hM1.out]
    rintro e w'' ⟨rfl, hP, hX⟩
    exact ⟨_, rfl, hR _ (blk_same hbl.out (hX sb rfl)) hP (fun h => by cases h)⟩
  go_big_quiet_step (fail)
  refine wpQuiet_nil ?_
  repeat (refine Lx.wpCh_one (by rfl) (by rfl) ?_; go_big_quiet_step (fail); refine wpQuiet_nil ?_)
  refine Lx.wpCh_cls (.int .i64 E) (fun w' => Pl w0 w' (fun k => k = sb) d r M1 M1) (by rfl) (by rfl) (fun h => by cases h) ⟨_, hblk.out⟩ (fun x hS R hR => ?_) ?_
  · have hbl := Lib.hid x.is
    replace hS := Lib.hid hS
    go_simp
    refine (Pl.rop (Qe := fun e => e = .returned (.int .i64 (renE M a b))) (N1 := renM M a b) hS.out (fun Or hr => rRename_calls hr a b ha.out hb.out hl.out)).mono ?_
    rw [hE.out, hM1.out]
    rintro e w'' ⟨rfl, hP, hX⟩
    exact ⟨_, rfl, hR _ (blk_same hbl.out (hX sb rfl)) hP (fun h => by cases h)⟩
  go_big_quiet_step (fail)
  refine wpQuiet_nil ?_
  repeat (refine Lx.wpCh_one (by rfl) (by rfl) ?_; go_big_quiet_step (fail); refine wpQuiet_nil ?_)
  refine Lx.wpCh_nil ?_
  intro w1 hx hS9
  obtain ⟨x, rfl⟩ := hx
  clear g1 g2 g3 g4 hblk
  replace hS9 := Lib.hid hS9
  generalize x.wo = w9 at *
  go_wp2_with fail
  go_ret
  exact ⟨rfl, M1, hS9.out.drop, hbd.out⟩
set_option maxRecDepth 100000 in
set_option maxHeartbeats 4000000 in
theorem play_rem {w0 A : World} {d r : Nat} {M : DM} (h : Pl w0 A (fun _ => False) d r M M) (a b : ByteArray) (n m : Int) (ha : a.size ≤ maxLen) (hb : b.size ≤ maxLen) (hn : -9223372036854775808 ≤ n ∧ n ≤ 9223372036854775807) (hm : -9223372036854775808 ≤ m ∧ m ≤ 9223372036854775807) (hl : M.loose.length < 1000000) :
    Calls Tryd.prog 23 #[.pointer (some ⟨d, 0, none⟩), .pointer (some ⟨r, 0, none⟩), .agg #[.int .i64 3, .string a, .string b, .int .i64 n, .int .i64 m]] A fun e w' => e = .returned (.bool true) ∧ ∃ M', Pl w0 w' (fun _ => False) d r M' M' ∧ M'.loose.length ≤ M.loose.length + 1 := by
  have hmm := made1 A #[.int .i64 3, .string a, .string b, .int .i64 n, .int .i64 m] 31
  obtain ⟨hbk, hB0, -⟩ := hmm
  have hS := h.alloc (.cells #[.int .i64 3, .string a, .string b, .int .i64 n, .int .i64 m] 31)
  have hblk := Lib.hid hbk
  have hPl := Lib.hid hS
  obtain ⟨sb, hsb⟩ : ∃ sb, A.heap.size = sb := ⟨_, rfl⟩
  rw [hsb] at hblk hPl
  obtain ⟨k0, -, -, -, -, -⟩ := hbk.c5
  clear h hbk hB0 hS
  replace ha := Lib.hid ha
  replace hb := Lib.hid hb
  replace hn := Lib.hid hn
  replace hm := Lib.hid hm
  replace hl := Lib.hid hl
  obtain ⟨E, hE⟩ : ∃ E, remE M a = E := ⟨_, rfl⟩
  obtain ⟨M1, hM1⟩ : ∃ M1, remM M a = M1 := ⟨_, rfl⟩
  have hbd : Hid (M1.loose.length ≤ M.loose.length + 1) := Lib.hid (by rw [← hM1]; exact loose_if _ _)
  replace hE := Lib.hid hE
  replace hM1 := Lib.hid hM1
  go_enter Tryd.func23, Tryd.ntmps23
  go_wp2_with fail
  try rw [hsb]
  generalize A.alloc (.cells #[.int .i64 3, .string a, .string b, .int .i64 n, .int .i64 m] 31) = W at *
  have g := fun x : Cls (fun w' => Blk w' sb [.int .i64 3, .string a, .string b, .int .i64 n, .int .i64 m]) => x.is.c5
  have g1 := fun x : Cls (fun w' => Blk w' sb [.int .i64 3, .string a, .string b, .int .i64 n, .int .i64 m]) => (g x).2.1
  have g2 := fun x : Cls (fun w' => Blk w' sb [.int .i64 3, .string a, .string b, .int .i64 n, .int .i64 m]) => (g x).2.2.1
  have g3 := fun x : Cls (fun w' => Blk w' sb [.int .i64 3, .string a, .string b, .int .i64 n, .int .i64 m]) => (g x).2.2.2.1
  have g4 := fun x : Cls (fun w' => Blk w' sb [.int .i64 3, .string a, .string b, .int .i64 n, .int .i64 m]) => (g x).2.2.2.2.1
  clear g k0
  have hnon : Nonempty (Cls (fun w' => Blk w' sb [.int .i64 3, .string a, .string b, .int .i64 n, .int .i64 m])) := ⟨⟨_, hblk.out⟩⟩
  refine Lx.wp_region_chain_lit (fun w' => ∃ x : Cls (fun w' => Blk w' sb [.int .i64 3, .string a, .string b, .int .i64 n, .int .i64 m]), w' = x.wo) (fun _ => False) [3, 7] [] (fun w' => Pl w0 w' (fun k => k = sb) d r M M) (by kernel_rfl) (by kernel_rfl) (by kernel_rfl) (by kernel_rfl) (cls_of hblk.out) ?_ ?_
  · exact hPl.out.then ((Below.refl _ _).drew)
  repeat (refine Lx.wpCh_one (by rfl) (by rfl) ?_; go_big_quiet_step (fail); refine wpQuiet_nil ?_)
  refine Lx.wpCh_cls (.int .i64 E) (fun w' => Pl w0 w' (fun k => k = sb) d r M1 M) (by rfl) (by rfl) (fun h => by cases h) ⟨_, hblk.out⟩ (fun x hS R hR => ?_) ?_
  · have hbl := Lib.hid x.is
    replace hS := Lib.hid hS
    go_simp
    refine (Pl.dop (Qe := fun e => e = .returned (.int .i64 (remE M a))) (M1 := remM M a) hS.out (fun Od hd => Remove_calls hd a ha.out hl.out)).mono ?_
    rw [hE.out, hM1.out]
    rintro e w'' ⟨rfl, hP, hX⟩
    exact ⟨_, rfl, hR _ (blk_same hbl.out (hX sb rfl)) hP (fun h => by cases h)⟩
  go_big_quiet_step (fail)
  refine wpQuiet_nil ?_
  repeat (refine Lx.wpCh_one (by rfl) (by rfl) ?_; go_big_quiet_step (fail); refine wpQuiet_nil ?_)
  refine Lx.wpCh_cls (.int .i64 E) (fun w' => Pl w0 w' (fun k => k = sb) d r M1 M1) (by rfl) (by rfl) (fun h => by cases h) ⟨_, hblk.out⟩ (fun x hS R hR => ?_) ?_
  · have hbl := Lib.hid x.is
    replace hS := Lib.hid hS
    go_simp
    refine (Pl.rop (Qe := fun e => e = .returned (.int .i64 (remE M a))) (N1 := remM M a) hS.out (fun Or hr => rRemove_calls hr a ha.out hl.out)).mono ?_
    rw [hE.out, hM1.out]
    rintro e w'' ⟨rfl, hP, hX⟩
    exact ⟨_, rfl, hR _ (blk_same hbl.out (hX sb rfl)) hP (fun h => by cases h)⟩
  go_big_quiet_step (fail)
  refine wpQuiet_nil ?_
  repeat (refine Lx.wpCh_one (by rfl) (by rfl) ?_; go_big_quiet_step (fail); refine wpQuiet_nil ?_)
  refine Lx.wpCh_nil ?_
  intro w1 hx hS9
  obtain ⟨x, rfl⟩ := hx
  clear g1 g2 g3 g4 hblk
  replace hS9 := Lib.hid hS9
  generalize x.wo = w9 at *
  go_wp2_with fail
  go_ret
  exact ⟨rfl, M1, hS9.out.drop, hbd.out⟩
theorem Pl.rset {w0 A : World} {X : Nat → Prop} {d r : Nat} {M N : DM} (h : Pl w0 A X d r M N) (f : Int) (hf : -1 ≤ f ∧ f ≤ 9223372036854775807) : Pl w0 (A.setCell ⟨r, 3, none⟩ (.int .i64 f)) X d r M { N with fuse := f } ∧ (∀ k, X k → (A.setCell ⟨r, 3, none⟩ (.int .i64 f)).heap[k]? = A.heap[k]?) ∧ ∃ sv lv, Blk A r [.int .i64 N.room, sv, lv, .int .i64 N.fuse] := by
  obtain ⟨Od, Or, h1, ⟨hok, sv, lv, hA⟩, h3, h4, h5, h6⟩ := h
  have hor : Or r := hA.own r (.inl rfl)
  have hst := stays_put (O := Or) A r 3 hor (.int .i64 f)
  refine ⟨⟨Od, Or, h1.keep (fun k hk => hst.block k (h1.lo k hk) (h3 k hk)) hst.size, ⟨⟨hok.room, hok.rise, hok.now, hok.small, hok.fit, hf⟩, sv, lv, hA.putF f⟩, h3, h4, fun k hk => by have := h5 k hk; simpa using this, hst.under h6 (fun k hk => (h4 k (.inr hk)).1)⟩, fun k hk => hst.block k (h5 k hk) (fun e => (h4 k (.inr e)).2 hk), sv, lv, hA.isBlk⟩
theorem gr_self {O : Nat → Prop} {w w' : World} {b : Nat} {M : DM} (h : Dk w' O b M) (hs : w.heap.size ≤ w'.heap.size) (hlo : ∀ k, O k → k < w.heap.size) : Dk w' (Gr O w w') b M := h.grow (fun _ hk => .inl hk) (Gr.lo hlo hs)
set_option maxRecDepth 100000 in
set_option maxHeartbeats 4000000 in
theorem play_sync {w0 A : World} {d r : Nat} {M : DM} (h : Pl w0 A (fun _ => False) d r M M) (a b : ByteArray) (n m : Int) (ha : a.size ≤ maxLen) (hb : b.size ≤ maxLen) (hn : -9223372036854775808 ≤ n ∧ n ≤ 9223372036854775807) (hm : -9223372036854775808 ≤ m ∧ m ≤ 9223372036854775807) (hl : M.loose.length < 1000000) :
    Calls Tryd.prog 23 #[.pointer (some ⟨d, 0, none⟩), .pointer (some ⟨r, 0, none⟩), .agg #[.int .i64 4, .string a, .string b, .int .i64 n, .int .i64 m]] A fun e w' => e = .returned (.bool true) ∧ ∃ M', Pl w0 w' (fun _ => False) d r M' M' ∧ M'.loose.length ≤ M.loose.length + 1 := by
  have hmm := made1 A #[.int .i64 4, .string a, .string b, .int .i64 n, .int .i64 m] 31
  obtain ⟨hbk, hB0, -⟩ := hmm
  have hS := h.alloc (.cells #[.int .i64 4, .string a, .string b, .int .i64 n, .int .i64 m] 31)
  have hblk := Lib.hid hbk
  have hPl := Lib.hid hS
  obtain ⟨sb, hsb⟩ : ∃ sb, A.heap.size = sb := ⟨_, rfl⟩
  rw [hsb] at hblk hPl
  obtain ⟨k0, -, -, -, -, -⟩ := hbk.c5
  clear h hbk hB0 hS
  replace ha := Lib.hid ha
  replace hb := Lib.hid hb
  replace hn := Lib.hid hn
  replace hm := Lib.hid hm
  replace hl := Lib.hid hl
  have hbd : (syncD M).loose.length ≤ M.loose.length + 1 := by
    unfold syncD
    split
    · exact Nat.zero_le _
    · exact Nat.le_succ _
  obtain ⟨E, hE⟩ : ∃ E, burnE M = E := ⟨_, rfl⟩
  obtain ⟨M1, hM1⟩ : ∃ M1, syncD M = M1 := ⟨_, rfl⟩
  rw [hM1] at hbd
  replace hE := Lib.hid hE
  replace hM1 := Lib.hid hM1
  replace hbd := Lib.hid hbd
  go_enter Tryd.func23, Tryd.ntmps23
  go_wp2_with fail
  refine (Pl.dop (Qe := fun e => e = .returned (.int .i64 (burnE M))) (M1 := syncD M) hPl.out (fun Od hd => Sync_calls hd)).mono ?_
  rw [hE.out, hM1.out]
  rintro e w1 ⟨rfl, hP, hX⟩
  replace hP := Lib.hid hP
  clear hX
  go_wp2_with fail
  refine (Pl.rop (Qe := fun e => e = .returned (.int .i64 (burnE M))) (N1 := syncD M) hP.out (fun Or hr => rSync_calls hr)).mono ?_
  rw [hE.out, hM1.out]
  rintro e w2 ⟨rfl, hP2, -⟩
  replace hP2 := Lib.hid hP2
  go_wp2_with fail
  go_ret
  exact ⟨rfl, M1, hP2.out.drop, hbd.out⟩
set_option maxRecDepth 100000 in
set_option maxHeartbeats 4000000 in
theorem play_fuse {w0 A : World} {d r : Nat} {M : DM} (h : Pl w0 A (fun _ => False) d r M M) (a b : ByteArray) (n m : Int) (ha : a.size ≤ maxLen) (hb : b.size ≤ maxLen) (hn : -9223372036854775808 ≤ n ∧ n ≤ 9223372036854775807) (hm : -9223372036854775808 ≤ m ∧ m ≤ 9223372036854775807) (hl : M.loose.length < 1000000) :
    Calls Tryd.prog 23 #[.pointer (some ⟨d, 0, none⟩), .pointer (some ⟨r, 0, none⟩), .agg #[.int .i64 5, .string a, .string b, .int .i64 n, .int .i64 m]] A fun e w' => e = .returned (.bool true) ∧ ∃ M', Pl w0 w' (fun _ => False) d r M' M' ∧ M'.loose.length ≤ M.loose.length + 1 := by
  have hmm := made1 A #[.int .i64 5, .string a, .string b, .int .i64 n, .int .i64 m] 31
  obtain ⟨hbk, hB0, -⟩ := hmm
  have hS := h.alloc (.cells #[.int .i64 5, .string a, .string b, .int .i64 n, .int .i64 m] 31)
  have hblk := Lib.hid hbk
  have hPl := Lib.hid hS
  obtain ⟨sb, hsb⟩ : ∃ sb, A.heap.size = sb := ⟨_, rfl⟩
  rw [hsb] at hblk hPl
  obtain ⟨k0, -, -, -, -, -⟩ := hbk.c5
  clear h hbk hB0 hS
  replace ha := Lib.hid ha
  replace hb := Lib.hid hb
  replace hn := Lib.hid hn
  replace hm := Lib.hid hm
  replace hl := Lib.hid hl
  obtain ⟨-, l1, l2, l3, -⟩ := hblk.out.c5
  have hf9 : -1 ≤ max n (-1) ∧ max n (-1) ≤ 9223372036854775807 := by have := hn.out; omega
  obtain ⟨r1, r2, sv, lv, r3⟩ := hPl.out.rset (max n (-1)) hf9
  have hbl2 := blk_same hblk.out (r2 sb rfl)
  obtain ⟨-, -, -, m3, -⟩ := hbl2.c5
  have f3 := r3.frz 3
  have c3 := r3.cell 3 rfl
  replace r1 := Lib.hid r1
  clear r2 r3 hbl2 l1 l2 hf9
  go_enter Tryd.func23, Tryd.ntmps23
  go_wp2_with fail
  refine (Pl.dop (Qe := fun e => e = .returned (.int .i64 0)) (M1 := fuseM M n) r1.out (fun Od hd => (Fuse_calls hd n hn.out.2).mono (fun e w' hh => ⟨hh.1, gr_self hh.2.1 hh.2.2.size hd.lo, hh.2.2⟩))).mono ?_
  rintro e w1 ⟨rfl, hP, -⟩
  replace hP := Lib.hid hP
  go_wp2_with fail
  go_ret
  exact ⟨rfl, fuseM M n, hP.out.drop, Nat.le_succ _⟩
set_option maxRecDepth 100000 in
set_option maxHeartbeats 4000000 in
theorem play_crash {w0 A : World} {d r : Nat} {M : DM} (h : Pl w0 A (fun _ => False) d r M M) (a b : ByteArray) (n m : Int) (ha : a.size ≤ maxLen) (hb : b.size ≤ maxLen) (hn : -9223372036854775808 ≤ n ∧ n ≤ 9223372036854775807) (hm : -9223372036854775808 ≤ m ∧ m ≤ 9223372036854775807) (hl : M.loose.length < 1000000) :
    Calls Tryd.prog 23 #[.pointer (some ⟨d, 0, none⟩), .pointer (some ⟨r, 0, none⟩), .agg #[.int .i64 6, .string a, .string b, .int .i64 n, .int .i64 m]] A fun e w' => e = .returned (.bool true) ∧ ∃ M', Pl w0 w' (fun _ => False) d r M' M' ∧ M'.loose.length ≤ M.loose.length + 1 := by
  have hmm := made1 A #[.int .i64 6, .string a, .string b, .int .i64 n, .int .i64 m] 31
  obtain ⟨hbk, hB0, -⟩ := hmm
  have hS := h.alloc (.cells #[.int .i64 6, .string a, .string b, .int .i64 n, .int .i64 m] 31)
  have hblk := Lib.hid hbk
  have hPl := Lib.hid hS
  obtain ⟨sb, hsb⟩ : ∃ sb, A.heap.size = sb := ⟨_, rfl⟩
  rw [hsb] at hblk hPl
  obtain ⟨k0, -, -, -, -, -⟩ := hbk.c5
  clear h hbk hB0 hS
  replace ha := Lib.hid ha
  replace hb := Lib.hid hb
  replace hn := Lib.hid hn
  replace hm := Lib.hid hm
  replace hl := Lib.hid hl
  obtain ⟨-, l1, l2, l3, l4, -⟩ := hblk.out.c5
  go_enter Tryd.func23, Tryd.ntmps23
  go_wp2_with fail
  refine (Pl.rop (Qe := fun e => e = .returned (.tuple #[])) (N1 := crashM M n m) hPl.out (fun Or hr => rCrash_calls hr n m hl.out)).mono ?_
  rintro e w1 ⟨rfl, hP, hX⟩
  have hbl2 := blk_same hblk.out (hX sb rfl)
  obtain ⟨-, -, -, m3, m4, -⟩ := hbl2.c5
  replace hP := Lib.hid hP
  clear hX hbl2 l3 l4
  go_wp2_with fail
  refine (Pl.dop (Qe := fun e => e = .returned (.int .i64 0)) (M1 := crashM M n m) hP.out (fun Od hd => Crash_calls hd n m hl.out)).mono ?_
  rintro e w2 ⟨rfl, hP2, -⟩
  replace hP2 := Lib.hid hP2
  go_wp2_with fail
  go_ret
  exact ⟨rfl, crashM M n m, hP2.out.drop, Nat.zero_le _⟩
set_option maxRecDepth 100000 in
set_option maxHeartbeats 4000000 in
theorem play_else {w0 A : World} {d r : Nat} {M : DM} (h : Pl w0 A (fun _ => False) d r M M) (dd : Int) (hdd : dd < 0 ∨ 7 < dd) (a b : ByteArray) (n m : Int) (ha : a.size ≤ maxLen) (hb : b.size ≤ maxLen) (hn : -9223372036854775808 ≤ n ∧ n ≤ 9223372036854775807) (hm : -9223372036854775808 ≤ m ∧ m ≤ 9223372036854775807) (hl : M.loose.length < 1000000) :
    Calls Tryd.prog 23 #[.pointer (some ⟨d, 0, none⟩), .pointer (some ⟨r, 0, none⟩), .agg #[.int .i64 dd, .string a, .string b, .int .i64 n, .int .i64 m]] A fun e w' => e = .returned (.bool true) ∧ ∃ M', Pl w0 w' (fun _ => False) d r M' M' ∧ M'.loose.length ≤ M.loose.length + 1 := by
  have hmm := made1 A #[.int .i64 dd, .string a, .string b, .int .i64 n, .int .i64 m] 31
  obtain ⟨hbk, hB0, -⟩ := hmm
  have hS := h.alloc (.cells #[.int .i64 dd, .string a, .string b, .int .i64 n, .int .i64 m] 31)
  have hblk := Lib.hid hbk
  have hPl := Lib.hid hS
  obtain ⟨sb, hsb⟩ : ∃ sb, A.heap.size = sb := ⟨_, rfl⟩
  rw [hsb] at hblk hPl
  obtain ⟨k0, -, -, -, -, -⟩ := hbk.c5
  clear h hbk hB0 hS
  replace ha := Lib.hid ha
  replace hb := Lib.hid hb
  replace hn := Lib.hid hn
  replace hm := Lib.hid hm
  replace hl := Lib.hid hl
  have e0 : (dd == 0) = false := by simp; omega
  have e1 : (dd == 1) = false := by simp; omega
  have e2 : (dd == 2) = false := by simp; omega
  have e3 : (dd == 3) = false := by simp; omega
  have e4 : (dd == 4) = false := by simp; omega
  have e5 : (dd == 5) = false := by simp; omega
  have e6 : (dd == 6) = false := by simp; omega
  have e7 : (dd == 7) = false := by simp; omega
  go_enter Tryd.func23, Tryd.ntmps23
  go_wp2_with fail
  go_ret
  exact ⟨rfl, M, hPl.out.drop, Nat.le_succ _⟩
end Go.Proofs.YtenjllkhbpoffaaDoor
