/-
  The law's play: a byte altered.
-/
import Derived.Test.YtenjllkhbpoffaaDoorDrPlay
namespace Go.Proofs.YtenjllkhbpoffaaDoor
open Go Go.Maps Go.WideMaps Go.Dsk Go.Lx Go.Lst Go.RowKit

set_option maxRecDepth 100000 in
set_option maxHeartbeats 4000000 in
theorem play_alter {w0 A : World} {d r : Nat} {M : DM} (h : Pl w0 A (fun _ => False) d r M M) (a b : ByteArray) (n m : Int) (ha : a.size ≤ maxLen) (hb : b.size ≤ maxLen) (hn : -9223372036854775808 ≤ n ∧ n ≤ 9223372036854775807) (hm : -9223372036854775808 ≤ m ∧ m ≤ 9223372036854775807) (hl : M.loose.length < 1000000) :
    Calls Tryd.prog 23 #[.pointer (some ⟨d, 0, none⟩), .pointer (some ⟨r, 0, none⟩), .agg #[.int .i64 7, .string a, .string b, .int .i64 n, .int .i64 m]] A fun e w' => e = .returned (.bool true) ∧ ∃ M', Pl w0 w' (fun _ => False) d r M' M' ∧ M'.loose.length ≤ M.loose.length + 1 := by
  have hmm := made1 A #[.int .i64 7, .string a, .string b, .int .i64 n, .int .i64 m] 31
  obtain ⟨hbk, hB0, -⟩ := hmm
  have hS := h.alloc (.cells #[.int .i64 7, .string a, .string b, .int .i64 n, .int .i64 m] 31)
  have hblk := Lib.hid hbk
  have hPl := Lib.hid hS
  obtain ⟨sb, hsb⟩ : ∃ sb, A.heap.size = sb := ⟨_, rfl⟩
  rw [hsb] at hblk hPl
  obtain ⟨k0, -, -, -, -, -⟩ := hbk.c5
  clear h hbk hB0 hS
  replace ha := Lib.hid ha
  replace hb := Lib.hid hb
  replace hn := Lib.hid hn
  replace hm := Lib.hid hm
  replace hl := Lib.hid hl
  obtain ⟨E, hE⟩ : ∃ E, alterE M a n = E := ⟨_, rfl⟩
  obtain ⟨M1, hM1⟩ : ∃ M1, alterM M a n (m % 256) = M1 := ⟨_, rfl⟩
  have hbd : Hid (M1.loose.length ≤ M.loose.length + 1) := Lib.hid (by rw [← hM1]; unfold alterM; split; exact Nat.zero_le _; exact Nat.le_succ _)
  replace hE := Lib.hid hE
  replace hM1 := Lib.hid hM1
  have hyy : Hid (0 ≤ (m % 256) ∧ (m % 256) < 256) := Lib.hid (by omega)
  go_enter Tryd.func23, Tryd.ntmps23
  go_wp2_with fail
  try rw [hsb]
  generalize A.alloc (.cells #[.int .i64 7, .string a, .string b, .int .i64 n, .int .i64 m] 31) = W at *
  have g := fun x : Cls (fun w' => Blk w' sb [.int .i64 7, .string a, .string b, .int .i64 n, .int .i64 m]) => x.is.c5
  have g1 := fun x : Cls (fun w' => Blk w' sb [.int .i64 7, .string a, .string b, .int .i64 n, .int .i64 m]) => (g x).2.1
  have g2 := fun x : Cls (fun w' => Blk w' sb [.int .i64 7, .string a, .string b, .int .i64 n, .int .i64 m]) => (g x).2.2.1
  have g3 := fun x : Cls (fun w' => Blk w' sb [.int .i64 7, .string a, .string b, .int .i64 n, .int .i64 m]) => (g x).2.2.2.1
  have g4 := fun x : Cls (fun w' => Blk w' sb [.int .i64 7, .string a, .string b, .int .i64 n, .int .i64 m]) => (g x).2.2.2.2.1
  clear g k0
  have hnon : Nonempty (Cls (fun w' => Blk w' sb [.int .i64 7, .string a, .string b, .int .i64 n, .int .i64 m])) := ⟨⟨_, hblk.out⟩⟩
  refine Lx.wp_region_chain_lit (fun w' => ∃ x : Cls (fun w' => Blk w' sb [.int .i64 7, .string a, .string b, .int .i64 n, .int .i64 m]), w' = x.wo) (fun _ => False) [8, 17] [] (fun w' => Pl w0 w' (fun k => k = sb) d r M M) (by kernel_rfl) (by kernel_rfl) (by kernel_rfl) (by kernel_rfl) (cls_of hblk.out) ?_ ?_
  · exact hPl.out.then ((Below.refl _ _).drew)
  repeat (refine Lx.wpCh_one (by rfl) (by rfl) ?_; go_big_quiet_step (fail); refine wpQuiet_nil ?_)
  refine Lx.wpCh_cls (.int .i64 E) (fun w' => Pl w0 w' (fun k => k = sb) d r M1 M) (by rfl) (by rfl) (fun h => by cases h) ⟨_, hblk.out⟩ (fun x hS R hR => ?_) ?_
  · have hbl := Lib.hid x.is
    replace hS := Lib.hid hS
    go_simp
    refine (Pl.dop (Qe := fun e => e = .returned (.int .i64 (alterE M a n))) (M1 := alterM M a n (m % 256)) hS.out (fun Od hd => Alter_calls hd a ha.out n (m % 256) hn.out.2 hyy.out)).mono ?_
    rw [hE.out, hM1.out]
    rintro e w'' ⟨rfl, hP, hX⟩
    exact ⟨_, rfl, hR _ (blk_same hbl.out (hX sb rfl)) hP (fun h => by cases h)⟩
  go_big_quiet_step (fail)
  refine wpQuiet_nil ?_
  repeat (refine Lx.wpCh_one (by rfl) (by rfl) ?_; go_big_quiet_step (fail); refine wpQuiet_nil ?_)
  refine Lx.wpCh_cls (.int .i64 E) (fun w' => Pl w0 w' (fun k => k = sb) d r M1 M1) (by rfl) (by rfl) (fun h => by cases h) ⟨_, hblk.out⟩ (fun x hS R hR => ?_) ?_
  · have hbl := Lib.hid x.is
    replace hS := Lib.hid hS
    go_simp
    refine (Pl.rop (Qe := fun e => e = .returned (.int .i64 (alterE M a n))) (N1 := alterM M a n (m % 256)) hS.out (fun Or hr => rAlter_calls hr a n (m % 256) hn.out.2 hyy.out)).mono ?_
    rw [hE.out, hM1.out]
    rintro e w'' ⟨rfl, hP, hX⟩
    exact ⟨_, rfl, hR _ (blk_same hbl.out (hX sb rfl)) hP (fun h => by cases h)⟩
  go_big_quiet_step (fail)
  refine wpQuiet_nil ?_
  repeat (refine Lx.wpCh_one (by rfl) (by rfl) ?_; go_big_quiet_step (fail); refine wpQuiet_nil ?_)
  refine Lx.wpCh_nil ?_
  intro w1 hx hS9
  obtain ⟨x, rfl⟩ := hx
  clear g1 g2 g3 g4 hblk
  replace hS9 := Lib.hid hS9
  generalize x.wo = w9 at *
  go_wp2_with fail
  go_ret
  exact ⟨rfl, M1, hS9.out.drop, hbd.out⟩
end Go.Proofs.YtenjllkhbpoffaaDoor
