/-
  The calls that are loose (func literals of Append, Cut, Rename, Remove): what each does to files.
-/
import Derived.Test.YtenjllkhbpoffaaDoorDskMap
import Derived.Test.YtenjllkhbpoffaaDoorTail
namespace Go.Proofs.YtenjllkhbpoffaaDoor
open Go Go.Maps Go.WideMaps Go.Dsk Go.Lx Go.Lst Go.RowKit

theorem below_cell {w w' : World} (h : Below w.heap.size w w') {a : Addr} {v : Value} (hc : w.cell? a = some v) : w'.cell? a = some v := (cell_below h hc).trans hc
set_option maxRecDepth 100000 in
set_option maxHeartbeats 1000000 in
theorem app_calls {w : World} {bn : Nat} {F : Files} (hF : FM w bn F) (hl : F.length < maxLen) (k s : ByteArray) (hk : k.size ≤ maxLen) (hs : (atF F k).size + s.size ≤ maxLen) (m : Int) (hm : 0 ≤ m) (b1 b2 : Nat) (h1 : w.cell? ⟨b1, 0, none⟩ = some (.string k)) (h2 : w.cell? ⟨b2, 0, none⟩ = some (.string s)) :
    Calls Tryd.prog 31 #[.map (some bn), .int .i64 m, .pointer (some ⟨b1, 0, none⟩), .pointer (some ⟨b2, 0, none⟩)] w fun e w' => e = .returned (.tuple #[]) ∧ FM w' bn (putF F k (atF F k ++ s.extract 0 (min m s.size).toNat)) ∧ Stays (fun b => b = bn) w w' := by
  have hlk : ∀ x : Ext w, (Instr.lookup 57 (.map (some bn)) (.string k) false).run Tryd.prog x.wo = .ok (.string (atF F k)) x.wo := fun x => (hF.below x.below).look hk
  have y1 := fun x : Ext w => below_cell x.below h1
  have y2 := fun x : Ext w => below_cell x.below h2
  have hnon : Nonempty (Ext w) := ⟨⟨w, Below.refl _ _⟩⟩
  have hH := Lib.hid hF
  have hsz := Lib.hid hs
  unfold maxLen at hs
  have hs2 : s.size ≤ 9223372036854775807 := by omega
  have hs3 : (atF F k).size ≤ 9223372036854775807 := by omega
  have hx : (s.extract 0 (min m s.size).toNat).size ≤ s.size := by rw [ByteArray.size_extract]; omega
  have hadd : (9223372036854775807 < (atF F k).size + min (min m ↑s.size).toNat s.size) = False := eq_false (by omega)
  have hsz2 : Hid ((atF F k ++ s.extract 0 (min m s.size).toNat).size ≤ maxLen) := Lib.hid (by rw [ByteArray.size_append]; have := hsz.out; omega)
  replace hl := Lib.hid hl
  replace hx := Lib.hid hx
  replace hk := Lib.hid hk
  clear hF hs h1 h2
  go_enter Tryd.func31, Tryd.ntmps31
  go_wp2_with fail
  refine Lx.wp_region_chain_tail (fun w' => ∃ y : Ext w, w' = y.wo) (fun _ => False) [] [] 10 (fun A => Below w.heap.size w A) (by kernel_rfl) (by kernel_rfl) (by kernel_rfl) (by kernel_rfl) Lx.ext_drew ((Below.refl _ _).drew) ?_
  simp only [List.take_succ_cons, List.take_zero, List.drop_succ_cons, List.drop_zero]
  repeat (refine Lx.wpCh_one (by rfl) (by rfl) ?_; go_big_quiet_step (fail); refine wpQuiet_nil ?_)
  refine Lx.wpCh_nil ?_
  intro w4 hx hS
  obtain ⟨y, rfl⟩ := hx
  have hF4 := hH.out.below hS
  replace hS := Lib.hid hS
  obtain ⟨w5, hr5, hF5, hg5⟩ := hF4.store hl.out hk.out hsz2.out
  generalize y.wo = w4 at *
  clear y y1 y2 hlk hnon hadd hF4
  replace hF5 := Lib.hid hF5
  go_wp2_with fail
  go_end0
  exact ⟨rfl, hF5.out, (Stays.of_below hS.out).trans (Stays.of_grown (O := fun b => b = bn) hg5 (fun k hk _ => by cases hk; rfl)) (fun _ _ h => h)⟩
set_option maxRecDepth 100000 in
set_option maxHeartbeats 1000000 in
theorem cut_calls {w : World} {bn : Nat} {F : Files} (hF : FM w bn F) (hl : F.length < maxLen) (k : ByteArray) (hk : k.size ≤ maxLen) (n : Nat) (hn : n ≤ (atF F k).size) (m : Int) (b1 b2 : Nat) (h1 : w.cell? ⟨b1, 0, none⟩ = some (.string k)) (h2 : w.cell? ⟨b2, 0, none⟩ = some (.int .i64 n)) :
    Calls Tryd.prog 32 #[.map (some bn), .int .i64 m, .pointer (some ⟨b1, 0, none⟩), .pointer (some ⟨b2, 0, none⟩)] w fun e w' => e = .returned (.tuple #[]) ∧ FM w' bn (putF F k ((atF F k).extract 0 n)) ∧ Stays (fun b => b = bn) w w' := by
  have hlk : ∀ x : Ext w, (Instr.lookup 57 (.map (some bn)) (.string k) false).run Tryd.prog x.wo = .ok (.string (atF F k)) x.wo := fun x => (hF.below x.below).look hk
  have y1 := fun x : Ext w => below_cell x.below h1
  have y2 := fun x : Ext w => below_cell x.below h2
  have hnon : Nonempty (Ext w) := ⟨⟨w, Below.refl _ _⟩⟩
  have hH := Lib.hid hF
  have hs := hF.look_size hk
  have hs3 : (atF F k).size ≤ 9223372036854775807 := by unfold maxLen at hs; omega
  have hsz2 : Hid (((atF F k).extract 0 n).size ≤ maxLen) := Lib.hid (by rw [ByteArray.size_extract]; omega)
  have hn0 : (0 : Int) ≤ (n : Int) := by omega
  have hn1 : (n : Int) ≤ ((atF F k).size : Int) := by omega
  replace hl := Lib.hid hl
  replace hk := Lib.hid hk
  clear hF hs h1 h2
  go_enter Tryd.func32, Tryd.ntmps32
  go_wp2_with fail
  refine Lx.wp_region_chain_tail (fun w' => ∃ y : Ext w, w' = y.wo) (fun _ => False) [] [] 7 (fun A => Below w.heap.size w A) (by kernel_rfl) (by kernel_rfl) (by kernel_rfl) (by kernel_rfl) Lx.ext_drew ((Below.refl _ _).drew) ?_
  simp only [List.take_succ_cons, List.take_zero, List.drop_succ_cons, List.drop_zero]
  repeat (refine Lx.wpCh_one (by rfl) (by rfl) ?_; go_big_quiet_step (fail); refine wpQuiet_nil ?_)
  refine Lx.wpCh_nil ?_
  intro w4 hx hS
  obtain ⟨y, rfl⟩ := hx
  have hF4 := hH.out.below hS
  replace hS := Lib.hid hS
  obtain ⟨w5, hr5, hF5, hg5⟩ := hF4.store hl.out hk.out hsz2.out
  generalize y.wo = w4 at *
  clear y y1 y2 hlk hnon hF4
  replace hF5 := Lib.hid hF5
  go_wp2_with fail
  go_end0
  exact ⟨rfl, hF5.out, (Stays.of_below hS.out).trans (Stays.of_grown (O := fun b => b = bn) hg5 (fun k hk _ => by cases hk; rfl)) (fun _ _ h => h)⟩
theorem cell_grown {w w' : World} {g : Nat} (hg : w.grownBy w' (some g)) {a : Addr} {v : Value} (hc : w.cell? a = some v) (hne : a.block ≠ g) : w'.cell? a = some v := by
  have hlt : a.block < w.heap.size := by
    rcases Nat.lt_or_ge a.block w.heap.size with h' | h'
    · exact h'
    · simp [World.cell?, Array.getElem?_eq_none h'] at hc
  rw [World.cell?_of_block (w := w) (hg.block a.block hlt (fun e => hne (by cases e; rfl))), hc]
theorem FM.ne_cell {w : World} {b : Nat} {F : Files} (h : FM w b F) {g o : Nat} {v : Value} (hc : w.cell? ⟨g, o, none⟩ = some v) : g ≠ b := by
  rintro rfl
  obtain ⟨es, cl, e⟩ := h.isMap
  simp [World.cell?, e] at hc
set_option maxRecDepth 100000 in
set_option maxHeartbeats 1000000 in
theorem ren_calls {w : World} {bn : Nat} {F : Files} (hF : FM w bn F) (hl : F.length < maxLen) (k t : ByteArray) (hk : k.size ≤ maxLen) (ht : t.size ≤ maxLen) (m : Int) (b1 b2 : Nat) (h1 : w.cell? ⟨b1, 0, none⟩ = some (.string k)) (h2 : w.cell? ⟨b2, 0, none⟩ = some (.string t)) :
    Calls Tryd.prog 33 #[.map (some bn), .int .i64 m, .pointer (some ⟨b1, 0, none⟩), .pointer (some ⟨b2, 0, none⟩)] w fun e w' => e = .returned (.tuple #[]) ∧ FM w' bn (putF (delF F k) t (atF F k)) ∧ Stays (fun b => b = bn) w w' := by
  have hlk := hF.look hk
  have hs := hF.look_size hk
  obtain ⟨w4, hr4, hF4, hg4⟩ := hF.drop hk
  have j2 := cell_grown hg4 h2 (hF.ne_cell h2)
  have hl4 : (delF F k).length < maxLen := Nat.lt_of_le_of_lt (List.length_filter_le _ _) hl
  obtain ⟨w5, hr5, hF5, hg5⟩ := hF4.store hl4 ht hs
  have hst : Hid (Stays (fun b => b = bn) w w5) := Lib.hid ((Stays.of_grown (O := fun b => b = bn) hg4 (fun k hk _ => by cases hk; rfl)).trans (Stays.of_grown (O := fun b => b = bn) hg5 (fun k hk _ => by cases hk; rfl)) (fun _ _ h => h))
  replace hF5 := Lib.hid hF5
  clear hF hl hl4 hs hF4 hg4 hg5
  go_enter Tryd.func33, Tryd.ntmps33
  go_wp2_with fail
  go_end0
  exact ⟨rfl, hF5.out, hst.out⟩
set_option maxRecDepth 100000 in
set_option maxHeartbeats 1000000 in
theorem rem_calls {w : World} {bn : Nat} {F : Files} (hF : FM w bn F) (k : ByteArray) (hk : k.size ≤ maxLen) (m : Int) (b1 : Nat) (h1 : w.cell? ⟨b1, 0, none⟩ = some (.string k)) :
    Calls Tryd.prog 34 #[.map (some bn), .int .i64 m, .pointer (some ⟨b1, 0, none⟩)] w fun e w' => e = .returned (.tuple #[]) ∧ FM w' bn (delF F k) ∧ Stays (fun b => b = bn) w w' := by
  obtain ⟨w4, hr4, hF4, hg4⟩ := hF.drop hk
  have hst : Hid (Stays (fun b => b = bn) w w4) := Lib.hid (Stays.of_grown (O := fun b => b = bn) hg4 (fun k hk _ => by cases hk; rfl))
  replace hF4 := Lib.hid hF4
  clear hF hg4
  go_enter Tryd.func34, Tryd.ntmps34
  go_wp2_with fail
  go_end0
  exact ⟨rfl, hF4.out, hst.out⟩
end Go.Proofs.YtenjllkhbpoffaaDoor
