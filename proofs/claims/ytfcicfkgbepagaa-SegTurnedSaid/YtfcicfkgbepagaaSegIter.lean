/-
  The contract of seg.Scan (a range over a function): it returns the plain law's value. Strings of at most 2^24 bytes.
-/
import Derived.Test.YtfcicfkgbepagaaSegScan
import Derived.Test.YtfcicfkgbepagaaRange
import Derived.OwnWalkIn
import Derived.TacticsInMore
import Derived.LoopNIn
import Derived.LoopIn
import Derived.Shelf.Abstract
import Derived.Shelf.RegionOpen
namespace Go.Proofs.Ytfcicfkgbepagaa
open Go.RowKit Go.Shelf
attribute [local go_sem] Oper.semAt_some

/-- seg.all boxes what it is handed; its function captures both boxes. -/
theorem all_calls (s : ByteArray) (v : Value) (hv : v.oneCell' = true) (hc : v.cells = #[v]) (w : World) :
    Calls Try.prog 34 #[.string s, v] w fun e w' => e = .returned (.func (.func 36) #[] #[.pointer (some ⟨w.heap.size, 0, none⟩), .pointer (some ⟨w.heap.size + 1, 0, none⟩)]) ∧
      w' = (w.alloc (.cells #[.string s] 9)).alloc (.cells #[v] 58) := by
  go_enter Try.func34, Try.ntmps34
  go_wp2_with fail
  go_ret
  exact ⟨rfl, rfl⟩

theorem end_calls (x : Int) (b : Nat) (c : Value) (t : TypeId) (w : World) (hb : w.heap[b]? = some (.cells #[c] t (0, 0))) :
    Calls Try.prog 35 #[.int .i64 x, .pointer (some ⟨b, 0, none⟩)] w fun e w' => (∃ v, e = .returned v) ∧ w' = w.setCell ⟨b, 0, none⟩ (.int .i64 x) := by
  have hc : w.cell? ⟨b, 0, none⟩ = some c := by simp [World.cell?, hb]
  have hf : w.frozen? ⟨b, 0, none⟩ = false := by simp [World.frozen?, hb]
  clear hb
  go_enter Try.func35, Try.ntmps35
  go_wp2_with fail
  go_end0
  exact ⟨⟨_, rfl⟩, rfl⟩

/-! Scan. The blocks from B on: the texts, how far they go, the error; the bytes, and what is called at the end. -/
abbrev Item := List UInt8 × Nat
def gOf (pre : List Item) : Nat := (pre.getLast?.map (·.2)).getD 0
def tsOf (pre : List Item) : List (List UInt8) := pre.map (·.1)
def endV (B : Nat) : Value := .func (.func 35) #[] #[.pointer (some ⟨B + 2, 0, none⟩)]
def encI (x : Item) : Array Value := #[.string (str x.1), .int .i64 (x.2 : Int)]

structure SHeap (s : ByteArray) (B : Nat) (g : Int) (ts : List (List UInt8)) (x : Int) (W : World) (v : Value) : Prop where
  h0 : W.heap[B]? = some (.cells #[v] 39 (0, 0))
  h1 : W.heap[B + 1]? = some (.cells #[.int .i64 g] 3 (0, 0))
  h2 : W.heap[B + 2]? = some (.cells #[.int .i64 x] 33 (0, 0))
  h3 : W.heap[B + 3]? = some (.cells #[.string s] 9 (0, 0))
  h4 : W.heap[B + 4]? = some (.cells #[endV B] 58 (0, 0))
  own : W.ownsRow (B + 5) 9 1 v ts.length (ts.map sv)

structure SI (s : ByteArray) (R : List (List UInt8) × Nat × Nat) (w : World) (pre : List Item) (W : World) : Prop where
  heap : ∃ v, SHeap s w.heap.size (gOf pre) (tsOf pre) 0 W v
  sum : ∃ k, SInv s.data.toList R k (gOf pre) (tsOf pre)
  below : Below w.heap.size w W
structure SZ (s : ByteArray) (R : List (List UInt8) × Nat × Nat) (w : World) (pre : List Item) (W : World) : Prop where
  heap : ∃ v, SHeap s w.heap.size R.2.1 R.1 R.2.2 W v
  below : Below w.heap.size w W
def SC (s : ByteArray) (pre : List Item) (x : Item) : Prop :=
  gOf pre < s.size ∧ (rd (s.data.toList.drop (gOf pre))).2.2 = 0 ∧ x = ((rd (s.data.toList.drop (gOf pre))).1, gOf pre + (rd (s.data.toList.drop (gOf pre))).2.1)

theorem lt_of_heap {W : World} {k : Nat} {o : Obj} (h : W.heap[k]? = some o) : k < W.heap.size := (Array.getElem?_eq_some_iff.1 h).1
theorem SHeap.grow {s : ByteArray} {B : Nat} {g : Int} {ts : List (List UInt8)} {x : Int} {W W' : World} {v : Value} (h : SHeap s B g ts x W v) (hb : Below W.heap.size W W') : SHeap s B g ts x W' v :=
  ⟨(hb.block _ (lt_of_heap h.h0)).trans h.h0, (hb.block _ (lt_of_heap h.h1)).trans h.h1, (hb.block _ (lt_of_heap h.h2)).trans h.h2, (hb.block _ (lt_of_heap h.h3)).trans h.h3, (hb.block _ (lt_of_heap h.h4)).trans h.h4, own_below h.own hb⟩
theorem SHeap.put {s : ByteArray} {B : Nat} {g : Int} {ts : List (List UInt8)} {x : Int} {W : World} {v : Value} (h : SHeap s B g ts x W v) {L : Nat} {o : Obj} (o' : Obj) (hl : W.heap[L]? = some o) (ho : o.isCells = false) : SHeap s B g ts x (W.putObj L o') v := by
  have key : ∀ (k : Nat) (c : Array Value) (t : TypeId), W.heap[k]? = some (.cells c t (0, 0)) → (W.putObj L o').heap[k]? = some (.cells c t (0, 0)) := by
    intro k c t hk
    refine (World.putObj_heap_other ?_).trans hk
    intro e; subst e; rw [hl] at hk; cases hk; simp [Obj.isCells] at ho
  refine ⟨key _ _ _ h.h0, key _ _ _ h.h1, key _ _ _ h.h2, key _ _ _ h.h3, key _ _ _ h.h4, h.own.1, ?_⟩
  rcases h.own.2 with h2 | ⟨b, cap, cur, e1, e2, e3, e4⟩
  · exact .inl h2
  · exact .inr ⟨b, cap, cur, e1, e2, key _ _ _ e3, e4⟩
theorem below_put {B : Nat} {w W : World} (h : Below B w W) {L : Nat} (o' : Obj) (hL : B ≤ L) : Below B w (W.putObj L o') :=
  ⟨h.os, h.tape, h.output, by have := h.size; simp [World.putObj]; omega, fun k hk => (World.putObj_heap_other (by omega)).trans (h.block k hk)⟩
theorem keeps_below {W W' : World} (h : Below W.heap.size W W') : KeepsOthers W W' := ⟨h.size, fun k o hk _ => (h.block k (lt_of_heap hk)).trans hk⟩
theorem SI.grow {s : ByteArray} {R : List (List UInt8) × Nat × Nat} {w : World} {pre : List Item} {W W' : World} (h : SI s R w pre W) (hb : Below W.heap.size W W') : SI s R w pre W' := by
  obtain ⟨v, hv⟩ := h.heap
  exact ⟨⟨v, hv.grow hb⟩, h.sum, Lx.bstep h.below (Nat.le_refl _) hb⟩

theorem stop_world {s : ByteArray} {R : List (List UInt8) × Nat × Nat} {w w1 : World} {pre : List Item} {v : Value} {x : Nat} (hv : SHeap s w.heap.size (gOf pre) (tsOf pre) 0 w1 v) (hb : Below w.heap.size w w1) (hR : R = (tsOf pre, gOf pre, x)) :
    SZ s R w pre (w1.setCell ⟨w.heap.size + 2, 0, none⟩ (.int .i64 (x : Int))) := by
  subst hR
  have key : ∀ k, k ≠ w.heap.size + 2 → (w1.setCell ⟨w.heap.size + 2, 0, none⟩ (.int .i64 (x : Int))).heap[k]? = w1.heap[k]? := fun k hk => heap_setCell_other w1 _ k _ hk
  have h2 := heap_setCell_same w1 (w.heap.size + 2) 0 _ _ (.int .i64 (x : Int)) hv.h2
  refine ⟨⟨v, ⟨(key _ (by omega)).trans hv.h0, (key _ (by omega)).trans hv.h1, h2, (key _ (by omega)).trans hv.h3, (key _ (by omega)).trans hv.h4, hv.own.1, ?_⟩⟩, hb.setCell (p := ⟨w.heap.size + 2, 0, none⟩) (by simp) _⟩
  rcases hv.own.2 with h | ⟨b, cap, cur, e1, e2, e3, e4⟩
  · exact .inl h
  · exact .inr ⟨b, cap, cur, e1, e2, (key _ (by omega)).trans e3, e4⟩
theorem done_world {s : ByteArray} {R : List (List UInt8) × Nat × Nat} {w w1 : World} {pre : List Item} {v : Value} (hv : SHeap s w.heap.size (gOf pre) (tsOf pre) 0 w1 v) (hb : Below w.heap.size w w1) (hR : R = (tsOf pre, gOf pre, 0)) :
    SZ s R w pre w1 := by
  subst hR
  exact ⟨⟨v, hv⟩, hb⟩

set_option maxRecDepth 100000 in
set_option maxHeartbeats 2000000 in
/-- The iterator's run, at the loop's own invariant. -/
theorem iter_in (s : ByteArray) (R : List (List UInt8) × Nat × Nat) (w : World) (hs : s.size ≤ 16777216) (m l : Nat) (J Jx : List Item → World → Prop) (W : World)
    (hJI : ∀ pre A, J pre A → SI s R w pre A) (hJ : ∀ pre A B, J pre A → KeepsOthers A B → SI s R w pre B → J pre B)
    (hY : ∀ pre x A, J pre A → SC s pre x → YieldAt Fence.wide (m - 1) Try.prog l (encI x) A fun e B => (e = .returned (.bool true) ∧ J (pre ++ [x]) B) ∨ (e = .returned (.bool false) ∧ Jx (pre ++ [x]) B))
    (h0 : J [] W) :
    CallsIn Fence.wide m Try.prog 36 (#[.func (.yield l) #[] #[]] ++ #[.pointer (some ⟨w.heap.size + 3, 0, none⟩), .pointer (some ⟨w.heap.size + 4, 0, none⟩)]) W fun e W' => (∃ v, e = .returned v) ∧ ((∃ W0 xs, J xs W0 ∧ KeepsOthers W0 W' ∧ SZ s R w xs W') ∨ (∃ pre, Jx pre W')) := by
  refine callsIn_of_wp Try.func36 rfl trivial ?_ rfl
  simp only [Try.ntmps36, List.size_toArray, List.length_cons, List.length_nil, Nat.reduceAdd, Nat.reduceSub, Array.replicate_succ, Array.replicate_zero, List.push_toArray, List.append_toArray, List.nil_append, List.cons_append]
  gi_wp2_with fail
  gi_loopw [4] (fun v4 wr => ∃ pre : List Item, v4 = .int .i64 (gOf pre : Int) ∧ J pre wr) (fun v4 _ => s.size - (intOf v4).toNat)
  case atStart => exact ⟨[], rfl, h0⟩
  case round =>
    clear h0
    obtain ⟨pre, rfl, hj⟩ := hrel
    have hi := hJI _ _ hj
    obtain ⟨v, hv⟩ := hi.heap
    obtain ⟨k, hk⟩ := hi.sum
    have c3 : wr.cell? ⟨w.heap.size + 3, 0, none⟩ = some (.string s) := by simp [World.cell?, hv.h3]
    by_cases hlt : gOf pre < s.size
    · have hgs : (gOf pre : Int) ≤ (s.size : Int) := by omega
      have hkf : s.data.toList.length = s.size := by simp
      obtain ⟨k', rfl⟩ : ∃ k', k = k' + 1 := ⟨k - 1, by have := hk.fuel; omega⟩
      have RC := Lib.hid (fun W => Read_calls (s.extract (gOf pre) s.size) W (by unfold maxLen; simp; omega))
      rw [drop_str] at RC
      gi_wp2_with fail
      refine ⟨trivial, (fun h => (by cases h)), ?_⟩
      refine (callsIn_wide.2 (RC.out _)).mono ?_
      rintro e w1 ⟨rfl, hb1⟩
      have hi1 := hi.grow hb1
      have hj1 := hJ _ _ _ hj (keeps_below hb1) hi1
      have hv1 := hv.grow hb1
      by_cases hok : (rd (s.data.toList.drop (gOf pre))).2.2 = 0
      · obtain ⟨fn, tmps, assign, body, hy, hR⟩ := hY pre ((rd (s.data.toList.drop (gOf pre))).1, gOf pre + (rd (s.data.toList.drop (gOf pre))).2.1) w1 hj1 ⟨hlt, hok, rfl⟩
        have hrd := rd_ok _ hok
        rw [List.length_drop] at hrd
        have hg2 := Lib.hid (show gOf (pre ++ [((rd (s.data.toList.drop (gOf pre))).1, gOf pre + (rd (s.data.toList.drop (gOf pre))).2.1)]) = gOf pre + (rd (s.data.toList.drop (gOf pre))).2.1 by simp [gOf])
        rw [hok]
        dsimp only [encI] at hy
        generalize (rd (s.data.toList.drop (gOf pre))).1 = t at *
        generalize (rd (s.data.toList.drop (gOf pre))).2.1 = n at *
        have hn : (gOf pre : Int) + (n : Int) ≤ 16777216 := by omega
        have hn1 : 12 ≤ n := by omega
        have hn2 : gOf pre + n ≤ s.size := by omega
        have hg0 : 0 ≤ (gOf pre : Int) := by omega
        have hcast : (((gOf pre + n : Nat)) : Int) = (gOf pre : Int) + (n : Int) := by omega
        rw [hcast] at hy
        clear hcast RC hv hv1 hi hi1 hj hb1 hJI hJ hY c3 hkf hk hrd hok
        gi_wp2_with fail
        refine ⟨(fun h => (by cases h)), ?_⟩
        refine hR.mono ?_
        rintro e W3 (⟨rfl, hJ3⟩ | ⟨rfl, hJx3⟩)
        · gi_wp2_with fail
          go_roundw
          case rel => exact ⟨_, by rw [hg2.out]; go_num, hJ3⟩
          case measure => simp [intOf]; omega
        · gi_wp2_with fail
          refine bodyPost_ret (results_none rfl _ _ _) rfl ?_
          exact ⟨⟨_, rfl⟩, .inr ⟨_, hJx3⟩⟩
      · have hst := Lib.hid (hk.stop (by omega) hok)
        have hne : (((rd (s.data.toList.drop (gOf pre))).2.2 : Int) != 0) = true := by rw [bne_iff_ne]; omega
        have c4 : w1.cell? ⟨w.heap.size + 4, 0, none⟩ = some (.func (.func 35) #[] #[.pointer (some ⟨w.heap.size + 2, 0, none⟩)]) := by simp [World.cell?, hv1.h4, endV]
        have h2 := hv1.h2
        generalize (rd (s.data.toList.drop (gOf pre))).1 = t at *
        generalize (rd (s.data.toList.drop (gOf pre))).2.1 = n at *
        generalize (rd (s.data.toList.drop (gOf pre))).2.2 = x at *
        have hsz := hi1.below
        have fin := Lib.hid (stop_world hv1 hsz hst.out)
        have E1 := Lib.hid (end_calls x (w.heap.size + 2) (.int .i64 0) 33 w1 h2)
        clear hJI hJ hY c3 hkf hk hok hst hi hi1 hv hv1 RC h2 hsz
        gi_wp2_with fail
        refine ⟨trivial, (fun h => (by cases h)), ?_⟩
        refine (callsIn_wide.2 E1.out).mono ?_
        rintro e w2 ⟨⟨u, rfl⟩, rfl⟩
        gi_wp2_with fail
        refine bodyPost_ret (results_none rfl _ _ _) rfl ?_
        exact ⟨⟨_, rfl⟩, .inl ⟨w1, pre, hj1, KeepsOthers.setCell _ _ _, fin.out⟩⟩
    · obtain ⟨k', rfl⟩ : ∃ k', k = k' + 1 := ⟨k - 1, by have := hk.fuel; omega⟩
      have hst := Lib.hid (hk.done (by simp; omega))
      have fin := Lib.hid (done_world hv hi.below hst.out)
      clear hJI hJ hY hk hi hv hst
      gi_wp2_with fail
      go_end0
      exact ⟨⟨_, rfl⟩, .inl ⟨wr, pre, hj, KeepsOthers.refl _, fin.out⟩⟩
end Go.Proofs.Ytfcicfkgbepagaa
