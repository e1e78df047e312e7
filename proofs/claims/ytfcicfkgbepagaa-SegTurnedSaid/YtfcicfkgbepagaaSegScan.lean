/-
  The contracts of the reference's Scan and Same: each returns the plain law's value. Strings of at most 2^24 bytes.
-/
import Derived.Test.YtfcicfkgbepagaaSegMath
import Derived.OwnWalk
import Derived.Maps.AppendAt
namespace Go.Proofs.Ytfcicfkgbepagaa
open Go.RowKit

def sv (t : List UInt8) : Value := .string (str t)
theorem infoStr : (Try.prog.info? 9).map (fun i => (i.zero, i.size, i.bytes)) = some (some (.string ⟨#[]⟩), 1, 16) := by kernel_rfl

/-- A slice of texts that the call has made. -/
def Texts (w0 : Nat) (w : World) (v : Value) (ts : List (List UInt8)) : Prop := w.ownsRow w0 9 1 v ts.length (ts.map sv)
def ScanPost (w : World) (r : List (List UInt8) × Nat × Nat) (e : Ending) (w' : World) : Prop :=
  ∃ v, e = .returned (.tuple #[v, .int .i64 (r.2.1 : Int), .int .i64 (r.2.2 : Int)]) ∧ Texts w.heap.size w' v r.1 ∧ Below w.heap.size w w'

/-- How far a scan has come. -/
structure SInv (l : List UInt8) (R : List (List UInt8) × Nat × Nat) (k g : Nat) (ts : List (List UInt8)) : Prop where
  le : g ≤ l.length
  fuel : l.length - g < k
  few : ts.length ≤ g
  sum : R = (ts ++ (scan k (l.drop g)).1, g + (scan k (l.drop g)).2.1, (scan k (l.drop g)).2.2)
theorem SInv.start (l : List UInt8) : SInv l (scanAll l) (l.length + 1) 0 [] := ⟨by omega, by omega, by simp, by simp [scanAll]⟩
theorem SInv.step {l : List UInt8} {R : List (List UInt8) × Nat × Nat} {k g : Nat} {ts : List (List UInt8)} (h : SInv l R (k + 1) g ts) (hlt : g < l.length) (hok : (rd (l.drop g)).2.2 = 0) :
    SInv l R k (g + (rd (l.drop g)).2.1) (ts ++ [(rd (l.drop g)).1]) := by
  have h2 := rd_ok _ hok
  have hd : (l.drop g).length = l.length - g := List.length_drop
  have h3 := h.few
  have h4 := h.fuel
  refine ⟨by omega, by omega, by simp; omega, ?_⟩
  have := h.sum
  rw [scan, if_neg (by omega), if_pos hok, List.drop_drop] at this
  rw [this]
  simp [Nat.add_assoc]
theorem SInv.stop {l : List UInt8} {R : List (List UInt8) × Nat × Nat} {k g : Nat} {ts : List (List UInt8)} (h : SInv l R (k + 1) g ts) (hlt : g < l.length) (hok : (rd (l.drop g)).2.2 ≠ 0) :
    R = (ts, g, (rd (l.drop g)).2.2) := by
  have hd : (l.drop g).length = l.length - g := List.length_drop
  have := h.sum
  rw [scan, if_neg (by omega), if_neg hok] at this
  rw [this]; simp
theorem SInv.done {l : List UInt8} {R : List (List UInt8) × Nat × Nat} {k g : Nat} {ts : List (List UInt8)} (h : SInv l R (k + 1) g ts) (hlt : ¬ g < l.length) :
    R = (ts, g, 0) := by
  have hd : (l.drop g).length = l.length - g := List.length_drop
  have h3 := h.le
  have := h.sum
  rw [scan, if_pos (by omega)] at this
  rw [this]; simp
theorem drop_str (s : ByteArray) (g : Nat) : (s.extract g s.size).data.toList = s.data.toList.drop g := by
  rw [piece, List.take_of_length_le (by simp)]

theorem own_below {w0 : Nat} {e : TypeId} {v : Value} {n : Nat} {xs : List Value} {w w' : World} (h : w.ownsRow w0 e 1 v n xs) (hb : Below w.heap.size w w') : w'.ownsRow w0 e 1 v n xs := by
  refine ⟨h.1, ?_⟩
  rcases h.2 with h2 | ⟨g, cap, cur, e1, e2, e3, e4⟩
  · exact .inl h2
  · exact .inr ⟨g, cap, cur, e1, e2, (hb.block g (Array.getElem?_eq_some_iff.1 e3).1).trans e3, e4⟩
theorem own_alloc {w0 : Nat} {e : TypeId} {v : Value} {n : Nat} {xs : List Value} {w w' : World} (h : w.ownsRow w0 e 1 v n xs) (hb : Below w.heap.size w w') (o : Obj) : (w'.alloc o).ownsRow w0 e 1 v n xs :=
  (own_below h hb).alloc o

theorem texts_snoc {w0 : Nat} {w : World} {v : Value} {ts : List (List UInt8)} {t : List UInt8} (h : w.ownsRow w0 9 1 v (ts.length + 1) (ts.map sv ++ [sv t])) : Texts w0 w v (ts ++ [t]) := by
  unfold Texts
  rw [List.length_append, List.map_append]
  exact h
theorem below_append {w wr w1 w2 : World} {o : Obj} {v : Value} {n : Nat} {xs : List Value} {e : TypeId} (hB : Below w.heap.size w wr) (hb : Below wr.heap.size wr w1) (hown : wr.ownsRow w.heap.size e 1 v n xs) (hg : (w1.alloc o).grownBy w2 v.ownBlock) : Below w.heap.size w w2 := by
  have h1 := Lx.bstep hB (Nat.le_refl _) hb
  exact (h1.alloc h1.size o).grown hg (by have := h1.size; simp; omega) (fun k hk => (hown.lt k hk).1)

set_option maxRecDepth 100000 in
set_option maxHeartbeats 1000000 in
theorem rScan_calls (s : ByteArray) (w : World) (hs : s.size ≤ 16777216) :
    Calls Try.prog 23 #[.string s] w (ScanPost w (scanAll s.data.toList)) := by
  have hlen : s.data.toList.length = s.size := by simp
  obtain ⟨R, hR⟩ : ∃ R, scanAll s.data.toList = R := ⟨_, rfl⟩
  have hI := Lib.hid (SInv.start s.data.toList)
  rw [hR] at hI ⊢
  rw [hlen] at hI
  clear hR
  have hlen' := Lib.hid hlen
  clear hlen
  obtain ⟨i0, hi, hz0, hz1, hz2⟩ := info_parts infoStr
  go_enter Try.func23, Try.ntmps23
  go_wp2_with fail
  go_loopg [5, 6] (s.size + 1) (fun k v5 v6 wr => ∃ (g : Nat) (ts : List (List UInt8)), v6 = .int .i64 (g : Int) ∧ Texts w.heap.size wr v5 ts ∧ Below w.heap.size w wr ∧ SInv s.data.toList R k g ts)
  case atStart => exact ⟨0, [], rfl, World.ownsRow_nil _ _ _ _, Below.refl _ _, hI.out⟩
  case round =>
    clear hI
    obtain ⟨g, ts, rfl, hT, hB, HI⟩ := hrel
    cases gk with
    | zero => exact absurd HI.fuel (Nat.not_lt_zero _)
    | succ k =>
      have hlen := hlen'.out
      by_cases hlt : g < s.size
      · have hgs : (g : Int) ≤ (s.size : Int) := by omega
        have C1 := Lib.hid (fun W => rRead_calls (s.extract g s.size) W (by unfold maxLen; simp; omega))
        rw [drop_str] at C1
        by_cases hok : (rd (s.data.toList.drop g)).2.2 = 0
        · have HI2 := Lib.hid (HI.step (by omega) hok)
          have hfew := HI.few
          have hrl := (rd_ok _ hok).2
          rw [List.length_drop] at hrl
          rw [hok] at C1
          have hgn0 : g + (rd (s.data.toList.drop g)).2.1 ≤ 16777216 := by omega
          have hok' := Lib.hid hok
          clear hok hlen hrl
          generalize (rd (s.data.toList.drop g)).1 = t at *
          generalize (rd (s.data.toList.drop g)).2.1 = n at *
          have hgn : (g : Int) + (n : Int) ≤ 16777216 := by omega
          have hown : wr.ownsRow w.heap.size 9 1 u5 ts.length (ts.map sv) := hT
          have hbz := hB.size
          go_wp2_with (first
            | (go_at_call 21; refine (C1.out _).mono ?_; rintro e w1 ⟨rfl, hb1⟩)
            | (at_builtin; refine wpList_append_own _ rfl (.tmp 27) (.tmp 29) 39 rfl w.heap.size 9 i0 (.string ⟨#[]⟩) 1 16 Try.underlying39 hi hz0 hz1 hz2 rfl (by decide) _ _ _ rfl (own_alloc hown hb1 _) ⟨w1.heap.size, 0, none⟩ 1 1 [sv t] rfl rfl (cell_one_new _ _ _) (by simp [sv, Value.oneCell']) (by unfold maxLen; omega) (by omega) (by have := hb1.size; simp; omega) ?_; intro v' w2 hown2 hgrow _))
          go_roundg k
          case measure => omega
          case rel => exact ⟨g + n, ts ++ [t], by go_num, texts_snoc hown2, below_append hB hb1 hown hgrow, HI2.out⟩
        · have hst := Lib.hid (HI.stop (by omega) hok)
          have hne : (((rd (s.data.toList.drop g)).2.2 : Int) != 0) = true := by rw [bne_iff_ne]; omega
          have hok' := Lib.hid hok
          clear hok hlen
          generalize (rd (s.data.toList.drop g)).1 = t at *
          generalize (rd (s.data.toList.drop g)).2.1 = n at *
          generalize (rd (s.data.toList.drop g)).2.2 = x at *
          go_wp2_with (go_at_call 21; refine (C1.out _).mono ?_; rintro e w1 ⟨rfl, hb1⟩)
          go_ret3
          have e1 := hst.out
          subst e1
          exact ⟨_, rfl, own_below hT hb1, Lx.bstep hB (Nat.le_refl _) hb1⟩
      · have hst := Lib.hid (HI.done (by omega))
        clear hlen
        go_wp2_with fail
        go_ret3
        have e1 := hst.out
        subst e1
        exact ⟨_, rfl, hT, hB⟩
end Go.Proofs.Ytfcicfkgbepagaa
