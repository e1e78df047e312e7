/-
  codicillaw26.works.
-/
import Derived.Test.YtkjfplkbgooflaaNil
namespace Go.Proofs.Ytkjfplkbgooflaa
open Go Go.RowKit Go.Lst Go.Lx

theorem nums_blk {k : IntKind} {w : World} {b : Nat} (xs : List Int) (h : Blk w b (xs.map fun x => .int k x)) (hw : ∀ x ∈ xs, (Lit.int k x).wf = true) (hl : xs.length ≤ 1000) : Nums k w (.slice (some ⟨b, 0, none⟩) xs.length xs.length) xs := by
  refine ⟨⟨some ⟨b, 0, none⟩, xs.length, by simp, by simp, by unfold maxLen; simp; omega, fun i hi => ?_⟩, hw⟩
  refine ⟨_, rfl, ?_⟩
  rw [blk_cells h i _ (List.getElem?_eq_getElem (by simpa using hi))]
def nE (i t : Int) : Ent := ⟨i, t, 1, ⟨#[]⟩, []⟩
def L0 : LogS := ⟨0, 0, [1, 2, 3], []⟩
theorem noop_calls' (i t : Int) (w : World) : Calls Try.prog 10 #[.int .u64 i, .int .u64 t] w fun y w' => y = .returned (.agg #[.int .u64 i, .int .u64 t, .int .u8 1, .string ⟨#[]⟩, .slice none 0 0]) ∧ Below w.heap.size w w' := noop_calls i t w
theorem Append_noop {B B0 : Nat} {w : World} {b : Nat} {cv lv : Value} {L : LogS} (h : LogAt B B0 w b cv lv L) (ok : LogOk L) (i t : Int) :
    Calls Try.prog 9 #[.pointer (some ⟨b, 0, none⟩), .agg #[.int .u64 i, .int .u64 t, .int .u8 1, .string ⟨#[]⟩, .slice none 0 0]] w fun y w' => y = .returned (.int .i64 (appendE L (nE i t))) ∧ ∃ lv', LogAt B B0 w' b cv lv' (appendL L (nE i t)) ∧ Stays (fun k => k = b ∨ lv.ownBlock = some k) w w' ∧ (∀ k, lv'.ownBlock = some k → lv.ownBlock = some k ∨ w.heap.size ≤ k) ∧ (appendE L (nE i t) ≠ 0 → Below w.heap.size w w') :=
  Append_calls h ok (nE i t) (.slice none 0 0) (Nums.nil _ _)
/-- A log of the call's own: all that is written lies from w0 on. -/
structure Mine (w0 w : World) (b : Nat) (cv lv : Value) (L : LogS) : Prop where
  log : LogAt w0.heap.size w0.heap.size w b cv lv L
  ok : LogOk L
  lo : w0.heap.size ≤ b
  own : ∀ k, lv.ownBlock = some k → w0.heap.size ≤ k
  below : Below w0.heap.size w0 w
theorem Mine.then {w0 w w' : World} {b : Nat} {cv lv : Value} {L : LogS} (h : Mine w0 w b cv lv L) (hb : Below w.heap.size w w') : Mine w0 w' b cv lv L := ⟨h.log.below hb, h.ok, h.lo, h.own, Lx.bstep h.below (Nat.le_refl _) hb⟩
theorem Mine.stays {w0 w w' : World} {b : Nat} {cv lv cv' lv' : Value} {L L' : LogS} (h : Mine w0 w b cv lv L) (h' : LogAt w0.heap.size w0.heap.size w' b cv' lv' L') (ok : LogOk L') (hs : Stays (fun k => k = b ∨ lv.ownBlock = some k) w w') (ho : ∀ k, lv'.ownBlock = some k → lv.ownBlock = some k ∨ w.heap.size ≤ k) : Mine w0 w' b cv' lv' L' :=
  ⟨h', ok, h.lo, fun k hk => (ho k hk).elim (h.own k) (fun h1 => Nat.le_trans h.below.size h1), h.below.trans (hs.below h.below.size (fun k hk => hk.elim (fun e => e ▸ h.lo) (h.own k)))⟩
theorem stays_or {w w' : World} {b : Nat} {lv : Value} (h : Stays (fun k => k = b) w w') : Stays (fun k => k = b ∨ lv.ownBlock = some k) w w' := ⟨h.os, h.tape, h.output, h.size, fun k hk hn => h.block k hk (fun e => hn (.inl e))⟩
/-- The starting log. -/
theorem New_mine (w0 w : World) (b : Nat) (hb : Blk w b [.int .i64 1, .int .i64 2, .int .i64 3]) (hw : Below w0.heap.size w0 w) :
    Calls Try.prog 8 #[.int .u64 0, .int .u64 0, .slice (some ⟨b, 0, none⟩) 3 3] w fun y w' => ∃ b cv, y = .returned (.tuple #[.pointer (some ⟨b, 0, none⟩), .int .i64 0]) ∧ Mine w0 w' b cv (.slice none 0 0) L0 ∧ Below w.heap.size w w' := by
  refine (New_good w0.heap.size 0 0 _ [1, 2, 3] w (nums_blk [1, 2, 3] hb (by decide) (by decide)) (by decide) (by decide) (by decide) hw.size).mono ?_
  rintro y w' ⟨b', cv, rfl, h1, h2, h3, h4⟩
  exact ⟨b', cv, rfl, ⟨⟨h2.blk, h2.cf, h2.row.elim (fun h => .inl (h.mono hw.size)) .inr, h2.nb, ⟨Nat.le_refl _, Nat.le_trans hw.size h1⟩, h2.sz, h2.nn⟩, h3, Nat.le_trans hw.size h1, fun k hk => (by cases hk), Lx.bstep hw (Nat.le_refl _) h4⟩, h4⟩
theorem Append_mine {w0 w : World} {b : Nat} {cv lv : Value} {L : LogS} (h : Mine w0 w b cv lv L) (i t : Int) :
    Calls Try.prog 9 #[.pointer (some ⟨b, 0, none⟩), .agg #[.int .u64 i, .int .u64 t, .int .u8 1, .string ⟨#[]⟩, .slice none 0 0]] w fun y w' => y = .returned (.int .i64 (appendE L (nE i t))) ∧ ∃ lv', Mine w0 w' b cv lv' (appendL L (nE i t)) ∧ (∀ k, lv'.ownBlock = some k → lv.ownBlock = some k ∨ w.heap.size ≤ k) ∧ (appendE L (nE i t) ≠ 0 → Below w.heap.size w w') := by
  refine (Append_noop h.log h.ok i t).mono ?_
  rintro y w' ⟨rfl, lv', h1, h2, h3, h4⟩
  exact ⟨rfl, lv', h.stays h1 (appendL_ok h.ok h.log.sz _).1 h2 h3, h3, h4⟩
theorem Store_mine {w0 w : World} {b : Nat} {cv lv : Value} {L : LogS} (h : Mine w0 w b cv lv L) (i t : Int) (hi : 0 ≤ i) (v : Value) (es : List Ent) (he : Ents w0.heap.size w v es) (hvb : ∀ k, v.ownBlock = some k → k < w.heap.size ∧ k ≠ b) :
    Calls Try.prog 11 #[.pointer (some ⟨b, 0, none⟩), .int .u64 i, .int .u64 t, v] w fun y w' => ∃ pv lv', y = .returned (.tuple #[.int .u64 (storeAt L i t es), pv, .int .i64 (storeE L i t es)]) ∧ Row w0.heap.size w.heap.size w' pv (storePut L i t es) ∧ Mine w0 w' b cv lv' (storeL L i t es) ∧ Stays (fun k => k = b) w w' ∧ (∀ k, lv'.ownBlock = some k → lv.ownBlock = some k ∨ w.heap.size ≤ k) ∧ (storePut L i t es = [] → Below w.heap.size w w') := by
  refine (Store_calls h.log h.ok i t hi v es he hvb).mono ?_
  rintro y w' ⟨pv, lv', rfl, h0, h1, h2, h3, h4⟩
  exact ⟨pv, lv', rfl, h0, h.stays h1 (storeL_ok h.ok h.log.sz hi es).1 (stays_or h2) h3, h2, h3, h4⟩
theorem Compact_mine {w0 w : World} {b : Nat} {cv lv : Value} {L : LogS} (h : Mine w0 w b cv lv L) (x : Int) (hx : 0 ≤ x) :
    Calls Try.prog 12 #[.pointer (some ⟨b, 0, none⟩), .int .u64 x] w fun y w' => y = .returned (.int .i64 (termAt L x).2) ∧ ∃ cv' lv', Mine w0 w' b cv' lv' (compactL L x) ∧ Stays (fun k => k = b) w w' ∧ (∀ k, lv'.ownBlock = some k → lv.ownBlock = some k ∨ w.heap.size ≤ k) := by
  refine (Compact_calls h.log h.ok x hx).mono ?_
  rintro y w' ⟨rfl, cv', lv', h1, h2, h3⟩
  exact ⟨rfl, cv', lv', h.stays h1 (compactL_ok h.ok h.log.sz x).1 (stays_or h2) h3, h2, h3⟩
/-- A block that nobody writes is no log's block. -/
theorem Mine.calms {w0 w w' : World} {b : Nat} {cv lv : Value} {L : LogS} (h : Mine w0 w b cv lv L) (hs : Stays (fun k => k = b) w w') : Calms w0.heap.size w w' := Calms.stays hs (fun g hg _ => hg ▸ h.log.loud)
theorem ents_of_noop (B : Nat) (w : World) (i t : Int) : Ents B (w.alloc (.cells #[.int .u64 i, .int .u64 t, .int .u8 1, .string ⟨#[]⟩, .slice none 0 0] 31)) (.slice (some ⟨w.heap.size, 0, none⟩) 1 1) [nE i t] :=
  ents_one (B := B) _ 1 (nE i t) (.slice none 0 0) (Nat.le_refl _) (by unfold maxLen; omega) (blk_cells (Blk.new w _ _)) (Cf.nil _ _)
def L2 : LogS := appendL (appendL L0 (nE 1 1)) (nE 2 1)
def L3 : LogS := storeL L2 1 1 [nE 2 2]
set_option maxRecDepth 100000 in
set_option maxHeartbeats 4000000 in
theorem works26_calls (w : World) : Calls Try.prog 13 #[] w fun y w' => y = .returned (.bool true) ∧ Below w.heap.size w w' := by
  have hm := made1 w #[.int .i64 1, .int .i64 2, .int .i64 3] 3
  have f1 : appendE L0 (nE 1 1) = 0 := by kernel_rfl
  have f2 : appendE (appendL L0 (nE 1 1)) (nE 2 1) = 0 := by kernel_rfl
  have f3 : hint L2 2 = 1 := by kernel_rfl
  have f4 : storeAt L2 1 1 [nE 2 2] = 2 := by kernel_rfl
  have f5 : storeE L2 1 1 [nE 2 2] = 0 := by kernel_rfl
  have f6 : (storePut L2 1 1 [nE 2 2]).length = 1 := by kernel_rfl
  have f7 : lastOf L3 = (2, 2) := by kernel_rfl
  have f8 : saysI L3 (lastOf L3).1 = 0 := by kernel_rfl
  have f9 : (saysC L3 (lastOf L3).1).length = 3 := by kernel_rfl
  have f10 : fitsB L3 2 2 = true := by kernel_rfl
  have f11 : fitsB L3 2 1 = false := by kernel_rfl
  have f12 : hint L3 9 = 3 := by kernel_rfl
  replace f1 := Lib.hid f1
  replace f2 := Lib.hid f2
  replace f3 := Lib.hid f3
  replace f4 := Lib.hid f4
  replace f5 := Lib.hid f5
  replace f6 := Lib.hid f6
  replace f7 := Lib.hid f7
  replace f8 := Lib.hid f8
  replace f9 := Lib.hid f9
  replace f10 := Lib.hid f10
  replace f11 := Lib.hid f11
  replace f12 := Lib.hid f12
  go_enter Try.func13, Try.ntmps13
  go_wp2_with fail
  generalize w.alloc (.cells #[.int .i64 1, .int .i64 2, .int .i64 3] 3) = W at *
  refine (New_mine w W _ hm.1 hm.2.1).mono ?_
  rintro y w1 ⟨b, cv, rfl, hM, -⟩
  replace hM := Lib.hid hM
  clear hm
  go_wp2_with fail
  refine (noop_calls' 1 1 _).mono ?_
  rintro y w2 ⟨rfl, hb⟩
  replace hM := Lib.hid (hM.out.then hb)
  clear hb
  go_wp2_with fail
  refine (Append_mine hM.out 1 1).mono ?_
  rw [f1.out]
  clear hM
  rintro y w3 ⟨rfl, lv1, hM, -⟩
  replace hM := Lib.hid hM
  go_wp2_with fail
  refine (noop_calls' 2 1 _).mono ?_
  rintro y w4 ⟨rfl, hb⟩
  replace hM := Lib.hid (hM.out.then hb)
  clear hb
  go_wp2_with fail
  refine (Append_mine hM.out 2 1).mono ?_
  rw [f2.out]
  clear hM
  rintro y w5 ⟨rfl, lv2, hM, -⟩
  replace hM : Hid (Mine w w5 b cv lv2 L2) := Lib.hid hM
  go_wp2_with fail
  refine (Hint_calls hM.out.log hM.out.ok 2 (by decide)).mono ?_
  rw [f3.out]
  rintro y w6 ⟨rfl, hb⟩
  replace hM := Lib.hid (hM.out.then hb)
  clear hb
  go_wp2_with fail
  refine (noop_calls' 2 2 _).mono ?_
  rintro y w7 ⟨rfl, hb⟩
  replace hM := Lib.hid (hM.out.then hb)
  clear hb
  go_wp2_with fail
  have hE := ents_of_noop w.heap.size w7 2 2
  have hb7 : Below w7.heap.size w7 (w7.alloc (.cells #[.int .u64 2, .int .u64 2, .int .u8 1, .string ⟨#[]⟩, .slice none 0 0] 31)) := (by repeat (first | exact Below.refl _ _ | exact Lx.Ext.below _ | refine Below.drew ?_ | refine below_drewN ?_ _ | (refine Below.alloc ?_ (by first | exact Nat.le_refl _ | (simp; done) | (simp; omega)) _) | (refine Below.setCell ?_ (by first | exact Nat.le_refl _ | (simp; done) | (simp; omega)) _)))
  have hM8 := hM.out.then hb7
  have hlt := hM.out.log.lt
  refine (Store_mine hM8 1 1 (by decide) _ [nE 2 2] hE (fun k hk => by cases hk; exact ⟨by simp, by show w7.heap.size ≠ b; omega⟩)).mono ?_
  rw [f4.out, f5.out]
  clear hE hb7 hM8 hlt hM
  rintro y w9 ⟨pv, lv3, rfl, hrow, hM, -⟩
  obtain ⟨pp, pc, rfl, -⟩ := hrow.ents
  rw [f6.out]
  replace hM : Hid (Mine w w9 b cv lv3 L3) := Lib.hid hM
  clear hrow
  go_wp2_with fail
  refine (Last_calls hM.out.log).mono ?_
  rw [f7.out]
  rintro y w10 ⟨rfl, hb⟩
  replace hM := Lib.hid (hM.out.then hb)
  clear hb
  go_wp2_with fail
  refine (Conf_calls hM.out.log hM.out.ok).mono ?_
  rw [f8.out]
  rintro y w11 ⟨v, rfl, hcf, hb, -⟩
  obtain ⟨pw, cw, rfl, -⟩ := hcf.n.parts
  rw [f9.out]
  replace hM := Lib.hid (hM.out.then hb)
  clear hb hcf
  go_wp2_with fail
  refine (Fits_calls hM.out.log hM.out.ok 2 2 (by decide)).mono ?_
  rw [f10.out]
  rintro y w12 ⟨rfl, hb⟩
  replace hM := Lib.hid (hM.out.then hb)
  clear hb
  go_wp2_with fail
  refine (Fits_calls hM.out.log hM.out.ok 2 1 (by decide)).mono ?_
  rw [f11.out]
  rintro y w13 ⟨rfl, hb⟩
  replace hM := Lib.hid (hM.out.then hb)
  clear hb
  go_wp2_with fail
  refine (Hint_calls hM.out.log hM.out.ok 9 (by decide)).mono ?_
  rw [f12.out]
  rintro y w14 ⟨rfl, hb⟩
  replace hM := Lib.hid (hM.out.then hb)
  clear hb
  go_wp2_with fail
  go_ret
  exact ⟨rfl, hM.out.below⟩
end Go.Proofs.Ytkjfplkbgooflaa
