/-
  (*Disk).Alter.
-/
import Derived.Test.YtenjllkhbpoffaaDoorDskCrash
import Derived.Test.YtenjllkhbpoffaaDoorBits
import Derived.Lib.Bytes
import Derived.Lib.ConvBytes
import Derived.Laws.BytesArg
namespace Go.Proofs.YtenjllkhbpoffaaDoor
open Go Go.Maps Go.WideMaps Go.Dsk Go.Lx Go.Lst Go.RowKit

def flipB (c : UInt8) (y : Int) : UInt8 := UInt8.ofNat (Go.bits .xor .u8 (c.toNat : Int) y).toNat
def alt (s : ByteArray) (i : Nat) (y : Int) : ByteArray := ⟨(s.data.toList.set i (flipB (s.data.toList.getD i 0) y)).toArray⟩
theorem flip_val (c : UInt8) (y : Int) (hy : 0 ≤ y ∧ y < 256) : Go.bits .xor .u8 (c.toNat : Int) y = ((flipB c y).toNat : Int) := by
  obtain ⟨n, rfl⟩ : ∃ n : Nat, y = (n : Int) := ⟨y.toNat, by omega⟩
  have e : (n : Int) = (((BitVec.ofNat 8 n).toNat : Nat) : Int) := by
    rw [BitVec.toNat_ofNat, Nat.mod_eq_of_lt (by omega)]
  unfold flipB
  rw [e]
  have h := Lx.xor8 c.toBitVec (BitVec.ofNat 8 n)
  have e2 : ((c.toBitVec.toNat : Nat) : Int) = (c.toNat : Int) := rfl
  rw [e2] at h
  rw [h]
  have hlt := (c.toBitVec ^^^ BitVec.ofNat 8 n).isLt
  generalize (c.toBitVec ^^^ BitVec.ofNat 8 n).toNat = z at *
  rw [Int.toNat_natCast]
  simp
  omega
theorem alt_size (s : ByteArray) (i : Nat) (y : Int) : (alt s i y).size = s.size := by
  show (s.data.toList.set i _).toArray.size = s.data.size
  simp
def alterE (M : DM) (k : ByteArray) (i : Int) : Int := if hasF M.now k = false then 5 else if i < 0 then 2 else if ((atF M.now k).size : Int) ≤ i then 2 else if 0 < M.loose.length then 3 else 0
def alterF (M : DM) (k : ByteArray) (i y : Int) : Files := putF M.now k (alt (atF M.now k) i.toNat y)
def alterM (M : DM) (k : ByteArray) (i y : Int) : DM := if alterE M k i = 0 then { M with sure := alterF M k i y, now := alterF M k i y, loose := [] } else M
theorem alter_ok {M : DM} (h : DOk M) (hr : Rise M.now) (k : ByteArray) (i y : Int) (hh : hasF M.now k = true) : DOk { M with sure := alterF M k i y, now := alterF M k i y, loose := [] } := by
  obtain ⟨t1, t2⟩ := tot_now h
  have e1 := tot_put hr k (alt (atF M.now k) i.toNat y)
  have e2 := len_put hr k (alt (atF M.now k) i.toNat y)
  rw [alt_size] at e1
  rw [if_pos hh] at e2
  refine ⟨h.room, rise_put hr _ _, rfl, fun j hj => ?_, fun j c hc => by simp at hc, h.fuse⟩
  obtain rfl : j = 0 := by simpa using hj
  refine ⟨?_, ?_⟩
  · show (tot (putF M.now k (alt (atF M.now k) i.toNat y)) : Int) ≤ M.room
    omega
  · show (putF M.now k (alt (atF M.now k) i.toNat y)).length ≤ 64
    omega
set_option maxRecDepth 100000 in
theorem conv_of {W : World} (g : Nat) (A : ByteArray) (cap : Nat) (hc : ∀ j, j < A.size → W.cell? ⟨g, j, none⟩ = some (.int .u8 ((A.data.toList.getD j 0).toNat : Int))) :
    (convert 76 9 (.slice (some ⟨g, 0, none⟩) A.size cap)).run Tryd.prog W = .ok (.string A) W := by
  have hlen : A.data.toList.length = A.size := by simp
  have := run_convert_bytes_arg (P := Tryd.prog) W 76 5 Tryd.underlying76 Tryd.underlying5 g 0 A.size cap (A.data.toList.map fun b => (b.toNat : Int)) (by rw [List.length_map, hlen]) (fun j hj => by
    have hjl : j < A.data.toList.length := by omega
    rw [Nat.zero_add, hc j hj]
    simp only [List.getD_eq_getElem?_getD, List.getElem?_map, List.getElem?_eq_getElem hjl, Option.getD_some, Option.map_some]) 9 Tryd.underlying9
  have e : (A.data.toList.map fun b => (b.toNat : Int)).map (fun n => UInt8.ofNat n.toNat) = A.data.toList := by
    rw [List.map_map]
    conv => rhs; rw [← List.map_id A.data.toList]
    congr 1
    funext b; simp
  have e2 : strOfNums (A.data.toList.map fun b => (b.toNat : Int)) = A := by
    unfold strOfNums
    rw [e]
  rw [this, e2]
set_option maxRecDepth 100000 in
theorem alt_at (s : ByteArray) (i : Nat) (hi : i < s.size) (y : Int) (hy : 0 ≤ y ∧ y < 256) (j : Nat) (hj : j < s.size) : (((alt s i y).data.toList.getD j 0).toNat : Int) = if j = i then Go.bits .xor .u8 ((s.data.toList.getD i 0).toNat : Int) y else ((s.data.toList.getD j 0).toNat : Int) := by
  have hlen : s.data.toList.length = s.size := by simp
  have hjl : j < s.data.toList.length := by omega
  have e : (alt s i y).data.toList = s.data.toList.set i (flipB (s.data.toList.getD i 0) y) := by simp [alt]
  rw [e, flip_val _ _ hy]
  generalize flipB (s.data.toList.getD i 0) y = x
  simp only [List.getD_eq_getElem?_getD, List.getElem?_set]
  by_cases hji : j = i
  · subst hji
    rw [if_pos rfl, if_pos hjl, if_pos rfl, Option.getD_some]
  · rw [if_neg (fun e => hji e.symm), if_neg hji]
set_option maxRecDepth 100000 in
theorem Alter_nil (w : World) (k : ByteArray) (i y : Int) : Calls Tryd.prog 28 #[.pointer none, .string k, .int .i64 i, .int .u8 y] w fun e w' => e = .returned (.int .i64 1) ∧ w = w' := by
  go_enter Tryd.func28, Tryd.ntmps28
  go_wp2_with fail
  go_ret
  exact ⟨rfl, rfl⟩
set_option maxRecDepth 100000 in
set_option maxHeartbeats 4000000 in
theorem Alter_calls {w : World} {O : Nat → Prop} {b : Nat} {M : DM} (h : Dk w O b M) (k : ByteArray) (hk : k.size ≤ maxLen) (i y : Int) (hi : i ≤ 9223372036854775807) (hy : 0 ≤ y ∧ y < 256) :
    Calls Tryd.prog 28 #[.pointer (some ⟨b, 0, none⟩), .string k, .int .i64 i, .int .u8 y] w fun e w' => e = .returned (.int .i64 (alterE M k i)) ∧ Dk w' (Gr O w w') b (alterM M k i y) ∧ Stays O w w' := by
  obtain ⟨bs, bn, lv, cv, vs, h⟩ := h
  have hmn := fun A => eql_files_nil A bn
  obtain ⟨-, -, q2, q3, -, -⟩ := h.c6
  obtain ⟨pl, cl, elv, -, -, -⟩ := Lst.own h.rest.row
  have hvl : vs.length = M.loose.length := by simpa using h.rest.row.1
  rw [elv, hvl] at q3
  have hlk := h.rest.now.look_ok hk
  have hsize := h.rest.now.look_size hk
  have same : Hid (Dk w (Gr O w w) b M ∧ Stays O w w) := Lib.hid ⟨⟨bs, bn, lv, cv, vs, h.grow (fun _ hk => .inl hk) (Gr.lo h.rest.lo (Nat.le_refl _))⟩, Stays.of_below (Below.refl _ _)⟩
  have hH := Lib.hid h
  obtain ⟨E, hE⟩ : ∃ E, alterE M k i = E := ⟨_, rfl⟩
  obtain ⟨M', hM'⟩ : ∃ M', alterM M k i y = M' := ⟨_, rfl⟩
  rw [hE, hM']
  unfold alterM at hM'
  rw [hE] at hM'
  unfold alterE at hE
  obtain ⟨hh, hhe⟩ : ∃ hh, hasF M.now k = hh := ⟨_, rfl⟩
  obtain ⟨s, hse⟩ : ∃ s, atF M.now k = s := ⟨_, rfl⟩
  rw [hhe, hse] at hE hlk
  rw [hse] at hsize
  unfold maxLen at hsize
  clear h elv hvl
  cases hh with
  | false =>
    rw [if_pos rfl] at hE
    subst hE
    rw [if_neg (by decide)] at hM'
    subst hM'
    clear hhe hse
    go_enter Tryd.func28, Tryd.ntmps28
    go_wp2_with fail
    go_ret
    exact ⟨rfl, same.out⟩
  | true =>
  rw [if_neg (by decide)] at hE
  replace hhe := Lib.hid hhe
  replace hse := Lib.hid hse
  by_cases h1 : i < 0
  · rw [if_pos h1] at hE
    subst hE
    rw [if_neg (by decide)] at hM'
    subst hM'
    have h1b : decide (i < 0) = true := decide_eq_true h1
    clear h1
    go_enter Tryd.func28, Tryd.ntmps28
    go_wp2_with fail
    go_ret
    exact ⟨rfl, same.out⟩
  rw [if_neg h1] at hE
  have h1b : decide (i < 0) = false := decide_eq_false h1
  obtain ⟨j, rfl⟩ : ∃ j : Nat, i = (j : Int) := ⟨i.toNat, by omega⟩
  by_cases h2 : (s.size : Int) ≤ (j : Int)
  · rw [if_pos h2] at hE
    subst hE
    rw [if_neg (by decide)] at hM'
    subst hM'
    have h2b : decide (s.size ≤ j) = true := decide_eq_true (by omega)
    clear h1 h2
    go_enter Tryd.func28, Tryd.ntmps28
    go_wp2_with fail
    go_ret
    exact ⟨rfl, same.out⟩
  rw [if_neg h2] at hE
  have h2b : decide (s.size ≤ j) = false := decide_eq_false (by omega)
  by_cases h3 : 0 < M.loose.length
  · rw [if_pos h3] at hE
    subst hE
    rw [if_neg (by decide)] at hM'
    subst hM'
    have h3b : decide (0 < M.loose.length) = true := decide_eq_true h3
    clear h1 h2 h3
    go_enter Tryd.func28, Tryd.ntmps28
    go_wp2_with fail
    go_ret
    exact ⟨rfl, same.out⟩
  rw [if_neg h3] at hE
  subst hE
  rw [if_pos rfl] at hM'
  subst hM'
  have hl0 : M.loose.length = 0 := by omega
  have hjs : j < s.size := by omega
  have hj0 : (0 : Int) ≤ (j : Int) := by omega
  have hj1 : (j : Int) < (s.size : Int) := by omega
  have hcv := Lib.run_convert_string_bytes (P := Tryd.prog) w 9 76 5 s Tryd.underlying9 Tryd.underlying76 Tryd.underlying5
  obtain ⟨cap, hcap⟩ : ∃ cap, grownCap w s.size 0 5 = cap := ⟨_, rfl⟩
  rw [hcap] at hcv
  clear hcap
  have hB1 : Below w.heap.size w (Lib.bytesWorld w 5 s) := ⟨rfl, rfl, rfl, by rw [Lib.bytesWorld_size]; omega, fun k hk => Lib.bytesWorld_at_old w _ s k hk⟩
  have hsz1 : (Lib.bytesWorld w 5 s).heap.size = w.heap.size + 1 := Lib.bytesWorld_size _ _ _
  have hcl : Hid (∀ i, i < s.size → (Lib.bytesWorld w 5 s).cell? ⟨w.heap.size, i, none⟩ = some (.int .u8 ((s.data.toList.getD i 0).toNat : Int))) := Lib.hid fun i hi => Lib.bytesWorld_cell w _ s i hi
  have hfr : (Lib.bytesWorld w 5 s).frozen? ⟨w.heap.size, j, none⟩ = false := by
    have hsz : s.size ≤ (Lib.bytesCells w 5 s).size := by simp [Lib.bytesCells]
    simp [World.frozen?, Lib.bytesWorld_at_new]; omega
  have hcj := hcl.out j hjs
  generalize Lib.bytesWorld w 5 s = W1 at *
  obtain ⟨c, hc⟩ : ∃ c, s.data.toList.getD j 0 = c := ⟨_, rfl⟩
  rw [hc] at hcj
  have hc0 : (c.toNat : Int) < 256 := by have := c.toNat_lt; omega
  obtain ⟨xv, hxv⟩ : ∃ xv, Go.bits .xor .u8 (c.toNat : Int) y = xv := ⟨_, rfl⟩
  obtain ⟨hy0, hy1⟩ := hy
  replace hc := Lib.hid hc
  replace hB1 := Lib.hid hB1
  replace hsz1 := Lib.hid hsz1
  replace hjs := Lib.hid hjs
  have hl0b : M.loose.length = 0 := hl0
  rw [hl0] at q3
  have h3b : decide ((0 : Int) < ((0 : Nat) : Int)) = false := by decide
  replace hl0 := Lib.hid hl0
  clear h1 h2 h3 hl0b
  go_enter Tryd.func28, Tryd.ntmps28
  go_wp2_with fail
  have hB2 : Below w.heap.size w (W1.setCell ⟨w.heap.size, j, none⟩ (.int .u8 xv)) := hB1.out.setCell (p := ⟨w.heap.size, j, none⟩) (Nat.le_refl _) _
  have hcells : Hid (∀ i, i < s.size → (W1.setCell ⟨w.heap.size, j, none⟩ (.int .u8 xv)).cell? ⟨w.heap.size, i, none⟩ = some (.int .u8 (((alt s j y).data.toList.getD i 0).toNat : Int))) := Lib.hid fun i hq => by
    rw [alt_at s j hjs.out y ⟨hy0, hy1⟩ i hq]
    by_cases e : i = j
    · subst e
      rw [World.cell?_setCell_same' _ _ _ (by rw [hcl.out _ hq]; rfl), if_pos rfl, hc.out, hxv]
    · rw [World.cell?_setCell_other _ _ _ _ (by intro h'; cases h'; exact e rfl), hcl.out i hq, if_neg e]
  have hD2 := Lib.hid (hH.out.below hB2)
  have hs2 := Lib.hid hB2
  have q2' := hD2.out.c6.2.2.1
  clear q2 q3 hcv hcj hfr hlk hmn hB1 hB2 hcl
  generalize W1.setCell ⟨w.heap.size, j, none⟩ (.int .u8 xv) = W at *
  have hcx := fun x : Ext W => conv_of (W := x.wo) w.heap.size (alt s j y) cap (fun i hi => below_cell x.below (hcells.out i (by rwa [alt_size] at hi)))
  rw [alt_size] at hcx
  have y2 := fun x : Ext W => below_cell x.below q2'
  have hnon : Nonempty (Ext W) := ⟨⟨W, Below.refl _ _⟩⟩
  refine Lx.wp_region_chain_tail (fun w' => ∃ y : Ext W, w' = y.wo) (fun _ => False) [] [] 7 (fun A => Below W.heap.size W A) (by kernel_rfl) (by kernel_rfl) (by kernel_rfl) (by kernel_rfl) Lx.ext_drew ((Below.refl _ _).drew) ?_
  simp only [List.take_succ_cons, List.take_zero, List.drop_succ_cons, List.drop_zero]
  repeat (refine Lx.wpCh_one (by rfl) (by rfl) ?_; go_big_quiet_step (fail); refine wpQuiet_nil ?_)
  refine Lx.wpCh_nil ?_
  intro w4 hx hS
  obtain ⟨x, rfl⟩ := hx
  have hF4 := hD2.out.rest.now.below hS
  have hlen := (tot_now hH.out.ok).2
  obtain ⟨w5, hr5, hF5, hg5⟩ := hF4.store (s := alt s j y) (by unfold maxLen; omega) hk (by rw [alt_size]; unfold maxLen; omega)
  generalize x.wo = w4 at *
  clear x y2 hcx hnon hF4 hlen
  have hD4 := hD2.out.below hS
  have hsb := (Stays.of_grown (O := fun b => b = bn) hg5 (fun k hk _ => by cases hk; rfl))
  have hT := hD4.rest.turn hD4.blk hF5 hsb
  have el : M.loose = [] := List.eq_nil_of_length_eq_zero hl0.out
  have hC := Lib.hid (settle_calls hT.2 hT.1)
  replace hsb := Lib.hid hsb
  replace hS := Lib.hid hS
  clear hT hD4 hF5 q2' hg5 el
  go_wp2_with fail
  refine hC.out.mono ?_
  rintro e w6 ⟨rfl, bs', hb6, hR6, hs6⟩
  replace hb6 := Lib.hid hb6
  replace hR6 := Lib.hid hR6
  replace hs6 := Lib.hid hs6
  clear hC
  go_wp2_with fail
  go_ret
  have a1 := hs2.out.size
  have a2 := hS.out.size
  have a3 := hsb.out.size
  have hbnO : O bn := hH.out.rest.own bn (.inr (.inr (.inl rfl)))
  have e1 : Stays O w w4 := (Stays.of_below (O := O) hs2.out).trans (Stays.of_below (O := O) hS.out) (fun _ _ h => h)
  have e2 : Stays O w w5 := e1.trans hsb.out (fun k _ e => by subst e; exact hbnO)
  have e3 : Stays O w w6 := e2.trans hs6.out (fun _ _ h => h)
  have hok := alter_ok hH.out.ok hH.out.rest.now.rise k (j : Int) y hhe.out
  unfold alterF at hok ⊢
  rw [hse.out, show ((j : Int)).toNat = j by omega] at hok ⊢
  have hfin : DkAt w6 (Gr O w5 w6) b bs' bn (.slice none 0 0) (.slice none 0 0) [] { M with sure := putF M.now k (alt s j y), now := putF M.now k (alt s j y), loose := [] } := ⟨hb6.out, hR6.out, hok⟩
  refine ⟨rfl, ⟨_, _, _, _, _, hfin.grow (fun k hk => ?_) (Gr.lo hH.out.rest.lo e3.size)⟩, e3⟩
  exact hk.elim .inl (fun h => .inr ⟨by omega, h.2⟩)
end Go.Proofs.YtenjllkhbpoffaaDoor
