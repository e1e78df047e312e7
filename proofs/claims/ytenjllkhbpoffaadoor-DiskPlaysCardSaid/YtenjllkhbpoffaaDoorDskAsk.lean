/-
  What a disk is asked: Name, New, Loose, Fuse, Read, Left, Names; settle, Sync.
-/
import Derived.Test.YtenjllkhbpoffaaDoorDskDoes
import Derived.Maps.RangeWalk
import Derived.Deep.LoopGhost
namespace Go.Proofs.YtenjllkhbpoffaaDoor
open Go Go.Maps Go.WideMaps Go.Dsk Go.Lx Go.Lst Go.RowKit

def letters : List UInt8 := [97, 98, 99, 100, 101, 102, 103, 104, 105, 106, 107, 108, 109, 110, 111, 112, 113, 114, 115, 116, 117, 118, 119, 120, 121, 122, 48, 49, 50, 51, 52, 53, 54, 55, 56, 57, 46, 45, 95]
def nameB (s : ByteArray) : Bool := decide (1 ≤ s.size) && decide (s.size ≤ 32) && s.data.toList.all (letters.contains ·)
theorem dropWhile_nil {α : Type} (p : α → Bool) : ∀ l : List α, l.dropWhile p = [] ↔ l.all p = true
  | [] => by simp
  | x :: l => by
    rw [List.dropWhile_cons, List.all_cons]
    cases hx : p x with
    | true => simp only [if_true, Bool.true_and]; exact dropWhile_nil p l
    | false => simp
theorem trim_nil (l cs : List UInt8) : Go.Lib.trimS l cs = [] ↔ l.all (cs.contains ·) = true := by
  unfold Go.Lib.trimS Go.Lib.trimLeftS Go.Lib.trimRightS
  rw [dropWhile_nil]
  constructor
  · intro h
    by_cases hn : (l.reverse.dropWhile (cs.contains ·)) = []
    · rw [dropWhile_nil, List.all_reverse] at hn
      exact hn
    · exfalso
      have h2 := List.head_dropWhile_not (l := l.reverse) (p := (cs.contains ·)) hn
      rw [List.all_reverse] at h
      rw [List.all_eq_true] at h
      rw [h _ (List.head_mem hn)] at h2
      cases h2
  · intro h
    have : l.reverse.dropWhile (cs.contains ·) = [] := by rw [dropWhile_nil, List.all_reverse]; exact h
    rw [this]
    rfl
set_option maxRecDepth 100000 in
set_option maxHeartbeats 1000000 in
theorem Name_calls (w : World) (s : ByteArray) (hs : s.size ≤ maxLen) : Calls Tryd.prog 26 #[.string s] w fun e w' => e = .returned (.bool (nameB s)) ∧ Below w.heap.size w w' := by
  have hT := Lib.hid (fun A : World => Any.strings_Trim_laid Tryd.trim48 (by kernel_rfl) s ⟨letters.toArray⟩ A (by unfold maxLen at hs; omega) (by decide) (ascii_of_all (by decide)))
  obtain ⟨B, hB⟩ : ∃ B, nameB s = B := ⟨_, rfl⟩
  rw [hB]
  unfold nameB at hB
  by_cases h0 : s.size = 0
  · have e : s = ⟨#[]⟩ := ByteArray.ext (Array.eq_empty_of_size_eq_zero h0)
    subst e
    clear hT h0 hs
    subst hB
    go_enter Tryd.func26, Tryd.ntmps26
    go_wp2_with fail
    go_ret
    exact ⟨rfl, Below.refl _ _⟩
  have h0a : s.toList.isEmpty = false := by
    rw [Go.Lib.toList_data]
    cases hl : s.data.toList with
    | nil => exact absurd (show s.data.size = 0 by rw [← Array.length_toList, hl]; rfl) h0
    | cons _ _ => rfl
  by_cases h1 : s.size ≤ 32
  case neg =>
    have h1b : decide ((s.size : Int) ≤ 32) = false := by simp; omega
    rw [show decide (s.size ≤ 32) = false by simpa using h1] at hB
    simp only [Bool.and_false, Bool.false_and] at hB
    subst hB
    replace hs := Lib.hid hs
    replace hT := Lib.hid hT
    go_enter Tryd.func26, Tryd.ntmps26
    go_wp2_with fail
    go_ret
    exact ⟨rfl, Below.refl _ _⟩
  have h1b : decide ((s.size : Int) ≤ 32) = true := by simp; omega
  rw [show decide (s.size ≤ 32) = true by simpa using h1, show decide (1 ≤ s.size) = true by simp; omega] at hB
  simp only [Bool.and_true, Bool.true_and] at hB
  obtain ⟨r, hr⟩ : ∃ r : ByteArray, (⟨(Go.Lib.trimS s.data.toList letters).toArray⟩ : ByteArray) = r := ⟨_, rfl⟩
  have hrB : r.toList.isEmpty = B := by
    rw [← hr, Go.Lib.toList_data]
    dsimp only
    rw [List.toList_toArray, ← hB, Bool.eq_iff_iff, List.isEmpty_iff]
    exact trim_nil _ _
  have hT' : Hid (∀ A : World, Calls Tryd.prog 48 #[.string s, .string ⟨letters.toArray⟩] A fun e w' => e = .returned (.string r) ∧ Below A.heap.size A w') := Lib.hid (fun A => by rw [← hr]; exact hT.out A)
  clear hT hr h0 h1 hB
  unfold letters at hT'
  replace hs := Lib.hid hs
  go_enter Tryd.func26, Tryd.ntmps26
  go_wp2_with fail
  refine (hT'.out _).mono ?_
  rintro e w' ⟨rfl, hb⟩
  go_wp2_with fail
  go_ret
  exact ⟨rfl, hb⟩
/-! New -/
def newM (room : Int) : DM := ⟨room, [], [], [], -1⟩
theorem newM_ok {room : Int} (h : 0 ≤ room ∧ room ≤ 16777216) : DOk (newM room) :=
  ⟨h, List.Pairwise.nil, rfl, fun j hj => by
    obtain rfl : j = 0 := by simpa [newM] using hj
    exact ⟨by simpa [newM, all, tot] using h.1, by simp [newM, all]⟩, fun j c hc => by simp [newM] at hc, by simp [newM]⟩
theorem heap_new (w : World) (o : Obj) : (w.alloc o).heap[w.heap.size]? = some o := by show (w.heap.push _)[w.heap.size]? = _; simp
set_option maxRecDepth 100000 in
theorem New_bad (w : World) (room : Int) (h : room < 0 ∨ 16777216 < room) : Calls Tryd.prog 10 #[.int .i64 room] w fun y w' => y = .returned (.tuple #[.pointer none, .int .i64 2]) ∧ Below w.heap.size w w' := by
  by_cases h1 : room < 0
  · have h1b : decide (room < 0) = true := decide_eq_true h1
    clear h h1
    go_enter Tryd.func10, Tryd.ntmps10
    go_wp2_with fail
    go_ret2
    exact ⟨rfl, Below.refl _ _⟩
  have h1b : decide (room < 0) = false := decide_eq_false h1
  have h2b : decide (16777216 < room) = true := decide_eq_true (h.resolve_left h1)
  clear h h1
  go_enter Tryd.func10, Tryd.ntmps10
  go_wp2_with fail
  go_ret2
  exact ⟨rfl, Below.refl _ _⟩
set_option maxRecDepth 100000 in
theorem New_good (w : World) (room : Int) (h : 0 ≤ room ∧ room ≤ 16777216) : Calls Tryd.prog 10 #[.int .i64 room] w fun y w' => ∃ b, y = .returned (.tuple #[.pointer (some ⟨b, 0, none⟩), .int .i64 0]) ∧ Dk w' (Gr (fun _ => False) w w') b (newM room) ∧ Below w.heap.size w w' := by
  have hmm := @run_makeMap Tryd.prog
  have h1b : decide (room < 0) = false := decide_eq_false (by omega)
  have h2b : decide (16777216 < room) = false := decide_eq_false (by omega)
  replace h := Lib.hid h
  go_enter Tryd.func10, Tryd.ntmps10
  go_wp2_with fail
  go_ret2
  have hB1 : Below w.heap.size w (w.alloc (.map #[] 0)) := (Below.refl _ _).alloc (Nat.le_refl _) _
  have e1 : (w.alloc (.map #[] 0)).heap.size = w.heap.size + 1 := by simp
  have e2 : ((w.alloc (.map #[] 0)).alloc (.map #[] 0)).heap.size = w.heap.size + 2 := by simp
  have hF2 := FM.made (w.alloc (.map #[] 0))
  rw [e1] at hF2
  have hF1 := (FM.made w).below ((Below.refl (w.alloc (.map #[] 0)).heap.size (w.alloc (.map #[] 0))).alloc (Nat.le_refl _) (.map #[] 0))
  have hB3 : Below w.heap.size w (((w.alloc (.map #[] 0)).alloc (.map #[] 0)).alloc (.cells #[.int .i64 room, .map (some w.heap.size), .map (some (w.heap.size + 1)), .slice none 0 0, .slice none 0 0, .int .i64 (-1)] 61)) := ((hB1.alloc (by omega) _).alloc (by omega) _)
  refine ⟨w.heap.size + 2, rfl, ⟨w.heap.size, w.heap.size + 1, .slice none 0 0, .slice none 0 0, [], ?_, ⟨?_, ?_, by omega, own_nil _ _ _, own_nil _ _ _, fun j hj => by simp at hj, ?_, ?_⟩, newM_ok h.out⟩, hB3⟩
  · have := heap_new ((w.alloc (.map #[] 0)).alloc (.map #[] 0)) (.cells #[.int .i64 room, .map (some w.heap.size), .map (some (w.heap.size + 1)), .slice none 0 0, .slice none 0 0, .int .i64 (-1)] 61)
    rw [e2] at this
    exact this
  · exact hF1.below ((Below.refl _ _).alloc (Nat.le_refl _) _)
  · exact hF2.below ((Below.refl _ _).alloc (Nat.le_refl _) _)
  · intro k hk
    refine .inr ?_
    rcases hk with rfl | rfl | rfl | h | h
    · exact ⟨by omega, by simp⟩
    · exact ⟨by omega, by simp; omega⟩
    · exact ⟨by omega, by simp⟩
    · cases h
    · cases h
  · intro k hk
    exact hk.elim (fun h => h.elim) (fun h => h.2)
/-! Loose, Fuse, Read -/
set_option maxRecDepth 100000 in
theorem Loose_nil (w : World) : Calls Tryd.prog 19 #[.pointer none] w fun y w' => y = .returned (.int .i64 0) ∧ w = w' := by
  go_enter Tryd.func19, Tryd.ntmps19
  go_wp2_with fail
  go_ret
  exact ⟨rfl, rfl⟩
set_option maxRecDepth 100000 in
theorem Loose_calls {w : World} {O : Nat → Prop} {b : Nat} {M : DM} (h : Dk w O b M) : Calls Tryd.prog 19 #[.pointer (some ⟨b, 0, none⟩)] w fun y w' => y = .returned (.int .i64 M.loose.length) ∧ w = w' := by
  obtain ⟨bs, bn, lv, cv, vs, h⟩ := h
  obtain ⟨p, c, hv, -, -⟩ := (Lst.own h.rest.row)
  obtain ⟨-, -, -, q3, -, -⟩ := h.c6
  have hl : vs.length = M.loose.length := by simpa using h.rest.row.1
  rw [hv, hl] at q3
  clear h hv hl
  go_enter Tryd.func19, Tryd.ntmps19
  go_wp2_with fail
  go_ret
  exact ⟨rfl, rfl⟩
def fuseM (M : DM) (n : Int) : DM := { M with fuse := max n (-1) }
set_option maxRecDepth 100000 in
theorem Fuse_nil (w : World) (n : Int) : Calls Tryd.prog 20 #[.pointer none, .int .i64 n] w fun y w' => y = .returned (.int .i64 1) ∧ w = w' := by
  go_enter Tryd.func20, Tryd.ntmps20
  go_wp2_with fail
  go_ret
  exact ⟨rfl, rfl⟩
set_option maxRecDepth 100000 in
theorem Fuse_calls {w : World} {O : Nat → Prop} {b : Nat} {M : DM} (h : Dk w O b M) (n : Int) (hn : n ≤ 9223372036854775807) : Calls Tryd.prog 20 #[.pointer (some ⟨b, 0, none⟩), .int .i64 n] w fun y w' => y = .returned (.int .i64 0) ∧ Dk w' O b (fuseM M n) ∧ Stays O w w' := by
  obtain ⟨bs, bn, lv, cv, vs, h⟩ := h
  have hmn := fun A => eql_files_nil A bn
  obtain ⟨-, -, q2, -, -, q5⟩ := h.c6
  have f5 := h.isBlk.frz 5
  have hst := stays_put (O := fun k => k = b) w b 5 rfl (.int .i64 (max n (-1)))
  have hD : Hid (Dk (w.setCell ⟨b, 5, none⟩ (.int .i64 (max n (-1)))) O b (fuseM M n) ∧ Stays O w (w.setCell ⟨b, 5, none⟩ (.int .i64 (max n (-1))))) := Lib.hid
    ⟨⟨bs, bn, lv, cv, vs, h.setFuse hst _ (by omega) (heap_put (cs := [.int .i64 M.room, .map (some bs), .map (some bn), lv, cv, .int .i64 M.fuse]) h.blk 5 _)⟩, stays_put w b 5 (h.rest.own b (.inl rfl)) _⟩
  clear h hst
  go_enter Tryd.func20, Tryd.ntmps20
  go_wp2_with fail
  go_ret
  exact ⟨rfl, hD.out⟩
/-! Read, settle -/
def readE (M : DM) (k : ByteArray) : Int := if M.fuse = 0 then 60 else if hasF M.now k = true then 0 else 5
def readS (M : DM) (k : ByteArray) : ByteArray := if M.fuse = 0 then ⟨#[]⟩ else atF M.now k
set_option maxRecDepth 100000 in
theorem Read_nil (w : World) (k : ByteArray) : Calls Tryd.prog 17 #[.pointer none, .string k] w fun y w' => y = .returned (.tuple #[.string ⟨#[]⟩, .int .i64 1]) ∧ w = w' := by
  go_enter Tryd.func17, Tryd.ntmps17
  go_wp2_with fail
  go_ret2
  exact ⟨rfl, rfl⟩
set_option maxRecDepth 100000 in
set_option maxHeartbeats 1000000 in
theorem Read_calls {w : World} {O : Nat → Prop} {b : Nat} {M : DM} (h : Dk w O b M) (k : ByteArray) (hk : k.size ≤ maxLen) : Calls Tryd.prog 17 #[.pointer (some ⟨b, 0, none⟩), .string k] w fun y w' => y = .returned (.tuple #[.string (readS M k), .int .i64 (readE M k)]) ∧ w = w' := by
  obtain ⟨bs, bn, lv, cv, vs, h⟩ := h
  have hmn := fun A => eql_files_nil A bn
  obtain ⟨-, -, q2, -, -, q5⟩ := h.c6
  have hlk := h.rest.now.look_ok hk
  obtain ⟨E, hE⟩ : ∃ E, readE M k = E := ⟨_, rfl⟩
  obtain ⟨S, hS⟩ : ∃ S, readS M k = S := ⟨_, rfl⟩
  rw [hE, hS]
  unfold readE at hE
  unfold readS at hS
  obtain ⟨f, hf⟩ : ∃ f, M.fuse = f := ⟨_, rfl⟩
  rw [hf] at q5 hE hS
  replace hf := Lib.hid hf
  clear h
  by_cases c1 : f = 0
  · subst c1
    rw [if_pos rfl] at hE hS
    subst hE hS
    clear hlk
    go_enter Tryd.func17, Tryd.ntmps17
    go_wp2_with fail
    go_ret2
    exact ⟨rfl, rfl⟩
  rw [if_neg c1] at hE hS
  have c1b : (f == 0) = false := by simpa using c1
  subst hS
  clear c1
  cases hh : hasF M.now k with
  | true =>
    rw [hh] at hE hlk
    rw [if_pos rfl] at hE
    subst hE
    clear hh
    go_enter Tryd.func17, Tryd.ntmps17
    go_wp2_with fail
    go_ret2
    exact ⟨rfl, rfl⟩
  | false =>
    rw [at_none hh, hh] at hlk
    rw [at_none hh]
    rw [hh, if_neg (by simp)] at hE
    subst hE
    clear hh
    go_enter Tryd.func17, Tryd.ntmps17
    go_wp2_with fail
    go_ret2
    exact ⟨rfl, rfl⟩
def syncM (M : DM) : DM := { M with sure := M.now, loose := [] }
theorem syncM_ok {M : DM} (h : DOk M) (hr : Rise M.now) : DOk (syncM M) := by
  have h1 := h.small M.loose.length (Nat.le_refl _)
  rw [List.take_length, ← h.now] at h1
  refine ⟨h.room, hr, rfl, fun j hj => ?_, fun j c hc => by simp [syncM] at hc, h.fuse⟩
  obtain rfl : j = 0 := by simpa [syncM] using hj
  exact h1
set_option maxRecDepth 100000 in
set_option maxHeartbeats 1000000 in
theorem settle_calls {w : World} {O : Nat → Prop} {b bs bn : Nat} {lv cv : Value} {vs : List Value} {S N : Files} {l : List Lc} {room fuse : Int} (hb : Head w b bs bn lv cv room fuse) (hR : Rest w O b bs bn lv cv vs S N l l) : Calls Tryd.prog 35 #[.pointer (some ⟨b, 0, none⟩)] w fun y w' => y = .returned (.tuple #[]) ∧ ∃ bs', Head w' b bs' bn (.slice none 0 0) (.slice none 0 0) room fuse ∧ Rest w' (Gr O w w') b bs' bn (.slice none 0 0) (.slice none 0 0) [] N N [] [] ∧ Stays O w w' := by
  have hC := Lib.hid (Clone_calls hR.now)
  have q2 := hb.blk.cell 2 rfl
  have hH := Lib.hid hR
  have hB := Lib.hid hb
  clear hR hb
  go_enter Tryd.func35, Tryd.ntmps35
  go_wp2_with fail
  refine hC.out.mono ?_
  rintro e w1 ⟨rfl, hF, hb1⟩
  have hbk : Head w1 b bs bn lv cv room fuse := (hb1.block b (hH.out.lo b (hH.out.own b (.inl rfl)))).trans hB.out
  have q1 := hbk.blk.cell 1 rfl
  have q3 := hbk.blk.cell 3 rfl
  have q4 := hbk.blk.cell 4 rfl
  have f1 := hbk.blk.frz 1
  have f3 := hbk.blk.frz 3
  have f4 := hbk.blk.frz 4
  have hbk' := Lib.hid hbk
  replace hF := Lib.hid hF
  replace hb1 := Lib.hid hb1
  clear hC q2 hbk
  go_wp2_with fail
  go_end0
  have h1 := heap_put (cs := [.int .i64 room, .map (some bs), .map (some bn), lv, cv, .int .i64 fuse]) hbk'.out 1 (.map (some w.heap.size))
  have h3 := heap_put h1 3 (.slice none 0 0)
  have h4 := heap_put h3 4 (.slice none 0 0)
  have hob := hH.out.own b (.inl rfl)
  have hlt := hH.out.lo b hob
  have hst : Stays O w (((w1.setCell ⟨b, 1, none⟩ (.map (some w.heap.size))).setCell ⟨b, 3, none⟩ (.slice none 0 0)).setCell ⟨b, 4, none⟩ (.slice none 0 0)) :=
    (((Stays.of_below (O := O) hb1.out).setCell (p := ⟨b, 1, none⟩) (fun _ => hob) _).setCell (p := ⟨b, 3, none⟩) (fun _ => hob) _).setCell (p := ⟨b, 4, none⟩) (fun _ => hob) _
  have hset : ∀ k, k ≠ b → (((w1.setCell ⟨b, 1, none⟩ (.map (some w.heap.size))).setCell ⟨b, 3, none⟩ (.slice none 0 0)).setCell ⟨b, 4, none⟩ (.slice none 0 0)).heap[k]? = w1.heap[k]? := fun k hk =>
    ((Below.heap_setCell _ _ _ _ (fun e => hk (by cases e; rfl))).trans (Below.heap_setCell _ _ _ _ (fun e => hk (by cases e; rfl)))).trans (Below.heap_setCell _ _ _ _ (fun e => hk (by cases e; rfl)))
  have hsz : (((w1.setCell ⟨b, 1, none⟩ (.map (some w.heap.size))).setCell ⟨b, 3, none⟩ (.slice none 0 0)).setCell ⟨b, 4, none⟩ (.slice none 0 0)).heap.size = w1.heap.size := by simp
  have hbn := hB.out.nemap hH.out.now
  have hbnl := hH.out.now.lt
  refine ⟨rfl, w.heap.size, h4, ⟨hF.out.keep (hset _ (by omega)), (hH.out.now.below hb1.out).keep (hset _ hbn), by omega, own_nil _ _ _, own_nil _ _ _, fun j hj => by simp at hj, ?_, ?_⟩, hst⟩
  · intro k hk
    rcases hk with rfl | rfl | rfl | h | h
    · exact .inl hob
    · exact .inr ⟨Nat.le_refl _, by rw [hsz]; exact hF.out.lt⟩
    · exact .inl (hH.out.own _ (.inr (.inr (.inl rfl))))
    · cases h
    · cases h
  · exact Gr.lo hH.out.lo hst.size
def burnsE (M : DM) : Int := burnE M
def syncD (M : DM) : DM := if burnE M = 0 then syncM (burnM M) else M
theorem burnM_ne {M : DM} (h : burnE M ≠ 0) : burnM M = M := by
  unfold burnE at h
  unfold burnM
  by_cases hf : M.fuse = 0
  · rw [if_neg (by omega)]
  · rw [if_neg hf] at h; exact absurd rfl h
theorem burn_cases (M : DM) : (M.fuse = 0 ∧ burnE M = 60) ∨ (M.fuse ≠ 0 ∧ burnE M = 0) := by
  unfold burnE
  by_cases hf : M.fuse = 0
  · rw [if_pos hf]; exact .inl ⟨hf, rfl⟩
  · rw [if_neg hf]; exact .inr ⟨hf, rfl⟩
set_option maxRecDepth 100000 in
theorem Sync_nil (w : World) : Calls Tryd.prog 15 #[.pointer none] w fun y w' => y = .returned (.int .i64 1) ∧ w = w' := by
  have hC := burns_nil w
  go_enter Tryd.func15, Tryd.ntmps15
  go_wp2_with fail
  refine hC.mono ?_
  rintro e w1 ⟨rfl, rfl⟩
  go_wp2_with fail
  go_ret
  exact ⟨rfl, rfl⟩
set_option maxRecDepth 100000 in
set_option maxHeartbeats 1000000 in
theorem Sync_calls {w : World} {O : Nat → Prop} {b : Nat} {M : DM} (h : Dk w O b M) : Calls Tryd.prog 15 #[.pointer (some ⟨b, 0, none⟩)] w fun y w' => y = .returned (.int .i64 (burnE M)) ∧ Dk w' (Gr O w w') b (syncD M) ∧ Stays O w w' := by
  obtain ⟨bs, bn, lv, cv, vs, h⟩ := h
  have hC := Lib.hid (burns_calls h)
  have hob : Hid (O b) := Lib.hid (h.rest.own b (.inl rfl))
  have hlo := Lib.hid h.rest.lo
  obtain ⟨D, hD⟩ : ∃ D, syncD M = D := ⟨_, rfl⟩
  rw [hD]
  unfold syncD at hD
  rcases burn_cases M with ⟨hf, hE⟩ | ⟨hf, hE⟩
  · rw [hE, if_neg (by decide)] at hD
    subst hD
    rw [hE] at hC ⊢
    rw [burnM_ne (by rw [hE]; decide)] at hC
    clear h hf hE
    go_enter Tryd.func15, Tryd.ntmps15
    go_wp2_with fail
    refine hC.out.mono ?_
    rintro e w1 ⟨rfl, hD1, hs1⟩
    replace hD1 := Lib.hid hD1
    replace hs1 := Lib.hid hs1
    go_wp2_with fail
    go_ret
    have hst : Stays O w w1 := ⟨hs1.out.os, hs1.out.tape, hs1.out.output, hs1.out.size, fun k hk hn => hs1.out.block k hk (fun e => hn (by rw [e]; exact hob.out))⟩
    exact ⟨rfl, ⟨_, _, _, _, _, hD1.out.grow (fun k hk => .inl hk) (Gr.lo hlo.out hst.size)⟩, hst⟩
  · rw [hE, if_pos rfl] at hD
    subst hD
    rw [hE] at hC ⊢
    clear h hf hE
    go_enter Tryd.func15, Tryd.ntmps15
    go_wp2_with fail
    refine hC.out.mono ?_
    rintro e w1 ⟨rfl, hD1, hs1⟩
    have hC2 := Lib.hid (settle_calls hD1.blk hD1.rest)
    have hok := Lib.hid (syncM_ok hD1.ok hD1.rest.now.rise)
    replace hs1 := Lib.hid hs1
    clear hD1 hC
    go_wp2_with fail
    refine hC2.out.mono ?_
    rintro e w2 ⟨rfl, bs', hb2, hR2, hs2⟩
    replace hb2 := Lib.hid hb2
    replace hR2 := Lib.hid hR2
    replace hs2 := Lib.hid hs2
    clear hC2
    go_wp2_with fail
    go_ret
    have hst1 : Stays O w w1 := ⟨hs1.out.os, hs1.out.tape, hs1.out.output, hs1.out.size, fun k hk hn => hs1.out.block k hk (fun e => hn (by rw [e]; exact hob.out))⟩
    have hst := hst1.trans hs2.out (fun _ _ h => h)
    have hD2 : DkAt w2 (Gr O w1 w2) b bs' bn (.slice none 0 0) (.slice none 0 0) [] (syncM (burnM M)) := ⟨hb2.out, hR2.out, hok.out⟩
    refine ⟨rfl, ⟨_, _, _, _, _, hD2.grow (fun k hk => ?_) (Gr.lo hlo.out hst.size)⟩, hst⟩
    exact hk.elim .inl (fun h => .inr ⟨by have := hst1.size; omega, h.2⟩)
end Go.Proofs.YtenjllkhbpoffaaDoor
