/-
  (*Disk).Left, Names.
-/
import Derived.Test.YtenjllkhbpoffaaDoorDskAsk
namespace Go.Proofs.YtenjllkhbpoffaaDoor
open Go Go.Maps Go.WideMaps Go.Dsk Go.Lx Go.Lst Go.RowKit Go.Sort Go.Shelf

/-- How many bytes are still to come. -/
def rest (F : Files) (left : Lit → Bool) : Nat := tot (F.filter fun p => left (nam p.1))
theorem rest_all (F : Files) : rest F (has (encF F)) = tot F := by
  unfold rest
  rw [List.filter_eq_self.2]
  intro p hp
  rw [has_enc]
  exact List.any_eq_true.2 ⟨p, hp, by simp⟩
theorem rest_none (F : Files) (left : Lit → Bool) (h : ∀ k, left k = false) : rest F left = 0 := by
  unfold rest
  rw [List.filter_eq_nil_iff.2 (fun p _ => by rw [h]; simp)]
  rfl
theorem rest_step {F : Files} (hF : Rise F) (left : Lit → Bool) (x : ByteArray) (hx : left (nam x) = true) : rest F (fun z => left z && !z.sameKey (nam x)) + (atF F x).size = rest F left := by
  have hp : (F.filter fun p => left (nam p.1)).Pairwise (fun p q => p.1 ≠ q.1) := List.Pairwise.filter _ hF.apart
  have h := (strike (k := x) _ hp).1
  have e1 : delF (F.filter fun p => left (nam p.1)) x = F.filter fun p => left (nam p.1) && !(nam p.1).sameKey (nam x) := by
    unfold delF
    rw [List.filter_filter]
    congr 1
    funext p
    rw [same_nam, Bool.and_comm]
  have e2 : atF (F.filter fun p => left (nam p.1)) x = atF F x := by
    unfold atF
    rw [List.find?_filter]
    congr 2
    funext p
    by_cases hpx : p.1 = x
    · simp [hpx, hx]
    · simp [hpx]
  rw [e1, e2] at h
  exact h
theorem rest_le (F : Files) (left : Lit → Bool) : rest F left ≤ tot F := by
  unfold rest tot
  induction F with
  | nil => simp
  | cons p F ih =>
    rw [List.filter_cons]
    split
    · simp only [List.map_cons, List.sum_cons]; omega
    · simp only [List.map_cons, List.sum_cons]; omega
set_option maxRecDepth 100000 in
theorem Left_nil (w : World) : Calls Tryd.prog 21 #[.pointer none] w fun y w' => y = .returned (.int .i64 0) ∧ w = w' := by
  go_enter Tryd.func21, Tryd.ntmps21
  go_wp2_with fail
  go_ret
  exact ⟨rfl, rfl⟩
theorem plainS_inv (v : Value) (y : DataW Unit × List MemPlace) (h : plainElem Tryd.prog 9 v = some y) : ∃ c, v = .string c := by
  obtain ⟨s, rfl, _⟩ := plainElem_string_inv Tryd.underlying9 h
  exact ⟨s, rfl⟩
theorem keyS_ex (key : Value) (kl : Lit) (h : keyOf Tryd.prog 9 key = some kl) : ∃ x, key = .string x := by
  obtain ⟨s, rfl, _⟩ := keyS_inv h
  exact ⟨s, rfl⟩
set_option maxRecDepth 100000 in
set_option maxHeartbeats 1000000 in
theorem Left_calls {w : World} {O : Nat → Prop} {b : Nat} {M : DM} (h : Dk w O b M) : Calls Tryd.prog 21 #[.pointer (some ⟨b, 0, none⟩)] w fun y w' => y = .returned (.int .i64 (M.room - tot M.now)) ∧ Below w.heap.size w w' := by
  obtain ⟨bs, bn, lv, cv, vs, h⟩ := h
  obtain ⟨q0, -, q2, -, -, -⟩ := h.c6
  obtain ⟨hr0, hr1⟩ := h.ok.room
  have ht : (tot M.now : Int) ≤ M.room := by have := (h.ok.small M.loose.length (Nat.le_refl _)).1; rwa [List.take_length, ← h.ok.now] at this
  have hF := Lib.hid h.rest.now
  generalize M.room = room at *
  generalize M.now = F at *
  replace ht := Lib.hid ht
  clear h
  obtain ⟨w1, hrun, hrg, hg1, hsz1⟩ := hF.out.1.range keyS Tryd.underlying57
  have hB1 := (Below.refl w.heap.size w).grown hg1 (Nat.le_refl _) (fun k hk => by cases hk)
  have hrs := hF.out.rise
  replace hrg := Lib.hid hrg
  replace hg1 := Lib.hid hg1
  replace hB1 := Lib.hid hB1
  replace hsz1 := Lib.hid hsz1
  replace hrs := Lib.hid hrs
  have hall := Lib.hid (rest_all F)
  go_enter Tryd.func21, Tryd.ntmps21
  go_wp2_with fail
  go_loopg [3] (Maps.size (encF F) + 1) (fun g v3 A => ∃ left cnt, cnt < g ∧ A.ranges Tryd.prog 9 (plainElem Tryd.prog 9) bn w.heap.size F.length (encF F) left cnt ∧ v3 = .int .i64 (room - (tot F - rest F left)) ∧ Below w.heap.size w A)
  case atStart => exact ⟨_, _, Nat.lt_succ_self _, hrg.out, by rw [hall.out]; simp, hB1.out⟩
  case round =>
    obtain ⟨left, cnt, hg, hrg, rfl, hB⟩ := hrel
    have hle := rest_le F left
    rcases hrg.next keyS 0 with ⟨h0, hl, hrun⟩ | ⟨key, v, kl, y, w2, cnt2, hkey, hlk, hv, hat, hrun, hrg2, hlt2, hgr2, hsz2, hen⟩
    · have hz := rest_none F left hl
      rw [hz]
      replace hB := Lib.hid hB
      clear hrg hg hl hle hz h0
      go_wp2_with fail
      go_ret
      exact ⟨ret_int (by simp), hB.out⟩
    · obtain ⟨x, rfl, rfl, hx⟩ := keyS_inv hkey
      obtain ⟨c, rfl, rfl, hc⟩ := plainElem_string_inv Tryd.underlying9 hv
      have hst := rest_step hrs.out left x hlk
      have hc2 : c = atF F x := txt_inj ((hat (txt ⟨#[]⟩)).symm.trans (at_enc F x))
      subst hc2
      have hB2 := Lib.hid (hB.grown hgr2 hB.size (fun k hk => by cases hk; exact Nat.le_refl _))
      have hle2 := rest_le F (fun z => left z && !z.sameKey (.string x.data.toList))
      have hst' : rest F (fun z => left z && !z.sameKey (.string x.data.toList)) + (atF F x).size = rest F left := hst
      have ht' := ht.out
      have hcs : (atF F x).size ≤ 9223372036854775807 := by omega
      generalize hrl : rest F (fun z => left z && !z.sameKey (.string x.data.toList)) = rl at *
      generalize hr0 : rest F left = r0 at *
      generalize htot : tot F = tF at *
      have hcc : (0 : Int) ≤ room - ((tF : Int) - (r0 : Int)) := by omega
      have hcd : room - ((tF : Int) - (r0 : Int)) ≤ 16777216 := by omega
      have hce : (0 : Int) ≤ room - ((tF : Int) - (r0 : Int)) - ((atF F x).size : Int) := by omega
      cases gk with
      | zero => omega
      | succ k =>
      have hG : Hid (∃ left cnt, cnt < k ∧ w2.ranges Tryd.prog 9 (plainElem Tryd.prog 9) bn w.heap.size F.length (encF F) left cnt ∧ Value.int .i64 (room - ((tF : Int) - (r0 : Int)) - ((atF F x).size : Int)) = .int .i64 (room - (tF - rest F left)) ∧ Below w.heap.size w w2) :=
        Lib.hid ⟨_, cnt2, by omega, hrg2, by rw [hrl]; congr 1; omega, hB2.out⟩
      clear hB hrg hg hlt2 hgr2 hrg2 hst hst' hle hle2 hlk hkey hx hv hat ht ht' hall hrs hrl hr0 hB2 hsz2 hsz1 hg1 hB1 htot
      go_wp2_with fail
      go_roundg k
      case measure => omega
      case rel => exact hG.out
/-! Names -/
theorem before_lt : ∀ x y : List UInt8, bytesBefore x y = decide (x < y)
  | [], [] => by simp [bytesBefore]
  | _ :: _, [] => by simp [bytesBefore]
  | [], _ :: _ => by simp [bytesBefore]
  | a :: x, b :: y => by
    rw [bytesBefore, before_lt x y]
    simp only [List.cons_lt_cons_iff]
    by_cases h1 : a < b <;> by_cases h2 : a = b <;> by_cases h3 : x < y <;> simp [h1, h2, h3]
theorem keys_enc (F : Files) : strKeys (encF F) = F.map fun p => p.1.data.toList := by
  unfold encF strKeys
  dsimp only
  rw [List.map_map]
  rfl
theorem sorted_keys {F : Files} (h : Rise F) {ss : List (List UInt8)} (hp : ss.Perm (strKeys (encF F))) : ss.mergeSort (fun x y => decide (x ≤ y)) = F.map fun p => p.1.data.toList := by
  rw [keys_enc] at hp
  refine (mergeSort_of_perm hp).trans (List.mergeSort_of_pairwise ?_)
  rw [List.pairwise_map]
  refine List.Pairwise.imp ?_ h
  intro p q hpq
  unfold bef at hpq
  rw [before_lt] at hpq
  have := of_decide_eq_true hpq
  exact decide_eq_true (List.le_of_lt this)
set_option maxRecDepth 100000 in
theorem Names_nil (w : World) : Calls Tryd.prog 16 #[.pointer none] w fun y w' => y = .returned (.slice none 0 0) ∧ w = w' := by
  go_enter Tryd.func16, Tryd.ntmps16
  go_wp2_with fail
  go_ret
  exact ⟨rfl, rfl⟩
set_option maxRecDepth 100000 in
set_option maxHeartbeats 2000000 in
theorem Names_calls {w : World} {O : Nat → Prop} {b : Nat} {M : DM} (h : Dk w O b M) : Calls Tryd.prog 16 #[.pointer (some ⟨b, 0, none⟩)] w fun y w' => ∃ v, y = .returned v ∧ w'.ownsRow w.heap.size 9 1 v M.now.length (M.now.map fun p => .string p.1) ∧ Below w.heap.size w w' := by
  obtain ⟨bs, bn, lv, cv, vs, h⟩ := h
  obtain ⟨-, -, q2, -, -, -⟩ := h.c6
  have hF := h.rest.now
  have hl := (h.ok.small M.loose.length (Nat.le_refl _)).2
  rw [List.take_length, ← h.ok.now] at hl
  generalize M.now = F at *
  have hrise := Lib.hid hF.rise
  have hS := Tryd.slices_Sorted_keys_36_37 bn F.length (encF F) (plainElem Tryd.prog 9) w hF.1 (by rw [size_enc]; unfold maxLen; omega) (by rw [size_enc]; omega)
  replace hS := Lib.hid hS
  clear h hF hl
  refine (callsIn_wide (n := 6)).1 ?_
  have hfK : Fence.wide.fn 37 := trivial
  have hfS : Fence.wide.fn 36 := trivial
  refine callsIn_of_wp Tryd.func16 rfl trivial ?_ rfl
  simp only [Tryd.ntmps16, List.size_toArray, List.length_cons, List.length_nil, Nat.reduceAdd, Nat.reduceSub, Array.replicate_succ, Array.replicate_zero, List.push_toArray, List.append_toArray, List.nil_append, List.cons_append]
  gi_wp2_with (first
    | (gi_at_call 37; refine (Tryd.maps_Keys_37 _ _).mono ?_; rintro e w' ⟨rfl, rfl⟩)
    | (gi_at_call 36; refine hS.out.mono ?_; rintro e w' ⟨v, ss, rfl, hP, hrow, hnil, hb⟩))
  go_ret
  refine ⟨v, rfl, ?_, ((Below.refl _ w).alloc (Nat.le_refl _) _).trans (hb.mono (by simp))⟩
  have e1 := sorted_keys hrise.out hP
  have hlen : ss.length = F.length := by
    have := hP.length_eq
    rwa [keys_enc, List.length_map] at this
  rw [e1, hlen, List.map_map] at hrow
  refine own_mono (B := (w.alloc (.cells #[.map (some bn)] 57)).heap.size) ?_ (by simp)
  exact hrow
end Go.Proofs.YtenjllkhbpoffaaDoor
