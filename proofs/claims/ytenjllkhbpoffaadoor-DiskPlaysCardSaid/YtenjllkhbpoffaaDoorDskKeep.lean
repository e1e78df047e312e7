/-
  What appending leaves (plain); one disk beside rows of the law's own.
-/
import Derived.Test.YtenjllkhbpoffaaDoorDskTwo
import Derived.Laws.OwnMore
namespace Go.Dsk
open Go

/-- a is a beginning of b. -/
def Pre (a b : ByteArray) : Prop := a.data.toList <+: b.data.toList
theorem list_app (a b : ByteArray) : (a ++ b).data.toList = a.data.toList ++ b.data.toList := by simp [ByteArray.data_append]
theorem list_ext (a : ByteArray) (m : Nat) : (a.extract 0 m).data.toList = a.data.toList.take m := by simp [ByteArray.data_extract]
theorem list_size (a : ByteArray) : a.data.toList.length = a.size := by simp
theorem Pre.refl (a : ByteArray) : Pre a a := List.prefix_refl _
theorem Pre.app (a b : ByteArray) : Pre a (a ++ b) := by
  unfold Pre
  rw [list_app]
  exact List.prefix_append _ _
theorem Pre.cut (a b : ByteArray) (m : Nat) : Pre (a ++ b.extract 0 m) (a ++ b) := by
  unfold Pre
  rw [list_app, list_app, list_ext]
  exact (List.prefix_append_right_inj _).2 (List.take_prefix _ _)
theorem Pre.trans {a b c : ByteArray} (h : Pre a b) (k : Pre b c) : Pre a c := List.IsPrefix.trans h k
theorem Pre.size {a b : ByteArray} (h : Pre a b) : a.size ≤ b.size := by
  have := List.IsPrefix.length_le h
  rwa [list_size, list_size] at this
theorem Pre.ext {a b : ByteArray} (h : Pre a b) : b.extract 0 a.size = a := by
  apply bytes_ext
  rw [list_ext, ← list_size]
  exact (List.prefix_iff_eq_take.1 h).symm
def Apps (l : List Lc) : Prop := ∀ c ∈ l, ∃ k s, c = .app k s
/-- At each name: it is there still, and what stood there is a beginning. -/
def Over (F G : Files) : Prop := ∀ x, hasF F x = true → hasF G x = true ∧ Pre (atF F x) (atF G x)
theorem Over.refl (F : Files) : Over F F := fun _ h => ⟨h, Pre.refl _⟩
theorem Over.trans {F G H : Files} (h : Over F G) (k : Over G H) : Over F H := fun x hx => by
  obtain ⟨h1, h2⟩ := h x hx
  obtain ⟨k1, k2⟩ := k x h1
  exact ⟨k1, h2.trans k2⟩
theorem over_put (F : Files) (k s : ByteArray) : Over F (putF F k (atF F k ++ s)) := fun x hx => by
  rw [has_put, at_put, hx]
  refine ⟨by simp, ?_⟩
  by_cases h : x = k
  · subst h; rw [if_pos rfl]; exact Pre.app _ _
  · rw [if_neg h]; exact Pre.refl _
theorem over_all (F : Files) (l : List Lc) (h : Apps l) : Over F (all F l) := by
  induction l generalizing F with
  | nil => exact Over.refl F
  | cons c l ih =>
    obtain ⟨k, s, rfl⟩ := h c (List.mem_cons_self)
    exact (over_put F k s).trans (ih _ (fun c hc => h c (List.mem_cons_of_mem _ hc)))
theorem over_part (F : Files) (k s : ByteArray) (m : Nat) : ∀ x, hasF F x = true → Pre (atF (putF F k (atF F k ++ s.extract 0 m)) x) (atF (putF F k (atF F k ++ s)) x) ∧ hasF (putF F k (atF F k ++ s.extract 0 m)) x = true := fun x hx => by
  rw [at_put, at_put, has_put, hx]
  refine ⟨?_, by simp⟩
  by_cases h : x = k
  · rw [if_pos h, if_pos h]; exact Pre.cut _ _ _
  · rw [if_neg h, if_neg h]; exact Pre.refl _
theorem apps_take {l : List Lc} (h : Apps l) (n : Nat) : Apps (l.take n) := fun c hc => h c (List.mem_of_mem_take hc)
theorem apps_drop {l : List Lc} (h : Apps l) (n : Nat) : Apps (l.drop n) := fun c hc => h c (List.mem_of_mem_drop hc)
theorem all_append (F : Files) (l m : List Lc) : all F (l ++ m) = all (all F l) m := by simp [all]
/-- What a crash behind appends leaves. -/
theorem crash_keeps (F : Files) (l : List Lc) (h : Apps l) (c y : Int) (x : ByteArray) (hx : hasF F x = true) : hasF (crashN F l c y) x = true ∧ Pre (atF F x) (atF (crashN F l c y) x) ∧ Pre (atF (crashN F l c y) x) (atF (all F l) x) := by
  unfold crashN crashAt
  by_cases h1 : (l.length : Int) ≤ c
  · rw [if_pos h1, List.take_length]
    obtain ⟨h2, h3⟩ := over_all F l h x hx
    exact ⟨h2, h3, Pre.refl _⟩
  rw [if_neg h1]
  by_cases h2 : c < 0
  · rw [if_pos h2]
    exact ⟨hx, Pre.refl _, (over_all F l h x hx).2⟩
  rw [if_neg h2]
  have hc : c.toNat < l.length := by omega
  rw [List.getElem?_eq_getElem hc]
  dsimp only
  obtain ⟨k, s, hks⟩ := h l[c.toNat] (List.getElem_mem hc)
  rw [hks]
  unfold part
  dsimp only
  obtain ⟨o1, o2⟩ := over_all F (l.take c.toNat) (apps_take h _) x hx
  obtain ⟨p1, p2⟩ := over_part (all F (l.take c.toNat)) k s (min (max y 0) (s.size : Int)).toNat x o1
  obtain ⟨q1, q2⟩ := over_put (all F (l.take c.toNat)) k (s.extract 0 (min (max y 0) (s.size : Int)).toNat) x o1
  have e : all F l = all (all F (l.take (c.toNat + 1))) (l.drop (c.toNat + 1)) := by rw [← all_append, List.take_append_drop]
  have e2 : all F (l.take (c.toNat + 1)) = putF (all F (l.take c.toNat)) k (atF (all F (l.take c.toNat)) k ++ s) := by
    rw [all_take_succ F l _ hc, hks]; rfl
  refine ⟨q1, o2.trans q2, ?_⟩
  rw [e, e2]
  refine p1.trans ?_
  have hh : hasF (putF (all F (l.take c.toNat)) k (atF (all F (l.take c.toNat)) k ++ s)) x = true := (over_put _ k s x o1).1
  exact (over_all _ _ (apps_drop h _) x hh).2
end Go.Dsk
namespace Go.Proofs.YtenjllkhbpoffaaDoor
open Go Go.Maps Go.WideMaps Go.Dsk Go.Lx Go.Lst Go.RowKit

/-- A list of n texts of which the first j are known. -/
def fill (l : List ByteArray) (j n : Nat) : List ByteArray := l.take j ++ List.replicate (n - j) ⟨#[]⟩
theorem fill_len (l : List ByteArray) (j n : Nat) (hj : j ≤ n) (hl : n ≤ l.length) : (fill l j n).length = n := by
  unfold fill
  rw [List.length_append, List.length_take, List.length_replicate]
  omega
theorem fill_all (l : List ByteArray) : fill l l.length l.length = l := by
  unfold fill
  rw [List.take_length, Nat.sub_self, List.replicate_zero, List.append_nil]
theorem fill_set (l : List ByteArray) (j n : Nat) (hj : j < n) (hl : n ≤ l.length) : (fill l j n).set j (l[j]'(by omega)) = fill l (j + 1) n := by
  unfold fill
  have hlt : (l.take j).length = j := by rw [List.length_take]; omega
  rw [List.set_append_right _ _ (by omega), hlt, Nat.sub_self, List.take_succ_eq_append_getElem (by omega), List.append_assoc]
  congr 1
  obtain ⟨m, hm⟩ : ∃ m, n - j = m + 1 := ⟨n - j - 1, by omega⟩
  rw [hm, show n - (j + 1) = m by omega, List.replicate_succ]
  rfl
section
variable {w0 A A' : World} {O X X' : Nat → Prop} {b : Nat} {M M' : DM} {rs : List (Value × List ByteArray)} {g n c : Nat} {l : List ByteArray}
theorem op_1 {P : Program} {f : FuncId} {args : Array Value} {e : Value} (h : One w0 A O X b M) (hr : Rws A X rs) (hc : Calls P f args A fun y w' => y = .returned e ∧ Dk w' (Gr O A w') b M' ∧ Stays O A w') :
    Calls P f args A fun y w' => y = .returned e ∧ (∃ O', One w0 w' O' X b M') ∧ Rws w' X rs :=
  hc.mono fun _ _ ⟨he, h1, h2⟩ => ⟨he, ⟨_, (h.op h1 h2).1⟩, hr.keep (h.op h1 h2).2⟩
theorem One.new (h : One w0 A O X b M) (hb : Below A.heap.size A A') (hX : ∀ k, X' k → X k ∨ (A.heap.size ≤ k ∧ k < A'.heap.size)) : One w0 A' O X' b M :=
  (h.then hb).add (fun k hk => (hX k hk).elim .inl (fun e => .inr ⟨fun hO => by have := h.dk.lo k hO; omega, e.2⟩))
theorem made_txts (A : World) (n : Nat) (hn : n ≤ 1000) : ∃ A', (Instr.makeSlice 29 (.int .i64 (n : Int)) (.int .i64 (n : Int))).run Tryd.prog A = .ok (.slice (some ⟨A.heap.size, 0, none⟩) n n) A' ∧ Txts A' (.slice (some ⟨A.heap.size, 0, none⟩) n n) (List.replicate n ⟨#[]⟩) ∧ Below A.heap.size A A' ∧ A.heap.size < A'.heap.size := by
  obtain ⟨i0, hi, hz0, hz1, hz2⟩ := info_parts infoS
  obtain ⟨A', hr, h1, h2⟩ := run_makeSlice_full (P := Tryd.prog) A 0 29 9 i0 _ 1 Tryd.underlying29 hi hz0 hz1 .i64 .i64 n (by omega) (by rw [hz2]; omega) (by unfold maxLen; omega) (Nat.zero_le _)
  refine ⟨A', hr, ?_, (Below.refl _ _).grown h2 (Nat.le_refl _) (fun k hk => by cases hk), ?_⟩
  · unfold Txts
    rw [List.length_replicate]
    have e : (madeCells (Value.string ⟨#[]⟩).cells (n * 1)).toList = (List.replicate n (⟨#[]⟩ : ByteArray)).map Value.string := by
      rw [List.map_replicate]
      unfold madeCells
      apply List.ext_getElem
      · simp
      · intro j h1 h2
        simp [Value.cells, Nat.mod_one]
    rw [e] at h1
    exact h1
  · exact (own_block h1 rfl).2
theorem Rws.set (h : Rws A X ((.slice (some ⟨g, 0, none⟩) n c, l) :: rs)) (j : Nat) (hj : j < l.length) (s : ByteArray) : Rws (A.setCell ⟨g, j, none⟩ (.string s)) X ((.slice (some ⟨g, 0, none⟩) n c, l.set j s) :: rs) ∧ A.frozen? ⟨g, j, none⟩ = false ∧ (∃ u, A.cell? ⟨g, j, none⟩ = some u) ∧ X g := by
  have ht := h.head
  obtain ⟨p', c', e⟩ := ht.parts
  have hn : n = l.length := by injection e
  subst hn
  obtain ⟨d1, d2⟩ := List.pairwise_cons.1 h.d
  have hst := World.ownsRow.stored ht j (.string s)
  have hset : ∀ k, k ≠ g → (A.setCell ⟨g, j, none⟩ (.string s)).heap[k]? = A.heap[k]? := fun k hk => Below.heap_setCell _ _ _ _ (fun e => hk (by cases e; rfl))
  refine ⟨⟨fun q hq => ?_, fun q hq k hk => ?_, List.pairwise_cons.2 ⟨fun q hq k hk2 => d1 q hq k hk2, d2⟩⟩, World.ownsRow.frozenAt ht j, ?_, h.x _ (List.mem_cons_self) g rfl⟩
  · rcases List.mem_cons.1 hq with rfl | hq
    · show World.ownsRow _ _ _ _ _ _ _
      dsimp only
      rw [List.length_set, List.map_set]
      exact hst.1
    · exact (h.t q (List.mem_cons_of_mem _ hq)).keep (fun k hv' => hset k (fun e => d1 q hq g rfl (by rw [← e]; exact hv')))
  · rcases List.mem_cons.1 hq with rfl | hq
    · exact h.x _ (List.mem_cons_self) k hk
    · exact h.x q (List.mem_cons_of_mem _ hq) k hk
  · obtain ⟨a, c2, e2, hc⟩ := ht.get j hj
    injection e2 with e3 _ _
    injection e3 with e3
    subst e3
    refine ⟨.string l[j], ?_⟩
    · have : (Addr.add ⟨g, 0, none⟩ j) = ⟨g, j, none⟩ := by unfold Addr.add; split <;> simp_all
      rw [this] at hc
      exact hc
theorem One.set (h : One w0 A O X b M) (hX : ∀ k, X k → w0.heap.size ≤ k) (hg : X g) (j : Nat) (v : Value) : One w0 (A.setCell ⟨g, j, none⟩ v) O X b M :=
  h.keep (fun k hO => Below.heap_setCell _ _ _ _ (fun e => (h.x g hg).1 (by cases e; exact hO))) (by simp) (h.below.setCell (p := ⟨g, j, none⟩) (hX g hg) _)
end
end Go.Proofs.YtenjllkhbpoffaaDoor
