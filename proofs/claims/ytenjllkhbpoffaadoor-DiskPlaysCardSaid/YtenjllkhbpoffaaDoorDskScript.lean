/-
  A script of disk steps as it came in; codicillaw06.Heavy.
-/
import Derived.Test.YtenjllkhbpoffaaDoorDskNone
import Derived.Test.YtenjllkhbpoffaaDoorArgs
import Derived.SizedLaws
namespace Go.Proofs.YtenjllkhbpoffaaDoor
open Go Go.RowKit Go.Lst Go.Lx Go.ChangeShapes Go.WideShapes Go.Deep Go.Joins

section
variable {H : Type} {enc : TypeId × Value → H} {P : Program} {w : World} {base : Nat} {spare : Nat → Bool} {held : Bool}
theorem weightsAll_mem {e : TypeId} {d : DataW H} : ∀ {l : List (DataW H)}, d ∈ l → ∀ k ∈ d.weights P e, k ∈ DataW.weightsAll P e l
  | x :: l, h, k, hk => by
    unfold DataW.weightsAll
    rcases List.mem_cons.1 h with rfl | h
    · exact List.mem_append_left _ hk
    · exact List.mem_append_right _ (weightsAll_mem h k hk)
theorem weightsEach_mem {d : DataW H} {t : TypeId} : ∀ {ts : List TypeId} {l : List (DataW H)} {i : Nat}, ts[i]? = some t → l[i]? = some d → ∀ k ∈ d.weights P t, k ∈ DataW.weightsEach P ts l
  | t' :: ts, d' :: l, 0, ht, hd, k, hk => by
    unfold DataW.weightsEach
    cases ht; cases hd
    exact List.mem_append_left _ hk
  | t' :: ts, d' :: l, i + 1, ht, hd, k, hk => by
    unfold DataW.weightsEach
    exact List.mem_append_right _ (weightsEach_mem (i := i) (by simpa using ht) (by simpa using hd) k hk)
  | [], _, i, ht, _, _, _ => by simp at ht
  | _ :: _, [], i, _, hd, _, _ => by simp at hd
theorem recs_trod_w {t e : TypeId} {fuel : Nat} {v : Value} {x : DataW H × List MemPlace} {Q : World → List Value → Prop} (R : Nat) (ht : P.underlying t = some (.slice e)) (hQ : ∀ n cs y, DataW.trod enc P w base spare held n e cs = some y → (∀ k ∈ y.1.weights P e, k ≤ R) → Q w cs)
    (h : DataW.trod enc P w base spare held fuel t [v] = some x) (hw : ∀ k ∈ x.1.weights P t, k ≤ R) : ∃ n, Recs (P.cellsOf e) Q w v n ∧ n * P.bytesOf e ≤ R := by
  rcases open_slice ht h with ⟨hcs, _⟩ | ⟨a, len, cap, m, n, D, Pl, hcs, _, hl, hm, hmm, hx, hi⟩
  · simp at hcs
    exact ⟨0, ⟨none, 0, hcs, by simp, by unfold maxLen; omega, fun i hi => by omega⟩, by simp⟩
  · simp at hcs
    subst hcs
    have hlen : len ≤ m := by rw [hmm]; split <;> omega
    rw [hx] at hw
    dsimp only at hw
    unfold DataW.weights at hw
    rw [ht] at hw
    dsimp only at hw
    have hb : len * P.bytesOf e ≤ R := by
      have := hw _ (List.mem_cons_self)
      simp only [List.length_map, List.length_range] at this
      exact Nat.le_trans (Nat.mul_le_mul_right _ (by omega)) this
    refine ⟨len, ⟨some a, cap, rfl, hl, hm, fun i hil => ?_⟩, hb⟩
    obtain ⟨cs', hc, ht'⟩ := hi i (by omega)
    obtain ⟨_, hcl, hat⟩ := World.cells?_some hc
    refine ⟨a, cs', rfl, hcl, hQ _ _ _ ht' fun k hk => ?_, fun j hj => ?_⟩
    · exact hw k (List.mem_cons_of_mem _ (List.mem_append_left _ (weightsAll_mem (d := D i) (List.mem_map.2 ⟨i, List.mem_range.2 hil, rfl⟩) k hk)))
    · rw [← hat j hj, Go.Deep.add_add]
theorem cells_trod_w {t : TypeId} {fs : Array Field} {fuel : Nat} {cs : List Value} {x : DataW H × List MemPlace} (R : Nat) (ht : P.underlying t = some (.struct fs)) (hone : oneCellFields P fs = true) (hC : P.cellsOf t = fs.size)
    (h : DataW.trod enc P w base spare held fuel t cs = some x) (hw : ∀ k ∈ x.1.weights P t, k ≤ R) : cs.length = fs.size ∧ ∃ n, ∀ (i : Nat) (f : Field), fs[i]? = some f → ∃ v y, cs[i]? = some v ∧ DataW.trod enc P w base spare held n f.type [v] = some y ∧ ∀ k ∈ y.1.weights P f.type, k ≤ R := by
  obtain ⟨xs, n, _, hx, hcl, hxl, hf⟩ := DataW.trod_struct ht h
  refine ⟨hcl.trans hC, n, fun i f hi => ?_⟩
  obtain ⟨ho, hk⟩ := hone_of hone i f hi
  have hil : i < fs.size := (Array.getElem?_eq_some_iff.1 hi).1
  have hic : i < cs.length := by omega
  have h1 := hf i f hi
  rw [ho, hk] at h1
  have e : (cs.drop i).take 1 = [cs[i]] := by rw [List.drop_eq_getElem_cons hic]; rfl
  rw [e, List.getElem?_eq_getElem (show i < xs.length by omega)] at h1
  refine ⟨_, _, List.getElem?_eq_getElem hic, h1, fun k hk => ?_⟩
  rw [hx] at hw
  dsimp only at hw
  unfold DataW.weights at hw
  rw [ht] at hw
  dsimp only at hw
  refine hw k (weightsEach_mem (i := i) (t := f.type) ?_ ?_ k hk)
  · rw [List.getElem?_map, Array.getElem?_toList, hi]; rfl
  · rw [List.getElem?_map, List.getElem?_eq_getElem (show i < xs.length by omega)]; rfl
end
def cap47 : Nat := 140737488355328
section
variable {H : Type} {enc : TypeId × Value → H} {w : World} {base : Nat} {spare : Nat → Bool} {held : Bool}
theorem str_of {n : Nat} {v : Value} {y : DataW H × List MemPlace} (h : DataW.trod enc Tryd.prog w base spare held n 9 [v] = some y) (hw : ∀ k ∈ y.1.weights Tryd.prog 9, k ≤ cap47) : ∃ a : ByteArray, v = .string a ∧ a.size ≤ cap47 := by
  obtain ⟨s, hc, hz, hsz⟩ := DataW.trod_string Tryd.underlying9 h
  injection hc with hc _
  subst hc hz
  refine ⟨s, rfl, ?_⟩
  have := hw s.data.toList.length (by simp [DataW.weights])
  simpa using this
/-- The cells of a step that came in. -/
def QStep (_ : World) (cs : List Value) : Prop := ∃ (d : Int) (a s : ByteArray) (n m : Int), cs = [.int .i64 d, .string a, .string s, .int .i64 n, .int .i64 m] ∧ a.size ≤ cap47 ∧ s.size ≤ cap47 ∧ (Lit.int .i64 n).wf = true ∧ (Lit.int .i64 m).wf = true
set_option maxRecDepth 100000 in
theorem step_trod (n : Nat) (cs : List Value) (y : DataW H × List MemPlace) (h : DataW.trod enc Tryd.prog w base spare held n 31 cs = some y) (hw : ∀ k ∈ y.1.weights Tryd.prog 31, k ≤ cap47) : QStep w cs := by
  obtain ⟨hl, n, hf⟩ := cells_trod_w cap47 Tryd.underlying31 (by kernel_rfl) (by kernel_rfl) h hw
  obtain ⟨c0, c1, c2, c3, c4, rfl⟩ := list5 hl
  obtain ⟨v0, y0, e0, h0, -⟩ := hf 0 _ rfl
  obtain ⟨v1, y1, e1, h1, w1⟩ := hf 1 _ rfl
  obtain ⟨v2, y2, e2, h2, w2⟩ := hf 2 _ rfl
  obtain ⟨v3, y3, e3, h3, -⟩ := hf 3 _ rfl
  obtain ⟨v4, y4, e4, h4, -⟩ := hf 4 _ rfl
  cases e0; cases e1; cases e2; cases e3; cases e4
  obtain ⟨a0, rfl, -⟩ := int_of Tryd.underlying3 ⟨_, h0⟩
  obtain ⟨a1, rfl, k1⟩ := str_of h1 w1
  obtain ⟨a2, rfl, k2⟩ := str_of h2 w2
  obtain ⟨a3, rfl, k3⟩ := int_of Tryd.underlying3 ⟨_, h3⟩
  obtain ⟨a4, rfl, k4⟩ := int_of Tryd.underlying3 ⟨_, h4⟩
  exact ⟨a0, a1, a2, a3, a4, rfl, k1, k2, k3, k4⟩
end
section
variable {H : Type} {enc : TypeId × Value → H} {W : World} {base : Nat} {v : Value} {d : DataW H} {p : List MemPlace}
set_option maxRecDepth 100000 in
theorem open_script (hv : Value.okWide Tryd.prog W .any base 22 v) (h : DataW.Trod enc Tryd.prog W 0 (fun _ => true) true 22 v d p) (hw : ∀ k ∈ d.weights Tryd.prog 22, k ≤ reachBytes) :
    ∃ n, Recs 5 QStep W v n := by
  have hC : Tryd.prog.cellsOf 31 = 5 := by kernel_rfl
  obtain ⟨a, l, c, rfl⟩ := okWide_slice Tryd.underlying22 hv
  obtain ⟨fuel, hf⟩ := h
  obtain ⟨m, hm, -⟩ := recs_trod_w (Q := QStep) cap47 Tryd.underlying22 step_trod (by simpa [Value.cells] using hf) (fun k hk => Nat.le_trans (hw k hk) (by decide))
  rw [hC] at hm
  exact ⟨m, hm⟩
end
/-- A step's cells. -/
theorem step_get {w : World} {v : Value} {n : Nat} (h : Recs 5 QStep w v n) (j : Nat) (hj : j < n) : ∃ (a : Addr) (c : Nat) (d : Int) (s t : ByteArray) (i m : Int), v = .slice (some a) n c ∧ w.cell? (a.add (j * 5)) = some (.int .i64 d) ∧ w.cell? ⟨(a.add (j * 5)).block, (a.add (j * 5)).off + 1, none⟩ = some (.string s) ∧ w.cell? ⟨(a.add (j * 5)).block, (a.add (j * 5)).off + 2, none⟩ = some (.string t) ∧
    w.cell? ⟨(a.add (j * 5)).block, (a.add (j * 5)).off + 3, none⟩ = some (.int .i64 i) ∧ w.cell? ⟨(a.add (j * 5)).block, (a.add (j * 5)).off + 4, none⟩ = some (.int .i64 m) ∧ s.size ≤ cap47 ∧ t.size ≤ cap47 ∧ (Lit.int .i64 i).wf = true ∧ (Lit.int .i64 m).wf = true := by
  obtain ⟨p, c, rfl, h1, h2, h3⟩ := h
  obtain ⟨a, cs, rfl, _, ⟨d, s, t, i, m, rfl, g1, g2, g3, g5⟩, g4⟩ := h3 j hj
  have e : ∀ m, m < 5 → m ≠ 0 → a.add (j * 5 + m) = ⟨(a.add (j * 5)).block, (a.add (j * 5)).off + m, none⟩ := fun m hm h0 => by rw [← Lst.add_add]; unfold Addr.add; simp only [h0, if_false]
  refine ⟨a, c, d, s, t, i, m, rfl, g4 0 (by omega), ?_, ?_, ?_, ?_, g1, g2, g3, g5⟩
  · rw [← e 1 (by omega) (by omega)]; exact g4 1 (by omega)
  · rw [← e 2 (by omega) (by omega)]; exact g4 2 (by omega)
  · rw [← e 3 (by omega) (by omega)]; exact g4 3 (by omega)
  · rw [← e 4 (by omega) (by omega)]; exact g4 4 (by omega)
theorem recs_to {w w' : World} {v : Value} {n : Nat} (h : Recs 5 QStep w v n) (hb : Below w.heap.size w w') : Recs 5 QStep w' v n := h.below (fun _ h => h) hb
def Told (n : Nat) (y : Ending) : Prop := ∃ hv, y = .returned (.bool hv) ∧ (hv = false → n ≤ 100)
set_option maxRecDepth 100000 in
set_option maxHeartbeats 2000000 in
theorem Heavy_calls (v : Value) (n : Nat) (w : World) (h : Recs 5 QStep w v n) :
    Calls Tryd.prog 8 #[v] w fun y w' => Told n y ∧ Below w.heap.size w w' := by
  obtain ⟨p, c, hve, hc1, hc2, -⟩ := id h
  have hh := Lib.hid h
  rw [hve] at hh ⊢
  clear h hve
  have hnm : n ≤ maxLen := by omega
  unfold maxLen at hnm
  replace hc1 := Lib.hid hc1
  replace hc2 := Lib.hid hc2
  go_enter Tryd.func8, Tryd.ntmps8
  go_wp2_with fail
  go_loopg [3, 4] 201 (fun k v3 v4 wr => ∃ (x : Int) (i : Nat), v3 = .int .i64 x ∧ v4 = .int .i64 (i : Int) ∧ i ≤ 200 ∧ 200 < i + k ∧ Below w.heap.size w wr)
  case atStart => exact ⟨0, 0, rfl, rfl, by omega, by omega, Below.refl _ _⟩
  case round =>
    obtain ⟨x, i, rfl, rfl, hi1, hi2, hb⟩ := hrel
    cases gk with
    | zero => omega
    | succ k =>
      by_cases hgo : i < n ∧ i < 200
      · obtain ⟨hlt1, h100⟩ := hgo
        have hlt2 : (i : Int) < (n : Int) := by omega
        have h0 : (0 : Int) ≤ (i : Int) := by omega
        have h101 : (i : Int) < 200 := by omega
        obtain ⟨a, c', d, s, t, ii, m, e0, g0, g1, g2, g3, g4, -⟩ := step_get (recs_to hh.out hb) i hlt1
        injection e0 with e1 e2 e3
        subst e1 e3
        replace hb := Lib.hid hb
        clear g0 g3 g4 e2
        go_wp2_with fail
        go_quiet (fail)
        go_wp2_with fail
        go_roundg k
        case measure => omega
        case rel => exact ⟨_, i + 1, rfl, by first | rfl | (rw [IntWalk.wrap64_in _ (by omega)]; rfl), by omega, by omega, below_drewN hb.out _⟩
      · replace hb := Lib.hid hb
        have hways : (¬ (i < n)) ∨ (i < n ∧ ¬ (i < 200)) := by omega
        by_cases h60 : (100 : Int) < (n : Int)
        · rcases hways with h1 | ⟨h1, h2⟩
          case' inl => have d1 : decide ((i : Int) < (n : Int)) = false := by simp; omega
          case' inr => (have d1 : (i : Int) < (n : Int) := by omega); (have d2 : decide ((i : Int) < 200) = false := by simp; omega)
          all_goals
            go_wp2_with fail
            go_ret
            exact ⟨⟨_, rfl, by first | (intro h; cases h) | (intro h; simp at h)⟩, hb.out⟩
        · have d60 : decide ((100 : Int) < (n : Int)) = false := by simp; omega
          rcases hways with h1 | ⟨h1, h2⟩
          case' inl => have d1 : decide ((i : Int) < (n : Int)) = false := by simp; omega
          case' inr => (have d1 : (i : Int) < (n : Int) := by omega); (have d2 : decide ((i : Int) < 200) = false := by simp; omega)
          all_goals
            have hn3 : n ≤ 100 := by omega
            replace hn3 := Lib.hid hn3
            by_cases hx : (4096 : Int) < x
            · have hxb : decide ((4096 : Int) < x) = true := decide_eq_true hx
              go_wp2_with fail
              go_ret
              exact ⟨⟨_, rfl, fun _ => hn3.out⟩, hb.out⟩
            · have hxb : decide ((4096 : Int) < x) = false := decide_eq_false hx
              go_wp2_with fail
              go_ret
              exact ⟨⟨_, rfl, fun _ => hn3.out⟩, hb.out⟩
end Go.Proofs.YtenjllkhbpoffaaDoor
