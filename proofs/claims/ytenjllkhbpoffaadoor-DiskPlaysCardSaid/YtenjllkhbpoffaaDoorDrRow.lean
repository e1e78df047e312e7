/-
  The reference's rows: files (two cells each), calls (four cells each).
-/
import Derived.Test.YtenjllkhbpoffaaDoorDskKeeps
namespace Go.Proofs.YtenjllkhbpoffaaDoor
open Go Go.Maps Go.WideMaps Go.Dsk Go.Lx Go.Lst Go.RowKit

section
variable {α : Type} {f : α → List Value} {k : Nat}
theorem flat_len (hf : ∀ x, (f x).length = k) : ∀ l : List α, (l.flatMap f).length = l.length * k
  | [] => by simp
  | x :: l => by
    rw [List.flatMap_cons, List.length_append, hf, flat_len hf l, List.length_cons]
    rw [Nat.add_mul]; omega
theorem flat_at (hf : ∀ x, (f x).length = k) : ∀ (l : List α) (j : Nat) (hj : j < l.length) (m : Nat), m < k → (l.flatMap f)[j * k + m]? = (f l[j])[m]?
  | x :: l, 0, _, m, hm => by
    rw [List.flatMap_cons, Nat.zero_mul, Nat.zero_add, List.getElem?_append_left (by rw [hf]; exact hm)]
    rfl
  | x :: l, j + 1, hj, m, hm => by
    rw [List.flatMap_cons, List.getElem?_append_right (by rw [hf, Nat.add_mul]; omega), hf, show (j + 1) * k + m - k = j * k + m by rw [Nat.add_mul]; omega]
    exact flat_at hf l j (by simpa using hj) m hm
/-- A row of records of k cells that the call owns. -/
def RRow (f : α → List Value) (k : Nat) (T : TypeId) (B : Nat) (w : World) (v : Value) (l : List α) : Prop := w.ownsRow B T k v l.length (l.flatMap f)
variable {T : TypeId} {B : Nat} {w w' : World} {v : Value} {l : List α}
theorem RRow.nil (T : TypeId) (B : Nat) (w : World) : RRow f k T B w (.slice none 0 0) [] := ⟨by simp, .inl ⟨rfl, rfl⟩⟩
theorem RRow.keep (h : RRow f k T B w v l) (hk : ∀ g, v.ownBlock = some g → w'.heap[g]? = w.heap[g]?) : RRow f k T B w' v l := own_keep h hk
theorem RRow.below (h : RRow f k T B w v l) (hb : Below w.heap.size w w') : RRow f k T B w' v l := own_keep h (fun g hg => hb.block g (own_block h hg).2)
theorem RRow.mono {B' : Nat} (h : RRow f k T B w v l) (hB : B' ≤ B) : RRow f k T B' w v l := own_mono h hB
theorem RRow.parts (h : RRow f k T B w v l) : ∃ p c, v = .slice p l.length c ∧ l.length ≤ c ∧ c ≤ maxLen := by
  rcases h.2 with ⟨rfl, h0⟩ | ⟨g, cap, cur, rfl, hB, hh, hn, hm, hsz, htk⟩
  · exact ⟨none, 0, by rw [h0], by omega, by unfold maxLen; omega⟩
  · exact ⟨_, cap, rfl, hn, hm⟩
theorem RRow.block (h : RRow f k T B w v l) {g : Nat} (hg : v.ownBlock = some g) : B ≤ g ∧ g < w.heap.size := own_block h hg
theorem RRow.cells (hf : ∀ x, (f x).length = k) (h : RRow f k T B w v l) (j : Nat) (hj : j < l.length) : ∃ g c, v = .slice (some ⟨g, 0, none⟩) l.length c ∧ ∀ m, m < k → w.cell? ⟨g, j * k + m, none⟩ = (f l[j])[m]? := by
  rcases h.2 with ⟨rfl, h0⟩ | ⟨g, cap, cur, rfl, hB, hh, hn, hm, hsz, htk⟩
  · omega
  · refine ⟨g, cap, rfl, fun m hmk => ?_⟩
    rw [← flat_at hf l j hj m hmk, ← htk, List.getElem?_take]
    have : j * k + m < l.length * k := by
      have : (j + 1) * k ≤ l.length * k := Nat.mul_le_mul_right k (by omega)
      rw [Nat.add_mul] at this
      omega
    rw [if_pos this]
    simp [World.cell?, hh]
end
def fC (p : ByteArray × ByteArray) : List Value := [.string p.1, .string p.2]
def cC : Lc → List Value
  | .app k s => [.int .i64 0, .string k, .string s, .int .i64 0]
  | .cut k n => [.int .i64 1, .string k, .string ⟨#[]⟩, .int .i64 n]
  | .ren a b => [.int .i64 2, .string a, .string b, .int .i64 0]
  | .rem k => [.int .i64 3, .string k, .string ⟨#[]⟩, .int .i64 0]
theorem fC_len (p : ByteArray × ByteArray) : (fC p).length = 2 := rfl
theorem cC_len (c : Lc) : (cC c).length = 4 := by cases c <;> rfl
def FRow (B : Nat) (w : World) (v : Value) (F : Files) : Prop := RRow fC 2 74 B w v F
def CRow (B : Nat) (w : World) (v : Value) (l : List Lc) : Prop := RRow cC 4 81 B w v l
theorem FRow.get {B : Nat} {w : World} {v : Value} {F : Files} (h : FRow B w v F) (j : Nat) (hj : j < F.length) : ∃ g c, v = .slice (some ⟨g, 0, none⟩) F.length c ∧ w.cell? ⟨g, j * 2, none⟩ = some (.string F[j].1) ∧ w.cell? ⟨g, j * 2 + 1, none⟩ = some (.string F[j].2) := by
  obtain ⟨g, c, e, hc⟩ := RRow.cells fC_len h j hj
  exact ⟨g, c, e, hc 0 (by omega), hc 1 (by omega)⟩
theorem infoFile : (Tryd.prog.info? 74).map (fun i => (i.zero, i.size, i.bytes)) = some (some (.agg #[.string ⟨#[]⟩, .string ⟨#[]⟩]), 2, 32) := by kernel_rfl
theorem infoCallR : (Tryd.prog.info? 81).map (fun i => (i.zero, i.size, i.bytes)) = some (some (.agg #[.int .i64 0, .string ⟨#[]⟩, .string ⟨#[]⟩, .int .i64 0]), 4, 48) := by kernel_rfl
theorem run_append_zero {P : Program} (w : World) (t ty e : TypeId) (i : TypeInfo) (ht : P.underlying t = some (.slice e)) (hi : P.info? e = some i) (p : Option Addr) (n c d : Nat) (hn : n ≤ c) :
    (Builtin.append_ #[t, t] ty #[.slice p n c, .slice none 0 d]).run P w = .ok (.slice p n c) w := by
  simp [Builtin.append_, run_underlying ht, sizeOf, typeInfo, hi, Builtin.lenOf, Builtin.firstCells, loadCells, loadCellsFrom]
  rw [if_pos hn]
  cases p with
  | none => rfl
  | some a => simp [storeCells]
/-- The cells of files, at an address. -/
def FAt (w : World) (p : Option Addr) (G : Files) : Prop := ∀ j u, (G.flatMap fC)[j]? = some u → ∃ a, p = some a ∧ w.cell? (a.add j) = some u
theorem FAt.below {w w' : World} {p : Option Addr} {G : Files} (h : FAt w p G) (hb : Below w.heap.size w w') : FAt w' p G := fun j u hu => by
  obtain ⟨a, e, hc⟩ := h j u hu
  exact ⟨a, e, (cell_below hb hc).trans hc⟩
theorem fC_one (G : Files) : ∀ u ∈ G.flatMap fC, u.oneCell' = true := fun u hu => by
  obtain ⟨p, -, hp⟩ := List.mem_flatMap.1 hu
  simp only [fC, List.mem_cons, List.not_mem_nil, or_false] at hp
  rcases hp with rfl | rfl <;> rfl
theorem FRow.append {B : Nat} {w : World} {v : Value} {F : Files} (h : FRow B w v F) (hB : B ≤ w.heap.size) (p : Option Addr) (c : Nat) (G : Files) (hG : FAt w p G) (hn : F.length + G.length ≤ 1000000) (ty : TypeId) :
    ∃ q d w', (Builtin.append_ #[48, 48] ty #[v, .slice p G.length c]).run Tryd.prog w = .ok (.slice q (F.length + G.length) d) w' ∧ FRow B w' (.slice q (F.length + G.length) d) (F ++ G) ∧ w.grownBy w' v.ownBlock ∧ ((Value.slice q (F.length + G.length) d).ownBlock = v.ownBlock ∨ (Value.slice q (F.length + G.length) d).ownBlock = some w.heap.size) := by
  obtain ⟨i0, hi, hz0, hz1, hz2⟩ := info_parts infoFile
  cases p with
  | none =>
    have h0 : G = [] := by
      cases G with
      | nil => rfl
      | cons x G =>
        obtain ⟨a, e, _⟩ := hG 0 (.string x.1) rfl
        cases e
    subst h0
    obtain ⟨q, d, e, h1, h2⟩ := h.parts
    subst e
    refine ⟨q, d, w, run_append_zero w _ ty _ i0 Tryd.underlying48 hi q F.length d c h1, by rw [List.append_nil]; exact h, ⟨rfl, rfl, rfl, Nat.le_refl _, fun _ _ _ => rfl⟩, .inl rfl⟩
  | some a =>
    obtain ⟨v', w', hr, h2, h3, -, h5⟩ := run_append_own_at (P := Tryd.prog) w B 48 ty 74 i0 _ 2 32 Tryd.underlying48 hi hz0 hz1 hz2 rfl (by decide) v F.length _ h a G.length c (G.flatMap fC) (flat_len fC_len G) (fun j u hu => by obtain ⟨a', e, hc⟩ := hG j u hu; cases e; exact hc) (fC_one G) (by unfold maxLen; omega) (by omega) hB
    have h2' : FRow B w' v' (F ++ G) := by
      unfold FRow RRow
      rw [List.length_append, List.flatMap_append]
      exact h2
    obtain ⟨q, d, e, -, -⟩ := h2'.parts
    rw [List.length_append] at e
    subst e
    exact ⟨q, d, w', hr, h2', h3, h5⟩
theorem FRow.at {B : Nat} {w : World} {v : Value} {F : Files} (h : FRow B w v F) (i : Nat) (p : Option Addr) (n c : Nat) (hv : v = .slice p n c) (hi : i ≤ F.length) : FAt w (p.map fun a => a.add (i * 2)) (F.drop i) := fun j u hu => by
  obtain ⟨hj, hu2⟩ := List.getElem?_eq_some_iff.1 hu
  rw [flat_len fC_len, List.length_drop] at hj
  have hi2 : i + j / 2 < F.length := by omega
  obtain ⟨g, c', e, h1⟩ := RRow.cells fC_len h (i + j / 2) hi2
  rw [hv] at e
  injection e with e _ _
  subst e
  refine ⟨_, rfl, ?_⟩
  have ea : ((⟨g, 0, none⟩ : Addr).add (i * 2)).add j = ⟨g, (i + j / 2) * 2 + j % 2, none⟩ := by
    rw [Lst.add_add]
    unfold Addr.add
    split
    · have : i * 2 + j = 0 := by assumption
      have h2 : (i + j / 2) * 2 + j % 2 = 0 := by omega
      rw [h2]
    · simp; omega
  rw [ea, h1 (j % 2) (Nat.mod_lt _ (by decide)), ← hu]
  have h3 := flat_at fC_len (F.drop i) (j / 2) (by rw [List.length_drop]; omega) (j % 2) (Nat.mod_lt _ (by decide))
  rw [show j / 2 * 2 + j % 2 = j by omega] at h3
  rw [h3, List.getElem_drop]
theorem FAt.take {w : World} {p : Option Addr} {G : Files} (h : FAt w p G) (k : Nat) : FAt w p (G.take k) := fun j u hu => by
  refine h j u ?_
  rw [← List.take_append_drop k G, List.flatMap_append]
  obtain ⟨hj, _⟩ := List.getElem?_eq_some_iff.1 hu
  rw [List.getElem?_append_left hj]
  exact hu
theorem fat_one (w : World) (p : ByteArray × ByteArray) : FAt (w.alloc (.cells #[.string p.1, .string p.2] 74)) (some ⟨w.heap.size, 0, none⟩) [p] := fun j u hu => ⟨_, rfl, blkc (Blk.new w #[.string p.1, .string p.2] 74) j u (by simpa [fC] using hu)⟩
end Go.Proofs.YtenjllkhbpoffaaDoor
