/-
  (*Log).says: the conf at an index.
-/
import Derived.Test.YtkjfplkbgooflaaBack
namespace Go.Proofs.Ytkjfplkbgooflaa
open Go Go.RowKit Go.Lst Go.Lx Go.Shelf
attribute [local go_sem] Oper.semAt_some

def upTo (L : LogS) (x : Int) : Nat := min L.l.length (x - L.i).toNat
def saysE (L : LogS) (x : Int) : Option Ent := (L.l.take (upTo L x)).reverse.find? fun e => e.k == 3
def saysC (L : LogS) (x : Int) : List Int := match saysE L x with | some e => e.c | none => L.c
def saysI (L : LogS) (x : Int) : Int := match saysE L x with | some e => e.i | none => L.i
theorem upTo_iff {L : LogS} (ok : LogOk L) (x : Int) : ∀ j (h : j < L.l.length), (L.l[j].i ≤ x ↔ j < upTo L x) := fun j h => by
  have := (ok.at' j h).1
  unfold upTo
  omega
theorem find_at {es : List Ent} {j m : Nat} (hm : m ≤ es.length) (hj : j < m) (h3 : (es[j]'(by omega)).k = 3) (ho : ∀ i, j < i → i < m → ∀ h : i < es.length, es[i].k ≠ 3) : ((es.take m).reverse.find? fun e => e.k == 3) = some (es[j]'(by omega)) := by
  induction m with
  | zero => omega
  | succ m ih =>
    rw [List.take_succ_eq_append_getElem (by omega), List.reverse_append]
    simp only [List.reverse_singleton, List.singleton_append, List.find?_cons]
    by_cases hjm : j = m
    · subst hjm; simp [h3]
    · have hne := ho m (by omega) (by omega) (by omega)
      rw [show ((es[m]'(by omega)).k == 3) = false by simpa using hne]
      exact ih (by omega) (by omega) h3 (fun i h1 h2 => ho i h1 (by omega))
theorem find_none {es : List Ent} {m : Nat} (hm : m ≤ es.length) (ho : ∀ i, i < m → ∀ h : i < es.length, es[i].k ≠ 3) : ((es.take m).reverse.find? fun e => e.k == 3) = none := by
  rw [List.find?_eq_none]
  intro e he
  rw [List.mem_reverse, List.mem_take_iff_getElem] at he
  obtain ⟨i, hi, rfl⟩ := he
  have := ho i (by omega) (by omega)
  simpa using this
/-- The caller's variables. -/
structure SB (w : World) (b : Nat) (x : Int) (v0 v1 : Value) (A : World) : Prop where
  below : Below w.heap.size w A
  c0 : Blk A w.heap.size [v0]
  c1 : Blk A (w.heap.size + 1) [v1]
  cL : Blk A (w.heap.size + 2) [.pointer (some ⟨b, 0, none⟩)]
  cI : Blk A (w.heap.size + 3) [.int .u64 x]
theorem SB.grow {w : World} {b : Nat} {x : Int} {v0 v1 : Value} {A C : World} (h : SB w b x v0 v1 A) (hb : Below A.heap.size A C) : SB w b x v0 v1 C :=
  ⟨Lx.bstep h.below (Nat.le_refl _) hb, h.c0.below hb, h.c1.below hb, h.cL.below hb, h.cI.below hb⟩
theorem below_put {B : Nat} {w W : World} (h : Below B w W) {L : Nat} (o' : Obj) (hL : B ≤ L) : Below B w (W.putObj L o') :=
  ⟨h.os, h.tape, h.output, by have := h.size; simp [World.putObj]; omega, fun k hk => (World.putObj_heap_other (by omega)).trans (h.block k hk)⟩
theorem blk_putObj {A : World} {k : Nat} {cs : List Value} (h : Blk A k cs) {L : Nat} {o : Obj} (o' : Obj) (ho : A.heap[L]? = some o) (hc : o.isCells = false) : Blk (A.putObj L o') k cs := by
  obtain ⟨T, h1⟩ := id h
  refine ⟨T, (World.putObj_heap_other ?_).trans h1⟩
  rintro rfl
  rw [h1] at ho
  cases ho
  cases hc
theorem SB.put {w : World} {b : Nat} {x : Int} {v0 v1 : Value} {A : World} (h : SB w b x v0 v1 A) {L : Nat} {o : Obj} (o' : Obj) (hL : w.heap.size ≤ L) (ho : A.heap[L]? = some o) (hc : o.isCells = false) : SB w b x v0 v1 (A.putObj L o') :=
  ⟨below_put h.below o' hL, blk_putObj h.c0 o' ho hc, blk_putObj h.c1 o' ho hc, blk_putObj h.cL o' ho hc, blk_putObj h.cI o' ho hc⟩
/-- Both results are stored. -/
theorem SB.stored {w : World} {b : Nat} {x : Int} {v0 v1 : Value} {A : World} (h : SB w b x v0 v1 A) (u0 u1 : Value) : SB w b x u0 u1 ((A.setCell ⟨w.heap.size, 0, none⟩ u0).setCell ⟨w.heap.size + 1, 0, none⟩ u1) :=
  ⟨(h.below.setCell (by simp) _).setCell (by simp) _, (h.c0.put 0 u0).keep (by omega), (h.c1.keep (by omega)).put 0 u1, (h.cL.keep (by omega)).keep (by omega), (h.cI.keep (by omega)).keep (by omega)⟩
theorem SB.stored' {w : World} {b : Nat} {x : Int} {v0 v1 : Value} {A : World} (h : SB w b x v0 v1 A) (u0 u1 : Value) : SB w b x u0 u1 ((A.setCell ⟨w.heap.size + 1, 0, none⟩ u1).setCell ⟨w.heap.size, 0, none⟩ u0) :=
  ⟨(h.below.setCell (by simp) _).setCell (by simp) _, (h.c0.keep (by omega)).put 0 u0, (h.c1.put 0 u1).keep (by omega), (h.cL.keep (by omega)).keep (by omega), (h.cI.keep (by omega)).keep (by omega)⟩
def startW (w : World) (b : Nat) (x : Int) : World := (((w.alloc (.cells #[.slice none 0 0] 28)).alloc (.cells #[.int .u64 0] 27)).alloc (.cells #[.pointer (some ⟨b, 0, none⟩)] 23)).alloc (.cells #[.int .u64 x] 27)
theorem start_SB (w : World) (b : Nat) (x : Int) : SB w b x (.slice none 0 0) (.int .u64 0) (startW w b x) ∧ (startW w b x).heap.size = w.heap.size + 4 := by
  unfold startW
  obtain ⟨a1, a2, a3, a4⟩ := made2 w #[.slice none 0 0] #[.int .u64 0] 28 27
  generalize (w.alloc (.cells #[.slice none 0 0] 28)).alloc (.cells #[.int .u64 0] 27) = W at *
  obtain ⟨b1, b2, b3, b4⟩ := made2 W #[.pointer (some ⟨b, 0, none⟩)] #[.int .u64 x] 23 27
  rw [← a4] at b1 b2
  exact ⟨⟨Lx.bstep a3 (Nat.le_refl _) b3, a1.below b3, a2.below b3, b1, b2⟩, by omega⟩
theorem own_putObj {A : World} {B : Nat} {e : TypeId} {s : Nat} {v : Value} {n : Nat} {xs : List Value} (h : A.ownsRow B e s v n xs) {L : Nat} {o : Obj} (o' : Obj) (ho : A.heap[L]? = some o) (hc : o.isCells = false) : (A.putObj L o').ownsRow B e s v n xs := by
  refine own_keep h fun k hk => World.putObj_heap_other ?_
  rintro rfl
  rcases h.2 with ⟨rfl, _⟩ | ⟨g, cap, cur, rfl, _, hh, _⟩
  · cases hk
  · cases hk
    rw [hh] at ho
    cases ho
    cases hc
/-- What a round that returns leaves. -/
def SX (w : World) (b : Nat) (x : Int) (L : LogS) (c : Code) (_ : List Nat) (A : World) : Prop :=
  c = .ret ∧ ∃ j v, ∃ hj : j < L.l.length, saysE L x = some L.l[j] ∧ A.ownsRow w.heap.size 3 1 v L.l[j].c.length (L.l[j].c.map fun x => .int .i64 x) ∧ SB w b x v (.int .u64 L.l[j].i) A
theorem SX.grow {w : World} {b : Nat} {x : Int} {L : LogS} {c : Code} {pre : List Nat} {A C : World} (h : SX w b x L c pre A) (hb : Below A.heap.size A C) : SX w b x L c pre C := by
  obtain ⟨h1, j, v, hj, h2, h3, h4⟩ := h
  exact ⟨h1, j, v, hj, h2, own_below h3 hb, h4.grow hb⟩
theorem SX.put {w : World} {b : Nat} {x : Int} {L : LogS} {c : Code} {pre : List Nat} {A : World} (h : SX w b x L c pre A) {l : Nat} {o : Obj} (o' : Obj) (hL : w.heap.size ≤ l) (ho : A.heap[l]? = some o) (hc : o.isCells = false) : SX w b x L c pre (A.putObj l o') := by
  obtain ⟨h1, j, v, hj, h2, h3, h4⟩ := h
  exact ⟨h1, j, v, hj, h2, own_putObj h3 o' ho hc, h4.put o' hL ho hc⟩
theorem own_some {A : World} {B : Nat} {e : TypeId} {s : Nat} {v : Value} {n : Nat} {xs : List Value} (h : A.ownsRow B e s v n xs) (h0 : 0 < n) : ∃ a m c, v = .slice (some a) m c := by
  rcases h.2 with ⟨_, h1⟩ | ⟨g, cap, cur, h1, _⟩
  · omega
  · exact ⟨_, _, _, h1⟩
theorem says_end {B : Nat} {w : World} {b : Nat} {x i : Int} {v : Value} {c : List Int} {A : World} {D : Nat} (h : SB w b x v (.int .u64 i) A) (hown : A.ownsRow w.heap.size 3 1 v c.length (c.map fun x => .int .i64 x)) (hw : ∀ x ∈ c, (Lit.int .i64 x).wf = true) (h0 : 0 < c.length)
    (hD : A.heap[D]? = some (.deferred (some []))) (hlD : w.heap.size ≤ D) : (A.putObj D (.deferred none)).cell? ⟨w.heap.size, 0, none⟩ = some v ∧ (A.putObj D (.deferred none)).cell? ⟨w.heap.size + 1, 0, none⟩ = some (.int .u64 i) ∧ Cf B (A.putObj D (.deferred none)) v c ∧ Below w.heap.size w (A.putObj D (.deferred none)) ∧ ∃ a m d, v = .slice (some a) m d := by
  have h1 := h.put (.deferred none) hlD hD rfl
  exact ⟨h1.c0.cell 0 rfl, h1.c1.cell 0 rfl, Cf.own (own_putObj hown (.deferred none) hD rfl) hw, h1.below, own_some hown h0⟩
theorem may_pos {c : List Int} (h : may c = true) : 0 < c.length := by unfold may at h; simp at h; omega
theorem mayE_conf {e : Ent} (h : mayE e = true) (h3 : e.k = 3) : 0 < e.c.length := by
  unfold mayE at h
  rw [Bool.and_eq_true, h3] at h
  have := h.2
  simp at this
  exact may_pos this.2
set_option maxRecDepth 100000 in
set_option maxHeartbeats 4000000 in
theorem says_calls {B B0 : Nat} {w : World} {b : Nat} {cv lv : Value} {L : LogS} (h : LogAt B B0 w b cv lv L) (ok : LogOk L) (x : Int) :
    Calls Try.prog 40 #[.pointer (some ⟨b, 0, none⟩), .int .u64 x] w fun e w' => ∃ v, e = .returned (.tuple #[v, .int .u64 (saysI L x)]) ∧ Cf B w' v (saysC L x) ∧ Below w.heap.size w w' ∧ (∃ a n c, v = .slice (some a) n c) := by
  refine (callsIn_wide (n := 7)).1 ?_
  refine callsIn_of_wp_marks Try.func40 rfl trivial ?_ rfl
  simp only [Try.ntmps40, List.size_toArray, List.length_cons, List.length_nil, Nat.reduceAdd, Nat.reduceSub, Array.replicate_succ, Array.replicate_zero, List.push_toArray, List.append_toArray, List.nil_append, List.cons_append]
  gi_wp2_with fail
  try simp only [Nat.add_assoc, Nat.reduceAdd]
  refine ⟨trivial, ?_⟩
  refine (callsIn_wide.2 (back_calls b x _)).mono ?_
  rintro e w' ⟨rfl, rfl⟩
  gi_wp2_with fail
  obtain ⟨hS0, hz0⟩ := start_SB w b x
  obtain ⟨cvs, hrow, hcfs⟩ := h.row.rowAt
  have hsl : ∀ cv' ∈ cvs, ∃ p n c, cv' = .slice p n c := cf_slices hrow.1 hcfs
  have hcl : w.cell? ⟨b, 3, none⟩ = some lv := h.isBlk.cell 3 rfl
  have hbt : ∀ A, SB w b x (.slice none 0 0) (.int .u64 0) A → BackAt A b (w.heap.size + 2) (w.heap.size + 3) lv x L.l cvs := fun A hA =>
    ⟨hA.cL.cell 0 rfl, hA.cI.cell 0 rfl, (cell_below hA.below hcl).trans hcl, hrow.same hA.below.size fun g hg => hA.below.block g (hrow.2.2 g hg)⟩
  change Code.wpIn _ _ _ _ _ _ (startW w b x)
  generalize startW w b x = W2 at *
  refine Lx.rf_law2 (α := Nat) (w := W2) rfl (by decide) (gf := 51) (lb := #[.pointer (some ⟨w.heap.size + 2, 0, none⟩), .pointer (some ⟨w.heap.size + 3, 0, none⟩)]) rfl trivial (enters_of Try.func51 (by kernel_rfl) rfl)
    (fun x => #[encE L.l cvs x]) (fun _ => rfl) (fun pre j => j + pre.length + 1 = upTo L x) (fun pre A => SB w b x (.slice none 0 0) (.int .u64 0) A ∧ ∀ j, upTo L x ≤ j + pre.length → j < upTo L x → ∀ hj : j < L.l.length, L.l[j].k ≠ 3)
    (SX w b x L) (fun xs => xs.length = upTo L x)
    (fun pre A l o o' hL ho hc h => ⟨h.1.put o' (by omega) ho hc, h.2⟩)
    (fun c pre A l o o' hL ho hc h => h.put o' (by omega) ho hc)
    ?start (fun l J Jx Wx hbx hsz hJI hJs hXs hY h00 => back_in L.l cvs lv b (w.heap.size + 2) (w.heap.size + 3) x h.sz (upTo L x) (upTo_iff ok x) (by unfold upTo; omega) 6 l (by decide) J Jx Wx (fun pre A hA => hbt A (hJI _ _ hA).1) hsl
      (fun pre A C hA hb => hJs _ _ _ hA (KeepsP.below hb) ⟨(hJI _ _ hA).1.grow hb, (hJI _ _ hA).2⟩) (fun pre A l o o' hA hL ho hc => hJs _ _ _ hA (KeepsP.put _ (by omega)) ⟨(hJI _ _ hA).1.put o' (by omega) ho hc, (hJI _ _ hA).2⟩)
      (fun pre A C hA hb => hXs _ _ _ hA (KeepsP.below hb) fun c hx => hx.grow hb) (fun pre A l o o' hA hL ho hc => hXs _ _ _ hA (KeepsP.put _ (by omega)) fun c hx => hx.put o' (by omega) ho hc) hY h00)
    (fun pre A C hA hb => ⟨hA.1.grow hb, hA.2⟩)
    (fun j W3 => { tmps := #[.pointer (some ⟨b, 0, none⟩), .int .u64 x, undef, undef, .pointer (some ⟨w.heap.size, 0, none⟩), .pointer (some ⟨w.heap.size + 1, 0, none⟩), .pointer (some ⟨W3.heap.size, 0, none⟩), .pointer (some ⟨b, 0, none⟩), .int .u64 x,
      .func (.func 51) #[] #[.pointer (some ⟨w.heap.size + 2, 0, none⟩), .pointer (some ⟨w.heap.size + 3, 0, none⟩)], encE L.l cvs j, undef, undef, undef, undef, undef, undef, undef, undef, undef, undef, undef, undef, undef, undef, undef, undef, undef], defers := [] })
    (fun x W3 => W3.alloc (.cells #[.int .u64 (L.l.getD x e0).i, .int .u64 (L.l.getD x e0).t, .int .u8 (L.l.getD x e0).k, .string (L.l.getD x e0).s, cvs.getD x (.slice none 0 0)] 31)) (fun x W3 => (by repeat (first | exact Below.refl _ _ | exact Lx.Ext.below _ | refine Below.drew ?_ | refine below_drewN ?_ _ | (refine Below.alloc ?_ (by first | exact Nat.le_refl _ | (simp; done) | (simp; omega)) _) | (refine Below.setCell ?_ (by first | exact Nat.le_refl _ | (simp; done) | (simp; omega)) _))))
    ?assign ?body ?done ?stop
  case start =>
    intro r
    have hbe : Below W2.heap.size W2 (Lx.enteredWorld W2 r) := ((Below.refl _ _).alloc (Nat.le_refl _) _).alloc (by simp) _
    exact ⟨hS0.grow hbe, fun j h1 h2 => by simp at h1; omega⟩
  case assign =>
    intro l2 x W3 K hK
    unfold encE entV at hK ⊢
    obtain ⟨pw, nw, cw, hw⟩ : ∃ p n c, cvs.getD x (.slice none 0 0) = .slice p n c := by
      rw [List.getD_eq_getElem?_getD]
      rcases h : cvs[x]? with _ | cv
      · exact ⟨_, _, _, rfl⟩
      · exact hsl cv (List.mem_of_getElem? h)
    rw [hw] at hK ⊢
    generalize L.l.getD x e0 = en at *
    obtain ⟨ei, et, ek, s, ec⟩ := en
    dsimp only at hK ⊢
    clear hw hbt hsl hrow hcfs
    gi_wp2
    exact hK
  case body =>
    rintro l2 pre j W0 W3 ⟨hSB, hno⟩ hC hz0 hz3 hk3
    have hjl : j < L.l.length := by have : upTo L x ≤ L.l.length := by unfold upTo; omega
                                    omega
    have hjc : j < cvs.length := by have := hrow.1; omega
    have hE : Blk W3 W0.heap.size [.int .u64 (L.l.getD j e0).i, .int .u64 (L.l.getD j e0).t, .int .u8 (L.l.getD j e0).k, .string (L.l.getD j e0).s, cvs.getD j (.slice none 0 0)] := (Blk.new W0 _ _).same (hk3 _ (Nat.le_refl _))
    have hen : L.l.getD j e0 = L.l[j] := by rw [List.getD_eq_getElem?_getD, List.getElem?_eq_getElem hjl]; rfl
    have hcn : cvs.getD j (.slice none 0 0) = cvs[j] := by rw [List.getD_eq_getElem?_getD, List.getElem?_eq_getElem hjc]; rfl
    have hn := (hcfs j hjl hjc).n.below hSB.below
    have hmy := (ok.at' j hjl).2
    unfold encE entV
    rw [hen, hcn] at hE ⊢
    obtain ⟨en, hee⟩ : ∃ en, L.l[j] = en := ⟨_, rfl⟩
    have hfind : en.k = 3 → saysE L x = some en := fun h3 => by
      rw [← hee]
      exact find_at (by unfold upTo; omega) (by omega) (by rw [hee]; exact h3) (fun i h1 h2 h => hno i (by omega) h2 h)
    rw [hee] at hE hn hmy ⊢
    generalize cvs[j] = cw at *
    obtain ⟨ei, et, ek, s, ec⟩ := en
    dsimp only at hE hn hmy hfind ⊢
    obtain ⟨pw, cc, rfl, -⟩ := hn.parts
    obtain ⟨a0, a1, a2, a3, a4, -⟩ := hE.c5
    have hlen := mayE_len hmy
    dsimp only at hlen
    by_cases h3 : ek = 3
    · subst h3
      have hCl := Lib.hid (CloneAny_calls _ ec W3.drew (hn.below (Below.refl _ _).drew) (by omega))
      clear hbt hcl hk3
      replace hrow := Lib.hid hrow
      replace hcfs := Lib.hid hcfs
      replace hsl := Lib.hid hsl
      replace hno := Lib.hid hno
      replace hmy := Lib.hid hmy
      replace hfind := Lib.hid hfind
      replace hE := Lib.hid hE
      replace hn := Lib.hid hn
      replace hSB := Lib.hid hSB
      replace hee := Lib.hid hee
      gi_wp2_with fail
      have hfn : Fence.wide.fn 35 := trivial
      gi_region_with (gi_at_call 35; go_loud (refine (CallsIn.inRound l2 (callsIn_wide.2 hCl.out)).mono ?_; rintro e w5 ⟨u, rfl, hown, hb5⟩; replace hb5 : Below W3.heap.size W3 w5 := Lx.bstep (Below.refl _ _).drew (Nat.le_refl _) hb5; obtain ⟨qu, lu, du, rfl⟩ := own_slice hown; have a0' := (cell_below hb5 a0).trans a0; have hS5 := hSB.out.grow hb5; have f0 := hS5.c0.frz 0; have f1 := hS5.c1.frz 0; have g0 := hS5.c0.cell 0 rfl; have g1 := hS5.c1.cell 0 rfl; replace hS5 := Lib.hid hS5; replace hown := Lib.hid hown; replace hb5 := Lib.hid hb5))
      all_goals
        gi_wp2_with fail
        refine ⟨?_, rfl, j, .slice qu lu du, hjl, by rw [hee.out]; exact hfind.out trivial, ?_, by rw [hee.out]; exact hS5.out.stored _ _⟩
        · exact (From.below hb5.out).trans ((From.setCell _ _ _ (by show w.heap.size < _; omega)).trans (From.setCell _ _ _ (by show w.heap.size + 1 < _; omega)))
        · rw [hee.out]
          refine own_mono (own_keep hown.out fun g hg => ?_) (Nat.le_trans hSB.out.below.size (Nat.le_refl _))
          have hg1 : W3.heap.size ≤ g := (own_block hown.out hg).1
          have hz4 : W3.heap.size = W0.heap.size + 1 := by rw [hz3]; simp
          exact (Below.heap_setCell _ _ _ _ (by show g ≠ w.heap.size + 1; omega)).trans (Below.heap_setCell _ _ _ _ (by show g ≠ w.heap.size; omega))
    · have h3b : (ek == 3) = false := by simpa using h3
      clear hbt hcl hk3 hfind
      have hI : SB w b x (.slice none 0 0) (.int .u64 0) W3 ∧ ∀ i, upTo L x ≤ i + (pre ++ [j]).length → i < upTo L x → ∀ hi : i < L.l.length, L.l[i].k ≠ 3 := ⟨hSB, fun i h1 h2 hi => by
        by_cases hij : i = j
        · subst hij; rw [hee]; exact h3
        · exact hno i (by simp at h1; omega) h2 hi⟩
      replace hrow := Lib.hid hrow
      replace hcfs := Lib.hid hcfs
      replace hsl := Lib.hid hsl
      replace hno := Lib.hid hno
      replace hmy := Lib.hid hmy
      replace hE := Lib.hid hE
      replace hn := Lib.hid hn
      replace hSB := Lib.hid hSB
      replace hee := Lib.hid hee
      replace hI := Lib.hid hI
      clear h3
      gi_wp2_with fail
      exact ⟨From.refl _ _, hI.out⟩
  case done =>
    rintro D xs W3 hS ⟨hSB, hno⟩ hD hlD
    have hfind : saysE L x = none := find_none (by unfold upTo; omega) (fun i hi h => hno i (by omega) hi h)
    have hbk := h.isBlk
    have hn := h.cf.n.below hSB.below
    have hlen : L.c.length ≤ 7 := by have := ok.cm; unfold may at this; simp at this; omega
    have hpos := may_pos ok.cm
    obtain ⟨q0, q1, q2, q3, -⟩ := hbk.c4
    have p0 := q0
    have p2 := q2
    replace q0 := (cell_below hSB.below q0).trans q0
    replace q2 := (cell_below hSB.below q2).trans q2
    obtain ⟨pw, cc, rfl, -⟩ := hn.parts
    have hsC : saysC L x = L.c := by unfold saysC; rw [hfind]
    have hsI : saysI L x = L.i := by unfold saysI; rw [hfind]
    replace hsC := Lib.hid hsC
    replace hsI := Lib.hid hsI
    have hCl := Lib.hid (fun A hb => CloneAny_calls _ L.c A (hn.below (w' := A) hb) (by omega))
    clear hbt hcl q1 q3
    replace hrow := Lib.hid hrow
    replace hcfs := Lib.hid hcfs
    replace hsl := Lib.hid hsl
    replace hno := Lib.hid hno
    replace hn := Lib.hid hn
    replace hSB := Lib.hid hSB
    replace hfind := Lib.hid hfind
    replace hbk := Lib.hid hbk
    replace hD := Lib.hid hD
    gi_wp2_with fail
    refine wpIn_wide.2 ?_
    have hnon : Nonempty (Ext w) := ⟨⟨w, Below.refl _ _⟩⟩
    have y0 := fun x : Ext w => (cell_below x.below p0).trans p0
    have y2 := fun x : Ext w => (cell_below x.below p2).trans p2
    refine Lx.wp_region_chain_lit (fun w' => ∃ x : Lx.Ext w, w' = x.wo) (fun _ => False) [4, 9, 10] [] (fun A => Below W3.heap.size W3 A) (by kernel_rfl) (by kernel_rfl) (by kernel_rfl) (by kernel_rfl) ⟨⟨W3.drew, hSB.out.below.drew⟩, rfl⟩ ((Below.refl _ _).drew) ?_
    repeat (refine Lx.wpCh_one (by rfl) (by rfl) ?_; go_big_quiet_step (fail); refine wpQuiet_nil ?_)
    clear y2 q0 q2
    have hne : ∃ w', ∃ x : Ext w, w' = x.wo := Lx.ext_ne
    refine Lx.wpCh_relp (fun v A => ∃ q n d, v = .slice q n d ∧ A.ownsRow W3.heap.size 3 1 (.slice q n d) L.c.length (L.c.map fun x => .int .i64 x) ∧ Below W3.heap.size W3 A) (by rfl) (by rfl) (fun h => by cases h) (fun w' hx hS R hR => ?_) (fun v hv => ?_)
    · obtain ⟨y, rfl⟩ := hx
      have hC := hCl.out y.wo hS
      clear hCl
      go_simp
      refine hC.mono ?_
      rintro e w5 ⟨u, rfl, hown, hb5⟩
      obtain ⟨qu, lu, du, rfl⟩ := own_slice hown
      exact ⟨_, rfl, hR _ _ ⟨⟨_, Lx.bstep y.below (Nat.le_refl _) hb5⟩, rfl⟩ ⟨qu, lu, du, rfl, own_mono hown hS.size, Lx.bstep hS (Nat.le_refl _) hb5⟩ (fun h => by cases h)⟩
    obtain ⟨_, -, qu, lu, du, rfl, -, -⟩ := hv
    go_big_quiet_step (fail)
    refine wpQuiet_nil ?_
    repeat (refine Lx.wpCh_one (by rfl) (by rfl) ?_; go_big_quiet_step (fail); refine wpQuiet_nil ?_)
    refine Lx.wpCh_valp undef (fun A => ∃ A0, A = A0.setCell ⟨w.heap.size, 0, none⟩ (.slice qu lu du) ∧ A0.ownsRow W3.heap.size 3 1 (.slice qu lu du) L.c.length (L.c.map fun x => .int .i64 x) ∧ Below W3.heap.size W3 A0) (by rfl) (by rfl) (fun h => by cases h) hne (fun w' hx hS R hR => ?_) ?_
    · obtain ⟨y, rfl⟩ := hx
      obtain ⟨_, _, _, e1, hown, hb5⟩ := hS
      cases e1
      have hS5 := hSB.out.grow hb5
      have f0 := hS5.c0.frz 0
      have g0 := hS5.c0.cell 0 rfl
      replace hS5 := Lib.hid hS5
      replace hown := Lib.hid hown
      replace hb5 := Lib.hid hb5
      go_simp
      exact hR _ ⟨⟨_, hS5.out.below.setCell (by simp) _⟩, rfl⟩ ⟨_, rfl, hown.out, hb5.out⟩ (fun h => by cases h)
    go_big_quiet_step (fail)
    refine wpQuiet_nil ?_
    repeat (refine Lx.wpCh_one (by rfl) (by rfl) ?_; go_big_quiet_step (fail); refine wpQuiet_nil ?_)
    refine Lx.wpCh_valp undef (fun A => ∃ A0, A = (A0.setCell ⟨w.heap.size, 0, none⟩ (.slice qu lu du)).setCell ⟨w.heap.size + 1, 0, none⟩ (.int .u64 L.i) ∧ A0.ownsRow W3.heap.size 3 1 (.slice qu lu du) L.c.length (L.c.map fun x => .int .i64 x) ∧ Below W3.heap.size W3 A0) (by rfl) (by rfl) (fun h => by cases h) hne (fun w' hx hS R hR => ?_) ?_
    · obtain ⟨y, rfl⟩ := hx
      obtain ⟨A0, e1, hown, hb5⟩ := hS
      have hS5 := hSB.out.grow hb5
      have hk5 : Blk y.wo (w.heap.size + 1) [.int .u64 0] := by rw [e1]; exact hS5.c1.keep (by omega)
      have f1 := hk5.frz 0
      have g1 := hk5.cell 0 rfl
      have hyb : Below w.heap.size w y.wo := y.below
      have hR1 : ∀ u0, (∃ x : Ext w, (y.wo.setCell ⟨w.heap.size + 1, 0, none⟩ u0) = x.wo) := fun u0 => ⟨⟨_, hyb.setCell (by simp) _⟩, rfl⟩
      have e1' := Lib.hid e1
      clear e1
      replace hS5 := Lib.hid hS5
      replace hown := Lib.hid hown
      replace hb5 := Lib.hid hb5
      replace hR1 := Lib.hid hR1
      go_simp
      exact hR _ (hR1.out _) ⟨A0, by rw [e1'.out], hown.out, hb5.out⟩ (fun h => by cases h)
    go_big_quiet_step (fail)
    refine wpQuiet_nil ?_
    repeat (refine Lx.wpCh_one (by rfl) (by rfl) ?_; go_big_quiet_step (fail); refine wpQuiet_nil ?_)
    refine Lx.wpCh_nil ?_
    intro w4 hx hS
    obtain ⟨A0, rfl, hown, hb5⟩ := hS
    have hS5 := (hSB.out.grow hb5).stored (.slice qu lu du) (.int .u64 L.i)
    have how : ((A0.setCell ⟨w.heap.size, 0, none⟩ (.slice qu lu du)).setCell ⟨w.heap.size + 1, 0, none⟩ (.int .u64 L.i)).ownsRow w.heap.size 3 1 (.slice qu lu du) L.c.length (L.c.map fun x => .int .i64 x) := by
      refine own_mono (own_keep hown fun g hg => ?_) hSB.out.below.size
      have hg1 := (own_block hown hg).1
      have h1 := heap_lt' (hSB.out.cI.choose_spec)
      exact (Below.heap_setCell _ _ _ _ (by show g ≠ w.heap.size + 1; omega)).trans (Below.heap_setCell _ _ _ _ (by show g ≠ w.heap.size; omega))
    have hDne : ∀ k cs, Blk W3 k cs → k ≠ D := fun k cs ⟨T, hk⟩ e => by subst e; rw [hk] at hD; exact absurd hD.out (by simp)
    have hD5 : ((A0.setCell ⟨w.heap.size, 0, none⟩ (.slice qu lu du)).setCell ⟨w.heap.size + 1, 0, none⟩ (.int .u64 L.i)).heap[D]? = some (.deferred (some [])) := by
      rw [Below.heap_setCell _ _ _ _ (by show D ≠ w.heap.size + 1; exact fun e => hDne _ _ hSB.out.c1 e.symm), Below.heap_setCell _ _ _ _ (by show D ≠ w.heap.size; exact fun e => hDne _ _ hSB.out.c0 e.symm)]
      exact (hb5.block D (Array.getElem?_eq_some_iff.1 hD.out).1).trans hD.out
    have hfin := Lib.hid (says_end (B := B) hS5 how hn.out.2 hpos hD5 (by omega))
    replace hD5 := Lib.hid hD5
    clear hDne how hS5 hown hb5 hx y0
    generalize (A0.setCell ⟨w.heap.size, 0, none⟩ (.slice qu lu du)).setCell ⟨w.heap.size + 1, 0, none⟩ (.int .u64 L.i) = w6 at *
    gi_wp2_with fail
    refine ⟨by simp, .inl ⟨_, _, rfl, run_takeDeferred hD5.out, ?_⟩⟩
    obtain ⟨d0, d1, d2, d3, d4⟩ := hfin.out
    refine ⟨.tuple #[.slice qu lu du, .int .u64 L.i], ?_, ⟨_, by rw [hsI.out], by rw [hsC.out]; exact d2, d3, d4⟩⟩
    clear hfin hD5 d2 d3 d4 hCl
    generalize w6.putObj D _ = W' at *
    simp [results, Try.results40, go_sem, d0, d1]
  case stop =>
    rintro D c pre W3 ⟨rfl, j, v, hj, h1, hown, hSB⟩ hD hlD
    have hsC : saysC L x = L.l[j].c := by unfold saysC; rw [h1]
    have hsI : saysI L x = L.l[j].i := by unfold saysI; rw [h1]
    have h3 : L.l[j].k = 3 := by
      have := List.find?_some h1
      simpa using this
    have hfin := says_end (B := B) hSB hown (hcfs j hj (by have := hrow.1; omega)).n.2 (mayE_conf (ok.at' j hj).2 h3) hD (by omega)
    rw [← hsC, ← hsI] at hfin
    replace hfin := Lib.hid hfin
    have hD5 := Lib.hid hD
    clear hsC hsI h3 hown hSB h1 hbt hcl
    replace hrow := Lib.hid hrow
    replace hcfs := Lib.hid hcfs
    replace hsl := Lib.hid hsl
    gi_wp2_with fail
    refine ⟨by simp, .inl ⟨_, _, rfl, run_takeDeferred hD5.out, ?_⟩⟩
    obtain ⟨d0, d1, d2, d3, d4⟩ := hfin.out
    refine ⟨.tuple #[v, .int .u64 (saysI L x)], ?_, ⟨_, rfl, d2, d3, d4⟩⟩
    clear hfin hD5 d2 d3 d4
    generalize W3.putObj D _ = W' at *
    simp [results, Try.results40, go_sem, d0, d1]
end Go.Proofs.Ytkjfplkbgooflaa
