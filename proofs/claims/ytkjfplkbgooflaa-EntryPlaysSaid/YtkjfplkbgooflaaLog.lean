/-
  A log as it lies in memory; Base, Last, made, Term, Fits.
-/
import Derived.Test.YtkjfplkbgooflaaMayEnt
import Derived.Test.YtkjfplkbgooflaaTail
namespace Go.Proofs.Ytkjfplkbgooflaa
open Go.RowKit Go.Lst Go.Lx

structure LogS where
  i : Int
  t : Int
  c : List Int
  l : List Ent
/-- Block b is a log. -/
structure LogAt (B B0 : Nat) (w : World) (b : Nat) (cv lv : Value) (L : LogS) : Prop where
  blk : w.heap[b]? = some (.cells #[.int .u64 L.i, .int .u64 L.t, cv, lv] 70 (0, 0))
  cf : Cf B w cv L.c
  row : Rw B B0 w lv L.l
  nb : lv.ownBlock ≠ some b
  lo : B ≤ B0 ∧ B0 ≤ b
  sz : L.l.length ≤ 4096
  nn : ∃ a n c, cv = .slice (some a) n c
theorem LogAt.lt {B B0 : Nat} {w : World} {b : Nat} {cv lv : Value} {L : LogS} (h : LogAt B B0 w b cv lv L) : b < w.heap.size := heap_lt' h.blk
theorem LogAt.below {B B0 : Nat} {w w' : World} {b : Nat} {cv lv : Value} {L : LogS} (h : LogAt B B0 w b cv lv L) (hb : Below w.heap.size w w') : LogAt B B0 w' b cv lv L :=
  ⟨(hb.block b h.lt).trans h.blk, h.cf.keep (Calms.below hb), h.row.below hb, h.nb, h.lo, h.sz, h.nn⟩
theorem LogAt.isBlk {B B0 : Nat} {w : World} {b : Nat} {cv lv : Value} {L : LogS} (h : LogAt B B0 w b cv lv L) : Blk w b [.int .u64 L.i, .int .u64 L.t, cv, lv] := ⟨_, h.blk⟩
/-- What a log's last entry is. -/
def lastOf (L : LogS) : Int × Int := match L.l.getLast? with | none => (L.i, L.t) | some e => (e.i, e.t)
set_option maxRecDepth 100000 in
theorem Base_calls {B B0 : Nat} {w : World} {b : Nat} {cv lv : Value} {L : LogS} (h : LogAt B B0 w b cv lv L) :
    Calls Try.prog 18 #[.pointer (some ⟨b, 0, none⟩)] w fun x w' => x = .returned (.tuple #[.int .u64 L.i, .int .u64 L.t]) ∧ Below w.heap.size w w' := by
  obtain ⟨q0, q1, -, -, -⟩ := h.isBlk.c4
  clear h
  go_enter Try.func18, Try.ntmps18
  go_wp2_with fail
  go_quiet (fail)
  go_wp2_with fail
  go_ret2
  exact ⟨rfl, below_drewN (Below.refl _ _) _⟩
theorem Base_nil (w : World) : Calls Try.prog 18 #[.pointer none] w fun x w' => x = .returned (.tuple #[.int .u64 0, .int .u64 0]) ∧ w = w' := by
  go_enter Try.func18, Try.ntmps18
  go_wp2_with fail
  go_ret2
  exact ⟨rfl, rfl⟩
theorem Last_nil (w : World) : Calls Try.prog 14 #[.pointer none] w fun x w' => x = .returned (.tuple #[.int .u64 0, .int .u64 0]) ∧ w = w' := by
  go_enter Try.func14, Try.ntmps14
  go_wp2_with fail
  refine (Base_nil _).mono ?_
  rintro x w1 ⟨rfl, rfl⟩
  go_wp2_with fail
  go_ret2
  exact ⟨rfl, rfl⟩
/-- The cells of an entry of a slice. -/
theorem Ents.get {B : Nat} {w : World} {v : Value} {es : List Ent} (h : Ents B w v es) (j : Nat) (hj : j < es.length) : ∃ a c cv, v = .slice (some a) es.length c ∧ w.cell? (a.add (j * 5)) = some (.int .u64 es[j].i) ∧ w.cell? ⟨(a.add (j * 5)).block, (a.add (j * 5)).off + 1, none⟩ = some (.int .u64 es[j].t) ∧
    w.cell? ⟨(a.add (j * 5)).block, (a.add (j * 5)).off + 2, none⟩ = some (.int .u8 es[j].k) ∧ w.cell? ⟨(a.add (j * 5)).block, (a.add (j * 5)).off + 3, none⟩ = some (.string es[j].s) ∧ w.cell? ⟨(a.add (j * 5)).block, (a.add (j * 5)).off + 4, none⟩ = some cv ∧ Cf B w cv es[j].c := by
  obtain ⟨p, c, rfl, h1, h2, h3⟩ := h
  obtain ⟨a, cv, rfl, h4, h5⟩ := h3 j hj
  have g := fun m hm => (h4 m hm)
  have e : ∀ m, m < 5 → m ≠ 0 → a.add (j * 5 + m) = ⟨(a.add (j * 5)).block, (a.add (j * 5)).off + m, none⟩ := fun m hm h0 => by rw [← Lst.add_add]; unfold Addr.add; simp only [h0, if_false]
  refine ⟨a, c, cv, rfl, g 0 (by omega), ?_, ?_, ?_, ?_, h5⟩
  · rw [← e 1 (by omega) (by omega)]; exact g 1 (by omega)
  · rw [← e 2 (by omega) (by omega)]; exact g 2 (by omega)
  · rw [← e 3 (by omega) (by omega)]; exact g 3 (by omega)
  · rw [← e 4 (by omega) (by omega)]; exact g 4 (by omega)
set_option maxRecDepth 100000 in
set_option maxHeartbeats 1000000 in
theorem Last_calls {B B0 : Nat} {w : World} {b : Nat} {cv lv : Value} {L : LogS} (h : LogAt B B0 w b cv lv L) :
    Calls Try.prog 14 #[.pointer (some ⟨b, 0, none⟩)] w fun x w' => x = .returned (.tuple #[.int .u64 (lastOf L).1, .int .u64 (lastOf L).2]) ∧ Below w.heap.size w w' := by
  have hC := Lib.hid (Base_calls h)
  obtain ⟨p, c, hlv, hlc, hcm, -⟩ := h.row.ents
  subst hlv
  obtain ⟨q0, q1, q2, q3, -⟩ := h.isBlk.c4
  have hsz := h.sz
  by_cases h0 : L.l.length = 0
  · have hl : lastOf L = (L.i, L.t) := by unfold lastOf; rw [List.eq_nil_of_length_eq_zero h0]; rfl
    rw [hl]
    generalize L.l.length = n at *
    subst h0
    clear h hl
    go_enter Try.func14, Try.ntmps14
    go_wp2_with fail
    refine hC.out.mono ?_
    rintro x w1 ⟨rfl, hb⟩
    go_wp2_with fail
    go_ret2
    exact ⟨rfl, hb⟩
  · obtain ⟨m, hm⟩ : ∃ m, L.l.length = m + 1 := ⟨L.l.length - 1, by omega⟩
    obtain ⟨a, c', cw, e, g0, g1, g2, g3, g4, hcf⟩ := h.row.ents.get m (by omega)
    obtain ⟨pw, cc, hcw, -⟩ := hcf.n.parts
    clear hcf
    obtain ⟨lw, hlw⟩ : ∃ lw, L.l[m].c.length = lw := ⟨_, rfl⟩
    rw [hlw] at hcw
    subst hcw
    injection e with e1 e2 e3
    subst e1 e3
    have hl : lastOf L = (L.l[m].i, L.l[m].t) := by
      have e5 : L.l.getLast? = some L.l[m] := by
        rw [List.getLast?_eq_getElem?, show L.l.length - 1 = m by omega]
        exact List.getElem?_eq_getElem (by omega)
      unfold lastOf
      rw [e5]
    rw [hl]
    generalize L.l[m] = en at *
    rw [hm] at q3 hlc hsz h0 
    have q3' := fun x : Ext w => (cell_below x.below q3).trans q3
    have f0 := fun x : Ext w => (cell_below x.below g0).trans g0
    have f1 := fun x : Ext w => (cell_below x.below g1).trans g1
    have f2 := fun x : Ext w => (cell_below x.below g2).trans g2
    have f3 := fun x : Ext w => (cell_below x.below g3).trans g3
    have f4 := fun x : Ext w => (cell_below x.below g4).trans g4
    have w1 : wrap64 (m : Int) = (m : Int) := IntWalk.wrap64_in _ (by omega)
    have w2 : (0 : Int) ≤ (m : Int) := by omega
    have w3 : (m : Int) < ((m + 1 : Nat) : Int) := by omega
    replace hlc := Lib.hid hlc
    replace hcm := Lib.hid hcm
    replace hsz := Lib.hid hsz
    clear h hl hC g0 g1 g2 g3 g4 hm hlw
    go_enter Try.func14, Try.ntmps14
    go_wp2_with fail
    refine Lx.wp_region_chain_lit (fun w' => ∃ x : Lx.Ext w, w' = x.wo) (fun b => w.heap.size ≤ b) [13] [12] (fun _ => True) (by kernel_rfl) (by kernel_rfl) (by kernel_rfl) (by kernel_rfl) Lx.ext_drew trivial ?_
    repeat (refine Lx.wpCh_one (by rfl) (by rfl) ?_; go_big_quiet_step (fail); refine wpQuiet_nil ?_)
    refine Lx.wpCh_freshp (.cells #[.int .u64 0, .int .u64 0, .int .u8 0, .string ⟨#[]⟩, .slice none 0 0] 31) (by rfl) (by rfl) (fun _ _ _ => trivial) Lx.ext_ne Lx.ext_grows (fun w ⟨x, hx⟩ => by subst hx; exact x.below.size) (fun w => by go_simp) (fun b4 hb4 => ?_)
    go_big_quiet_step (fail)
    refine wpQuiet_nil ?_
    refine Lx.wpCh_valp undef (fun w => Blk w b4 [.int .u64 en.i, .int .u64 en.t, .int .u8 en.k, .string en.s, .slice pw lw cc]) (by rfl) (by rfl) (fun _ => grows_and grows_true grows_block) Lx.ext_ne (fun w hx hS R hR => ?_) ?_
    · obtain ⟨x, rfl⟩ := hx
      have hb0 : Blk x.wo b4 [.int .u64 0, .int .u64 0, .int .u8 0, .string ⟨#[]⟩, .slice none 0 0] := ⟨_, hS.2⟩
      clear hS
      have ⟨r0, r1, r2, r3, r4, y0, y1, y2, y3, y4⟩ := hb0.c5
      replace hb0 := Lib.hid hb0
      go_simp
      exact hR _ ⟨⟨_, ((((x.below.setCell hb4 _).setCell hb4 _).setCell hb4 _).setCell hb4 _).setCell hb4 _⟩, rfl⟩ (((((hb0.out.put 0 _).put 1 _).put 2 _).put 3 _).put 4 _) (fun h => by cases h)
    go_big_quiet_step (fail)
    refine wpQuiet_nil ?_
    refine Lx.wpCh_nil ?_
    intro w4 hx hE
    obtain ⟨x, rfl⟩ := hx
    have hb := Lib.hid x.below
    obtain ⟨r0, r1, -⟩ := hE.c5
    clear q3' f0 f1 f2 f3 f4 hE
    generalize x.wo = w4 at *
    clear x
    go_wp2_with fail
    go_quiet (fail)
    go_wp2_with fail
    go_ret2
    exact ⟨rfl, below_drewN hb.out _⟩
theorem made_calls {B B0 : Nat} {w : World} {b : Nat} {cv lv : Value} {L : LogS} (h : LogAt B B0 w b cv lv L) :
    Calls Try.prog 36 #[.pointer (some ⟨b, 0, none⟩)] w fun x w' => x = .returned (.bool true) ∧ w = w' := by
  obtain ⟨a, n, c, rfl⟩ := h.nn
  obtain ⟨q0, q1, q2, q3, -⟩ := h.isBlk.c4
  clear h
  go_enter Try.func36, Try.ntmps36
  go_wp2_with fail
  go_ret
  exact ⟨rfl, rfl⟩
theorem made_nil (w : World) : Calls Try.prog 36 #[.pointer none] w fun x w' => x = .returned (.bool false) ∧ w = w' := by
  go_enter Try.func36, Try.ntmps36
  go_wp2_with fail
  go_ret
  exact ⟨rfl, rfl⟩
/-- What a log holds. -/
structure LogOk (L : LogS) : Prop where
  i0 : 0 ≤ L.i ∧ L.i ≤ 281474976710656
  t0 : 0 ≤ L.t ∧ L.t ≤ 281474976710656
  cm : may L.c = true
  at' : ∀ j (h : j < L.l.length), L.l[j].i = L.i + j + 1 ∧ mayE L.l[j] = true
theorem LogOk.last {L : LogS} (h : LogOk L) : (lastOf L).1 = L.i + L.l.length := by
  unfold lastOf
  rcases hl : L.l.getLast? with _ | e
  · rw [List.getLast?_eq_none_iff] at hl; rw [hl]; simp
  · have h0 : 0 < L.l.length := by
      rcases Nat.eq_zero_or_pos L.l.length with h0 | h0
      · rw [List.eq_nil_of_length_eq_zero h0] at hl; cases hl
      · exact h0
    have e1 : L.l.getLast? = some (L.l[L.l.length - 1]'(by omega)) := by
      rw [List.getLast?_eq_getElem?]; exact List.getElem?_eq_getElem (by omega)
    rw [e1] at hl
    cases hl
    have := (h.at' (L.l.length - 1) (by omega)).1
    dsimp only
    omega
def entAt (L : LogS) (x : Int) : Ent := L.l.getD (x - L.i - 1).toNat ⟨0, 0, 0, ⟨#[]⟩, []⟩
def termAt (L : LogS) (x : Int) : Int × Int := if x < L.i then (0, 260) else if (lastOf L).1 < x then (0, 5) else if x = L.i then (L.t, 0) else ((entAt L x).t, 0)
set_option maxRecDepth 100000 in
set_option maxHeartbeats 1000000 in
theorem Term_calls {B B0 : Nat} {w : World} {b : Nat} {cv lv : Value} {L : LogS} (h : LogAt B B0 w b cv lv L) (ok : LogOk L) (x : Int) (hx : 0 ≤ x) :
    Calls Try.prog 30 #[.pointer (some ⟨b, 0, none⟩), .int .u64 x] w fun y w' => y = .returned (.tuple #[.int .u64 (termAt L x).1, .int .i64 (termAt L x).2]) ∧ Below w.heap.size w w' := by
  have C1 := Lib.hid (Last_calls h)
  have C2 := Lib.hid (fun w' hb => made_calls (h.below (w' := w') hb))
  have hlast := ok.last
  obtain ⟨p, c, hlv, hlc, hcm, -⟩ := h.row.ents
  have hsz := h.sz
  have hi0 := ok.i0
  obtain ⟨q0, q1, q2, q3, -⟩ := h.isBlk.c4
  obtain ⟨T, hT⟩ : ∃ T, termAt L x = T := ⟨_, rfl⟩
  rw [hT]
  unfold termAt at hT
  obtain ⟨LA, hLA⟩ : ∃ LA, lastOf L = LA := ⟨_, rfl⟩
  rw [hLA] at hT C1 hlast
  replace hLA := Lib.hid hLA
  by_cases c1 : x < L.i
  · rw [if_pos c1] at hT
    subst hT
    clear h ok hlast
    go_enter Try.func30, Try.ntmps30
    go_wp2_with fail
    refine C1.out.mono ?_
    rintro y w1 ⟨rfl, hb⟩
    have hq := (cell_below hb q0).trans q0
    go_wp2_with fail
    refine (C2.out _ hb).mono ?_
    rintro y w2 ⟨rfl, rfl⟩
    go_wp2_with fail
    go_ret2
    exact ⟨rfl, hb⟩
  rw [if_neg c1] at hT
  by_cases c2 : LA.1 < x
  · rw [if_pos c2] at hT
    subst hT
    clear h ok hlast
    go_enter Try.func30, Try.ntmps30
    go_wp2_with fail
    refine C1.out.mono ?_
    rintro y w1 ⟨rfl, hb⟩
    have hq := (cell_below hb q0).trans q0
    go_wp2_with fail
    refine (C2.out _ hb).mono ?_
    rintro y w2 ⟨rfl, rfl⟩
    go_wp2_with fail
    go_ret2
    exact ⟨rfl, hb⟩
  rw [if_neg c2] at hT
  by_cases c3 : x = L.i
  · rw [if_pos c3] at hT
    subst hT
    have c3b : (x == L.i) = true := by simp [c3]
    clear h ok hlast c3
    go_enter Try.func30, Try.ntmps30
    go_wp2_with fail
    refine C1.out.mono ?_
    rintro y w1 ⟨rfl, hb⟩
    have hq := (cell_below hb q0).trans q0
    have hq1 := (cell_below hb q1).trans q1
    go_wp2_with fail
    refine (C2.out _ hb).mono ?_
    rintro y w2 ⟨rfl, rfl⟩
    go_wp2_with fail
    go_ret2
    exact ⟨rfl, hb⟩
  rw [if_neg c3] at hT
  subst hT
  have c3b : (x == L.i) = false := by simp [c3]
  obtain ⟨j, hj⟩ : ∃ j : Nat, x = L.i + j + 1 := ⟨(x - L.i - 1).toNat, by omega⟩
  have hjl : j < L.l.length := by omega
  have hen : entAt L x = L.l[j] := by
    unfold entAt
    rw [show (x - L.i - 1).toNat = j by omega, List.getD_eq_getElem?_getD, List.getElem?_eq_getElem hjl]; rfl
  rw [hen]
  obtain ⟨a, c', cw, e, g0, g1, -, -, -, -⟩ := h.row.ents.get j hjl
  rw [hlv] at e
  injection e with e1 e2 e3
  subst e1 e3 hlv
  generalize L.l[j] = en at *
  have w1 : IntKind.u64.wrap (x - L.i) = (j : Int) + 1 := by rw [IntKind.wrap_u64]; omega
  have w2 : IntKind.u64.wrap ((j : Int) + 1 - 1) = (j : Int) := by rw [IntKind.wrap_u64]; omega
  have w3 : (0 : Int) ≤ (j : Int) := by omega
  have w4 : (j : Int) < (L.l.length : Int) := by omega
  replace hj := Lib.hid hj
  replace hjl := Lib.hid hjl
  replace c3 := Lib.hid c3
  clear h ok hlast hen
  go_enter Try.func30, Try.ntmps30
  go_wp2_with fail
  refine C1.out.mono ?_
  rintro y wA ⟨rfl, hb⟩
  have hq := (cell_below hb q0).trans q0
  have hq1 := (cell_below hb q1).trans q1
  have hq3 := (cell_below hb q3).trans q3
  have hg1 := (cell_below hb g1).trans g1
  go_wp2_with fail
  refine (C2.out _ hb).mono ?_
  rintro y wB ⟨rfl, rfl⟩
  go_wp2_with fail
  go_quiet (fail)
  go_wp2_with fail
  go_ret2
  exact ⟨rfl, below_drewN hb _⟩
end Go.Proofs.Ytkjfplkbgooflaa
