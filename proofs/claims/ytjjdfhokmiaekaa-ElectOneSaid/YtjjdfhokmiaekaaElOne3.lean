/-
  The walk of ElectOne.
-/
import Derived.Test.YtjjdfhokmiaekaaElOne2
import Derived.Test.YtjjdfhokmiaekaaBits
import Derived.Test.YtjjdfhokmiaekaaElTells
import Derived.Deep.DeepCutAuto
import Derived.StillTailTactics
namespace Go.Proofs.Ytjjdfhokmiaekaa
open Go.RowKit Go.Lst Go.Lx

def QAsk (_ : World) (cs : List Value) : Prop := ∃ f t m y, cs = [.int .i64 f, .int .i64 t, .int .u64 m, .bool y] ∧ (Lit.int .u64 m).wf = true ∧ (Lit.int .i64 f).wf = true ∧ (Lit.int .i64 t).wf = true
def QEnd (_ : World) (cs : List Value) : Prop := ∃ i t k s p n c, cs = [.int .u64 i, .int .u64 t, .int .u8 k, .string s, .slice p n c]
theorem infoVote : ∃ i, Try.prog.info? 53 = some i ∧ i.zero = some (.agg #[.int .u64 0, .int .i64 0]) ∧ i.size = 2 ∧ i.bytes = 16 := by
  obtain ⟨i, hi, h⟩ := Option.map_eq_some_iff.1 (show (Try.prog.info? 53).map (fun i => (i.zero, i.size, i.bytes)) = some (some (.agg #[.int .u64 0, .int .i64 0]), 2, 16) by kernel_rfl)
  simp only [Prod.mk.injEq] at h
  exact ⟨i, hi, h⟩
theorem infoPT : ∃ i, Try.prog.info? 71 = some i ∧ i.zero = some (.pointer none) ∧ i.size = 1 ∧ i.bytes = 8 := by
  obtain ⟨i, hi, h⟩ := Option.map_eq_some_iff.1 (show (Try.prog.info? 71).map (fun i => (i.zero, i.size, i.bytes)) = some (some (.pointer none), 1, 8) by kernel_rfl)
  simp only [Prod.mk.injEq] at h
  exact ⟨i, hi, h⟩
theorem El.start {w1 w2 w3 w4 : World} {conf : List Int} {t1 t2 t3 : TypeId} (o2 : w2.ownsRow w1.heap.size t1 2 (.slice (some ⟨w1.heap.size, 0, none⟩) conf.length conf.length) conf.length (madeCells (Value.agg #[.int .u64 0, .int .i64 0]).cells (conf.length * 2)).toList)
    (o3 : w3.ownsRow w2.heap.size t2 1 (.slice (some ⟨w2.heap.size, 0, none⟩) conf.length conf.length) conf.length (madeCells (Value.pointer none).cells (conf.length * 1)).toList)
    (o4 : w4.ownsRow w3.heap.size t3 1 (.slice (some ⟨w3.heap.size, 0, none⟩) conf.length conf.length) conf.length (madeCells (Value.int .u64 0).cells (conf.length * 1)).toList)
    (g2 : w1.grownBy w2 none) (g3 : w2.grownBy w3 none) (g4 : w3.grownBy w4 none) :
    El w4 w1.heap.size w2.heap.size w3.heap.size w4.heap.size conf (fun _ => (0, 0)) (fun _ => 0) (fun _ => none) (fun _ => []) ∧ Below w1.heap.size w1 w4 := by
  have h2 := (Arr.made (f := vf fun _ => (0, 0)) o2 (fun i hi => by
    unfold vf
    rcases Nat.mod_two_eq_zero_or_one i with e | e
    · simp [Value.cells, e]
    · simp [Value.cells, e])).1
  have h3 := (Arr.made (f := kf fun _ => none) o3 (fun i hi => by simp [Value.cells, kf, Nat.mod_one])).1
  have h4 := (Arr.made (f := tf fun _ => 0) o4 (fun i hi => by simp [Value.cells, tf, Nat.mod_one])).1
  rw [Nat.mul_one] at h3 h4
  have e2 := h2.lt; have e3 := h3.lt; have e4 := h4.lt
  have b3 : ∀ k, k < w2.heap.size → w3.heap[k]? = w2.heap[k]? := fun k hk => g3.block k hk (by simp)
  have b4 : ∀ k, k < w3.heap.size → w4.heap[k]? = w3.heap[k]? := fun k hk => g4.block k hk (by simp)
  have s3 := g3.size; have s4 := g4.size; have s2 := g2.size
  refine ⟨⟨inv_start _ _ _, (h2.keep (b3 _ e2)).keep (b4 _ (by omega)), h3.keep (b4 _ e3), h4, fun k _ h => absurd rfl h, fun k lo b h => (by cases h), fun k _ => rfl, fun k k' lo b lo' b' _ h => (by cases h), by omega, by omega, by omega, by omega, by omega, by omega⟩, ?_⟩
  exact (((Below.refl w1.heap.size w1).grown g2 (Nat.le_refl _) (fun k e => by cases e)).grown g3 s2 (fun k e => by cases e)).grown g4 (by omega) (fun k e => by cases e)

theorem stand_at {conf : List Int} (hm : may conf = true) {who : Nat} (hw : who < conf.length) {term : Int} (t1 : 1 ≤ term) (t2 : term ≤ 20) (W : World) :
    Calls Try.prog 25 #[.agg #[.int .u64 (term - 1), .int .i64 0], .int .i64 (conf.getD who 0)] W fun e w' => e = .returned (.tuple #[.agg #[.int .u64 term, .int .i64 (conf.getD who 0)], .int .i64 0]) ∧ Below W.heap.size W w' := by
  have h := Stand_calls (term - 1, 0) (conf.getD who 0) W (by dsimp only; omega)
  obtain ⟨-, c1, c2⟩ := conf_at hm hw
  have hv : mayVote (term - 1) 0 = true := by unfold mayVote; rw [decide_eq_true_eq]; exact ⟨by omega, by omega, by omega, .inr rfl⟩
  dsimp only at h
  rw [if_neg (fun hh => hh.elim (fun e => by rw [hv] at e; cases e) (fun hh => by omega)), if_neg (by omega)] at h
  dsimp only [vv] at h
  rw [Int.sub_add_cancel] at h
  exact h
theorem grant_at {conf : List Int} {V : Nat → Int × Int} {T : Nat → Int} {S : Nat → List Nat} (hm : may conf = true) (h : OneInv conf.length conf V T S) {who tg : Nat} (hw : who < conf.length) (ht : tg < conf.length) {term : Int} (h1 : 1 ≤ term) (h2 : term ≤ 20) (i t i' t' : Int) (W : World) :
    Calls Try.prog 23 #[.agg #[.int .u64 (V tg).1, .int .i64 (V tg).2], .int .u64 term, .int .i64 (conf.getD who 0), .agg #[.int .u64 i, .int .u64 t, .int .u8 0, .string ⟨#[]⟩, .slice none 0 0], .agg #[.int .u64 i', .int .u64 t', .int .u8 0, .string ⟨#[]⟩, .slice none 0 0]] W
      fun e w' => e = .returned (.tuple #[.agg #[.int .u64 (grant (V tg) term (conf.getD who 0) i t i' t').1.1, .int .i64 (grant (V tg) term (conf.getD who 0) i t i' t').1.2], .bool (grant (V tg) term (conf.getD who 0) i t i' t').2, .int .i64 0]) ∧ Below W.heap.size W w' := by
  obtain ⟨v1, v2, v3, v4, v5⟩ := h.vt tg ht
  obtain ⟨-, c1, c2⟩ := conf_at hm hw
  refine Grant_good (V tg) term (conf.getD who 0) i t i' t' (.int .u8 0, .string ⟨#[]⟩, .slice none 0 0) (.int .u8 0, .string ⟨#[]⟩, .slice none 0 0) W v1 ?_
  unfold mayGrant mayVote
  rw [Bool.and_eq_true, decide_eq_true_eq, decide_eq_true_eq]
  exact ⟨⟨by omega, by omega, by omega, v5⟩, by omega, by omega, by omega, by omega⟩
def endc (i t : Int) : List Value := [.int .u64 i, .int .u64 t, .int .u8 0, .string ⟨#[]⟩, .slice none 0 0]
theorem set4_size (w : World) (a b c d : Addr) (x y z u : Value) : ((((w.setCell a x).setCell b y).setCell c z).setCell d u).heap.size = w.heap.size := by simp
theorem set2_size (w : World) (a b : Addr) (x y : Value) : ((w.setCell a x).setCell b y).heap.size = w.heap.size := by simp
theorem and_low (f : Int) (n : Nat) (hn : 0 < n) : ∃ j : Nat, j < n ∧ (Go.bits .and .i64 f 65535).tmod (n : Int) = (j : Int) := by
  obtain ⟨x, hx⟩ : ∃ x : Nat, Go.bits .and .i64 f 65535 = (x : Int) := by
    refine ⟨(BitVec.ofInt 64 f &&& BitVec.ofInt 64 65535).toNat, ?_⟩
    have hl : (BitVec.ofInt 64 f &&& BitVec.ofInt 64 65535).toNat ≤ 65535 := by rw [BitVec.toNat_and]; exact Nat.le_trans Nat.and_le_right (by decide)
    exact IntWalk.i64_in (((BitVec.ofInt 64 f &&& BitVec.ofInt 64 65535).toNat : Nat) : Int) (by omega)
  refine ⟨x % n, Nat.mod_lt _ hn, ?_⟩
  rw [hx, Int.tmod_eq_emod_of_nonneg (by omega)]; rfl
set_option maxRecDepth 100000 in
set_option maxHeartbeats 40000000 in
theorem one_good (conf : List Int) (ca : Addr) (cc : Nat) (ev av : Value) (en an : Nat) (w : World) (hc : Nums .i64 w (.slice (some ca) conf.length cc) conf) (he : Recs 5 QEnd w ev en) (ha : Recs 4 QAsk w av an) (hm : may conf = true) (hl : en ≤ 100 ∧ an ≤ 200) :
    Calls Try.prog 6 #[.slice (some ca) conf.length cc, ev, av] w fun e w' => e = .returned (.bool true) ∧ Below w.heap.size w w' := by
  have C1 := Lib.hid (rMayConf_calls (.slice (some ca) conf.length cc) conf w hc)
  rw [hm] at C1
  obtain ⟨ep, ec, rfl, e1, e2, he3⟩ := he
  obtain ⟨ap, ac, rfl, a1, a2, ha3⟩ := ha
  obtain ⟨l1, l2⟩ := hl
  obtain ⟨f1, f2, f3, f4⟩ := may_facts hm
  have k1 : (en : Int) ≤ 100 := by omega
  have k2 : (an : Int) ≤ 200 := by omega
  have hB := Lib.hid (Below.refl w.heap.size w)
  obtain ⟨_, _, e, c1, c2, hcell⟩ := hc.parts
  injection e with e _ e'
  subst e e'
  have hC := Lib.hid hc
  have hcell0 := Lib.hid (fun i h => by obtain ⟨a, ha, hh⟩ := hcell i h; cases ha; exact hh : ∀ i, i < conf.length → w.cell? (ca.add i) = some (.int .i64 (conf.getD i 0)))
  obtain ⟨iv, hv0, hv1, hv2, hv3⟩ := infoVote
  obtain ⟨ip, hp0, hp1, hp2, hp3⟩ := infoPT
  obtain ⟨iu, hu0, hu1, hu2, hu3⟩ := info_parts infoU64
  have n7 : conf.length ≤ 7 := f4
  have n1 : 1 ≤ conf.length := f3
  have b16 : iv.bytes * conf.length ≤ 281474976710656 := by rw [hv3]; omega
  have b8 : ip.bytes * conf.length ≤ 281474976710656 := by rw [hp3]; omega
  have b9 : iu.bytes * conf.length ≤ 281474976710656 := by rw [hu3]; omega
  have n3 : conf.length ≤ maxLen := by unfold maxLen; omega
  replace he3 := Lib.hid he3
  replace ha3 := Lib.hid ha3
  replace e1 := Lib.hid e1
  replace e2 := Lib.hid e2
  replace a1 := Lib.hid a1
  replace a2 := Lib.hid a2
  replace l1 := Lib.hid l1
  replace l2 := Lib.hid l2
  replace f1 := Lib.hid f1
  replace f2 := Lib.hid f2
  replace c1 := Lib.hid c1
  replace c2 := Lib.hid c2
  replace hm := Lib.hid hm
  replace n7 := Lib.hid n7
  replace n1 := Lib.hid n1
  replace b16 := Lib.hid b16
  replace b8 := Lib.hid b8
  replace b9 := Lib.hid b9
  replace n3 := Lib.hid n3
  clear hc hcell f3 f4
  go_enter Try.func6, Try.ntmps6
  go_wp2_with fail
  refine C1.out.mono ?_
  rintro e w1 ⟨rfl, hb⟩
  replace hb : Below w.heap.size w w1 := Lx.bstep (by repeat (first | exact Below.refl _ _ | exact Lx.Ext.below _ | refine Below.drew ?_ | refine below_drewN ?_ _ | (refine Below.alloc ?_ (by first | exact Nat.le_refl _ | (simp; done) | (simp; omega)) _) | (refine Below.setCell ?_ (by first | exact Nat.le_refl _ | (simp; done) | (simp; omega)) _))) (Nat.le_refl _) hb
  replace hB := Lib.hid (Lx.bstep hB.out (Nat.le_refl _) hb)
  clear hb
  clear C1
  go_wp2_with (first
    | (refine wpList_make_full _ rfl (.tmp 40) (.tmp 40) 83 rfl w1.heap.size 53 iv _ 2 Try.underlying83 hv0 hv1 hv2 .i64 .i64 _ _ conf.length rfl rfl rfl rfl b16.out n3.out (Nat.le_refl _) ?_; intro w2 own2 grow2; replace own2 := Lib.hid own2; replace grow2 := Lib.hid grow2)
    | (refine wpList_make_full _ rfl (.tmp 43) (.tmp 43) 84 rfl w2.heap.size 71 ip _ 1 Try.underlying84 hp0 hp1 hp2 .i64 .i64 _ _ conf.length rfl rfl rfl rfl b8.out n3.out (Nat.le_refl _) ?_; intro w3 own3 grow3; replace own3 := Lib.hid own3; replace grow3 := Lib.hid grow3)
    | (refine wpList_make_full _ rfl (.tmp 46) (.tmp 46) 48 rfl w3.heap.size 32 iu _ 1 Try.underlying48 hu0 hu1 hu2 .i64 .i64 _ _ conf.length rfl rfl rfl rfl b9.out n3.out (Nat.le_refl _) ?_; intro w4 own4 grow4; replace own4 := Lib.hid own4; replace grow4 := Lib.hid grow4))
  obtain ⟨hE, hb⟩ := El.start own2.out own3.out own4.out grow2.out grow3.out grow4.out
  have hlo : w.heap.size ≤ w1.heap.size ∧ w.heap.size ≤ w2.heap.size ∧ w.heap.size ≤ w3.heap.size := by have := hB.out.size; have := grow2.out.size; have := grow3.out.size; omega
  replace hlo := Lib.hid hlo
  clear own2 own3 own4 grow2 grow3 grow4 b16 b8 b9 n3 hv0 hv1 hv2 hv3 hp0 hp1 hp2 hp3 hu0 hu1 hu2 hu3
  replace hb : Below w1.heap.size w1 w4 := Lx.bstep (by repeat (first | exact Below.refl _ _ | exact Lx.Ext.below _ | refine Below.drew ?_ | refine below_drewN ?_ _ | (refine Below.alloc ?_ (by first | exact Nat.le_refl _ | (simp; done) | (simp; omega)) _) | (refine Below.setCell ?_ (by first | exact Nat.le_refl _ | (simp; done) | (simp; omega)) _))) (Nat.le_refl _) hb
  replace hB := Lib.hid (Lx.bstep hB.out (Nat.le_refl _) hb)
  clear hb
  generalize w1.heap.size = vb at *
  generalize w2.heap.size = tb at *
  generalize w3.heap.size = mb at *
  obtain ⟨hi, hhi⟩ : ∃ hi, w4.heap.size = hi := ⟨_, rfl⟩
  rw [hhi] at hE
  replace hE := Lib.hid hE
  replace hhi := Lib.hid hhi
  go_loopg [10] (an + 1) (fun k v10 wr => ∃ (i : Nat) (V : Nat → Int × Int) (T : Nat → Int) (K : Nat → Option (Nat × Nat)) (S : Nat → List Nat), v10 = .int .i64 (i : Int) ∧ i ≤ an ∧ an < i + k ∧ El wr vb tb mb hi conf V T K S ∧ Below w.heap.size w wr ∧ hi ≤ wr.heap.size)
  case atStart => exact ⟨0, _, _, _, _, rfl, by omega, by omega, hE.out, hB.out, Nat.le_of_eq hhi.out.symm⟩
  case round =>
    clear hE hB hhi
    obtain ⟨i, V, T, K, S, rfl, hile, hfuel, hE, hb, hz⟩ := hrel
    cases gk with
    | zero => omega
    | succ k =>
    have hcell := Lib.hid (fun i h => (cell_below hb (hcell0.out i h)).trans (hcell0.out i h))
    replace hb := Lib.hid hb
    replace hz := Lib.hid hz
    by_cases hlt : i < an
    · have hlt1 : (i : Int) < (an : Int) := by omega
      have h0i : (0 : Int) ≤ (i : Int) := by omega
      obtain ⟨aa, cs, rfl, hcs, ⟨f, t, m, y, rfl, hmw, hfw, htw⟩, hcellA⟩ := ha3.out i hlt
      have g0 := hcellA 0 (by omega)
      have g1 := hcellA 1 (by omega)
      have g2 := hcellA 2 (by omega)
      have g3 := hcellA 3 (by omega)
      simp only [List.getElem?_cons_zero, List.getElem?_cons_succ] at g0 g1 g2 g3
      rw [Nat.add_zero] at g0
      rw [← Lst.add_add] at g1 g2 g3
      have g3w : w.cell? ⟨(aa.add (i * 4)).block, (aa.add (i * 4)).off + 3, none⟩ = some (.bool y) := g3
      replace g0 := (cell_below hb.out g0).trans g0
      replace g1 := (cell_below hb.out g1).trans g1
      replace g2 := (cell_below hb.out g2).trans g2
      replace g3 := (cell_below hb.out g3).trans g3
      clear hcellA hcs
      obtain ⟨who, hwho, W1⟩ := and_low f conf.length n1.out
      obtain ⟨tg, htg, W2⟩ := and_low t conf.length n1.out
      have hne : ¬ conf = [] := fun e => by rw [e] at hwho; cases hwho
      replace g1 : wr.cell? ⟨(aa.add (i * 4)).block, (aa.add (i * 4)).off + 1, none⟩ = some (.int .i64 t) := g1
      replace g2 : wr.cell? ⟨(aa.add (i * 4)).block, (aa.add (i * 4)).off + 2, none⟩ = some (.int .u64 m) := g2
      replace g3 : wr.cell? ⟨(aa.add (i * 4)).block, (aa.add (i * 4)).off + 3, none⟩ = some (.bool y) := g3
      obtain ⟨term, W3, t1, t2⟩ : ∃ term : Int, IntKind.u64.wrap (m.tmod 20 + 1) = term ∧ 1 ≤ term ∧ term ≤ 20 := by
        have := (Lx.wf_u64 hmw).1
        have e : m.tmod 20 = m % 20 := Int.tmod_eq_emod_of_nonneg this
        refine ⟨m % 20 + 1, ?_, by omega, by omega⟩
        rw [e, IntKind.wrap_u64]; omega
      have c0 : wr.cell? ⟨mb, who, none⟩ = some (.int .u64 (T who)) := hE.am.cell hwho
      have hwi : (0 : Int) ≤ (who : Int) := by omega
      replace hE := Lib.hid hE
      have hwj : (who : Int) < (conf.length : Int) := by omega
      have hG3 := Lib.hid g3w
      replace htw := Lib.hid htw
      replace hfw := Lib.hid hfw
      replace hmw := Lib.hid hmw
      go_upto_region 9 with (fail)
      refine wp_region_quiet_lit (by kernel_rfl) (by kernel_rfl) ?_
      repeat (first | go_big_quiet_step (fail) | quiet_step (fail))
      refine wpQuiet_nil ?_
      intro _ hw'
      obtain ⟨nq, hw''⟩ := hw'
      subst hw''
      clear g0 g1 W1 W2
      go_upto_if 84 with (fail)
      go_cut [] (fun wx => ∃ V T K S, El wx vb tb mb hi conf V T K S ∧ T who = term ∧ Below w.heap.size w wx ∧ hi ≤ wx.heap.size)
      case first => as_aux_lemma =>
        have hBn := Lib.hid (below_drewN hb.out nq)
        have hEn := Lib.hid (hE.out.below (below_drewN (Below.refl _ _) nq))
        by_cases hst : T who = term
        · have hst1 : (T who != term) = false := by simp [hst]
          replace hst := Lib.hid hst
          go_wp2_with fail
          go_meet
          exact ⟨V, T, K, S, hEn.out, hst.out, hBn.out, hz.out⟩
        · have hst1 : (T who != term) = true := by simpa using hst
          by_cases hgo : term ≤ (V who).1 ∨ term ≤ T who
          · have c1 : wr.cell? ⟨vb, who * 2, none⟩ = some (.int .u64 (V who).1) := by
              have := hE.out.av.cell (i := who * 2) (by omega); rwa [vf_even] at this
            replace hst := Lib.hid hst
            by_cases hg1 : term ≤ (V who).1
            · clear hgo
              go_wp2_with fail
              go_roundg k
              case measure => omega
              case rel => exact ⟨i + 1, V, T, K, S, by first | rfl | go_num, by omega, by omega, hEn.out, hBn.out, hz.out⟩
            · replace hgo : term ≤ T who := by omega
              go_wp2_with fail
              go_roundg k
              case measure => omega
              case rel => exact ⟨i + 1, V, T, K, S, by first | rfl | go_num, by omega, by omega, hEn.out, hBn.out, hz.out⟩
          · have hg1 : decide (term ≤ (V who).1) = false := by simp; omega
            have hg2 : decide (term ≤ T who) = false := by simp; omega
            have hvw := Lib.hid (show (V who).1 < term by omega)
            have CS := Lib.hid (stand_at hm.out hwho t1 t2)
            have c1 : wr.cell? ⟨vb, who * 2, none⟩ = some (.int .u64 (V who).1) := by
              have := hE.out.av.cell (i := who * 2) (by omega); rwa [vf_even] at this
            have c2 := hcell.out who hwho
            obtain ⟨cw, hcw⟩ : ∃ cw, conf.getD who 0 = cw := ⟨_, rfl⟩
            rw [hcw] at c2 CS
            replace hcw := Lib.hid hcw
            have W4 : IntKind.u64.wrap (term - 1) = term - 1 := by rw [IntKind.wrap_u64]; omega
            clear hst hgo
            go_wp2_with fail
            ((with_reducible refine (CS.out _).mono ?_); rintro e w5 ⟨rfl, hb5⟩)
            have hC5 := Lib.hid ((hC.out.below hBn.out).below hb5)
            have hE5 := Lib.hid (hEn.out.below hb5)
            have hB5 := Lib.hid (Lx.bstep hBn.out (Nat.le_refl _) hb5)
            have c2' := hcell0.out who hwho
            rw [hcw.out] at c2'
            replace c2' := Lib.hid c2'
            replace hb5 := Lib.hid hb5
            clear c0 c1 c2 W4 hEn hBn hE hcell
            have hm5 := made1 w5 #[.int .u64 term, .int .i64 cw] 53
            dsimp only at hm5
            go_wp2_with fail
            generalize hB5e : w5.heap.size = b5 at *
            generalize (w5.alloc (.cells #[.int .u64 term, .int .i64 cw] 53)) = w6 at *
            obtain ⟨h5v, hb6, h56⟩ := hm5
            rw [← hB5e] at hb6
            have hlt5 := h5v.lt
            replace hC5 := Lib.hid (hC5.out.below hb6)
            replace hE5 := Lib.hid (hE5.out.below hb6)
            replace hB5 := Lib.hid (Lx.bstep hB5.out (Nat.le_refl _) hb6)
            replace h5v := Lib.hid h5v
            replace hb6 := Lib.hid hb6
            replace h56 := Lib.hid h56
            replace hB5e := Lib.hid hB5e
            replace hlt5 := Lib.hid hlt5
            ((with_reducible refine (NewTallyL_calls _ _ _ _ hC5.out ⟨by omega, by omega⟩ hm.out).mono ?_); rintro e w7 ⟨b, rfl, hb0, hTal, hb7⟩)
            have hbd := Lib.hid hE5.out.bound
            have hs6 := Lib.hid (Nat.le_trans hB5.out.size hb0)
            have hE7 := Lib.hid (hE5.out.below hb7)
            have hB7 := Lib.hid (Lx.bstep hB5.out (Nat.le_refl _) hb7)
            replace h5v := Lib.hid (h5v.out.below hb7)
            replace hTal := Lib.hid hTal
            replace hb0 := Lib.hid hb0
            replace hb7 := Lib.hid hb7
            clear hC5 hE5 hB5
            have ⟨v0, v1, v2, v3⟩ := h5v.out.c2
            have c2 := (cell_below hB7.out c2'.out).trans c2'.out
            go_upto_region 15 with (fail)
            refine wp_region_quiet_lit (by kernel_rfl) (by kernel_rfl) ?_
            repeat (first | go_big_quiet_step (fail) | quiet_step (fail))
            refine wpQuiet_nil ?_
            intro _ hw'
            obtain ⟨nr, hw''⟩ := hw'
            subst hw''
            have hE8 := Lib.hid (hE7.out.below (below_drewN (Below.refl _ _) nr))
            have hT8 := Lib.hid (hTal.out.below (below_drewN (Below.refl _ _) nr))
            have hB8 := Lib.hid (below_drewN hB7.out nr)
            have a0 := hE7.out.av.cell (i := who * 2) (by omega)
            have a1 := hE7.out.av.cell (i := who * 2 + 1) (by omega)
            have a2 := hE7.out.ak.cell hwho
            have a3 := hE7.out.am.cell hwho
            have f0 := hE7.out.av.frz (who * 2)
            have f1 := hE7.out.av.frz (who * 2 + 1)
            have f2 := hE7.out.ak.frz who
            have f3 := hE7.out.am.frz who
            obtain ⟨-, -, -, o4, o5, o6⟩ := hE7.out.off
            have o4' := Ne.symm o4; have o5' := Ne.symm o5; have o6' := Ne.symm o6
            have hW := Lib.hid (hE8.out.stand hm.out hwho t1 t2 hvw.out hT8.out (Nat.le_trans (Nat.le_trans hz.out hb5.out.size) hb6.out.size) hbd.out)
            rw [hcw.out] at hW
            have hBW := Lib.hid ((((hB8.out.setCell (p := ⟨vb, who * 2, none⟩) hlo.out.1 (.int .u64 term)).setCell (p := ⟨vb, who * 2 + 1, none⟩) hlo.out.1 (.int .i64 cw)).setCell (p := ⟨tb, who, none⟩) hlo.out.2.1 (.pointer (some ⟨b, 0, none⟩))).setCell (p := ⟨mb, who, none⟩) hlo.out.2.2 (.int .u64 term))
            have c3 := (cell_below hBW.out c2'.out).trans c2'.out
            have hzW : hi ≤ (((((w7.drewN nr).setCell ⟨vb, who * 2, none⟩ (.int .u64 term)).setCell ⟨vb, who * 2 + 1, none⟩ (.int .i64 cw)).setCell ⟨tb, who, none⟩ (.pointer (some ⟨b, 0, none⟩))).setCell ⟨mb, who, none⟩ (.int .u64 term)).heap.size := by
              rw [set4_size]; exact Nat.le_trans (Nat.le_trans (Nat.le_trans hz.out hb5.out.size) hb6.out.size) hb7.out.size
            replace hzW := Lib.hid hzW
            go_wp2_with fail
            ((with_reducible refine (VoteL_calls _ _ _ _ _ _ _ _ _ hW.out.1).mono ?_); rintro e w9 ⟨rfl, hT9, hg9⟩)
            have hE9 := Lib.hid (hW.out.2 w9 hT9 hg9)
            have hB9 := Lib.hid (hBW.out.grown hg9 hBW.out.size (fun k e => by cases e; exact hs6.out))
            have hz9 := Lib.hid (Nat.le_trans hzW.out hg9.size)
            clear hW hBW hT9 hg9 hzW
            go_wp2_with fail
            go_meet
            exact ⟨_, _, _, _, hE9.out, upd_same _ _ _, hB9.out, hz9.out⟩
      case rest => as_aux_lemma =>
      clear hE hb hz c0 hcell
      obtain ⟨V, T, K, S, hE, hst, hb, hz⟩ := hcut
      generalize wc = wb at *
      obtain ⟨lo, b, hK, hTal⟩ := hE.tal who hwho (by omega)
      replace hE := Lib.hid hE
      replace hst := Lib.hid hst
      replace hb := Lib.hid hb
      replace hz := Lib.hid hz
      replace hK := Lib.hid hK
      replace hTal := Lib.hid hTal
      by_cases htw2 : tg = who
      · have hx : ((tg : Int) == (who : Int)) = true := by simp [htw2]
        replace htw2 := Lib.hid htw2
        go_wp2_with fail
        go_roundg k
        case measure => omega
        case rel => exact ⟨i + 1, V, T, K, S, by first | rfl | go_num, by omega, by omega, hE.out, hb.out, hz.out⟩
      have hx : ((tg : Int) == (who : Int)) = false := by simp; omega
      replace htw2 := Lib.hid htw2
      go_upto_if 164 with (fail)
      have hm2 := made2 wb #[.int .u64 0, .int .u64 0, .int .u8 0, .string ⟨#[]⟩, .slice none 0 0] #[.int .u64 0, .int .u64 0, .int .u8 0, .string ⟨#[]⟩, .slice none 0 0] 55 55
      dsimp only at hm2
      obtain ⟨bm, hbm⟩ : ∃ bm, wb.heap.size = bm := ⟨_, rfl⟩
      rw [hbm] at hm2
      simp only [hbm]
      generalize ((wb.alloc (.cells #[.int .u64 0, .int .u64 0, .int .u8 0, .string ⟨#[]⟩, .slice none 0 0] 55)).alloc (.cells #[.int .u64 0, .int .u64 0, .int .u8 0, .string ⟨#[]⟩, .slice none 0 0] 55)) = wd at *
      obtain ⟨hM, hL, hwd, -⟩ := hm2
      have hbw := Lib.hid (hb.out.size)
      rw [hbm] at hbw
      replace hM := Lib.hid hM
      replace hL := Lib.hid hL
      replace hwd := Lib.hid hwd
      replace hbm := Lib.hid hbm
      go_cut [] (fun wx => ∃ i' t' : Int, Blk wx bm (endc i' t') ∧ Blk wx (bm + 1) (endc 0 0) ∧ Below bm wb wx)
      case first => as_aux_lemma =>
        by_cases hte : tg < en
        · have hte1 : (tg : Int) < (en : Int) := by omega
          have htg0 : (0 : Int) ≤ (tg : Int) := by omega
          obtain ⟨ea, cs, rfl, hcs, ⟨e0, e1', k0, s0, p0, n0, c0, rfl⟩, hcellE⟩ := he3.out tg hte
          have hbd := Lib.hid (Lx.bstep hb.out (Nat.le_refl _) (by rw [hbm.out]; exact hwd.out))
          have g0 := (cell_below hbd.out (hcellE 0 (by omega))).trans (hcellE 0 (by omega))
          have g1 := (cell_below hbd.out (hcellE 1 (by omega))).trans (hcellE 1 (by omega))
          have g2 := (cell_below hbd.out (hcellE 2 (by omega))).trans (hcellE 2 (by omega))
          have g3 := (cell_below hbd.out (hcellE 3 (by omega))).trans (hcellE 3 (by omega))
          have g4 := (cell_below hbd.out (hcellE 4 (by omega))).trans (hcellE 4 (by omega))
          simp only [List.getElem?_cons_zero, List.getElem?_cons_succ] at g0 g1 g2 g3 g4
          rw [Nat.add_zero] at g0
          rw [← Lst.add_add] at g1 g2 g3 g4
          replace g1 : wd.cell? ⟨(ea.add (tg * 5)).block, (ea.add (tg * 5)).off + 1, none⟩ = _ := g1
          replace g2 : wd.cell? ⟨(ea.add (tg * 5)).block, (ea.add (tg * 5)).off + 2, none⟩ = _ := g2
          replace g3 : wd.cell? ⟨(ea.add (tg * 5)).block, (ea.add (tg * 5)).off + 3, none⟩ = _ := g3
          replace g4 : wd.cell? ⟨(ea.add (tg * 5)).block, (ea.add (tg * 5)).off + 4, none⟩ = _ := g4
          clear hcellE hcs
          go_wp2_with fail
          ((with_reducible refine (end_calls' _ _ _ _ _ _).mono ?_); rintro e w5 ⟨rfl, hb5⟩)
          replace hM := Lib.hid (hM.out.below hb5)
          replace hL := Lib.hid (hL.out.below hb5)
          replace hwd := Lib.hid (Lx.bstep hwd.out (Nat.le_of_eq hbm.out.symm) hb5)
          clear g0 g1 g2 g3 g4 hbd hb5
          obtain ⟨x0, x1, x2, x3, x4, y0, y1, y2, y3, y4⟩ := hM.out.c5
          go_wp2_with fail
          go_meet
          exact ⟨e0, e1', ((((hM.out.put 0 _).put 1 _).put 2 _).put 3 _).put 4 _, ((((hL.out.keep (by omega)).keep (by omega)).keep (by omega)).keep (by omega)).keep (by omega), ((((hwd.out.setCell (Nat.le_refl _) _).setCell (Nat.le_refl _) _).setCell (Nat.le_refl _) _).setCell (Nat.le_refl _) _).setCell (Nat.le_refl _) _⟩
        · have hte1 : decide ((tg : Int) < (en : Int)) = false := by simp; omega
          go_wp2_with fail
          go_meet
          exact ⟨0, 0, hM.out, hL.out, hwd.out⟩
      case rest => as_aux_lemma =>
      obtain ⟨i', t', hM2, hL2, hwd2⟩ := hcut
      clear hM hL hwd
      generalize wc = we at *
      have hM := Lib.hid hM2
      have hL := Lib.hid hL2
      have hwd := Lib.hid hwd2
      clear hM2 hL2 hwd2
      go_upto_if 173 with (fail)
      go_cut [] (fun wx => ∃ i t : Int, Blk wx bm (endc i' t') ∧ Blk wx (bm + 1) (endc i t) ∧ Below bm wb wx)
      case first => as_aux_lemma =>
        by_cases hte : who < en
        · have hte1 : (who : Int) < (en : Int) := by omega
          obtain ⟨ea, cs, rfl, hcs, ⟨e0, e1', k0, s0, p0, n0, c0, rfl⟩, hcellE⟩ := he3.out who hte
          have hbd := Lib.hid (Lx.bstep hb.out (Nat.le_refl _) (by rw [hbm.out]; exact hwd.out))
          have g0 := (cell_below hbd.out (hcellE 0 (by omega))).trans (hcellE 0 (by omega))
          have g1 := (cell_below hbd.out (hcellE 1 (by omega))).trans (hcellE 1 (by omega))
          have g2 := (cell_below hbd.out (hcellE 2 (by omega))).trans (hcellE 2 (by omega))
          have g3 := (cell_below hbd.out (hcellE 3 (by omega))).trans (hcellE 3 (by omega))
          have g4 := (cell_below hbd.out (hcellE 4 (by omega))).trans (hcellE 4 (by omega))
          simp only [List.getElem?_cons_zero, List.getElem?_cons_succ] at g0 g1 g2 g3 g4
          rw [Nat.add_zero] at g0
          rw [← Lst.add_add] at g1 g2 g3 g4
          replace g1 : we.cell? ⟨(ea.add (who * 5)).block, (ea.add (who * 5)).off + 1, none⟩ = _ := g1
          replace g2 : we.cell? ⟨(ea.add (who * 5)).block, (ea.add (who * 5)).off + 2, none⟩ = _ := g2
          replace g3 : we.cell? ⟨(ea.add (who * 5)).block, (ea.add (who * 5)).off + 3, none⟩ = _ := g3
          replace g4 : we.cell? ⟨(ea.add (who * 5)).block, (ea.add (who * 5)).off + 4, none⟩ = _ := g4
          clear hcellE hcs
          go_wp2_with fail
          ((with_reducible refine (end_calls' _ _ _ _ _ _).mono ?_); rintro e w5 ⟨rfl, hb5⟩)
          replace hM := Lib.hid (hM.out.below hb5)
          replace hL := Lib.hid (hL.out.below hb5)
          replace hwd := Lib.hid (Lx.bstep hwd.out (Nat.le_of_eq hbm.out.symm) hb5)
          clear g0 g1 g2 g3 g4 hbd hb5
          obtain ⟨x0, x1, x2, x3, x4, y0, y1, y2, y3, y4⟩ := hL.out.c5
          go_wp2_with fail
          go_meet
          exact ⟨e0, e1', ((((hM.out.keep (by omega)).keep (by omega)).keep (by omega)).keep (by omega)).keep (by omega), ((((hL.out.put 0 _).put 1 _).put 2 _).put 3 _).put 4 _, ((((hwd.out.setCell (Nat.le_succ _) _).setCell (Nat.le_succ _) _).setCell (Nat.le_succ _) _).setCell (Nat.le_succ _) _).setCell (Nat.le_succ _) _⟩
        · have hte1 : decide ((who : Int) < (en : Int)) = false := by simp; omega
          go_wp2_with fail
          go_meet
          exact ⟨0, 0, hM.out, hL.out, hwd.out⟩
      case rest => as_aux_lemma =>
      generalize wc = wf at *
      clear hM hL hwd
      obtain ⟨i0, t0, hM, hL, hwd⟩ := hcut
      have hwb := Lib.hid (show Below wb.heap.size wb wf by rw [hbm.out]; exact hwd)
      have hEf := Lib.hid (hE.out.below hwb.out)
      have hBf := Lib.hid (Lx.bstep hb.out (Nat.le_refl _) hwb.out)
      have hzf := Lib.hid (Nat.le_trans hz.out hwb.out.size)
      have CG := Lib.hid (grant_at hm.out hE.out.inv hwho htg t1 t2 i0 t0 i' t')
      have GF := Lib.hid (grant_facts (V tg) term (conf.getD who 0) i0 t0 i' t')
      have IG := Lib.hid (inv_grant hm.out hE.out.inv hwho htg (by exact hTal.out.t.few) t1 t2 hst.out i0 t0 i' t')
      obtain ⟨⟨⟨G1, G2⟩, y'⟩, hG⟩ : ∃ G, grant (V tg) term (conf.getD who 0) i0 t0 i' t' = G := ⟨_, rfl⟩
      rw [hG] at CG GF IG
      dsimp only at CG GF IG
      clear hG
      have c3 := hcell0.out who hwho
      have c3 := fun x : Ext wf => (cell_below (Lx.bstep hBf.out (Nat.le_refl _) x.below) c3).trans c3
      obtain ⟨cw, hcw⟩ : ∃ cw, conf.getD who 0 = cw := ⟨_, rfl⟩
      rw [hcw] at CG GF
      simp only [hcw] at c3
      have a0 : ∀ x : Ext wf, x.wo.cell? ⟨vb, tg * 2, none⟩ = some (.int .u64 (V tg).1) := fun x => by have := (hEf.out.below x.below).av.cell (i := tg * 2) (by omega); rwa [vf_even] at this
      have a1 : ∀ x : Ext wf, x.wo.cell? ⟨vb, tg * 2 + 1, none⟩ = some (.int .i64 (V tg).2) := fun x => by have := (hEf.out.below x.below).av.cell (i := tg * 2 + 1) (by omega); rwa [vf_odd] at this
      have m01 := fun x : Ext wf => (hM.below x.below).c5
      have l01 := fun x : Ext wf => (hL.below x.below).c5
      have m0 := fun x : Ext wf => (m01 x).1; have m1 := fun x : Ext wf => (m01 x).2.1; have m2 := fun x : Ext wf => (m01 x).2.2.1; have m3 := fun x : Ext wf => (m01 x).2.2.2.1; have m4 := fun x : Ext wf => (m01 x).2.2.2.2.1
      have l0 := fun x : Ext wf => (l01 x).1; have l1 := fun x : Ext wf => (l01 x).2.1; have l2 := fun x : Ext wf => (l01 x).2.2.1; have l3 := fun x : Ext wf => (l01 x).2.2.2.1; have l4 := fun x : Ext wf => (l01 x).2.2.2.2.1
      have htg0 : (0 : Int) ≤ (tg : Int) := by omega
      have htg1 : (tg : Int) < (conf.length : Int) := by omega
      clear m01 l01 hwd
      replace hM := Lib.hid hM
      replace hL := Lib.hid hL
      replace hcw := Lib.hid hcw
      replace hE := Lib.hid hE
      replace hb := Lib.hid hb
      replace hz := Lib.hid hz
      go_upto_region 27 with (fail)
      refine Lx.wp_region_chain_lit (fun w' => ∃ x : Lx.Ext wf, w' = x.wo) (fun b => wf.heap.size ≤ b) [11, 17] [16] (fun _ => True) (by kernel_rfl) (by kernel_rfl) (by kernel_rfl) (by kernel_rfl) Lx.ext_drew trivial ?_
      repeat (refine Lx.wpCh_one (by rfl) (by rfl) ?_; go_big_quiet_step (fail); refine wpQuiet_nil ?_)
      refine Lx.wpCh_extp (.tuple #[.agg #[.int .u64 G1, .int .i64 G2], .bool y', .int .i64 0]) (by rfl) (by rfl) (fun x R hR => ?_) ?_
      · go_simp
        refine (CG.out x.wo).mono ?_
        rintro e w'' ⟨rfl, hb⟩
        exact ⟨_, rfl, hR _ hb⟩
      go_big_quiet_step (fail)
      refine wpQuiet_nil ?_
      repeat (refine Lx.wpCh_one (by rfl) (by rfl) ?_; go_big_quiet_step (fail); refine wpQuiet_nil ?_)
      refine Lx.wpCh_freshp (.cells #[.int .u64 0, .int .i64 0] 53) (by rfl) (by rfl) (fun _ _ _ => trivial) Lx.ext_ne Lx.ext_grows (fun w ⟨x, hx⟩ => by subst hx; exact x.below.size) (fun w => by go_simp) (fun b20 hb20 => ?_)
      go_big_quiet_step (fail)
      refine wpQuiet_nil ?_
      clear m0 m1 m2 m3 m4 l0 l1 l2 l3 l4
      refine Lx.wpCh_valp undef (fun w => Blk w b20 [.int .u64 G1, .int .i64 G2]) (by rfl) (by rfl) (fun _ => grows_and grows_true grows_block) Lx.ext_ne (fun w hx hS R hR => ?_) ?_
      · obtain ⟨x, rfl⟩ := hx
        have hb0 : Blk x.wo b20 [.int .u64 0, .int .i64 0] := ⟨_, hS.2⟩
        clear hS
        have ⟨q0, q1, q2, q3⟩ := hb0.c2
        replace hb0 := Lib.hid hb0
        go_simp
        exact hR _ ⟨⟨_, (x.below.setCell hb20 _).setCell hb20 _⟩, rfl⟩ ((hb0.out.put 0 _).put 1 _) (fun h => by cases h)
      go_big_quiet_step (fail)
      refine wpQuiet_nil ?_
      repeat (refine Lx.wpCh_one (by rfl) (by rfl) ?_; go_big_quiet_step (fail); refine wpQuiet_nil ?_)
      refine Lx.wpCh_nil ?_
      intro wg hx hV20
      obtain ⟨x, rfl⟩ := hx
      have hxb := x.below
      generalize x.wo = wg at *
      clear x a0 a1 c3 CG
      have hEg := Lib.hid (hEf.out.below hxb)
      have hBg := Lib.hid (Lx.bstep hBf.out (Nat.le_refl _) hxb)
      have hzg := Lib.hid (Nat.le_trans hzf.out hxb.size)
      replace hM := Lib.hid (hM.out.below hxb)
      replace hL := Lib.hid (hL.out.below hxb)
      have hne20 := Lib.hid (show w.heap.size ≤ b20 by have := hBf.out.size; omega)
      have hhi20 := Lib.hid (Nat.le_trans hzf.out hb20)
      replace hV20 := Lib.hid hV20
      replace hb20 := Lib.hid hb20
      clear hEf hBf hzf hxb hwb
      obtain ⟨q0, q1, -, -⟩ := hV20.out.c2
      have a0 : wg.cell? ⟨vb, tg * 2, none⟩ = some (.int .u64 (V tg).1) := by have := hEg.out.av.cell (i := tg * 2) (by omega); rwa [vf_even] at this
      have a1 : wg.cell? ⟨vb, tg * 2 + 1, none⟩ = some (.int .i64 (V tg).2) := by have := hEg.out.av.cell (i := tg * 2 + 1) (by omega); rwa [vf_odd] at this
      go_upto_region 28 with (fail)
      go_cut [234] (fun v234 wx => v234 = .bool false ∧ ∃ n, wx = wg.drewN n)
      case first => as_aux_lemma =>
        have hc : (G1 == (V tg).1) = false ∨ ((G1 == (V tg).1) = true ∧ ((V tg).2 != 0) = false) ∨ ((G1 == (V tg).1) = true ∧ ((V tg).2 != 0) = true ∧ (G2 != (V tg).2) = false) := by
          obtain ⟨g1, g2, -⟩ := GF.out
          by_cases e1 : G1 = (V tg).1
          · by_cases e2 : (V tg).2 = 0
            · exact .inr (.inl ⟨by simp [e1], by simp [e2]⟩)
            · exact .inr (.inr ⟨by simp [e1], by simp [e2], by simp [g2 e1 e2]⟩)
          · exact .inl (by simp [e1])
        have hlt0 : decide (G1 < (V tg).1) = false := by have := GF.out.1; simp; omega
        rcases hc with h1 | ⟨h1, h2⟩ | ⟨h1, h2, h3⟩
        all_goals
          refine wp_region_quiet_lit (by kernel_rfl) (by kernel_rfl) ?_
          repeat (first | go_big_quiet_step (fail) | quiet_step (fail))
          refine wpQuiet_nil ?_
          intro _ hw'
          obtain ⟨nr, hw''⟩ := hw'
          subst hw''
          go_wp2_with fail
          go_meet
          exact ⟨rfl, nr, rfl⟩
      case rest => as_aux_lemma =>
      obtain ⟨rfl, n28, rfl⟩ := hcut
      have nw := fun h => (GF.out.2.2.1 h)
      replace nw := Lib.hid nw
      have c3 := hcell0.out who hwho
      have c3 := (cell_below hBg.out c3).trans c3
      rw [hcw.out] at c3
      obtain ⟨m0, m1, -⟩ := hM.out.c5
      obtain ⟨l0, l1, -⟩ := hL.out.c5
      go_upto_region 30 with (fail)
      go_cut [271] (fun v271 wx => v271 = .bool false ∧ ∃ n, wx = (wg.drewN n28).drewN n)
      case first => as_aux_lemma =>
        cases y' with
        | false =>
          refine wp_region_quiet_lit (by kernel_rfl) (by kernel_rfl) ?_
          repeat (first | go_big_quiet_step (fail) | quiet_step (fail))
          refine wpQuiet_nil ?_
          intro _ hw'
          obtain ⟨nr, hw''⟩ := hw'
          subst hw''
          go_wp2_with fail
          go_meet
          exact ⟨rfl, nr, by first | rfl | (simp; done)⟩
        | true =>
          obtain ⟨e1, e2, e3⟩ := nw.out rfl
          have h1 : (G2 != cw) = false := by simp [e2]
          have h2 : (G1 != term) = false := by simp [e1]
          have h3 : decide (t0 < t') = false ∧ ((t0 == t') = false ∨ ((t0 == t') = true ∧ decide (i0 < i') = false)) := by
            unfold newer at e3
            rw [decide_eq_true_eq] at e3
            rcases e3 with e3 | ⟨e3, e4⟩
            · exact ⟨by simp; omega, .inl (by simp; omega)⟩
            · exact ⟨by simp; omega, .inr ⟨by simp [e3], by simp; omega⟩⟩
          obtain ⟨h3, h4⟩ := h3
          clear e1 e2 e3
          rcases h4 with h4 | ⟨h4, h5⟩
          all_goals
            refine wp_region_quiet_lit (by kernel_rfl) (by kernel_rfl) ?_
            repeat (first | go_big_quiet_step (fail) | quiet_step (fail))
            refine wpQuiet_nil ?_
            intro _ hw'
            obtain ⟨nr, hw''⟩ := hw'
            subst hw''
            go_wp2_with fail
            go_meet
            exact ⟨rfl, nr, by first | rfl | (simp; done)⟩
      case rest => as_aux_lemma =>
      obtain ⟨rfl, n30, rfl⟩ := hcut
      clear m0 m1 l0 l1 c3 hM hL nw
      have fa0 := hEg.out.av.frz (tg * 2)
      have fa1 := hEg.out.av.frz (tg * 2 + 1)
      have hIH := inv_half hm.out hE.out.inv hTal.out.t.few htg IG.out
      have hEh := Lib.hid ((hEg.out.below (below_drewN (Below.refl _ _) (n28 + n30))).store tg G1 G2 hIH)
      have hBh := Lib.hid (((below_drewN hBg.out (n28 + n30)).setCell (p := ⟨vb, tg * 2, none⟩) hlo.out.1 (.int .u64 G1)).setCell (p := ⟨vb, tg * 2 + 1, none⟩) hlo.out.1 (.int .i64 G2))
      have hzh := Lib.hid (show hi ≤ (((wg.drewN (n28 + n30)).setCell ⟨vb, tg * 2, none⟩ (.int .u64 G1)).setCell ⟨vb, tg * 2 + 1, none⟩ (.int .i64 G2)).heap.size by rw [set2_size]; exact hzg.out)
      replace hIH := Lib.hid hIH
      go_upto_region 33 with (fail)
      generalize ((wg.drewN (n28 + n30)).setCell ⟨vb, tg * 2, none⟩ (.int .u64 G1)).setCell ⟨vb, tg * 2 + 1, none⟩ (.int .i64 G2) = wh at *
      clear fa0 fa1 a0 a1 q0 q1 GF
      have hTh : TalL wh lo b term conf (S who) := by
        obtain ⟨lo', b', k1, k2⟩ := hEh.out.tal who hwho (by rw [hst.out]; omega)
        rw [hK.out] at k1; cases k1
        rw [hst.out] at k2; exact k2
      have p0 : wh.cell? ⟨tb, who, none⟩ = some (.pointer (some ⟨b, 0, none⟩)) := by
        have := hEh.out.ak.cell hwho
        unfold kf at this; rw [hK.out] at this; exact this
      have hk2 := hcell0.out tg htg
      have c4 := (cell_below hBh.out hk2).trans hk2
      obtain ⟨cv, hcv⟩ : ∃ cv, conf.getD tg 0 = cv := ⟨_, rfl⟩
      rw [hcv] at c4 IG
      have h2t := vote_twice hm.out (T := term) hTh.t.few htg y' (!y')
      rw [hcv] at h2t
      have hlb := Lib.hid (show w.heap.size ≤ b from Nat.le_trans (Nat.le_trans hlo.out.1 (Nat.le_of_lt hEh.out.off.1)) (Nat.le_trans (hEh.out.up who lo b hK.out) (Nat.le_of_lt hTh.le)))
      replace hTh := Lib.hid hTh
      replace hcv := Lib.hid hcv
      replace hk2 := Lib.hid hk2
      replace h2t := Lib.hid h2t
      go_still_tail 10, (by kernel_rfl)
      change wpList _ _ _ _ _ wh.drew
      have hTd := Lib.hid (hTh.out.below ((Below.refl wh.heap.size wh).drew))
      have hEd := Lib.hid (hEh.out.below ((Below.refl wh.heap.size wh).drew))
      have hBd := Lib.hid hBh.out.drew
      have hzd := Lib.hid (show hi ≤ wh.drew.heap.size from hzh.out)
      generalize wh.drew = wk at *
      clear hTh hEh hBh hzh c4 p0
      go_wp2_with fail
      ((with_reducible refine (VoteL_calls _ _ _ _ _ _ _ _ _ hTd.out).mono ?_); rintro e wl ⟨rfl, hTl, hgl⟩)
      obtain ⟨s1, hs1⟩ : ∃ s1, (vote term conf (S who) cv term y').2 = s1 := ⟨_, rfl⟩
      rw [hs1] at hTl IG h2t
      have hEl := Lib.hid (hEd.out.vote hwho hK.out (by rw [hst.out]; exact hTl) hgl IG.out)
      have hBl := Lib.hid (hBd.out.grown hgl hBd.out.size (fun k e => by cases e; exact hlb.out))
      have hzl := Lib.hid (Nat.le_trans hzd.out hgl.size)
      clear hgl hTd hEd hBd hzd hs1
      replace hTl := Lib.hid hTl
      have g3' := (cell_below hBl.out hG3.out).trans hG3.out
      go_upto_if 291 with (fail)
      go_cut [] (fun wx => El wx vb tb mb hi conf (upd V tg (G1, G2)) T K (upd S who s1) ∧ Below w.heap.size w wx ∧ hi ≤ wx.heap.size)
      case first => as_aux_lemma =>
        cases y with
        | false =>
          go_wp2_with fail
          go_meet
          exact ⟨hEl.out, hBl.out, hzl.out⟩
        | true =>
          have p0 : wl.cell? ⟨tb, who, none⟩ = some (.pointer (some ⟨b, 0, none⟩)) := by
            have := hEl.out.ak.cell hwho
            unfold kf at this; rw [hK.out] at this; exact this
          have c4 := (cell_below hBl.out hk2.out).trans hk2.out
          rw [hcv.out] at c4
          go_upto_region 35 with (fail)
          go_still_tail 11, (by kernel_rfl)
          change wpList _ _ _ _ _ wl.drew
          have hTd := Lib.hid (hTl.out.below ((Below.refl wl.heap.size wl).drew))
          have hEd := Lib.hid (hEl.out.below ((Below.refl wl.heap.size wl).drew))
          have hBd := Lib.hid hBl.out.drew
          have hzd := Lib.hid (show hi ≤ wl.drew.heap.size from hzl.out)
          generalize wl.drew = wk2 at *
          clear hTl hEl hBl hzl c4 p0
          go_wp2_with fail
          ((with_reducible refine (VoteL_calls _ _ _ _ _ _ _ _ _ hTd.out).mono ?_); rintro e wm ⟨rfl, hTm, hgm⟩)
          rw [h2t.out] at hTm
          have hEm := hEd.out.vote (s := s1) hwho hK.out (by rw [hst.out]; exact hTm) hgm (by rw [upd_twice]; exact IG.out)
          rw [upd_twice] at hEm
          replace hEm := Lib.hid hEm
          have hBm := Lib.hid (hBd.out.grown hgm hBd.out.size (fun k e => by cases e; exact hlb.out))
          have hzm := Lib.hid (Nat.le_trans hzd.out hgm.size)
          clear hgm hTm
          go_wp2_with fail
          go_meet
          exact ⟨hEm.out, hBm.out, hzm.out⟩
      case rest => as_aux_lemma =>
      clear hEl hBl hzl hTl h2t
      generalize wc = wn at *
      obtain ⟨hEn, hBn, hzn⟩ := hcut
      replace hEn := Lib.hid hEn
      replace hBn := Lib.hid hBn
      replace hzn := Lib.hid hzn
      have hle := Lib.hid (wins_le (term := term) hEn.out.inv t1)
      generalize upd S who s1 = S' at *
      generalize upd V tg (G1, G2) = V' at *
      have hn7 := n7.out
      replace hfuel := Lib.hid hfuel
      replace hile := Lib.hid hile
      clear IG hlb hTal hK hst hG3
      go_wp2_with fail
      go_loopg [23, 24] (conf.length + 1) (fun k2 v23 v24 wr2 => ∃ (j c : Nat), v24 = .int .i64 (j : Int) ∧ v23 = .int .i64 (c : Int) ∧ tallyN (wins conf T S' term) j = c ∧ j ≤ conf.length ∧ conf.length < j + k2 ∧ El wr2 vb tb mb hi conf V' T K S' ∧ Below w.heap.size w wr2 ∧ hi ≤ wr2.heap.size)
      case atStart => exact ⟨0, 0, rfl, rfl, rfl, by omega, by omega, hEn.out, hBn.out, hzn.out⟩
      case round => as_aux_lemma =>
        clear hEn hBn hzn
        obtain ⟨j, c, rfl, rfl, hc, hjle, hfu2, hE, hB, hz⟩ := hrel
        cases gk with
        | zero => omega
        | succ k2 =>
        by_cases hlt2 : j < conf.length
        · have hlt3 : (j : Int) < (conf.length : Int) := by omega
          have h0j : (0 : Int) ≤ (j : Int) := by omega
          have hcj := tallyN_len (wins conf T S' term) j
          have hc7 : (c : Int) ≤ 7 := by omega
          have hc0 : (0 : Int) ≤ (c : Int) := by omega
          have hsucc := tallyN_succ (wins conf T S' term) j
          rw [hc] at hsucc
          have p0 := hE.ak.cell hlt2
          have p1 := hE.am.cell hlt2
          unfold kf at p0
          unfold tf at p1
          have hnon := hE.tal j hlt2
          have hwn : wins conf T S' term j = (decide (T j = term) && won (S' j) conf) := rfl
          replace hc := Lib.hid hc
          replace hcj := Lib.hid hcj
          replace hsucc := Lib.hid hsucc
          replace hjle := Lib.hid hjle
          replace hfu2 := Lib.hid hfu2
          replace hlt2 := Lib.hid hlt2
          rcases hKj : K j with _ | ⟨lo', b'⟩
          · rw [hKj] at p0 hnon
            have hTj : wins conf T S' term j = false := by
              rw [hwn, decide_eq_false (fun e => ?_)]; · rfl
              by_cases e0 : T j = 0
              · omega
              · obtain ⟨_, _, e1, _⟩ := hnon e0; cases e1
            rw [hTj] at hsucc
            replace hKj := Lib.hid hKj
            replace hE := Lib.hid hE
            replace hB := Lib.hid hB
            replace hz := Lib.hid hz
            replace hTj := Lib.hid hTj
            clear hnon hwn
            go_wp2_with fail
            go_roundg k2
            case measure => omega
            case rel => exact ⟨j + 1, c, by first | rfl | go_num, rfl, by rw [hsucc.out]; rfl, hlt2.out, by have := hfu2.out; omega, hE.out, hB.out, hz.out⟩
          · rw [hKj] at p0 hnon
            by_cases hTj : T j = term
            · have hTj1 : (T j == term) = true := by simp [hTj]
              obtain ⟨lo2, b2, e1, hTal⟩ := hnon (by omega)
              cases e1
              have CW := Lib.hid (fun W h => Won_calls b' (T j) conf (S' j) W h hm.out)
              rw [decide_eq_true hTj, Bool.true_and] at hwn
              cases hwv : won (S' j) conf with
              | true =>
                rw [hwv] at CW
                rw [hwn, hwv] at hsucc
                replace hKj := Lib.hid hKj
                replace hE := Lib.hid hE
                replace hB := Lib.hid hB
                replace hz := Lib.hid hz
                replace hTj := Lib.hid hTj
                replace hTal := Lib.hid hTal
                clear hnon hwn hwv
                go_wp2_with fail
                ((with_reducible refine (CW.out _ hTal.out.t).mono ?_); rintro e w8 ⟨rfl, hb8⟩)
                have hE8 := Lib.hid (hE.out.below hb8)
                have hB8 := Lib.hid (Lx.bstep hB.out (Nat.le_refl _) hb8)
                have hz8 := Lib.hid (Nat.le_trans hz.out hb8.size)
                clear hb8
                go_wp2_with fail
                go_roundg k2
                case measure => omega
                case rel => exact ⟨j + 1, c + 1, by first | rfl | go_num, by first | rfl | go_num, by rw [hsucc.out]; rfl, hlt2.out, by have := hfu2.out; omega, hE8.out, hB8.out, hz8.out⟩
              | false =>
                rw [hwv] at CW
                rw [hwn, hwv] at hsucc
                replace hKj := Lib.hid hKj
                replace hE := Lib.hid hE
                replace hB := Lib.hid hB
                replace hz := Lib.hid hz
                replace hTj := Lib.hid hTj
                replace hTal := Lib.hid hTal
                clear hnon hwn hwv
                go_wp2_with fail
                ((with_reducible refine (CW.out _ hTal.out.t).mono ?_); rintro e w8 ⟨rfl, hb8⟩)
                have hE8 := Lib.hid (hE.out.below hb8)
                have hB8 := Lib.hid (Lx.bstep hB.out (Nat.le_refl _) hb8)
                have hz8 := Lib.hid (Nat.le_trans hz.out hb8.size)
                clear hb8
                go_wp2_with fail
                go_roundg k2
                case measure => omega
                case rel => exact ⟨j + 1, c, by first | rfl | go_num, rfl, by rw [hsucc.out]; rfl, hlt2.out, by have := hfu2.out; omega, hE8.out, hB8.out, hz8.out⟩
            · have hTj1 : (T j == term) = false := by simp [hTj]
              rw [hwn, decide_eq_false hTj] at hsucc
              replace hKj := Lib.hid hKj
              replace hE := Lib.hid hE
              replace hB := Lib.hid hB
              replace hz := Lib.hid hz
              replace hTj := Lib.hid hTj
              clear hnon hwn
              go_wp2_with fail
              go_roundg k2
              case measure => omega
              case rel => exact ⟨j + 1, c, by first | rfl | go_num, rfl, by rw [hsucc.out]; rfl, hlt2.out, by have := hfu2.out; omega, hE.out, hB.out, hz.out⟩
        · have hd : decide ((j : Int) < (conf.length : Int)) = false := by simp; omega
          obtain rfl : j = conf.length := by omega
          have hd2 : decide ((1 : Int) < (c : Int)) = false := by have := hle.out; rw [hc] at this; simp; omega
          replace hE := Lib.hid hE
          replace hB := Lib.hid hB
          replace hz := Lib.hid hz
          replace hc := Lib.hid hc
          replace hlt2 := Lib.hid hlt2
          replace hjle := Lib.hid hjle
          replace hfu2 := Lib.hid hfu2
          go_wp2_with fail
          go_roundg k
          case measure => omega
          case rel => exact ⟨i + 1, V', T, K, S', by first | rfl | go_num, by omega, by have := hfuel.out; omega, hE.out, hB.out, hz.out⟩
    · as_aux_lemma =>
      have hd : decide ((i : Int) < (an : Int)) = false := by simp; omega
      clear hE hfuel
      go_wp2_with fail
      refine (works25_calls _).mono ?_
      rintro e w8 ⟨rfl, hb8⟩
      go_wp2_with fail
      go_ret
      exact ⟨rfl, Lx.bstep hb.out (Nat.le_refl _) hb8⟩
end Go.Proofs.Ytjjdfhokmiaekaa
