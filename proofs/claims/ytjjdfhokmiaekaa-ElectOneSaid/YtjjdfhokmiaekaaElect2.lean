/-
  The contracts of elect's tally: quorum, Won, Lost.
-/
import Derived.Test.YtjjdfhokmiaekaaElect
namespace Go.Proofs.Ytjjdfhokmiaekaa
open Go.RowKit Go.Lst
attribute [local go_sem] run_eql_slice_nil

theorem wonIs_calls (x : Int) (w : World) : Calls Try.prog 66 #[.int .u8 x] w fun e w' => e = .returned (.bool (x == 1)) ∧ w = w' := by
  go_enter Try.func66, Try.ntmps66
  go_wp2_with fail
  go_ret
  exact ⟨rfl, rfl⟩
theorem lostIs_calls (x : Int) (w : World) : Calls Try.prog 67 #[.int .u8 x] w fun e w' => e = .returned (.bool (x != 2)) ∧ w = w' := by
  go_enter Try.func67, Try.ntmps67
  go_wp2_with fail
  go_ret
  exact ⟨rfl, rfl⟩

/-- Those of whom it is so. -/
def so (p : Int → Bool) (said : List Nat) (conf : List Int) : List Int := conf.filter fun n => p ((said.getD n.toNat 0 : Nat) : Int)
theorem so_take (p : Int → Bool) (said : List Nat) (conf : List Int) (i : Nat) (h : i < conf.length) :
    so p said (conf.take (i + 1)) = so p said (conf.take i) ++ (if p ((said.getD (conf.getD i 0).toNat 0 : Nat) : Int) = true then [conf.getD i 0] else []) := by
  unfold so
  rw [take_snoc conf i h, List.filter_append]
  simp only [List.filter_cons, List.filter_nil]
theorem so_len (p : Int → Bool) (said : List Nat) (conf : List Int) : (so p said conf).length ≤ conf.length := List.length_filter_le _ _
theorem so_mem (p : Int → Bool) (said : List Nat) (conf : List Int) : ∀ x ∈ so p said conf, x ∈ conf := fun x hx => (List.mem_filter.1 hx).1

set_option maxRecDepth 100000 in
set_option maxHeartbeats 2000000 in
theorem quorumWon_calls (b : Nat) (T : Int) (conf : List Int) (said : List Nat) (w : World) (h : Tal w b T conf said) (hm : may conf = true) :
    Calls Try.prog 65 #[.pointer (some ⟨b, 0, none⟩), .func (.func 66) #[] #[]] w fun e w' => e = .returned (.bool (quorum (so (fun x => x == 1) said conf) conf)) ∧ Below w.heap.size w w' := by
  obtain ⟨i0, hi, hz0, hz1, hz2⟩ := info_parts infoInt
  obtain ⟨p, c, h1, h2, h3⟩ := h.c1
  have hwf := Lib.hid h3.2
  have hl : conf.length ≤ 7 := by simp [may] at hm; omega
  have hup := Lib.hid ((up_iff conf).1 (by simp [may] at hm; exact hm.1))
  obtain ⟨p', c', e, hc1, hc2, hcell⟩ := h3.parts
  injection e with e1 e2 e3
  subst e1 e3
  have hQ := Lib.hid (fun v xs W h h' => Quorum_calls v (.slice (some p) conf.length c) xs conf W h h' hm)
  have hh := Lib.hid h
  have hh3 := Lib.hid h3
  clear h h3 hm
  go_enter Try.func65, Try.ntmps65
  go_wp2_with fail
  go_loopg [5, 15] (conf.length + 1) (fun k v5 v15 wr => ∃ i : Nat, v15 = .int .i64 (i : Int) ∧ i ≤ conf.length ∧ conf.length < i + k ∧ wr.ownsRow w.heap.size 3 1 v5 (so (fun x => x == 1) said (conf.take i)).length ((so (fun x => x == 1) said (conf.take i)).map fun x => .int .i64 x) ∧ Below w.heap.size w wr)
  case atStart => exact ⟨0, rfl, by omega, by omega, World.ownsRow_nil _ _ _ _, Below.refl _ _⟩
  case round =>
    obtain ⟨i, rfl, hile, hfuel, hown, hB⟩ := hrel
    cases gk with
    | zero => omega
    | succ k =>
      by_cases hlt : i < conf.length
      · have hlt1 : (i : Int) < (conf.length : Int) := by omega
        have h0 : (0 : Int) ≤ (i : Int) := by omega
        obtain ⟨a, ha, hca⟩ := hcell i hlt
        cases ha
        replace hca := (cell_below hB hca).trans hca
        have hst := Lib.hid (so_take (fun x => x == 1) said conf i hlt)
        have hsl := so_len (fun x => x == 1) said (conf.take i)
        rw [List.length_take] at hsl
        have hr := hup.out i hlt
        unfold upAt at hr
        rw [decide_eq_true_eq] at hr
        have hX1 := hr.1
        have hX2 := hr.2.1
        clear hr
        have hTw := Lib.hid (hh.out.below hB)
        generalize conf.getD i 0 = X at *
        obtain ⟨m, rfl⟩ : ∃ m : Nat, X = (m : Int) := ⟨X.toNat, by omega⟩
        rw [Int.toNat_natCast] at hst
        have hm65 : (m : Int) < 65 := by omega
        have hm0 : (0 : Int) ≤ (m : Int) := by omega
        have hcm := hTw.out.c2 m (by omega)
        generalize ((said.getD m 0 : Nat) : Int) = S at *
        have hLw := Lib.hid (show ∀ x ∈ so (fun x => x == 1) said (conf.take i), (Lit.int .i64 x).wf = true from fun x hx => hwf.out x (List.mem_of_mem_take (so_mem _ _ _ x hx)))
        generalize so (fun x => x == 1) said (conf.take i) = L at *
        have hL7 : L.length ≤ 7 := by omega
        have hbz := hB.size
        have hf := Lib.hid (wonIs_calls S)
        have hwX := Lib.hid (show ∀ x ∈ L, (Lit.int .i64 x).wf = true from fun x hx => hLw.out x hx)
        replace hst := hst.out
        cases hp : ((S == 1) : Bool) with
        | true =>
          rw [hp, if_pos rfl] at hst
          rw [hp] at hf
          clear hp
          have hst' := Lib.hid hst
          clear hst
          go_wp2_with fail
          refine (hf.out _).mono ?_
          rintro e w1 ⟨rfl, rfl⟩
          go_wp2_with (at_builtin; refine wpList_append_own _ rfl (.tmp 27) (.tmp 29) 33 rfl w.heap.size 3 i0 (.int .i64 0) 1 8 Try.underlying33 hi hz0 hz1 hz2 rfl (by decide) _ _ _ rfl (hown.alloc _) ⟨wr.heap.size, 0, none⟩ 1 1 [.int .i64 (m : Int)] rfl rfl (cell_one_new _ _ _) (by simp [Value.oneCell']) (by unfold maxLen; omega) (by omega) (by simp; omega) ?_; intro v' w2 hown2 hgrow2 _)
          go_roundg k
          case measure => omega
          case rel =>
            refine ⟨i + 1, by go_num, by omega, by omega, ?_, (hB.alloc hB.size _).grown hgrow2 (by simp; omega) (fun j hj => (hown.lt j hj).1)⟩
            rw [hst'.out, List.length_append, List.map_append]
            exact hown2
        | false =>
          rw [hp, if_neg (by simp), List.append_nil] at hst
          rw [hp] at hf
          clear hp
          have hst' := Lib.hid hst
          clear hst
          go_wp2_with fail
          refine (hf.out _).mono ?_
          rintro e w1 ⟨rfl, rfl⟩
          go_wp2_with fail
          go_roundg k
          case measure => omega
          case rel =>
            refine ⟨i + 1, by go_num, by omega, by omega, ?_, hB⟩
            rw [hst'.out]
            exact hown
      · have hd : decide ((i : Int) < (conf.length : Int)) = false := by simp; omega
        have e : conf.take i = conf := List.take_of_length_le (by omega)
        rw [e] at hown
        have hcx1 : wr.cell? ⟨b, 1, none⟩ = some (.slice (some p) conf.length c) := (cell_below hB h1).trans h1
        have hN : Nums .i64 wr u5 (so (fun x => x == 1) said conf) := Nums.own hown (fun x hx => hwf.out x (so_mem _ _ _ x hx))
        have hN' := Lib.hid hN
        have hQ' := Lib.hid (hQ.out u5 (so (fun x => x == 1) said conf) wr hN (hh3.out.below hB))
        clear hN e
        go_wp2_with fail
        refine hQ'.out.mono ?_
        rintro e w1 ⟨rfl, hb1⟩
        go_wp2_with fail
        go_ret
        exact ⟨rfl, Lx.bstep hB (Nat.le_refl _) hb1⟩

set_option maxRecDepth 100000 in
set_option maxHeartbeats 2000000 in
theorem quorumLost_calls (b : Nat) (T : Int) (conf : List Int) (said : List Nat) (w : World) (h : Tal w b T conf said) (hm : may conf = true) :
    Calls Try.prog 65 #[.pointer (some ⟨b, 0, none⟩), .func (.func 67) #[] #[]] w fun e w' => e = .returned (.bool (quorum (so (fun x => x != 2) said conf) conf)) ∧ Below w.heap.size w w' := by
  obtain ⟨i0, hi, hz0, hz1, hz2⟩ := info_parts infoInt
  obtain ⟨p, c, h1, h2, h3⟩ := h.c1
  have hwf := Lib.hid h3.2
  have hl : conf.length ≤ 7 := by simp [may] at hm; omega
  have hup := Lib.hid ((up_iff conf).1 (by simp [may] at hm; exact hm.1))
  obtain ⟨p', c', e, hc1, hc2, hcell⟩ := h3.parts
  injection e with e1 e2 e3
  subst e1 e3
  have hQ := Lib.hid (fun v xs W h h' => Quorum_calls v (.slice (some p) conf.length c) xs conf W h h' hm)
  have hh := Lib.hid h
  have hh3 := Lib.hid h3
  clear h h3 hm
  go_enter Try.func65, Try.ntmps65
  go_wp2_with fail
  go_loopg [5, 15] (conf.length + 1) (fun k v5 v15 wr => ∃ i : Nat, v15 = .int .i64 (i : Int) ∧ i ≤ conf.length ∧ conf.length < i + k ∧ wr.ownsRow w.heap.size 3 1 v5 (so (fun x => x != 2) said (conf.take i)).length ((so (fun x => x != 2) said (conf.take i)).map fun x => .int .i64 x) ∧ Below w.heap.size w wr)
  case atStart => exact ⟨0, rfl, by omega, by omega, World.ownsRow_nil _ _ _ _, Below.refl _ _⟩
  case round =>
    obtain ⟨i, rfl, hile, hfuel, hown, hB⟩ := hrel
    cases gk with
    | zero => omega
    | succ k =>
      by_cases hlt : i < conf.length
      · have hlt1 : (i : Int) < (conf.length : Int) := by omega
        have h0 : (0 : Int) ≤ (i : Int) := by omega
        obtain ⟨a, ha, hca⟩ := hcell i hlt
        cases ha
        replace hca := (cell_below hB hca).trans hca
        have hst := Lib.hid (so_take (fun x => x != 2) said conf i hlt)
        have hsl := so_len (fun x => x != 2) said (conf.take i)
        rw [List.length_take] at hsl
        have hr := hup.out i hlt
        unfold upAt at hr
        rw [decide_eq_true_eq] at hr
        have hX1 := hr.1
        have hX2 := hr.2.1
        clear hr
        have hTw := Lib.hid (hh.out.below hB)
        generalize conf.getD i 0 = X at *
        obtain ⟨m, rfl⟩ : ∃ m : Nat, X = (m : Int) := ⟨X.toNat, by omega⟩
        rw [Int.toNat_natCast] at hst
        have hm65 : (m : Int) < 65 := by omega
        have hm0 : (0 : Int) ≤ (m : Int) := by omega
        have hcm := hTw.out.c2 m (by omega)
        generalize ((said.getD m 0 : Nat) : Int) = S at *
        have hLw := Lib.hid (show ∀ x ∈ so (fun x => x != 2) said (conf.take i), (Lit.int .i64 x).wf = true from fun x hx => hwf.out x (List.mem_of_mem_take (so_mem _ _ _ x hx)))
        generalize so (fun x => x != 2) said (conf.take i) = L at *
        have hL7 : L.length ≤ 7 := by omega
        have hbz := hB.size
        have hf := Lib.hid (lostIs_calls S)
        have hwX := Lib.hid (show ∀ x ∈ L, (Lit.int .i64 x).wf = true from fun x hx => hLw.out x hx)
        replace hst := hst.out
        cases hp : ((S != 2) : Bool) with
        | true =>
          rw [hp, if_pos rfl] at hst
          rw [hp] at hf
          clear hp
          have hst' := Lib.hid hst
          clear hst
          go_wp2_with fail
          refine (hf.out _).mono ?_
          rintro e w1 ⟨rfl, rfl⟩
          go_wp2_with (at_builtin; refine wpList_append_own _ rfl (.tmp 27) (.tmp 29) 33 rfl w.heap.size 3 i0 (.int .i64 0) 1 8 Try.underlying33 hi hz0 hz1 hz2 rfl (by decide) _ _ _ rfl (hown.alloc _) ⟨wr.heap.size, 0, none⟩ 1 1 [.int .i64 (m : Int)] rfl rfl (cell_one_new _ _ _) (by simp [Value.oneCell']) (by unfold maxLen; omega) (by omega) (by simp; omega) ?_; intro v' w2 hown2 hgrow2 _)
          go_roundg k
          case measure => omega
          case rel =>
            refine ⟨i + 1, by go_num, by omega, by omega, ?_, (hB.alloc hB.size _).grown hgrow2 (by simp; omega) (fun j hj => (hown.lt j hj).1)⟩
            rw [hst'.out, List.length_append, List.map_append]
            exact hown2
        | false =>
          rw [hp, if_neg (by simp), List.append_nil] at hst
          rw [hp] at hf
          clear hp
          have hst' := Lib.hid hst
          clear hst
          go_wp2_with fail
          refine (hf.out _).mono ?_
          rintro e w1 ⟨rfl, rfl⟩
          go_wp2_with fail
          go_roundg k
          case measure => omega
          case rel =>
            refine ⟨i + 1, by go_num, by omega, by omega, ?_, hB⟩
            rw [hst'.out]
            exact hown
      · have hd : decide ((i : Int) < (conf.length : Int)) = false := by simp; omega
        have e : conf.take i = conf := List.take_of_length_le (by omega)
        rw [e] at hown
        have hcx1 : wr.cell? ⟨b, 1, none⟩ = some (.slice (some p) conf.length c) := (cell_below hB h1).trans h1
        have hN : Nums .i64 wr u5 (so (fun x => x != 2) said conf) := Nums.own hown (fun x hx => hwf.out x (so_mem _ _ _ x hx))
        have hN' := Lib.hid hN
        have hQ' := Lib.hid (hQ.out u5 (so (fun x => x != 2) said conf) wr hN (hh3.out.below hB))
        clear hN e
        go_wp2_with fail
        refine hQ'.out.mono ?_
        rintro e w1 ⟨rfl, hb1⟩
        go_wp2_with fail
        go_ret
        exact ⟨rfl, Lx.bstep hB (Nat.le_refl _) hb1⟩

end Go.Proofs.Ytjjdfhokmiaekaa
