/-
  The reference's functions of files: Name, Find, without, with.
-/
import Derived.Test.YtenjllkhbpoffaaDoorDrRow
import Derived.WalkLawsBesides
namespace Go.Proofs.YtenjllkhbpoffaaDoor
open Go Go.Maps Go.WideMaps Go.Dsk Go.Lx Go.Lst Go.RowKit

/-! Name -/
def okB (c : UInt8) : Bool := (decide (97 ≤ (c.toNat : Int)) && decide ((c.toNat : Int) ≤ 122)) || ((decide (48 ≤ (c.toNat : Int)) && decide ((c.toNat : Int) ≤ 57)) || (((c.toNat : Int) == 46) || (((c.toNat : Int) == 45) || ((c.toNat : Int) == 95))))
set_option maxRecDepth 100000 in
theorem okB_all : ∀ n : Fin 256, letters.contains (UInt8.ofNat n.val) = okB (UInt8.ofNat n.val) := by decide
theorem okB_eq (c : UInt8) : letters.contains c = okB c := by
  have := okB_all ⟨c.toNat, c.toNat_lt⟩
  rwa [show UInt8.ofNat c.toNat = c by simp] at this
/-- Which ways a byte goes. -/
theorem okB_yes (c : UInt8) (h : okB c = true) : (97 ≤ (c.toNat : Int) ∧ (c.toNat : Int) ≤ 122) ∨ (48 ≤ (c.toNat : Int) ∧ (c.toNat : Int) ≤ 57) ∨ (c.toNat : Int) = 46 ∨ (c.toNat : Int) = 45 ∨ (c.toNat : Int) = 95 := by
  unfold okB at h
  simp only [Bool.or_eq_true, Bool.and_eq_true, decide_eq_true_eq, beq_iff_eq] at h
  exact h
theorem okB_no (c : UInt8) (h : okB c = false) : (122 < (c.toNat : Int) ∨ ((c.toNat : Int) < 97 ∧ (57 < (c.toNat : Int) ∨ (c.toNat : Int) < 48))) ∧ (c.toNat : Int) ≠ 46 ∧ (c.toNat : Int) ≠ 45 ∧ (c.toNat : Int) ≠ 95 := by
  have : ¬ okB c = true := by rw [h]; decide
  unfold okB at this
  simp only [Bool.or_eq_true, Bool.and_eq_true, decide_eq_true_eq, beq_iff_eq] at this
  omega
theorem take_all (s : ByteArray) (i : Nat) (hi : i < s.size) : (s.data.toList.take (i + 1)).all okB = ((s.data.toList.take i).all okB && okB s[i]) := by
  have hl : i < s.data.toList.length := by simpa using hi
  rw [List.take_succ_eq_append_getElem hl, List.all_append]
  simp
  rfl
theorem all_no (s : ByteArray) (i : Nat) (hi : i < s.size) (h : okB s[i] = false) : s.data.toList.all okB = false := by
  have hl : i < s.data.toList.length := by simpa using hi
  rw [← List.take_append_drop (i + 1) s.data.toList, List.all_append, take_all s i hi, h]
  simp
set_option maxRecDepth 100000 in
set_option maxHeartbeats 4000000 in
theorem RName_calls (w : World) (s : ByteArray) (hs : s.size ≤ maxLen) : Calls Tryd.prog 27 #[.string s] w fun e w' => e = .returned (.bool (nameB s)) ∧ w = w' := by
  unfold maxLen at hs
  have hb : nameB s = (s.data.toList.all okB && (decide (1 ≤ s.size) && decide (s.size ≤ 32))) := by
    unfold nameB
    rw [Bool.and_comm]
    congr 1
    congr 1
    funext c
    exact okB_eq c
  rw [hb]
  obtain ⟨B, hB⟩ : ∃ B, (s.data.toList.all okB && (decide (1 ≤ s.size) && decide (s.size ≤ 32))) = B := ⟨_, rfl⟩
  rw [hB]
  replace hB := Lib.hid hB
  clear hb
  go_enter Tryd.func27, Tryd.ntmps27
  go_wp2_with fail
  go_loopg [3] (s.size + 1) (fun g v3 A => ∃ i : Nat, i ≤ s.size ∧ s.size < i + g ∧ v3 = .int .i64 (i : Int) ∧ Hid ((s.data.toList.take i).all okB = true) ∧ w = A)
  case atStart => exact ⟨0, by omega, by omega, rfl, Lib.hid rfl, rfl⟩
  case round =>
    obtain ⟨i, hi, hg, rfl, hall, rfl⟩ := hrel
    cases gk with
    | zero => omega
    | succ g =>
    by_cases hlt : i < s.size
    case neg =>
      have hd : decide (i < s.size) = false := decide_eq_false hlt
      have ha : Hid (s.data.toList.all okB = true) := Lib.hid (by
        have := hall.out
        rwa [List.take_of_length_le (by simp; omega)] at this)
      clear hall hi hg hlt
      by_cases h1 : 1 ≤ s.size
      case neg =>
        have h1b : decide (1 ≤ s.size) = false := decide_eq_false h1
        have hBf : Hid (false = B) := Lib.hid (by rw [← hB.out, h1b]; simp)
        have h1c : decide (1 ≤ (s.size : Int)) = false := decide_eq_false (by omega)
        clear h1
        go_wp2_with fail
        go_ret
        exact ⟨congrArg (fun b => Ending.returned (Value.bool b)) hBf.out, rfl⟩
      case pos =>
        have h1b : decide (1 ≤ s.size) = true := decide_eq_true h1
        have h1c : decide (1 ≤ (s.size : Int)) = true := decide_eq_true (by omega)
        by_cases h2 : s.size ≤ 32
        · have h2b : decide ((s.size : Int) ≤ 32) = true := decide_eq_true (by omega)
          have hBf : Hid (true = B) := Lib.hid (by rw [← hB.out, ha.out, h1b, decide_eq_true h2]; rfl)
          clear h1 h2
          go_wp2_with fail
          go_ret
          exact ⟨congrArg (fun b => Ending.returned (Value.bool b)) hBf.out, rfl⟩
        · have h2b : decide ((s.size : Int) ≤ 32) = false := decide_eq_false (by omega)
          have hBf : Hid (false = B) := Lib.hid (by rw [← hB.out, decide_eq_false h2]; simp)
          clear h1 h2
          go_wp2_with fail
          go_ret
          exact ⟨congrArg (fun b => Ending.returned (Value.bool b)) hBf.out, rfl⟩
    case pos =>
      have hd : decide (i < s.size) = true := decide_eq_true hlt
      have hi0 : (0 : Int) ≤ (i : Int) := by omega
      have hi1 : (i : Int) < (s.size : Int) := by omega
      have hnx := take_all s i hlt
      have hno := all_no s i hlt
      cases hc : okB s[i] with
      | true =>
        have hall2 : Hid ((s.data.toList.take (i + 1)).all okB = true) := Lib.hid (by rw [hnx, hall.out, hc]; rfl)
        have hw := okB_yes _ hc
        clear hnx hno hc hall
        rcases hw with ⟨h1, h2⟩ | ⟨h1, h2⟩ | h1 | h1 | h1
        · have a1 : decide (97 ≤ (s[i].toNat : Int)) = true := decide_eq_true h1
          have a2 : decide ((s[i].toNat : Int) ≤ 122) = true := decide_eq_true h2
          clear h1 h2
          go_wp2_with fail
          go_roundg g
          case measure => omega
          case rel => exact ⟨i + 1, by omega, by omega, by go_num, hall2, rfl⟩
        · have a1 : decide (97 ≤ (s[i].toNat : Int)) = false := decide_eq_false (by omega)
          have a2 : decide (48 ≤ (s[i].toNat : Int)) = true := decide_eq_true h1
          have a3 : decide ((s[i].toNat : Int) ≤ 57) = true := decide_eq_true h2
          clear h1 h2
          go_wp2_with fail
          go_roundg g
          case measure => omega
          case rel => exact ⟨i + 1, by omega, by omega, by go_num, hall2, rfl⟩
        · have a1 : decide (97 ≤ (s[i].toNat : Int)) = false := decide_eq_false (by omega)
          have a2 : decide (48 ≤ (s[i].toNat : Int)) = false := decide_eq_false (by omega)
          have a3 : ((s[i].toNat : Int) == 46) = true := by simpa using h1
          clear h1
          go_wp2_with fail
          go_roundg g
          case measure => omega
          case rel => exact ⟨i + 1, by omega, by omega, by go_num, hall2, rfl⟩
        · have a1 : decide (97 ≤ (s[i].toNat : Int)) = false := decide_eq_false (by omega)
          have a2 : decide (48 ≤ (s[i].toNat : Int)) = false := decide_eq_false (by omega)
          have a3 : ((s[i].toNat : Int) == 46) = false := by rw [h1]; decide
          have a4 : ((s[i].toNat : Int) == 45) = true := by rw [h1]; decide
          clear h1
          go_wp2_with fail
          go_roundg g
          case measure => omega
          case rel => exact ⟨i + 1, by omega, by omega, by go_num, hall2, rfl⟩
        · have a1 : decide (97 ≤ (s[i].toNat : Int)) = false := decide_eq_false (by omega)
          have a2 : decide (48 ≤ (s[i].toNat : Int)) = true := decide_eq_true (by omega)
          have a5 : decide ((s[i].toNat : Int) ≤ 57) = false := decide_eq_false (by omega)
          have a3 : ((s[i].toNat : Int) == 46) = false := by rw [h1]; decide
          have a4 : ((s[i].toNat : Int) == 45) = false := by rw [h1]; decide
          have a6 : ((s[i].toNat : Int) == 95) = true := by rw [h1]; decide
          clear h1
          go_wp2_with fail
          go_roundg g
          case measure => omega
          case rel => exact ⟨i + 1, by omega, by omega, by go_num, hall2, rfl⟩
      | false =>
        have hBf : Hid (false = B) := Lib.hid (by rw [← hB.out, hno hc]; rfl)
        obtain ⟨hw, n1, n2, n3⟩ := okB_no _ hc
        have a3 : ((s[i].toNat : Int) == 46) = false := by simpa using n1
        have a4 : ((s[i].toNat : Int) == 45) = false := by simpa using n2
        have a6 : ((s[i].toNat : Int) == 95) = false := by simpa using n3
        clear hnx hno hc hall n1 n2 n3
        rcases hw with h1 | ⟨h1, h2 | h2⟩
        · have a1 : decide (97 ≤ (s[i].toNat : Int)) = true := decide_eq_true (by omega)
          have a2 : decide ((s[i].toNat : Int) ≤ 122) = false := decide_eq_false (by omega)
          have a7 : decide (48 ≤ (s[i].toNat : Int)) = true := decide_eq_true (by omega)
          have a8 : decide ((s[i].toNat : Int) ≤ 57) = false := decide_eq_false (by omega)
          clear h1
          go_wp2_with fail
          go_ret
          exact ⟨congrArg (fun b => Ending.returned (Value.bool b)) hBf.out, rfl⟩
        · have a1 : decide (97 ≤ (s[i].toNat : Int)) = false := decide_eq_false (by omega)
          have a7 : decide (48 ≤ (s[i].toNat : Int)) = true := decide_eq_true (by omega)
          have a8 : decide ((s[i].toNat : Int) ≤ 57) = false := decide_eq_false (by omega)
          clear h1 h2
          go_wp2_with fail
          go_ret
          exact ⟨congrArg (fun b => Ending.returned (Value.bool b)) hBf.out, rfl⟩
        · have a1 : decide (97 ≤ (s[i].toNat : Int)) = false := decide_eq_false (by omega)
          have a7 : decide (48 ≤ (s[i].toNat : Int)) = false := decide_eq_false (by omega)
          clear h1 h2
          go_wp2_with fail
          go_ret
          exact ⟨congrArg (fun b => Ending.returned (Value.bool b)) hBf.out, rfl⟩
/-! Find -/
theorem eqT {a b : ByteArray} (h : a = b) : (a.toList == b.toList) = true ∧ (a.data.toList == b.data.toList) = true := by subst h; simp
theorem eqF {a b : ByteArray} (h : ¬ a = b) : (a.toList == b.toList) = false ∧ (a.data.toList == b.data.toList) = false := by
  have h2 : ¬ a.data.toList = b.data.toList := fun e => h (bytes_ext e)
  refine ⟨?_, by simpa using h2⟩
  rw [Go.Lib.toList_data, Go.Lib.toList_data]
  simpa using h2
def FindIs (F : Files) (k : ByteArray) (i : Int) : Prop := (hasF F k = false ∧ i = -1) ∨ ∃ (j : Nat) (hj : j < F.length), i = (j : Int) ∧ F[j].1 = k
theorem FindIs.some {F : Files} (hR : Rise F) {k : ByteArray} {i : Int} (h : FindIs F k i) : (hasF F k = false ∧ i = -1 ∧ atF F k = ⟨#[]⟩) ∨ (hasF F k = true ∧ ∃ (j : Nat) (hj : j < F.length), i = (j : Int) ∧ F[j].2 = atF F k) := by
  rcases h with ⟨h1, h2⟩ | ⟨j, hj, h1, h2⟩
  · exact .inl ⟨h1, h2, at_none h1⟩
  · obtain ⟨a1, a2⟩ := at_get hR j hj
    rw [h2] at a1 a2
    exact .inr ⟨a2, j, hj, h1, a1.symm⟩
theorem has_take {F : Files} {k : ByteArray} (j : Nat) (hj : j < F.length) : hasF (F.take (j + 1)) k = (hasF (F.take j) k || decide (F[j].1 = k)) := by
  unfold hasF
  rw [List.take_succ_eq_append_getElem hj, List.any_append]
  simp
set_option maxRecDepth 100000 in
set_option maxHeartbeats 1000000 in
theorem Find_calls {B : Nat} {w : World} {v : Value} {F : Files} (h : FRow B w v F) (k : ByteArray) (hl : F.length ≤ 1000) : Calls Tryd.prog 54 #[v, .string k] w fun e w' => ∃ i, e = .returned (.int .i64 i) ∧ FindIs F k i ∧ w = w' := by
  obtain ⟨p, c, hv, -, -⟩ := h.parts
  have hh := Lib.hid h
  rw [hv] at hh ⊢
  clear h hv
  obtain ⟨n, hn⟩ : ∃ n, F.length = n := ⟨_, rfl⟩
  rw [hn] at hl
  rw [hn] at hh ⊢
  replace hn := Lib.hid hn
  go_enter Tryd.func54, Tryd.ntmps54
  go_wp2_with fail
  go_loopg [5] (n + 1) (fun g v5 A => ∃ j : Nat, j ≤ n ∧ n < j + g ∧ v5 = .int .i64 (j : Int) ∧ Hid (hasF (F.take j) k = false) ∧ w = A)
  case atStart => exact ⟨0, by omega, by omega, rfl, Lib.hid rfl, rfl⟩
  case round =>
    obtain ⟨j, hj, hg, rfl, hno, rfl⟩ := hrel
    cases gk with
    | zero => omega
    | succ g =>
    by_cases hlt : j < n
    case neg =>
      have hd : decide (j < n) = false := decide_eq_false hlt
      have hn2 : Hid (hasF F k = false) := Lib.hid (by have := hno.out; rwa [List.take_of_length_le (by rw [hn.out]; omega)] at this)
      clear hno hj hg hlt
      go_wp2_with fail
      go_ret
      exact ⟨_, rfl, .inl ⟨hn2.out, rfl⟩, rfl⟩
    case pos =>
      have hd : decide (j < n) = true := decide_eq_true hlt
      have hj0 : (0 : Int) ≤ (j : Int) := by omega
      have hj1 : (j : Int) < (n : Int) := by omega
      have hjl : j < F.length := by rw [hn.out]; exact hlt
      obtain ⟨g1, c', e, q1, q2⟩ := hh.out.get j hjl
      obtain rfl : p = some ⟨g1, 0, none⟩ := by injection e
      have ht := has_take (k := k) j hjl
      rw [hno.out] at ht
      clear e q2
      by_cases hk : F[j].1 = k
      · obtain ⟨z1, z2⟩ := eqT hk
        have hfin : Hid (FindIs F k (j : Int)) := Lib.hid (.inr ⟨j, hjl, rfl, hk⟩)
        replace hk := Lib.hid hk
        generalize F[j].1 = x at *
        clear ht hno
        go_wp2_with fail
        go_ret
        exact ⟨_, rfl, hfin.out, rfl⟩
      · obtain ⟨z1, z2⟩ := eqF hk
        have hno2 : Hid (hasF (F.take (j + 1)) k = false) := Lib.hid (by rw [ht]; simpa using hk)
        replace hk := Lib.hid hk
        generalize F[j].1 = x at *
        clear ht hno
        go_wp2_with fail
        go_roundg g
        case measure => omega
        case rel => exact ⟨j + 1, by omega, by omega, by go_num, hno2, rfl⟩
/-! without -/
theorem del_take {F : Files} {k : ByteArray} (j : Nat) (hj : j < F.length) : delF (F.take (j + 1)) k = delF (F.take j) k ++ (if F[j].1 = k then [] else [F[j]]) := by
  unfold delF
  rw [List.take_succ_eq_append_getElem hj, List.filter_append]
  congr 1
  by_cases h : F[j].1 = k
  · rw [if_pos h]; simp [h]
  · rw [if_neg h]; simp [h]
theorem del_len (F : Files) (k : ByteArray) : (delF F k).length ≤ F.length := List.length_filter_le _ _
/-- A row of files, wherever it lies below. -/
theorem FRow.to {B : Nat} {w w' : World} {v : Value} {F : Files} (h : FRow B w v F) (hb : Below w.heap.size w w') : FRow B w' v F := RRow.below h hb
set_option maxRecDepth 100000 in
set_option maxHeartbeats 2000000 in
theorem without_calls {B : Nat} {w : World} {v : Value} {F : Files} (h : FRow B w v F) (k : ByteArray) (hl : F.length ≤ 1000) : Calls Tryd.prog 67 #[v, .string k] w fun e w' => ∃ v', e = .returned v' ∧ FRow w.heap.size w' v' (delF F k) ∧ Below w.heap.size w w' := by
  obtain ⟨p, c, hv, -, -⟩ := h.parts
  have hh := Lib.hid h
  rw [hv] at hh ⊢
  clear h hv
  obtain ⟨n, hn⟩ : ∃ n, F.length = n := ⟨_, rfl⟩
  rw [hn] at hl
  rw [hn] at hh ⊢
  replace hn := Lib.hid hn
  go_enter Tryd.func67, Tryd.ntmps67
  go_wp2_with fail
  go_loopg [5, 6] (n + 1) (fun g v5 v6 A => ∃ j : Nat, j ≤ n ∧ n < j + g ∧ v6 = .int .i64 (j : Int) ∧ FRow w.heap.size A v5 (delF (F.take j) k) ∧ Below w.heap.size w A)
  case atStart => exact ⟨0, by omega, by omega, rfl, RRow.nil _ _ _, Below.refl _ _⟩
  case round =>
    obtain ⟨j, hj, hg, rfl, hr, hb⟩ := hrel
    cases gk with
    | zero => omega
    | succ g =>
    by_cases hlt : j < n
    case neg =>
      have hd : decide (j < n) = false := decide_eq_false hlt
      have hr2 : Hid (FRow w.heap.size wr u5 (delF F k)) := Lib.hid (by rwa [List.take_of_length_le (by rw [hn.out]; omega)] at hr)
      replace hb := Lib.hid hb
      clear hr hj hg hlt
      go_wp2_with fail
      go_ret
      exact ⟨_, rfl, hr2.out, hb.out⟩
    case pos =>
      have hd : decide (j < n) = true := decide_eq_true hlt
      have hj0 : (0 : Int) ≤ (j : Int) := by omega
      have hj1 : (j : Int) < (n : Int) := by omega
      have hjl : j < F.length := by rw [hn.out]; exact hlt
      obtain ⟨g1, c', e, q1, q2⟩ := (hh.out.to hb).get j hjl
      obtain rfl : p = some ⟨g1, 0, none⟩ := by injection e
      clear e
      have ht := del_take (k := k) j hjl
      by_cases hk : F[j].1 = k
      · obtain ⟨z1, z2⟩ := eqT hk
        rw [if_pos hk, List.append_nil] at ht
        rw [← ht] at hr
        replace hr := Lib.hid hr
        replace hb := Lib.hid hb
        replace hk := Lib.hid hk
        generalize F[j].1 = x at *
        clear ht q2
        go_wp2_with fail
        go_roundg g
        case measure => omega
        case rel => exact ⟨j + 1, by omega, by omega, by go_num, hr.out, hb.out⟩
      · obtain ⟨z1, z2⟩ := eqF hk
        rw [if_neg hk] at ht
        have hba : Below wr.heap.size wr (wr.alloc (.cells #[.string F[j].1, .string F[j].2] 74)) := (Below.refl _ _).alloc (Nat.le_refl _) _
        have hbw := hb.size
        obtain ⟨q, d, w2, hrun, hr2, hg2, ho2⟩ := (hr.to hba).append (Nat.le_trans hbw hba.size) (some ⟨wr.heap.size, 0, none⟩) 1 [F[j]] (fat_one wr F[j]) (by have := del_len (F.take j) k; rw [List.length_take] at this; simp; omega) 48
        rw [← ht] at hr2
        obtain ⟨p5, c5, e5, -, -⟩ := hr.parts
        have hb2 : Hid (Below w.heap.size w w2) := Lib.hid ((hb.trans (hba.mono hbw)).grown hg2 (Nat.le_trans hbw hba.size) (fun k hk => (hr.block hk).1))
        rw [show [F[j]].length = 1 from rfl] at hrun hr2
        subst e5
        replace hrun := Lib.hid hrun
        replace hr2 := Lib.hid hr2
        replace hb := Lib.hid hb
        replace hk := Lib.hid hk
        generalize (delF (F.take j) k).length = m5 at *
        generalize F[j].1 = x at *
        generalize F[j].2 = y at *
        clear ht hr hba ho2 hg2 hbw
        go_wp2_with (at_builtin; (refine wpList_append_run (sv := .slice p5 m5 c5) (xv := .slice (some ⟨wr.heap.size, 0, none⟩) 1 1) rfl (.tmp 20) (.tmp 25) rfl rfl rfl hrun.out ?_))
        go_roundg g
        case measure => omega
        case rel => exact ⟨j + 1, by omega, by omega, by go_num, hr2.out, hb2.out⟩
/-! with -/
theorem less_bef (a b : ByteArray) : Op.bytesLess a.toList b.toList = bef a b := by
  rw [bytesLess_eq, Go.Lib.toList_data, Go.Lib.toList_data]
  unfold bef
  rw [before_lt]
theorem FRow.at0 {B : Nat} {w : World} {F : Files} {p : Option Addr} {n c : Nat} (h : FRow B w (.slice p n c) F) : FAt w p F := by
  have := h.at 0 p n c rfl (Nat.zero_le _)
  rw [List.drop_zero] at this
  have e : (p.map fun a => a.add (0 * 2)) = p := by
    cases p with
    | none => rfl
    | some a => simp [Addr.add]
  rw [e] at this
  exact this
theorem ins_at (x : ByteArray × ByteArray) : ∀ (F : Files), Rise F → hasF F x.1 = false → ∀ j, j ≤ F.length → (∀ i (hi : i < F.length), i < j → bef F[i].1 x.1 = true) → (j = F.length ∨ ∃ hj : j < F.length, bef F[j].1 x.1 = false) → insF x F = F.take j ++ x :: F.drop j
  | [], _, _, j, hj, _, _ => by
    obtain rfl : j = 0 := by simpa using hj
    rfl
  | y :: r, hR, hx, 0, _, _, h2 => by
    unfold insF
    have hb : bef y.1 x.1 = false := by
      rcases h2 with h2 | ⟨_, h2⟩
      · simp at h2
      · exact h2
    have hne : ¬ y.1 = x.1 := by
      unfold hasF at hx
      simp only [List.any_cons, Bool.or_eq_false_iff, decide_eq_false_iff_not] at hx
      exact hx.1
    have hxy : bef x.1 y.1 = true := by
      cases hxy : bef x.1 y.1 with
      | true => rfl
      | false => exact absurd (bef_total hb hxy) hne
    rw [if_pos hxy]
    rfl
  | y :: r, hR, hx, j + 1, hj, h1, h2 => by
    obtain ⟨r1, r2⟩ := List.pairwise_cons.1 hR
    unfold hasF at hx
    simp only [List.any_cons, Bool.or_eq_false_iff, decide_eq_false_iff_not] at hx
    have hyx : bef y.1 x.1 = true := h1 0 (by simp) (by omega)
    unfold insF
    rw [if_neg (by rw [bef_asymm hyx]; decide)]
    rw [ins_at x r r2 hx.2 j (by simpa using hj) (fun i hi hij => h1 (i + 1) (by simpa using hi) (by omega)) (by
      rcases h2 with h2 | ⟨hj2, h2⟩
      · exact .inl (by simpa using h2)
      · exact .inr ⟨by simpa using hj2, h2⟩)]
    rfl
set_option maxRecDepth 100000 in
set_option maxHeartbeats 4000000 in
theorem with_calls {B : Nat} {w : World} {v : Value} {F : Files} (h : FRow B w v F) (hR : Rise F) (k s : ByteArray) (hl : F.length ≤ 1000) : Calls Tryd.prog 55 #[v, .agg #[.string k, .string s]] w fun e w' => ∃ v', e = .returned v' ∧ FRow w.heap.size w' v' (putF F k s) ∧ Below w.heap.size w w' := by
  have hm := made1 w #[.string k, .string s] 74
  obtain ⟨hbk, hB0, hz⟩ := hm
  obtain ⟨k0, k1, -⟩ := hbk.c2
  have hC := Lib.hid (without_calls (h.to hB0) k hl)
  have hR1 := Lib.hid (rise_del hR k)
  have hno : Hid (hasF (delF F k) k = false) := Lib.hid (by rw [has_del]; simp)
  have hl1 : Hid ((delF F k).length ≤ 1000) := Lib.hid (Nat.le_trans (del_len F k) hl)
  obtain ⟨G, hG⟩ : ∃ G, putF F k s = G := ⟨_, rfl⟩
  rw [hG]
  unfold putF at hG
  generalize delF F k = F1 at *
  replace hG := Lib.hid hG
  replace hB0 := Lib.hid hB0
  have hbk' := Lib.hid hbk
  have hz' := Lib.hid hz
  clear h hR hl hbk hz
  go_enter Tryd.func55, Tryd.ntmps55
  go_wp2_with fail
  refine hC.out.mono ?_
  rintro e w1 ⟨v1, rfl, hr1, hb1⟩
  obtain ⟨k0', k1', -⟩ := (hbk'.out.below hb1).c2
  obtain ⟨p, c, hv, hc1, hc2⟩ := hr1.parts
  subst hv
  have hr1' := Lib.hid hr1
  have hBw : Hid (Below w.heap.size w w1) := Lib.hid (Lx.bstep hB0.out (Nat.le_refl _) hb1)
  have hbk1 := Lib.hid (hbk'.out.below hb1)
  clear hr1 hC k0 k1 hbk' hB0 hb1
  obtain ⟨n, hn⟩ : ∃ n, F1.length = n := ⟨_, rfl⟩
  rw [hn] at hl1 hc1
  rw [hn] at hr1' ⊢
  have hl2 := hl1.out
  replace hn := Lib.hid hn
  replace hc1 := Lib.hid hc1
  replace hc2 := Lib.hid hc2
  go_wp2_with fail
  go_loopg [6] (n + 1) (fun g v6 A => ∃ j : Nat, j ≤ n ∧ n < j + g ∧ v6 = .int .i64 (j : Int) ∧ Hid (∀ i (hi : i < F1.length), i < j → bef F1[i].1 k = true) ∧ Below w1.heap.size w1 A)
  case atStart => exact ⟨0, by omega, by omega, rfl, Lib.hid (fun i hi h => by omega), Below.refl _ _⟩
  case round =>
    obtain ⟨j, hj, hg, rfl, hall, hb⟩ := hrel
    cases gk with
    | zero => omega
    | succ g =>
    have k2 := below_cell hb k0'
    have k3 := below_cell hb k1'
    by_cases hgo : ∃ hj : j < F1.length, bef F1[j].1 k = true
    case pos =>
      as_aux_lemma =>
      obtain ⟨hjl, hbf⟩ := hgo
      have hlt : j < n := by have := hn.out; omega
      have hd : decide (j < n) = true := decide_eq_true hlt
      have hj0 : (0 : Int) ≤ (j : Int) := by omega
      have hj1 : (j : Int) < (n : Int) := by omega
      obtain ⟨g1, c', e, q1, q2⟩ := (hr1'.out.to hb).get j hjl
      obtain rfl : p = some ⟨g1, 0, none⟩ := by injection e
      clear e
      have hall2 : Hid (∀ i (hi : i < F1.length), i < j + 1 → bef F1[i].1 k = true) := Lib.hid (fun i hi h => by
        by_cases h2 : i = j
        · subst h2; exact hbf
        · exact hall.out i hi (by omega))
      rw [← less_bef] at hbf
      generalize F1[j].1 = x at *
      replace hb := Lib.hid hb
      clear q2 hall
      go_wp2_with fail
      go_quiet (fail)
      go_wp2_with fail
      go_roundg g
      case measure => omega
      case rel => exact ⟨j + 1, by omega, by omega, by go_num, hall2, below_drewN hb.out _⟩
    case neg =>
      as_aux_lemma =>
      have hjn : Hid (j = F1.length ∨ ∃ hj : j < F1.length, bef F1[j].1 k = false) := Lib.hid (by
        have := hn.out
        by_cases hjl : j < F1.length
        · refine .inr ⟨hjl, ?_⟩
          cases hb : bef F1[j].1 k with
          | false => rfl
          | true => exact absurd ⟨hjl, hb⟩ hgo
        · exact .inl (by omega))
      have hins : Hid (F1.take j ++ (k, s) :: F1.drop j = G) := Lib.hid (by
        rw [← hG.out]
        exact (ins_at (k, s) F1 hR1.out hno.out j (by rw [hn.out]; exact hj) hall.out hjn.out).symm)
      have hj0 : (0 : Int) ≤ (j : Int) := by omega
      have hj1 : (j : Int) ≤ (n : Int) := by omega
      have hjc : (j : Int) ≤ (c : Int) := by have := hc1.out; omega
      have hjn2 : j ≤ n := hj
      have hb' := Lib.hid hb
      clear hall hgo hg hb hj
      have hend : ∀ W : World, Below w1.heap.size w1 W → True := fun _ _ => trivial
      clear hend
      by_cases hlt : j < n
      case pos =>
        have hd : decide (j < n) = true := decide_eq_true hlt
        have hj3 : (j : Int) < (n : Int) := by omega
        have hjl : j < F1.length := by rw [hn.out]; exact hlt
        obtain ⟨g1, c', e, q1, q2⟩ := (hr1'.out.to hb'.out).get j hjl
        obtain rfl : p = some ⟨g1, 0, none⟩ := by injection e
        clear e
        have hbf : Op.bytesLess F1[j].1.toList k.toList = false := by
          rw [less_bef]
          rcases hjn.out with h | ⟨_, h⟩
          · have := hn.out; omega
          · exact h
        generalize F1[j].1 = x at *
        clear q2
        go_wp2_with fail
        go_quiet (fail)
        clear q1 hbf hd hj3 hjl
        have hb4 := Lib.hid (below_drewN hb'.out nq)
        generalize wr.drewN nq = w4 at *
        have hs4 : w.heap.size ≤ w4.heap.size := by have := hBw.out.size; have := hb4.out.size; omega
        have htl : (F1.take j).length = j := by rw [List.length_take, hn.out]; omega
        obtain ⟨q5, d5, w5, hrun5, hr5, hg5, ho5⟩ := FRow.append (B := w.heap.size) (w := w4) (RRow.nil _ _ _) hs4 (some ⟨g1, 0, none⟩ : Option Addr) c (F1.take j) ((hr1'.out.to hb4.out).at0.take j) (by rw [htl]; simp; omega) 48
        rw [htl] at hrun5 hr5 ho5
        rw [show ([] : Files).length + j = j by simp] at hrun5 hr5 ho5
        rw [List.nil_append] at hr5
        have hb5 : Below w4.heap.size w4 w5 := (Below.refl _ _).grown hg5 (Nat.le_refl _) (fun k hk => by cases hk)
        obtain ⟨k4, k5, -⟩ := ((hbk1.out.below hb4.out).below hb5).c2
        have hba : Below w5.heap.size w5 (w5.alloc (.cells #[.string k, .string s] 74)) := (Below.refl _ _).alloc (Nat.le_refl _) _
        have hs5 := hb5.size
        obtain ⟨q7, d7, w7, hrun7, hr7, hg7, ho7⟩ := (FRow.to hr5 hba).append (Nat.le_trans (Nat.le_trans hs4 hs5) hba.size) (some ⟨w5.heap.size, 0, none⟩) 1 [(k, s)] (fat_one w5 (k, s)) (by rw [htl]; simp; omega) 48
        rw [htl, show [((k, s) : ByteArray × ByteArray)].length = 1 from rfl] at hrun7 hr7 ho7
        have hown5 : ∀ g, (Value.slice q5 j d5).ownBlock = some g → w4.heap.size ≤ g := fun g hg => by
          rcases ho5 with e | e
          · rw [e] at hg; cases hg
          · rw [e] at hg; cases hg; exact Nat.le_refl _
        have hb7 : Below w4.heap.size w4 w7 := (hb5.trans (hba.mono hs5)).grown hg7 (Nat.le_trans hs5 hba.size) hown5
        have hown7 : ∀ g, (Value.slice q7 (j + 1) d7).ownBlock = some g → w4.heap.size ≤ g := fun g hg => by
          rcases ho7 with e | e
          · exact hown5 g (e ▸ hg)
          · rw [e] at hg; cases hg; exact Nat.le_trans hs5 hba.size
        have hb17 : Below w1.heap.size w1 w7 := Lx.bstep hb4.out (Nat.le_refl _) hb7
        have hdl : (F1.drop j).length = n - j := by rw [List.length_drop, hn.out]
        have hs7 : w.heap.size ≤ w7.heap.size := Nat.le_trans hs4 hb7.size
        obtain ⟨q9, d9, w9, hrun9, hr9, hg9, -⟩ := hr7.append hs7 (if c = j then (some ⟨g1, 0, none⟩ : Option Addr) else (some ⟨g1, 0, none⟩ : Option Addr).map fun a => a.add (j * 2)) (c - j) (F1.drop j) (by
          by_cases hcj : c = j
          · have : F1.drop j = [] := by
              apply List.drop_of_length_le
              rw [hn.out]; have := hc1.out; omega
            rw [this]
            exact fun i u hu => by simp at hu
          · rw [if_neg hcj]
            exact (hr1'.out.to hb17).at j (some ⟨g1, 0, none⟩ : Option Addr) n c rfl (by rw [hn.out]; exact hjn2)) (by rw [List.length_append, htl, hdl]; simp; omega) 48
        have hl9 : (F1.take j ++ [(k, s)]).length = j + 1 := by rw [List.length_append, htl]; rfl
        rw [hdl, hl9] at hrun9 hr9
        have hb9 := Lib.hid (hb7.grown hg9 hb7.size hown7)
        have hfin : Hid (FRow w.heap.size w9 (.slice q9 (j + 1 + (n - j)) d9) G) := Lib.hid (by
          have e : F1.take j ++ [(k, s)] ++ F1.drop j = G := by rw [List.append_assoc]; exact hins.out
          rw [← e]
          exact hr9)
        have hall9 : Hid (Below w.heap.size w w9) := Lib.hid (Lx.bstep (Lx.bstep hBw.out (Nat.le_refl _) hb4.out) (Nat.le_refl _) hb9.out)
        replace hrun5 := Lib.hid hrun5
        replace hrun7 := Lib.hid hrun7
        clear hr5 hg5 ho5 hb5 hba hr7 hg7 ho7 hown5 hown7 hb7 hb17 hdl hr9 hg9 hl9 hs4 hs5 hs7 htl k0' k1' k2 k3
        by_cases hcj : c = j
        · exact absurd hc1.out (by omega)
        · rw [if_neg hcj] at hrun9
          rw [show ((some ⟨g1, 0, none⟩ : Option Addr).map fun a => a.add (j * 2)) = some ⟨g1, j * 2, none⟩ by simp [Addr.add, eq_comm]] at hrun9
          replace hrun9 := Lib.hid hrun9
          go_wp2_with (at_builtin; first | (refine wpList_append_run (sv := .slice none 0 0) (xv := .slice (some ⟨g1, 0, none⟩ : Option Addr) j c) rfl (.tmp 27) (.tmp 30) rfl rfl rfl hrun5.out ?_) | (refine wpList_append_run (sv := .slice q5 j d5) (xv := .slice (some ⟨w5.heap.size, 0, none⟩) 1 1) rfl (.tmp 32) (.tmp 34) rfl rfl rfl hrun7.out ?_) | (refine wpList_append_run (sv := .slice q7 (j + 1) d7) (xv := .slice (some ⟨g1, j * 2, none⟩ : Option Addr) (n - j) (c - j)) rfl (.tmp 36) (.tmp 39) rfl rfl rfl hrun9.out ?_))
          go_ret
          exact ⟨_, rfl, hfin.out, hall9.out⟩
      case neg =>
        obtain rfl : j = n := by omega
        have hd : decide (j < j) = false := decide_eq_false hlt
        have hj3 : ¬ (j : Int) < (j : Int) := by omega
        have hjl : ¬ j < j := Nat.lt_irrefl _
        go_wp2_with fail
        go_quiet (fail)
        clear hd hj3 hjl
        have hb4 := Lib.hid (below_drewN hb'.out nq)
        generalize wr.drewN nq = w4 at *
        have hs4 : w.heap.size ≤ w4.heap.size := by have := hBw.out.size; have := hb4.out.size; omega
        have htl : (F1.take j).length = j := by rw [List.length_take, hn.out]; omega
        obtain ⟨q5, d5, w5, hrun5, hr5, hg5, ho5⟩ := FRow.append (B := w.heap.size) (w := w4) (RRow.nil _ _ _) hs4 p c (F1.take j) ((hr1'.out.to hb4.out).at0.take j) (by rw [htl]; simp; omega) 48
        rw [htl] at hrun5 hr5 ho5
        rw [show ([] : Files).length + j = j by simp] at hrun5 hr5 ho5
        rw [List.nil_append] at hr5
        have hb5 : Below w4.heap.size w4 w5 := (Below.refl _ _).grown hg5 (Nat.le_refl _) (fun k hk => by cases hk)
        obtain ⟨k4, k5, -⟩ := ((hbk1.out.below hb4.out).below hb5).c2
        have hba : Below w5.heap.size w5 (w5.alloc (.cells #[.string k, .string s] 74)) := (Below.refl _ _).alloc (Nat.le_refl _) _
        have hs5 := hb5.size
        obtain ⟨q7, d7, w7, hrun7, hr7, hg7, ho7⟩ := (FRow.to hr5 hba).append (Nat.le_trans (Nat.le_trans hs4 hs5) hba.size) (some ⟨w5.heap.size, 0, none⟩) 1 [(k, s)] (fat_one w5 (k, s)) (by rw [htl]; simp; omega) 48
        rw [htl, show [((k, s) : ByteArray × ByteArray)].length = 1 from rfl] at hrun7 hr7 ho7
        have hown5 : ∀ g, (Value.slice q5 j d5).ownBlock = some g → w4.heap.size ≤ g := fun g hg => by
          rcases ho5 with e | e
          · rw [e] at hg; cases hg
          · rw [e] at hg; cases hg; exact Nat.le_refl _
        have hb7 : Below w4.heap.size w4 w7 := (hb5.trans (hba.mono hs5)).grown hg7 (Nat.le_trans hs5 hba.size) hown5
        have hown7 : ∀ g, (Value.slice q7 (j + 1) d7).ownBlock = some g → w4.heap.size ≤ g := fun g hg => by
          rcases ho7 with e | e
          · exact hown5 g (e ▸ hg)
          · rw [e] at hg; cases hg; exact Nat.le_trans hs5 hba.size
        have hb17 : Below w1.heap.size w1 w7 := Lx.bstep hb4.out (Nat.le_refl _) hb7
        have hdl : (F1.drop j).length = j - j := by rw [List.length_drop, hn.out]
        have hs7 : w.heap.size ≤ w7.heap.size := Nat.le_trans hs4 hb7.size
        obtain ⟨q9, d9, w9, hrun9, hr9, hg9, -⟩ := hr7.append hs7 (if c = j then p else p.map fun a => a.add (j * 2)) (c - j) (F1.drop j) (by
          by_cases hcj : c = j
          · have : F1.drop j = [] := by
              apply List.drop_of_length_le
              rw [hn.out]; have := hc1.out; omega
            rw [this]
            exact fun i u hu => by simp at hu
          · rw [if_neg hcj]
            exact (hr1'.out.to hb17).at j p j c rfl (by rw [hn.out]; exact hjn2)) (by rw [List.length_append, htl, hdl]; simp; omega) 48
        have hl9 : (F1.take j ++ [(k, s)]).length = j + 1 := by rw [List.length_append, htl]; rfl
        rw [hdl, hl9] at hrun9 hr9
        have hb9 := Lib.hid (hb7.grown hg9 hb7.size hown7)
        have hfin : Hid (FRow w.heap.size w9 (.slice q9 (j + 1 + (j - j)) d9) G) := Lib.hid (by
          have e : F1.take j ++ [(k, s)] ++ F1.drop j = G := by rw [List.append_assoc]; exact hins.out
          rw [← e]
          exact hr9)
        have hall9 : Hid (Below w.heap.size w w9) := Lib.hid (Lx.bstep (Lx.bstep hBw.out (Nat.le_refl _) hb4.out) (Nat.le_refl _) hb9.out)
        replace hrun5 := Lib.hid hrun5
        replace hrun7 := Lib.hid hrun7
        clear hr5 hg5 ho5 hb5 hba hr7 hg7 ho7 hown5 hown7 hb7 hb17 hdl hr9 hg9 hl9 hs4 hs5 hs7 htl k0' k1' k2 k3
        by_cases hcj : c = j
        · rw [if_pos hcj] at hrun9
          replace hrun9 := Lib.hid hrun9
          rw [hcj, Nat.sub_self, Nat.add_zero] at hrun9
          rw [Nat.sub_self, Nat.add_zero] at hfin
          rw [hcj] at hrun5
          go_wp2_with (at_builtin; first | (refine wpList_append_run (sv := .slice none 0 0) (xv := .slice p j j) rfl (.tmp 27) (.tmp 30) rfl rfl rfl hrun5.out ?_) | (refine wpList_append_run (sv := .slice q5 j d5) (xv := .slice (some ⟨w5.heap.size, 0, none⟩) 1 1) rfl (.tmp 32) (.tmp 34) rfl rfl rfl hrun7.out ?_) | (refine wpList_append_run (sv := .slice q7 (j + 1) d7) (xv := .slice p 0 0) rfl (.tmp 36) (.tmp 39) rfl rfl rfl hrun9.out ?_))
          go_ret
          exact ⟨_, rfl, hfin.out, hall9.out⟩
        · rw [if_neg hcj] at hrun9
          replace hrun9 := Lib.hid hrun9
          rw [Nat.sub_self, Nat.add_zero] at hrun9
          rw [Nat.sub_self, Nat.add_zero] at hfin
          go_wp2_with (at_builtin; first | (refine wpList_append_run (sv := .slice none 0 0) (xv := .slice p j c) rfl (.tmp 27) (.tmp 30) rfl rfl rfl hrun5.out ?_) | (refine wpList_append_run (sv := .slice q5 j d5) (xv := .slice (some ⟨w5.heap.size, 0, none⟩) 1 1) rfl (.tmp 32) (.tmp 34) rfl rfl rfl hrun7.out ?_) | (refine wpList_append_run (sv := .slice q7 (j + 1) d7) (xv := .slice (p.map fun a => a.add (j * 2)) 0 (c - j)) rfl (.tmp 36) (.tmp 39) rfl rfl rfl hrun9.out ?_))
          go_ret
          exact ⟨_, rfl, hfin.out, hall9.out⟩
end Go.Proofs.YtenjllkhbpoffaaDoor
