/-
  The walk of SegJoin.
-/
import Derived.Test.YtfcicfkgbepagaaSegPlain
import Derived.Test.YtfcicfkgbepagaaSegTells
namespace Go.Proofs.Ytfcicfkgbepagaa
open Go.RowKit

theorem len_of (ts : List (List UInt8)) (h : total ts ≤ 8192) : ∀ t ∈ ts, t.length ≤ 16384 := by
  intro t ht
  obtain ⟨i, hi, rfl⟩ := List.getElem_of_mem ht
  have := getD_len ts i hi
  rw [List.getD_eq_getElem?_getD, List.getElem?_eq_getElem hi] at this
  simp at this
  omega
theorem reads_pre {w : World} {p : Option Addr} {ts us : List (List UInt8)} {n c : Nat} (h : Reads w (.slice p n c) (ts ++ us)) : Reads w (.slice p ts.length c) ts := by
  obtain ⟨p', c', e, h1, h2, h3⟩ := h
  cases e
  rw [List.length_append] at h1
  refine ⟨p, c, rfl, by omega, h2, fun i hi => ?_⟩
  obtain ⟨a, e1, e2⟩ := h3 i (by rw [List.length_append]; omega)
  exact ⟨a, e1, by rw [e2, List.getElem_append_left hi]⟩
theorem reads_post {w : World} {p : Option Addr} {ts us : List (List UInt8)} {n c : Nat} (h : Reads w (.slice p n c) (ts ++ us)) : Reads w (.slice (p.map fun x => x.add ts.length) us.length (c - ts.length)) us := by
  obtain ⟨p', c', e, h1, h2, h3⟩ := h
  cases e
  rw [List.length_append] at h1
  refine ⟨_, _, rfl, by omega, by omega, fun i hi => ?_⟩
  obtain ⟨a, e1, e2⟩ := h3 (ts.length + i) (by rw [List.length_append]; omega)
  refine ⟨a.add ts.length, by rw [e1]; rfl, ?_⟩
  have : (a.add ts.length).add i = a.add (ts.length + i) := by
    unfold Addr.add
    by_cases h0 : ts.length = 0
    · simp [h0]
    · by_cases h4 : i = 0
      · simp [h4]
      · simp [h0, h4, Nat.add_assoc]
  rw [this, e2, List.getElem_append_right (by omega)]
  simp
theorem reads_end {w : World} {p q : Option Addr} {ts us : List (List UInt8)} {n c : Nat} (h : Reads w (.slice p n c) (ts ++ us)) (hc : c ≤ ts.length) : Reads w (.slice q us.length 0) us := by
  obtain ⟨p', c', e, h1, h2, h3⟩ := h
  cases e
  rw [List.length_append] at h1
  exact ⟨_, _, rfl, by omega, by unfold maxLen; omega, fun i hi => by omega⟩
/-- Small texts, or the law lets go. -/
def Small (ts : List (List UInt8)) : Prop := ts.length ≤ 100 ∧ total ts ≤ 8192
theorem size_says (v : Value) (ts : List (List UInt8)) (w : World) (h : Reads w v ts) (hn : Fits ts) :
    ∃ N : Nat, Calls Try.prog 25 #[v] w (fun e w' => e = .returned (.int .i64 (N : Int)) ∧ Below w.heap.size w w') ∧ ((N : Int) ≤ 8192 ↔ Small ts) := by
  refine ⟨if ts.length ≤ 100 then total ts else 1048576, ?_, ?_⟩
  · have := size_calls v ts w h hn
    by_cases h1 : ts.length ≤ 100
    · rw [if_pos h1] at *; exact this
    · rw [if_neg h1] at *; exact this
  · unfold Small
    by_cases h1 : ts.length ≤ 100
    · rw [if_pos h1]; omega
    · rw [if_neg h1]; omega

set_option maxRecDepth 100000 in
set_option maxHeartbeats 2000000 in
theorem Join_far (v : Value) (ts : List (List UInt8)) (b : ByteArray) (w : World) (N : Nat) (hN : Calls Try.prog 25 #[v] w (fun e w' => e = .returned (.int .i64 (N : Int)) ∧ Below w.heap.size w w')) (h : ¬ (N : Int) ≤ 8192 ∨ ¬ (b.size : Int) ≤ 16384) (hb : b.size ≤ maxLen) :
    Calls Try.prog 9 #[v, .string b] w fun e w' => e = .returned (.bool true) ∧ Below w.heap.size w w' := by
  have hN' := Lib.hid hN
  clear hN
  by_cases hx : (N : Int) ≤ 8192
  · have hy : decide ((16384 : Int) < (b.size : Int)) = true := by simp; omega
    have hx2 : decide ((8192 : Int) < (N : Int)) = false := by simp; omega
    clear h
    go_enter Try.func9, Try.ntmps9
    go_wp2_with fail
    refine hN'.out.mono ?_
    rintro e w1 ⟨rfl, hb1⟩
    go_wp2_with fail
    refine (works07_calls _).mono ?_
    rintro e w8 ⟨rfl, hb8⟩
    go_wp2_with fail
    go_ret
    exact ⟨rfl, Lx.bstep hb1 (Nat.le_refl _) hb8⟩
  · have hx2 : decide ((8192 : Int) < (N : Int)) = true := by simp; omega
    clear h
    go_enter Try.func9, Try.ntmps9
    go_wp2_with fail
    refine hN'.out.mono ?_
    rintro e w1 ⟨rfl, hb1⟩
    go_wp2_with fail
    refine (works07_calls _).mono ?_
    rintro e w8 ⟨rfl, hb8⟩
    go_wp2_with fail
    go_ret
    exact ⟨rfl, Lx.bstep hb1 (Nat.le_refl _) hb8⟩

set_option maxRecDepth 100000 in
set_option maxHeartbeats 2000000 in
theorem Join_near (v : Value) (ts : List (List UInt8)) (b : ByteArray) (w : World) (hr : Reads w v ts) (N : Nat) (hN : Calls Try.prog 25 #[v] w (fun e w' => e = .returned (.int .i64 (N : Int)) ∧ Below w.heap.size w w')) (hx : (N : Int) ≤ 8192) (hsm : Small ts) (hy : (b.size : Int) ≤ 16384) :
    Calls Try.prog 9 #[v, .string b] w fun e w' => e = .returned (.bool true) ∧ Below w.heap.size w w' := by
  have hN' := Lib.hid hN
  have hF := Lib.hid (fun W h => frames_calls v ts W h hsm.2 hsm.1)
  have hFs : (str (framesOf ts)).size ≤ 9392 := by rw [str_size, frames_len]; have := hsm.1; have := hsm.2; omega
  have hS := Lib.hid (fun W => (Scan_calls (str (framesOf ts) ++ b) W (by rw [ByteArray.size_append]; omega)).mono fun _ _ => scan_post)
  have hT := Lib.hid (fun W => (Scan_calls b W (by omega)).mono fun _ _ => scan_post)
  rw [str_append', str_data, scan_frames ts b.data.toList (len_of ts hsm.2), ← str_append', ← str_size] at hS
  have hlim : (scanAll b.data.toList).2.1 ≤ 16384 ∧ (scanAll b.data.toList).1.length ≤ 16384 := by
    have := scan_le (b.data.toList.length + 1) b.data.toList
    have e : b.data.toList.length = b.size := by simp
    unfold scanAll
    omega
  have hx2 : decide ((8192 : Int) < (N : Int)) = false := by simp; omega
  have hy2 : decide ((16384 : Int) < (b.size : Int)) = false := by simp; omega
  have hl100 := hsm.1
  clear hN hsm hx
  generalize str (framesOf ts) = F at *
  generalize hG : scanAll b.data.toList = R at *
  obtain ⟨Y, m, f⟩ := R
  dsimp only at *
  go_enter Try.func9, Try.ntmps9
  go_wp2_with fail
  refine hN'.out.mono ?_
  rintro e w1 ⟨rfl, hb1⟩
  replace hr := hr.below hb1
  go_wp2_with fail
  refine (hF.out _ hr).mono ?_
  rintro e w2 ⟨rfl, hb2⟩
  replace hr := hr.below hb2
  go_wp2_with fail
  refine (hS.out _).mono ?_
  rintro e w3 ⟨u, rfl, hu, hb3⟩
  replace hr := hr.below hb3
  go_wp2_with fail
  refine (hT.out _).mono ?_
  rintro e w4 ⟨z, rfl, hz, hb4⟩
  replace hr := hr.below hb4
  replace hu := hu.below hb4
  have hr' := Lib.hid hr
  have hu' := Lib.hid hu
  have hz' := Lib.hid hz
  obtain ⟨p1, c1, rfl, hc1, hc2, _⟩ := hr
  obtain ⟨p2, c2, rfl, hd1, hd2, _⟩ := hu
  obtain ⟨p3, c3, rfl, he1, he2, _⟩ := hz
  have hd3 : ts.length ≤ c2 := by rw [List.length_append] at hd1; omega
  clear hN' hF hS hT
  go_wp2_with fail
  refine (Same_calls _ _ ts ts _ (reads_pre hu'.out) hr'.out).mono ?_
  rintro e w5 ⟨rfl, hb5⟩
  rw [decide_eq_true (Eq.refl ts)]
  go_wp2_with fail
  all_goals
    have hu5 : Reads w5 _ (ts ++ Y) := hu'.out.below hb5
    have hz5 : Reads w5 _ Y := hz'.out.below hb5
    refine (Same_calls _ _ Y Y _ (by first | exact reads_post hu5 | exact reads_end hu5 (by omega)) hz5).mono ?_
    rintro e w6 ⟨rfl, hb6⟩
    rw [decide_eq_true (Eq.refl Y)]
    clear hu5 hz5
    go_wp2_with fail
    refine (works07_calls _).mono ?_
    rintro e w8 ⟨rfl, hb8⟩
    go_wp2_with fail
    go_ret
    exact ⟨rfl, Lx.bstep (Lx.bstep (Lx.bstep (Lx.bstep (Lx.bstep (Lx.bstep hb1 (Nat.le_refl _) hb2) (Nat.le_refl _) hb3) (Nat.le_refl _) hb4) (Nat.le_refl _) hb5) (Nat.le_refl _) hb6) (Nat.le_refl _) hb8⟩

theorem SegJoin_walk (v : Value) (ts : List (List UInt8)) (b : ByteArray) (w : World) (hr : Reads w v ts) (hn : Fits ts) (hb : b.size ≤ maxLen) :
    Calls Try.prog 9 #[v, .string b] w fun e w' => e = .returned (.bool true) ∧ Below w.heap.size w w' := by
  obtain ⟨N, hN, hN2⟩ := size_says v ts w hr hn
  by_cases h : (N : Int) ≤ 8192 ∧ (b.size : Int) ≤ 16384
  · exact Join_near v ts b w hr N hN h.1 (hN2.1 h.1) h.2
  · exact Join_far v ts b w N hN (by omega) hb
end Go.Proofs.Ytfcicfkgbepagaa
