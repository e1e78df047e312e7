/-
  The walk of SegTurned.
-/
import Derived.Test.YtfcicfkgbepagaaSegCut
import Derived.Test.YtfcicfkgbepagaaSegBits
import Derived.Test.YtfcicfkgbepagaaCrcTurn
namespace Go.Proofs.Ytfcicfkgbepagaa
open Go.RowKit

/-- What holds in the loop: the bytes as they stand. -/
structure UInv (S : List UInt8) (V : BitVec 32) (f : Nat) (w : World) (k : Nat) (bs : List UInt8) (wr : World) : Prop where
  len : bs.length = S.length
  cells : ∀ j, j < S.length → wr.cell? ⟨w.heap.size, j, none⟩ = some (.int .u8 ((bs.getD j 0).toNat : Int))
  free : ∀ j, j < S.length → wr.frozen? ⟨w.heap.size, j, none⟩ = false
  below : Below w.heap.size w wr
  bs : bs = turn V f k S
theorem UInv.off {S : List UInt8} {V : BitVec 32} {f : Nat} {w : World} {k : Nat} {bs : List UInt8} {wr : World} (h : UInv S V f w k bs wr) (hv : V.getLsbD k = false) : UInv S V f w (k + 1) bs wr :=
  ⟨h.len, h.cells, h.free, h.below, by rw [turn, hv]; exact h.bs⟩
theorem UInv.on {S : List UInt8} {V : BitVec 32} {f : Nat} {w : World} {k : Nat} {bs : List UInt8} {wr : World} (h : UInv S V f w k bs wr) (hv : V.getLsbD k = true) (hf : f + k < 8 * S.length) (c : UInt8) (hc : bs.getD ((f + k) / 8) 0 = c) :
    UInv S V f w (k + 1) (flipAt bs (f + k)) (wr.setCell ⟨w.heap.size, (f + k) / 8, none⟩ (.int .u8 (Go.bits .xor .u8 (c.toNat : Int) (2 ^ ((f + k) % 8) % 256)))) := by
  have hm : (f + k) % 8 < 8 := Nat.mod_lt _ (by decide)
  have hj : (f + k) / 8 < S.length := by omega
  have hjb : (f + k) / 8 < bs.length := by rw [h.len]; exact hj
  rw [flip_byte c _ hm]
  refine ⟨by rw [flip_len, h.len], ?_, ?_, h.below.setCell (p := ⟨w.heap.size, (f + k) / 8, none⟩) (Nat.le_refl _) _, by rw [turn, hv, if_pos rfl, ← h.bs]⟩
  · intro j hj'
    unfold flipAt
    rw [hc]
    by_cases e : j = (f + k) / 8
    · subst e
      rw [World.cell?_setCell_same' _ _ _ (by rw [h.cells _ hj]; rfl)]
      simp [List.getD, hjb]
    · rw [World.cell?_setCell_other _ _ _ _ (by intro h'; cases h'; exact e rfl), h.cells j hj']
      simp [List.getD, List.getElem?_set, Ne.symm e]
  · intro j hj'
    rw [World.frozen?_setCell]
    exact h.free j hj'
theorem UInv.conv {S : List UInt8} {V : BitVec 32} {f : Nat} {w : World} {k : Nat} {bs : List UInt8} {wr : World} (h : UInv S V f w k bs wr) (n cap : Nat) (hn : n = S.length) :
    (convert 25 9 (.slice (some ⟨w.heap.size, 0, none⟩) n cap)).run Try.prog wr = .ok (.string (str bs)) wr := by
  subst hn
  have := run_convert_bytes_arg (P := Try.prog) wr 25 5 Try.underlying25 Try.underlying5 w.heap.size 0 S.length cap (bs.map fun b => (b.toNat : Int)) (by simp [h.len]) (fun i hi => by
    rw [Nat.zero_add, h.cells i hi]; simp [List.getD, h.len, hi]) 9 Try.underlying9
  rw [this]
  congr 2
  unfold strOfNums
  have e : (bs.map fun b => (b.toNat : Int)).map (fun n => UInt8.ofNat n.toNat) = bs := by
    rw [List.map_map]
    conv => rhs; rw [← List.map_id bs]
    congr 1
    funext b; simp
  rw [e]; rfl
theorem UInv.start (F : ByteArray) (V : BitVec 32) (w : World) : ∃ W, Lib.bytesWorld w 5 F = W ∧ Hid (∀ f, UInv F.data.toList V f w 0 F.data.toList W) := by
  refine ⟨_, rfl, Lib.hid fun f => ⟨by simp, fun j hj => Lib.bytesWorld_cell w _ F j (by simpa using hj), fun j hj => ?_, ⟨rfl, rfl, rfl, by rw [Lib.bytesWorld_size]; omega, fun k hk => Lib.bytesWorld_at_old w _ F k hk⟩, rfl⟩⟩
  have hsz : F.size ≤ (Lib.bytesCells w 5 F).size := by simp [Lib.bytesCells]
  have hj' : j < F.size := by simpa using hj
  simp [World.frozen?, Lib.bytesWorld_at_new]; omega

set_option maxRecDepth 100000 in
set_option maxHeartbeats 2000000 in
theorem Turned_far (v : Value) (a b : Int) (w : World) (N : Nat) (hN : Calls Try.prog 25 #[v] w (fun e w' => e = .returned (.int .i64 (N : Int)) ∧ Below w.heap.size w w')) (h : ¬ (N : Int) ≤ 8192 ∨ b = 0) :
    Calls Try.prog 8 #[v, .int .u16 a, .int .u32 b] w fun e w' => e = .returned (.bool true) ∧ Below w.heap.size w w' := by
  have hN' := Lib.hid hN
  clear hN
  by_cases hx : (N : Int) ≤ 8192
  · have hx2 : decide ((8192 : Int) < (N : Int)) = false := by simp; omega
    have hb0 : (b == 0) = true := by simp; omega
    clear h
    go_enter Try.func8, Try.ntmps8
    go_wp2_with fail
    refine hN'.out.mono ?_
    rintro e w1 ⟨rfl, hb1⟩
    go_wp2_with fail
    refine (works07_calls _).mono ?_
    rintro e w8 ⟨rfl, hb8⟩
    go_wp2_with fail
    go_ret
    exact ⟨rfl, Lx.bstep hb1 (Nat.le_refl _) hb8⟩
  · have hx2 : decide ((8192 : Int) < (N : Int)) = true := by simp; omega
    clear h
    go_enter Try.func8, Try.ntmps8
    go_wp2_with fail
    refine hN'.out.mono ?_
    rintro e w1 ⟨rfl, hb1⟩
    go_wp2_with fail
    refine (works07_calls _).mono ?_
    rintro e w8 ⟨rfl, hb8⟩
    go_wp2_with fail
    go_ret
    exact ⟨rfl, Lx.bstep hb1 (Nat.le_refl _) hb8⟩

set_option maxRecDepth 100000 in
set_option maxHeartbeats 2000000 in
theorem Turned_none (v : Value) (ts : List (List UInt8)) (a b : Int) (w : World) (hr : Reads w v ts) (N : Nat) (hN : Calls Try.prog 25 #[v] w (fun e w' => e = .returned (.int .i64 (N : Int)) ∧ Below w.heap.size w w')) (hx : (N : Int) ≤ 8192) (hb0 : (b == 0) = false) (hsm : Small ts) (h0 : framesOf ts = []) :
    Calls Try.prog 8 #[v, .int .u16 a, .int .u32 b] w fun e w' => e = .returned (.bool true) ∧ Below w.heap.size w w' := by
  have hN' := Lib.hid hN
  have hx2 : decide ((8192 : Int) < (N : Int)) = false := by simp; omega
  have hF := Lib.hid (fun W h => frames_calls v ts W h hsm.2 hsm.1)
  have hE : (str []).toList = [] := str_list _
  rw [h0] at hF
  clear hN hsm h0
  go_enter Try.func8, Try.ntmps8
  go_wp2_with fail
  refine hN'.out.mono ?_
  rintro e w1 ⟨rfl, hb1⟩
  replace hr := hr.below hb1
  go_wp2_with fail
  refine (hF.out _ hr).mono ?_
  rintro e w2 ⟨rfl, hb2⟩
  go_wp2_with fail
  refine (works07_calls _).mono ?_
  rintro e w8 ⟨rfl, hb8⟩
  go_wp2_with fail
  go_ret
  exact ⟨rfl, Lx.bstep (Lx.bstep hb1 (Nat.le_refl _) hb2) (Nat.le_refl _) hb8⟩

/-- The bits as the law turns them: the lowest is set. -/
theorem bits_odd (V : BitVec 32) : (((Go.bits .and .u32 (V.toNat : Int) 1 == 0) = false) ∧ V.getLsbD 0 = true) ∨ (((Go.bits .and .u32 (V.toNat : Int) 1 == 0) = true) ∧ ∃ V' : BitVec 32, V'.getLsbD 0 = true ∧ (V.toNat : Int) + 1 = (V'.toNat : Int)) := by
  have h1 : Go.bits .and .u32 (V.toNat : Int) 1 = ((V &&& 1#32).toNat : Int) := Lx.and32 _ 1#32
  have h2 : V.toNat % 2 = (V.getLsbD 0).toNat := by
    rw [BitVec.getLsbD, Nat.testBit_zero]
    have : V.toNat % 2 = 0 ∨ V.toNat % 2 = 1 := by omega
    rcases this with h | h <;> simp [h]
  rw [h1, BitVec.toNat_and, show (1#32).toNat = 1 from rfl, Nat.and_one_is_mod]
  cases hv : V.getLsbD 0 with
  | true => rw [hv] at h2; exact .inl ⟨by rw [h2]; rfl, rfl⟩
  | false =>
    rw [hv] at h2
    refine .inr ⟨by rw [h2]; rfl, V + 1#32, ?_, ?_⟩
    · have : (V + 1#32).toNat = V.toNat + 1 := by
        have := V.isLt
        have h3 : V.toNat % 2 = 0 := h2
        rw [BitVec.toNat_add]; simp; omega
      rw [BitVec.getLsbD, this, Nat.testBit_zero]
      have h3 : V.toNat % 2 = 0 := h2
      simp; omega
    · have := V.isLt
      have h3 : V.toNat % 2 = 0 := h2
      rw [BitVec.toNat_add]; simp; omega

set_option maxRecDepth 100000 in
set_option maxHeartbeats 4000000 in
theorem Turned_near (v : Value) (ts : List (List UInt8)) (a : Int) (V : BitVec 32) (w : World) (hr : Reads w v ts) (N : Nat) (hN : Calls Try.prog 25 #[v] w (fun e w' => e = .returned (.int .i64 (N : Int)) ∧ Below w.heap.size w w')) (hx : (N : Int) ≤ 8192) (hb0 : ((V.toNat : Int) == 0) = false) (hsm : Small ts) (h0 : framesOf ts ≠ []) (ha : 0 ≤ a ∧ a < 65536)
    (hodd : ((Go.bits .and .u32 (V.toNat : Int) 1 == 0) = false)) (hV : V.getLsbD 0 = true) :
    Calls Try.prog 8 #[v, .int .u16 a, .int .u32 (V.toNat : Int)] w fun e w' => e = .returned (.bool true) ∧ Below w.heap.size w w' := by
  have hN' := Lib.hid hN
  have hx2 : decide ((8192 : Int) < (N : Int)) = false := by simp; omega
  have hF := Lib.hid (fun W h => frames_calls v ts W h hsm.2 hsm.1)
  have hFs : ((str (framesOf ts)).size : Int) ≤ 9392 := by rw [str_size, frames_len]; have := hsm.1; have := hsm.2; omega
  have hFl : (str (framesOf ts)).size = (framesOf ts).length := str_size _
  have hFd : (str (framesOf ts)).data.toList = framesOf ts := str_data _
  have hF1 : (str (framesOf ts)).toList = framesOf ts := str_list _
  have hF0 : (str (framesOf ts)).toList.isEmpty = false := by rw [hF1]; simpa using h0
  have hpos : 0 < (str (framesOf ts)).size := by rw [hFl]; exact List.length_pos_iff.2 h0
  have hscan := Lib.hid (fun f k hk0 hk hf => scan_turned ts (len_of ts hsm.2) V f k hV hk0 hk hf)
  rw [← hFl] at hscan
  have hl100 := hsm.1
  obtain ⟨f, hf, hfl⟩ : ∃ f : Nat, a % (8 * (((str (framesOf ts)).size : Nat) : Int)) = (f : Int) ∧ f < 8 * (str (framesOf ts)).size := by
    have h3 := Int.emod_nonneg a (show (8 * (((str (framesOf ts)).size : Nat) : Int)) ≠ 0 by omega)
    have h4 := Int.emod_lt_of_pos a (show 0 < (8 * (((str (framesOf ts)).size : Nat) : Int)) by omega)
    exact ⟨(a % (8 * (((str (framesOf ts)).size : Nat) : Int))).toNat, by omega, by omega⟩
  clear hN hsm h0 hF1 hV hx
  generalize hFeq : str (framesOf ts) = F at *
  generalize framesOf ts = S at *
  clear hFeq
  subst hFd
  have hFl' := Lib.hid hFl
  clear hFl
  go_enter Try.func8, Try.ntmps8
  go_wp2_with fail
  refine hN'.out.mono ?_
  rintro e w1 ⟨rfl, hb1⟩
  replace hr := hr.below hb1
  go_wp2_with fail
  refine (hF.out _ hr).mono ?_
  rintro e w2 ⟨rfl, hb2⟩
  replace hr := hr.below hb2
  have hcv := Lib.run_convert_string_bytes (P := Try.prog) w2 9 25 5 F Try.underlying9 Try.underlying25 Try.underlying5
  obtain ⟨cap, hcap⟩ : ∃ cap, grownCap w2 F.size 0 5 = cap := ⟨_, rfl⟩
  rw [hcap] at hcv
  clear hcap
  obtain ⟨W, hW, hI⟩ := UInv.start F V w2
  rw [hW] at hcv
  clear hW
  clear hN' hF
  go_wp2_with fail
  clear hcv
  rw [hf]
  clear hf ha hb0 hx2
  have hf1 : (f : Int) < 8 * (F.size : Int) := by omega
  have hr' := Lib.hid hr
  go_loopw [11] (fun v11 wr => ∃ (k : Nat) (bs : List UInt8), k ≤ 32 ∧ f + k ≤ 8 * F.size ∧ v11 = .int .i64 k ∧ UInv F.data.toList V f w2 k bs wr) (fun v11 _ => 32 - (intOf v11).toNat)
  case atStart => exact ⟨0, F.data.toList, by omega, by omega, rfl, hI.out f⟩
  case round =>
    clear hI hr
    obtain ⟨k, bs, hk, hfk, rfl, HI⟩ := hrel
    by_cases hk32 : k < 32 ∧ f + k < 8 * F.size
    · obtain ⟨hk32, hfn⟩ := hk32
      have hbt := bit_test V k
      cases hbk : V.getLsbD k with
      | true =>
        rw [hbk] at hbt
        have hbk' := Lib.hid hbk
        clear hbk
        have hj : (f + k) / 8 < F.data.toList.length := by rw [← hFl'.out]; omega
        have hc := HI.cells _ hj
        have hfr := HI.free _ hj
        generalize hcc : bs.getD ((f + k) / 8) 0 = c at hc
        have hcc' := Lib.hid hcc
        clear hcc
        have hc0 : (c.toNat : Int) < 256 := by have := c.toNat_lt; omega
        go_wp2_with fail
        go_roundw
        case rel => exact ⟨k + 1, _, by omega, by omega, by go_num, HI.on hbk'.out (by rw [← hFl'.out]; exact hfn) c hcc'.out⟩
        case measure => simp [intOf]; omega
      | false =>
        rw [hbk] at hbt
        have hbk' := Lib.hid hbk
        clear hbk
        go_wp2_with fail
        go_roundw
        case rel => exact ⟨k + 1, bs, by omega, by omega, by go_num, HI.off hbk'.out⟩
        case measure => simp [intOf]; omega
    · have hk0 : 0 < k := by omega
      obtain ⟨j, g, hj, hg, hsc⟩ := hscan.out f k hk0 hk hfl
      rw [← HI.bs] at hsc
      have hconv := HI.conv F.size cap hFl'.out
      have hbl : (str bs).size = F.size := by rw [str_size, HI.len, hFl'.out]
      have hS := Lib.hid (fun W => (Scan_calls (str bs) W (by omega)).mono fun _ _ => scan_post)
      rw [str_data, hsc] at hS
      have hb3 := HI.below
      have hr := hr'.out.below hb3
      have hlj : (ts.take j).length = j := by rw [List.length_take]; omega
      have hg' : (g : Int) ≤ (f : Int) / 8 := by omega
      have hj' : (j : Int) < (ts.length : Int) := by omega
      generalize str bs = G at *
      dsimp only at *
      have hst : decide ((k : Int) < 32) = false ∨ (decide ((k : Int) < 32) = true ∧ decide ((f : Int) + (k : Int) < 8 * (F.size : Int)) = false) := by simp; omega
      have hk1 : (k : Int) ≤ 32 := by omega
      have hgd : decide ((g : Int) ≤ (f : Int) / 8) = true := by simp; omega
      have hjd : decide ((j : Int) < (ts.length : Int)) = true := by simp; omega
      clear hscan hsc HI
      rcases hst with hst | ⟨hst, hst2⟩
      all_goals
        go_wp2_with fail
        refine (hS.out _).mono ?_
        rintro e w3 ⟨u, rfl, hu, hb4⟩
        replace hr := hr.below hb4
        have hr' := Lib.hid hr
        have hu' := Lib.hid hu
        obtain ⟨p1, d1, rfl, hc1, hc2, hcell⟩ := hr
        obtain ⟨p2, d2, rfl, hd1, hd2, _⟩ := hu
        rw [hlj] at *
        have hjc : j ≤ d1 := by omega
        clear hS hcell
        go_wp2_with fail
        refine (Same_calls _ _ (ts.take j) (ts.take j) _ hu'.out (reads_take j (by omega) hr'.out)).mono ?_
        rintro e w4 ⟨rfl, hb5⟩
        rw [decide_eq_true (Eq.refl (ts.take j))]
        go_wp2_with fail
        refine (works07_calls _).mono ?_
        rintro e w8 ⟨rfl, hb8⟩
        go_wp2_with fail
        go_ret
        exact ⟨rfl, Lx.bstep (Lx.bstep (Lx.bstep (Lx.bstep (Lx.bstep hb1 (Nat.le_refl _) hb2) (Nat.le_refl _) hb3) (Nat.le_refl _) hb4) (Nat.le_refl _) hb5) (Nat.le_refl _) hb8⟩
set_option maxRecDepth 100000 in
set_option maxHeartbeats 4000000 in
theorem Turned_even (v : Value) (ts : List (List UInt8)) (a : Int) (b : Int) (V : BitVec 32) (w : World) (hr : Reads w v ts) (N : Nat) (hN : Calls Try.prog 25 #[v] w (fun e w' => e = .returned (.int .i64 (N : Int)) ∧ Below w.heap.size w w')) (hx : (N : Int) ≤ 8192) (hb0 : (b == 0) = false) (hsm : Small ts) (h0 : framesOf ts ≠ []) (ha : 0 ≤ a ∧ a < 65536)
    (hodd : ((Go.bits .and .u32 b 1 == 0) = true)) (hplus : IntKind.u32.wrap (b + 1) = (V.toNat : Int)) (hV : V.getLsbD 0 = true) :
    Calls Try.prog 8 #[v, .int .u16 a, .int .u32 b] w fun e w' => e = .returned (.bool true) ∧ Below w.heap.size w w' := by
  have hN' := Lib.hid hN
  have hx2 : decide ((8192 : Int) < (N : Int)) = false := by simp; omega
  have hF := Lib.hid (fun W h => frames_calls v ts W h hsm.2 hsm.1)
  have hFs : ((str (framesOf ts)).size : Int) ≤ 9392 := by rw [str_size, frames_len]; have := hsm.1; have := hsm.2; omega
  have hFl : (str (framesOf ts)).size = (framesOf ts).length := str_size _
  have hFd : (str (framesOf ts)).data.toList = framesOf ts := str_data _
  have hF1 : (str (framesOf ts)).toList = framesOf ts := str_list _
  have hF0 : (str (framesOf ts)).toList.isEmpty = false := by rw [hF1]; simpa using h0
  have hpos : 0 < (str (framesOf ts)).size := by rw [hFl]; exact List.length_pos_iff.2 h0
  have hscan := Lib.hid (fun f k hk0 hk hf => scan_turned ts (len_of ts hsm.2) V f k hV hk0 hk hf)
  rw [← hFl] at hscan
  have hl100 := hsm.1
  obtain ⟨f, hf, hfl⟩ : ∃ f : Nat, a % (8 * (((str (framesOf ts)).size : Nat) : Int)) = (f : Int) ∧ f < 8 * (str (framesOf ts)).size := by
    have h3 := Int.emod_nonneg a (show (8 * (((str (framesOf ts)).size : Nat) : Int)) ≠ 0 by omega)
    have h4 := Int.emod_lt_of_pos a (show 0 < (8 * (((str (framesOf ts)).size : Nat) : Int)) by omega)
    exact ⟨(a % (8 * (((str (framesOf ts)).size : Nat) : Int))).toNat, by omega, by omega⟩
  clear hN hsm h0 hF1 hV hx
  generalize hFeq : str (framesOf ts) = F at *
  generalize framesOf ts = S at *
  clear hFeq
  subst hFd
  have hFl' := Lib.hid hFl
  clear hFl
  go_enter Try.func8, Try.ntmps8
  go_wp2_with fail
  refine hN'.out.mono ?_
  rintro e w1 ⟨rfl, hb1⟩
  replace hr := hr.below hb1
  go_wp2_with fail
  refine (hF.out _ hr).mono ?_
  rintro e w2 ⟨rfl, hb2⟩
  replace hr := hr.below hb2
  have hcv := Lib.run_convert_string_bytes (P := Try.prog) w2 9 25 5 F Try.underlying9 Try.underlying25 Try.underlying5
  obtain ⟨cap, hcap⟩ : ∃ cap, grownCap w2 F.size 0 5 = cap := ⟨_, rfl⟩
  rw [hcap] at hcv
  clear hcap
  obtain ⟨W, hW, hI⟩ := UInv.start F V w2
  rw [hW] at hcv
  clear hW
  clear hN' hF
  go_wp2_with fail
  clear hcv
  rw [hf]
  clear hf ha hb0 hx2 hplus
  have hf1 : (f : Int) < 8 * (F.size : Int) := by omega
  have hr' := Lib.hid hr
  go_loopw [11] (fun v11 wr => ∃ (k : Nat) (bs : List UInt8), k ≤ 32 ∧ f + k ≤ 8 * F.size ∧ v11 = .int .i64 k ∧ UInv F.data.toList V f w2 k bs wr) (fun v11 _ => 32 - (intOf v11).toNat)
  case atStart => exact ⟨0, F.data.toList, by omega, by omega, rfl, hI.out f⟩
  case round =>
    clear hI hr
    obtain ⟨k, bs, hk, hfk, rfl, HI⟩ := hrel
    by_cases hk32 : k < 32 ∧ f + k < 8 * F.size
    · obtain ⟨hk32, hfn⟩ := hk32
      have hbt := bit_test V k
      cases hbk : V.getLsbD k with
      | true =>
        rw [hbk] at hbt
        have hbk' := Lib.hid hbk
        clear hbk
        have hj : (f + k) / 8 < F.data.toList.length := by rw [← hFl'.out]; omega
        have hc := HI.cells _ hj
        have hfr := HI.free _ hj
        generalize hcc : bs.getD ((f + k) / 8) 0 = c at hc
        have hcc' := Lib.hid hcc
        clear hcc
        have hc0 : (c.toNat : Int) < 256 := by have := c.toNat_lt; omega
        go_wp2_with fail
        go_roundw
        case rel => exact ⟨k + 1, _, by omega, by omega, by go_num, HI.on hbk'.out (by rw [← hFl'.out]; exact hfn) c hcc'.out⟩
        case measure => simp [intOf]; omega
      | false =>
        rw [hbk] at hbt
        have hbk' := Lib.hid hbk
        clear hbk
        go_wp2_with fail
        go_roundw
        case rel => exact ⟨k + 1, bs, by omega, by omega, by go_num, HI.off hbk'.out⟩
        case measure => simp [intOf]; omega
    · have hk0 : 0 < k := by omega
      obtain ⟨j, g, hj, hg, hsc⟩ := hscan.out f k hk0 hk hfl
      rw [← HI.bs] at hsc
      have hconv := HI.conv F.size cap hFl'.out
      have hbl : (str bs).size = F.size := by rw [str_size, HI.len, hFl'.out]
      have hS := Lib.hid (fun W => (Scan_calls (str bs) W (by omega)).mono fun _ _ => scan_post)
      rw [str_data, hsc] at hS
      have hb3 := HI.below
      have hr := hr'.out.below hb3
      have hlj : (ts.take j).length = j := by rw [List.length_take]; omega
      have hg' : (g : Int) ≤ (f : Int) / 8 := by omega
      have hj' : (j : Int) < (ts.length : Int) := by omega
      generalize str bs = G at *
      dsimp only at *
      have hst : decide ((k : Int) < 32) = false ∨ (decide ((k : Int) < 32) = true ∧ decide ((f : Int) + (k : Int) < 8 * (F.size : Int)) = false) := by simp; omega
      have hk1 : (k : Int) ≤ 32 := by omega
      have hgd : decide ((g : Int) ≤ (f : Int) / 8) = true := by simp; omega
      have hjd : decide ((j : Int) < (ts.length : Int)) = true := by simp; omega
      clear hscan hsc HI
      rcases hst with hst | ⟨hst, hst2⟩
      all_goals
        go_wp2_with fail
        refine (hS.out _).mono ?_
        rintro e w3 ⟨u, rfl, hu, hb4⟩
        replace hr := hr.below hb4
        have hr' := Lib.hid hr
        have hu' := Lib.hid hu
        obtain ⟨p1, d1, rfl, hc1, hc2, hcell⟩ := hr
        obtain ⟨p2, d2, rfl, hd1, hd2, _⟩ := hu
        rw [hlj] at *
        have hjc : j ≤ d1 := by omega
        clear hS hcell
        go_wp2_with fail
        refine (Same_calls _ _ (ts.take j) (ts.take j) _ hu'.out (reads_take j (by omega) hr'.out)).mono ?_
        rintro e w4 ⟨rfl, hb5⟩
        rw [decide_eq_true (Eq.refl (ts.take j))]
        go_wp2_with fail
        refine (works07_calls _).mono ?_
        rintro e w8 ⟨rfl, hb8⟩
        go_wp2_with fail
        go_ret
        exact ⟨rfl, Lx.bstep (Lx.bstep (Lx.bstep (Lx.bstep (Lx.bstep hb1 (Nat.le_refl _) hb2) (Nat.le_refl _) hb3) (Nat.le_refl _) hb4) (Nat.le_refl _) hb5) (Nat.le_refl _) hb8⟩

theorem SegTurned_walk (v : Value) (ts : List (List UInt8)) (a b : Int) (w : World) (hr : Reads w v ts) (hn : Fits ts) (wa : (Lit.int .u16 a).wf = true) (wb : (Lit.int .u32 b).wf = true) :
    Calls Try.prog 8 #[v, .int .u16 a, .int .u32 b] w fun e w' => e = .returned (.bool true) ∧ Below w.heap.size w w' := by
  obtain ⟨N, hN, hN2⟩ := size_says v ts w hr hn
  by_cases h : ¬ (N : Int) ≤ 8192 ∨ b = 0
  · exact Turned_far v a b w N hN h
  · have hx : (N : Int) ≤ 8192 := by omega
    have hb0 : (b == 0) = false := beq_eq_false_iff_ne.2 (by omega)
    by_cases h0 : framesOf ts = []
    · exact Turned_none v ts a b w hr N hN hx hb0 (hN2.1 hx) h0
    · obtain ⟨V, rfl⟩ := Lx.of32 b (by have := Lx.wf_u32 wb; omega) (by have := Lx.wf_u32 wb; omega)
      rcases bits_odd V with ⟨h1, h2⟩ | ⟨h1, V', h2, h3⟩
      · exact Turned_near v ts a V w hr N hN hx hb0 (hN2.1 hx) h0 (Lx.wf_u16 wa) h1 h2
      · refine Turned_even v ts a (V.toNat : Int) V' w hr N hN hx hb0 (hN2.1 hx) h0 (Lx.wf_u16 wa) h1 ?_ h2
        rw [h3]
        have := V'.isLt
        simp only [IntKind.wrap, IntKind.bits, IntKind.signed]
        simp; omega
end Go.Proofs.Ytfcicfkgbepagaa
