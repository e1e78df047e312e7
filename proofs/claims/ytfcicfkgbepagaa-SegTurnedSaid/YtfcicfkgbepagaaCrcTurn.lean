/-
  The walk of the law CrcTurned: it returns true. No condition beyond what an input of its type fulfils.
-/
import Derived.Test.YtfcicfkgbepagaaCrcLaw
import Derived.Lib.ConvBytes
import Derived.Laws.BytesArg
namespace Go.Proofs.Ytfcicfkgbepagaa
open Go.RowKit

theorem turned_early (s : ByteArray) (a v : Int) (w : World) (h : 16384 < s.size ∨ s.size = 0 ∨ v = 0) (hs : s.size ≤ maxLen) (ha : 0 ≤ a ∧ a < 65536) :
    Calls Try.prog 3 #[.string s, .int .u16 a, .int .u32 v] w fun e w' => e = .returned (.bool true) ∧ Below w.heap.size w w' := by
  by_cases h1 : 16384 < s.size
  · go_enter Try.func3, Try.ntmps3
    go_wp2_with fail
    refine (works04_calls _).mono ?_
    rintro e w1 ⟨rfl, hb1⟩
    go_wp2_with fail
    go_ret
    exact ⟨rfl, hb1⟩
  · have g1 : decide ((16384 : Int) < (s.size : Int)) = false := by simp; omega
    by_cases h2 : s.size = 0
    · have g2 : ((s.size : Int) == 0) = true := by simp [h2]
      have h3 := Lib.hid h2
      clear h h1 h2
      go_enter Try.func3, Try.ntmps3
      go_wp2_with fail
      refine (works04_calls _).mono ?_
      rintro e w1 ⟨rfl, hb1⟩
      go_wp2_with fail
      go_ret
      exact ⟨rfl, hb1⟩
    · have g2 : ((s.size : Int) == 0) = false := beq_eq_false_iff_ne.2 (by omega)
      have g3 : (v == 0) = true := by
        rcases h with h | h | h
        · exact absurd h h1
        · exact absurd h h2
        · simp [h]
      clear h h1 h2
      go_enter Try.func3, Try.ntmps3
      go_wp2_with fail
      refine (works04_calls _).mono ?_
      rintro e w1 ⟨rfl, hb1⟩
      go_wp2_with fail
      go_ret
      exact ⟨rfl, hb1⟩


/-- What holds in the loop: the bytes as they stand, what they have turned. -/
structure TInv (s : ByteArray) (V : BitVec 32) (f B : Nat) (w : World) (k : Nat) (t : Bool) (bs : List UInt8) (wr : World) : Prop where
  len : bs.length = s.size
  cells : ∀ j, j < s.size → wr.cell? ⟨B, j, none⟩ = some (.int .u8 ((bs.getD j 0).toNat : Int))
  free : ∀ j, j < s.size → wr.frozen? ⟨B, j, none⟩ = false
  below : Below w.heap.size w wr
  sum : Crc.fold (~~~ 0#32) bs = Crc.fold (~~~ 0#32) s.data.toList ^^^ Crc.Ln (8 * s.size - f) (Crc.low V k)
  told : t = true ↔ ∃ i, i < k ∧ V.getLsbD i = true

theorem TInv.off {s : ByteArray} {V : BitVec 32} {f B : Nat} {w : World} {k : Nat} {t : Bool} {bs : List UInt8} {wr : World} (h : TInv s V f B w k t bs wr) (hv : V.getLsbD k = false) : TInv s V f B w (k + 1) t bs wr :=
  ⟨h.len, h.cells, h.free, h.below, by rw [h.sum, Crc.low_off V k hv], by
    rw [h.told]
    constructor
    · rintro ⟨i, h1, h2⟩; exact ⟨i, by omega, h2⟩
    · rintro ⟨i, h1, h2⟩
      by_cases e : i = k
      · subst e; rw [hv] at h2; cases h2
      · exact ⟨i, by omega, h2⟩⟩
theorem flip_byte (c : UInt8) (m : Nat) (hm : m < 8) : Go.bits .xor .u8 (c.toNat : Int) (2 ^ m % 256) = (((UInt8.ofBitVec (c.toBitVec ^^^ BitVec.twoPow 8 m)).toNat : Nat) : Int) := by
  have h := Lx.xor8 c.toBitVec (BitVec.twoPow 8 m)
  have e : ((BitVec.twoPow 8 m).toNat : Int) = 2 ^ m % 256 := by
    rw [BitVec.toNat_twoPow]; simp
  rw [e] at h
  exact h
theorem TInv.on {s : ByteArray} {V : BitVec 32} {f B : Nat} {w : World} {k : Nat} {t : Bool} {bs : List UInt8} {wr : World} (h : TInv s V f B w k t bs wr) (hv : V.getLsbD k = true) (hk : k < 32) (hf : f + k < 8 * s.size) (hB : w.heap.size ≤ B)
    (c : UInt8) (hc : bs.getD ((f + k) / 8) 0 = c) :
    TInv s V f B w (k + 1) true (bs.set ((f + k) / 8) (UInt8.ofBitVec (c.toBitVec ^^^ BitVec.twoPow 8 ((f + k) % 8)))) (wr.setCell ⟨B, (f + k) / 8, none⟩ (.int .u8 (Go.bits .xor .u8 (c.toNat : Int) (2 ^ ((f + k) % 8) % 256)))) := by
  have hm : (f + k) % 8 < 8 := Nat.mod_lt _ (by decide)
  have hj : (f + k) / 8 < s.size := by omega
  have hjb : (f + k) / 8 < bs.length := by rw [h.len]; exact hj
  rw [flip_byte c _ hm]
  generalize hd : UInt8.ofBitVec (c.toBitVec ^^^ BitVec.twoPow 8 ((f + k) % 8)) = d
  have hdb : d.toBitVec = c.toBitVec ^^^ BitVec.twoPow 8 ((f + k) % 8) := by rw [← hd]
  refine ⟨by simp [h.len], ?_, ?_, h.below.setCell (p := ⟨B, (f + k) / 8, none⟩) hB _, ?_, by simp; exact ⟨k, by omega, hv⟩⟩
  · intro j hj'
    by_cases e : j = (f + k) / 8
    · subst e
      rw [World.cell?_setCell_same' _ _ _ (by rw [h.cells _ hj]; rfl)]
      simp [List.getD, hjb]
    · rw [World.cell?_setCell_other _ _ _ _ (by intro h'; cases h'; exact e rfl), h.cells j hj']
      simp [List.getD, List.getElem?_set, Ne.symm e]
  · intro j hj'
    rw [World.frozen?_setCell]
    exact h.free j hj'
  · have e1 : bs = bs.take ((f + k) / 8) ++ c :: bs.drop ((f + k) / 8 + 1) := by
      have hg : bs[(f + k) / 8] = c := by rw [← hc]; simp [List.getD, hjb]
      rw [← hg, List.getElem_cons_drop, List.take_append_drop]
    have e2 : bs.set ((f + k) / 8) d = bs.take ((f + k) / 8) ++ d :: bs.drop ((f + k) / 8 + 1) := List.set_eq_take_append_cons_drop ▸ by simp [hjb]
    have e3 : (bs.drop ((f + k) / 8 + 1)).length = s.size - (f + k) / 8 - 1 := by rw [List.length_drop, h.len]; omega
    rw [e2, Crc.fold_flip _ _ _ c d ((f + k) % 8) hm hdb, ← e1, h.sum, e3, Crc.Ln_low V _ k hk (by omega) hv, BitVec.xor_assoc]
    congr 3
    omega
theorem strOf (bs : List UInt8) : ∃ S : ByteArray, S.data.toList = bs ∧ S.size = bs.length := ⟨⟨bs.toArray⟩, by simp, by simp [ByteArray.size]⟩
theorem TInv.conv {s : ByteArray} {V : BitVec 32} {f B : Nat} {w : World} {k : Nat} {t : Bool} {bs : List UInt8} {wr : World} (h : TInv s V f B w k t bs wr) (S : ByteArray) (hS : S.data.toList = bs) (cap : Nat) :
    (convert 25 9 (.slice (some ⟨B, 0, none⟩) s.size cap)).run Try.prog wr = .ok (.string S) wr := by
  have := run_convert_bytes_arg (P := Try.prog) wr 25 5 Try.underlying25 Try.underlying5 B 0 s.size cap (bs.map fun b => (b.toNat : Int)) (by simp [h.len]) (fun i hi => by
    rw [Nat.zero_add, h.cells i hi]; simp [List.getD, h.len, hi]) 9 Try.underlying9
  rw [this]
  congr 2
  unfold strOfNums
  have e : (bs.map fun b => (b.toNat : Int)).map (fun n => UInt8.ofNat n.toNat) = bs := by
    rw [List.map_map]
    conv => rhs; rw [← List.map_id bs]
    congr 1
    funext b; simp
  rw [e, ← hS]
theorem TInv.ne {s : ByteArray} {V : BitVec 32} {f B : Nat} {w : World} {k : Nat} {t : Bool} {bs : List UInt8} {wr : World} (h : TInv s V f B w k t bs wr) (hk : k ≤ 32) (hf : f ≤ 8 * s.size) (ht : t = true) :
    (((Crc.crc bs).toNat : Int) != ((Crc.crc s.data.toList).toNat : Int)) = true := by
  rw [bne_iff_ne]
  intro he
  have h1 : Crc.crc bs = Crc.crc s.data.toList := BitVec.eq_of_toNat_eq (by omega)
  obtain ⟨i, hi, hv⟩ := h.told.1 ht
  have h2 : Crc.fold (~~~ 0#32) bs = Crc.fold (~~~ 0#32) s.data.toList := by
    have := congrArg (fun x => ~~~ x) h1
    simpa [Crc.crc, Crc.more] using this
  have h3 := h.sum
  rw [h2] at h3
  have h4 : Crc.Ln (8 * s.size - f) (Crc.low V k) = 0#32 := by
    have := congrArg (fun x => Crc.fold (~~~ 0#32) s.data.toList ^^^ x) h3
    simp only [BitVec.xor_self, ← BitVec.xor_assoc, BitVec.zero_xor] at this
    exact this.symm
  exact Crc.low_zero V k i hk hi hv _ h4
theorem and1_bit (x : BitVec 32) : (Go.bits .and .u32 (x.toNat : Int) 1 == 1) = x.getLsbD 0 := by
  have h1 : Go.bits .and .u32 (x.toNat : Int) 1 = ((x &&& 1#32).toNat : Int) := Lx.and32 _ 1#32
  have h2 : x.toNat % 2 = (x.getLsbD 0).toNat := by
    rw [BitVec.getLsbD, Nat.testBit_zero]
    have : x.toNat % 2 = 0 ∨ x.toNat % 2 = 1 := by omega
    rcases this with h | h <;> simp [h]
  rw [h1, BitVec.toNat_and, show (1#32).toNat = 1 from rfl, Nat.and_one_is_mod, h2]
  cases x.getLsbD 0 <;> rfl
theorem bit_test (V : BitVec 32) (k : Nat) : (Go.bits .and .u32 ((V.toNat : Int) / 2 ^ k) 1 == 1) = V.getLsbD k := by
  have e : (V.toNat : Int) / 2 ^ k = ((V >>> k).toNat : Int) := by
    rw [BitVec.toNat_ushiftRight, Nat.shiftRight_eq_div_pow]; simp
  rw [e, and1_bit, BitVec.getLsbD_ushiftRight, Nat.add_zero]

set_option maxRecDepth 100000 in
set_option maxHeartbeats 1000000 in
theorem turned_late (s : ByteArray) (a : Int) (V : BitVec 32) (w : World) (g1 : decide ((16384 : Int) < (s.size : Int)) = false) (g2 : ((s.size : Int) == 0) = false) (g3 : ((V.toNat : Int) == 0) = false) (h1 : (s.size : Int) ≤ 16384) (h2 : 0 < s.size) (ha : 0 ≤ a ∧ a < 65536) :
    Calls Try.prog 3 #[.string s, .int .u16 a, .int .u32 (V.toNat : Int)] w fun e w' => e = .returned (.bool true) ∧ Below w.heap.size w w' := by
  have hcv := Lib.run_convert_string_bytes (P := Try.prog) w 9 25 5 s Try.underlying9 Try.underlying25 Try.underlying5
  have hstart : ∃ W, Lib.bytesWorld w 5 s = W ∧ Hid (∀ f, TInv s V f w.heap.size w 0 false s.data.toList W) := by
    refine ⟨_, rfl, Lib.hid fun f => ⟨by simp, fun j hj => Lib.bytesWorld_cell w _ s j hj, fun j hj => ?_, ⟨rfl, rfl, rfl, by rw [Lib.bytesWorld_size]; omega, fun k hk => Lib.bytesWorld_at_old w _ s k hk⟩, by simp [Crc.low, Crc.Ln_zero], by simp⟩⟩
    have hsz : s.size ≤ (Lib.bytesCells w 5 s).size := by simp [Lib.bytesCells]
    simp [World.frozen?, Lib.bytesWorld_at_new]; omega
  obtain ⟨cap, hcap⟩ : ∃ cap, grownCap w s.size 0 5 = cap := ⟨_, rfl⟩
  rw [hcap] at hcv
  clear hcap
  obtain ⟨W, hW, hI⟩ := hstart
  rw [hW] at hcv
  clear hW
  obtain ⟨f, hf, hfl⟩ : ∃ f : Nat, a % (8 * (s.size : Int)) = (f : Int) ∧ f < 8 * s.size := by
    have h3 := Int.emod_nonneg a (show (8 * (s.size : Int)) ≠ 0 by omega)
    have h4 := Int.emod_lt_of_pos a (show 0 < (8 * (s.size : Int)) by omega)
    exact ⟨(a % (8 * (s.size : Int))).toNat, by omega, by omega⟩
  go_enter Try.func3, Try.ntmps3
  go_wp2_with fail
  rw [hf]
  clear hcv hf g1 g2 g3 ha
  have hf1 : (f : Int) < 8 * (s.size : Int) := by omega
  go_loopw [9, 10] (fun v9 v10 wr => ∃ (k : Nat) (t : Bool) (bs : List UInt8), k ≤ 32 ∧ f + k ≤ 8 * s.size ∧ v10 = .int .i64 k ∧ v9 = .bool t ∧ TInv s V f w.heap.size w k t bs wr) (fun _ v10 _ => 32 - (intOf v10).toNat)
  case atStart => exact ⟨0, false, s.data.toList, by omega, by omega, rfl, rfl, hI.out f⟩
  case round =>
    clear hI
    obtain ⟨k, t, bs, hk, hfk, rfl, rfl, HI⟩ := hrel
    by_cases hk32 : k < 32
    · by_cases hfn : f + k < 8 * s.size
      · have hbt := bit_test V k
        cases hbk : V.getLsbD k with
        | true =>
          rw [hbk] at hbt
          have hbk' := Lib.hid hbk
          clear hbk
          have hj : (f + k) / 8 < s.size := by omega
          have hc := HI.cells _ hj
          have hfr := HI.free _ hj
          generalize hcc : bs.getD ((f + k) / 8) 0 = c at hc
          have hcc' := Lib.hid hcc
          clear hcc
          have hc0 : (c.toNat : Int) < 256 := by have := c.toNat_lt; omega
          go_wp2_with fail
          go_roundw
          case rel => exact ⟨k + 1, true, _, by omega, by omega, by go_num, rfl, HI.on hbk'.out hk32 hfn (Nat.le_refl _) c hcc'.out⟩
          case measure => simp [intOf]; omega
        | false =>
          rw [hbk] at hbt
          have hbk' := Lib.hid hbk
          clear hbk
          go_wp2_with fail
          go_roundw
          case rel => exact ⟨k + 1, t, bs, by omega, by omega, by go_num, rfl, HI.off hbk'.out⟩
          case measure => simp [intOf]; omega
      · have hdone : k = 32 ∨ f + k = 8 * s.size := by omega
        have gk1 : decide ((k : Int) < 32) = true := by simp; omega
        have gk2 : decide ((f : Int) + (k : Int) < 8 * (s.size : Int)) = false := by simp; omega
        have hS := strOf bs
        obtain ⟨S, hSd, hSn⟩ := hS
        have hconv := HI.conv S hSd cap
        have hne := HI.ne hk (by omega)
        have hsm : s.size ≤ maxLen := by unfold maxLen; omega
        have hSm : S.size ≤ maxLen := by unfold maxLen; have := HI.len; omega
        have hb0 := HI.below
        have C1 := Lib.hid (fun W' => Of_calls S W' hSm)
        rw [hSd] at C1
        have C2 := Lib.hid (fun W' => Of_calls s W' hsm)
        cases t with
        | true =>
          have hne' := hne rfl
          clear hne
          go_wp2_with fail
          refine (C1.out _).mono ?_
          rintro e w1 ⟨rfl, hb1⟩
          go_wp2_with fail
          refine (C2.out _).mono ?_
          rintro e w2 ⟨rfl, hb2⟩
          go_wp2_with fail
          refine (works04_calls _).mono ?_
          rintro e w3 ⟨rfl, hb3⟩
          go_wp2_with fail
          go_ret
          exact ⟨rfl, Lx.bstep (Lx.bstep (Lx.bstep hb0 (Nat.le_refl _) hb1) (Nat.le_refl _) hb2) (Nat.le_refl _) hb3⟩
        | false =>
          clear hne
          go_wp2_with fail
          refine (works04_calls _).mono ?_
          rintro e w3 ⟨rfl, hb3⟩
          go_wp2_with fail
          go_ret
          exact ⟨rfl, Lx.bstep hb0 (Nat.le_refl _) hb3⟩
    · have gk1 : decide ((k : Int) < 32) = false := by simp; omega
      have hS := strOf bs
      obtain ⟨S, hSd, hSn⟩ := hS
      have hconv := HI.conv S hSd cap
      have hne := HI.ne hk (by omega)
      have hsm : s.size ≤ maxLen := by unfold maxLen; omega
      have hSm : S.size ≤ maxLen := by unfold maxLen; have := HI.len; omega
      have hb0 := HI.below
      have C1 := Lib.hid (fun W' => Of_calls S W' hSm)
      rw [hSd] at C1
      have C2 := Lib.hid (fun W' => Of_calls s W' hsm)
      cases t with
      | true =>
        have hne' := hne rfl
        clear hne
        go_wp2_with fail
        refine (C1.out _).mono ?_
        rintro e w1 ⟨rfl, hb1⟩
        go_wp2_with fail
        refine (C2.out _).mono ?_
        rintro e w2 ⟨rfl, hb2⟩
        go_wp2_with fail
        refine (works04_calls _).mono ?_
        rintro e w3 ⟨rfl, hb3⟩
        go_wp2_with fail
        go_ret
        exact ⟨rfl, Lx.bstep (Lx.bstep (Lx.bstep hb0 (Nat.le_refl _) hb1) (Nat.le_refl _) hb2) (Nat.le_refl _) hb3⟩
      | false =>
        clear hne
        go_wp2_with fail
        refine (works04_calls _).mono ?_
        rintro e w3 ⟨rfl, hb3⟩
        go_wp2_with fail
        go_ret
        exact ⟨rfl, Lx.bstep hb0 (Nat.le_refl _) hb3⟩

theorem CrcTurned_walk (s : ByteArray) (a v : Int) (w : World) (hs : s.size ≤ maxLen) (w1 : (Lit.int .u16 a).wf = true) (w2 : (Lit.int .u32 v).wf = true) :
    Calls Try.prog 3 #[.string s, .int .u16 a, .int .u32 v] w fun e w' => e = .returned (.bool true) ∧ Below w.heap.size w w' := by
  have ha := Lx.wf_u16 w1
  by_cases h : 16384 < s.size ∨ s.size = 0 ∨ v = 0
  · exact turned_early s a v w h hs ha
  · obtain ⟨V, rfl⟩ := Lx.of32 v (by have := Lx.wf_u32 w2; omega) (by have := Lx.wf_u32 w2; omega)
    exact turned_late s a V w (by simp; omega) (beq_eq_false_iff_ne.2 (by omega)) (beq_eq_false_iff_ne.2 (by omega)) (by omega) (by omega) ha
end Go.Proofs.Ytfcicfkgbepagaa
