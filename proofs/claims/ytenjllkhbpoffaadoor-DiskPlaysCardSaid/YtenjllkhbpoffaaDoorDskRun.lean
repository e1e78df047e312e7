/-
  One disk that the call made: its contracts in one word; works.
-/
import Derived.Test.YtenjllkhbpoffaaDoorDskAlt
namespace Go.Proofs.YtenjllkhbpoffaaDoor
open Go Go.Maps Go.WideMaps Go.Dsk Go.Lx Go.Lst Go.RowKit

def Run (w0 A : World) (b : Nat) (M : DM) : Prop := Dk A (fun k => w0.heap.size ≤ k ∧ k < A.heap.size) b M ∧ Below w0.heap.size w0 A
section
variable {w0 A A' : World} {b : Nat} {M M' : DM}
theorem Run.step (h : Run w0 A b M) (h1 : Dk A' (Gr (fun k => w0.heap.size ≤ k ∧ k < A.heap.size) A A') b M') (h2 : Stays (fun k => w0.heap.size ≤ k ∧ k < A.heap.size) A A') : Run w0 A' b M' := by
  have a1 := h.2.size
  have a2 := h2.size
  refine ⟨h1.grow (fun k hk => ?_) (fun k hk => hk.2), ?_⟩
  · rcases hk with hk | hk
    · exact ⟨hk.1, by omega⟩
    · exact ⟨by omega, hk.2⟩
  · exact h.2.trans ⟨h2.os, h2.tape, h2.output, h2.size, fun k hk => h2.block k (by omega) (fun e => by omega)⟩
theorem Run.below (h : Run w0 A b M) (hb : Below A.heap.size A A') : Run w0 A' b M :=
  ⟨(h.1.below hb).grow (fun k hk => ⟨hk.1, Nat.lt_of_lt_of_le hk.2 hb.size⟩) (fun k hk => hk.2), Lx.bstep h.2 (Nat.le_refl _) hb⟩
theorem Run.same (h : Run w0 A b M) (he : A = A') : Run w0 A' b M := he ▸ h
theorem New_run (w0 : World) (room : Int) (h : 0 ≤ room ∧ room ≤ 16777216) : Calls Tryd.prog 10 #[.int .i64 room] w0 fun y w' => ∃ b, y = .returned (.tuple #[.pointer (some ⟨b, 0, none⟩), .int .i64 0]) ∧ Run w0 w' b (newM room) :=
  (New_good w0 room h).mono fun _ w' ⟨b, he, hD, hB⟩ => ⟨b, he, hD.grow (fun k hk => hk.elim (fun h => h.elim) id) (fun k hk => hk.2), hB⟩
theorem New_run' (w0 A : World) (hB : Below w0.heap.size w0 A) (room : Int) (h : 0 ≤ room ∧ room ≤ 16777216) : Calls Tryd.prog 10 #[.int .i64 room] A fun y w' => ∃ b, y = .returned (.tuple #[.pointer (some ⟨b, 0, none⟩), .int .i64 0]) ∧ Run w0 w' b (newM room) :=
  (New_good A room h).mono fun _ w' ⟨b, he, hD, hB'⟩ => ⟨b, he, hD.grow (fun k hk => hk.elim (fun h => h.elim) (fun h => ⟨Nat.le_trans hB.size h.1, h.2⟩)) (fun k hk => hk.2), Lx.bstep hB (Nat.le_refl _) hB'⟩
theorem Append_run (h : Run w0 A b M) (k s : ByteArray) (hk : k.size ≤ maxLen) (hs : s.size ≤ maxLen) (hl : M.loose.length < 1000000) : Calls Tryd.prog 11 #[.pointer (some ⟨b, 0, none⟩), .string k, .string s] A fun y w' => y = .returned (.int .i64 (appE M k s)) ∧ Run w0 w' b (appM M k s) :=
  (Append_calls h.1 k s hk hs hl).mono fun _ _ ⟨he, h1, h2⟩ => ⟨he, h.step h1 h2⟩
theorem Cut_run (h : Run w0 A b M) (k : ByteArray) (n : Int) (hk : k.size ≤ maxLen) (hl : M.loose.length < 1000000) : Calls Tryd.prog 12 #[.pointer (some ⟨b, 0, none⟩), .string k, .int .i64 n] A fun y w' => y = .returned (.int .i64 (cutE M k n)) ∧ Run w0 w' b (cutM M k n) :=
  (Cut_calls h.1 k n hk hl).mono fun _ _ ⟨he, h1, h2⟩ => ⟨he, h.step h1 h2⟩
theorem Rename_run (h : Run w0 A b M) (k t : ByteArray) (hk : k.size ≤ maxLen) (ht : t.size ≤ maxLen) (hl : M.loose.length < 1000000) : Calls Tryd.prog 13 #[.pointer (some ⟨b, 0, none⟩), .string k, .string t] A fun y w' => y = .returned (.int .i64 (renE M k t)) ∧ Run w0 w' b (renM M k t) :=
  (Rename_calls h.1 k t hk ht hl).mono fun _ _ ⟨he, h1, h2⟩ => ⟨he, h.step h1 h2⟩
theorem Remove_run (h : Run w0 A b M) (k : ByteArray) (hk : k.size ≤ maxLen) (hl : M.loose.length < 1000000) : Calls Tryd.prog 14 #[.pointer (some ⟨b, 0, none⟩), .string k] A fun y w' => y = .returned (.int .i64 (remE M k)) ∧ Run w0 w' b (remM M k) :=
  (Remove_calls h.1 k hk hl).mono fun _ _ ⟨he, h1, h2⟩ => ⟨he, h.step h1 h2⟩
theorem Sync_run (h : Run w0 A b M) : Calls Tryd.prog 15 #[.pointer (some ⟨b, 0, none⟩)] A fun y w' => y = .returned (.int .i64 (burnE M)) ∧ Run w0 w' b (syncD M) :=
  (Sync_calls h.1).mono fun _ _ ⟨he, h1, h2⟩ => ⟨he, h.step h1 h2⟩
theorem Fuse_run (h : Run w0 A b M) (n : Int) (hn : n ≤ 9223372036854775807) : Calls Tryd.prog 20 #[.pointer (some ⟨b, 0, none⟩), .int .i64 n] A fun y w' => y = .returned (.int .i64 0) ∧ Run w0 w' b (fuseM M n) :=
  (Fuse_calls h.1 n hn).mono fun _ w' ⟨he, h1, h2⟩ => ⟨he, h.step (h1.grow (fun _ hk => .inl hk) (fun k hk => hk.elim (fun h => Nat.lt_of_lt_of_le h.2 h2.size) (fun h => h.2))) h2⟩
theorem Crash_run (h : Run w0 A b M) (c y : Int) (hl : M.loose.length < 1000000) : Calls Tryd.prog 18 #[.pointer (some ⟨b, 0, none⟩), .int .i64 c, .int .i64 y] A fun e w' => e = .returned (.int .i64 0) ∧ Run w0 w' b (crashM M c y) :=
  (Crash_calls h.1 c y hl).mono fun _ _ ⟨he, h1, h2⟩ => ⟨he, h.step h1 h2⟩
theorem Alter_run (h : Run w0 A b M) (k : ByteArray) (hk : k.size ≤ maxLen) (i y : Int) (hi : i ≤ 9223372036854775807) (hy : 0 ≤ y ∧ y < 256) : Calls Tryd.prog 28 #[.pointer (some ⟨b, 0, none⟩), .string k, .int .i64 i, .int .u8 y] A fun e w' => e = .returned (.int .i64 (alterE M k i)) ∧ Run w0 w' b (alterM M k i y) :=
  (Alter_calls h.1 k hk i y hi hy).mono fun _ _ ⟨he, h1, h2⟩ => ⟨he, h.step h1 h2⟩
theorem Read_run (h : Run w0 A b M) (k : ByteArray) (hk : k.size ≤ maxLen) : Calls Tryd.prog 17 #[.pointer (some ⟨b, 0, none⟩), .string k] A fun y w' => y = .returned (.tuple #[.string (readS M k), .int .i64 (readE M k)]) ∧ A = w' := Read_calls h.1 k hk
theorem Left_run (h : Run w0 A b M) : Calls Tryd.prog 21 #[.pointer (some ⟨b, 0, none⟩)] A fun y w' => y = .returned (.int .i64 (M.room - tot M.now)) ∧ Run w0 w' b M :=
  (Left_calls h.1).mono fun _ _ ⟨he, h1⟩ => ⟨he, h.below h1⟩
theorem Loose_run (h : Run w0 A b M) : Calls Tryd.prog 19 #[.pointer (some ⟨b, 0, none⟩)] A fun y w' => y = .returned (.int .i64 M.loose.length) ∧ A = w' := Loose_calls h.1
theorem Names_len (h : Run w0 A b M) : Calls Tryd.prog 16 #[.pointer (some ⟨b, 0, none⟩)] A fun y w' => ∃ p c, y = .returned (.slice p M.now.length c) ∧ Run w0 w' b M :=
  (Names_calls h.1).mono fun _ _ ⟨v, he, h1, h2⟩ => by
    obtain ⟨p, c, hv, -, -⟩ := Lst.own h1
    rw [List.length_map] at hv
    exact ⟨p, c, by rw [he, hv], h.below h2⟩
end
abbrev bA : ByteArray := ⟨#[97]⟩
abbrev bB : ByteArray := ⟨#[98]⟩
def W1 : DM := ⟨100, [], [(bA, ⟨#[120, 121]⟩)], [.app bA ⟨#[120, 121]⟩], -1⟩
def W2 : DM := ⟨100, [(bA, ⟨#[120, 121]⟩)], [(bA, ⟨#[120, 121]⟩)], [], -1⟩
def W3 : DM := ⟨100, [(bA, ⟨#[120, 121]⟩)], [(bA, ⟨#[120, 121, 122]⟩)], [.app bA ⟨#[122]⟩], -1⟩
def W4 : DM := ⟨100, [(bA, ⟨#[120, 121]⟩)], [(bA, ⟨#[120, 121, 122]⟩), (bB, ⟨#[119]⟩)], [.app bA ⟨#[122]⟩, .app bB ⟨#[119]⟩], -1⟩
def W5 : DM := ⟨100, [(bA, ⟨#[120, 121, 122]⟩), (bB, ⟨#[]⟩)], [(bA, ⟨#[120, 121, 122]⟩), (bB, ⟨#[]⟩)], [], -1⟩
def W6 : DM := ⟨100, [(bA, ⟨#[120, 121, 122]⟩), (bB, ⟨#[]⟩)], [(bA, ⟨#[120]⟩), (bB, ⟨#[]⟩)], [.cut bA 1], -1⟩
theorem w1 : appE (newM 100) bA ⟨#[120, 121]⟩ = 0 ∧ appM (newM 100) bA ⟨#[120, 121]⟩ = W1 := ⟨by kernel_rfl, by kernel_rfl⟩
theorem w2 : burnE W1 = 0 ∧ syncD W1 = W2 := ⟨by kernel_rfl, by kernel_rfl⟩
theorem w3 : appE W2 bA ⟨#[122]⟩ = 0 ∧ appM W2 bA ⟨#[122]⟩ = W3 := ⟨by kernel_rfl, by kernel_rfl⟩
theorem w4 : appE W3 bB ⟨#[119]⟩ = 0 ∧ appM W3 bB ⟨#[119]⟩ = W4 := ⟨by kernel_rfl, by kernel_rfl⟩
theorem w5 : crashM W4 1 0 = W5 := by kernel_rfl
theorem w6 : readS W5 bA = ⟨#[120, 121, 122]⟩ ∧ readE W5 bA = 0 ∧ readS W5 bB = ⟨#[]⟩ ∧ readE W5 bB = 0 := ⟨by kernel_rfl, by kernel_rfl, by kernel_rfl, by kernel_rfl⟩
theorem w7 : cutE W5 bA 1 = 0 ∧ cutM W5 bA 1 = W6 := ⟨by kernel_rfl, by kernel_rfl⟩
theorem w8 : crashM W6 0 0 = W5 := by kernel_rfl
theorem w9 : W5.room - tot W5.now = 97 ∧ W5.now.length = 2 := ⟨by kernel_rfl, by kernel_rfl⟩
end Go.Proofs.YtenjllkhbpoffaaDoor
