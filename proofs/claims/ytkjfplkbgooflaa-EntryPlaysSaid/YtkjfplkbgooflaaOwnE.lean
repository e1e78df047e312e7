/-
  entry.own: an entry with a conf of its own.
-/
import Derived.Test.YtkjfplkbgooflaaClone
import Derived.Test.YtkjfplkbgooflaaChain
namespace Go.Proofs.Ytkjfplkbgooflaa
open Go.RowKit Go.Lst Go.Lx

theorem strEntry : Str Try.prog 31 5 := ⟨⟨_, Try.underlying31, rfl⟩, by kernel_rfl⟩
def entV (e : Ent) (cv : Value) : Value := .agg #[.int .u64 e.i, .int .u64 e.t, .int .u8 e.k, .string e.s, cv]
set_option maxRecDepth 100000 in
set_option maxHeartbeats 1000000 in
theorem own_calls (B : Nat) (e : Ent) (cv : Value) (w : World) (h : Nums .i64 w cv e.c) (hl : e.c.length ≤ 100000) :
    Calls Try.prog 38 #[entV e cv] w fun x w' => ∃ cv', x = .returned (entV e cv') ∧ Cf B w' cv' e.c ∧ Below w.heap.size w w' := by
  obtain ⟨i, t, k, s, c⟩ := e
  dsimp only at h hl
  unfold entV
  dsimp only
  have hm := made2 w #[.int .u64 i, .int .u64 t, .int .u8 k, .string s, cv] #[.int .u64 0, .int .u64 0, .int .u8 0, .string ⟨#[]⟩, .slice none 0 0] 31 31
  dsimp only at hm
  have hwf := Lib.hid h.2
  have hC := Lib.hid (fun W h => CloneAny_calls cv c W h hl)
  obtain ⟨p, cc, rfl, -⟩ := h.parts
  replace h := Lib.hid h
  clear hl
  go_enter Try.func38, Try.ntmps38
  go_wp2_with fail
  generalize ((w.alloc (.cells #[.int .u64 i, .int .u64 t, .int .u8 k, .string s, .slice p c.length cc] 31)).alloc (.cells #[.int .u64 0, .int .u64 0, .int .u8 0, .string ⟨#[]⟩, .slice none 0 0] 31)) = W at *
  obtain ⟨hA, hR, hB, hz⟩ := hm
  ((with_reducible refine (hC.out _ (h.out.below hB)).mono ?_); rintro x w2 ⟨u, rfl, hown, hb2⟩)
  obtain ⟨q, l, d, rfl⟩ := own_slice hown
  replace hA := Lib.hid (hA.below hb2)
  replace hR := Lib.hid (hR.below hb2)
  replace hB := Lib.hid (Lx.bstep hB (Nat.le_refl _) hb2)
  replace hown := Lib.hid hown
  replace hz := Lib.hid hz
  clear hb2 h hC
  obtain ⟨a0, a1, a2, a3, a4, x0, x1, x2, x3, x4⟩ := hA.out.c5
  obtain ⟨r0, r1, r2, r3, r4, y0, y1, y2, y3, y4⟩ := hR.out.c5
  go_wp2_with fail
  have n1 : ∀ g, W.heap.size ≤ g → g ≠ w.heap.size := fun g hg => by have := hz.out; omega
  have n2 : ∀ g, W.heap.size ≤ g → g ≠ w.heap.size + 1 := fun g hg => by have := hz.out; omega
  refine bodyPost_ret (results_blk1 rfl rfl strEntry ((((((hR.out.keep (by omega)).put 0 _).put 1 _).put 2 _).put 3 _).put 4 _)) rfl ⟨_, rfl, Cf.own (B' := W.heap.size) (own_keep hown.out fun g hg => ?_) hwf.out, ?_⟩
  · have hg := (own_block hown.out hg).1
    exact (Below.heap_setCell _ _ _ _ (n2 g hg)).trans ((Below.heap_setCell _ _ _ _ (n2 g hg)).trans ((Below.heap_setCell _ _ _ _ (n2 g hg)).trans ((Below.heap_setCell _ _ _ _ (n2 g hg)).trans ((Below.heap_setCell _ _ _ _ (n2 g hg)).trans (Below.heap_setCell _ _ _ _ (n1 g hg))))))
  · exact (((((hB.out.setCell (Nat.le_refl _) _).setCell (Nat.le_succ _) _).setCell (Nat.le_succ _) _).setCell (Nat.le_succ _) _).setCell (Nat.le_succ _) _).setCell (Nat.le_succ _) _
end Go.Proofs.Ytkjfplkbgooflaa
