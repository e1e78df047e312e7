/-
  A map of files (disk.files): what its operations give.
-/
import Derived.Test.YtenjllkhbpoffaaDoorProg
import Derived.Test.YtenjllkhbpoffaaDoorDsk
import Derived.Test.YtenjllkhbpoffaaDoorDskLay
import Derived.Test.YtenjllkhbpoffaaDoorOwn
import Derived.Maps.StringElems
import Derived.WalkKit
namespace Go.Proofs.YtenjllkhbpoffaaDoor
open Go Go.Maps Go.WideMaps Go.Dsk Go.Lx Go.Lst Go.RowKit

theorem keyS : Keyed Tryd.prog 9 := string_keyed Tryd.underlying9
theorem zeroS (w : World) : (zeroValue 9).run Tryd.prog w = .ok (.string ⟨#[]⟩) w := by kernel_rfl
def FM (w : World) (b : Nat) (F : Files) : Prop := w.ownsMap Tryd.prog 9 (plainElem Tryd.prog 9) b F.length (encF F) ∧ Rise F
theorem FM.of {w : World} {b n : Nat} {F : Files} (h : w.ownsMap Tryd.prog 9 (plainElem Tryd.prog 9) b n (encF F)) : FM w b F := by
  refine ⟨?_, ?_⟩
  · obtain ⟨es, cl, e1, e2, e3, e4⟩ := h
    refine ⟨es, cl, e1, e2, ?_, e4⟩
    have : size (encF F) = es.size := by
      rw [e4]
      show List.length _ = _
      rw [length_sorted]; simp
    rw [size_enc] at this
    omega
  · obtain ⟨es, h1, h2, -⟩ := h.canon keyS
    unfold encF at h1
    injection h1 with h1
    subst h1
    exact List.pairwise_map.1 h2
theorem FM.made (w : World) : FM (w.alloc (.map #[] 0)) w.heap.size [] := FM.of (n := 0) (World.ownsMap_made _ _ _ _)
theorem FM.keep {w w' : World} {b : Nat} {F : Files} (h : FM w b F) (hb : w'.heap[b]? = w.heap[b]?) : FM w' b F := by
  obtain ⟨⟨es, cl, e1, e2, e3, e4⟩, hr⟩ := h
  exact ⟨⟨es, cl, hb.trans e1, e2, e3, e4⟩, hr⟩
theorem FM.lt {w : World} {b : Nat} {F : Files} (h : FM w b F) : b < w.heap.size := h.1.lt
theorem FM.isMap {w : World} {b : Nat} {F : Files} (h : FM w b F) : ∃ es cl, w.heap[b]? = some (.map es cl) := by
  obtain ⟨⟨es, cl, e1, _⟩, _⟩ := h
  exact ⟨es, cl, e1⟩
theorem FM.below {w w' : World} {b : Nat} {F : Files} (h : FM w b F) (hl : Below w.heap.size w w') : FM w' b F := h.keep (hl.block _ h.lt)
theorem FM.rise {w : World} {b : Nat} {F : Files} (h : FM w b F) : Rise F := h.2
theorem txt_inj {a b : ByteArray} (h : txt a = txt b) : a = b := by
  unfold txt at h
  injection h with h
  injection h with h
  exact bytes_ext h
set_option maxRecDepth 100000 in
theorem FM.look_ok {w : World} {b : Nat} {F : Files} (h : FM w b F) {k : ByteArray} (hk : k.size ≤ maxLen) : (Instr.lookup 57 (.map (some b)) (.string k) true).run Tryd.prog w = .ok (.tuple #[.string (atF F k), .bool (hasF F k)]) w := by
  obtain ⟨v, ps, hr, hv⟩ := World.ownsMap.look_ok h.1 keyS Tryd.underlying57 (zeroS w) (plainElem_string Tryd.underlying9 (s := ⟨#[]⟩) (by decide)) (keyOf_string_mk Tryd.underlying9 hk)
  obtain ⟨s, rfl, hz, hs⟩ := plainElem_string_inv Tryd.underlying9 hv
  injection hz with hz _
  have e : txt (atF F k) = txt s := (at_enc F k).symm.trans hz
  rw [hr, txt_inj e]
  have e2 : has (encF F) (.string k.data.toList) = hasF F k := has_enc F k
  rw [e2]
set_option maxRecDepth 100000 in
theorem FM.look_size {w : World} {b : Nat} {F : Files} (h : FM w b F) {k : ByteArray} (hk : k.size ≤ maxLen) : (atF F k).size ≤ maxLen := by
  obtain ⟨v, ps, hr, hv⟩ := World.ownsMap.lookup h.1 keyS Tryd.underlying57 (zeroS w) (plainElem_string Tryd.underlying9 (s := ⟨#[]⟩) (by decide)) (keyOf_string_mk Tryd.underlying9 hk)
  obtain ⟨s, rfl, hz, hs⟩ := plainElem_string_inv Tryd.underlying9 hv
  injection hz with hz _
  have e : txt (atF F k) = txt s := (at_enc F k).symm.trans hz
  rw [txt_inj e]
  exact hs
set_option maxRecDepth 100000 in
theorem FM.look {w : World} {b : Nat} {F : Files} (h : FM w b F) {k : ByteArray} (hk : k.size ≤ maxLen) : (Instr.lookup 57 (.map (some b)) (.string k) false).run Tryd.prog w = .ok (.string (atF F k)) w := by
  obtain ⟨v, ps, hr, hv⟩ := World.ownsMap.lookup h.1 keyS Tryd.underlying57 (zeroS w) (plainElem_string Tryd.underlying9 (s := ⟨#[]⟩) (by decide)) (keyOf_string_mk Tryd.underlying9 hk)
  obtain ⟨s, rfl, hz, hs⟩ := plainElem_string_inv Tryd.underlying9 hv
  injection hz with hz _
  have e : txt (atF F k) = txt s := (at_enc F k).symm.trans hz
  rw [hr, txt_inj e]
set_option maxRecDepth 100000 in
theorem FM.store {w : World} {b : Nat} {F : Files} (h : FM w b F) (hn : F.length < maxLen) {k s : ByteArray} (hk : k.size ≤ maxLen) (hs : s.size ≤ maxLen) : ∃ w', (Instr.mapUpdate 57 (.map (some b)) (.string k) (.string s)).run Tryd.prog w = .ok () w' ∧ FM w' b (putF F k s) ∧ w.grownBy w' (some b) := by
  obtain ⟨w', hr, h1, h2⟩ := World.ownsMap.update h.1 keyS Tryd.underlying57 hn (keyOf_string_mk Tryd.underlying9 hk) (plainElem_string Tryd.underlying9 hs)
  exact ⟨w', hr, FM.of (show w'.ownsMap _ _ _ b _ (encF (putF F k s)) by rw [← put_enc]; exact h1), h2⟩
set_option maxRecDepth 100000 in
theorem FM.drop {w : World} {b : Nat} {F : Files} (h : FM w b F) {k : ByteArray} (hk : k.size ≤ maxLen) : ∃ w', (∀ ty, (Builtin.delete_ #[57, 9] ty #[.map (some b), .string k]).run Tryd.prog w = .ok (.tuple #[]) w') ∧ FM w' b (delF F k) ∧ w.grownBy w' (some b) := by
  obtain ⟨w', hr, h1, h2⟩ := World.ownsMap.drop h.1 keyS Tryd.underlying57 (keyOf_string_mk Tryd.underlying9 hk) 0
  exact ⟨w', fun ty => hr, FM.of (show w'.ownsMap _ _ _ b _ (encF (delF F k)) by rw [← del_enc]; exact h1), h2.grown⟩
theorem FM.len {w : World} {b : Nat} {F : Files} (h : FM w b F) (ty : TypeId) : (Builtin.len_ #[57] ty #[.map (some b)]).run Tryd.prog w = .ok (.int .i64 F.length) w := by
  have := World.ownsMap.len h.1 Tryd.underlying57 ty
  rw [size_enc] at this
  exact this
theorem keyS_inv {v : Value} {kl : Lit} (h : keyOf Tryd.prog 9 v = some kl) : ∃ s : ByteArray, v = .string s ∧ kl = .string s.data.toList ∧ s.size ≤ maxLen := by
  cases v <;> simp [keyOf, Tryd.underlying9, mapKey] at h
  exact ⟨_, rfl, h.2.symm, h.1⟩
theorem FM.keys {w : World} {b : Nat} {F : Files} (h : FM w b F) : ∀ p ∈ F, p.1.size ≤ maxLen := by
  obtain ⟨⟨es, cl, e1, e2, e3, e4⟩, -⟩ := h
  intro p hp
  have hm : encE p ∈ (es.toList.map (WideElems.rg Tryd.prog 9 (plainElem Tryd.prog 9))).foldr DataW.insert [] := by
    unfold encF at e4
    injection e4 with e4
    rw [← e4]
    exact List.mem_map.2 ⟨p, hp, rfl⟩
  rw [mem_sorted] at hm
  obtain ⟨v, hv⟩ := fit_keys e2 _ hm
  obtain ⟨x, rfl, hx, hw⟩ := keyS_inv hv
  unfold encE nam at hx
  injection hx with hx
  rw [show p.1 = x from bytes_ext hx]
  exact hw
theorem Clone_calls {w : World} {b : Nat} {F : Files} (h : FM w b F) : Calls Tryd.prog 38 #[.map (some b)] w fun e w' => e = .returned (.map (some w.heap.size)) ∧ FM w' w.heap.size F ∧ Below w.heap.size w w' :=
  (AnyW.maps_Clone_owns Tryd.clone38 9 (plainElem Tryd.prog 9) b _ (encF F) w h.1).mono fun _ _ ⟨h1, h2, _, h4⟩ => ⟨h1, FM.of h2, h4⟩
end Go.Proofs.YtenjllkhbpoffaaDoor
