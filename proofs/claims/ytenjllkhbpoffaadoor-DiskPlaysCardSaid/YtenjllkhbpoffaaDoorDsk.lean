/-
  Files by their names, calls that are loose, a disk (plain). No project text.
-/
import Derived.Maps.OwnSet
import Derived.Maps.Ext
namespace Go.Dsk
open Go Go.Maps

abbrev Files := List (ByteArray × ByteArray)
def nam (s : ByteArray) : Lit := .string s.data.toList
def txt (s : ByteArray) : DataW Unit := .lit (.string s.data.toList)
def encE (p : ByteArray × ByteArray) : Lit × DataW Unit := (nam p.1, txt p.2)
def encF (F : Files) : DataW Unit := .map (F.map encE)
def bef (a b : ByteArray) : Bool := bytesBefore a.data.toList b.data.toList
def hasF (F : Files) (k : ByteArray) : Bool := F.any fun p => decide (p.1 = k)
def atF (F : Files) (k : ByteArray) : ByteArray := match F.find? (fun p => decide (p.1 = k)) with | some p => p.2 | none => ⟨#[]⟩
def delF (F : Files) (k : ByteArray) : Files := F.filter fun p => !decide (p.1 = k)
def insF (x : ByteArray × ByteArray) : Files → Files
  | [] => [x]
  | y :: r => if bef x.1 y.1 then x :: y :: r else y :: insF x r
def putF (F : Files) (k s : ByteArray) : Files := insF (k, s) (delF F k)
def Rise (F : Files) : Prop := F.Pairwise fun p q => bef p.1 q.1 = true
def tot (F : Files) : Nat := (F.map fun p => p.2.size).sum

theorem bytes_ext {a b : ByteArray} (h : a.data.toList = b.data.toList) : a = b := by
  cases a; cases b; simp at h; simp [h]
theorem same_nam (a b : ByteArray) : (nam a).sameKey (nam b) = decide (a = b) := by
  by_cases h : a = b
  · subst h; simp [nam, Lit.sameKey]
  · simp only [nam, Lit.sameKey, h, decide_false, beq_eq_false_iff_ne, ne_eq]
    exact fun e => h (bytes_ext e)
theorem before_nam (a b : ByteArray) : (nam a).before (nam b) = bef a b := rfl
theorem has_enc (F : Files) (k : ByteArray) : has (encF F) (nam k) = hasF F k := by
  unfold encF hasF
  rw [has_eq, List.any_map]
  congr 1
  funext p
  exact same_nam _ _
theorem find_enc (F : Files) (k : ByteArray) : (F.map encE).find? (fun p => p.1.sameKey (nam k)) = (F.find? (fun p => decide (p.1 = k))).map encE := by
  rw [List.find?_map]
  congr 1
  congr 1
  funext p
  exact same_nam _ _
theorem at_enc (F : Files) (k : ByteArray) : (encF F).atKey (nam k) (txt ⟨#[]⟩) = txt (atF F k) := by
  unfold encF DataW.atKey atF
  dsimp only
  rw [find_enc]
  cases F.find? (fun p => decide (p.1 = k)) <;> rfl
theorem del_enc (F : Files) (k : ByteArray) : (encF F).del (nam k) = encF (delF F k) := by
  unfold encF DataW.del delF
  dsimp only
  rw [List.filter_map]
  congr 2
  congr 1
  funext p
  show (!(nam p.1).sameKey (nam k)) = _
  rw [same_nam]
theorem ins_enc (x : ByteArray × ByteArray) : ∀ F : Files, DataW.insert (encE x) (F.map encE) = (insF x F).map encE
  | [] => rfl
  | y :: r => by
    simp only [List.map_cons, DataW.insert, insF]
    show (if (nam x.1).before (nam y.1) = true then _ else _) = _
    rw [before_nam, ins_enc x r]
    split <;> rfl
theorem put_enc (F : Files) (k s : ByteArray) : (encF F).put (nam k) (txt s) = encF (putF F k s) := by
  have h := del_enc F k
  unfold encF DataW.del at h
  unfold encF DataW.put putF
  dsimp only at h ⊢
  injection h with h
  rw [h]
  exact congrArg _ (ins_enc (k, s) _)
theorem size_enc (F : Files) : size (encF F) = F.length := by simp [encF, size]
theorem enc_inj {F G : Files} (h : encF F = encF G) : F = G := by
  unfold encF at h
  injection h with h
  induction F generalizing G with
  | nil => cases G with
    | nil => rfl
    | cons _ _ => simp at h
  | cons x F ih => cases G with
    | nil => simp at h
    | cons y G =>
      simp only [List.map_cons, List.cons.injEq, encE, Prod.mk.injEq] at h
      obtain ⟨⟨h1, h2⟩, h3⟩ := h
      rw [ih h3]
      unfold nam at h1; unfold txt at h2
      injection h1 with h1
      injection h2 with h2
      injection h2 with h2
      obtain ⟨a, b⟩ := x
      obtain ⟨c, d⟩ := y
      rw [show a = c from bytes_ext h1, show b = d from bytes_ext h2]

/-! ### what stands where -/
theorem has_del (F : Files) (k x : ByteArray) : hasF (delF F k) x = (!decide (x = k) && hasF F x) := by
  unfold hasF delF
  rw [List.any_filter]
  by_cases h : x = k
  · subst h
    simp only [decide_true, Bool.not_true, Bool.false_and]
    rw [List.any_eq_false]
    intro p _
    cases decide (p.1 = x) <;> simp
  · simp only [h, decide_false, Bool.not_false, Bool.true_and]
    congr 1
    funext p
    by_cases hp : p.1 = x
    · simp [hp, h]
    · simp [hp]
theorem at_del (F : Files) (k x : ByteArray) : atF (delF F k) x = if x = k then ⟨#[]⟩ else atF F x := by
  unfold atF delF
  rw [List.find?_filter]
  by_cases h : x = k
  · subst h
    rw [if_pos rfl]
    have : ∀ f : ByteArray × ByteArray → Bool, (∀ p, f p = false) → F.find? f = none := fun f hf => by
      rw [List.find?_eq_none]
      intro p _
      rw [hf p]; simp
    rw [this _ (fun p => by by_cases hp : p.1 = x <;> simp [hp])]
  · rw [if_neg h]
    congr 2
    funext p
    by_cases hp : p.1 = x
    · simp [hp, h]
    · simp [hp]
theorem has_ins (x : ByteArray × ByteArray) (k : ByteArray) : ∀ F : Files, hasF (insF x F) k = (decide (x.1 = k) || hasF F k)
  | [] => rfl
  | y :: r => by
    unfold insF
    split
    · rfl
    · have := has_ins x k r
      unfold hasF at this ⊢
      rw [List.any_cons, this, List.any_cons]
      cases decide (y.1 = k) <;> simp
theorem at_ins (x : ByteArray × ByteArray) (k : ByteArray) : ∀ F : Files, hasF F x.1 = false → atF (insF x F) k = if x.1 = k then x.2 else atF F k
  | [], _ => by
    unfold insF atF
    by_cases h : x.1 = k <;> simp [h]
  | y :: r, h => by
    unfold insF
    unfold hasF at h
    simp only [List.any_cons, Bool.or_eq_false_iff, decide_eq_false_iff_not] at h
    split
    · unfold atF
      by_cases hk : x.1 = k <;> simp [hk]
    · have := at_ins x k r h.2
      unfold atF at this ⊢
      by_cases hk : y.1 = k
      · rw [if_neg (fun e => h.1 (hk.trans e.symm))]
        simp [hk]
      · simp only [List.find?_cons, hk, decide_false, this]
theorem has_put (F : Files) (k s x : ByteArray) : hasF (putF F k s) x = (decide (x = k) || hasF F x) := by
  unfold putF
  rw [has_ins, has_del]
  by_cases h : x = k
  · subst h; simp
  · have h' : ¬ k = x := fun e => h e.symm
    simp [h, h']
theorem at_put (F : Files) (k s x : ByteArray) : atF (putF F k s) x = if x = k then s else atF F x := by
  unfold putF
  rw [at_ins _ _ _ (by rw [has_del]; simp), at_del]
  by_cases h : x = k
  · subst h; simp
  · have h' : ¬ k = x := fun e => h e.symm
    simp [h, h']
theorem at_none {F : Files} {k : ByteArray} (h : hasF F k = false) : atF F k = ⟨#[]⟩ := by
  unfold atF
  have : F.find? (fun p => decide (p.1 = k)) = none := by
    rw [List.find?_eq_none]
    unfold hasF at h
    rw [List.any_eq_false] at h
    exact h
  rw [this]

/-! ### how many bytes, how many files -/
theorem tot_ins (x : ByteArray × ByteArray) : ∀ F : Files, tot (insF x F) = x.2.size + tot F
  | [] => by simp [insF, tot]
  | y :: r => by
    unfold insF
    split
    · simp [tot]
    · have := tot_ins x r
      unfold tot at this ⊢
      simp only [List.map_cons, List.sum_cons, this]
      omega
theorem len_ins (x : ByteArray × ByteArray) : ∀ F : Files, (insF x F).length = F.length + 1
  | [] => rfl
  | y :: r => by
    unfold insF
    split
    · rfl
    · simp [len_ins x r]
theorem bef_irrefl (a : ByteArray) : bef a a = false := WideAt.bytes_irrefl _
theorem Rise.apart {F : Files} (h : Rise F) : F.Pairwise fun p q => p.1 ≠ q.1 :=
  List.Pairwise.imp (fun {a b} hab e => by rw [e, bef_irrefl] at hab; cases hab) h
theorem strike {k : ByteArray} : ∀ (F : Files), F.Pairwise (fun p q => p.1 ≠ q.1) → tot (delF F k) + (atF F k).size = tot F ∧ (delF F k).length + (if hasF F k = true then 1 else 0) = F.length
  | [], _ => ⟨rfl, rfl⟩
  | y :: r, h => by
    obtain ⟨h1, h2⟩ := List.pairwise_cons.1 h
    obtain ⟨e1, e2⟩ := strike (k := k) r h2
    by_cases hy : y.1 = k
    · have hr : hasF r k = false := by
        unfold hasF
        rw [List.any_eq_false]
        intro p hp hpk
        exact h1 p hp (hy.trans (of_decide_eq_true hpk).symm)
      rw [at_none hr] at e1
      rw [hr] at e2
      have d : delF (y :: r) k = delF r k := by simp [delF, hy]
      have a : atF (y :: r) k = y.2 := by simp [atF, hy]
      have b : hasF (y :: r) k = true := by simp [hasF, hy]
      have z : (⟨#[]⟩ : ByteArray).size = 0 := rfl
      have t : tot (y :: r) = y.2.size + tot r := by simp [tot]
      rw [d, a, b, t, List.length_cons]
      simp only [if_true, Bool.false_eq_true, if_false] at e2 ⊢
      omega
    · have d : delF (y :: r) k = y :: delF r k := by simp [delF, hy]
      have a : atF (y :: r) k = atF r k := by simp [atF, hy]
      have b : hasF (y :: r) k = hasF r k := by simp [hasF, hy]
      have t : tot (y :: r) = y.2.size + tot r := by simp [tot]
      have t2 : tot (y :: delF r k) = y.2.size + tot (delF r k) := by simp [tot]
      rw [d, a, b, t, t2, List.length_cons, List.length_cons]
      omega
theorem tot_del {F : Files} (h : Rise F) (k : ByteArray) : tot (delF F k) + (atF F k).size = tot F := (strike F h.apart).1
theorem len_del {F : Files} (h : Rise F) (k : ByteArray) : (delF F k).length + (if hasF F k = true then 1 else 0) = F.length := (strike F h.apart).2
theorem tot_put {F : Files} (h : Rise F) (k s : ByteArray) : tot (putF F k s) + (atF F k).size = tot F + s.size := by
  have := tot_del h k
  unfold putF
  rw [tot_ins]
  dsimp only
  omega
theorem len_put {F : Files} (h : Rise F) (k s : ByteArray) : (putF F k s).length + (if hasF F k = true then 1 else 0) = F.length + 1 := by
  have := len_del h k
  unfold putF
  rw [len_ins]
  omega

/-! ### they rise -/
theorem bef_asymm {a b : ByteArray} (h : bef a b = true) : bef b a = false := by
  cases h2 : bef b a with
  | false => rfl
  | true => exact absurd (WideShapes.bytes_trans _ _ _ h h2) (by rw [WideAt.bytes_irrefl]; simp)
theorem bef_trans {a b c : ByteArray} (h : bef a b = true) (k : bef b c = true) : bef a c = true := WideShapes.bytes_trans _ _ _ h k
theorem bef_total {a b : ByteArray} (h1 : bef a b = false) (h2 : bef b a = false) : a = b := by
  by_cases h : a.data.toList = b.data.toList
  · exact bytes_ext h
  · rcases WideAt.bytes_total _ _ h with h' | h'
    · unfold bef at h1; rw [h1] at h'; cases h'
    · unfold bef at h2; rw [h2] at h'; cases h'
theorem rise_del {F : Files} (h : Rise F) (k : ByteArray) : Rise (delF F k) := List.Pairwise.filter _ h
theorem rise_ins {x : ByteArray × ByteArray} : ∀ {F : Files}, Rise F → hasF F x.1 = false → Rise (insF x F)
  | [], _, _ => by simp [insF, Rise]
  | y :: r, h, hx => by
    obtain ⟨h1, h2⟩ := List.pairwise_cons.1 h
    unfold hasF at hx
    simp only [List.any_cons, Bool.or_eq_false_iff, decide_eq_false_iff_not] at hx
    unfold insF
    split
    · rename_i hb
      refine List.pairwise_cons.2 ⟨fun p hp => ?_, h⟩
      rcases List.mem_cons.1 hp with rfl | hp
      · exact hb
      · exact bef_trans hb (h1 p hp)
    · rename_i hb
      have hyx : bef y.1 x.1 = true := by
        cases hyx : bef y.1 x.1 with
        | true => rfl
        | false => exact absurd (bef_total hyx (by simpa using hb)) hx.1
      refine List.pairwise_cons.2 ⟨fun p hp => ?_, rise_ins h2 hx.2⟩
      have hp' : p = x ∨ p ∈ r := by
        clear hx h hb hyx h1 h2
        induction r with
        | nil => simpa [insF] using hp
        | cons z r ih =>
          unfold insF at hp
          split at hp
          · simpa using hp
          · rcases List.mem_cons.1 hp with rfl | hp
            · simp
            · rcases ih hp with h | h <;> simp [h]
      rcases hp' with rfl | hp'
      · exact hyx
      · exact h1 p hp'
theorem rise_put {F : Files} (h : Rise F) (k s : ByteArray) : Rise (putF F k s) := rise_ins (rise_del h k) (by rw [has_del]; simp)

/-! ### calls -/
inductive Lc where
  | app (k s : ByteArray)
  | cut (k : ByteArray) (n : Nat)
  | ren (a b : ByteArray)
  | rem (k : ByteArray)
def done (F : Files) : Lc → Files
  | .app k s => putF F k (atF F k ++ s)
  | .cut k n => putF F k ((atF F k).extract 0 n)
  | .ren a b => putF (delF F a) b (atF F a)
  | .rem k => delF F k
def Lc.short (m : Nat) : Lc → Lc
  | .app k s => .app k (s.extract 0 m)
  | c => c
def flag : Lc → Int
  | .app _ _ => 1
  | _ => 0
/-- A call that may be made of files. -/
def Fit (F : Files) : Lc → Prop
  | .app k _ => k.size ≤ maxLen
  | .cut k n => k.size ≤ maxLen ∧ n ≤ (atF F k).size ∧ hasF F k = true
  | .ren a b => a.size ≤ maxLen ∧ b.size ≤ maxLen ∧ hasF F a = true
  | .rem k => k.size ≤ maxLen
def all (F : Files) (l : List Lc) : Files := l.foldl done F
theorem all_snoc (F : Files) (l : List Lc) (c : Lc) : all F (l ++ [c]) = done (all F l) c := by simp [all]
theorem rise_done {F : Files} (h : Rise F) (c : Lc) : Rise (done F c) := by
  cases c with
  | app k s => exact rise_put h _ _
  | cut k n => exact rise_put h _ _
  | ren a b => exact rise_put (rise_del h _) _ _
  | rem k => exact rise_del h _
theorem rise_all {F : Files} (h : Rise F) (l : List Lc) : Rise (all F l) := by
  induction l generalizing F with
  | nil => exact h
  | cons c l ih => exact ih (rise_done h c)
structure DM where
  room : Int
  sure : Files
  now : Files
  loose : List Lc
  fuse : Int
/-- What holds of every disk. -/
structure DOk (M : DM) : Prop where
  room : 0 ≤ M.room ∧ M.room ≤ 16777216
  rise : Rise M.sure
  now : M.now = all M.sure M.loose
  small : ∀ j, j ≤ M.loose.length → (tot (all M.sure (M.loose.take j)) : Int) ≤ M.room ∧ (all M.sure (M.loose.take j)).length ≤ 64
  fit : ∀ j c, M.loose[j]? = some c → Fit (all M.sure (M.loose.take j)) c
  fuse : -1 ≤ M.fuse ∧ M.fuse ≤ 9223372036854775807
def doesM (M : DM) (c : Lc) : DM := { M with now := done M.now c, loose := M.loose ++ [c] }
theorem DOk.does {M : DM} (h : DOk M) (c : Lc) (hf : Fit M.now c) (ht : (tot (done M.now c) : Int) ≤ M.room ∧ (done M.now c).length ≤ 64) : DOk (doesM M c) := by
  have hn : M.now = all M.sure M.loose := h.now
  refine ⟨h.room, h.rise, ?_, fun j hj => ?_, fun j c' hj => ?_, h.fuse⟩
  · show done M.now c = all M.sure (M.loose ++ [c])
    rw [all_snoc, ← hn]
  · show (tot (all M.sure ((M.loose ++ [c]).take j)) : Int) ≤ M.room ∧ (all M.sure ((M.loose ++ [c]).take j)).length ≤ 64
    have hj' : j ≤ M.loose.length + 1 := by simpa [doesM] using hj
    by_cases hlt : j ≤ M.loose.length
    · rw [List.take_append_of_le_length hlt]
      exact h.small j hlt
    · have e : j = M.loose.length + 1 := by omega
      subst e
      rw [List.take_of_length_le (by simp), all_snoc, ← hn]
      exact ht
  · show Fit (all M.sure ((M.loose ++ [c]).take j)) c'
    have hj2 : (M.loose ++ [c])[j]? = some c' := hj
    have hj' : j < M.loose.length + 1 := by
      have := (List.getElem?_eq_some_iff.1 hj2).1
      simpa using this
    rw [List.take_append_of_le_length (by omega)]
    by_cases hlt : j < M.loose.length
    · rw [List.getElem?_append_left hlt] at hj2
      exact h.fit j c' hj2
    · have e : j = M.loose.length := by omega
      subst e
      rw [List.getElem?_append_right (Nat.le_refl _)] at hj2
      simp at hj2
      subst hj2
      rw [List.take_of_length_le (Nat.le_refl _), ← hn]
      exact hf
theorem tot_at {F : Files} (h : Rise F) (k : ByteArray) : (atF F k).size ≤ tot F := by have := tot_del h k; omega
theorem ext_all (s : ByteArray) : s.extract 0 s.size = s := by
  apply ByteArray.ext
  simp
end Go.Dsk
