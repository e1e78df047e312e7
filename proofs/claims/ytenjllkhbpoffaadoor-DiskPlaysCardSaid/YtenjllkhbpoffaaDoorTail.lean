/-
  A region that draws its order, whose last operations stand in one order behind all others: a chain (XChain) ahead of that tail. No project text.
-/
import Derived.Test.YtenjllkhbpoffaaDoorChain
import Derived.StillTail
namespace Go.Lx
open Go Go.RowKit
section
variable {P : Program} {ops : Array Oper} {md : Region.Mode} {C : World → Prop} {F : Nat → Prop}

def anyCT (P : Program) (md : Region.Mode) (ops : Array Oper) (C : World → Prop) (F : Nat → Prop) (lo : Nat → Nat) (kp : Nat → Bool) (n : Nat) (Lq : Array Bool → (World → Prop) → Act → Prop) : Nat → Array Bool → (World → Prop) → Act → Prop
  | 0, listed, S, a => Lq listed S a
  | fuel + 1, listed, S, a => Region.ready md ops listed ≠ [] ∧ ∀ i ∈ Region.ready md ops listed, i < n ∧ cOp P ops C F lo kp i S (anyCT P md ops C F lo kp n Lq fuel (listed.setIfInBounds i true)) a
theorem wpAny_of_headC {lo : Nat → Nat} {kp : Nat → Bool} {n g : Nat} {Lq : Array Bool → (World → Prop) → Act → Prop} {Q' : Exit → Act → World → Prop} (hL : ∀ listed S a w, C w → S w → Lq listed S a → wpAny P md ops Q' g listed a w) :
    ∀ (f : Nat) (listed : Array Bool) (S : World → Prop) (a : Act) (w : World), C w → S w → anyCT P md ops C F lo kp n Lq f listed S a → wpAny P md ops Q' (f + g) listed a w
  | 0, listed, S, a, w, hC, hS, h => by rw [Nat.zero_add]; exact hL _ _ _ _ hC hS h
  | f + 1, listed, S, a, w, hC, hS, h => by
    rw [show f + 1 + g = (f + g) + 1 by omega]
    exact ⟨fun h0 => absurd h0 h.1, fun i hi => wpOp_of_cOp hC hS (fun S' a' w' hw' hs' h' => wpAny_of_headC hL f _ S' a' w' hw' hs' h') (h.2 i hi).2⟩
/-- An operation that may come up now may be taken first; the tail waits. -/
theorem anyCT_first {L M : List Nat} {lo : Nat → Nat} {kp : Nat → Bool} {n : Nat} {Lq : Array Bool → (World → Prop) → Act → Prop} {i : Nat} {oi : Oper} (hi : ops[i]? = some oi) (hsel : ∀ (j : Nat) (o : Oper) cs b, ops[j]? = some o → o.op ≠ .select cs b)
    (hlo : ∀ j, lo j = if L.contains j then 1 else if M.contains j then 2 else 0) (hL : chainB md ops L = true) (hM : freshB md ops L M = true) (hkp : ∀ j, kp j = M.any fun m => decide (j < m))
    (hs : Region.sinkB md ops n = true) (hc : Region.chainB md ops n = true) (hn : n < ops.size) (hin : i < n) (hdone : ∀ listed S a, Lq listed S a → ∀ j ∈ Region.ready md ops listed, n ≤ j) :
    ∀ (fuel : Nat) (listed : Array Bool) (S : World → Prop) (a : Act) (V : Value → Prop) (N : Value → World → Prop), HeadInv md ops n listed → (∀ j, j < i → listed.getD j true = true) →
      (∀ j oj, ops[j]? = some oj → j ≠ i → listed.getD j true = false → (∀ e ∈ oj.after, Region.binds md e = true → e.on ≠ i) → oi.apart ops oj = true) →
      i ∈ Region.ready md ops listed → (∃ w, C w ∧ S w) → Tk P ops C F oi (lo i) (kp i) a S V N →
      (∀ v, V v → anyCT P md ops C F lo kp n Lq fuel (listed.setIfInBounds i true) (N v) (a.put oi.dst v)) → anyCT P md ops C F lo kp n Lq (fuel + 1) listed S a := by
  intro fuel
  induction fuel with
  | zero =>
    intro listed S a V N inv _ _ hr hne hT H
    have hun := (mem_ready.1 hr).1
    refine ⟨fun h => (by rw [h] at hr; cases hr), fun j hj => ?_⟩
    have hjn : j < n := by
      rcases Nat.lt_or_ge j n with h | h
      · exact h
      · exact absurd hj (tail_waits hs hc hn inv _ i rfl hin hun j h)
    refine ⟨hjn, ?_⟩
    by_cases hji : j = i
    · subst hji; unfold cOp; simp only [hi]; exact ⟨V, N, hT, H⟩
    · obtain ⟨v, hv⟩ := hT.some hne
      have := hdone _ _ _ (H v hv) j (ready_mono hj hji)
      omega
  | succ fuel ih =>
    intro listed S a V N inv hlow hfree hr hne hT H
    refine ⟨fun h => (by rw [h] at hr; cases hr), fun j hj => ?_⟩
    have hjn : j < n := by
      rcases Nat.lt_or_ge j n with h | h
      · exact h
      · exact absurd hj (tail_waits hs hc hn inv _ i rfl hin (mem_ready.1 hr).1 j h)
    refine ⟨hjn, ?_⟩
    by_cases hji : j = i
    · subst hji; unfold cOp; simp only [hi]; exact ⟨V, N, hT, H⟩
    · have invC : Closed md ops listed := inv.closed
      obtain ⟨hjun, oj, hoj, hall⟩ := mem_ready.1 hj
      have hiun := (mem_ready.1 hr).1
      have hnot : ∀ e ∈ oj.after, Region.binds md e = true → e.on ≠ i := fun e he hb heq => by
        have h1 := hall e he hb
        rw [heq, getD_both hiun] at h1
        cases h1
      have hij : i < j := by
        rcases Nat.lt_or_ge i j with h | h
        · exact h
        · have := hlow j (by omega)
          rw [hjun] at this; cases this
      have hll : ¬(lo i ≠ 0 ∧ lo j = 1) := fun ⟨h1, h2⟩ => by
        have hjL : j ∈ L := by
          rw [hlo] at h2
          by_cases hc : L.contains j = true
          · simpa using hc
          · rw [if_neg hc] at h2; split at h2 <;> cases h2
        by_cases hc : L.contains i = true
        · have := chain_listed invC L hL i (by simpa using hc) j hjL hij (.inl hj)
          rw [getD_both hiun] at this; cases this
        · have hiM : M.contains i = true := by
            rw [hlo, if_neg hc] at h1
            by_cases hm : M.contains i = true
            · exact hm
            · rw [if_neg hm] at h1; exact absurd rfl h1
          have := fresh_listed invC hM (by simpa using hiM) hjL hij hj
          rw [getD_both hiun] at this; cases this
      obtain ⟨p1, p2, p3⟩ := Oper.apart_spec (hfree j oj hoj hji hjun hnot)
      have hfree' : ∀ k ok, ops[k]? = some ok → k ≠ i → (listed.setIfInBounds j true).getD k true = false →
          (∀ e ∈ ok.after, Region.binds md e = true → e.on ≠ i) → oi.apart ops ok = true := fun k ok hk hki hun hno => by
        refine hfree k ok hk hki ?_ hno
        by_cases hjk : j = k
        · subst hjk; exact hjun
        · rw [getD_set_ne true hjk] at hun; exact hun
      have hlow' : ∀ k, k < i → (listed.setIfInBounds j true).getD k true = true := fun k hk => by
        rw [getD_set_ne true (by omega)]; exact hlow k hk
      have back : ∀ {v : Value} {S' : World → Prop} {Vj : Value → Prop} {Nj : Value → World → Prop}, Tk P ops C F oj (lo j) (kp j) (a.put oi.dst v) S' Vj Nj → Tk P ops C F oj (lo j) (kp j) a S' Vj Nj := fun {v} {S'} {Vj} {Nj} h =>
        h.of_same (execOp_put oj (fun cs b => hsel j oj cs b hoj) a oi.dst v p1).symm (wanted_put oj a oi.dst v p1).symm
      have fwd : ∀ {u : Value} {S' : World → Prop} {V' : Value → Prop} {N' : Value → World → Prop}, Tk P ops C F oi (lo i) (kp i) a S' V' N' → Tk P ops C F oi (lo i) (kp i) (a.put oj.dst u) S' V' N' := fun {u} {S'} {V'} {N'} h =>
        h.of_same (execOp_put oi (fun cs b => hsel i oi cs b hi) a oj.dst u p3) (wanted_put oi a oj.dst u p3)
      have step : ∀ v, V v → ∃ Vj Nj, Tk P ops C F oj (lo j) (kp j) a (N v) Vj Nj ∧ ∀ u, Vj u → anyCT P md ops C F lo kp n Lq fuel ((listed.setIfInBounds j true).setIfInBounds i true) (Nj u) ((a.put oj.dst u).put oi.dst v) := fun v hv => by
        have h1 := ((H v hv).2 j (ready_mono hj hji)).2
        unfold cOp at h1
        simp only [hoj] at h1
        obtain ⟨Vj, Nj, h2, h3⟩ := h1
        refine ⟨Vj, Nj, back h2, fun u hu => ?_⟩
        have h4 := h3 u hu
        rw [Array.setIfInBounds_comm _ _ (Ne.symm hji), Act.put_comm a v u p2] at h4
        exact h4
      unfold cOp
      simp only [hoj]
      have small : ∀ v0, V = (· = v0) → (∀ S', Tk P ops C F oi (lo i) (kp i) a S' V (fun _ => S')) → N = (fun _ => S) →
          ∃ V N, Tk P ops C F oj (lo j) (kp j) a S V N ∧ ∀ v, V v → anyCT P md ops C F lo kp n Lq (fuel + 1) (listed.setIfInBounds j true) (N v) (a.put oj.dst v) := fun v0 hV0 hTT hN => by
        obtain ⟨Vj, Nj, h2, h3⟩ := step v0 (by rw [hV0])
        rw [hN] at h2
        refine ⟨Vj, Nj, h2, fun u hu => ?_⟩
        exact ih (listed.setIfInBounds j true) (Nj u) (a.put oj.dst u) V (fun _ => Nj u) (inv.set hj hjn) hlow' hfree' (ready_mono hr (Ne.symm hji)) (h2.all hne hu) (fwd (hTT _)) (fun v hv => by
          rw [hV0] at hv; subst hv
          exact h3 u hu)
      have big : Tk P ops C F oi (lo i) (kp i) a S V N → lo i ≠ 0 → (lo j = 2 → ∀ X u, Tk P ops C F oi (lo i) (kp i) a (fun w => S w ∧ Made F X u w) (fun v => ∃ w, C w ∧ N v w ∧ Made F X u w) (fun v w => N v w ∧ Made F X u w)) → (lo j = 2 → Grows S) → (∀ _X : Obj, V = fun v => ∃ w, C w ∧ N v w) → (∀ (_X : Obj) v, V v → V v) →
          ∃ V N, Tk P ops C F oj (lo j) (kp j) a S V N ∧ ∀ v, V v → anyCT P md ops C F lo kp n Lq (fuel + 1) (listed.setIfInBounds j true) (N v) (a.put oj.dst v) := fun hT0 hnz hTM hcl hVV _ => by
        have hlj : ¬ lo j = 1 := fun h => hll ⟨hnz, h⟩
        obtain ⟨v1, hv1⟩ := hT0.some hne
        have hCne : ∃ w, C w := hne.elim fun w h => ⟨w, h.1⟩
        obtain ⟨Vj, Nj, h2, h3⟩ := step v1 hv1
        cases h2 with
        | loud _ hl2 _ _ _ => exact absurd hl2 hlj
        | skip hw2 hV2 hN2 =>
          refine ⟨_, _, .skip hw2 rfl rfl, fun u hu => ?_⟩
          subst hu
          refine ih (listed.setIfInBounds j true) S (a.put oj.dst undef) V N (inv.set hj hjn) hlow' hfree' (ready_mono hr (Ne.symm hji)) hne (fwd hT0) (fun v hv => ?_)
          obtain ⟨Vk, Nk, k2, k3⟩ := step v hv
          cases k2 with
          | loud _ hl2 _ _ _ => exact absurd hl2 hlj
          | light hw3 _ _ _ _ _ => rw [hw2] at hw3; cases hw3
          | fresh hw3 _ _ _ _ _ _ _ _ => rw [hw2] at hw3; cases hw3
          | skip hw3 hV3 hN3 =>
            subst hV3 hN3
            exact k3 undef rfl
        | light hw2 hl2 u0 hu0 hV2 hN2 =>
          refine ⟨_, _, .light hw2 hl2 u0 hu0 rfl rfl, fun u hu => ?_⟩
          subst hu
          refine ih (listed.setIfInBounds j true) S (a.put oj.dst u) V N (inv.set hj hjn) hlow' hfree' (ready_mono hr (Ne.symm hji)) hne (fwd hT0) (fun v hv => ?_)
          obtain ⟨Vk, Nk, k2, k3⟩ := step v hv
          cases k2 with
          | loud _ hl2 _ _ _ => exact absurd hl2 hlj
          | skip hw3 _ _ => rw [hw2] at hw3; cases hw3
          | fresh _ hl3 _ _ _ _ _ _ _ => rw [hl2] at hl3; cases hl3
          | light hw3 _ u1 hu1 hV3 hN3 =>
            subst hV3 hN3
            exact k3 u (hu0.uniq hu1 hCne)
        | fresh hw2 hl2 X hx _ hCg hF hV2 hN2 =>
          refine ⟨_, _, .fresh hw2 hl2 X hx (hcl hl2) hCg hF rfl rfl, fun u hu => ?_⟩
          refine ih (listed.setIfInBounds j true) (fun w => S w ∧ Made F X u w) (a.put oj.dst u) _ _ (inv.set hj hjn) hlow' hfree' (ready_mono hr (Ne.symm hji)) hu (fwd (hTM hl2 X u)) (fun v hv => ?_)
          obtain ⟨w0, g1, g2, g3⟩ := hv
          obtain ⟨Vk, Nk, k2, k3⟩ := step v (by rw [hVV X]; exact ⟨w0, g1, g2⟩)
          cases k2 with
          | loud _ hl2 _ _ _ => exact absurd hl2 hlj
          | skip hw3 _ _ => rw [hw2] at hw3; cases hw3
          | light _ hl3 _ _ _ _ => rw [hl2] at hl3; cases hl3
          | fresh hw3 hl3 Y hy _ _ _ hV3 hN3 =>
            have hXY : X = Y := by
              have h5 := (hx w0).symm.trans (hy w0)
              simp only [Result.ok.injEq, true_and] at h5
              have h6 : (w0.alloc X).heap[w0.heap.size]? = (w0.alloc Y).heap[w0.heap.size]? := by rw [h5]
              change (w0.heap.push X)[w0.heap.size]? = (w0.heap.push Y)[w0.heap.size]? at h6
              simpa using h6
            subst hXY hV3 hN3
            exact k3 u ⟨w0, g1, g2, g3⟩
      cases hT with
      | skip hw hV hN => exact small undef hV (fun S' => .skip hw hV rfl) hN
      | light hw hl v hv hV hN => exact small v hV (fun S' => .light hw hl v hv hV rfl) hN
      | loud hw hl hG hcl hV =>
        have hkpi : lo j = 2 → kp i = true := fun hj2 => by
          rw [hkp]
          have hjM : M.contains j = true := by
            rw [hlo] at hj2
            by_cases hc : L.contains j = true
            · rw [if_pos hc] at hj2; cases hj2
            · rw [if_neg hc] at hj2
              by_cases hm : M.contains j = true
              · exact hm
              · rw [if_neg hm] at hj2; cases hj2
          exact List.any_eq_true.2 ⟨j, by simpa using hjM, by simpa using hij⟩
        refine big (.loud hw hl hG hcl hV) (by rw [hl]; decide) (fun hj2 X u => ?_) (fun hj2 => hcl (hkpi hj2)) (fun X => hV) (fun X v h => h)
        refine .loud hw hl (fun w h1 h2 => ?_) (fun hk w o h => ⟨hcl hk w o h.1, Made.grows w o h.2⟩) rfl
        have h3 := hG w h1 h2.1
        have hk1 := hkpi hj2
        cases hr : (execOp a.eval oi).run P w with
        | halt x w' => rw [hr] at h3; exact h3.elim
        | ok n w' =>
          rw [hr] at h3
          cases n <;> simp only [uponR] at h3 ⊢
          case value u => exact ⟨h3.1, ⟨h3.2.1, h2.2.kept (h3.2.2 hk1)⟩, h3.2.2⟩
          case skip => exact ⟨h3.1, ⟨h3.2.1, h2.2.kept (h3.2.2 hk1)⟩, h3.2.2⟩
          case enter f args => exact h3.mono fun e w'' ⟨v, he, h4⟩ => ⟨v, he, h4.1, ⟨h4.2.1, h2.2.kept (h4.2.2 hk1)⟩, h4.2.2⟩
      | fresh hw hl X hx hcl hCg hF hV hN =>
        refine big (.fresh hw hl X hx hcl hCg hF hV hN) (by rw [hl]; decide) (fun _ Y u => ?_) (fun _ => hcl) (fun Y => hV) (fun Y v h => h)
        refine .fresh hw hl X hx (fun w o h => ⟨hcl w o h.1, Made.grows w o h.2⟩) hCg hF rfl ?_
        funext v w
        rw [hN]
        exact propext ⟨fun h => ⟨⟨h.1.1, h.2⟩, h.1.2⟩, fun h => ⟨⟨h.1.1, h.2⟩, h.1.2⟩⟩


theorem anyCT_lex {L M : List Nat} {n g : Nat} {Q : (World → Prop) → Act → Prop} (hsel : Region.noSelect ops = true) (hL : chainB md ops L = true) (hM : freshB md ops L M = true) (hs : Region.sinkB md ops n = true) (hc : Region.chainB md ops n = true) (hn : n < ops.size) :
    ∀ (l : List Oper) (k : Nat) (listed : Array Bool) (S : World → Prop) (a : Act), (∀ j, j < l.length → l[j]? = ops[k + j]?) → k + l.length = n → HeadInv md ops n listed → (∀ j, j < k → listed.getD j true = true) →
    Region.lexHead md ops g l.length k listed = true → (∃ w, C w ∧ S w) → wpCh P ops C F L M Q l k S a →
    anyCT P md ops C F (kindOf L M) (fun k => M.any fun m => decide (k < m)) n (fun listed' S' a' => Region.seqB md ops g n listed' = true ∧ Q S' a') l.length listed S a
  | [], k, listed, S, a, _, hk, _, _, hB, _, h => by
    have : k = n := by simpa using hk
    subst this
    exact ⟨by simpa [Region.lexHead] using hB, h⟩
  | o :: l, k, listed, S, a, hl, hk, inv, hlow, hB, hne, h => by
    have h0 : ops[k]? = some o := by simpa using (hl 0 (by simp)).symm
    simp only [List.length_cons, Region.lexHead, Bool.and_eq_true] at hB
    obtain ⟨⟨hr, hf⟩, hB'⟩ := hB
    have hkn : k < n := by simp only [List.length_cons] at hk; omega
    have hr' : k ∈ Region.ready md ops listed := by simpa using hr
    obtain ⟨V, N, hT, hK⟩ := h
    refine anyCT_first (L := L) (M := M) h0 (Region.noSelect_spec hsel) (fun _ => rfl) hL hM (fun _ => rfl) hs hc hn hkn (fun listed' S' a' hL => seqB_ready hL.1) l.length listed S a V N inv hlow (Region.free_spec h0 hf) hr' hne hT (fun v hv => ?_)
    exact anyCT_lex hsel hL hM hs hc hn l (k + 1) _ _ _ (fun j hj => by have := hl (j + 1) (by simp; omega); simpa [Nat.add_assoc, Nat.add_comm 1 j] using this) (by simp only [List.length_cons] at hk; omega) (inv.set hr' hkn) (fun j hj => by
      by_cases hjk : j = k
      · subst hjk
        by_cases hlt : j < listed.size
        · simp [hlt]
        · simp [Array.getElem?_eq_none (Nat.le_of_not_lt hlt)]
      · rw [getD_set_ne true (Ne.symm hjk)]; exact hlow j (by omega)) hB' (hT.all hne hv) (hK v hv)
theorem wp_region_chain_tail {id : Nat} {Q : Exit → Act → World → Prop} {a : Act} {w : World} {l : List Oper} (C : World → Prop) (F : Nat → Prop) (L M : List Nat) (n : Nat) (S : World → Prop) (hm : P.follows .mixedOrders = true) (hB : Region.lexTailB .any l.toArray n = true) (hL : chainB .any l.toArray L = true) (hM : freshB .any l.toArray L M = true) (hC : C w.drew) (hS : S w.drew)
    (h : wpCh P l.toArray C F L M (fun S' a' => ∀ w', C w' → S' w' → wpList P l.toArray Q (l.drop n) a' w') (l.take n) 0 S a) : (Code.region id l.toArray true).wp P Q a w := by
  simp only [Region.lexTailB, Bool.and_eq_true, decide_eq_true_eq] at hB
  obtain ⟨⟨⟨⟨hsel, hn⟩, hs⟩, hc⟩, hlex⟩ := hB
  have hn' : n < l.length := by simpa using hn
  have htl : (l.take n).length = n := by simp; omega
  have hdl : (l.drop n).length = l.toArray.size - n := by simp
  have inv0 : HeadInv .any l.toArray n (Array.replicate l.toArray.size false) :=
    ⟨by simp, fun j oj _ hl => (by rw [getD_replicate_false] at hl; cases hl), fun t _ ht => getD_in (by simpa using ht) (getD_replicate_false _ _)⟩
  have H := anyCT_lex (P := P) (C := C) (F := F) (md := .any) (g := l.toArray.size - n) hsel hL hM hs hc hn (l.take n) 0 _ S a (fun j hj => by
    have hj' : j < n := by rw [htl] at hj; exact hj
    simp [hj']) (by simpa using htl) inv0 (fun j hj => by omega) (by rw [htl]; exact hlex) ⟨_, hC, hS⟩ h
  refine wp_region_any hm ?_
  have := wpAny_of_headC (Q' := Q) (g := l.toArray.size - n) (fun listed S' a' w' hC' hS' hL => by
    have := wpAny_of_seq (md := .any) (Q' := Q) (l.drop n) n listed a' w' (fun j => by simp [List.getElem?_drop]) (by rw [hdl]; exact hL.1) (hL.2 w' hC' hS')
    rwa [hdl] at this) _ _ _ _ _ hC hS H
  rw [htl, show n + (l.toArray.size - n) = l.toArray.size by omega] at this
  exact this
end
end Go.Lx
