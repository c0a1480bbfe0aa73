/- A region that draws its order, whose last operation stores into a cell that the region reads: the reads may be taken first, though what they read holds only till that store. (Derived/OrdersHeld.lean's laws serve where what is read holds behind every operation.) No condition. -/
import Derived.OrdersHeld
import Derived.RegionTactic
import Derived.Deep.RegionHeld
namespace Go.Proofs.Ytognnjaefaoefaa
open Go

section
variable {P : Program} {ops : Array Oper} {Q : Exit → Act → World → Prop} {md : Region.Mode} {S : World → Prop} {m : Nat}
/-- Operation m has not come up yet. -/
def Open_ (m : Nat) (listed : Array Bool) : Prop := listed.getD m true = false
theorem Open_.of_set {i : Nat} {listed : Array Bool} (h : Open_ m (listed.setIfInBounds i true)) : Open_ m listed := by
  unfold Open_ at *
  by_cases e : i = m
  · subst e
    by_cases hi : i < listed.size
    · simp [hi] at h
    · simp [hi]
      simp [hi] at h
  · rwa [getD_set_ne true e] at h
theorem Open_.set {i : Nat} {listed : Array Bool} (h : Open_ m listed) (e : i ≠ m) : Open_ m (listed.setIfInBounds i true) := by
  unfold Open_ at *
  rwa [getD_set_ne true e]
/-- Whatever order is picked from here on; S holds till operation m comes up. -/
def heldL (P : Program) (md : Region.Mode) (ops : Array Oper) (Q : Exit → Act → World → Prop) (S : World → Prop) (m : Nat) : Nat → Array Bool → Act → World → Prop
  | 0, listed, a, w => Region.ready md ops listed = [] ∧ Q .normal a w
  | fuel + 1, listed, a, w => (Region.ready md ops listed = [] → Q .normal a w) ∧
    ∀ i ∈ Region.ready md ops listed, wpOp P ops Q i (fun a' w' => (Open_ m (listed.setIfInBounds i true) → S w') ∧ heldL P md ops Q S m fuel (listed.setIfInBounds i true) a' w') a w
theorem heldL.any : ∀ (fuel : Nat) (listed : Array Bool) (a : Act) (w : World), heldL P md ops Q S m fuel listed a w → wpAny P md ops Q fuel listed a w
  | 0, _, _, _, h => h
  | fuel + 1, _, _, _, h => ⟨h.1, fun i hi => wpOp_mono (fun a' w' k => heldL.any fuel _ a' w' k.2) (h.2 i hi)⟩
/-- An operation that may come up now goes first, if it yields the same in every world of T: T is any world, or what S allows where m waits for the operation. -/
theorem heldL.first {i : Nat} {oi : Oper} {v : Value} {T : World → Prop} (hi : ops[i]? = some oi) (hsel : ∀ (j : Nat) (o : Oper) cs b, ops[j]? = some o → o.op ≠ .select cs b)
    (hQ : ∀ c a w, Q (.panic c) (a.put oi.dst v) w → Q (.panic c) a w) (him : i ≠ m)
    (hT : (∀ w, T w) ∨ ((∀ w, S w → T w) ∧ ∀ om, ops[m]? = some om → ∃ e ∈ om.after, Region.binds md e = true ∧ e.on = i)) :
    ∀ (fuel : Nat) (listed : Array Bool) (a : Act) (w : World),
      (∀ j oj, ops[j]? = some oj → j ≠ i → listed.getD j true = false → (∀ e ∈ oj.after, Region.binds md e = true → e.on ≠ i) → oi.apart ops oj = true) →
      i ∈ Region.ready md ops listed → YieldsIf P ops T oi v a → (Open_ m listed → S w) → ((∀ w, T w) ∨ Open_ m listed) →
      heldL P md ops Q S m fuel (listed.setIfInBounds i true) (a.put oi.dst v) w → heldL P md ops Q S m (fuel + 1) listed a w := by
  intro fuel
  induction fuel with
  | zero =>
    intro listed a w _ hr hy hS hU H
    have hTw : T w := by
      rcases hU with h | h
      · exact h w
      · rcases hT with h' | ⟨h', _⟩
        · exact h' w
        · exact h' w (hS h)
    refine ⟨fun h => (by rw [h] at hr; cases hr), fun j hj => ?_⟩
    by_cases hji : j = i
    · subst hji
      exact hy.wpOp hi hTw ⟨fun h => hS h.of_set, H⟩
    · have := ready_mono hj hji
      rw [H.1] at this
      cases this
  | succ fuel ih =>
    intro listed a w hfree hr hy hS hU H
    have hTw : T w := by
      rcases hU with h | h
      · exact h w
      · rcases hT with h' | ⟨h', _⟩
        · exact h' w
        · exact h' w (hS h)
    refine ⟨fun h => (by rw [h] at hr; cases hr), fun j hj => ?_⟩
    by_cases hji : j = i
    · subst hji
      exact hy.wpOp hi hTw ⟨fun h => hS h.of_set, H⟩
    · have h1 := H.2 j (ready_mono hj hji)
      obtain ⟨hjun, oj, hoj, hall⟩ := mem_ready.1 hj
      have hun : listed.getD i false ≠ true := fun h1 => by
        have h0 := (mem_ready.1 hr).1
        rcases Nat.lt_or_ge i listed.size with h' | h'
        · simp [h'] at h0 h1; rw [h0] at h1; cases h1
        · simp [Array.getElem?_eq_none h'] at h1
      have hnot : ∀ e ∈ oj.after, Region.binds md e = true → e.on ≠ i := fun e he hb heq => hun (by rw [← heq]; exact hall e he hb)
      have h2 := wpOp_putIf hoj (hfree j oj hoj hji hjun hnot) (fun cs b => hsel i oi cs b hi) (fun cs b => hsel j oj cs b hoj) hQ hy h1
      have hU' : (∀ w, T w) ∨ Open_ m (listed.setIfInBounds j true) := by
        rcases hU with h | h
        · exact .inl h
        · rcases hT with h' | ⟨_, h'⟩
          · exact .inl h'
          · refine .inr (h.set (fun e => ?_))
            subst e
            obtain ⟨e, he, hb, heq⟩ := h' oj hoj
            exact hnot e he hb heq
      have hfree' : ∀ k ok, ops[k]? = some ok → k ≠ i → (listed.setIfInBounds j true).getD k true = false →
          (∀ e ∈ ok.after, Region.binds md e = true → e.on ≠ i) → oi.apart ops ok = true := fun k ok hk hki hkn hno => by
        refine hfree k ok hk hki ?_ hno
        by_cases hjk : j = k
        · subst hjk; exact hjun
        · rw [getD_set_ne true hjk] at hkn; exact hkn
      refine wpOp_mono (fun a' w' h3 => ?_) h2
      have hS' : Open_ m (listed.setIfInBounds j true) → S w' := fun h => h3.2.1 (by rw [Array.setIfInBounds_comm _ _ (Ne.symm hji)]; exact h.set him)
      refine ⟨hS', ih (listed.setIfInBounds j true) a' w' hfree' (ready_mono hr (Ne.symm hji)) h3.1 hS' hU' ?_⟩
      rw [Array.setIfInBounds_comm _ _ hji]
      exact h3.2.2
/-- Taken first: what yields in whatever world. -/
theorem heldL.take0 {i : Nat} {oi : Oper} {v : Value} {fuel : Nat} {listed : Array Bool} {a : Act} {w : World} (hi : ops[i]? = some oi)
    (hs : Region.noSelect ops = true) (hf : Region.free md ops listed i = true) (hr : (Region.ready md ops listed).contains i = true)
    (hQ : ∀ c a w, Q (.panic c) (a.put oi.dst v) w → Q (.panic c) a w) (him : i ≠ m) (hy : YieldsIf P ops (fun _ => True) oi v a) (hS : Open_ m listed → S w)
    (h : heldL P md ops Q S m fuel (listed.setIfInBounds i true) (a.put oi.dst v) w) : heldL P md ops Q S m (fuel + 1) listed a w :=
  heldL.first hi (Region.noSelect_spec hs) hQ him (.inl (fun _ => trivial)) fuel listed a w (Region.free_spec hi hf) (by simpa using hr) hy hS (.inl (fun _ => trivial)) h
/-- Taken first: what yields in every world that meets S, where m waits for it. -/
theorem heldL.takeS {i : Nat} {oi om : Oper} {v : Value} {fuel : Nat} {listed : Array Bool} {a : Act} {w : World} (hi : ops[i]? = some oi)
    (hs : Region.noSelect ops = true) (hf : Region.free md ops listed i = true) (hr : (Region.ready md ops listed).contains i = true)
    (hQ : ∀ c a w, Q (.panic c) (a.put oi.dst v) w → Q (.panic c) a w) (him : i ≠ m) (hom : ops[m]? = some om) (hw : (om.after.any fun e => Region.binds md e && e.on == i) = true)
    (hu : Open_ m listed) (hy : YieldsIf P ops S oi v a) (hS : S w)
    (h : heldL P md ops Q S m fuel (listed.setIfInBounds i true) (a.put oi.dst v) w) : heldL P md ops Q S m (fuel + 1) listed a w := by
  refine heldL.first hi (Region.noSelect_spec hs) hQ him (.inr ⟨fun _ h => h, fun om' ho' => ?_⟩) fuel listed a w (Region.free_spec hi hf) (by simpa using hr) hy (fun _ => hS) (.inr hu) h
  rw [hom] at ho'
  injection ho' with ho'
  subst ho'
  obtain ⟨e, he, h1⟩ := Array.any_eq_true'.1 hw
  rw [Bool.and_eq_true] at h1
  exact ⟨e, he, h1.1, by simpa using h1.2⟩
theorem heldL.all {rs : List Nat} {fuel : Nat} {listed : Array Bool} {a : Act} {w : World} (hr : Region.ready md ops listed = rs) (hne : rs ≠ [])
    (h : ∀ i ∈ rs, wpOp P ops Q i (fun a' w' => (Open_ m (listed.setIfInBounds i true) → S w') ∧ heldL P md ops Q S m fuel (listed.setIfInBounds i true) a' w') a w) : heldL P md ops Q S m (fuel + 1) listed a w :=
  ⟨fun h0 => absurd (hr ▸ h0) hne, hr ▸ h⟩
theorem heldL.done {listed : Array Bool} {a : Act} {w : World} (hr : Region.ready md ops listed = []) (h : Q .normal a w) : ∀ fuel, heldL P md ops Q S m fuel listed a w
  | 0 => ⟨hr, h⟩
  | _ + 1 => ⟨fun _ => h, by rw [hr]; simp⟩
/-- One operation is carried out. -/
theorem heldL.step {fuel : Nat} {listed : Array Bool} {a : Act} {w : World} {i : Nat} {o : Oper} (ho : ops[i]? = some o)
    (h : ∀ K' : Act → World → Prop, Shut (∀ a w, (Open_ m (listed.setIfInBounds i true) → S w) → heldL P md ops Q S m fuel (listed.setIfInBounds i true) a w → K' a w) → if Region.wanted o (yielded ops a.tmps) = true then Oper.wp P o a w K' Q else K' (a.put o.dst undef) w) :
    wpOp P ops Q i (fun a' w' => (Open_ m (listed.setIfInBounds i true) → S w') ∧ heldL P md ops Q S m fuel (listed.setIfInBounds i true) a' w') a w :=
  wpOp_step ho (fun K' hK => h K' (fun a w h1 h2 => hK a w ⟨h1, h2⟩))
theorem heldL.begin {id : Nat} {a : Act} {w : World} (hm : P.follows .mixedOrders = true)
    (h : heldL P .any ops Q S m ops.size (Array.replicate ops.size false) a w.drew) : (Code.region id ops true).wp P Q a w :=
  wp_region_any hm (heldL.any _ _ _ _ h)
end
end Go.Proofs.Ytognnjaefaoefaa
