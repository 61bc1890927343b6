/- A load may be taken first where nobody who may come before it writes its cell: the condition S is asked behind every operation but 'z', and what is taken first must be one that 'z' waits for. -/
import Derived.OrdersHeld
import Derived.Deep.RegionHeld
namespace Go.Proofs.Ytocfeeecgpklnaa
set_option linter.unusedVariables false
set_option linter.unusedSimpArgs false
set_option linter.unusedSectionVars false

section
variable {P : Program} {ops : Array Oper} {Q : Exit → Act → World → Prop} {md : Region.Mode} {S : World → Prop} {z : Nat}

def chain (md : Region.Mode) (ops : Array Oper) (listed : Array Bool) : List Nat → Bool
  | [] => true
  | [x] => !listed.getD x false
  | x :: y :: r => !listed.getD x false && ((ops[x]?).map (fun o => o.after.any fun e => Region.binds md e && e.on == y)).getD false && chain md ops listed (y :: r)

theorem chain_head {listed : Array Bool} {x : Nat} {r : List Nat} (h : chain md ops listed (x :: r) = true) : listed.getD x false = false := by
  cases r with
  | nil => simpa [chain] using h
  | cons y r => simp only [chain, Bool.and_eq_true, Bool.not_eq_true'] at h; exact h.1.1

theorem chain_all {listed : Array Bool} : ∀ (l : List Nat), chain md ops listed l = true → ∀ x ∈ l, listed.getD x false = false := by
  intro l
  induction l with
  | nil => intro _ x h; simp at h
  | cons x r ih =>
    intro h y hy
    rcases List.mem_cons.1 hy with rfl | hy
    · exact chain_head h
    · cases r with
      | nil => simp at hy
      | cons z r =>
        simp only [chain, Bool.and_eq_true] at h
        exact ih h.2 y hy

theorem chain_step {j : Nat} {listed : Array Bool} (hj : j ∈ Region.ready md ops listed) : ∀ (l : List Nat) (i : Nat), l.getLast? = some i → j ≠ i → chain md ops listed l = true → j ∉ l ∧ chain md ops (listed.setIfInBounds j true) l = true := by
  intro l
  induction l with
  | nil => intro i h; simp at h
  | cons x r ih =>
    intro i hl hne hc
    cases r with
    | nil =>
      simp at hl
      subst hl
      refine ⟨by simpa using hne, ?_⟩
      simp only [chain] at hc ⊢
      rw [getD_set_ne false hne]
      exact hc
    | cons y r =>
      simp only [chain, Bool.and_eq_true] at hc
      obtain ⟨⟨h1, h2⟩, h3⟩ := hc
      obtain ⟨g1, g2⟩ := ih i (by simpa using hl) hne h3
      have hjx : j ≠ x := by
        rintro rfl
        obtain ⟨_, o, ho, hall⟩ := mem_ready.1 hj
        simp only [ho, Option.map_some, Option.getD_some, Array.any_eq_true, Bool.and_eq_true, beq_iff_eq] at h2
        obtain ⟨n, hn, hb, he⟩ := h2
        have := hall o.after[n] (Array.getElem_mem hn) hb
        rw [he, chain_head h3] at this
        cases this
      refine ⟨by simp only [List.mem_cons, not_or] at g1 ⊢; exact ⟨hjx, g1⟩, ?_⟩
      simp only [chain, Bool.and_eq_true]
      refine ⟨⟨?_, h2⟩, g2⟩
      rw [getD_set_ne false hjx]
      exact h1

def wpAnyK (P : Program) (md : Region.Mode) (ops : Array Oper) (Q : Exit → Act → World → Prop) (S : World → Prop) (z : Nat) : Nat → Array Bool → Act → World → Prop
  | 0, listed, a, w => Region.ready md ops listed = [] ∧ Q .normal a w
  | fuel + 1, listed, a, w =>
    (Region.ready md ops listed = [] → Q .normal a w) ∧
    ∀ i ∈ Region.ready md ops listed, wpOp P ops Q i (fun a' w' => (i ≠ z → listed.getD z false = false → S w') ∧ wpAnyK P md ops Q S z fuel (listed.setIfInBounds i true) a' w') a w

theorem wpAny_of_K : ∀ (fuel : Nat) (listed : Array Bool) (a : Act) (w : World), wpAnyK P md ops Q S z fuel listed a w → wpAny P md ops Q fuel listed a w
  | 0, _, _, _, h => h
  | fuel + 1, _, _, _, h => ⟨h.1, fun i hi => wpOp_mono (fun a' w' h' => wpAny_of_K fuel _ a' w' h'.2) (h.2 i hi)⟩

theorem wpAnyK_first {i : Nat} {oi : Oper} {v : Value} (hi : ops[i]? = some oi) (hsel : ∀ (j : Nat) (o : Oper) cs b, ops[j]? = some o → o.op ≠ .select cs b)
    (hQ : ∀ c a w, Q (.panic c) (a.put oi.dst v) w → Q (.panic c) a w) (l : List Nat) (hl : l.getLast? = some i) (hz : z ∈ l) (hzi : i ≠ z) :
    ∀ (fuel : Nat) (listed : Array Bool) (a : Act) (w : World),
      (∀ j oj, ops[j]? = some oj → j ≠ i → listed.getD j true = false → (∀ e ∈ oj.after, Region.binds md e = true → e.on ≠ i) → oi.apart ops oj = true) →
      chain md ops listed l = true →
      i ∈ Region.ready md ops listed → YieldsIf P ops S oi v a → S w →
      wpAnyK P md ops Q S z fuel (listed.setIfInBounds i true) (a.put oi.dst v) w → wpAnyK P md ops Q S z (fuel + 1) listed a w := by
  intro fuel
  induction fuel with
  | zero =>
    intro listed a w _ _ hr hy hS H
    refine ⟨fun h => (by rw [h] at hr; cases hr), fun j hj => ?_⟩
    by_cases hji : j = i
    · subst hji; exact hy.wpOp hi hS ⟨fun _ _ => hS, H⟩
    · have := ready_mono hj hji
      rw [H.1] at this
      cases this
  | succ fuel ih =>
    intro listed a w hfree hch hr hy hS H
    refine ⟨fun h => (by rw [h] at hr; cases hr), fun j hj => ?_⟩
    by_cases hji : j = i
    · subst hji; exact hy.wpOp hi hS ⟨fun _ _ => hS, H⟩
    · have h1 := H.2 j (ready_mono hj hji)
      obtain ⟨hjun, oj, hoj, hall⟩ := mem_ready.1 hj
      have hnot : ∀ e ∈ oj.after, Region.binds md e = true → e.on ≠ i := fun e he hb heq => by
        have h1 := hall e he hb
        have h0 := (mem_ready.1 hr).1
        rw [heq] at h1
        rcases Nat.lt_or_ge i listed.size with h' | h'
        · simp [h'] at h0 h1; rw [h0] at h1; cases h1
        · simp [Array.getElem?_eq_none h'] at h1
      obtain ⟨hjl, hch'⟩ := chain_step hj l i hl hji hch
      have hjz : j ≠ z := fun e => hjl (e ▸ hz)
      have h2 := wpOp_putIf hoj (hfree j oj hoj hji hjun hnot) (fun cs b => hsel i oi cs b hi) (fun cs b => hsel j oj cs b hoj) hQ hy h1
      have hfree' : ∀ k ok, ops[k]? = some ok → k ≠ i → (listed.setIfInBounds j true).getD k true = false →
          (∀ e ∈ ok.after, Region.binds md e = true → e.on ≠ i) → oi.apart ops ok = true := fun k ok hk hki hun hno => by
        refine hfree k ok hk hki ?_ hno
        by_cases hjk : j = k
        · subst hjk; exact hjun
        · rw [getD_set_ne true hjk] at hun; exact hun
      refine wpOp_mono (fun a' w' h3 => ⟨fun hz1 hz2 => h3.2.1 hz1 (by rw [getD_set_ne false hzi]; exact hz2), ih (listed.setIfInBounds j true) a' w' hfree' hch' (ready_mono hr (Ne.symm hji)) h3.1 (h3.2.1 hjz (by rw [getD_set_ne false hzi]; exact chain_all l hch z hz)) ?_⟩) h2
      rw [Array.setIfInBounds_comm _ _ hji]
      exact h3.2.2

theorem wpAnyK_take {i : Nat} {oi : Oper} {v : Value} {fuel : Nat} {listed : Array Bool} {a : Act} {w : World} (l : List Nat) (hi : ops[i]? = some oi)
    (hs : Region.noSelect ops = true) (hf : Region.free md ops listed i = true) (hr : (Region.ready md ops listed).contains i = true)
    (hc : chain md ops listed l = true) (hl : (l.getLast? == some i && l.contains z && i != z) = true)
    (hQ : ∀ c a w, Q (.panic c) (a.put oi.dst v) w → Q (.panic c) a w) (hy : YieldsIf P ops S oi v a) (hS : S w)
    (h : wpAnyK P md ops Q S z fuel (listed.setIfInBounds i true) (a.put oi.dst v) w) : wpAnyK P md ops Q S z (fuel + 1) listed a w := by
  simp only [Bool.and_eq_true, beq_iff_eq, List.contains_iff_mem, bne_iff_ne, ne_eq] at hl
  exact wpAnyK_first hi (Region.noSelect_spec hs) hQ l hl.1.1 hl.1.2 hl.2 fuel listed a w (Region.free_spec hi hf) hc (by simpa using hr) hy hS h

theorem wpAnyK_one {i : Nat} {oi : Oper} {fuel : Nat} {listed : Array Bool} {a : Act} {w : World} (hr : Region.ready md ops listed = [i]) (hi : ops[i]? = some oi)
    (hw : Region.wanted oi (yielded ops a.tmps) = true)
    (h : ∀ K : Act → World → Prop, Go.Shut (∀ a' w', ((i ≠ z → listed.getD z false = false → S w') ∧ wpAnyK P md ops Q S z fuel (listed.setIfInBounds i true) a' w') → K a' w') → Oper.wp P oi a w K Q) : wpAnyK P md ops Q S z (fuel + 1) listed a w := by
  refine ⟨fun h0 => (by rw [hr] at h0; cases h0), fun j hj => ?_⟩
  rw [hr] at hj
  obtain rfl := List.mem_singleton.1 hj
  unfold wpOp
  simp only [hi, hw, if_true]
  exact .inl (h _ (fun _ _ h => h))

theorem wpAnyK_done {listed : Array Bool} {a : Act} {w : World} (hr : Region.ready md ops listed = []) (h : Q .normal a w) :
    ∀ fuel, wpAnyK P md ops Q S z fuel listed a w
  | 0 => ⟨hr, h⟩
  | _ + 1 => ⟨fun _ => h, by rw [hr]; simp⟩

theorem wp_region_K {id : Nat} {a : Act} {w : World} (z : Nat) (S : World → Prop) (hm : P.follows .mixedOrders = true)
    (h : wpAnyK P .any ops Q S z ops.size (Array.replicate ops.size false) a w.drew) : (Code.region id ops true).wp P Q a w :=
  wp_region_any hm (wpAny_of_K _ _ _ _ h)

end
end Go.Proofs.Ytocfeeecgpklnaa
