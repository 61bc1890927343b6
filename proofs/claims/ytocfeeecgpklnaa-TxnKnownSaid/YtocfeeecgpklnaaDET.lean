/- A region that draws its order, where each operation has its one value: no orders. -/
import Derived.Test.YtocfeeecgpklnaaH1
import Derived.Test.YtocfeeecgpklnaaK4
namespace Go.Proofs.Ytocfeeecgpklnaa
set_option linter.unusedVariables false
set_option linter.unusedSimpArgs false
set_option linter.unusedSectionVars false

section
variable {P : Program} {ops : Array Oper} {Q : Exit → Act → World → Prop} {md : Region.Mode} {S : World → Prop} {Val : Nat → Value} {base : Act}

/-- The frame behind those that have come up. -/
structure FrameOf (ops : Array Oper) (Val : Nat → Value) (base : Act) (listed : Array Bool) (a : Act) : Prop where
  size : a.tmps.size = base.tmps.size
  defers : a.defers = base.defers
  here : ∀ i o d, ops[i]? = some o → listed.getD i false = true → o.dst = some d → d < base.tmps.size → a.tmps[d]? = some (Val i)
  other : ∀ t, (∀ i o, ops[i]? = some o → listed.getD i false = true → o.dst ≠ some t) → a.tmps[t]? = base.tmps[t]?

theorem FrameOf.start (n : Nat) : FrameOf ops Val base (Array.replicate n false) base := by
  refine ⟨rfl, rfl, fun i o d _ h => ?_, fun t _ => rfl⟩
  rw [Array.getD_eq_getD_getElem?, Array.getElem?_replicate] at h
  split at h <;> cases h

theorem getD_set (listed : Array Bool) (i j : Nat) (h : i < listed.size) : (listed.setIfInBounds i true).getD j false = (if i = j then true else listed.getD j false) := by
  rw [Array.getD_eq_getD_getElem?, Array.getD_eq_getD_getElem?, Array.getElem?_setIfInBounds]
  split
  · simp [h]
  · rfl

theorem FrameOf.step {listed : Array Bool} {a : Act} (hf : FrameOf ops Val base listed a) {i : Nat} {o : Oper} (ho : ops[i]? = some o) (hi : i < listed.size)
    (hd : ∀ (j k : Nat) (oj ok : Oper) (d : Tmp), ops[j]? = some oj → ops[k]? = some ok → oj.dst = some d → ok.dst = some d → j = k) : FrameOf ops Val base (listed.setIfInBounds i true) (a.put o.dst (Val i)) := by
  cases hdst : o.dst with
  | none =>
    refine ⟨hf.size, hf.defers, fun j oj d hj hl hjd hb => ?_, fun t ht => ?_⟩
    · rw [getD_set _ _ _ hi] at hl
      by_cases hij : i = j
      · subst hij; rw [ho] at hj; cases hj; rw [hdst] at hjd; cases hjd
      · rw [if_neg hij] at hl; exact hf.here j oj d hj hl hjd hb
    · refine hf.other t (fun j oj hj hl => ht j oj hj ?_)
      rw [getD_set _ _ _ hi]; split <;> simp [hl]
  | some e =>
    have hp : (a.put (some e) (Val i)).tmps = a.tmps.setIfInBounds e (Val i) := rfl
    refine ⟨by rw [hp]; simpa using hf.size, hf.defers, fun j oj d hj hl hjd hb => ?_, fun t ht => ?_⟩
    · rw [hp, Array.getElem?_setIfInBounds]
      by_cases hed : e = d
      · subst hed
        have : i = j := hd i j o oj e ho hj hdst hjd
        subst this
        rw [if_pos rfl, if_pos (by rw [hf.size]; exact hb)]
      · rw [if_neg hed]
        rw [getD_set _ _ _ hi] at hl
        by_cases hij : i = j
        · subst hij; rw [ho] at hj; cases hj; rw [hdst] at hjd; cases hjd; exact absurd rfl hed
        · rw [if_neg hij] at hl; exact hf.here j oj d hj hl hjd hb
    · rw [hp, Array.getElem?_setIfInBounds]
      have he : e ≠ t := fun k => ht i o ho (by rw [getD_set _ _ _ hi, if_pos rfl]) (by rw [hdst, k])
      rw [if_neg he]
      refine hf.other t (fun j oj hj hl => ht j oj hj ?_)
      rw [getD_set _ _ _ hi]; split <;> simp [hl]

theorem FrameOf.one {listed : Array Bool} {a a' : Act} (h : FrameOf ops Val base listed a) (h' : FrameOf ops Val base listed a') : a = a' := by
  obtain ⟨t, d⟩ := a
  obtain ⟨t', d'⟩ := a'
  have e1 : d = d' := h.defers.trans h'.defers.symm
  have e2 : t = t' := by
    apply Array.ext
    · exact h.size.trans h'.size.symm
    · intro k h1 h2
      have : t[k]? = t'[k]? := by
        by_cases hk : ∃ i o, ops[i]? = some o ∧ listed.getD i false = true ∧ o.dst = some k
        · obtain ⟨i, o, ho, hl, hd⟩ := hk
          have hb : k < base.tmps.size := by rw [← h.size]; exact h1
          exact (h.here i o k ho hl hd hb).trans (h'.here i o k ho hl hd hb).symm
        · have hk' : ∀ i o, ops[i]? = some o → listed.getD i false = true → o.dst ≠ some k := fun i o ho hl hd => hk ⟨i, o, ho, hl, hd⟩
          exact (h.other k hk').trans (h'.other k hk').symm
      rw [Array.getElem?_eq_getElem h1, Array.getElem?_eq_getElem h2] at this
      exact Option.some.inj this
  rw [e1, e2]

/-- What an operation may build on: the values of those that it waits for, and the slots that the region does not write. -/
def Knows (md : Region.Mode) (ops : Array Oper) (Val : Nat → Value) (base : Act) (o : Oper) (a : Act) : Prop :=
  (∀ e ∈ o.after, Region.binds md e = true → ∀ (oj : Oper) (d : Tmp), ops[e.on]? = some oj → oj.dst = some d → d < base.tmps.size → a.tmps[d]? = some (Val e.on)) ∧
  (∀ t : Tmp, (∀ (i : Nat) (oi : Oper), ops[i]? = some oi → oi.dst ≠ some t) → a.tmps[t]? = base.tmps[t]?)

def finA (ops : Array Oper) (Val : Nat → Value) (base : Act) : Nat → Act
  | 0 => base
  | n + 1 => (finA ops Val base n).put ((ops[n]?).bind (·.dst)) (Val n)
def allL (m : Nat) : Nat → Array Bool
  | 0 => Array.replicate m false
  | n + 1 => (allL m n).setIfInBounds n true
theorem allL_size (m : Nat) : ∀ n, (allL m n).size = m
  | 0 => by simp [allL]
  | n + 1 => by simp [allL, allL_size m n]
theorem allL_get (m : Nat) : ∀ n i, n ≤ m → (allL m n).getD i false = decide (i < n)
  | 0, i, _ => by
    rw [Array.getD_eq_getD_getElem?]
    simp only [allL, Array.getElem?_replicate]
    split <;> simp
  | n + 1, i, h => by
    simp only [allL]
    rw [getD_set _ _ _ (by rw [allL_size]; omega), allL_get m n i (by omega)]
    split
    · subst_vars; simp
    · rename_i hne; simp; omega
theorem fin_frame (hd : ∀ (j k : Nat) (oj ok : Oper) (d : Tmp), ops[j]? = some oj → ops[k]? = some ok → oj.dst = some d → ok.dst = some d → j = k) : ∀ n, n ≤ ops.size → FrameOf ops Val base (allL ops.size n) (finA ops Val base n)
  | 0, _ => FrameOf.start _
  | n + 1, h => by
    have ho : ops[n]? = some ops[n] := Array.getElem?_eq_getElem (by omega)
    have := (fin_frame hd n (by omega)).step ho (by rw [allL_size]; omega) hd
    simp only [finA, ho, Option.bind_some]
    exact this

theorem countP_less {p q : Nat → Bool} (h : ∀ x, q x = true → p x = true) {i : Nat} (hp : p i = true) (hq : q i = false) : ∀ (l : List Nat), i ∈ l → l.countP q + 1 ≤ l.countP p := by
  intro l
  induction l with
  | nil => intro hi; cases hi
  | cons x l ih =>
    intro hi
    rw [List.countP_cons, List.countP_cons]
    rcases List.mem_cons.1 hi with rfl | hi
    · rw [hp, hq]
      have := List.countP_mono_left (l := l) (p := q) (q := p) (fun x _ => h x)
      simp; omega
    · have := ih hi
      cases hqx : q x
      · simp; omega
      · rw [h x hqx]; simp; omega

theorem det_any (hd : ∀ (j k : Nat) (oj ok : Oper) (d : Tmp), ops[j]? = some oj → ops[k]? = some ok → oj.dst = some d → ok.dst = some d → j = k)
    (hac : ∀ (i : Nat) (o : Oper), ops[i]? = some o → ∀ e ∈ o.after, e.on < i)
    (hop : ∀ (i : Nat) (o : Oper), ops[i]? = some o → ∀ a w, Knows md ops Val base o a → S w → wpOp P ops Q i (fun a' w' => a' = a.put o.dst (Val i) ∧ S w') a w)
    (hQ : ∀ w, S w → Q .normal (finA ops Val base ops.size) w) :
    ∀ (fuel : Nat) (listed : Array Bool) (a : Act) (w : World), listed.size = ops.size → FrameOf ops Val base listed a → S w → ((List.range ops.size).countP (fun i => !listed.getD i false)) ≤ fuel → wpAnyH P md ops Q S fuel listed a w := by
  intro fuel
  have done : ∀ (listed : Array Bool) (a : Act) (w : World), listed.size = ops.size → FrameOf ops Val base listed a → S w → Region.ready md ops listed = [] → Q .normal a w := by
    intro listed a w hsz hf hS hr
    have hall : ∀ i, i < ops.size → listed.getD i false = true := by
      intro i
      induction i using Nat.strongRecOn with
      | _ i ih =>
        intro hi
        cases hl : listed.getD i false
        · exfalso
          have ho : ops[i]? = some ops[i] := Array.getElem?_eq_getElem hi
          have hm : i ∈ Region.ready md ops listed := by
            refine mem_ready.2 ⟨?_, ops[i], ho, fun e he hb => ?_⟩
            · rw [Array.getD_eq_getD_getElem?] at hl ⊢
              rw [Array.getElem?_eq_getElem (by omega)] at hl ⊢
              exact hl
            · have := hac i _ ho e he
              exact ih e.on this (by omega)
          rw [hr] at hm; cases hm
        · rfl
    have e : a = finA ops Val base ops.size := by
      have h1 := fin_frame (Val := Val) (base := base) hd ops.size (Nat.le_refl _)
      refine FrameOf.one (listed := listed) hf ?_
      refine ⟨h1.size, h1.defers, fun i o d ho hl hd' hb => ?_, fun t ht => ?_⟩
      · refine h1.here i o d ho ?_ hd' hb
        rw [allL_get _ _ _ (Nat.le_refl _)]
        exact decide_eq_true (Array.getElem?_eq_some_iff.1 ho).1
      · refine h1.other t (fun i o ho hl => ht i o ho ?_)
        exact hall i (Array.getElem?_eq_some_iff.1 ho).1
    rw [e]
    exact hQ w hS
  induction fuel with
  | zero =>
    intro listed a w hsz hf hS hc
    have hr : Region.ready md ops listed = [] := by
      apply List.eq_nil_iff_forall_not_mem.2
      intro i hi
      obtain ⟨h1, o, ho, _⟩ := mem_ready.1 hi
      have hb := (Array.getElem?_eq_some_iff.1 ho).1
      have : 0 < (List.range ops.size).countP (fun i => !listed.getD i false) := by
        rw [List.countP_pos_iff]
        refine ⟨i, List.mem_range.2 hb, ?_⟩
        rw [Array.getD_eq_getD_getElem?] at h1 ⊢
        rw [Array.getElem?_eq_getElem (by omega)] at h1 ⊢
        simp at h1 ⊢; exact h1
      omega
    exact ⟨hr, done listed a w hsz hf hS hr⟩
  | succ fuel ih =>
    intro listed a w hsz hf hS hc
    refine ⟨fun hr => done listed a w hsz hf hS hr, fun i hi => ?_⟩
    obtain ⟨h1, o, ho, hall⟩ := mem_ready.1 hi
    have hb := (Array.getElem?_eq_some_iff.1 ho).1
    have hk : Knows md ops Val base o a := by
      refine ⟨fun e he hbi oj d hj hjd hdb => hf.here e.on oj d hj (hall e he hbi) hjd hdb, fun t ht => hf.other t (fun i oi hoi _ => ht i oi hoi)⟩
    refine wpOp_mono (fun a' w' h => ?_) (hop i o ho a w hk hS)
    obtain ⟨rfl, hS'⟩ := h
    refine ⟨hS', ih _ _ _ (by simpa using hsz) (hf.step ho (by omega) hd) hS' ?_⟩
    have h2 : listed.getD i false = false := by
      rw [Array.getD_eq_getD_getElem?] at h1 ⊢
      rw [Array.getElem?_eq_getElem (by omega)] at h1 ⊢
      exact h1
    have := countP_less (p := fun k => !listed.getD k false) (q := fun k => !(listed.setIfInBounds i true).getD k false) (i := i)
      (fun k hk => by
        rw [getD_set _ _ _ (by omega)] at hk
        split at hk
        · cases hk
        · exact hk)
      (by simp only [h2]; rfl) (by simp only [getD_set _ _ _ (show i < listed.size by omega)]; simp) (List.range ops.size) (List.mem_range.2 hb)
    omega

def acycB (ops : Array Oper) : Bool := (List.range ops.size).all fun i => match ops[i]? with | some o => o.after.all (fun e => decide (e.on < i)) | none => true
def distB (ops : Array Oper) : Bool := (List.range ops.size).all fun j => (List.range ops.size).all fun k => j == k || (match ops[j]?, ops[k]? with | some oj, some ok => oj.dst.isNone || oj.dst != ok.dst | _, _ => true)
theorem acyc_spec (h : acycB ops = true) : ∀ (i : Nat) (o : Oper), ops[i]? = some o → ∀ e ∈ o.after, e.on < i := by
  intro i o ho e he
  have hb := (Array.getElem?_eq_some_iff.1 ho).1
  have h1 := List.all_eq_true.1 h i (List.mem_range.2 hb)
  simp only [ho] at h1
  obtain ⟨n, hn, rfl⟩ := Array.getElem_of_mem he
  exact of_decide_eq_true (Array.all_eq_true.1 h1 n hn)
theorem dist_spec (h : distB ops = true) : ∀ (j k : Nat) (oj ok : Oper) (d : Tmp), ops[j]? = some oj → ops[k]? = some ok → oj.dst = some d → ok.dst = some d → j = k := by
  intro j k oj ok d hj hk hdj hdk
  have h1 := List.all_eq_true.1 h j (List.mem_range.2 (Array.getElem?_eq_some_iff.1 hj).1)
  have h2 := List.all_eq_true.1 h1 k (List.mem_range.2 (Array.getElem?_eq_some_iff.1 hk).1)
  simp only [hj, hk, hdj, hdk] at h2
  simpa using h2

def freeB (ops : Array Oper) (t : Tmp) : Bool := ops.all fun o => o.dst != some t
theorem Knows.dep {o : Oper} {a : Act} (h : Knows md ops Val base o a) (n : Nat) {oj : Oper} {d : Tmp} (he : (o.after.any fun e => Region.binds md e && e.on == n) = true) (hj : ops[n]? = some oj) (hd : oj.dst = some d) (hb : d < base.tmps.size) : a.tmps.getD d undef = Val n := by
  rw [Array.any_eq_true] at he
  obtain ⟨k, hk, he⟩ := he
  simp only [Bool.and_eq_true, beq_iff_eq] at he
  have := h.1 o.after[k] (Array.getElem_mem hk) he.1 oj d (by rw [he.2]; exact hj) hd hb
  rw [Array.getD_eq_getD_getElem?, this, he.2]; rfl
theorem Knows.free {o : Oper} {a : Act} (h : Knows md ops Val base o a) (t : Tmp) (hf : freeB ops t = true) : a.tmps.getD t undef = base.tmps.getD t undef := by
  have := h.2 t (fun i oi hi hd => by
    have hm : oi ∈ ops := by obtain ⟨hb, rfl⟩ := Array.getElem?_eq_some_iff.1 hi; exact Array.getElem_mem hb
    have := (Array.all_eq_true'.1 hf) oi hm
    simp [hd] at this)
  rw [Array.getD_eq_getD_getElem?, Array.getD_eq_getD_getElem?, this]

/-- What a guard says. -/
theorem want_none {o : Oper} {y : Nat → Option Bool} (h : o.guard = none) : Region.wanted o y = true := by simp [Region.wanted, h]
theorem want_some {o oj : Oper} {a : Act} {j : Nat} {z z' : Bool} {d : Tmp} (hg : o.guard = some (j, z)) (hj : ops[j]? = some oj) (hd : oj.dst = some d) (hv : a.tmps.getD d undef = .bool z') : Region.wanted o (yielded ops a.tmps) = (z' == z) := by
  have h : a.tmps[d]? = some (.bool z') := by
    rw [Array.getD_eq_getD_getElem?] at hv
    cases hq : a.tmps[d]? with
    | none => rw [hq] at hv; exact absurd hv (by simp [undef])
    | some v => rw [hq] at hv; simp at hv; rw [hv]
  simp [Region.wanted, hg, yielded, hj, hd, h]
/-- An operation's step: it yields its value; it is a call; it is passed over. -/
theorem hop_run {i : Nat} {o : Oper} {a : Act} {w w' : World} (ho : ops[i]? = some o) (hw : Region.wanted o (yielded ops a.tmps) = true) (hr : (execOp a.eval o).run P w = .ok (.value (Val i)) w') (hS : S w') : wpOp P ops Q i (fun a' w' => a' = a.put o.dst (Val i) ∧ S w') a w := by
  unfold wpOp
  rw [ho]
  simp only [hw, if_true]
  left
  unfold Oper.wp
  rw [hr]
  exact ⟨rfl, hS⟩
theorem hop_call {i : Nat} {o : Oper} {a : Act} {w w' : World} {f : FuncId} {args : Array Value} (ho : ops[i]? = some o) (hw : Region.wanted o (yielded ops a.tmps) = true) (hr : (execOp a.eval o).run P w = .ok (.enter f args) w') (hc : Calls P f args w' fun e w'' => e = .returned (Val i) ∧ S w'') : wpOp P ops Q i (fun a' w' => a' = a.put o.dst (Val i) ∧ S w') a w := by
  unfold wpOp
  rw [ho]
  simp only [hw, if_true]
  left
  unfold Oper.wp
  rw [hr]
  refine hc.mono fun e w'' h => ?_
  obtain ⟨rfl, h⟩ := h
  exact ⟨rfl, h⟩
theorem hop_no {i : Nat} {o : Oper} {a : Act} {w : World} (ho : ops[i]? = some o) (hw : Region.wanted o (yielded ops a.tmps) = false) (hV : Val i = undef) (hS : S w) : wpOp P ops Q i (fun a' w' => a' = a.put o.dst (Val i) ∧ S w') a w := by
  unfold wpOp
  rw [ho]
  simp only [hw, Bool.false_eq_true, if_false]
  exact ⟨by rw [hV], hS⟩

/-- A region that draws its order, where each operation has its one value, ends in its one frame. -/
theorem wp_det {id : Nat} {w : World} (hm : P.follows .mixedOrders = true) (hd : ∀ (j k : Nat) (oj ok : Oper) (d : Tmp), ops[j]? = some oj → ops[k]? = some ok → oj.dst = some d → ok.dst = some d → j = k)
    (hac : ∀ (i : Nat) (o : Oper), ops[i]? = some o → ∀ e ∈ o.after, e.on < i) (hS : S { w with drawn := w.drawn + 1 })
    (hop : ∀ (i : Nat) (o : Oper), ops[i]? = some o → ∀ a w, Knows .any ops Val base o a → S w → wpOp P ops Q i (fun a' w' => a' = a.put o.dst (Val i) ∧ S w') a w)
    (hQ : ∀ w, S w → Q .normal (finA ops Val base ops.size) w) : (Code.region id ops true).wp P Q base w :=
  wp_region_held hm (det_any hd hac hop hQ ops.size _ base _ (by simp) (FrameOf.start _) hS (Nat.le_trans List.countP_le_length (by simp)))

/-- Said of each operation, written out. -/
def Each (H : Nat → Oper → Prop) : Nat → List Oper → Prop
  | _, [] => True
  | n, o :: l => H n o ∧ Each H (n + 1) l
theorem Each.cons {H : Nat → Oper → Prop} {n m : Nat} {o : Oper} {l : List Oper} (hm : n + 1 = m) (h : H n o) (t : Each H m l) : Each H n (o :: l) := ⟨h, hm ▸ t⟩
theorem each_get {H : Nat → Oper → Prop} : ∀ (l : List Oper) (n i : Nat) (o : Oper), Each H n l → l[i]? = some o → H (n + i) o
  | [], _, _, _, _, h => by simp at h
  | x :: l, n, 0, o, he, h => by simp at h; subst h; exact he.1
  | x :: l, n, i + 1, o, he, h => by
    have := each_get l (n + 1) i o he.2 (by simpa using h)
    rw [show n + (i + 1) = n + 1 + i by omega]
    exact this
/-- wp_det, the operations one behind the other. -/
theorem wp_det_each {id : Nat} {l : List Oper} {w : World} (hm : P.follows .mixedOrders = true) (hd : distB l.toArray = true) (hac : acycB l.toArray = true) (hS : S { w with drawn := w.drawn + 1 })
    (hop : Each (fun i o => l.toArray[i]? = some o → ∀ a w, Knows .any l.toArray Val base o a → S w → wpOp P l.toArray Q i (fun a' w' => a' = a.put o.dst (Val i) ∧ S w') a w) 0 l)
    (hQ : ∀ w, S w → Q .normal (finA l.toArray Val base l.toArray.size) w) : (Code.region id l.toArray true).wp P Q base w :=
  wp_det hm (dist_spec hd) (acyc_spec hac) hS (fun i o ho => by
    have h := each_get l 0 i o hop (by simpa using ho)
    rw [Nat.zero_add] at h
    exact h ho) hQ
/-- One operation's step, kept together; said of every frame that knows what it waits for. -/
def Hop (P : Program) (ops : Array Oper) (Q : Exit → Act → World → Prop) (S : World → Prop) (Val : Nat → Value) (i : Nat) (o : Oper) (a : Act) (w : World) : Prop := wpOp P ops Q i (fun a' w' => a' = a.put o.dst (Val i) ∧ S w') a w
def HopAt (P : Program) (ops : Array Oper) (Q : Exit → Act → World → Prop) (S : World → Prop) (Val : Nat → Value) (base : Act) (i : Nat) (o : Oper) : Prop := ops[i]? = some o → ∀ a w, Knows .any ops Val base o a → S w → Hop P ops Q S Val i o a w
/-- What an operand is in each such frame. -/
def Ev (ops : Array Oper) (Val : Nat → Value) (base : Act) (o : Oper) (x : Operand) (v : Value) : Prop := ∀ a, Knows .any ops Val base o a → a.eval x = v
def depB (ops : Array Oper) (n sz : Nat) (o : Oper) (d : Tmp) : Bool := (o.after.any fun e => Region.binds .any e && e.on == n) && (((ops[n]?).bind (·.dst)) == some d) && decide (d < sz)
theorem Ev.const {o : Oper} {v : Value} : Ev ops Val base o (.const v) v := fun _ _ => rfl
theorem Ev.func {o : Oper} {f : FuncId} : Ev ops Val base o (.func f) (.func (.func f) #[] #[]) := fun _ _ => rfl
theorem Ev.dep {o : Oper} {d : Tmp} {v : Value} (n : Nat) (h : depB ops n base.tmps.size o d = true) (hv : Val n = v) : Ev ops Val base o (.tmp d) v := by
  intro a hk
  unfold depB at h
  simp only [Bool.and_eq_true, beq_iff_eq, decide_eq_true_eq] at h
  obtain ⟨⟨h1, h2⟩, h3⟩ := h
  cases hn : ops[n]? with
  | none => rw [hn] at h2; cases h2
  | some oj =>
    rw [hn] at h2
    rw [← hv]
    exact hk.dep n h1 hn h2 h3
theorem Ev.free {o : Oper} {d : Tmp} {v : Value} (h : freeB ops d = true) (hv : base.tmps.getD d undef = v) : Ev ops Val base o (.tmp d) v := by
  intro a hk
  rw [← hv]
  exact hk.free d h
def Want (ops : Array Oper) (Val : Nat → Value) (base : Act) (o : Oper) (z : Bool) : Prop := ∀ a, Knows .any ops Val base o a → Region.wanted o (yielded ops a.tmps) = z
theorem Want.none {o : Oper} (h : o.guard = .none) : Want ops Val base o true := fun _ _ => want_none h
theorem Want.some {o : Oper} {d : Tmp} {z z' b : Bool} (n : Nat) (hg : o.guard = .some (n, z)) (h : depB ops n base.tmps.size o d = true) (hv : Val n = .bool z') (hb : (z' == z) = b) : Want ops Val base o b := by
  intro a hk
  have he := Ev.dep n h hv a hk
  unfold depB at h
  simp only [Bool.and_eq_true, beq_iff_eq, decide_eq_true_eq] at h
  obtain ⟨⟨h1, h2⟩, h3⟩ := h
  cases hn : ops[n]? with
  | none => rw [hn] at h2; cases h2
  | some oj =>
    rw [hn] at h2
    rw [← hb]
    exact want_some hg hn h2 he
theorem HopAt.run {i : Nat} {o : Oper} (hw : Want ops Val base o true) (hr : ∀ a w, Knows .any ops Val base o a → S w → ∃ w', (execOp a.eval o).run P w = .ok (.value (Val i)) w' ∧ S w') : HopAt P ops Q S Val base i o := by
  intro ho a w hk hS
  obtain ⟨w', h1, h2⟩ := hr a w hk hS
  exact hop_run ho (hw a hk) h1 h2
theorem HopAt.no {i : Nat} {o : Oper} (hw : Want ops Val base o false) (hV : Val i = undef) : HopAt P ops Q S Val base i o :=
  fun ho a w hk hS => hop_no ho (hw a hk) hV hS
theorem HopAt.move {i : Nat} {o : Oper} {x : Operand} {v : Value} (hw : Want ops Val base o true) (h : o.op = .move x) (hx : Ev ops Val base o x v) (hv : v = Val i) : HopAt P ops Q S Val base i o :=
  HopAt.run hw fun a w hk hS => ⟨w, by simp [execOp, h, hx a hk, hv], hS⟩
theorem HopAt.assign {i : Nat} {o : Oper} {x : Operand} {v : Value} (hw : Want ops Val base o true) (h : o.op = .assign x) (hx : Ev ops Val base o x v) (hv : v = Val i) : HopAt P ops Q S Val base i o :=
  HopAt.run hw fun a w hk hS => ⟨w, by simp [execOp, h, hx a hk, hv], hS⟩
theorem HopAt.pick {i : Nat} {o : Oper} {c x y : Operand} {z : Bool} {v u : Value} (hw : Want ops Val base o true) (h : o.op = .pick c x y) (hc : Ev ops Val base o c (.bool z)) (hx : z = true → Ev ops Val base o x v) (hy : z = false → Ev ops Val base o y u) (hv : (if z = true then v else u) = Val i) : HopAt P ops Q S Val base i o :=
  HopAt.run hw fun a w hk hS => ⟨w, by
    rw [← hv]
    cases z
    · have := hy rfl a hk; simp [execOp, h, hc a hk, asBool, this, Result.andThen]
    · have := hx rfl a hk; simp [execOp, h, hc a hk, asBool, this, Result.andThen], hS⟩
theorem HopAt.nil {i : Nat} {o : Oper} {x : Operand} {p : Addr} (hw : Want ops Val base o true) (h : o.op = .nilCheck x) (hx : Ev ops Val base o x (.pointer (some p))) (hv : Value.pointer (some p) = Val i) : HopAt P ops Q S Val base i o :=
  HopAt.run hw fun a w hk hS => ⟨w, by rw [← hv]; simp [execOp, h, hx a hk], hS⟩
theorem HopAt.index {i : Nat} {o : Oper} {t : TypeId} {x y : Operand} {u v r : Value} (hw : Want ops Val base o true) (h : o.op = .indexAddr t x y) (hx : Ev ops Val base o x u) (hy : Ev ops Val base o y v) (hr : ∀ w, (Instr.indexAt t u v).run P w = .ok r w) (hv : r = Val i) : HopAt P ops Q S Val base i o :=
  HopAt.run hw fun a w hk hS => ⟨w, by rw [← hv]; simp [execOp, h, hx a hk, hy a hk, hr w, Result.andThen], hS⟩
/-- Whatever else runs of the operand's value alone. -/
theorem HopAt.one {i : Nat} {o : Oper} {x : Operand} {v r : Value} {k : Operand → Op} {f : Value → Sem Value} (hw : Want ops Val base o true) (h : o.op = k x) (hk : ∀ ρ : Operand → Value, execOp ρ { o with op := k x } = (do pure (Next.value (← f (ρ x)))))
    (hx : Ev ops Val base o x v) (hr : ∀ w, S w → (f v).run P w = .ok r w) (hv : r = Val i) : HopAt P ops Q S Val base i o :=
  HopAt.run hw fun a w hkn hS => ⟨w, by
    have e : ({ o with op := k x } : Oper) = o := by cases o; subst h; rfl
    have e2 := hk a.eval
    rw [e] at e2
    rw [e2, hx a hkn]
    simp [hr w hS, hv, Result.andThen], hS⟩
theorem HopAt.field {i : Nat} {o : Oper} {s : TypeId} {x : Operand} {n : Nat} {v r : Value} (hw : Want ops Val base o true) (h : o.op = .fieldAddr s x n) (hx : Ev ops Val base o x v) (hr : ∀ w, (Instr.fieldAt s v n).run P w = .ok r w) (hv : r = Val i) : HopAt P ops Q S Val base i o :=
  HopAt.one (k := fun x => .fieldAddr s x n) (f := fun v => Instr.fieldAt s v n) hw h (fun _ => rfl) hx (fun w _ => hr w) hv
theorem HopAt.load {i : Nat} {o : Oper} {t : TypeId} {x : Operand} {v r : Value} (hw : Want ops Val base o true) (h : o.op = .load t x) (hx : Ev ops Val base o x v) (hr : ∀ w, S w → (Instr.loadAt t v).run P w = .ok r w) (hv : r = Val i) : HopAt P ops Q S Val base i o :=
  HopAt.one (k := fun x => .load t x) (f := fun v => Instr.loadAt t v) hw h (fun _ => rfl) hx hr hv
theorem HopAt.un {i : Nat} {o : Oper} {p : UnOp} {t : TypeId} {x : Operand} {v r : Value} (hw : Want ops Val base o true) (h : o.op = .unOp p t x) (hx : Ev ops Val base o x v) (hr : ∀ w, (Op.unary p v).run P w = .ok r w) (hv : r = Val i) : HopAt P ops Q S Val base i o :=
  HopAt.one (k := fun x => .unOp p t x) (f := fun v => Op.unary p v) hw h (fun _ => rfl) hx (fun w _ => hr w) hv
theorem HopAt.extract {i : Nat} {o : Oper} {x : Operand} {n : Nat} {v r : Value} (hw : Want ops Val base o true) (h : o.op = .extract x n) (hx : Ev ops Val base o x v) (hr : ∀ w, (Instr.extract v n).run P w = .ok r w) (hv : r = Val i) : HopAt P ops Q S Val base i o :=
  HopAt.one (k := fun x => .extract x n) (f := fun v => Instr.extract v n) hw h (fun _ => rfl) hx (fun w _ => hr w) hv
theorem HopAt.conv {i : Nat} {o : Oper} {s d : TypeId} {x : Operand} {v r : Value} (hw : Want ops Val base o true) (h : o.op = .convert s d x) (hx : Ev ops Val base o x v) (hr : ∀ w, (convert s d v).run P w = .ok r w) (hv : r = Val i) : HopAt P ops Q S Val base i o :=
  HopAt.one (k := fun x => .convert s d x) (f := fun v => convert s d v) hw h (fun _ => rfl) hx (fun w _ => hr w) hv
theorem HopAt.bin {i : Nat} {o : Oper} {p : BinOp} {t ty : TypeId} {x y : Operand} {u v r : Value} (hw : Want ops Val base o true) (h : o.op = .binOp p t x y ty) (hx : Ev ops Val base o x u) (hy : Ev ops Val base o y v)
    (hr : ∀ w, S w → ((do eqGuard p t x y u v; binOp p t u v) : Sem Value).run P w = .ok r w) (hv : r = Val i) : HopAt P ops Q S Val base i o :=
  HopAt.run hw fun a w hkn hS => ⟨w, by
    have e : execOp a.eval o = (do pure (Next.value (← (do eqGuard p t x y (a.eval x) (a.eval y); binOp p t (a.eval x) (a.eval y))))) := by unfold execOp; rw [h]
    rw [e, hx a hkn, hy a hkn]
    have := hr w hS
    simp only [Sem.run_bind, this, Result.andThen, hv]; simp, hS⟩
theorem HopAt.call {i : Nat} {o : Oper} {f : FuncId} {args : Array Value} (hw : Want ops Val base o true) (hr : ∀ a w, Knows .any ops Val base o a → S w → (execOp a.eval o).run P w = .ok (.enter f args) w)
    (hc : ∀ w, S w → Calls P f args w fun e w'' => e = .returned (Val i) ∧ S w'') : HopAt P ops Q S Val base i o :=
  fun ho a w hk hS => hop_call ho (hw a hk) (hr a w hk hS) (hc w hS)
/-- wp_det_each, by steps that are kept together. -/
theorem wp_hops {id : Nat} {l : List Oper} {w : World} (S : World → Prop) (Val : Nat → Value) (hm : P.follows .mixedOrders = true) (hd : distB l.toArray = true) (hac : acycB l.toArray = true) (hS : S { w with drawn := w.drawn + 1 })
    (hop : Each (HopAt P l.toArray Q S Val base) 0 l)
    (hQ : ∀ w, S w → Q .normal (finA l.toArray Val base l.toArray.size) w) : (Code.region id l.toArray true).wp P Q base w :=
  wp_det_each hm hd hac hS hop hQ
/-- As det_any; but one operation's value is not known ahead: z, of which G says what it is good for. -/
theorem det_any1 {s : Nat} {Val : Value → Nat → Value} {G : Value → World → Prop} (hd : ∀ (j k : Nat) (oj ok : Oper) (d : Tmp), ops[j]? = some oj → ops[k]? = some ok → oj.dst = some d → ok.dst = some d → j = k)
    (hac : ∀ (i : Nat) (o : Oper), ops[i]? = some o → ∀ e ∈ o.after, e.on < i) (hsz0 : s < ops.size)
    (hV : ∀ z z' j, j ≠ s → Val z j = Val z' j) (hG : ∀ z w w', Mod [] w w' → G z w → G z w')
    (hop : ∀ (i : Nat) (o : Oper), ops[i]? = some o → i ≠ s → ∀ (z : Value) (E : World → Prop), ((o.after.any fun e => Region.binds .any e && e.on == s) = true → ∀ w, E w → G z w) → (∀ w w', Mod [] w w' → E w → E w') → HopAt P ops Q (fun w => S w ∧ E w) (Val z) base i o)
    (hs : ∀ (o : Oper), ops[s]? = some o → ∀ z a w, Knows .any ops (Val z) base o a → S w → wpOp P ops Q s (fun a' w' => ∃ z', a' = a.put o.dst (Val z' s) ∧ S w' ∧ G z' w') a w)
    (hQ : ∀ z w, S w → G z w → Q .normal (finA ops (Val z) base ops.size) w) :
    ∀ (fuel : Nat) (listed : Array Bool) (a : Act) (w : World) (z : Value), listed.size = ops.size → FrameOf ops (Val z) base listed a → S w → (listed.getD s false = true → G z w) → ((List.range ops.size).countP (fun i => !listed.getD i false)) ≤ fuel → wpAnyH P .any ops Q S fuel listed a w := by
  intro fuel
  have done : ∀ (listed : Array Bool) (a : Act) (w : World) (z : Value), listed.size = ops.size → FrameOf ops (Val z) base listed a → S w → (listed.getD s false = true → G z w) → Region.ready .any ops listed = [] → Q .normal a w := by
    intro listed a w z hsz hf hS hg hr
    have hall : ∀ i, i < ops.size → listed.getD i false = true := by
      intro i
      induction i using Nat.strongRecOn with
      | _ i ih =>
        intro hi
        cases hl : listed.getD i false
        · exfalso
          have ho : ops[i]? = some ops[i] := Array.getElem?_eq_getElem hi
          have hm : i ∈ Region.ready .any ops listed := by
            refine mem_ready.2 ⟨?_, ops[i], ho, fun e he hb => ?_⟩
            · rw [Array.getD_eq_getD_getElem?] at hl ⊢
              rw [Array.getElem?_eq_getElem (by omega)] at hl ⊢
              exact hl
            · have := hac i _ ho e he
              exact ih e.on this (by omega)
          rw [hr] at hm; cases hm
        · rfl
    have e : a = finA ops (Val z) base ops.size := by
      have h1 := fin_frame (Val := Val z) (base := base) hd ops.size (Nat.le_refl _)
      refine FrameOf.one (listed := listed) hf ?_
      refine ⟨h1.size, h1.defers, fun i o d ho hl hd' hb => ?_, fun t ht => ?_⟩
      · refine h1.here i o d ho ?_ hd' hb
        rw [allL_get _ _ _ (Nat.le_refl _)]
        exact decide_eq_true (Array.getElem?_eq_some_iff.1 ho).1
      · refine h1.other t (fun i o ho hl => ht i o ho ?_)
        exact hall i (Array.getElem?_eq_some_iff.1 ho).1
    rw [e]
    exact hQ z w hS (hg (hall s hsz0))
  induction fuel with
  | zero =>
    intro listed a w z hsz hf hS hg hc
    have hr : Region.ready .any ops listed = [] := by
      apply List.eq_nil_iff_forall_not_mem.2
      intro i hi
      obtain ⟨h1, o, ho, _⟩ := mem_ready.1 hi
      have hb := (Array.getElem?_eq_some_iff.1 ho).1
      have : 0 < (List.range ops.size).countP (fun i => !listed.getD i false) := by
        rw [List.countP_pos_iff]
        refine ⟨i, List.mem_range.2 hb, ?_⟩
        rw [Array.getD_eq_getD_getElem?] at h1 ⊢
        rw [Array.getElem?_eq_getElem (by omega)] at h1 ⊢
        simp at h1 ⊢; exact h1
      omega
    exact ⟨hr, done listed a w z hsz hf hS hg hr⟩
  | succ fuel ih =>
    intro listed a w z hsz hf hS hg hc
    refine ⟨fun hr => done listed a w z hsz hf hS hg hr, fun i hi => ?_⟩
    obtain ⟨h1, o, ho, hall⟩ := mem_ready.1 hi
    have hb := (Array.getElem?_eq_some_iff.1 ho).1
    have hk : Knows .any ops (Val z) base o a := by
      refine ⟨fun e he hbi oj d hj hjd hdb => hf.here e.on oj d hj (hall e he hbi) hjd hdb, fun t ht => hf.other t (fun i oi hoi _ => ht i oi hoi)⟩
    have h2 : listed.getD i false = false := by
      rw [Array.getD_eq_getD_getElem?] at h1 ⊢
      rw [Array.getElem?_eq_getElem (by omega)] at h1 ⊢
      exact h1
    have hlt := countP_less (p := fun k => !listed.getD k false) (q := fun k => !(listed.setIfInBounds i true).getD k false) (i := i)
      (fun k hk => by
        rw [getD_set _ _ _ (by omega)] at hk
        split at hk
        · cases hk
        · exact hk)
      (by simp only [h2]; rfl) (by simp only [getD_set _ _ _ (show i < listed.size by omega)]; simp) (List.range ops.size) (List.mem_range.2 hb)
    by_cases his : i = s
    · subst his
      refine wpOp_mono (fun a' w' h => ?_) (hs o ho z a w hk hS)
      obtain ⟨z', rfl, hS', hg'⟩ := h
      have hf' : FrameOf ops (Val z') base listed a := by
        refine ⟨hf.size, hf.defers, fun j oj d hj hl hjd hjb => ?_, hf.other⟩
        rw [hf.here j oj d hj hl hjd hjb, hV z z' j (fun e => by rw [e, h2] at hl; cases hl)]
      exact ⟨hS', ih _ _ _ z' (by simpa using hsz) (hf'.step ho (by omega) hd) hS' (fun _ => hg') (by omega)⟩
    · have hgd : (listed.setIfInBounds i true).getD s false = listed.getD s false := by rw [getD_set _ _ _ (by omega), if_neg his]
      cases hls : listed.getD s false with
      | false =>
        have hn : (o.after.any fun e => Region.binds .any e && e.on == s) = true → ∀ w, True → G z w := by
          intro he
          rw [Array.any_eq_true] at he
          obtain ⟨k, hk', he⟩ := he
          simp only [Bool.and_eq_true, beq_iff_eq] at he
          have := hall o.after[k] (Array.getElem_mem hk') he.1
          rw [he.2, hls] at this; cases this
        refine wpOp_mono (fun a' w' h => ?_) (hop i o ho his z (fun _ => True) hn (fun _ _ _ h => h) ho a w hk ⟨hS, trivial⟩)
        obtain ⟨rfl, hS', _⟩ := h
        exact ⟨hS', ih _ _ _ z (by simpa using hsz) (hf.step ho (by omega) hd) hS' (fun h => by rw [hgd, hls] at h; cases h) (by omega)⟩
      | true =>
        refine wpOp_mono (fun a' w' h => ?_) (hop i o ho his z (G z) (fun _ _ h => h) (hG z) ho a w hk ⟨hS, hg hls⟩)
        obtain ⟨rfl, hS', hg'⟩ := h
        exact ⟨hS', ih _ _ _ z (by simpa using hsz) (hf.step ho (by omega) hd) hS' (fun _ => hg') (by omega)⟩

/-- What is said of one operation there. -/
structure HopZ (P : Program) (ops : Array Oper) (Q : Exit → Act → World → Prop) (S : World → Prop) (s : Nat) (G : Value → World → Prop) (Val : Value → Nat → Value) (base : Act) (i : Nat) (o : Oper) : Prop where
  other : i ≠ s → ∀ (z : Value) (E : World → Prop), ((o.after.any fun e => Region.binds .any e && e.on == s) = true → ∀ w, E w → G z w) → (∀ w w', Mod [] w w' → E w → E w') → HopAt P ops Q (fun w => S w ∧ E w) (Val z) base i o
  this : i = s → ops[s]? = some o → ∀ z a w, Knows .any ops (Val z) base o a → S w → wpOp P ops Q s (fun a' w' => ∃ z', a' = a.put o.dst (Val z' s) ∧ S w' ∧ G z' w') a w
theorem HopZ.of {s : Nat} {G : Value → World → Prop} {Val : Value → Nat → Value} {i : Nat} {o : Oper} (h : (i == s) = false) (hh : ∀ (z : Value) (E : World → Prop), HopAt P ops Q (fun w => S w ∧ E w) (Val z) base i o) : HopZ P ops Q S s G Val base i o :=
  ⟨fun _ z E _ _ => hh z E, fun e => by rw [e] at h; simp at h⟩
/-- The one that needs it. -/
theorem HopZ.need {s : Nat} {G : Value → World → Prop} {Val : Value → Nat → Value} {i : Nat} {o : Oper} (h : (i == s) = false) (hb : (o.after.any fun e => Region.binds .any e && e.on == s) = true) (hh : ∀ (z : Value) (E : World → Prop), (∀ w, E w → G z w) → (∀ w w', Mod [] w w' → E w → E w') → HopAt P ops Q (fun w => S w ∧ E w) (Val z) base i o) : HopZ P ops Q S s G Val base i o :=
  ⟨fun _ z E h1 h2 => hh z E (h1 hb) h2, fun e => by rw [e] at h; simp at h⟩
theorem HopZ.here {s : Nat} {G : Value → World → Prop} {Val : Value → Nat → Value} {i : Nat} {o : Oper} (h : (i == s) = true) (hw : ∀ z, Want ops (Val z) base o true) {f : FuncId} {args : Array Value} (hr : ∀ z a w, Knows .any ops (Val z) base o a → (execOp a.eval o).run P w = .ok (.enter f args) w)
    (hv : ∀ z, Val z i = z) (hc : ∀ w, S w → Calls P f args w fun e w'' => ∃ z, e = .returned z ∧ S w'' ∧ G z w'') : HopZ P ops Q S s G Val base i o :=
  ⟨fun e => absurd (beq_iff_eq.1 h) e, fun e ho z a w hk hS => by
    have e' := beq_iff_eq.1 h
    unfold wpOp
    rw [ho]
    simp only [hw z a hk, if_true]
    left
    unfold Oper.wp
    rw [hr z a w hk]
    refine (hc w hS).mono fun e w'' h => ?_
    obtain ⟨z', rfl, h1, h2⟩ := h
    exact ⟨z', by rw [← e', hv], h1, h2⟩⟩
theorem wp_hopz {id s : Nat} {l : List Oper} {w : World} (S : World → Prop) (G : Value → World → Prop) (Val : Value → Nat → Value) (hm : P.follows .mixedOrders = true) (hd : distB l.toArray = true) (hac : acycB l.toArray = true) (hsz0 : s < l.toArray.size)
    (hV : ∀ z z' j, j ≠ s → Val z j = Val z' j) (hG : ∀ z w w', Mod [] w w' → G z w → G z w') (hS : S { w with drawn := w.drawn + 1 })
    (hop : Each (HopZ P l.toArray Q S s G Val base) 0 l)
    (hQ : ∀ z w, S w → G z w → Q .normal (finA l.toArray (Val z) base l.toArray.size) w) : (Code.region id l.toArray true).wp P Q base w := by
  have hop' : ∀ (i : Nat) (o : Oper), l.toArray[i]? = some o → HopZ P l.toArray Q S s G Val base i o := fun i o ho => by
    have h := each_get l 0 i o hop (by simpa using ho)
    rw [Nat.zero_add] at h
    exact h
  exact wp_region_held hm (det_any1 (dist_spec hd) (acyc_spec hac) hsz0 hV hG (fun i o ho hi => (hop' i o ho).other hi) (fun o ho z a w hk hS => (hop' s o ho).this rfl ho z a w hk hS) hQ l.toArray.size _ base _ undef (by simp) (FrameOf.start _) hS (fun h => by
    rw [Array.getD_eq_getD_getElem?, Array.getElem?_replicate] at h
    split at h <;> cases h) (Nat.le_trans List.countP_le_length (by simp)))
/-- Where the operations write slot behind slot: the frame then, written out. -/
def seqB (ops : Array Oper) (c : Nat) : Bool := (List.range ops.size).all fun i => (ops[i]?).bind (·.dst) == some (c + i)
theorem set_mid {α : Type} (A : List α) (x v : α) (B : List α) : (A ++ x :: B).set A.length v = A ++ v :: B := by
  induction A with
  | nil => rfl
  | cons y A ih => simp only [List.cons_append, List.length_cons, List.set_cons_succ, ih]
theorem fin_block {Val : Nat → Value} {c : Nat} (hc : seqB ops c = true) (hb : c + ops.size ≤ base.tmps.size) : ∀ n, n ≤ ops.size → finA ops Val base n = ⟨(base.tmps.toList.take c ++ ((List.range n).map Val ++ base.tmps.toList.drop (c + n))).toArray, base.defers⟩
  | 0, _ => by
    obtain ⟨⟨l⟩, d⟩ := base
    simp [finA]
  | n + 1, h => by
    have hd : (ops[n]?).bind (·.dst) = some (c + n) := by
      have := List.all_eq_true.1 hc n (List.mem_range.2 (by omega))
      simpa using this
    have hlt : c + n < base.tmps.toList.length := by simp; omega
    rw [finA, hd, fin_block hc hb n (by omega)]
    have e : (Act.mk (base.tmps.toList.take c ++ ((List.range n).map Val ++ base.tmps.toList.drop (c + n))).toArray base.defers).put (some (c + n)) (Val n) = ⟨((base.tmps.toList.take c ++ ((List.range n).map Val ++ base.tmps.toList.drop (c + n))).set (c + n) (Val n)).toArray, base.defers⟩ := by
      simp [Act.put]
    rw [e, List.drop_eq_getElem_cons hlt, ← List.append_assoc]
    have hl : (base.tmps.toList.take c ++ (List.range n).map Val).length = c + n := by simp; omega
    have h2 := set_mid (base.tmps.toList.take c ++ (List.range n).map Val) base.tmps.toList[c + n] (Val n) (base.tmps.toList.drop (c + n + 1))
    rw [hl] at h2
    rw [h2, List.range_succ, List.map_append]
    simp [Nat.add_assoc]
theorem wp_hopz_block {id s : Nat} {l : List Oper} {w : World} (c : Nat) (vs : Value → List Value) (S : World → Prop) (G : Value → World → Prop) (Val : Value → Nat → Value) (hm : P.follows .mixedOrders = true) (hd : distB l.toArray = true) (hac : acycB l.toArray = true) (hsz0 : s < l.toArray.size)
    (hseq : seqB l.toArray c = true) (hb : c + l.toArray.size ≤ base.tmps.size) (hvs : ∀ z, (List.range l.toArray.size).map (Val z) = vs z)
    (hV : ∀ z z' j, j ≠ s → Val z j = Val z' j) (hG : ∀ z w w', Mod [] w w' → G z w → G z w') (hS : S { w with drawn := w.drawn + 1 })
    (hop : Each (HopZ P l.toArray Q S s G Val base) 0 l)
    (hQ : ∀ z w, S w → G z w → Q .normal ⟨(base.tmps.toList.take c ++ (vs z ++ base.tmps.toList.drop (c + l.toArray.size))).toArray, base.defers⟩ w) : (Code.region id l.toArray true).wp P Q base w :=
  wp_hopz S G Val hm hd hac hsz0 hV hG hS hop (fun z w h1 h2 => by rw [fin_block hseq hb _ (Nat.le_refl _), hvs]; exact hQ z w h1 h2)
end
end Go.Proofs.Ytocfeeecgpklnaa
