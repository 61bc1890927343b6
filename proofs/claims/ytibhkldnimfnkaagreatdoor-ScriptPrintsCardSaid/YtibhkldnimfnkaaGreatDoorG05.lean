/- Script: parts ZG ZH ZI ZJ ZK ZL. -/
import Derived.Test.YtibhkldnimfnkaaGreatDoorG04
import Derived.Deep.RegionHeld3

/- Script: a range over the words of a line. -/
namespace Go.Proofs.YtibhkldnimfnkaaGreatDoor
section
set_option linter.unusedVariables false
set_option linter.unusedSimpArgs false
set_option linter.unusedSectionVars false
open Go.RowKit Go.Shelf
attribute [local go_sem] Oper.semAt_some

/-- 'for w := range words(s) { .. }', the body never leaving the loop: the words one by one; where they are given up, so is the statement. -/
theorem wpIn_words {n : Nat} {g : Operand} {ps : Array Tmp} {assign body : Code} {Q : Exit → Act → World → Prop} {a : Act} {w : World} (h2 : 2 ≤ n) (Sb : Nat) (s : Bs)
    (hg : a.eval g = .func (.func 63) #[] #[.pointer (some ⟨Sb, 0, none⟩)]) (hps : ps.size = 1) (hS : Blk w Sb #[.string (str s)] 9) (hsl : s.length < 4294967000)
    (I : List Wd → World → Prop) (Ax : Wd → Act → World → Prop)
    (hI1 : ∀ pre W W', I pre W → Mod [Sb] W W' → I pre W')
    (hI2 : ∀ pre W k o o', I pre W → w.heap.size ≤ k → W.heap[k]? = some o → o.isCells = false → I pre (W.putObj k o'))
    (hAx : ∀ x a' W k o o', Ax x a' W → w.heap.size ≤ k → W.heap[k]? = some o → o.isCells = false → Ax x a' (W.putObj k o'))
    (h0 : I [] w)
    (hassign : ∀ (l : Nat) (pre : List Wd) (x : Wd) (W : World) (K : Act → World → Prop), I pre W → (∀ a' W', KeepsFrom w.heap.size W W' → W'.heap[Sb]? = W.heap[Sb]? → I pre W' → Ax x a' W' → K a' W') →
      assign.wpIn (Fence.wide.inRound l) (n - 1 - 1) Tryz.prog (Exit.then K (fun _ _ _ => False)) { tmps := (ps.zip #[wdV x]).foldl (fun t (p, v) => t.setIfInBounds p v) a.tmps, defers := [] } W)
    (hbody : ∀ (l : Nat) (pre : List Wd) (x : Wd) (a' : Act) (W : World), I pre W → Ax x a' W → pre.length ≤ s.length → body.wpIn (Fence.wide.inRound l) (n - 1 - 1) Tryz.prog (fun e _ W' => e = .normal ∧ KeepsFrom w.heap.size W W' ∧ W'.heap[Sb]? = W.heap[Sb]? ∧ I (pre ++ [x]) W') a' W)
    (hdone : ∀ (D : Nat) (W : World), w.heap.size ≤ D → I (wordsL s).1 W → W.heap[D]? = some (.deferred (some [])) → (wordsL s).2 = true → Q .normal { a with defers := { target := .collected D, args := #[] } :: a.defers } W)
    (hpan : ∀ (D : Nat) (W : World), w.heap.size ≤ D → I (wordsL s).1 W → W.heap[D]? = some (.deferred (some [])) → (wordsL s).2 = false → Q (.panic (pan 4)) { a with defers := { target := .collected D, args := #[] } :: a.defers } W) :
    (Code.rangeFunc g ps assign body).wpIn Fence.wide n Tryz.prog Q a w := by
  refine wpIn_rangeFunc ?_
  intro fn hfn
  obtain ⟨rec, hrec⟩ : ∃ rec : LoopState → Option Code → Loop, rec = fun st pe => { state := st, pending := pe, fn, tmps := a.tmps, params := ps, assign, body, defers := w.heap.size } := ⟨_, rfl⟩
  obtain ⟨W1, hW1⟩ : ∃ W1, (w.alloc (.deferred (some []))).alloc (.loop (rec .ready none)) = W1 := ⟨_, rfl⟩
  have hSlt := hS.lt
  have hL1 : W1.heap[w.heap.size + 1]? = some (.loop (rec .ready none)) := by
    rw [← hW1]; have := World.alloc_heap_new (w.alloc (.deferred (some []))) (.loop (rec .ready none)); rwa [World.size_alloc] at this
  have hK1 : W1.heap[w.heap.size]? = some (.deferred (some [])) := by
    rw [← hW1]; exact (Below.heap_alloc _ _ _ (by simp)).trans (World.alloc_heap_new w _)
  have hm1 : Mod [Sb] w W1 := by rw [← hW1]; exact ((Mod.refl _ w).alloc _).alloc _
  have hI0 : I [] W1 := hI1 _ _ _ h0 hm1
  have hS1 : Blk W1 Sb #[.string (str s)] 9 := by rw [← hW1]; exact (hS.alloc _).alloc _
  refine ⟨w.heap.size + 1, [{ target := .collected w.heap.size, args := #[] }], W1, { target := .fn (.func 63) #[.pointer (some ⟨Sb, 0, none⟩)], args := #[.func (.yield (w.heap.size + 1)) #[] #[]] }, W1, 63,
    #[.func (.yield (w.heap.size + 1)) #[] #[]] ++ #[.pointer (some ⟨Sb, 0, none⟩)], W1, ?_, ?_, ?_, ?_, fun _ => by omega, ?_⟩
  · rw [← hW1, hrec]; exact run_enterLoop_outer _ _ _ _ _
  · simp only [resolve, hg]
    simp [go_sem]
  · intro f' hf'; trivial
  · simp [invoke, go_sem, enters_of Tryz.func63 (by kernel_rfl) rfl]
  · refine (words1_in (n - 1) (n - 1 - 1) (w.heap.size + 1) Sb s
      (fun pre W => I pre W ∧ W.heap[w.heap.size + 1]? = some (.loop (rec .ready none)) ∧ W.heap[w.heap.size]? = some (.deferred (some []))) rfl (by omega)
      (fun pre W W' h hm => ⟨hI1 pre W W' h.1 hm, (hm.block _ (Array.getElem?_eq_some_iff.1 h.2.1).1 (by simp; omega)).trans h.2.1, (hm.block _ (Array.getElem?_eq_some_iff.1 h.2.2).1 (by simp; omega)).trans h.2.2⟩)
      ?_ W1 hS1 hsl ⟨hI0, hL1, hK1⟩).mono ?_
    · rintro pre x W ⟨hi, hl, hk⟩ hlen
      have hy := run_yield (P := Tryz.prog) (args := #[wdV x]) hl (by rw [hrec]; exact hps.symm)
      rw [hrec] at hy
      refine ⟨fn, _, assign, body, hy, roundIn_of_wpIn hfn (hassign _ pre x W _ hi ?_)⟩
      clear hy
      intro a' Wa hkf hkb hia hax
      replace hl := hkf.same _ _ (by omega) hl rfl
      replace hk := hkf.same _ _ (Nat.le_refl _) hk rfl
      have hlt : w.heap.size + 1 < Wa.heap.size := (Array.getElem?_eq_some_iff.1 hl).1
      refine ⟨_, run_beginRound hl (by rw [hrec]), ?_⟩
      have hl2 : (Wa.putObj (w.heap.size + 1) (.loop { rec .ready none with state := .busy })).heap[w.heap.size + 1]? = some (.loop { rec .ready none with state := .busy }) := World.putObj_heap_same hlt
      have hk2 : (Wa.putObj (w.heap.size + 1) (.loop { rec .ready none with state := .busy })).heap[w.heap.size]? = some (.deferred (some [])) := (World.putObj_heap_other (by omega)).trans hk
      have hs2 : (Wa.putObj (w.heap.size + 1) (.loop { rec .ready none with state := .busy })).heap[Sb]? = Wa.heap[Sb]? := World.putObj_heap_other (by omega)
      refine wpIn_mono (hbody _ pre x a' _ (hI2 _ _ _ _ _ hia (by omega) hl rfl) (hAx x a' _ _ _ _ hax (by omega) hl rfl) hlen) ?_
      rintro e a3 W3 ⟨rfl, hk3, hs3, hi3⟩
      have hl3 := hk3.same _ _ (by omega) hl2 rfl
      have hk4 := hk3.same _ _ (Nat.le_refl _) hk2 rfl
      have hend := run_endRound (P := Tryz.prog) none hl3
      rw [hrec] at hend
      refine ⟨_, _, hend, rfl, ⟨hI2 _ _ _ _ _ hi3 (by omega) hl3 rfl, ?_, (World.putObj_heap_other (by omega)).trans hk4⟩, ?_, ?_⟩
      · rw [hrec]; exact World.putObj_heap_same (Array.getElem?_eq_some_iff.1 hl3).1
      · exact (World.putObj_heap_other (by omega)).trans (hs3.trans (hs2.trans hkb))
      · have q1 := hkf.size
        have q2 := hk3.size
        simp [World.putObj] at q2 ⊢
        omega
    · rintro e W2 ⟨⟨hi, hl, hk⟩, rfl⟩
      cases hz : (wordsL s).2
      · exact hpan w.heap.size W2 (Nat.le_refl _) hi hk hz
      · exact ⟨none, _, by have := run_endLoop (P := Tryz.prog) hl (by rw [hrec]; simp); rw [hrec] at this; exact this, hdone w.heap.size _ (Nat.le_refl _) (hI2 _ _ _ _ _ hi (by omega) hl rfl) ((World.putObj_heap_other (by omega)).trans hk) hz⟩
end
end Go.Proofs.YtibhkldnimfnkaaGreatDoor

/- Script: what is done safely in a line: its words are gathered. -/
namespace Go.Proofs.YtibhkldnimfnkaaGreatDoor
section
set_option linter.unusedVariables false
set_option linter.unusedSimpArgs false
set_option linter.unusedSectionVars false
open Go.RowKit Go.Shelf
attribute [local go_sem] Oper.semAt_some

set_option maxHeartbeats 1000000 in
theorem words_c (s : ByteArray) (w : World) : Calls Tryz.prog 39 #[.string s] w fun e w' => e = .returned (.func (.func 63) #[] #[.pointer (some ⟨w.heap.size, 0, none⟩)]) ∧ w' = w.alloc (.cells #[.string s] 9) := by
  have hmf : ∀ (fn : Fn) (first cap : Array Value) (w : World), (Instr.makeFunc fn first cap).run Tryz.prog w = .ok (.func fn first cap) w := fun _ _ _ _ => rfl
  go_enter Tryz.func39, Tryz.ntmps39
  go_wp2
  go_ret
  exact ⟨rfl, rfl⟩

theorem wpListIn_append_rdl {F : Fence} {n0 : Nat} {P : Program} {w : World} {ops : Array Oper} {rest : List Oper} {o : Oper} {a : Act} {Q : Exit → Act → World → Prop} (hgd : o.guard = none) (s x : Operand) (t E : TypeId)
    (ho : o.op = .call { callee := .builtin .append, args := #[s, x], argTypes := #[t, t] })
    {z : Value} {sz bytes : Nat} (ht : P.underlying t = some (.slice E)) (he : (P.info? E).map (fun i => (i.zero, i.size, i.bytes)) = some (some z, sz, bytes)) (hzs : z.cells.size = sz) (hsz : 0 < sz)
    {v : Value} (hs : a.eval s = v) {n : Nat} {xs : List Value} {L : List Nat} (hown : Own w E sz v n xs L) {y : Value} (hy : a.eval x = y) {m : Nat} {ys : List Value} (hx : Rdl w sz y m ys) (h1 : ∀ u ∈ ys, u.oneCell' = true)
    (h63 : n + m ≤ 9223372036854775807) (hbytes : (n + m) * bytes ≤ 140737488355328)
    (h : ∀ v' w' L', Hid (Own w' E sz v' (n + m) (xs ++ ys) L') → Hid (Mod L w w') → Hid (∀ k ∈ L', k ∈ L ∨ w.heap.size ≤ k) → wpListIn F n0 P ops Q rest (a.put o.dst v') w') :
    wpListIn F n0 P ops Q (o :: rest) a w := by
  obtain ⟨v', w', L', hrun, h2, h3, h4⟩ := run_append_rdl (P := P) t o.type E ht he hzs hsz hown hx h1 h63 hbytes
  refine wpListIn_plain hgd fun K hK' => ?_
  unfold Oper.wpIn
  refine ⟨?_, ?_⟩
  · simp [Oper.about, ho, resolve, Target.leads, Sem.run_pure]
  · rw [Oper.semAt_plain F _ _ (by rw [ho]; intro c hc'; cases hc')]
    simp [execOp, ho, resolve, invoke, builtin, hs, hy, hrun, Result.andThen]
    exact hK' _ _ (h v' w' L' h2 h3 h4)
theorem Mod.keeps {l : List Nat} {w w' : World} {B : Nat} (h : Mod l w w') (hl : ∀ k ∈ l, ∃ c T, Blk w k c T) : KeepsFrom B w w' :=
  ⟨h.size, fun k o _ hk ho => by
    refine (h.block k (Array.getElem?_eq_some_iff.1 hk).1 (fun hm => ?_)).trans hk
    obtain ⟨c, T, hb⟩ := hl k hm
    unfold Blk at hb
    rw [hb] at hk
    cases hk
    cases ho⟩
theorem mod_put (w : World) (k : Nat) (o : Obj) : Mod [k] w (w.putObj k o) :=
  ⟨rfl, rfl, rfl, by simp, fun j hj hn => World.putObj_heap_other (by simpa using hn)⟩
theorem Blk.put {w : World} {b k : Nat} {c : Array Value} {T : TypeId} {o o' : Obj} (h : Blk w b c T) (hk : w.heap[k]? = some o) (ho : o.isCells = false) : Blk (w.putObj k o') b c T := by
  refine (mod_put w k o').blk h ?_
  intro hm
  simp at hm
  subst hm
  unfold Blk at h
  rw [h] at hk
  cases hk
  cases ho
theorem Own.put {w : World} {k : Nat} {E : TypeId} {sz n : Nat} {v : Value} {xs : List Value} {L : List Nat} {o o' : Obj} (h : Own w E sz v n xs L) (hk : w.heap[k]? = some o) (ho : o.isCells = false) : Own (w.putObj k o') E sz v n xs L := by
  refine h.mod (mod_put w k o') (fun j hj hm => ?_)
  simp at hm
  subst hm
  rcases h.2 with ⟨_, _, rfl⟩ | ⟨g, cap, cur, rfl, rfl, hb, _⟩
  · cases hj
  · simp at hj
    subst hj
    unfold Blk at hb
    rw [hb] at hk
    cases hk
    cases ho
theorem Own.cells {w : World} {E : TypeId} {sz n : Nat} {v : Value} {xs : List Value} {L : List Nat} (h : Own w E sz v n xs L) : ∀ k ∈ L, ∃ c T, Blk w k c T := by
  intro k hk
  rcases h.2 with ⟨_, _, rfl⟩ | ⟨g, cap, cur, rfl, rfl, hb, _⟩
  · cases hk
  · simp at hk
    subst hk
    exact ⟨_, _, hb⟩
theorem wd_el : (Tryz.prog.info? 87).map (fun i => (i.zero, i.size, i.bytes)) = some (some (.agg #[.string mt0, .bool false]), 2, 24) := by kernel_rfl

abbrev wdS : TypeId := 82
/-- What was gathered, at the box lb. -/
def Gath (w0 : World) (lb : Nat) (l : List Wd) (W : World) : Prop := ∃ v L, Blk W lb #[v] wdS ∧ Own W 87 2 v l.length (flat wdC l) L ∧ (∀ k ∈ L, w0.heap.size ≤ k)

set_option maxRecDepth 100000 in
set_option maxHeartbeats 2000000 in
theorem line1_c (w0 : World) (sb lb : Nat) (s : Bs) (hs : Blk w0 sb #[.string (str s)] 9) (hb : Blk w0 lb #[.slice none 0 0] wdS) (hsl : s.length < 4294967000) :
    Calls Tryz.prog 38 #[.pointer (some ⟨sb, 0, none⟩), .pointer (some ⟨lb, 0, none⟩)] w0 fun e W => e = endE (wordsL s).2 ∧ Gath w0 lb (wordsL s).1 W ∧ Mod [lb] w0 W := by
  have s0 := hs.cell 0
  have sl := hs.lt
  simp only [List.getElem?_toArray, List.getElem?_cons_zero] at s0
  have HS := hid hs
  have HB := hid hb
  clear hs hb
  refine (callsIn_wide (n := 3)).1 ?_
  refine callsIn_of_wp_marks Tryz.func38 rfl trivial ?_ rfl
  simp only [Tryz.ntmps38, List.size_toArray, List.length_cons, List.length_nil, Nat.reduceAdd, Nat.reduceSub, Array.replicate_succ, Array.replicate_zero, List.push_toArray, List.append_toArray, List.nil_append, List.cons_append]
  gi_wp2_with fail
  refine ⟨trivial, ?_⟩
  refine (callsIn_wide.2 (words_c (str s) w0)).mono ?_
  rintro e w1 ⟨rfl, rfl⟩
  gi_wp2_with fail
  have hSb := Blk.new w0 #[.string (str s)] 9
  have hlbl := HB.out.lt
  obtain ⟨Sb, hSbe⟩ : ∃ Sb, Sb = w0.heap.size := ⟨_, rfl⟩
  rw [← hSbe] at hSb ⊢
  have HSbe := hid hSbe
  obtain ⟨W1, hW1⟩ : ∃ W1, W1 = w0.alloc (.cells #[.string (str s)] 9) := ⟨_, rfl⟩
  rw [← hW1] at hSb ⊢
  have hm01 : Mod [lb] w0 W1 := by rw [hW1]; exact (Mod.refl _ w0).alloc _
  have hlb1 : Blk W1 lb #[.slice none 0 0] wdS := by rw [hW1]; exact HB.out.alloc _
  have hz1 : W1.heap.size = Sb + 1 := by rw [hW1, hSbe]; simp
  have HM01 := hid hm01
  have HZ1 := hid hz1
  clear hW1 hSbe hm01 s0 sl
  have hlS : lb < Sb := by rw [HSbe.out]; exact hlbl
  have key : ∀ (pre : List Wd) (W : World), (∃ v L, Blk W lb #[v] wdS ∧ Own W 87 2 v pre.length (flat wdC pre) L ∧ (∀ k ∈ L, W1.heap.size ≤ k) ∧ Mod [lb, Sb] W1 W) → Gath w0 lb pre W ∧ Mod [lb] w0 W := by
    rintro pre W ⟨v, L, h1, h2, h3, h4⟩
    refine ⟨⟨v, L, h1, h2, fun k hk => ?_⟩, HM01.out.trans h4 (fun x hx _ => hx) (fun x hx hlt => ?_)⟩
    · have := h3 k hk; have := HM01.out.size; omega
    · simp at hx
      rcases hx with rfl | rfl
      · simp
      · have := HSbe.out; omega
  have HKEY := hid key
  clear key
  refine wpIn_words (by omega) Sb s rfl rfl hSb hsl
    (fun pre W => ∃ v L, Blk W lb #[v] wdS ∧ Own W 87 2 v pre.length (flat wdC pre) L ∧ (∀ k ∈ L, W1.heap.size ≤ k) ∧ Mod [lb, Sb] W1 W)
    (fun x a' W => ∃ Bx, Blk W Bx (wdC x).toArray 87 ∧ a' = { tmps := #[.pointer (some ⟨sb, 0, none⟩), .pointer (some ⟨lb, 0, none⟩), .pointer (some ⟨Bx, 0, none⟩), .string (str s), .func (.func 63) #[] #[.pointer (some ⟨Sb, 0, none⟩)], wdV x, undef, undef, undef, undef], defers := [] })
    ?i1 ?i2 ?ax ⟨_, [], hlb1, Own.nil _ _ _, by simp, Mod.refl _ _⟩ ?assign ?body ?done ?pan
  case i1 =>
    rintro pre W W' ⟨v, L, h1, h2, h3, h4⟩ hm
    refine ⟨v, L, hm.blk h1 (by simp; omega), h2.mod hm (fun k hk => by have := h3 k hk; have := HZ1.out; simp; omega), h3, h4.trans hm (fun x hx _ => hx) (fun x hx _ => by simp at hx; subst hx; simp)⟩
  case i2 =>
    rintro pre W k o o' ⟨v, L, h1, h2, h3, h4⟩ hk ho hc
    exact ⟨v, L, h1.put ho hc, h2.put ho hc, h3, h4.trans (mod_put W k o') (fun x hx _ => hx) (fun x hx hlt => by simp at hx; omega)⟩
  case ax =>
    rintro x a' W k o o' ⟨Bx, h1, h2⟩ hk ho hc
    exact ⟨Bx, h1.put ho hc, h2⟩
  case assign =>
    rintro u pre x W K ⟨v, L, h1, h2, h3, h4⟩ hK
    have H := hid (And.intro h1 (And.intro h2 (And.intro h3 h4)))
    have HK := hid hK
    clear h1 h2 h3 h4 hK
    simp only [wdV]
    gi_wp2
    have hm := (Mod.refl [] W).alloc (.cells (wdC x).toArray 87)
    refine HK.out _ _ (hm.keeps (by simp)) (Below.heap_alloc W _ Sb (by have := H.out.2.2.2.size; have := HZ1.out; omega)) ⟨v, L, H.out.1.alloc _, H.out.2.1.mod hm (by simp), H.out.2.2.1, H.out.2.2.2.alloc _⟩ ⟨W.heap.size, Blk.new W _ _, rfl⟩
  case body =>
    rintro u pre x a' W ⟨v, L, h1, h2, h3, h4⟩ ⟨Bx, hx, rfl⟩ hlen
    have l0 := h1.cell 0
    have lf := h1.free 0
    have ll := h1.lt
    have x0 := hx.cell 0
    have x1 := hx.cell 1
    have xl := hx.lt
    simp only [wdC, List.getElem?_toArray, List.getElem?_cons_zero, List.getElem?_cons_succ] at l0 x0 x1
    have hmA := (Mod.refl [] W).alloc (.cells (wdC x).toArray 87)
    have HMA := hid hmA
    have HLW := hid h1
    have HO := hid (h2.mod hmA (by simp))
    have HLB := hid (h1.alloc (.cells (wdC x).toArray 87))
    have HR : Hid (Rdl (W.alloc (.cells (wdC x).toArray 87)) 2 (.slice (some ⟨W.heap.size, 0, none⟩) 1 1) 1 (wdC x)) := by
      refine ⟨rfl, Or.inr ⟨W.heap.size, 0, 1, rfl, fun j hj => ?_⟩⟩
      rw [Nat.zero_add, (Blk.new W _ _).cell]
      simp
    have HL3 := hid h3
    have HC := hid (h2.cells)
    have HM4 := hid h4
    have hW1 := h4.size
    have hone := wd_lays.one x
    clear h1 h2 h3 h4 hx hmA
    have hlL : lb ∉ L := fun h => by have := HL3.out _ h; have := HZ1.out; omega
    gi_wp2_with (gi_at_builtin; refine wpListIn_append_rdl rfl (.tmp 6) (.tmp 8) wdS 87 rfl Tryz.underlying82 wd_el rfl (by decide) rfl HO.out rfl HR.out hone (by omega) (by omega) ?_; intro v1 w1 L1 g1 g2 g3; obtain ⟨a1, c1, rfl, _⟩ := Own.val g1.out; have hb2 := g2.out.blk HLB.out hlL; have l1c := hb2.cell 0; have l1f := hb2.free 0; have l1l := hb2.lt; simp only [List.getElem?_toArray, List.getElem?_cons_zero] at l1c; have HB2 := hid hb2; clear hb2)
    have hmT := HMA.out.trans g2.out (m := lb :: L) (fun x hx _ => by cases hx) (fun x hx _ => List.mem_cons_of_mem _ hx)
    have hmU := hmT.setCell (p := ⟨lb, 0, none⟩) (Or.inl (by simp)) (.slice a1 (pre.length + 1) c1)
    have hzM := HM4.out.size
    refine ⟨hmU.keeps ?_, hmU.block Sb (by have := HZ1.out; omega) ?_, _, HB2.out.set 0 _, L1, ?_, ?_, ?_⟩
    · intro k hk
      rcases List.mem_cons.1 hk with rfl | hk
      · exact ⟨_, _, HLW.out⟩
      · exact HC.out k hk
    · intro hk
      rcases List.mem_cons.1 hk with h | h
      · omega
      · have := HL3.out _ h; have := HZ1.out; omega
    · have := g1.out
      exact this.mod ((Mod.refl [lb] w1).setCell (p := ⟨lb, 0, none⟩) (Or.inl (by simp)) _) (fun k hk hm => by
        simp at hm
        subst hm
        rcases g3.out _ hk with h | h
        · exact hlL h
        · simp at h; omega)
    · intro k hk
      rcases g3.out _ hk with h | h
      · have := HL3.out _ h; have := HZ1.out; omega
      · simp at h; have := HZ1.out; omega
    · exact HM4.out.trans hmU (fun x hx _ => hx) (fun x hx hlt => by
        rcases List.mem_cons.1 hx with rfl | h
        · simp
        · have := HL3.out _ h; omega)
  case done =>
    rintro D W hD hI hK hz
    obtain ⟨v, L, q1, q2, q3, q4⟩ := hI
    gi_wp2
    refine ⟨by simp, .inl ⟨_, _, rfl, run_takeDeferred hK, ?_⟩⟩
    refine ⟨.tuple #[], results_none rfl _ _ _, ?_⟩
    rw [hz]
    refine ⟨rfl, HKEY.out _ _ ⟨v, L, q1.put hK rfl, q2.put hK rfl, q3, q4.trans (mod_put W D _) (fun x hx _ => hx) (fun x hx hlt => by simp at hx; omega)⟩⟩
  case pan =>
    rintro D W hD hI hK hz
    obtain ⟨v, L, q1, q2, q3, q4⟩ := hI
    refine ⟨by simp, .inl ⟨_, _, rfl, run_takeDeferred hK, ?_⟩⟩
    show _ ∧ _
    rw [hz]
    refine ⟨rfl, HKEY.out _ _ ⟨v, L, q1.put hK rfl, q2.put hK rfl, q3, q4.trans (mod_put W D _) (fun x hx _ => hx) (fun x hx hlt => by simp at hx; omega)⟩⟩
end
end Go.Proofs.YtibhkldnimfnkaaGreatDoor

/- Script: a number, and what is said. -/
namespace Go.Proofs.YtibhkldnimfnkaaGreatDoor
section
set_option linter.unusedVariables false
set_option linter.unusedSimpArgs false
set_option linter.unusedSectionVars false
open Go.RowKit

abbrev digs : ByteArray := ⟨#[48, 49, 50, 51, 52, 53, 54, 55, 56, 57]⟩
theorem dig_in (c : UInt8) : ([48, 49, 50, 51, 52, 53, 54, 55, 56, 57] : List UInt8).contains c = isDigit c := by
  rw [Bool.eq_iff_iff]
  simp only [isDigit, List.contains_iff_mem, List.mem_cons, List.not_mem_nil, or_false, Bool.and_eq_true, decide_eq_true_eq]
  constructor
  · rintro (rfl | rfl | rfl | rfl | rfl | rfl | rfl | rfl | rfl | rfl) <;> decide
  · intro h
    have e : ∀ k : UInt8, c.toNat = k.toNat → c = k := fun k hk => UInt8.toNat_inj.1 hk
    rcases (by omega : c.toNat = 48 ∨ c.toNat = 49 ∨ c.toNat = 50 ∨ c.toNat = 51 ∨ c.toNat = 52 ∨ c.toNat = 53 ∨ c.toNat = 54 ∨ c.toNat = 55 ∨ c.toNat = 56 ∨ c.toNat = 57) with h | h | h | h | h | h | h | h | h | h
    · exact Or.inl (e 48 h)
    · exact Or.inr (Or.inl (e 49 h))
    · exact Or.inr (Or.inr (Or.inl (e 50 h)))
    · exact Or.inr (Or.inr (Or.inr (Or.inl (e 51 h))))
    · exact Or.inr (Or.inr (Or.inr (Or.inr (Or.inl (e 52 h)))))
    · exact Or.inr (Or.inr (Or.inr (Or.inr (Or.inr (Or.inl (e 53 h))))))
    · exact Or.inr (Or.inr (Or.inr (Or.inr (Or.inr (Or.inr (Or.inl (e 54 h)))))))
    · exact Or.inr (Or.inr (Or.inr (Or.inr (Or.inr (Or.inr (Or.inr (Or.inl (e 55 h))))))))
    · exact Or.inr (Or.inr (Or.inr (Or.inr (Or.inr (Or.inr (Or.inr (Or.inr (Or.inl (e 56 h)))))))))
    · exact Or.inr (Or.inr (Or.inr (Or.inr (Or.inr (Or.inr (Or.inr (Or.inr (Or.inr (e 57 h)))))))))
theorem drop_nil (p : UInt8 → Bool) (l : Bs) : l.dropWhile p = [] ↔ l.all p = true := by
  induction l with
  | nil => simp
  | cons c l ih =>
    rw [List.dropWhile_cons, List.all_cons]
    cases h : p c <;> simp [ih]
theorem trim_all (l : Bs) : (Lib.trimS l [48, 49, 50, 51, 52, 53, 54, 55, 56, 57]).isEmpty = l.all isDigit := by
  have hp : (fun c => ([48, 49, 50, 51, 52, 53, 54, 55, 56, 57] : List UInt8).contains c) = isDigit := by funext c; exact dig_in c
  rw [Bool.eq_iff_iff, List.isEmpty_iff]
  unfold Lib.trimS Lib.trimLeftS Lib.trimRightS
  rw [hp, drop_nil, List.all_reverse]
  constructor
  · intro h
    have e : l.reverse = l.reverse.takeWhile isDigit ++ l.reverse.dropWhile isDigit := List.takeWhile_append_dropWhile.symm
    rw [← List.all_reverse, e, List.all_append, h, Bool.and_true]
    exact List.all_takeWhile
  · intro h
    have : l.reverse.dropWhile isDigit = [] := (drop_nil _ _).2 (by rw [List.all_reverse]; exact h)
    rw [this]
    rfl
theorem parse_dig : ∀ (l : Bs) (acc : Nat), l.length ≤ 13 → acc < 10 ^ (13 - l.length) → l.all isDigit = true → Lib.parseUintM (2 ^ 64 - 1) acc l = .ok (l.foldl (fun n c => 10 * n + (c.toNat - 48)) acc)
  | [], acc, _, _, _ => rfl
  | c :: l, acc, h13, hacc, hall => by
    rw [List.all_cons, Bool.and_eq_true] at hall
    have hd := hall.1
    simp only [isDigit, Bool.and_eq_true, decide_eq_true_eq] at hd
    simp only [List.length_cons] at h13 hacc
    have hp : 10 ^ (13 - l.length) = 10 * 10 ^ (13 - (l.length + 1)) := by
      rw [show 13 - l.length = (13 - (l.length + 1)) + 1 by omega, Nat.pow_succ]
      omega
    have hbig : 10 ^ (13 - l.length) ≤ 10 ^ 13 := Nat.pow_le_pow_right (by decide) (by omega)
    have hacc2 : acc * 10 + (c.toNat - 48) < 10 ^ (13 - l.length) := by rw [hp]; omega
    have h13' : (10 : Nat) ^ 13 = 10000000000000 := by decide
    rw [Lib.parseUintM, if_pos hd, if_neg (by omega), if_neg (by omega), parse_dig l _ (by omega) hacc2 hall.2]
    show _ = Lib.NumEnd.ok (List.foldl _ (10 * acc + (c.toNat - 48)) l)
    rw [Nat.mul_comm acc 10]
theorem val_lt (l : Bs) (h : l.length ≤ 13) : l.all isDigit = true → valN l < 10 ^ 13 := by
  have key : ∀ (l : Bs) (acc : Nat), l.length ≤ 13 → acc < 10 ^ (13 - l.length) → l.all isDigit = true → l.foldl (fun n c => 10 * n + (c.toNat - 48)) acc < 10 ^ 13 := by
    intro l
    induction l with
    | nil => intro acc _ h _; simpa using h
    | cons c l ih =>
      intro acc h13 hacc hall
      rw [List.all_cons, Bool.and_eq_true] at hall
      have hd := hall.1
      simp only [isDigit, Bool.and_eq_true, decide_eq_true_eq] at hd
      simp only [List.length_cons] at h13 hacc
      have hp : 10 ^ (13 - l.length) = 10 * 10 ^ (13 - (l.length + 1)) := by
        rw [show 13 - l.length = (13 - (l.length + 1)) + 1 by omega, Nat.pow_succ]
        omega
      exact ih _ (by omega) (by show 10 * acc + (c.toNat - 48) < _; rw [hp]; omega) hall.2
  exact key l 0 h (Nat.pow_pos (by decide))

/-- strings.Trim, of digits: whether nothing is left. -/
theorem trimd_c (l : Bs) (w : World) (hl : l.length ≤ 1000) : Calls Tryz.prog 118 #[.string (str l), .string digs] w fun e w' => ∃ r : Bs, e = .returned (.string (str r)) ∧ r.isEmpty = l.all isDigit ∧ Mod [] w w' := by
  refine (Any.strings_Trim_laid Tryz.lays160 (by kernel_rfl) (str l) digs w (by rw [str_len]; omega) (by decide) (ascii_of_all (by decide))).mono ?_
  rintro e w' ⟨rfl, hb⟩
  exact ⟨_, rfl, trim_all l, Mod.of_below hb⟩
theorem mod_bytes (w : World) (s : ByteArray) : Mod [] w (Lib.bytesWorld w 5 s) := by
  unfold Lib.bytesWorld
  have h := ((Mod.refl [] w).drew).alloc (.cells (Lib.bytesCells w 5 s) 5)
  refine ⟨h.os, h.tape, h.output, ?_, fun k hk hn => ?_⟩
  · refine Nat.le_trans h.size ?_
    unfold World.freeze
    split
    · exact Nat.le_refl _
    · simp only [Array.size_modify, Nat.le_refl]
  · rw [← h.block k hk hn]
    unfold World.freeze
    split
    · rfl
    · simp only [Array.getElem?_modify]
      rw [if_neg (show ¬ (w.heap.size = k) by omega)]
/-- What comes of a word, of which a number is asked. -/
def NumG (o : Option Nat) (w : World) (e : Ending) (w' : World) : Prop := Mod [] w w' ∧ match o with | none => e = .panicked (pan 4) | some n => e = .returned (.int .u64 (n : Int))
theorem numW_bare {t : Bs} : numW ⟨t, true⟩ = false := rfl

set_option maxRecDepth 100000 in
set_option maxHeartbeats 2000000 in
theorem number_c (x : Wd) (lo hi : Nat) (w : World) (hx : x.text.length < 4294967000) : Calls Tryz.prog 101 #[wdV x, .int .u64 (lo : Int), .int .u64 (hi : Int)] w (NumG (numL x lo hi) w) := by
  obtain ⟨t, q⟩ := x
  obtain ⟨o, ho⟩ : ∃ o, o = numL ⟨t, q⟩ lo hi := ⟨_, rfl⟩
  rw [← ho]
  have HO := hid ho
  have HM := hid ((Mod.refl [] w).alloc (.cells #[.string (str t), .bool q] 87))
  clear ho
  have no : numW ⟨t, q⟩ = false → o = none := fun h => by rw [HO.out, numL, h]; rfl
  cases q
  · rcases t with _ | ⟨c, t⟩
    · have HN := hid (no rfl)
      clear no
      go_enter Tryz.func101, Tryz.ntmps101
      go_wp2_with fail
      refine (must_no _).mono ?_
      rintro e w' ⟨rfl, rfl⟩
      refine ⟨rfl, HM.out, ?_⟩
      rw [HN.out]
    · have hne : ((str (c :: t)).toList == (⟨#[]⟩ : ByteArray).toList) = false := by simp
      have hix := run_at (str (c :: t)) 0 c rfl
      simp only [Int.natCast_zero] at hix
      have hsz : (str (c :: t)).size = t.length + 1 := by rw [str_len]; rfl
      by_cases h13 : t.length + 1 ≤ 13
      · have g13 : ((str (c :: t)).size : Int) ≤ 13 := by rw [hsz]; omega
        by_cases c48 : c = 48
        · subst c48
          rcases t with _ | ⟨d, t⟩
          · have hnW : numW ⟨[48], false⟩ = ([48] : Bs).all isDigit := by decide
            have hlen : ([48] : Bs).length ≤ 13 := by decide
            have HT := hid (trimd_c ([48]) (w.alloc (.cells #[.string (str ([48])), .bool false] 87)) (by omega))
            go_enter Tryz.func101, Tryz.ntmps101
            go_wp2_with fail
            refine HT.out.mono ?_
            rintro e w1 ⟨r, rfl, hr, hm⟩
            have HM1 := hid (HM.out.tr hm)
            have hbk := hm.blk (Blk.new w #[.string (str ([48])), .bool false] 87) (by simp)
            have b0 := hbk.cell 0
            have bl := hbk.lt
            simp only [List.getElem?_toArray, List.getElem?_cons_zero] at b0
            clear hm HT hbk
            cases hall : ([48] : Bs).all isDigit
            · rw [hall] at hr
              have hrf : (List.isEmpty r) = false := hr
              have hre : ((str r).toList == (⟨#[]⟩ : ByteArray).toList) = false := by
                rcases r with _ | ⟨y, r⟩
                · cases hr
                · simp
              have HN := hid (no (by rw [hnW]; exact hall))
              clear no hr hall
              go_wp2_with fail
              refine (must_no _).mono ?_
              rintro e w' ⟨rfl, rfl⟩
              refine ⟨rfl, HM1.out, ?_⟩
              rw [HN.out]
            · rw [hall] at hr
              obtain rfl : r = [] := List.isEmpty_iff.1 hr
              obtain ⟨v, hv⟩ : ∃ v, v = valN ([48]) := ⟨_, rfl⟩
              have hp : Lib.parseUintB 64 (byt (str ([48]))) = .ok v := by
                rw [hv]
                unfold Lib.parseUintB
                rw [if_neg (by simp)]
                exact parse_dig _ 0 hlen (Nat.pow_pos (by decide)) hall
              have HP := hid (fun W => Tryz.strconv_ParseUint_10_at64_ok (str ([48])) (by rw [str_len]; omega) v hp W)
              have HOv : Hid (o = if lo ≤ v ∧ v ≤ hi then some v else none) := by
                show _ = _
                rw [HO.out, numL, hnW, hall, ← hv]
                by_cases h1 : lo ≤ v <;> by_cases h2 : v ≤ hi <;> simp [h1, h2]
              clear no hr hall hp hv
              go_wp2_with fail
              refine (must_yes _).mono ?_
              rintro e w' ⟨rfl, rfl⟩
              go_wp2_with fail
              refine (HP.out w1).mono ?_
              rintro e w2 ⟨rfl, hw2⟩
              have hm2 : Mod [] w1 w2 := by
                rcases hw2 with rfl | rfl
                · exact Mod.refl _ _
                · exact mod_bytes _ _
              have HM2 := hid (HM1.out.tr hm2)
              clear hw2 hm2 HP HM1
              by_cases g1 : lo ≤ v
              · have z1 : (lo : Int) ≤ (v : Int) := by omega
                by_cases g2 : v ≤ hi
                · have z2 : (v : Int) ≤ (hi : Int) := by omega
                  have HN : Hid (o = some v) := by show _ = _; rw [HOv.out, if_pos ⟨g1, g2⟩]
                  clear g1 g2 HOv
                  go_wp2_with fail
                  refine (must_yes _).mono ?_
                  rintro e w' ⟨rfl, rfl⟩
                  go_wp2_with fail
                  go_ret
                  refine ⟨HM2.out, ?_⟩
                  rw [HN.out]
                  rfl
                · have z2 : ¬ (v : Int) ≤ (hi : Int) := by omega
                  have HN : Hid (o = none) := by show _ = _; rw [HOv.out, if_neg (fun h => g2 h.2)]
                  have hdz : decide (v ≤ hi) = false := decide_eq_false g2
                  clear g1 g2 HOv
                  go_wp2_with fail
                  refine (must_no _).mono ?_
                  rintro e w' ⟨rfl, rfl⟩
                  refine ⟨rfl, HM2.out, ?_⟩
                  rw [HN.out]
              · have z1 : ¬ (lo : Int) ≤ (v : Int) := by omega
                have HN : Hid (o = none) := by show _ = _; rw [HOv.out, if_neg (fun h => g1 h.1)]
                have hdz : decide (lo ≤ v) = false := decide_eq_false g1
                clear g1 HOv
                go_wp2_with fail
                refine (must_no _).mono ?_
                rintro e w' ⟨rfl, rfl⟩
                refine ⟨rfl, HM2.out, ?_⟩
                rw [HN.out]
          · have hne2 : ((str (48 :: d :: t)).toList == (⟨#[48]⟩ : ByteArray).toList) = false := by simp
            have HN := hid (no (by unfold numW; simp))
            clear no
            go_enter Tryz.func101, Tryz.ntmps101
            go_wp2_with fail
            refine (must_no _).mono ?_
            rintro e w' ⟨rfl, rfl⟩
            refine ⟨rfl, HM.out, ?_⟩
            rw [HN.out]
        · have e48 : ((c.toNat : Int) == 48) = false := ne_u8 c48
          have e48' : ((c.toNat : Int) != 48) = true := by rw [bne, e48]; rfl
          have hlen : (c :: t).length ≤ 13 := by simp only [List.length_cons]; omega
          have hnW : numW ⟨c :: t, false⟩ = (c :: t).all isDigit := by
            unfold numW
            simp [c48]
            omega
          have HT := hid (trimd_c (c :: t) (w.alloc (.cells #[.string (str (c :: t)), .bool false] 87)) (by omega))
          go_enter Tryz.func101, Tryz.ntmps101
          go_wp2_with fail
          refine HT.out.mono ?_
          rintro e w1 ⟨r, rfl, hr, hm⟩
          have HM1 := hid (HM.out.tr hm)
          have hbk := hm.blk (Blk.new w #[.string (str (c :: t)), .bool false] 87) (by simp)
          have b0 := hbk.cell 0
          have bl := hbk.lt
          simp only [List.getElem?_toArray, List.getElem?_cons_zero] at b0
          clear hm HT hbk
          cases hall : (c :: t : Bs).all isDigit
          · rw [hall] at hr
            have hrf : (List.isEmpty r) = false := hr
            have hre : ((str r).toList == (⟨#[]⟩ : ByteArray).toList) = false := by
              rcases r with _ | ⟨y, r⟩
              · cases hr
              · simp
            have HN := hid (no (by rw [hnW]; exact hall))
            clear no hr hall
            go_wp2_with fail
            refine (must_no _).mono ?_
            rintro e w' ⟨rfl, rfl⟩
            refine ⟨rfl, HM1.out, ?_⟩
            rw [HN.out]
          · rw [hall] at hr
            obtain rfl : r = [] := List.isEmpty_iff.1 hr
            obtain ⟨v, hv⟩ : ∃ v, v = valN (c :: t) := ⟨_, rfl⟩
            have hp : Lib.parseUintB 64 (byt (str (c :: t))) = .ok v := by
              rw [hv]
              unfold Lib.parseUintB
              rw [if_neg (by simp)]
              exact parse_dig _ 0 hlen (Nat.pow_pos (by decide)) hall
            have HP := hid (fun W => Tryz.strconv_ParseUint_10_at64_ok (str (c :: t)) (by rw [str_len]; omega) v hp W)
            have HOv : Hid (o = if lo ≤ v ∧ v ≤ hi then some v else none) := by
              show _ = _
              rw [HO.out, numL, hnW, hall, ← hv]
              by_cases h1 : lo ≤ v <;> by_cases h2 : v ≤ hi <;> simp [h1, h2]
            clear no hr hall hp hv
            go_wp2_with fail
            refine (must_yes _).mono ?_
            rintro e w' ⟨rfl, rfl⟩
            go_wp2_with fail
            refine (HP.out w1).mono ?_
            rintro e w2 ⟨rfl, hw2⟩
            have hm2 : Mod [] w1 w2 := by
              rcases hw2 with rfl | rfl
              · exact Mod.refl _ _
              · exact mod_bytes _ _
            have HM2 := hid (HM1.out.tr hm2)
            clear hw2 hm2 HP HM1
            by_cases g1 : lo ≤ v
            · have z1 : (lo : Int) ≤ (v : Int) := by omega
              by_cases g2 : v ≤ hi
              · have z2 : (v : Int) ≤ (hi : Int) := by omega
                have HN : Hid (o = some v) := by show _ = _; rw [HOv.out, if_pos ⟨g1, g2⟩]
                clear g1 g2 HOv
                go_wp2_with fail
                refine (must_yes _).mono ?_
                rintro e w' ⟨rfl, rfl⟩
                go_wp2_with fail
                go_ret
                refine ⟨HM2.out, ?_⟩
                rw [HN.out]
                rfl
              · have z2 : ¬ (v : Int) ≤ (hi : Int) := by omega
                have HN : Hid (o = none) := by show _ = _; rw [HOv.out, if_neg (fun h => g2 h.2)]
                have hdz : decide (v ≤ hi) = false := decide_eq_false g2
                clear g1 g2 HOv
                go_wp2_with fail
                refine (must_no _).mono ?_
                rintro e w' ⟨rfl, rfl⟩
                refine ⟨rfl, HM2.out, ?_⟩
                rw [HN.out]
            · have z1 : ¬ (lo : Int) ≤ (v : Int) := by omega
              have HN : Hid (o = none) := by show _ = _; rw [HOv.out, if_neg (fun h => g1 h.1)]
              have hdz : decide (lo ≤ v) = false := decide_eq_false g1
              clear g1 HOv
              go_wp2_with fail
              refine (must_no _).mono ?_
              rintro e w' ⟨rfl, rfl⟩
              refine ⟨rfl, HM2.out, ?_⟩
              rw [HN.out]
      · have HN := hid (no (by unfold numW; simp; omega))
        have g13 : ¬ ((str (c :: t)).size : Int) ≤ 13 := by rw [hsz]; omega
        clear no
        go_enter Tryz.func101, Tryz.ntmps101
        go_wp2_with fail
        refine (must_no _).mono ?_
        rintro e w' ⟨rfl, rfl⟩
        refine ⟨rfl, HM.out, ?_⟩
        rw [HN.out]
  · have HN := hid (no numW_bare)
    clear no
    go_enter Tryz.func101, Tryz.ntmps101
    go_wp2_with fail
    refine (must_no _).mono ?_
    rintro e w' ⟨rfl, rfl⟩
    refine ⟨rfl, HM.out, ?_⟩
    rw [HN.out]
end
end Go.Proofs.YtibhkldnimfnkaaGreatDoor

/- Script: what is said; a step in memory. -/
namespace Go.Proofs.YtibhkldnimfnkaaGreatDoor
section
set_option linter.unusedVariables false
set_option linter.unusedSimpArgs false
set_option linter.unusedSectionVars false
open Go.RowKit

/-- What comes of a word, of which a text is asked. -/
def TextG (o : Option Bs) (w : World) (e : Ending) (w' : World) : Prop := Mod [] w w' ∧ match o with | none => e = .panicked (pan 4) | some t => e = .returned (.string (str t))

set_option maxRecDepth 100000 in
set_option maxHeartbeats 2000000 in
theorem said_c (x : Wd) (lo hi : Nat) (w : World) (hx : x.text.length < 4294967000) : Calls Tryz.prog 105 #[wdV x, .int .i64 (lo : Int), .int .i64 (hi : Int)] w (TextG (saidL x lo hi) w) := by
  obtain ⟨t, q⟩ := x
  obtain ⟨o, ho⟩ : ∃ o, o = saidL ⟨t, q⟩ lo hi := ⟨_, rfl⟩
  rw [← ho]
  have HO := hid ho
  have HM := hid ((Mod.refl [] w).alloc (.cells #[.string (str t), .bool q] 87))
  have hsz : (str t).size = t.length := str_len t
  clear ho
  cases q
  · have HN : Hid (o = none) := by show _ = _; rw [HO.out]; rfl
    go_enter Tryz.func105, Tryz.ntmps105
    go_wp2_with fail
    refine (must_no _).mono ?_
    rintro e w' ⟨rfl, rfl⟩
    refine ⟨rfl, HM.out, ?_⟩
    rw [HN.out]
  · by_cases g1 : lo ≤ t.length
    · have z1 : (lo : Int) ≤ (t.length : Int) := by omega
      have d1 : decide (lo ≤ t.length) = true := decide_eq_true g1
      by_cases g2 : t.length ≤ hi
      · have z2 : (t.length : Int) ≤ (hi : Int) := by omega
        have d2 : decide (t.length ≤ hi) = true := decide_eq_true g2
        have HN : Hid (o = some t) := by show _ = _; rw [HO.out, saidL]; simp [g1, g2]
        clear g1 g2 hsz
        go_enter Tryz.func105, Tryz.ntmps105
        go_wp2_with fail
        refine (must_yes _).mono ?_
        rintro e w' ⟨rfl, rfl⟩
        go_wp2_with fail
        go_ret
        refine ⟨HM.out, ?_⟩
        rw [HN.out]
        rfl
      · have z2 : ¬ (t.length : Int) ≤ (hi : Int) := by omega
        have d2 : decide (t.length ≤ hi) = false := decide_eq_false g2
        have HN : Hid (o = none) := by show _ = _; rw [HO.out, saidL]; simp [g2]
        clear g1 g2 hsz
        go_enter Tryz.func105, Tryz.ntmps105
        go_wp2_with fail
        refine (must_no _).mono ?_
        rintro e w' ⟨rfl, rfl⟩
        refine ⟨rfl, HM.out, ?_⟩
        rw [HN.out]
    · have z1 : ¬ (lo : Int) ≤ (t.length : Int) := by omega
      have d1 : decide (lo ≤ t.length) = false := decide_eq_false g1
      have HN : Hid (o = none) := by show _ = _; rw [HO.out, saidL]; simp [g1]
      clear g1 hsz
      go_enter Tryz.func105, Tryz.ntmps105
      go_wp2_with fail
      refine (must_no _).mono ?_
      rintro e w' ⟨rfl, rfl⟩
      refine ⟨rfl, HM.out, ?_⟩
      rw [HN.out]

/-- A step, in memory; and as a value. -/
abbrev clV (s : St) : Value := .agg #[.int .i64 s.ck, .int .u64 (s.ts : Int), .string (str s.key), .string (str s.hi), .string (str s.val)]
abbrev stV (s : St) : Value := .agg #[.int .i64 s.kind, .int .i64 s.a, .int .i64 s.b, clV s]
abbrev stC (s : St) : List Value := [.int .i64 s.kind, .int .i64 s.a, .int .i64 s.b, .int .i64 s.ck, .int .u64 (s.ts : Int), .string (str s.key), .string (str s.hi), .string (str s.val)]
theorem st_lays : Lays 8 stC := ⟨fun _ => rfl, fun x u hu => by simp [stC] at hu; rcases hu with rfl | rfl | rfl | rfl | rfl | rfl | rfl | rfl <;> rfl, by decide⟩
end
end Go.Proofs.YtibhkldnimfnkaaGreatDoor

/- Script: fields by their pointers. -/
namespace Go.Proofs.YtibhkldnimfnkaaGreatDoor
section
set_option linter.unusedVariables false
set_option linter.unusedSimpArgs false
set_option linter.unusedSectionVars false
open Go.RowKit

section
set_option maxRecDepth 100000
theorem inA_c (b : Nat) (w : World) : Calls Tryz.prog 68 #[.pointer (some ⟨b, 0, none⟩)] w fun e w' => e = .returned (.pointer (some ⟨b, 1, none⟩)) ∧ w = w' := by
  go_enter Tryz.func68, Tryz.ntmps68
  go_wp2
  go_ret
  exact ⟨rfl, rfl⟩
theorem inB_c (b : Nat) (w : World) : Calls Tryz.prog 74 #[.pointer (some ⟨b, 0, none⟩)] w fun e w' => e = .returned (.pointer (some ⟨b, 2, none⟩)) ∧ w = w' := by
  go_enter Tryz.func74, Tryz.ntmps74
  go_wp2
  go_ret
  exact ⟨rfl, rfl⟩
theorem rows1_c (b : Nat) (w : World) : Calls Tryz.prog 70 #[.pointer (some ⟨b, 3, none⟩)] w fun e w' => e = .returned (.pointer (some ⟨b, 5, none⟩)) ∧ w = w' := by
  go_enter Tryz.func70, Tryz.ntmps70
  go_wp2
  go_ret
  exact ⟨rfl, rfl⟩
theorem rows2_c (b : Nat) (w : World) : Calls Tryz.prog 71 #[.pointer (some ⟨b, 3, none⟩)] w fun e w' => e = .returned (.pointer (some ⟨b, 5, none⟩)) ∧ w = w' := by
  go_enter Tryz.func71, Tryz.ntmps71
  go_wp2
  go_ret
  exact ⟨rfl, rfl⟩
theorem rows3_c (b : Nat) (w : World) : Calls Tryz.prog 72 #[.pointer (some ⟨b, 3, none⟩)] w fun e w' => e = .returned (.pointer (some ⟨b, 6, none⟩)) ∧ w = w' := by
  go_enter Tryz.func72, Tryz.ntmps72
  go_wp2
  go_ret
  exact ⟨rfl, rfl⟩
theorem rows4_c (b : Nat) (w : World) : Calls Tryz.prog 73 #[.pointer (some ⟨b, 3, none⟩)] w fun e w' => e = .returned (.pointer (some ⟨b, 7, none⟩)) ∧ w = w' := by
  go_enter Tryz.func73, Tryz.ntmps73
  go_wp2
  go_ret
  exact ⟨rfl, rfl⟩

/-- A function that hands out a field: what stands at `o`, of what is handed in at `p`. -/
def Gets (k p o : Nat) : Prop := (∀ args w, (callFunc k args).run Tryz.prog w = .ok (.enter k args) w) ∧ ∀ b w, Calls Tryz.prog k #[.pointer (some ⟨b, p, none⟩)] w fun e w' => e = .returned (.pointer (some ⟨b, o, none⟩)) ∧ w = w'
theorem gets_inA : Gets 68 0 1 := ⟨fun _ _ => rfl, inA_c⟩
theorem gets_inB : Gets 74 0 2 := ⟨fun _ _ => rfl, inB_c⟩
theorem gets_1 : Gets 70 3 5 := ⟨fun _ _ => rfl, rows1_c⟩
theorem gets_2 : Gets 71 3 5 := ⟨fun _ _ => rfl, rows2_c⟩
theorem gets_3 : Gets 72 3 6 := ⟨fun _ _ => rfl, rows3_c⟩
theorem gets_4 : Gets 73 3 7 := ⟨fun _ _ => rfl, rows4_c⟩
end
end
end Go.Proofs.YtibhkldnimfnkaaGreatDoor

/- A region that draws its order: operation by operation, whatever the order (no way is walked twice). -/
namespace Go.Proofs.YtibhkldnimfnkaaGreatDoor
section
set_option linter.unusedVariables false
set_option linter.unusedSimpArgs false
set_option linter.unusedSectionVars false
open Go.RowKit

section
variable {P : Program} {ops : Array Oper} {Q : Exit → Act → World → Prop}

/-- What an operation left. -/
def Act.left (a : Act) (o : Oper) : Value := match o.dst with | some d => a.tmps.getD d undef | none => undef
/-- Where a region stands: of what has come up V holds; of the world S. -/
structure RegAt (ops : Array Oper) (S : World → Prop) (V : Nat → Value → World → Prop) (a0 : Act) (listed : Array Bool) (a : Act) (w : World) : Prop where
  world : S w
  defers : a.defers = a0.defers
  size : a.tmps.size = a0.tmps.size
  got : ∀ (i : Nat) (o : Oper), ops[i]? = some o → listed.getD i false = true → V i (Act.left a o) w
  kept : ∀ t, (∀ (i : Nat) (o : Oper), ops[i]? = some o → o.dst ≠ some t) → a.tmps.getD t undef = a0.tmps.getD t undef

/-- No guards; every slot is written once, and lies in the frame; what is waited for stands ahead. -/
def tidy (ops : Array Oper) (n : Nat) : Bool :=
  ops.toList.all (fun o => o.guard.isNone && (match o.dst with | some d => decide (d < n) | none => true)) &&
  decide ((ops.toList.filterMap (·.dst)).Nodup) &&
  (List.range ops.size).all fun i => match ops[i]? with | some o => o.after.all fun e => decide (e.on < i) | none => true

theorem Tidy.guard {n : Nat} (h : tidy ops n = true) {i : Nat} {o : Oper} (hi : ops[i]? = some o) : o.guard = none ∧ ∀ d, o.dst = some d → d < n := by
  simp only [tidy, Bool.and_eq_true, List.all_eq_true] at h
  have := h.1.1 o (by simpa using Array.mem_of_getElem? hi)
  refine ⟨by simpa using this.1, fun d hd => ?_⟩
  have := this.2
  rw [hd] at this
  simpa using this
theorem nodup_dst : ∀ (l : List Oper), (l.filterMap (·.dst)).Nodup → ∀ (i j : Nat) (o o' : Oper) (d : Tmp), l[i]? = some o → l[j]? = some o' → o.dst = some d → o'.dst = some d → i = j
  | [], _, i, _, _, _, _, h, _, _, _ => by simp at h
  | x :: l, hn, i, j, o, o', d, hi, hj, h1, h2 => by
    rw [List.filterMap_cons] at hn
    have mem : ∀ (k : Nat) (o : Oper), l[k]? = some o → o.dst = some d → d ∈ l.filterMap (·.dst) := fun k o hk hd => List.mem_filterMap.2 ⟨o, List.mem_of_getElem? hk, hd⟩
    have hn2 : (l.filterMap (·.dst)).Nodup := by
      cases hx : x.dst with
      | none => rw [hx] at hn; exact hn
      | some y => rw [hx] at hn; exact (List.nodup_cons.1 hn).2
    cases i with
    | zero =>
      cases j with
      | zero => rfl
      | succ j =>
        simp at hi hj
        subst hi
        rw [h1] at hn
        exact absurd (mem j o' hj h2) (List.nodup_cons.1 hn).1
    | succ i =>
      cases j with
      | zero =>
        simp at hi hj
        subst hj
        rw [h2] at hn
        exact absurd (mem i o hi h1) (List.nodup_cons.1 hn).1
      | succ j =>
        simp at hi hj
        rw [nodup_dst l hn2 i j o o' d hi hj h1 h2]
theorem Tidy.once {n : Nat} (h : tidy ops n = true) {i j : Nat} {o o' : Oper} {d : Tmp} (hi : ops[i]? = some o) (hj : ops[j]? = some o') (h1 : o.dst = some d) (h2 : o'.dst = some d) : i = j := by
  simp only [tidy, Bool.and_eq_true, decide_eq_true_eq] at h
  exact nodup_dst ops.toList h.1.2 i j o o' d (by simpa using hi) (by simpa using hj) h1 h2
theorem Tidy.after {n : Nat} (h : tidy ops n = true) {i : Nat} {o : Oper} (hi : ops[i]? = some o) : ∀ e ∈ o.after, e.on < i := by
  simp only [tidy, Bool.and_eq_true, List.all_eq_true] at h
  have hlt := (Array.getElem?_eq_some_iff.1 hi).1
  have := h.2 i (List.mem_range.2 hlt)
  rw [hi] at this
  simp only [Array.all_eq_true_iff_forall_mem, decide_eq_true_eq] at this
  exact this

variable {S : World → Prop} {V : Nat → Value → World → Prop} {a0 : Act}
theorem RegAt.put {n : Nat} (ht : tidy ops n = true) (hn : a0.tmps.size = n) {listed : Array Bool} {a : Act} {w w' : World} (h : RegAt ops S V a0 listed a w) {i : Nat} {o : Oper} (hi : ops[i]? = some o) (hls : listed.size = ops.size)
    {v : Value} (hS : S w') (hV : V i (match o.dst with | some _ => v | none => undef) w') (hK : ∀ j u, j ≠ i → V j u w → V j u w') : RegAt ops S V a0 (listed.setIfInBounds i true) (a.put o.dst v) w' := by
  have hlt := (Array.getElem?_eq_some_iff.1 hi).1
  refine ⟨hS, ?_, ?_, ?_, ?_⟩
  · cases hd : o.dst <;> exact h.defers
  · rw [← h.size]; cases hd : o.dst <;> simp [Act.put]
  · intro j o' hj hl
    by_cases hij : i = j
    · subst hij
      rw [hi] at hj
      cases hj
      unfold Act.left
      cases hd : o.dst with
      | none => rw [hd] at hV; exact hV
      | some d =>
        rw [hd] at hV
        have hdn := (Tidy.guard ht hi).2 d hd
        have : d < a.tmps.size := by rw [h.size, hn]; exact hdn
        simp only [Act.put]
        rw [Array.getD_eq_getD_getElem?, Array.getElem?_setIfInBounds_self_of_lt this]
        exact hV
    · rw [getD_set_ne false hij] at hl
      have := hK j _ (Ne.symm hij) (h.got j o' hj hl)
      unfold Act.left at this ⊢
      cases hd' : o'.dst with
      | none => rw [hd'] at this; exact this
      | some d' =>
        rw [hd'] at this
        cases hd : o.dst with
        | none => exact this
        | some d =>
          have hne : d ≠ d' := fun e => hij (Tidy.once ht hi hj hd (by rw [hd', e]))
          simp only [Act.put]
          rw [Array.getD_eq_getD_getElem?, Array.getElem?_setIfInBounds_ne hne, ← Array.getD_eq_getD_getElem?]
          exact this
  · intro t hT
    rw [← h.kept t hT]
    cases hd : o.dst with
    | none => rfl
    | some d =>
      have hne : d ≠ t := fun e => hT i o hi (by rw [hd, e])
      simp only [Act.put]
      rw [Array.getD_eq_getD_getElem?, Array.getElem?_setIfInBounds_ne hne, ← Array.getD_eq_getD_getElem?]

theorem ready_all {n : Nat} (ht : tidy ops n = true) {listed : Array Bool} (hls : listed.size = ops.size) (hr : Region.ready .any ops listed = []) : ∀ i, i < ops.size → listed.getD i false = true := by
  intro i
  induction i using Nat.strongRecOn with
  | ind i ih =>
    intro hi
    by_cases h : listed.getD i false = true
    · exact h
    · have hin : i ∈ Region.ready .any ops listed := by
        refine mem_ready.2 ⟨?_, ops[i], Array.getElem?_eq_getElem hi, fun e he _ => ?_⟩
        · rw [Array.getD_eq_getD_getElem?, Array.getElem?_eq_getElem (by omega)] at h ⊢
          simpa using h
        · have hlt := Tidy.after ht (Array.getElem?_eq_getElem hi) e he
          exact ih e.on hlt (by omega)
      rw [hr] at hin
      cases hin

/-- THE LAW. -/
theorem wpAny_each {n : Nat} (ht : tidy ops n = true) (hn : a0.tmps.size = n)
    (step : ∀ (i : Nat) (o : Oper), ops[i]? = some o → ∀ (listed : Array Bool) a w, RegAt ops S V a0 listed a w → (∀ e ∈ o.after, Region.binds .any e = true → listed.getD e.on false = true) → ∀ K : Act → World → Prop,
      (∀ v w', S w' → V i (match o.dst with | some _ => v | none => undef) w' → (∀ j u, j ≠ i → V j u w → V j u w') → K (a.put o.dst v) w') → o.wp P a w K Q)
    (fin : ∀ listed a w, RegAt ops S V a0 listed a w → (∀ i, i < ops.size → listed.getD i false = true) → Q .normal a w) :
    ∀ (fuel : Nat) (listed : Array Bool) (a : Act) (w : World), listed.size = ops.size → (listed.toList.filter (fun x => !x)).length ≤ fuel → RegAt ops S V a0 listed a w → wpAny P .any ops Q fuel listed a w := by
  intro fuel
  induction fuel with
  | zero =>
    intro listed a w hls hf h
    have hall : ∀ i, listed.getD i true = true := by
      intro i
      cases hx : listed[i]? with
      | none => rw [Array.getD_eq_getD_getElem?, hx]; rfl
      | some b =>
        rw [Array.getD_eq_getD_getElem?, hx]
        cases b with
        | true => rfl
        | false =>
          have hm : false ∈ listed.toList.filter (fun x => !x) := List.mem_filter.2 ⟨by simpa using Array.mem_of_getElem? hx, rfl⟩
          rw [List.length_eq_zero_iff.1 (Nat.le_zero.1 hf)] at hm
          cases hm
    have hr : Region.ready .any ops listed = [] := by
      rw [List.eq_nil_iff_forall_not_mem]
      intro i hi
      have := (mem_ready.1 hi).1
      rw [hall i] at this
      cases this
    exact ⟨hr, fin listed a w h (ready_all ht hls hr)⟩
  | succ fuel ih =>
    intro listed a w hls hf h
    refine ⟨fun hr => fin listed a w h (ready_all ht hls hr), fun i hi => ?_⟩
    obtain ⟨h0, o, ho, hall⟩ := mem_ready.1 hi
    have hlt := (Array.getElem?_eq_some_iff.1 ho).1
    unfold wpOp
    simp only [ho]
    have hw : Region.wanted o (yielded ops a.tmps) = true := by
      unfold Region.wanted
      rw [(Tidy.guard ht ho).1]
    rw [if_pos hw]
    refine .inl (step i o ho listed a w h hall _ fun v w' hS hV hK => ih _ _ _ (by simp [hls]) ?_ (h.put ht hn ho hls hS hV hK))
    have hfi : listed.toList[i]? = some false := by
      rw [Array.getD_eq_getD_getElem?] at h0
      rw [Array.getElem?_toList]
      cases hx : listed[i]? with
      | none => rw [hx] at h0; cases h0
      | some b => rw [hx] at h0; simp at h0; rw [h0]
    have key : ∀ (l : List Bool) (i : Nat), l[i]? = some false → ((l.set i true).filter (fun x => !x)).length + 1 = (l.filter (fun x => !x)).length := by
      intro l
      induction l with
      | nil => intro i h; simp at h
      | cons b l ihl =>
        intro i h
        cases i with
        | zero => simp at h; subst h; simp
        | succ i =>
          simp at h
          have := ihl i h
          cases b <;> simp [this]
    have := key _ _ hfi
    rw [Array.toList_setIfInBounds]
    omega

theorem wp_region_each {id : Nat} {w : World} (hm : P.follows .mixedOrders = true) (ht : tidy ops a0.tmps.size = true) (S : World → Prop) (V : Nat → Value → World → Prop) (h0 : S w.drew)
    (step : ∀ (i : Nat) (o : Oper), ops[i]? = some o → ∀ (listed : Array Bool) a w, RegAt ops S V a0 listed a w → (∀ e ∈ o.after, Region.binds .any e = true → listed.getD e.on false = true) → ∀ K : Act → World → Prop,
      (∀ v w', S w' → V i (match o.dst with | some _ => v | none => undef) w' → (∀ j u, j ≠ i → V j u w → V j u w') → K (a.put o.dst v) w') → o.wp P a w K Q)
    (fin : ∀ listed a w, RegAt ops S V a0 listed a w → (∀ i, i < ops.size → listed.getD i false = true) → Q .normal a w) : (Code.region id ops true).wp P Q a0 w := by
  refine wp_region_any hm (wpAny_each ht rfl step fin ops.size _ _ _ (by simp) ?_ ⟨h0, rfl, rfl, ?_, fun _ _ => rfl⟩)
  · refine Nat.le_trans (List.length_filter_le _ _) (by simp)
  · intro i o ho hl
    have hlt := (Array.getElem?_eq_some_iff.1 ho).1
    simp [hlt] at hl

/-- One operation's part. -/
def Step1 (P : Program) (ops : Array Oper) (Q : Exit → Act → World → Prop) (S : World → Prop) (V : Nat → Value → World → Prop) (a0 : Act) (i : Nat) (o : Oper) : Prop :=
  ∀ (listed : Array Bool) a w, RegAt ops S V a0 listed a w → (∀ e ∈ o.after, Region.binds .any e = true → listed.getD e.on false = true) → ∀ K : Act → World → Prop,
      (∀ v w', S w' → V i (match o.dst with | some _ => v | none => undef) w' → (∀ j u, j ≠ i → V j u w → V j u w') → K (a.put o.dst v) w') → o.wp P a w K Q
def Steps (P : Program) (ops : Array Oper) (Q : Exit → Act → World → Prop) (S : World → Prop) (V : Nat → Value → World → Prop) (a0 : Act) : Nat → List Oper → Prop
  | _, [] => True
  | k, o :: l => Step1 P ops Q S V a0 k o ∧ Steps P ops Q S V a0 (k + 1) l
theorem Steps.at : ∀ (l : List Oper) (k : Nat), Steps P ops Q S V a0 k l → ∀ i o, l[i]? = some o → Step1 P ops Q S V a0 (k + i) o
  | [], _, _, i, o, h => by simp at h
  | x :: l, k, hs, i, o, h => by
    cases i with
    | zero => simp at h; subst h; exact hs.1
    | succ i =>
      simp at h
      have := Steps.at l (k + 1) hs.2 i o h
      rw [show k + (i + 1) = k + 1 + i by omega]
      exact this
theorem wp_region_steps {id : Nat} {l : List Oper} {w : World} (hm : P.follows .mixedOrders = true) (ht : tidy l.toArray a0.tmps.size = true) (S : World → Prop) (V : Nat → Value → World → Prop) (h0 : S w.drew)
    (steps : Steps P l.toArray Q S V a0 0 l)
    (fin : ∀ listed a w, RegAt l.toArray S V a0 listed a w → (∀ i, i < l.toArray.size → listed.getD i false = true) → Q .normal a w) : (Code.region id l.toArray true).wp P Q a0 w :=
  wp_region_each hm ht S V h0 (fun i o ho => by have := Steps.at l 0 steps i o (by simpa using ho); rw [Nat.zero_add] at this; exact this) fin
theorem RegAt.old {listed : Array Bool} {a : Act} {w : World} (h : RegAt ops S V a0 listed a w) (t : Nat) (hd : ops.toList.all (fun o => o.dst != some t) = true) : a.eval (.tmp t) = a0.eval (.tmp t) := by
  refine h.kept t (fun i o ho hc => ?_)
  rw [List.all_eq_true] at hd
  have := hd o (by simpa using Array.mem_of_getElem? ho)
  rw [hc] at this
  simp at this
theorem RegAt.old' {listed : Array Bool} {a : Act} {w : World} (h : RegAt ops S V a0 listed a w) (t : Nat) (hd : ops.toList.all (fun o => o.dst != some t) = true) : a.tmps[t]?.getD undef = a0.tmps[t]?.getD undef := by
  have := h.old t hd
  simpa [Act.eval, Array.getD_eq_getD_getElem?] using this
theorem RegAt.val {listed : Array Bool} {a : Act} {w : World} (h : RegAt ops S V a0 listed a w) (i : Nat) {o : Oper} {d : Tmp} (hi : ops[i]? = some o) (hd : o.dst = some d) (hl : listed.getD i false = true) : V i (a.tmps[d]?.getD undef) w := by
  have := h.got i o hi hl
  unfold Act.left at this
  rw [hd] at this
  simpa [Array.getD_eq_getD_getElem?] using this
theorem Oper.wp_value {o : Oper} {a : Act} {w w' : World} {K : Act → World → Prop} (v : Value) (h : (execOp a.eval o).run P w = .ok (.value v) w') (hK : K (a.put o.dst v) w') : o.wp P a w K Q := by
  unfold Oper.wp
  rw [h]
  exact hK
theorem Oper.wp_skip {o : Oper} {a : Act} {w w' : World} {K : Act → World → Prop} (h : (execOp a.eval o).run P w = .ok .skip w') (hK : K (a.put o.dst undef) w') : o.wp P a w K Q := by
  unfold Oper.wp
  rw [h]
  exact hK
theorem Oper.wp_call {o : Oper} {a : Act} {w : World} {K : Act → World → Prop} (f : FuncId) (args : Array Value) {R : Ending → World → Prop} (h : (execOp a.eval o).run P w = .ok (.enter f args) w) (hc : Calls P f args w R)
    (hK : ∀ e w', R e w' → match e with | .returned v => K (a.put o.dst v) w' | .panicked c => Q (.panic c) a w' | .outgrown => LetsOut Q) : o.wp P a w K Q := by
  unfold Oper.wp
  rw [h]
  exact hc.mono (fun e w' he => by have := hK e w' he; cases e <;> exact this)
end
end
end Go.Proofs.YtibhkldnimfnkaaGreatDoor
