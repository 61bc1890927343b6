/- A tree in memory. -/
import Derived.Test.YthofkkmnngmafaaFA
import Derived.Test.YthofkkmnngmafaaF4
import Derived.Test.YthofkkmnngmafaaK6
namespace Go.Proofs.Ythofkkmnngmafaa
set_option linter.unusedVariables false
set_option linter.unusedSimpArgs false
set_option linter.unusedSectionVars false
open Go.RowKit

inductive Ch where
  | lf (p : Nat)
  | nd (b : Nat)
def chV : Ch → Value
  | .lf p => .iface 58 (.int .u64 p)
  | .nd b => .iface 65 (.pointer (some ⟨b, 0, none⟩))
def chC (c : Ch) : List Value := [chV c]
def stC (s : ByteArray) : List Value := [.string s]
theorem ch_lays : Lays 1 chC := ⟨fun _ => rfl, fun c u hu => by
  simp [chC] at hu; subst hu
  cases c <;> rfl, by decide⟩
theorem st_lays : Lays 1 stC := ⟨fun _ => rfl, fun s u hu => by
  simp [stC] at hu; subst hu
  rfl, by decide⟩

/-- A node, without its children. -/
def ndR (b : Nat) (cs : List Ch) (ss : List ByteArray) : Res := fun w L => ∃ kv sv Lk Ls, Blk w b #[kv, sv] 72 ∧ Own w 60 1 kv cs.length (flat chC cs) Lk ∧ Own w 9 1 sv ss.length (flat stC ss) Ls ∧ b ∉ Lk ∧ b ∉ Ls ∧ (∀ k ∈ Lk, k ∉ Ls) ∧ L = b :: (Lk ++ Ls)
instance (b : Nat) (cs : List Ch) (ss : List ByteArray) : Keep (ndR b cs ss) where
  lt := by
    rintro w L ⟨kv, sv, Lk, Ls, h1, h2, h3, _, _, _, rfl⟩ k hk
    rcases List.mem_cons.1 hk with rfl | hk
    · exact h1.lt
    · rcases List.mem_append.1 hk with hk | hk
      · exact h2.lt k hk
      · exact h3.lt k hk
  mod := by
    rintro w w' L M ⟨kv, sv, Lk, Ls, h1, h2, h3, h4, h5, h6, rfl⟩ hm hd
    exact ⟨kv, sv, Lk, Ls, hm.blk h1 (hd b (by simp)), h2.mod hm (fun k hk => hd k (by simp [hk])), h3.mod hm (fun k hk => hd k (by simp [hk])), h4, h5, h6, rfl⟩
/-- As block and rows that share nothing. -/
theorem nd_open (b : Nat) (cs : List Ch) (ss : List ByteArray) : ∀ w L, ndR b cs ss w L → ∃ kv sv, ∃ L', star (boxR b #[kv, sv] 72) (star (rowR 60 1 kv cs.length (flat chC cs)) (rowR 9 1 sv ss.length (flat stC ss))) w L' ∧ ∀ k ∈ L', k ∈ L := by
  rintro w L ⟨kv, sv, Lk, Ls, h1, h2, h3, h4, h5, h6, rfl⟩
  exact ⟨kv, sv, [b] ++ (Lk ++ Ls), ⟨[b], Lk ++ Ls, ⟨h1, rfl⟩, ⟨Lk, Ls, h2, h3, rfl, h6⟩, rfl, by simp [h4, h5]⟩, by simp⟩
theorem Hld.nd_open {w0 w : World} {L0 : List Nat} {U : Res} {b : Nat} {cs : List Ch} {ss : List ByteArray} (h : Hld w0 L0 (star (ndR b cs ss) U) w) : ∃ kv sv, Hld w0 L0 (star (boxR b #[kv, sv] 72) (star (rowR 60 1 kv cs.length (flat chC cs)) (star (rowR 9 1 sv ss.length (flat stC ss)) U))) w := by
  obtain ⟨L, ⟨L1, L2, h1, h2, rfl, hd⟩, h3, h4⟩ := h
  obtain ⟨kv, sv, L', g1, g2⟩ := Proofs.Ythofkkmnngmafaa.nd_open b cs ss w L1 h1
  have : Hld w0 L0 (star (star (boxR b #[kv, sv] 72) (star (rowR 60 1 kv cs.length (flat chC cs)) (rowR 9 1 sv ss.length (flat stC ss)))) U) w := ⟨L' ++ L2, ⟨L', L2, g1, h2, rfl, fun k hk h => hd k (g2 k hk) h⟩, h3, fun k hk => by
    rcases List.mem_append.1 hk with h | h
    · exact h4 k (by simp [g2 k h])
    · exact h4 k (by simp [h])⟩
  exact ⟨kv, sv, this.as1.ent ((ent_assoc1 _ _ _).under _)⟩
theorem ent_nd (b : Nat) (cs : List Ch) (ss : List ByteArray) (kv sv : Value) (n m : Nat) (hn : n = cs.length) (hm : m = ss.length) (U : Res) : Ent (star (boxR b #[kv, sv] 72) (star (rowR 60 1 kv n (flat chC cs)) (star (rowR 9 1 sv m (flat stC ss)) U))) (star (ndR b cs ss) U) := by
  subst hn; subst hm
  refine (((ent_assoc2 _ _ _).under _).trans (ent_assoc2 _ _ _)).trans (Ent.left ?_ U)
  rintro w L ⟨L1, L2, ⟨h1, rfl⟩, ⟨Lk, Ls, h2, h3, rfl, h6⟩, rfl, hd⟩
  refine ⟨_, ⟨kv, sv, Lk, Ls, h1, h2, h3, ?_, ?_, h6, rfl⟩, by simp⟩
  · intro h; exact hd b (by simp) (by simp [h])
  · intro h; exact hd b (by simp) (by simp [h])
theorem Hld.nd {w0 w : World} {L0 : List Nat} {U : Res} {b : Nat} {cs : List Ch} {ss : List ByteArray} {kv sv : Value} {n m : Nat} (h : Hld w0 L0 (star (boxR b #[kv, sv] 72) (star (rowR 60 1 kv n (flat chC cs)) (star (rowR 9 1 sv m (flat stC ss)) U))) w) (hn : n = cs.length) (hm : m = ss.length) : Hld w0 L0 (star (ndR b cs ss) U) w := h.ent (ent_nd b cs ss kv sv n m hn hm U)

/-- Each of a list of things, with the child that it is. -/
def allR {X : Type} (R : X → Ch → Res) : List X → List Ch → Res
  | [], [] => emp
  | x :: xs, c :: cs => star (R x c) (allR R xs cs)
  | _, _ => fun _ _ => False
theorem allR_keep {X : Type} (R : X → Ch → Res) (h : ∀ x c, Keep (R x c)) : ∀ xs cs, Keep (allR R xs cs)
  | [], [] => inferInstanceAs (Keep emp)
  | x :: xs, c :: cs => by
    have := h x c
    have := allR_keep R h xs cs
    exact inferInstanceAs (Keep (star (R x c) (allR R xs cs)))
  | [], _ :: _ => ⟨fun h => h.elim, fun h => h.elim⟩
  | _ :: _, [] => ⟨fun h => h.elim, fun h => h.elim⟩
theorem allR_len {X : Type} {R : X → Ch → Res} : ∀ {xs : List X} {cs : List Ch} {w : World} {L : List Nat}, allR R xs cs w L → xs.length = cs.length
  | [], [], _, _, _ => rfl
  | x :: xs, c :: cs, w, L, ⟨_, L2, _, h, _⟩ => by simp [allR_len h]
  | [], _ :: _, _, _, h => h.elim
  | _ :: _, [], _, _, h => h.elim
theorem ent_mid {X : Type} (R : X → Ch → Res) (x : X) (c : Ch) (B : List X) (CB : List Ch) : ∀ (A : List X) (CA : List Ch), A.length = CA.length → Ent (allR R (A ++ x :: B) (CA ++ c :: CB)) (star (R x c) (allR R (A ++ B) (CA ++ CB)))
  | [], [], _ => ent_refl _
  | a :: A, d :: CA, h => ((ent_mid R x c B CB A CA (by simpa using h)).under _).trans (ent_swap _ _ _)
  | [], _ :: _, h => by simp at h
  | _ :: _, [], h => by simp at h
theorem ent_mid2 {X : Type} (R : X → Ch → Res) (x : X) (c : Ch) (B : List X) (CB : List Ch) : ∀ (A : List X) (CA : List Ch), A.length = CA.length → Ent (star (R x c) (allR R (A ++ B) (CA ++ CB))) (allR R (A ++ x :: B) (CA ++ c :: CB))
  | [], [], _ => ent_refl _
  | a :: A, d :: CA, h => (ent_swap _ _ _).trans ((ent_mid2 R x c B CB A CA (by simpa using h)).under _)
  | [], _ :: _, h => by simp at h
  | _ :: _, [], h => by simp at h
theorem ent_app {X : Type} (R : X → Ch → Res) (B : List X) (CB : List Ch) : ∀ (A : List X) (CA : List Ch), A.length = CA.length → Ent (allR R (A ++ B) (CA ++ CB)) (star (allR R A CA) (allR R B CB))
  | [], [], _ => (ent_emp2 _).trans (ent_comm _ _)
  | a :: A, d :: CA, h => ((ent_app R B CB A CA (by simpa using h)).under _).trans (ent_assoc2 _ _ _)
  | [], _ :: _, h => by simp at h
  | _ :: _, [], h => by simp at h
theorem ent_app2 {X : Type} (R : X → Ch → Res) (B : List X) (CB : List Ch) : ∀ (A : List X) (CA : List Ch), A.length = CA.length → Ent (star (allR R A CA) (allR R B CB)) (allR R (A ++ B) (CA ++ CB))
  | [], [], _ => (ent_comm _ _).trans (ent_emp1 _)
  | a :: A, d :: CA, h => (ent_assoc1 _ _ _).trans ((ent_app2 R B CB A CA (by simpa using h)).under _)
  | [], _ :: _, h => by simp at h
  | _ :: _, [], h => by simp at h

/-- A tree that the child c is. -/
def trR : (d : Nat) → Tr d → Ch → Res
  | 0, p, c => fun w L => c = .lf p ∧ L = []
  | d + 1, t, c => fun w L => ∃ b cs, c = .nd b ∧ star (ndR b cs t.2) (allR (trR d) t.1 cs) w L
theorem trR_keep : ∀ (d : Nat) (t : Tr d) (c : Ch), Keep (trR d t c)
  | 0, p, c => ⟨(by rintro w L ⟨_, rfl⟩ k hk; cases hk), by rintro w w' L M h _ _; exact h⟩
  | d + 1, t, c => by
    have h := allR_keep (trR d) (trR_keep d)
    refine ⟨?_, ?_⟩
    · rintro w L ⟨b, cs, rfl, h1⟩ k hk
      have := h t.1 cs
      exact Keep.lt h1 k hk
    · rintro w w' L M ⟨b, cs, rfl, h1⟩ hm hd
      have := h t.1 cs
      exact ⟨b, cs, rfl, Keep.mod h1 hm hd⟩
instance (d : Nat) (t : Tr d) (c : Ch) : Keep (trR d t c) := trR_keep d t c
instance (d : Nat) (ts : List (Tr d)) (cs : List Ch) : Keep (allR (trR d) ts cs) := allR_keep (trR d) (trR_keep d) ts cs
/-- A node of it, opened; shut. -/
theorem Hld.tr_open {w0 w : World} {L0 : List Nat} {U : Res} {d : Nat} {t : Tr (d + 1)} {c : Ch} (h : Hld w0 L0 (star (trR (d + 1) t c) U) w) : ∃ b cs, c = .nd b ∧ cs.length = t.1.length ∧ Hld w0 L0 (star (ndR b cs t.2) (star (allR (trR d) t.1 cs) U)) w := by
  obtain ⟨b, h⟩ := h.ex
  obtain ⟨cs, h⟩ := h.ex
  obtain ⟨e, h⟩ := h.fact
  obtain ⟨L, hL⟩ := h.as1.drop.res
  exact ⟨b, cs, e, (allR_len hL).symm, h.as1⟩
theorem ent_tr {d : Nat} (t : Tr (d + 1)) (b : Nat) (cs : List Ch) (ks : List (Tr d)) (ss : List ByteArray) (hk : t = (ks, ss)) (U : Res) : Ent (star (ndR b cs ss) (star (allR (trR d) ks cs) U)) (star (trR (d + 1) t (.nd b)) U) := by
  subst hk
  exact (ent_assoc2 _ _ _).trans (Ent.left (fun w L h => ⟨L, ⟨b, cs, rfl, h⟩, fun _ h => h⟩) U)
theorem Hld.tr {w0 w : World} {L0 : List Nat} {U : Res} {d : Nat} {b : Nat} {cs : List Ch} {ks : List (Tr d)} {ss : List ByteArray} (h : Hld w0 L0 (star (ndR b cs ss) (star (allR (trR d) ks cs) U)) w) : Hld w0 L0 (star (trR (d + 1) (ks, ss) (.nd b)) U) w := h.ent (ent_tr _ b cs ks ss rfl U)
end Go.Proofs.Ythofkkmnngmafaa
