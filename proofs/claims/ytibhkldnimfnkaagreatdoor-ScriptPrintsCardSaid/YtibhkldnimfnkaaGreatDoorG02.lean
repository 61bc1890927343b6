/- Script: parts ZA XA XB XC XD. -/
import Derived.Test.YtibhkldnimfnkaaGreatDoorG01

/- Script: lines, words and steps, as plain functions (no program in sight). -/
namespace Go.Proofs.YtibhkldnimfnkaaGreatDoor
section
set_option linter.unusedVariables false
set_option linter.unusedSimpArgs false

abbrev Bs := List UInt8
def isBlank (c : UInt8) : Bool := c == 32 || c == 9
def atEnd : Bs → Bool
  | [] => true
  | c :: _ => isBlank c
/-- What a byte behind a backslash stands for. -/
def unesc (c : UInt8) : Option UInt8 := if c == 34 then some 34 else if c == 92 then some 92 else if c == 110 then some 10 else none

/-- A quoted word, behind its first quote: what it says, and what is left. -/
def quotedL : Bs → Option (Bs × Bs)
  | [] => none
  | c :: s =>
    if c == 34 then (if atEnd s then some ([], s) else none)
    else if c == 92 then
      match s with
      | [] => none
      | d :: s' =>
        match unesc d with
        | none => none
        | some x => match quotedL s' with | none => none | some (t, r) => some (x :: t, r)
    else match quotedL s with | none => none | some (t, r) => some (c :: t, r)

def onto (acc : Bs) (o : Option (Bs × Bs)) : Option (Bs × Bs) := match o with | none => none | some (t, r) => some (acc ++ t, r)
theorem onto_nil (o : Option (Bs × Bs)) : onto [] o = o := by cases o <;> rfl
theorem onto_onto (a b : Bs) (o : Option (Bs × Bs)) : onto a (onto b o) = onto (a ++ b) o := by cases o <;> simp [onto]
theorem quotedL_q (s : Bs) : quotedL (34 :: s) = if atEnd s then some ([], s) else none := by rw [quotedL.eq_def]; simp
theorem quotedL_b0 : quotedL [92] = none := by rw [quotedL.eq_def]; simp
theorem quotedL_b (d : UInt8) (s : Bs) : quotedL (92 :: d :: s) = match unesc d with | none => none | some x => onto [x] (quotedL s) := by
  rw [quotedL.eq_def]
  simp only [show ((92 : UInt8) == 34) = false from rfl, show ((92 : UInt8) == 92) = true from rfl, Bool.false_eq_true, if_false, if_true]
  rfl
theorem quotedL_c {c : UInt8} (s : Bs) (h1 : ¬ c = 34) (h2 : ¬ c = 92) : quotedL (c :: s) = onto [c] (quotedL s) := by
  rw [quotedL.eq_def]
  simp only [beq_eq_false_iff_ne.2 h1, beq_eq_false_iff_ne.2 h2, Bool.false_eq_true, if_false]
  rfl

/-- A word. -/
structure Wd where
  text : Bs
  quoted : Bool
  deriving DecidableEq

/-- The words of a line; false: behind them stands what is none. -/
def wordsN : Nat → Bs → List Wd × Bool
  | 0, _ => ([], true)
  | n + 1, s =>
    match s.dropWhile isBlank with
    | [] => ([], true)
    | c :: t =>
      if c == 35 then ([], true)
      else if c == 34 then
        match quotedL t with
        | none => ([], false)
        | some (x, r) => (⟨x, true⟩ :: (wordsN n r).1, (wordsN n r).2)
      else (⟨(c :: t).takeWhile (fun c => !isBlank c), false⟩ :: (wordsN n ((c :: t).dropWhile (fun c => !isBlank c))).1, (wordsN n ((c :: t).dropWhile (fun c => !isBlank c))).2)
def wordsL (s : Bs) : List Wd × Bool := wordsN (s.length + 1) s

def isDigit (c : UInt8) : Bool := decide (48 ≤ c.toNat) && decide (c.toNat ≤ 57)
/-- The number that digits say. -/
def valN (s : Bs) : Nat := s.foldl (fun n c => 10 * n + (c.toNat - 48)) 0
def numW (w : Wd) : Bool := !w.quoted && !w.text.isEmpty && decide (w.text.length ≤ 13) && (w.text.head? != some 48 || w.text.length == 1) && w.text.all isDigit
def numL (w : Wd) (lo hi : Nat) : Option Nat := if numW w && decide (lo ≤ valN w.text) && decide (valN w.text ≤ hi) then some (valN w.text) else none
def saidL (w : Wd) (lo hi : Nat) : Option Bs := if w.quoted && decide (lo ≤ w.text.length) && decide (w.text.length ≤ hi) then some w.text else none

/-- A step. -/
structure St where
  kind : Int
  a : Int
  b : Int
  ck : Int
  ts : Nat
  key : Bs
  hi : Bs
  val : Bs
  deriving DecidableEq

/-- What stands in a place of a line. -/
inductive Pl where
  | nA (lo hi : Nat)
  | nB (lo hi : Nat)
  | who
  | ts
  | key (lo : Nat)
  | hi
  | val
  deriving DecidableEq

def tcB : Bs := [116, 99]
def dcB : Bs := [100, 99]
def readP (p : Pl) (w : Wd) (s : St) : Option St :=
  match p with
  | .nA lo hi => (numL w lo hi).map fun n => { s with a := n }
  | .nB lo hi => (numL w lo hi).map fun n => { s with b := n }
  | .who => if !w.quoted && w.text == tcB then some { s with a := 0 } else if !w.quoted && w.text == dcB then some { s with a := 1 } else none
  | .ts => (numL w 1 1099511627776).map fun n => { s with ts := n }
  | .key lo => (saidL w lo 16).map fun t => { s with key := t }
  | .hi => (saidL w 0 16).map fun t => { s with hi := t }
  | .val => (saidL w 0 24).map fun t => { s with val := t }
def readAll : List Pl → List Wd → St → Option St
  | [], [], s => some s
  | p :: ps, w :: ws, s => match readP p w s with | none => none | some s' => readAll ps ws s'
  | _, _, _ => none

/-- A row of the table. -/
structure Rw where
  word : Bs
  kind : Int
  ck : Int
  pl : List Pl
def rowsL : List Rw := [
  ⟨[100, 101, 108, 105, 118, 101, 114], 0, 0, [.nA 0 399]⟩,
  ⟨[100, 114, 111, 112], 1, 0, [.nA 0 399]⟩,
  ⟨[116, 119, 105, 99, 101], 2, 0, [.nA 0 399]⟩,
  ⟨[116, 105, 99, 107], 3, 0, [.who]⟩,
  ⟨[102, 108, 117, 115, 104], 4, 0, [.who]⟩,
  ⟨[99, 108, 101, 97, 110], 5, 0, []⟩,
  ⟨[99, 107, 112, 116], 7, 0, []⟩,
  ⟨[101, 118, 105, 99, 116], 6, 0, [.who, .nB 1 999]⟩,
  ⟨[99, 114, 97, 115, 104], 8, 0, [.who, .nB 0 999]⟩,
  ⟨[119, 97, 107, 101], 9, 0, [.who, .nB 0 999]⟩,
  ⟨[98, 101, 103, 105, 110], 10, 0, []⟩,
  ⟨[114, 101, 97, 100], 10, 1, [.ts, .key 1]⟩,
  ⟨[100, 101, 108, 101, 116, 101], 10, 4, [.ts, .key 1]⟩,
  ⟨[115, 99, 97, 110], 10, 2, [.ts, .key 0, .hi]⟩,
  ⟨[119, 114, 105, 116, 101], 10, 3, [.ts, .key 1, .val]⟩,
  ⟨[99, 111, 109, 109, 105, 116], 10, 5, [.ts]⟩,
  ⟨[97, 98, 111, 114, 116], 10, 6, [.ts]⟩,
  ⟨[99, 97, 108, 109], 11, 0, [.nA 1 9999]⟩]

/-- What a line is. -/
inductive Ln where
  | blank
  | bad (e : Nat)
  | ok (s : St)
  deriving DecidableEq
def st0 (kind ck : Int) : St := ⟨kind, 0, 0, ck, 0, [], [], []⟩
def rowAt (l : List Wd) : Option Rw :=
  match l with
  | [] => none
  | w :: _ => if w.quoted then none else rowsL.find? (fun r => r.word == w.text)
def lineL (s : Bs) : Ln :=
  let l := wordsL s
  if l.1.isEmpty && l.2 then .blank
  else match rowAt l.1 with
    | none => .bad 19
    | some r =>
      if l.2 && l.1.length == r.pl.length + 1 then
        match readAll r.pl l.1.tail (st0 r.kind r.ck) with
        | none => .bad 4
        | some t => .ok t
      else .bad 4

/-- Lines, one behind the other; which of them is wrong, and how. -/
def parseN : List Bs → Nat → List St → List St ⊕ (Nat × Nat)
  | [], _, acc => .inl acc
  | s :: l, i, acc =>
    match lineL s with
    | .blank => parseN l (i + 1) acc
    | .bad e => .inr (e, i)
    | .ok t => if acc.length < 4096 then parseN l (i + 1) (acc ++ [t]) else .inr (3, i)
/-- A text's lines. -/
def linesL : Bs → List Bs
  | [] => [[]]
  | c :: s => if c == 10 then [] :: linesL s else match linesL s with | [] => [[c]] | x :: l => (c :: x) :: l
def parseL (s : Bs) : List St ⊕ (Nat × Nat) := parseN (linesL s) 0 []

/-- Digits of a number. -/
def digitsN : Nat → Nat → Bs
  | 0, _ => []
  | f + 1, n => if n < 10 then [UInt8.ofNat (48 + n)] else digitsN f (n / 10) ++ [UInt8.ofNat (48 + n % 10)]
def digitsL (n : Nat) : Bs := digitsN 20 n
def quoteB (c : UInt8) : Bs := if c == 34 then [92, 34] else if c == 92 then [92, 92] else if c == 10 then [92, 110] else [c]
def quoteL (s : Bs) : Bs := 34 :: (s.flatMap quoteB ++ [34])
/-- What is printed in a place. (Of a number below nought: it is no step's.) -/
def printP (p : Pl) (s : St) : Bs :=
  match p with
  | .nA _ _ => digitsL s.a.toNat
  | .nB _ _ => digitsL s.b.toNat
  | .who => if s.a % 2 = 0 then tcB else dcB
  | .ts => digitsL s.ts
  | .key _ => quoteL s.key
  | .hi => quoteL s.hi
  | .val => quoteL s.val
def printR (r : Rw) (s : St) : Bs := r.pl.foldl (fun o p => o ++ 32 :: printP p s) r.word
def rowOf (s : St) : Option Rw := rowsL.find? (fun r => r.kind == s.kind && r.ck == s.ck)
/-- A step's line, if it may be. -/
def printedL (s : St) : Option Bs :=
  match rowOf s with
  | none => none
  | some r => if lineL (printR r s) = .ok s then some (printR r s) else none
def printN : List St → Bs → Option Bs
  | [], o => some o
  | s :: l, o => match printedL s with | none => none | some t => printN l (o ++ (t ++ [10]))
def printL (l : List St) : Bs × Nat :=
  if 4096 < l.length then ([], 3) else match printN l [] with | none => ([], 2) | some o => (o, 0)
end
end Go.Proofs.YtibhkldnimfnkaaGreatDoor

/- Script: what is printed is read back (plain: no program in sight). -/
namespace Go.Proofs.YtibhkldnimfnkaaGreatDoor
section
set_option linter.unusedVariables false
set_option linter.unusedSimpArgs false

/- Digits. -/
theorem dig_nat (d : Nat) (h : d < 10) : (UInt8.ofNat (48 + d)).toNat = 48 + d := by
  rw [UInt8.toNat_ofNat']; omega
theorem dig_is (d : Nat) (h : d < 10) : isDigit (UInt8.ofNat (48 + d)) = true := by
  unfold isDigit; rw [dig_nat d h]; simp; omega
theorem dig_ex (d : Nat) (h : d < 10) : ∃ c, UInt8.ofNat (48 + d) = c ∧ isDigit c = true ∧ c.toNat = 48 + d := ⟨_, rfl, dig_is d h, dig_nat d h⟩
theorem valN_snoc (s : Bs) (c : UInt8) : valN (s ++ [c]) = 10 * valN s + (c.toNat - 48) := by simp [valN]
theorem digitsN_ok : ∀ (f n : Nat), n < 10 ^ f → 0 < f → digitsN f n ≠ [] ∧ (digitsN f n).all isDigit = true ∧ valN (digitsN f n) = n ∧ ((digitsN f n).head? = some 48 → n = 0) ∧ (n < 10 → (digitsN f n).length = 1) := by
  intro f
  induction f with
  | zero => intro n _ h; omega
  | succ f ih =>
    intro n hn _
    unfold digitsN
    by_cases h : n < 10
    · rw [if_pos h]
      obtain ⟨c, e1, e2, e3⟩ := dig_ex n h
      rw [e1]
      refine ⟨by simp, by simp [e2], by simp [valN, e3], ?_, fun _ => rfl⟩
      intro he
      simp at he
      subst he
      simp at e3
      omega
    · rw [if_neg h]
      have hf : 0 < f := by
        rcases Nat.eq_zero_or_pos f with h0 | h0
        · subst h0; simp at hn; omega
        · exact h0
      obtain ⟨h1, h2, h3, h4, h5⟩ := ih (n / 10) (by rw [Nat.pow_succ] at hn; omega) hf
      obtain ⟨c, e1, e2, e3⟩ := dig_ex (n % 10) (by omega)
      rw [e1]
      refine ⟨by simp, ?_, ?_, ?_, fun hc => absurd hc h⟩
      · rw [List.all_append, h2]; simp [e2]
      · rw [valN_snoc, h3, e3]; omega
      · intro he
        rw [List.head?_append, Option.or_of_isSome (by simpa using h1)] at he
        have := h4 he
        omega
theorem digitsN_len : ∀ (f n k : Nat), n < 10 ^ k → 0 < k → (digitsN f n).length ≤ k := by
  intro f
  induction f with
  | zero => intro n k _ _; simp [digitsN]
  | succ f ih =>
    intro n k hn hk
    unfold digitsN
    by_cases h : n < 10
    · rw [if_pos h]; simp; omega
    · rw [if_neg h]
      have hk2 : 0 < k - 1 := by
        rcases Nat.lt_or_ge 1 k with h1 | h1
        · omega
        · have : k = 1 := by omega
          subst this; simp at hn; omega
      have := ih (n / 10) (k - 1) (by
        have : 10 ^ k = 10 ^ (k - 1) * 10 := by rw [← Nat.pow_succ]; congr 1; omega
        omega) hk2
      simp; omega
theorem digitsL_ok (n : Nat) (hn : n < 10 ^ 20) : digitsL n ≠ [] ∧ (digitsL n).all isDigit = true ∧ valN (digitsL n) = n ∧ ((digitsL n).head? = some 48 → n = 0) ∧ (n < 10 → (digitsL n).length = 1) := digitsN_ok 20 n hn (by decide)
theorem digitsL_num (n : Nat) (hn : n < 10 ^ 13) : numW ⟨digitsL n, false⟩ = true := by
  obtain ⟨h1, h2, h3, h4, h5⟩ := digitsL_ok n (by omega)
  have h6 := digitsN_len 20 n 13 hn (by decide)
  unfold numW
  simp only [Bool.not_false, Bool.true_and, Bool.and_eq_true, h2, and_true, decide_eq_true_eq, Bool.or_eq_true]
  refine ⟨⟨by simpa using h1, h6⟩, ?_⟩
  by_cases h : (digitsL n).head? = some 48
  · right
    have := h5 (by have := h4 h; omega)
    simp [this]
  · left
    simpa using h
theorem numL_some {w : Wd} {lo hi n : Nat} (h : numL w lo hi = some n) : lo ≤ n ∧ n ≤ hi := by
  unfold numL at h
  split at h
  · rename_i h2; simp at h2 h; omega
  · cases h
theorem numL_digits {n lo hi : Nat} (h1 : lo ≤ n) (h2 : n ≤ hi) (hn : n < 10 ^ 13) : numL ⟨digitsL n, false⟩ lo hi = some n := by
  obtain ⟨_, _, h3, _, _⟩ := digitsL_ok n (by omega)
  unfold numL
  rw [digitsL_num n hn, h3]
  simp [h1, h2]
theorem saidL_some {w : Wd} {lo hi : Nat} {t : Bs} (h : saidL w lo hi = some t) : lo ≤ t.length ∧ t.length ≤ hi := by
  unfold saidL at h
  split at h
  · rename_i h2; simp at h2 h; subst h; omega
  · cases h
theorem saidL_text {t : Bs} {lo hi : Nat} (h1 : lo ≤ t.length) (h2 : t.length ≤ hi) : saidL ⟨t, true⟩ lo hi = some t := by
  unfold saidL; simp [h1, h2]

/- What a row's places may hold. -/
theorem readP_nA (lo hi : Nat) (w : Wd) (s : St) : readP (.nA lo hi) w s = (numL w lo hi).map fun (n : Nat) => { s with a := (n : Int) } := by
  simp only [readP]; cases numL w lo hi <;> rfl
theorem readP_nB (lo hi : Nat) (w : Wd) (s : St) : readP (.nB lo hi) w s = (numL w lo hi).map fun (n : Nat) => { s with b := (n : Int) } := by
  simp only [readP]; cases numL w lo hi <;> rfl
/-- A step that a line may be. -/
structure Fit (s : St) : Prop where
  a0 : 0 ≤ s.a
  a1 : s.a ≤ 9999
  b0 : 0 ≤ s.b
  b1 : s.b ≤ 9999
  ts : s.ts ≤ 1099511627776
  key : s.key.length ≤ 16
  hi : s.hi.length ≤ 16
  val : s.val.length ≤ 24
def okP : Pl → Bool
  | .nA _ h => decide (h ≤ 9999)
  | .nB _ h => decide (h ≤ 9999)
  | _ => true
theorem rows_okP : rowsL.all (fun r => r.pl.all okP) = true := by decide
theorem readP_fit {p : Pl} {w : Wd} {s t : St} (hp : okP p = true) (h : readP p w s = some t) (hs : Fit s) : Fit t := by
  obtain ⟨h1, h2, h3, h4, h5, h6, h7, h8⟩ := hs
  cases p with
  | nA lo hi =>
    simp only [readP_nA, Option.map_eq_some_iff] at h
    obtain ⟨n, hn, rfl⟩ := h
    have := numL_some hn
    simp [okP] at hp
    exact ⟨by simp, by simp only; omega, h3, h4, h5, h6, h7, h8⟩
  | nB lo hi =>
    simp only [readP_nB, Option.map_eq_some_iff] at h
    obtain ⟨n, hn, rfl⟩ := h
    have := numL_some hn
    simp [okP] at hp
    exact ⟨h1, h2, by simp, by simp only; omega, h5, h6, h7, h8⟩
  | who =>
    simp only [readP] at h
    split at h
    · cases h; exact ⟨by simp, by simp, h3, h4, h5, h6, h7, h8⟩
    · split at h
      · cases h; exact ⟨by simp, by simp, h3, h4, h5, h6, h7, h8⟩
      · cases h
  | ts =>
    simp only [readP, Option.map_eq_some_iff] at h
    obtain ⟨n, hn, rfl⟩ := h
    have := numL_some hn
    exact ⟨h1, h2, h3, h4, this.2, h6, h7, h8⟩
  | key lo =>
    simp only [readP, Option.map_eq_some_iff] at h
    obtain ⟨n, hn, rfl⟩ := h
    have := saidL_some hn
    exact ⟨h1, h2, h3, h4, h5, this.2, h7, h8⟩
  | hi =>
    simp only [readP, Option.map_eq_some_iff] at h
    obtain ⟨n, hn, rfl⟩ := h
    have := saidL_some hn
    exact ⟨h1, h2, h3, h4, h5, h6, this.2, h8⟩
  | val =>
    simp only [readP, Option.map_eq_some_iff] at h
    obtain ⟨n, hn, rfl⟩ := h
    have := saidL_some hn
    exact ⟨h1, h2, h3, h4, h5, h6, h7, this.2⟩
theorem readAll_fit : ∀ {pl : List Pl} {ws : List Wd} {s t : St}, pl.all okP = true → readAll pl ws s = some t → Fit s → Fit t := by
  intro pl
  induction pl with
  | nil =>
    intro ws s t _ h hs
    cases ws with
    | nil => simp [readAll] at h; subst h; exact hs
    | cons => simp [readAll] at h
  | cons p pl ih =>
    intro ws s t hp h hs
    simp only [List.all_cons, Bool.and_eq_true] at hp
    cases ws with
    | nil => simp [readAll] at h
    | cons w ws =>
      simp only [readAll] at h
      cases hr : readP p w s with
      | none => rw [hr] at h; cases h
      | some u => rw [hr] at h; exact ih hp.2 h (readP_fit hp.1 hr hs)
theorem st0_fit (k c : Int) : Fit (st0 k c) := ⟨by simp [st0], by simp [st0], by simp [st0], by simp [st0], by simp [st0], by simp [st0], by simp [st0], by simp [st0]⟩

/-- What a line is that is a step. -/
theorem lineL_ok {s : Bs} {t : St} (h : lineL s = .ok t) : ∃ r, rowAt (wordsL s).1 = some r ∧ r ∈ rowsL ∧ (wordsL s).2 = true ∧ readAll r.pl (wordsL s).1.tail (st0 r.kind r.ck) = some t := by
  unfold lineL at h
  simp only at h
  split at h
  · cases h
  · split at h
    · cases h
    · rename_i r hr
      split at h
      · rename_i hc
        split at h
        · cases h
        · rename_i u hu
          cases h
          simp at hc
          refine ⟨r, hr, ?_, hc.1, hu⟩
          unfold rowAt at hr
          split at hr
          · cases hr
          · split at hr
            · cases hr
            · exact List.mem_of_find?_eq_some hr
      · cases h
theorem line_fit {s : Bs} {t : St} (h : lineL s = .ok t) : Fit t := by
  obtain ⟨r, _, hr, _, h2⟩ := lineL_ok h
  exact readAll_fit (List.all_eq_true.1 rows_okP r hr) h2 (st0_fit _ _)

/- Words. -/
theorem words_blank (n : Nat) (s : Bs) : wordsN (n + 1) (32 :: s) = wordsN (n + 1) s := by
  show (match (32 :: s).dropWhile isBlank with | [] => _ | c :: t => _) = _
  rw [List.dropWhile_cons_of_pos (by decide)]
  rfl
theorem takeW {t r : Bs} (ht : ∀ c ∈ t, isBlank c = false) (hr : atEnd r = true) : (t ++ r).takeWhile (fun c => !isBlank c) = t ∧ (t ++ r).dropWhile (fun c => !isBlank c) = r := by
  induction t with
  | nil =>
    cases r with
    | nil => exact ⟨rfl, rfl⟩
    | cons c r => simp [atEnd] at hr; simp [hr]
  | cons c t ih =>
    have h1 := ht c (by simp)
    obtain ⟨h2, h3⟩ := ih (fun c hc => ht c (by simp [hc]))
    simp [h1, h2, h3]
theorem words_plain (n : Nat) (c : UInt8) (t r : Bs) (ht : ∀ d ∈ c :: t, isBlank d = false) (h1 : c ≠ 35) (h2 : c ≠ 34) (hr : atEnd r = true) :
    wordsN (n + 1) (c :: t ++ r) = (⟨c :: t, false⟩ :: (wordsN n r).1, (wordsN n r).2) := by
  have hc := ht c (by simp)
  obtain ⟨e1, e2⟩ := takeW ht hr
  rw [wordsN.eq_def]
  simp only [List.cons_append]
  rw [List.dropWhile_cons_of_neg (by simp [hc])]
  simp only [beq_eq_false_iff_ne.2 h1, beq_eq_false_iff_ne.2 h2, Bool.false_eq_true, if_false]
  rw [← List.cons_append, e1, e2]
theorem quoted_quote : ∀ (t r : Bs), atEnd r = true → quotedL (t.flatMap quoteB ++ 34 :: r) = some (t, r) := by
  intro t
  induction t with
  | nil => intro r hr; rw [List.flatMap_nil, List.nil_append, quotedL_q, if_pos hr]
  | cons c t ih =>
    intro r hr
    have := ih r hr
    rw [List.flatMap_cons, List.append_assoc]
    generalize t.flatMap quoteB ++ 34 :: r = z at *
    unfold quoteB
    by_cases h1 : c = 34
    · subst h1
      show quotedL (92 :: 34 :: z) = _
      rw [quotedL_b, show unesc 34 = some 34 from rfl]
      simp only [this]; rfl
    · by_cases h2 : c = 92
      · subst h2
        show quotedL (92 :: 92 :: z) = _
        rw [quotedL_b, show unesc 92 = some 92 from rfl]
        simp only [this]; rfl
      · by_cases h3 : c = 10
        · subst h3
          show quotedL (92 :: 110 :: z) = _
          rw [quotedL_b, show unesc 110 = some 10 from rfl]
          simp only [this]; rfl
        · simp only [beq_eq_false_iff_ne.2 h1, beq_eq_false_iff_ne.2 h2, beq_eq_false_iff_ne.2 h3, Bool.false_eq_true, if_false]
          show quotedL (c :: z) = _
          rw [quotedL_c z h1 h2, this]; rfl
theorem words_quote (n : Nat) (t r : Bs) (hr : atEnd r = true) : wordsN (n + 1) (quoteL t ++ r) = (⟨t, true⟩ :: (wordsN n r).1, (wordsN n r).2) := by
  have : quoteL t ++ r = 34 :: (t.flatMap quoteB ++ 34 :: r) := by simp [quoteL]
  rw [this, wordsN.eq_def]
  simp only
  rw [List.dropWhile_cons_of_neg (by decide)]
  simp only [show ((34 : UInt8) == 35) = false from rfl, show ((34 : UInt8) == 34) = true from rfl, Bool.false_eq_true, if_false, if_true]
  rw [quoted_quote t r hr]
/-- The word that stands in a place. -/
def wordP (p : Pl) (s : St) : Wd :=
  match p with
  | .nA _ _ => ⟨digitsL s.a.toNat, false⟩
  | .nB _ _ => ⟨digitsL s.b.toNat, false⟩
  | .who => ⟨if s.a % 2 = 0 then tcB else dcB, false⟩
  | .ts => ⟨digitsL s.ts, false⟩
  | .key _ => ⟨s.key, true⟩
  | .hi => ⟨s.hi, true⟩
  | .val => ⟨s.val, true⟩
/-- Numbers that Go has. -/
structure Small (s : St) : Prop where
  a : s.a < 10 ^ 20
  b : s.b < 10 ^ 20
  ts : s.ts < 10 ^ 20
theorem Fit.small {s : St} (h : Fit s) : Small s := ⟨by have := h.a1; omega, by have := h.b1; omega, by have := h.ts; omega⟩
theorem words_digits (n m : Nat) (r : Bs) (hm : m < 10 ^ 20) (hr : atEnd r = true) : wordsN (n + 1) (digitsL m ++ r) = (⟨digitsL m, false⟩ :: (wordsN n r).1, (wordsN n r).2) := by
  obtain ⟨h1, h2, _, _, _⟩ := digitsL_ok m hm
  have hd : ∀ d : UInt8, isDigit d = true → isBlank d = false ∧ d ≠ 35 ∧ d ≠ 34 := by
    intro d hd
    unfold isDigit at hd
    simp at hd
    refine ⟨?_, ?_, ?_⟩
    · unfold isBlank
      simp
      constructor <;> (intro h; subst h; simp at hd)
    · intro h; subst h; simp at hd
    · intro h; subst h; simp at hd
  cases hc : digitsL m with
  | nil => exact absurd hc h1
  | cons c t =>
    rw [hc, List.all_eq_true] at h2
    exact words_plain n c t r (fun d hd' => (hd d (h2 d hd')).1) (hd c (h2 c (by simp))).2.1 (hd c (h2 c (by simp))).2.2 hr
theorem words_place (n : Nat) (p : Pl) (s : St) (r : Bs) (hs : Small s) (hr : atEnd r = true) : wordsN (n + 1) (32 :: printP p s ++ r) = (wordP p s :: (wordsN n r).1, (wordsN n r).2) := by
  rw [List.cons_append, words_blank]
  cases p with
  | nA lo hi => exact words_digits n _ r (by have := hs.a; omega) hr
  | nB lo hi => exact words_digits n _ r (by have := hs.b; omega) hr
  | ts => exact words_digits n _ r hs.ts hr
  | key lo => exact words_quote n _ r hr
  | hi => exact words_quote n _ r hr
  | val => exact words_quote n _ r hr
  | who =>
    simp only [printP, wordP]
    split
    · exact words_plain n 116 [99] r (by decide) (by decide) (by decide) hr
    · exact words_plain n 100 [99] r (by decide) (by decide) (by decide) hr
theorem words_places : ∀ (pl : List Pl) (n : Nat) (s : St), Small s → pl.length < n → wordsN n (pl.flatMap fun p => 32 :: printP p s) = (pl.map (wordP · s), true) := by
  intro pl
  induction pl with
  | nil =>
    intro n s _ hn
    cases n with
    | zero => omega
    | succ n => rfl
  | cons p pl ih =>
    intro n s hs hn
    cases n with
    | zero => omega
    | succ n =>
      rw [List.flatMap_cons, words_place n p s _ hs (by cases pl with
        | nil => rfl
        | cons => rfl), ih n s hs (by simp at hn; omega)]
      rfl
theorem printR_eq (r : Rw) (s : St) : printR r s = r.word ++ r.pl.flatMap fun p => 32 :: printP p s := by
  unfold printR
  have : ∀ (pl : List Pl) (o : Bs), pl.foldl (fun o p => o ++ 32 :: printP p s) o = o ++ pl.flatMap fun p => 32 :: printP p s := by
    intro pl
    induction pl with
    | nil => simp
    | cons p pl ih => intro o; simp [ih]
  exact this _ _
/-- A row's word. -/
def okW (t : Bs) : Bool := match t with | [] => false | c :: _ => c != 35 && c != 34 && t.all (fun c => !isBlank c && c != 10)
theorem rows_okW : rowsL.all (fun r => okW r.word && decide (r.pl.length < 4)) = true := by decide
theorem words_row {r : Rw} (hr : r ∈ rowsL) (s : St) (hs : Small s) : wordsL (printR r s) = (⟨r.word, false⟩ :: r.pl.map (wordP · s), true) := by
  have hw := List.all_eq_true.1 rows_okW r hr
  simp only [Bool.and_eq_true, decide_eq_true_eq] at hw
  rw [printR_eq]
  unfold wordsL
  have hl : r.pl.length ≤ (r.pl.flatMap fun p => 32 :: printP p s).length := by
    generalize r.pl = pl
    induction pl with
    | nil => simp
    | cons p pl ih => simp only [List.flatMap_cons, List.length_append, List.length_cons]; omega
  cases hc : r.word with
  | nil => rw [hc] at hw; simp [okW] at hw
  | cons c t =>
    rw [hc] at hw
    simp only [okW, Bool.and_eq_true, bne_iff_ne] at hw
    have h3 := List.all_eq_true.1 hw.1.2
    rw [words_plain _ c t _ (fun d hd => by have := h3 d hd; simp at this; exact this.1) hw.1.1.1 hw.1.1.2 (by cases r.pl <;> rfl), words_places _ _ _ hs (by simp only [List.length_append, List.length_cons]; omega)]
end
end Go.Proofs.YtibhkldnimfnkaaGreatDoor

/- Script: the round trip, and the rows of the laws (plain: no program in sight). -/
namespace Go.Proofs.YtibhkldnimfnkaaGreatDoor
section
set_option linter.unusedVariables false
set_option linter.unusedSimpArgs false

/-- Which field stands in a place. -/
def fieldP : Pl → Nat
  | .nA _ _ => 0
  | .who => 0
  | .nB _ _ => 1
  | .ts => 2
  | .key _ => 3
  | .hi => 4
  | .val => 5
def okR (r : Rw) : Bool := decide ((r.pl.map fieldP).Nodup)
theorem rows_okR : rowsL.all okR = true := by decide
theorem readP_cases {p : Pl} {w : Wd} {s t : St} (h : readP p w s = some t) :
    (fieldP p = 0 ∧ ∃ x, t = { s with a := x }) ∨ (fieldP p = 1 ∧ ∃ x, t = { s with b := x }) ∨ (fieldP p = 2 ∧ ∃ x, t = { s with ts := x }) ∨ (fieldP p = 3 ∧ ∃ x, t = { s with key := x }) ∨ (fieldP p = 4 ∧ ∃ x, t = { s with hi := x }) ∨ (fieldP p = 5 ∧ ∃ x, t = { s with val := x }) := by
  cases p with
  | nA lo hi => rw [readP_nA, Option.map_eq_some_iff] at h; obtain ⟨n, _, rfl⟩ := h; exact .inl ⟨rfl, _, rfl⟩
  | nB lo hi => rw [readP_nB, Option.map_eq_some_iff] at h; obtain ⟨n, _, rfl⟩ := h; exact .inr (.inl ⟨rfl, _, rfl⟩)
  | who =>
    simp only [readP] at h
    split at h
    · cases h; exact .inl ⟨rfl, _, rfl⟩
    · split at h
      · cases h; exact .inl ⟨rfl, _, rfl⟩
      · cases h
  | ts => simp only [readP, Option.map_eq_some_iff] at h; obtain ⟨n, _, rfl⟩ := h; exact .inr (.inr (.inl ⟨rfl, _, rfl⟩))
  | key lo => simp only [readP, Option.map_eq_some_iff] at h; obtain ⟨n, _, rfl⟩ := h; exact .inr (.inr (.inr (.inl ⟨rfl, _, rfl⟩)))
  | hi => simp only [readP, Option.map_eq_some_iff] at h; obtain ⟨n, _, rfl⟩ := h; exact .inr (.inr (.inr (.inr (.inl ⟨rfl, _, rfl⟩))))
  | val => simp only [readP, Option.map_eq_some_iff] at h; obtain ⟨n, _, rfl⟩ := h; exact .inr (.inr (.inr (.inr (.inr ⟨rfl, _, rfl⟩))))
theorem readP_keep {p q : Pl} {w : Wd} {s t : St} (h : readP q w s = some t) (hne : fieldP q ≠ fieldP p) : wordP p t = wordP p s := by
  rcases readP_cases h with ⟨e, x, rfl⟩ | ⟨e, x, rfl⟩ | ⟨e, x, rfl⟩ | ⟨e, x, rfl⟩ | ⟨e, x, rfl⟩ | ⟨e, x, rfl⟩ <;> rw [e] at hne <;> cases p <;> first | rfl | exact absurd rfl hne
theorem readP_kind {p : Pl} {w : Wd} {s t : St} (h : readP p w s = some t) : t.kind = s.kind ∧ t.ck = s.ck := by
  rcases readP_cases h with ⟨e, x, rfl⟩ | ⟨e, x, rfl⟩ | ⟨e, x, rfl⟩ | ⟨e, x, rfl⟩ | ⟨e, x, rfl⟩ | ⟨e, x, rfl⟩ <;> exact ⟨rfl, rfl⟩
theorem readAll_cons {p : Pl} {pl : List Pl} {w : Wd} {ws : List Wd} {s t : St} (h : readAll (p :: pl) (w :: ws) s = some t) : ∃ u, readP p w s = some u ∧ readAll pl ws u = some t := by
  simp only [readAll] at h
  cases hr : readP p w s with
  | none => rw [hr] at h; cases h
  | some u => rw [hr] at h; exact ⟨u, rfl, h⟩
theorem readAll_keep : ∀ {pl : List Pl} {ws : List Wd} {p : Pl} {s t : St}, readAll pl ws s = some t → (∀ q ∈ pl, fieldP q ≠ fieldP p) → wordP p t = wordP p s := by
  intro pl
  induction pl with
  | nil => intro ws p s t h _; cases ws <;> simp [readAll] at h; rw [h]
  | cons q pl ih =>
    intro ws p s t h hq
    cases ws with
    | nil => simp [readAll] at h
    | cons w ws =>
      obtain ⟨u, h1, h2⟩ := readAll_cons h
      rw [ih h2 (fun q' hq' => hq q' (by simp [hq'])), readP_keep h1 (hq q (by simp))]
theorem readAll_kind : ∀ {pl : List Pl} {ws : List Wd} {s t : St}, readAll pl ws s = some t → t.kind = s.kind ∧ t.ck = s.ck := by
  intro pl
  induction pl with
  | nil => intro ws s t h; cases ws <;> simp [readAll] at h; rw [h]; exact ⟨rfl, rfl⟩
  | cons q pl ih =>
    intro ws s t h
    cases ws with
    | nil => simp [readAll] at h
    | cons w ws =>
      obtain ⟨u, h1, h2⟩ := readAll_cons h
      obtain ⟨e1, e2⟩ := ih h2
      obtain ⟨e3, e4⟩ := readP_kind h1
      exact ⟨e1.trans e3, e2.trans e4⟩
theorem place_back {p : Pl} {w : Wd} {s t : St} (hp : okP p = true) (h : readP p w s = some t) : readP p (wordP p t) s = some t := by
  cases p with
  | nA lo hi =>
    rw [readP_nA, Option.map_eq_some_iff] at h ⊢
    obtain ⟨n, hn, rfl⟩ := h
    simp [okP] at hp
    have := numL_some hn
    exact ⟨n, (numL_digits this.1 this.2 (by omega) : numL ⟨digitsL n, false⟩ lo hi = some n), rfl⟩
  | nB lo hi =>
    rw [readP_nB, Option.map_eq_some_iff] at h ⊢
    obtain ⟨n, hn, rfl⟩ := h
    simp [okP] at hp
    have := numL_some hn
    exact ⟨n, (numL_digits this.1 this.2 (by omega) : numL ⟨digitsL n, false⟩ lo hi = some n), rfl⟩
  | ts =>
    simp only [readP, Option.map_eq_some_iff] at h ⊢
    obtain ⟨n, hn, rfl⟩ := h
    have := numL_some hn
    exact ⟨n, (numL_digits this.1 this.2 (by omega) : numL ⟨digitsL n, false⟩ 1 1099511627776 = some n), rfl⟩
  | who =>
    simp only [readP] at h
    split at h
    · cases h; rfl
    · split at h
      · cases h; rfl
      · cases h
  | key lo =>
    simp only [readP, Option.map_eq_some_iff] at h ⊢
    obtain ⟨n, hn, rfl⟩ := h
    have := saidL_some hn
    exact ⟨n, saidL_text this.1 this.2, rfl⟩
  | hi =>
    simp only [readP, Option.map_eq_some_iff] at h ⊢
    obtain ⟨n, hn, rfl⟩ := h
    have := saidL_some hn
    exact ⟨n, saidL_text this.1 this.2, rfl⟩
  | val =>
    simp only [readP, Option.map_eq_some_iff] at h ⊢
    obtain ⟨n, hn, rfl⟩ := h
    have := saidL_some hn
    exact ⟨n, saidL_text this.1 this.2, rfl⟩
theorem readAll_back : ∀ {pl : List Pl} {ws : List Wd} {s t : St}, pl.all okP = true → (pl.map fieldP).Nodup → readAll pl ws s = some t → readAll pl (pl.map (wordP · t)) s = some t := by
  intro pl
  induction pl with
  | nil => intro ws s t _ _ h; cases ws <;> simp [readAll] at h; rw [h]; rfl
  | cons p pl ih =>
    intro ws s t hp hd h
    simp only [List.all_cons, Bool.and_eq_true] at hp
    rw [List.map_cons, List.nodup_cons] at hd
    cases ws with
    | nil => simp [readAll] at h
    | cons w ws =>
      obtain ⟨u, h1, h2⟩ := readAll_cons h
      have hk : wordP p t = wordP p u := readAll_keep h2 (fun q hq e => hd.1 (e ▸ List.mem_map_of_mem hq))
      simp only [List.map_cons, readAll]
      rw [hk, place_back hp.1 h1]
      exact ih hp.2 hd.2 h2
theorem rowOf_row {r : Rw} (hr : r ∈ rowsL) {s : St} (hk : s.kind = r.kind) (hc : s.ck = r.ck) : rowOf s = some r := by
  unfold rowOf
  rw [hk, hc]
  simp only [rowsL, List.mem_cons, List.not_mem_nil, or_false] at hr
  rcases hr with rfl | rfl | rfl | rfl | rfl | rfl | rfl | rfl | rfl | rfl | rfl | rfl | rfl | rfl | rfl | rfl | rfl | rfl <;> rfl
theorem rowAt_row {r : Rw} (hr : r ∈ rowsL) (l : List Wd) : rowAt (⟨r.word, false⟩ :: l) = some r := by
  simp only [rowsL, List.mem_cons, List.not_mem_nil, or_false] at hr
  rcases hr with rfl | rfl | rfl | rfl | rfl | rfl | rfl | rfl | rfl | rfl | rfl | rfl | rfl | rfl | rfl | rfl | rfl | rfl <;> rfl
/-- What was read is printed, and read again. -/
theorem line_back {s : Bs} {t : St} (h : lineL s = .ok t) : ∃ r, r ∈ rowsL ∧ rowOf t = some r ∧ lineL (printR r t) = .ok t := by
  have hf := line_fit h
  obtain ⟨r, _, hr, _, h2⟩ := lineL_ok h
  have hk := readAll_kind h2
  refine ⟨r, hr, rowOf_row hr hk.1 hk.2, ?_⟩
  have hb := readAll_back (List.all_eq_true.1 rows_okP r hr) (by simpa [okR] using List.all_eq_true.1 rows_okR r hr) h2
  unfold lineL
  simp only [words_row hr t hf.small, rowAt_row hr]
  simp [hb]
theorem printedL_line {s : Bs} {t : St} (h : lineL s = .ok t) : ∃ x, printedL t = some x := by
  obtain ⟨r, _, h1, h2⟩ := line_back h
  refine ⟨printR r t, ?_⟩
  unfold printedL
  simp [h1, h2]
theorem printedL_some {t : St} {x : Bs} (h : printedL t = some x) : lineL x = .ok t ∧ ∃ r ∈ rowsL, x = printR r t := by
  unfold printedL at h
  split at h
  · cases h
  · rename_i r hr
    split at h
    · rename_i hl
      cases h
      exact ⟨hl, r, List.mem_of_find?_eq_some hr, rfl⟩
    · cases h
/- Lines. -/
theorem dig_nl {d : UInt8} (hd : isDigit d = true) : d ≠ 10 := by
  intro h; subst h; revert hd; decide
theorem quote_nl (t : Bs) : ∀ c ∈ quoteL t, c ≠ 10 := by
  intro c hc
  simp only [quoteL, List.mem_cons, List.mem_append, List.mem_flatMap, List.not_mem_nil, or_false] at hc
  rcases hc with rfl | ⟨d, _, hd⟩ | rfl
  · decide
  · unfold quoteB at hd
    split at hd
    · simp at hd; rcases hd with rfl | rfl <;> decide
    · split at hd
      · simp at hd; subst hd; decide
      · split at hd
        · simp at hd; rcases hd with rfl | rfl <;> decide
        · rename_i h3
          simp at hd; subst hd
          simpa using h3
  · decide
theorem place_nl (p : Pl) (s : St) (hs : Small s) : ∀ c ∈ printP p s, c ≠ 10 := by
  have hd : ∀ n, n < 10 ^ 20 → ∀ c ∈ digitsL n, c ≠ 10 := fun n hn c hc => dig_nl (List.all_eq_true.1 (digitsL_ok n hn).2.1 c hc)
  cases p with
  | nA lo hi => exact hd _ (by have := hs.a; omega)
  | nB lo hi => exact hd _ (by have := hs.b; omega)
  | ts => exact hd _ hs.ts
  | key lo => exact quote_nl _
  | hi => exact quote_nl _
  | val => exact quote_nl _
  | who => intro c hc; simp only [printP] at hc; split at hc <;> simp [tcB, dcB] at hc <;> rcases hc with rfl | rfl <;> decide
theorem row_nl {r : Rw} (hr : r ∈ rowsL) (s : St) (hs : Small s) : ∀ c ∈ printR r s, c ≠ 10 := by
  have hw := List.all_eq_true.1 rows_okW r hr
  simp only [Bool.and_eq_true, decide_eq_true_eq] at hw
  intro c hc
  rw [printR_eq, List.mem_append] at hc
  rcases hc with hc | hc
  · cases hx : r.word with
    | nil => rw [hx] at hc; cases hc
    | cons d t =>
      rw [hx] at hw hc
      simp only [okW, Bool.and_eq_true, bne_iff_ne] at hw
      have := List.all_eq_true.1 hw.1.2 c hc
      simp at this
      exact this.2
  · simp only [List.mem_flatMap, List.mem_cons] at hc
    obtain ⟨p, _, rfl | hp⟩ := hc
    · decide
    · exact place_nl p s hs c hp
theorem lines_nl : ∀ (t r : Bs), (∀ c ∈ t, c ≠ 10) → linesL (t ++ 10 :: r) = t :: linesL r := by
  intro t
  induction t with
  | nil => intro r _; rfl
  | cons c t ih =>
    intro r h
    have hc := h c (by simp)
    rw [List.cons_append, linesL, ih r (fun d hd => h d (by simp [hd]))]
    simp [hc]
theorem line_nil : lineL [] = .blank := by decide
theorem parse_printN : ∀ (l : List St) (o o' : Bs), printN l o = some o' → ∃ x, o' = o ++ x ∧ ∀ i acc, acc.length + l.length ≤ 4096 → parseN (linesL x) i acc = .inl (acc ++ l) := by
  intro l
  induction l with
  | nil =>
    intro o o' h
    simp [printN] at h
    refine ⟨[], by simp [h], fun i acc _ => ?_⟩
    show parseN [[]] i acc = _
    simp [parseN, line_nil]
  | cons s l ih =>
    intro o o' h
    unfold printN at h
    cases hp : printedL s with
    | none => rw [hp] at h; cases h
    | some t =>
      rw [hp] at h
      obtain ⟨x, rfl, hx⟩ := ih _ _ h
      obtain ⟨h1, r, hr, rfl⟩ := printedL_some hp
      refine ⟨printR r s ++ 10 :: x, by simp, fun i acc hl => ?_⟩
      simp only [List.length_cons] at hl
      rw [lines_nl _ _ (row_nl hr s (line_fit h1).small), parseN, h1]
      simp only
      rw [if_pos (by omega), hx (i + 1) (acc ++ [s]) (by simp; omega)]
      simp
/-- Steps that may be come back from what is printed of them. -/
theorem back1 {l : List St} {o : Bs} (h : printL l = (o, 0)) : parseL o = .inl l := by
  unfold printL at h
  split at h
  · simp at h
  · split at h
    · simp at h
    · rename_i o' ho
      cases h
      obtain ⟨x, rfl, hx⟩ := parse_printN l [] _ ho
      have := hx 0 [] (by simp; omega)
      simpa [parseL] using this
def Was (s : St) : Prop := ∃ x, lineL x = .ok s
theorem parseN_was : ∀ (ls : List Bs) (i : Nat) (acc m : List St), parseN ls i acc = .inl m → (∀ s ∈ acc, Was s) → acc.length ≤ 4096 → (∀ s ∈ m, Was s) ∧ m.length ≤ 4096 := by
  intro ls
  induction ls with
  | nil => intro i acc m h h1 h2; simp [parseN] at h; subst h; exact ⟨h1, h2⟩
  | cons x ls ih =>
    intro i acc m h h1 h2
    unfold parseN at h
    split at h
    · exact ih _ _ _ h h1 h2
    · cases h
    · rename_i t ht
      split at h
      · exact ih _ _ _ h (fun s hs => by
          rcases List.mem_append.1 hs with hs | hs
          · exact h1 s hs
          · simp at hs; subst hs; exact ⟨x, ht⟩) (by simp; omega)
      · cases h
theorem printN_was : ∀ (l : List St) (o : Bs), (∀ s ∈ l, Was s) → ∃ o', printN l o = some o' := by
  intro l
  induction l with
  | nil => intro o _; exact ⟨o, rfl⟩
  | cons s l ih =>
    intro o h
    obtain ⟨y, hy⟩ := h s (by simp)
    obtain ⟨x, hx⟩ := printedL_line hy
    unfold printN
    rw [hx]
    exact ih _ (fun s hs => h s (by simp [hs]))
theorem parse_was {t : Bs} {m : List St} (h : parseL t = .inl m) : (∀ s ∈ m, Was s) ∧ m.length ≤ 4096 := parseN_was _ _ _ _ h (by simp) (by simp)
/-- What is printed of steps that were parsed, parsed again, is the same. -/
theorem back2 {t : Bs} {m : List St} (h : parseL t = .inl m) : ∃ o, printL m = (o, 0) ∧ parseL o = .inl m := by
  obtain ⟨h1, h2⟩ := parse_was h
  obtain ⟨o, ho⟩ := printN_was m [] h1
  have : printL m = (o, 0) := by unfold printL; rw [if_neg (by omega), ho]
  exact ⟨o, this, back1 this⟩
/- Many lines. -/
def cleanB : Bs := [99, 108, 101, 97, 110, 10]
def cleans : Nat → Bs
  | 0 => []
  | n + 1 => cleanB ++ cleans n
theorem line_clean : lineL [99, 108, 101, 97, 110] = .ok (st0 5 0) := by decide
theorem long_n : ∀ (n : Nat) (acc : List St), acc.length ≤ 4096 → parseN (linesL (cleans n)) acc.length acc = if acc.length + n ≤ 4096 then .inl (acc ++ List.replicate n (st0 5 0)) else .inr (3, 4096) := by
  intro n
  induction n with
  | zero =>
    intro acc h
    show parseN [[]] _ acc = _
    simp [parseN, line_nil, h]
  | succ n ih =>
    intro acc h
    show parseN (linesL ([99, 108, 101, 97, 110] ++ 10 :: cleans n)) _ acc = _
    rw [lines_nl _ _ (by decide), parseN, line_clean]
    simp only
    by_cases h1 : acc.length < 4096
    · have := ih (acc ++ [st0 5 0]) (by simp; omega)
      rw [show (acc ++ [st0 5 0]).length = acc.length + 1 by simp] at this
      rw [if_pos h1, this]
      by_cases h2 : acc.length + 1 + n ≤ 4096
      · rw [if_pos h2, if_pos (by omega), List.append_assoc]; rfl
      · rw [if_neg h2, if_neg (by omega)]
    · rw [if_neg h1, if_neg (by omega), show acc.length = 4096 by omega]
theorem long_l (n : Nat) : parseL (cleans n) = if n ≤ 4096 then .inl (List.replicate n (st0 5 0)) else .inr (3, 4096) := by
  have := long_n n [] (by simp)
  simpa [parseL] using this
end
end Go.Proofs.YtibhkldnimfnkaaGreatDoor

/- Script: blanks, remarks and empty lines between (plain: no program in sight; printed by mkXC.py). -/
namespace Go.Proofs.YtibhkldnimfnkaaGreatDoor
section
set_option linter.unusedVariables false
set_option linter.unusedSimpArgs false

/-- The lines; the same, with more blanks; what stands between; the steps. -/
def lnW : Nat → Bs
  | 0 => [116, 105, 99, 107, 32, 100, 99]
  | 1 => [100, 101, 108, 105, 118, 101, 114, 32, 48]
  | 2 => [99, 108, 101, 97, 110]
  | 3 => [99, 114, 97, 115, 104, 32, 116, 99, 32, 55]
  | 4 => [119, 114, 105, 116, 101, 32, 51, 32, 34, 97, 32, 35, 32, 92, 34, 32, 98, 34, 32, 34, 34]
  | 5 => [114, 101, 97, 100, 32, 57, 32, 34, 120, 34]
  | 6 => [99, 97, 108, 109, 32, 52, 48]
  | _ => [99, 111, 109, 109, 105, 116, 32, 49]
def lnR : Nat → Bs
  | 0 => [116, 105, 99, 107, 32, 9, 32, 100, 99]
  | 1 => [100, 101, 108, 105, 118, 101, 114, 32, 9, 32, 48]
  | 2 => [99, 108, 101, 97, 110]
  | 3 => [99, 114, 97, 115, 104, 32, 9, 32, 116, 99, 32, 55]
  | 4 => [119, 114, 105, 116, 101, 32, 9, 32, 51, 32, 34, 97, 32, 35, 32, 92, 34, 32, 98, 34, 32, 34, 34]
  | 5 => [114, 101, 97, 100, 32, 9, 32, 57, 32, 34, 120, 34]
  | 6 => [99, 97, 108, 109, 32, 9, 32, 52, 48]
  | _ => [99, 111, 109, 109, 105, 116, 32, 9, 32, 49]
def gapB : Nat → Bs
  | 0 => [10]
  | 1 => [10, 10]
  | 2 => [32, 35, 32, 116, 105, 99, 107, 10]
  | 3 => [9, 32, 10, 32, 32]
  | _ => [10, 35, 10, 9]
def stW : Nat → St
  | 0 => ⟨3, 1, 0, 0, 0, [], [], []⟩
  | 1 => ⟨0, 0, 0, 0, 0, [], [], []⟩
  | 2 => ⟨5, 0, 0, 0, 0, [], [], []⟩
  | 3 => ⟨8, 0, 7, 0, 0, [], [], []⟩
  | 4 => ⟨10, 0, 0, 3, 3, [97, 32, 35, 32, 34, 32, 98], [], []⟩
  | 5 => ⟨10, 0, 0, 1, 9, [120], [], []⟩
  | 6 => ⟨11, 40, 0, 0, 0, [], [], []⟩
  | _ => ⟨10, 0, 0, 5, 1, [], [], []⟩

/-- What of a gap stands behind its line, the lines in it, and what stands ahead of the next one. -/
def gapS : Nat → Bs
  | 0 => []
  | 1 => []
  | 2 => [32, 35, 32, 116, 105, 99, 107]
  | 3 => [9, 32]
  | _ => []
def gapM : Nat → List Bs
  | 0 => []
  | 1 => [[]]
  | 2 => []
  | 3 => []
  | _ => [[35]]
def gapP : Nat → Bs
  | 0 => []
  | 1 => []
  | 2 => []
  | 3 => [32, 32]
  | _ => [9]

def oneL : List (Nat × Nat) → Bs
  | [] => []
  | (k, j) :: l => lnW k ++ 10 :: oneL l
def twoL : List (Nat × Nat) → Bs
  | [] => []
  | (k, j) :: l => lnR k ++ gapB j ++ twoL l
set_option maxRecDepth 100000 in
theorem one_lines : ∀ k < 8, lineL (lnW k) = .ok (stW k) ∧ (lnW k).all (· != 10) = true := by decide +kernel
set_option maxRecDepth 100000 in
theorem two_lines : ∀ p < 5, ∀ k < 8, ∀ j < 5, lineL (gapP p ++ lnR k ++ gapS j) = .ok (stW k) ∧ (gapP p ++ lnR k ++ gapS j).all (· != 10) = true := by decide +kernel
theorem pre_lines : ∀ p < 5, linesL (gapP p) = [gapP p] ∧ lineL (gapP p) = .blank := by decide
theorem gap_eq : ∀ j < 5, gapB j = gapS j ++ 10 :: ((gapM j).flatMap (· ++ [10]) ++ gapP j) := by decide
theorem mid_lines : ∀ j < 5, ∀ x ∈ gapM j, lineL x = .blank ∧ x.all (· != 10) = true := by decide
theorem all_ne {t : Bs} (h : t.all (· != 10) = true) : ∀ c ∈ t, c ≠ 10 := fun c hc => by simpa using List.all_eq_true.1 h c hc
theorem blank_mid : ∀ (m : List Bs) (r : Bs) (i : Nat) (acc : List St), (∀ x ∈ m, lineL x = .blank ∧ x.all (· != 10) = true) → ∃ i', parseN (linesL (m.flatMap (· ++ [10]) ++ r)) i acc = parseN (linesL r) i' acc := by
  intro m
  induction m with
  | nil => intro r i acc _; exact ⟨i, rfl⟩
  | cons x m ih =>
    intro r i acc h
    obtain ⟨h1, h2⟩ := h x (by simp)
    obtain ⟨i', hi⟩ := ih r (i + 1) acc (fun y hy => h y (by simp [hy]))
    refine ⟨i', ?_⟩
    rw [List.flatMap_cons, List.append_assoc, List.append_assoc, List.singleton_append, lines_nl _ _ (all_ne h2), parseN, h1]
    exact hi
theorem one_n : ∀ (l : List (Nat × Nat)) (i : Nat) (acc : List St), (∀ x ∈ l, x.1 < 8) → acc.length + l.length ≤ 4096 → parseN (linesL (oneL l)) i acc = .inl (acc ++ l.map fun x => stW x.1) := by
  intro l
  induction l with
  | nil => intro i acc _ _; show parseN [[]] _ acc = _; simp [parseN, line_nil]
  | cons x l ih =>
    intro i acc h hl
    obtain ⟨k, j⟩ := x
    simp only [List.length_cons] at hl
    obtain ⟨h1, h2⟩ := one_lines k (h (k, j) (by simp))
    rw [oneL, lines_nl _ _ (all_ne h2), parseN, h1]
    simp only
    rw [if_pos (by omega), ih _ _ (fun y hy => h y (by simp [hy])) (by simp; omega)]
    simp
theorem two_n : ∀ (l : List (Nat × Nat)) (p i : Nat) (acc : List St), p < 5 → (∀ x ∈ l, x.1 < 8 ∧ x.2 < 5) → acc.length + l.length ≤ 4096 → parseN (linesL (gapP p ++ twoL l)) i acc = .inl (acc ++ l.map fun x => stW x.1) := by
  intro l
  induction l with
  | nil =>
    intro p i acc hp _ _
    obtain ⟨h1, h2⟩ := pre_lines p hp
    rw [twoL, List.append_nil, h1, parseN, h2]
    simp [parseN]
  | cons x l ih =>
    intro p i acc hp h hl
    obtain ⟨k, j⟩ := x
    simp only [List.length_cons] at hl
    obtain ⟨hk, hj⟩ := h (k, j) (by simp)
    obtain ⟨h1, h2⟩ := two_lines p hp k hk j hj
    have : gapP p ++ twoL ((k, j) :: l) = (gapP p ++ lnR k ++ gapS j) ++ 10 :: ((gapM j).flatMap (· ++ [10]) ++ (gapP j ++ twoL l)) := by
      rw [twoL, gap_eq j hj]; simp
    rw [this, lines_nl _ _ (all_ne h2), parseN, h1]
    simp only
    obtain ⟨i', hi⟩ := blank_mid (gapM j) (gapP j ++ twoL l) (i + 1) (acc ++ [stW k]) (mid_lines j hj)
    rw [if_pos (by omega), hi, ih j i' _ hj (fun y hy => h y (by simp [hy])) (by simp; omega)]
    simp
theorem one_ok (l : List (Nat × Nat)) (h : ∀ x ∈ l, x.1 < 8) (hl : l.length ≤ 30) : parseL (oneL l) = .inl (l.map fun x => stW x.1) := by
  have := one_n l 0 [] h (by simp; omega)
  simpa [parseL] using this
theorem two_ok (l : List (Nat × Nat)) (h : ∀ x ∈ l, x.1 < 8 ∧ x.2 < 5) (hl : l.length ≤ 30) : parseL (twoL l) = .inl (l.map fun x => stW x.1) := by
  have := two_n l 0 0 [] (by decide) h (by simp; omega)
  simpa [parseL, gapP] using this
end
end Go.Proofs.YtibhkldnimfnkaaGreatDoor

/- Script: words are no longer than their line (plain). -/
namespace Go.Proofs.YtibhkldnimfnkaaGreatDoor
section
set_option linter.unusedVariables false
set_option linter.unusedSimpArgs false

theorem onto_some {a t r : Bs} {o : Option (Bs × Bs)} (h : onto a o = some (t, r)) : ∃ t', o = some (t', r) ∧ t = a ++ t' := by
  cases o with
  | none => cases h
  | some p => obtain ⟨t', r'⟩ := p; simp [onto] at h; exact ⟨t', by rw [h.2], h.1.symm⟩
theorem quotedL_lens : ∀ (n : Nat) (s t r : Bs), s.length ≤ n → quotedL s = some (t, r) → t.length + r.length < s.length := by
  intro n
  induction n with
  | zero =>
    intro s t r hn h
    cases s with
    | nil => simp [quotedL] at h
    | cons => simp at hn
  | succ n ih =>
    intro s t r hn h
    cases s with
    | nil => simp [quotedL] at h
    | cons c s =>
      simp only [List.length_cons] at hn ⊢
      by_cases h1 : c = 34
      · subst h1
        rw [quotedL_q] at h
        split at h
        · cases h; simp
        · cases h
      · by_cases h2 : c = 92
        · subst h2
          cases s with
          | nil => rw [quotedL_b0] at h; cases h
          | cons d s =>
            rw [quotedL_b] at h
            split at h
            · cases h
            · obtain ⟨t', h3, rfl⟩ := onto_some h
              have := ih s t' r (by simp at hn; omega) h3
              simp; omega
        · rw [quotedL_c s h1 h2] at h
          obtain ⟨t', h3, rfl⟩ := onto_some h
          have := ih s t' r (by omega) h3
          simp; omega
theorem words_len : ∀ (n : Nat) (s : Bs), ∀ x ∈ (wordsN n s).1, x.text.length ≤ s.length := by
  intro n
  induction n with
  | zero => intro s x hx; simp [wordsN] at hx
  | succ n ih =>
    intro s x hx
    have hd : (s.dropWhile isBlank).length ≤ s.length := List.Sublist.length_le (List.dropWhile_sublist _)
    unfold wordsN at hx
    split at hx
    · simp at hx
    · rename_i c t hs
      rw [hs] at hd
      split at hx
      · simp at hx
      · split at hx
        · split at hx
          · simp at hx
          · rename_i y r hq
            have := quotedL_lens _ t y r (Nat.le_refl _) hq
            simp only [List.length_cons] at hd
            rcases List.mem_cons.1 hx with rfl | hx
            · simp only; omega
            · have := ih r x hx; omega
        · have h1 : ((c :: t).takeWhile fun c => !isBlank c).length ≤ (c :: t).length := List.Sublist.length_le (List.takeWhile_sublist _)
          have h2 : ((c :: t).dropWhile fun c => !isBlank c).length ≤ (c :: t).length := List.Sublist.length_le (List.dropWhile_sublist _)
          rcases List.mem_cons.1 hx with rfl | hx
          · simp only; omega
          · have := ih _ x hx; omega
theorem wordsL_len (s : Bs) : ∀ x ∈ (wordsL s).1, x.text.length ≤ s.length := words_len _ s
end
end Go.Proofs.YtibhkldnimfnkaaGreatDoor
