/- The plain laws: tokens, the parser, trees, valid formulas, diagrams as trees. -/
import Derived.Lib.DecodeN
import Derived.Lib.TrimU
import Derived.Shelf.GgClosure.StringsIndexFunc
import Derived.Lib.SlTrimSet
import Derived.Lib.Strings
import Derived.Test.YtgpnpfjbkaehlaaDoorNa
namespace Go.Proofs.YtgpnpfjbkaehlaaDoor.Fm
set_option linter.unusedVariables false
set_option linter.unusedSimpArgs false

/-- A node of a formula: operator, condition, operands. -/
abbrev FN := Go.Proofs.YtgpnpfjbkaehlaaDoor.Nt.S62

/-- A token. -/
inductive Tk where
 | lp | rp | bang | and | or
 | word (w : List UInt8)

abbrev trueW : List UInt8 := [116, 114, 117, 101]
abbrev falseW : List UInt8 := [102, 97, 108, 115, 101]

/-- What a parser has: what is left, the nodes, and whether a name was unknown. -/
structure PS (σ : Type) where
 rest : σ
 f : List FN
 u : Bool

def PS.put {σ : Type} (st : PS σ) (n : FN) : Int × PS σ := ((st.f.length : Int), ⟨st.rest, st.f ++ [n], st.u⟩)

/-- What is read: a factor; operands joined by && (true) or by || (false); the rest of such a chain. -/
inductive M where
 | fac
 | ex (l : Bool)
 | lo (l : Bool)

def tkOf : Bool → Tk | true => .and | false => .or
def opOf : Bool → Int | true => 4 | false => 5
def subOf : Bool → M | true => .fac | false => .ex true

section
variable {σ : Type} (nx : σ → Option (Tk × σ)) (nm : List UInt8 → Option Nat)

/-- The word as a factor. -/
def wordOf (w : List UInt8) (st : PS σ) : Int × PS σ :=
 if w = trueW then st.put ⟨1, 0, 0, 0⟩ else if w = falseW then st.put ⟨0, 0, 0, 0⟩
 else (⟨st.rest, st.f, st.u || (nm w).isNone⟩ : PS σ).put ⟨2, ((nm w).getD 0 : Nat), 0, 0⟩

/-- none: out of rounds; some none: no expression. -/
def run : Nat → M → Int → PS σ → Option (Option (Int × PS σ))
 | 0, _, _, _ => none
 | k + 1, .ex l, _, st => match run k (subOf l) 0 st with
  | none => none
  | some none => some none
  | some (some (a, st1)) => run k (.lo l) a st1
 | k + 1, .lo true, a, st => match nx st.rest with
  | some (.and, s) => (match run k .fac 0 ⟨s, st.f, st.u⟩ with
   | none => none
   | some none => some none
   | some (some (b, st1)) => run k (.lo true) (st1.put ⟨4, 0, a, b⟩).1 (st1.put ⟨4, 0, a, b⟩).2)
  | _ => some (some (a, st))
 | k + 1, .lo false, a, st => match nx st.rest with
  | some (.or, s) => (match run k (.ex true) 0 ⟨s, st.f, st.u⟩ with
   | none => none
   | some none => some none
   | some (some (b, st1)) => run k (.lo false) (st1.put ⟨5, 0, a, b⟩).1 (st1.put ⟨5, 0, a, b⟩).2)
  | _ => some (some (a, st))
 | k + 1, .fac, _, st => match nx st.rest with
  | some (.bang, s) => (match run k .fac 0 ⟨s, st.f, st.u⟩ with
   | none => none
   | some none => some none
   | some (some (a, st1)) => some (some (st1.put ⟨3, 0, a, 0⟩)))
  | some (.lp, s) => (match run k (.ex false) 0 ⟨s, st.f, st.u⟩ with
   | none => none
   | some none => some none
   | some (some (a, st1)) => (match nx st1.rest with
    | some (.rp, s1) => some (some (a, ⟨s1, st1.f, st1.u⟩))
    | _ => some none))
  | some (.word w, s) => some (some (wordOf nm w ⟨s, st.f, st.u⟩))
  | _ => some none

/-- More rounds tell the same. -/
theorem run_mono : ∀ (k : Nat) (m : M) (a : Int) (st : PS σ) r, run nx nm k m a st = some r → run nx nm (k + 1) m a st = some r := by
 intro k
 induction k with
 | zero => intro m a st r h; simp [run] at h
 | succ k ih =>
  intro m a st r h
  cases m with
  | ex l =>
   unfold run at h ⊢
   cases h1 : run nx nm k (subOf l) 0 st with
   | none => rw [h1] at h; simp at h
   | some r1 =>
    rw [h1] at h
    rw [ih _ _ _ _ h1]
    cases r1 with
    | none => exact h
    | some p => exact ih _ _ _ _ h
  | lo l =>
   cases l with
   | true =>
    unfold run at h ⊢
    split at h
    ·rename_i s hs
     cases h1 : run nx nm k .fac 0 ⟨s, st.f, st.u⟩ with
     | none => rw [h1] at h; simp at h
     | some r1 =>
      rw [h1] at h
      simp only [ih _ _ _ _ h1]
      cases r1 with
      | none => exact h
      | some p => exact ih _ _ _ _ h
    ·rename_i hs
     exact h
   | false =>
    unfold run at h ⊢
    split at h
    ·rename_i s hs
     cases h1 : run nx nm k (.ex true) 0 ⟨s, st.f, st.u⟩ with
     | none => rw [h1] at h; simp at h
     | some r1 =>
      rw [h1] at h
      simp only [ih _ _ _ _ h1]
      cases r1 with
      | none => exact h
      | some p => exact ih _ _ _ _ h
    ·rename_i hs
     exact h
  | fac =>
   unfold run at h ⊢
   split at h
   ·rename_i s hs
    cases h1 : run nx nm k .fac 0 ⟨s, st.f, st.u⟩ with
    | none => rw [h1] at h; simp at h
    | some r1 =>
     rw [h1] at h
     simp only [ih _ _ _ _ h1]
     exact h
   ·rename_i s hs
    cases h1 : run nx nm k (.ex false) 0 ⟨s, st.f, st.u⟩ with
    | none => rw [h1] at h; simp at h
    | some r1 =>
     rw [h1] at h
     simp only [ih _ _ _ _ h1]
     exact h
   ·exact h
   ·exact h

theorem run_le {k k' : Nat} (hk : k ≤ k') {m : M} {a : Int} {st : PS σ} {r} (h : run nx nm k m a st = some r) : run nx nm k' m a st = some r := by
 induction hk with
 | refl => exact h
 | step _ ih => exact run_mono nx nm _ _ _ _ _ ih

/-- A measure of what is left, which a token lowers. -/
def Low (sz : σ → Nat) : Prop := ∀ s t s', nx s = some (t, s') → sz s' < sz s

variable {nx nm}
theorem put_sz {sz : σ → Nat} {st : PS σ} {n : FN} : (st.put n).2.f.length = st.f.length + 1 ∧ (st.put n).2.rest = st.rest := by
 simp [PS.put]

theorem wordOf_sz {w : List UInt8} {st : PS σ} : (wordOf nm w st).2.f.length = st.f.length + 1 ∧ (wordOf nm w st).2.rest = st.rest := by
 unfold wordOf
 split
 ·simp [PS.put]
 ·split <;> simp [PS.put]

/-- Each node costs a token. -/
theorem run_bound {sz : σ → Nat} (hl : Low nx sz) : ∀ (k : Nat) (m : M) (a : Int) (st : PS σ) r st', run nx nm k m a st = some (some (r, st')) →
  st'.f.length + sz st'.rest ≤ st.f.length + sz st.rest ∧ st.f.length ≤ st'.f.length ∧ sz st'.rest ≤ sz st.rest ∧ (m = .fac ∨ (∃ l, m = .ex l) → sz st'.rest < sz st.rest) := by
 intro k
 induction k with
 | zero => intro m a st r st' h; simp [run] at h
 | succ k ih =>
  intro m a st r st' h
  cases m with
  | ex l =>
   unfold run at h
   split at h
   ·simp at h
   ·simp at h
   ·rename_i a1 st1 h1
    have i1 := ih _ _ _ _ _ h1
    have i2 := ih _ _ _ _ _ h
    have i3 : sz st1.rest < sz st.rest := i1.2.2.2 (by cases l <;> simp [subOf])
    refine ⟨by omega, by omega, by omega, fun _ => by omega⟩
  | lo l =>
   cases l with
   | true =>
    unfold run at h
    split at h
    ·rename_i s hs
     have hlt := hl _ _ _ hs
     split at h
     ·simp at h
     ·simp at h
     ·rename_i b st1 h1
      have i1 := ih _ _ _ _ _ h1
      have i2 := ih _ _ _ _ _ h
      simp only [PS.put, List.length_append, List.length_singleton] at i1 i2
      exact ⟨by omega, by omega, by omega, fun h => by rcases h with h | ⟨_, h⟩ <;> cases h⟩
    ·simp only [Option.some.injEq, Prod.mk.injEq] at h
     obtain ⟨rfl, rfl⟩ := h
     exact ⟨by omega, by omega, by omega, fun h => by rcases h with h | ⟨_, h⟩ <;> cases h⟩
   | false =>
    unfold run at h
    split at h
    ·rename_i s hs
     have hlt := hl _ _ _ hs
     split at h
     ·simp at h
     ·simp at h
     ·rename_i b st1 h1
      have i1 := ih _ _ _ _ _ h1
      have i2 := ih _ _ _ _ _ h
      simp only [PS.put, List.length_append, List.length_singleton] at i1 i2
      exact ⟨by omega, by omega, by omega, fun h => by rcases h with h | ⟨_, h⟩ <;> cases h⟩
    ·simp only [Option.some.injEq, Prod.mk.injEq] at h
     obtain ⟨rfl, rfl⟩ := h
     exact ⟨by omega, by omega, by omega, fun h => by rcases h with h | ⟨_, h⟩ <;> cases h⟩
  | fac =>
   unfold run at h
   split at h
   ·rename_i s hs
    have hlt := hl _ _ _ hs
    split at h
    ·simp at h
    ·simp at h
    ·rename_i a1 st1 h1
     have i1 := ih _ _ _ _ _ h1
     simp only [Option.some.injEq, Prod.mk.injEq, PS.put] at h
     obtain ⟨-, rfl⟩ := h
     simp only [List.length_append, List.length_singleton] at *
     exact ⟨by omega, by omega, by omega, fun _ => by omega⟩
   ·rename_i s hs
    have hlt := hl _ _ _ hs
    split at h
    ·simp at h
    ·simp at h
    ·rename_i a1 st1 h1
     have i1 := ih _ _ _ _ _ h1
     split at h
     ·rename_i s1 hs1
      have hlt1 := hl _ _ _ hs1
      simp only [Option.some.injEq, Prod.mk.injEq] at h
      obtain ⟨-, rfl⟩ := h
      simp only at *
      exact ⟨by omega, by omega, by omega, fun _ => by omega⟩
     ·simp at h
   ·rename_i w s hs
    have hlt := hl _ _ _ hs
    simp only [Option.some.injEq] at h
    have hw := wordOf_sz (nm := nm) (w := w) (st := (⟨s, st.f, st.u⟩ : PS σ))
    rw [h] at hw
    simp only at hw
    obtain ⟨h1, h2⟩ := hw
    rw [h1, h2]
    exact ⟨by omega, by omega, by omega, fun _ => by omega⟩
   ·simp at h

/-- Rounds enough. -/
def cost : M → Nat | .fac => 1 | .ex true => 2 | .ex false => 3 | .lo _ => 1

theorem run_total {sz : σ → Nat} (hl : Low nx sz) : ∀ (k : Nat) (m : M) (a : Int) (st : PS σ), 4 * sz st.rest + cost m ≤ k → ∃ r, run nx nm k m a st = some r := by
 intro k
 induction k with
 | zero => intro m a st h; cases m with
  | fac => simp [cost] at h
  | ex l => cases l <;> simp [cost] at h
  | lo l => simp [cost] at h
 | succ k ih =>
  intro m a st h
  cases m with
  | ex l =>
   unfold run
   obtain ⟨r1, h1⟩ := ih (subOf l) 0 st (by cases l <;> simp [cost, subOf] at h ⊢ <;> omega)
   rw [h1]
   cases r1 with
   | none => exact ⟨_, rfl⟩
   | some p =>
    obtain ⟨a1, st1⟩ := p
    have hb := run_bound hl _ _ _ _ _ _ h1
    have hlt : sz st1.rest < sz st.rest := hb.2.2.2 (by cases l <;> simp [subOf])
    exact ih _ _ _ (by cases l <;> simp [cost] at h ⊢ <;> omega)
  | lo l =>
   cases l with
   | true =>
    unfold run
    split
    ·rename_i s hs
     have hlt := hl _ _ _ hs
     obtain ⟨r1, h1⟩ := ih .fac 0 ⟨s, st.f, st.u⟩ (by simp [cost] at h ⊢; omega)
     rw [h1]
     cases r1 with
     | none => exact ⟨_, rfl⟩
     | some p =>
      obtain ⟨a1, st1⟩ := p
      have hb := run_bound hl _ _ _ _ _ _ h1
      exact ih _ _ _ (by simp [cost, PS.put] at h ⊢; simp at hb; omega)
    ·exact ⟨_, rfl⟩
   | false =>
    unfold run
    split
    ·rename_i s hs
     have hlt := hl _ _ _ hs
     obtain ⟨r1, h1⟩ := ih (.ex true) 0 ⟨s, st.f, st.u⟩ (by simp [cost] at h ⊢; omega)
     rw [h1]
     cases r1 with
     | none => exact ⟨_, rfl⟩
     | some p =>
      obtain ⟨a1, st1⟩ := p
      have hb := run_bound hl _ _ _ _ _ _ h1
      exact ih _ _ _ (by simp [cost, PS.put] at h ⊢; simp at hb; omega)
    ·exact ⟨_, rfl⟩
  | fac =>
   unfold run
   split
   ·rename_i s hs
    have hlt := hl _ _ _ hs
    obtain ⟨r1, h1⟩ := ih .fac 0 ⟨s, st.f, st.u⟩ (by simp [cost] at h ⊢; omega)
    rw [h1]
    cases r1 with
    | none => exact ⟨_, rfl⟩
    | some p => exact ⟨_, rfl⟩
   ·rename_i s hs
    have hlt := hl _ _ _ hs
    obtain ⟨r1, h1⟩ := ih (.ex false) 0 ⟨s, st.f, st.u⟩ (by simp [cost] at h ⊢; omega)
    rw [h1]
    cases r1 with
    | none => exact ⟨_, rfl⟩
    | some p =>
     obtain ⟨a1, st1⟩ := p
     simp only
     split <;> exact ⟨_, rfl⟩
   ·exact ⟨_, rfl⟩
   ·exact ⟨_, rfl⟩
end

/-! ### one reader of tokens seen through another -/
section
variable {σ τ : Type} {nx : σ → Option (Tk × σ)} {ny : τ → Option (Tk × τ)} {nm : List UInt8 → Option Nat} {h : σ → τ}

def PS.map (h : σ → τ) (st : PS σ) : PS τ := ⟨h st.rest, st.f, st.u⟩

/-- The two readers give the same tokens. -/
def Sim (nx : σ → Option (Tk × σ)) (ny : τ → Option (Tk × τ)) (h : σ → τ) : Prop := ∀ s, ny (h s) = (nx s).map fun p => (p.1, h p.2)

theorem wordOf_map (w : List UInt8) (st : PS σ) : wordOf nm w (st.map h) = ((wordOf nm w st).1, (wordOf nm w st).2.map h) := by
 unfold wordOf
 split
 ·rfl
 ·split <;> rfl

theorem run_map (hs : Sim nx ny h) : ∀ (k : Nat) (m : M) (a : Int) (st : PS σ), run ny nm k m a (st.map h) = (run nx nm k m a st).map (fun r => r.map fun p => (p.1, p.2.map h)) := by
 intro k
 induction k with
 | zero => intro m a st; rfl
 | succ k ih =>
  intro m a st
  cases m with
  | ex l =>
   unfold run
   rw [ih]
   cases run nx nm k (subOf l) 0 st with
   | none => rfl
   | some r1 =>
    cases r1 with
    | none => rfl
    | some p => exact ih _ _ _
  | lo l =>
   cases l with
   | true =>
    unfold run
    rw [show (st.map h).rest = h st.rest from rfl, hs]
    cases nx st.rest with
    | none => rfl
    | some p =>
     obtain ⟨t, s⟩ := p
     cases t <;> try rfl
     simp only [Option.map_some]
     rw [show (⟨h s, (st.map h).f, (st.map h).u⟩ : PS τ) = (⟨s, st.f, st.u⟩ : PS σ).map h from rfl, ih]
     cases run nx nm k .fac 0 ⟨s, st.f, st.u⟩ with
     | none => rfl
     | some r1 =>
      cases r1 with
      | none => rfl
      | some p => exact ih _ _ (p.2.put ⟨4, 0, a, p.1⟩).2
   | false =>
    unfold run
    rw [show (st.map h).rest = h st.rest from rfl, hs]
    cases nx st.rest with
    | none => rfl
    | some p =>
     obtain ⟨t, s⟩ := p
     cases t <;> try rfl
     simp only [Option.map_some]
     rw [show (⟨h s, (st.map h).f, (st.map h).u⟩ : PS τ) = (⟨s, st.f, st.u⟩ : PS σ).map h from rfl, ih]
     cases run nx nm k (.ex true) 0 ⟨s, st.f, st.u⟩ with
     | none => rfl
     | some r1 =>
      cases r1 with
      | none => rfl
      | some p => exact ih _ _ (p.2.put ⟨5, 0, a, p.1⟩).2
  | fac =>
   unfold run
   rw [show (st.map h).rest = h st.rest from rfl, hs]
   cases nx st.rest with
   | none => rfl
   | some p =>
    obtain ⟨t, s⟩ := p
    cases t <;> try rfl
    ·simp only [Option.map_some]
     rw [show (⟨h s, (st.map h).f, (st.map h).u⟩ : PS τ) = (⟨s, st.f, st.u⟩ : PS σ).map h from rfl, ih]
     cases run nx nm k (.ex false) 0 ⟨s, st.f, st.u⟩ with
     | none => rfl
     | some r1 =>
      cases r1 with
      | none => rfl
      | some p =>
       obtain ⟨a1, st1⟩ := p
       simp only [Option.map_some]
       rw [show (st1.map h).rest = h st1.rest from rfl, hs]
       cases nx st1.rest with
       | none => rfl
       | some p =>
        obtain ⟨t, s1⟩ := p
        cases t <;> rfl
    ·simp only [Option.map_some]
     rw [show (⟨h s, (st.map h).f, (st.map h).u⟩ : PS τ) = (⟨s, st.f, st.u⟩ : PS σ).map h from rfl, ih]
     cases run nx nm k .fac 0 ⟨s, st.f, st.u⟩ with
     | none => rfl
     | some r1 =>
      cases r1 with
      | none => rfl
      | some p => rfl
    ·rename_i w
     simp only [Option.map_some]
     rw [show (⟨h s, (st.map h).f, (st.map h).u⟩ : PS τ) = (⟨s, st.f, st.u⟩ : PS σ).map h from rfl, wordOf_map]
end

/-! ### tokens of a string -/
def ws (c : UInt8) : Bool := c == 32 || c == 9
def trim (l : List UInt8) : List UInt8 := l.dropWhile ws
def dig (c : UInt8) : Bool := decide (48 ≤ c.toNat) && decide (c.toNat ≤ 57)
def ltr (c : UInt8) : Bool := (decide (97 ≤ c.toNat) && decide (c.toNat ≤ 122)) || (decide (65 ≤ c.toNat) && decide (c.toNat ≤ 90)) || c.toNat == 95
def idc (c : UInt8) : Bool := ltr c || dig c
/-- The length of the identifier at the begin, or 0. -/
def idl : List UInt8 → Nat
 | [] => 0
 | c :: r => if dig c then 0 else ((c :: r).takeWhile idc).length

theorem idl_cons (c : UInt8) (r : List UInt8) : idl (c :: r) = if dig c then 0 else ((c :: r).takeWhile idc).length := rfl

/-- The first token of a string without blanks at its begin, and what is left, without blanks at its begin. -/
def lex1 : List UInt8 → Option (Tk × List UInt8)
 | [] => none
 | c :: r =>
  if c = 40 then some (.lp, trim r)
  else if c = 41 then some (.rp, trim r)
  else if c = 33 then some (.bang, trim r)
  else if c = 38 then (match r with | d :: r' => if d = 38 then some (.and, trim r') else none | [] => none)
  else if c = 124 then (match r with | d :: r' => if d = 124 then some (.or, trim r') else none | [] => none)
  else if idl (c :: r) = 0 then none
  else some (.word ((c :: r).take (idl (c :: r))), trim ((c :: r).drop (idl (c :: r))))

theorem lex1_cons (c : UInt8) (r : List UInt8) : lex1 (c :: r) =
  if c = 40 then some (.lp, trim r)
  else if c = 41 then some (.rp, trim r)
  else if c = 33 then some (.bang, trim r)
  else if c = 38 then (match r with | d :: r' => if d = 38 then some (.and, trim r') else none | [] => none)
  else if c = 124 then (match r with | d :: r' => if d = 124 then some (.or, trim r') else none | [] => none)
  else if idl (c :: r) = 0 then none
  else some (.word ((c :: r).take (idl (c :: r))), trim ((c :: r).drop (idl (c :: r)))) := rfl

theorem trim_le (l : List UInt8) : (trim l).length ≤ l.length := by
 unfold trim
 exact (List.dropWhile_sublist _).length_le

theorem idl_le (l : List UInt8) : idl l ≤ l.length := by
 cases l with
 | nil => simp [idl]
 | cons c r =>
  rw [idl_cons]
  split
  ·omega
  ·exact (List.takeWhile_sublist _).length_le

theorem lex1_low : Low lex1 List.length := by
 intro s t s' h
 cases s with
 | nil => simp [lex1] at h
 | cons c r =>
  rw [lex1_cons] at h
  have ht := trim_le r
  split at h
  ·simp only [Option.some.injEq, Prod.mk.injEq] at h; obtain ⟨-, rfl⟩ := h; simp only [List.length_cons]; omega
  split at h
  ·simp only [Option.some.injEq, Prod.mk.injEq] at h; obtain ⟨-, rfl⟩ := h; simp only [List.length_cons]; omega
  split at h
  ·simp only [Option.some.injEq, Prod.mk.injEq] at h; obtain ⟨-, rfl⟩ := h; simp only [List.length_cons]; omega
  split at h
  ·split at h
   ·rename_i d r'
    split at h
    ·simp only [Option.some.injEq, Prod.mk.injEq] at h; obtain ⟨-, rfl⟩ := h; have := trim_le r'; simp only [List.length_cons]; omega
    ·simp at h
   ·simp at h
  split at h
  ·split at h
   ·rename_i d r'
    split at h
    ·simp only [Option.some.injEq, Prod.mk.injEq] at h; obtain ⟨-, rfl⟩ := h; have := trim_le r'; simp only [List.length_cons]; omega
    ·simp at h
   ·simp at h
  split at h
  ·simp at h
  ·rename_i hi
   simp only [Option.some.injEq, Prod.mk.injEq] at h
   obtain ⟨-, rfl⟩ := h
   have h1 := trim_le ((c :: r).drop (idl (c :: r)))
   have h2 := idl_le (c :: r)
   simp only [List.length_drop, List.length_cons] at *
   omega

/-- All tokens, as far as there are any. -/
def lexK : Nat → List UInt8 → List Tk
 | 0, _ => []
 | k + 1, l => match lex1 l with
  | none => []
  | some (t, l') => t :: lexK k l'

/-- Is nothing left behind them? -/
def okK : Nat → List UInt8 → Bool
 | 0, l => l.isEmpty
 | k + 1, l => match lex1 l with
  | none => l.isEmpty
  | some (_, l') => okK k l'

def lexAll (l : List UInt8) : List Tk := lexK l.length l
def lexOk (l : List UInt8) : Bool := okK l.length l

theorem lexK_eq : ∀ (k : Nat) (l : List UInt8), l.length ≤ k → lexK k l = lexAll l := by
 intro k
 induction k using Nat.strongRecOn with
 | _ k ih =>
  intro l hl
  unfold lexAll
  cases k with
  | zero => rw [show l.length = 0 by omega]
  | succ k =>
   cases hL : l.length with
   | zero =>
    have : l = [] := List.eq_nil_of_length_eq_zero hL
    subst this
    rfl
   | succ n =>
    unfold lexK
    cases h1 : lex1 l with
    | none => rfl
    | some p =>
     obtain ⟨t, l'⟩ := p
     have := lex1_low _ _ _ h1
     simp only
     rw [ih k (by omega) l' (by omega), ih n (by omega) l' (by omega)]

theorem okK_eq : ∀ (k : Nat) (l : List UInt8), l.length ≤ k → okK k l = lexOk l := by
 intro k
 induction k using Nat.strongRecOn with
 | _ k ih =>
  intro l hl
  unfold lexOk
  cases k with
  | zero => rw [show l.length = 0 by omega]
  | succ k =>
   cases hL : l.length with
   | zero =>
    have : l = [] := List.eq_nil_of_length_eq_zero hL
    subst this
    rfl
   | succ n =>
    unfold okK
    cases h1 : lex1 l with
    | none => rfl
    | some p =>
     obtain ⟨t, l'⟩ := p
     have := lex1_low _ _ _ h1
     simp only
     rw [ih k (by omega) l' (by omega), ih n (by omega) l' (by omega)]

theorem lexAll_none {l : List UInt8} (h : lex1 l = none) : lexAll l = [] := by
 unfold lexAll
 cases hL : l.length with
 | zero => rfl
 | succ n => unfold lexK; rw [h]

theorem lexAll_some {l l' : List UInt8} {t : Tk} (h : lex1 l = some (t, l')) : lexAll l = t :: lexAll l' := by
 have hlt := lex1_low _ _ _ h
 change lexK l.length l = t :: lexAll l'
 cases hL : l.length with
 | zero => omega
 | succ n => unfold lexK; rw [h]; simp only; rw [lexK_eq n l' (by omega)]

theorem lexOk_none {l : List UInt8} (h : lex1 l = none) : lexOk l = l.isEmpty := by
 unfold lexOk
 cases hL : l.length with
 | zero => rfl
 | succ n => unfold okK; rw [h]

theorem lexOk_some {l l' : List UInt8} {t : Tk} (h : lex1 l = some (t, l')) : lexOk l = lexOk l' := by
 have hlt := lex1_low _ _ _ h
 change okK l.length l = lexOk l'
 cases hL : l.length with
 | zero => omega
 | succ n => unfold okK; rw [h]; simp only; rw [okK_eq n l' (by omega)]

/-- The reader of a list of tokens. -/
def nxl : List Tk → Option (Tk × List Tk)
 | [] => none
 | t :: ts => some (t, ts)

theorem nxl_low : Low nxl List.length := by
 intro s t s' h
 cases s with
 | nil => simp [nxl] at h
 | cons x xs => simp only [nxl, Option.some.injEq, Prod.mk.injEq] at h; obtain ⟨-, rfl⟩ := h; simp

theorem lex_sim : Sim lex1 nxl lexAll := by
 intro s
 cases h : lex1 s with
 | none => rw [lexAll_none h]; rfl
 | some p => obtain ⟨t, s'⟩ := p; rw [lexAll_some h]; rfl

/-- What is left behind the parse of a string was left of it. -/
theorem run_lexOk {nm : List UInt8 → Option Nat} : ∀ (k : Nat) (m : M) (a : Int) (st : PS (List UInt8)) r st', run lex1 nm k m a st = some (some (r, st')) → lexOk st'.rest = lexOk st.rest := by
 intro k
 induction k with
 | zero => intro m a st r st' h; simp [run] at h
 | succ k ih =>
  intro m a st r st' h
  cases m with
  | ex l =>
   unfold run at h
   split at h
   ·simp at h
   ·simp at h
   ·rename_i h1
    rw [ih _ _ _ _ _ h, ih _ _ _ _ _ h1]
  | lo l =>
   cases l with
   | true =>
    unfold run at h
    split at h
    ·rename_i s hs
     split at h
     ·simp at h
     ·simp at h
     ·rename_i h1
      rw [ih _ _ _ _ _ h]
      simp only [PS.put]
      rw [ih _ _ _ _ _ h1, lexOk_some hs]
    ·simp only [Option.some.injEq, Prod.mk.injEq] at h
     obtain ⟨-, rfl⟩ := h
     rfl
   | false =>
    unfold run at h
    split at h
    ·rename_i s hs
     split at h
     ·simp at h
     ·simp at h
     ·rename_i h1
      rw [ih _ _ _ _ _ h]
      simp only [PS.put]
      rw [ih _ _ _ _ _ h1, lexOk_some hs]
    ·simp only [Option.some.injEq, Prod.mk.injEq] at h
     obtain ⟨-, rfl⟩ := h
     rfl
  | fac =>
   unfold run at h
   split at h
   ·rename_i s hs
    split at h
    ·simp at h
    ·simp at h
    ·rename_i h1
     simp only [Option.some.injEq, Prod.mk.injEq, PS.put] at h
     obtain ⟨-, rfl⟩ := h
     rw [lexOk_some hs]
     exact ih _ _ _ _ _ h1
   ·rename_i s hs
    split at h
    ·simp at h
    ·simp at h
    ·rename_i h1
     split at h
     ·rename_i s1 hs1
      simp only [Option.some.injEq, Prod.mk.injEq] at h
      obtain ⟨-, rfl⟩ := h
      rw [lexOk_some hs]
      simp only
      rw [← lexOk_some hs1]
      exact ih _ _ _ _ _ h1
     ·simp at h
   ·rename_i w s hs
    simp only [Option.some.injEq] at h
    have hw := wordOf_sz (nm := nm) (w := w) (st := (⟨s, st.f, st.u⟩ : PS (List UInt8)))
    rw [h] at hw
    rw [hw.2, lexOk_some hs]
   ·simp at h

end Go.Proofs.YtgpnpfjbkaehlaaDoor.Fm
namespace Go.Proofs.YtgpnpfjbkaehlaaDoor.Fm
set_option linter.unusedVariables false
set_option linter.unusedSimpArgs false

/-- A formula as a tree; true: and, false: or. -/
inductive Tr where
 | con (b : Bool)
 | var (v : Nat)
 | not (t : Tr)
 | bin (c : Bool) (l r : Tr)

def Tr.size : Tr → Nat
 | .con _ => 1
 | .var _ => 1
 | .not t => t.size + 1
 | .bin _ l r => l.size + r.size + 1

theorem Tr.size_pos (t : Tr) : 0 < t.size := by cases t <;> simp [Tr.size]

/-- The nodes in postorder, from an index on. -/
def Tr.nodes : Tr → Nat → List FN
 | .con b, _ => [⟨if b then 1 else 0, 0, 0, 0⟩]
 | .var v, _ => [⟨2, (v : Int), 0, 0⟩]
 | .not t, o => t.nodes o ++ [⟨3, 0, ((o + t.size - 1 : Nat) : Int), 0⟩]
 | .bin c l r, o => l.nodes o ++ r.nodes (o + l.size) ++ [⟨opOf c, 0, ((o + l.size - 1 : Nat) : Int), ((o + l.size + r.size - 1 : Nat) : Int)⟩]

theorem Tr.nodes_length (t : Tr) : ∀ o, (t.nodes o).length = t.size := by
 induction t with
 | con b => intro o; rfl
 | var v => intro o; rfl
 | not t ih => intro o; simp [Tr.nodes, Tr.size, ih]
 | bin c l r ihl ihr => intro o; simp [Tr.nodes, Tr.size, ihl, ihr]; omega

/-- How tightly && and || bind. -/
def lv : Bool → Nat | true => 1 | false => 0

/-- The tokens; in parentheses if it binds less tightly than the level. -/
def tks (nz : Nat → List UInt8) : Nat → Tr → List Tk
 | _, .con b => [.word (if b then trueW else falseW)]
 | _, .var v => [.word (nz v)]
 | _, .not t => .bang :: tks nz 2 t
 | n, .bin c l r => if lv c < n then .lp :: (tks nz (lv c) l ++ tkOf c :: tks nz (lv c + 1) r) ++ [.rp] else tks nz (lv c) l ++ tkOf c :: tks nz (lv c + 1) r

/-- The printed form. -/
def wr (nz : Nat → List UInt8) : Nat → Tr → List UInt8
 | _, .con b => if b then trueW else falseW
 | _, .var v => nz v
 | _, .not t => 33 :: wr nz 2 t
 | n, .bin c l r =>
  if lv c < n then 40 :: (wr nz (lv c) l ++ (if c then [32, 38, 38, 32] else [32, 124, 124, 32]) ++ wr nz (lv c + 1) r) ++ [41]
  else wr nz (lv c) l ++ (if c then [32, 38, 38, 32] else [32, 124, 124, 32]) ++ wr nz (lv c + 1) r

/-- The names of a tree are known words. -/
def Known (nz : Nat → List UInt8) (nm : List UInt8 → Option Nat) : Tr → Prop
 | .con _ => True
 | .var v => nm (nz v) = some v ∧ nz v ≠ trueW ∧ nz v ≠ falseW
 | .not t => Known nz nm t
 | .bin _ l r => Known nz nm l ∧ Known nz nm r

section
variable {nz : Nat → List UInt8} {nm : List UInt8 → Option Nat}

def noAnd : List Tk → Prop | .and :: _ => False | _ => True
def noOp : List Tk → Prop | .and :: _ => False | .or :: _ => False | _ => True

/-- The root's index. -/
def rt (o : Nat) (t : Tr) : Int := ((o + t.size - 1 : Nat) : Int)

theorem lo_stop {ts : List Tk} (h : noAnd ts) (a : Int) (f : List FN) (u : Bool) : run nxl nm 1 (.lo true) a ⟨ts, f, u⟩ = some (some (a, ⟨ts, f, u⟩)) := by
 cases ts with
 | nil => rfl
 | cons t ts => cases t <;> first | rfl | exact h.elim

theorem lo_stop' {ts : List Tk} (h : noOp ts) (a : Int) (f : List FN) (u : Bool) : run nxl nm 1 (.lo false) a ⟨ts, f, u⟩ = some (some (a, ⟨ts, f, u⟩)) := by
 cases ts with
 | nil => rfl
 | cons t ts => cases t <;> first | rfl | exact h.elim

structure Parses (nz : Nat → List UInt8) (nm : List UInt8 → Option Nat) (t : Tr) : Prop where
 F : ∀ (f : List FN) (u : Bool) (ts : List Tk), ∃ k, run nxl nm k .fac 0 ⟨tks nz 2 t ++ ts, f, u⟩ = some (some (rt f.length t, ⟨ts, f ++ t.nodes f.length, u⟩))
 C : ∀ (f : List FN) (u : Bool) (ts : List Tk) r k0, run nxl nm k0 (.lo true) (rt f.length t) ⟨ts, f ++ t.nodes f.length, u⟩ = some r → ∃ k, run nxl nm k (.ex true) 0 ⟨tks nz 1 t ++ ts, f, u⟩ = some r
 D : ∀ (f : List FN) (u : Bool) (ts : List Tk) r k0, noAnd ts → run nxl nm k0 (.lo false) (rt f.length t) ⟨ts, f ++ t.nodes f.length, u⟩ = some r → ∃ k, run nxl nm k (.ex false) 0 ⟨tks nz 0 t ++ ts, f, u⟩ = some r

theorem ex_of {l : Bool} {st st1 : PS (List Tk)} {a : Int} {r} {k1 k0 : Nat} (h1 : run nxl nm k1 (subOf l) 0 st = some (some (a, st1))) (h0 : run nxl nm k0 (.lo l) a st1 = some r) :
  ∃ k, run nxl nm k (.ex l) 0 st = some r := by
 refine ⟨max k1 k0 + 1, ?_⟩
 unfold run
 rw [run_le nxl nm (Nat.le_max_left _ _) h1]
 exact run_le nxl nm (Nat.le_max_right _ _) h0

theorem C_of_F {t : Tr} (hF : ∀ (f : List FN) (u : Bool) (ts : List Tk), ∃ k, run nxl nm k .fac 0 ⟨tks nz 2 t ++ ts, f, u⟩ = some (some (rt f.length t, ⟨ts, f ++ t.nodes f.length, u⟩))) (he : tks nz 1 t = tks nz 2 t)
  (f : List FN) (u : Bool) (ts : List Tk) (r) (k0 : Nat) (h : run nxl nm k0 (.lo true) (rt f.length t) ⟨ts, f ++ t.nodes f.length, u⟩ = some r) : ∃ k, run nxl nm k (.ex true) 0 ⟨tks nz 1 t ++ ts, f, u⟩ = some r := by
 obtain ⟨k1, h1⟩ := hF f u ts
 rw [he]
 exact ex_of (l := true) h1 h

theorem D_of_C {t : Tr} (hC : ∀ (f : List FN) (u : Bool) (ts : List Tk) r k0, run nxl nm k0 (.lo true) (rt f.length t) ⟨ts, f ++ t.nodes f.length, u⟩ = some r → ∃ k, run nxl nm k (.ex true) 0 ⟨tks nz 1 t ++ ts, f, u⟩ = some r) (he : tks nz 0 t = tks nz 1 t)
  (f : List FN) (u : Bool) (ts : List Tk) (r) (k0 : Nat) (hn : noAnd ts) (h : run nxl nm k0 (.lo false) (rt f.length t) ⟨ts, f ++ t.nodes f.length, u⟩ = some r) : ∃ k, run nxl nm k (.ex false) 0 ⟨tks nz 0 t ++ ts, f, u⟩ = some r := by
 obtain ⟨k1, h1⟩ := hC f u ts _ 1 (lo_stop hn _ _ _)
 rw [he]
 exact ex_of (l := false) h1 h

theorem F_of_D {t : Tr} (hD : ∀ (f : List FN) (u : Bool) (ts : List Tk) r k0, noAnd ts → run nxl nm k0 (.lo false) (rt f.length t) ⟨ts, f ++ t.nodes f.length, u⟩ = some r → ∃ k, run nxl nm k (.ex false) 0 ⟨tks nz 0 t ++ ts, f, u⟩ = some r)
  (f : List FN) (u : Bool) (ts : List Tk) : ∃ k, run nxl nm k .fac 0 ⟨.lp :: (tks nz 0 t ++ .rp :: ts), f, u⟩ = some (some (rt f.length t, ⟨ts, f ++ t.nodes f.length, u⟩)) := by
 obtain ⟨k1, h1⟩ := hD f u (.rp :: ts) _ 1 trivial (lo_stop' (ts := .rp :: ts) trivial _ _ _)
 refine ⟨k1 + 1, ?_⟩
 simp only [run, nxl, h1]

theorem rt_bin (o : Nat) (c : Bool) (l r : Tr) : rt o (.bin c l r) = ((o + l.size + r.size : Nat) : Int) := by
 simp only [rt, Tr.size]
 congr 1
 omega

theorem parses : ∀ t : Tr, Known nz nm t → Parses nz nm t := by
 intro t
 induction t with
 | con b =>
  intro _
  have hF : ∀ (f : List FN) (u : Bool) (ts : List Tk), ∃ k, run nxl nm k .fac 0 ⟨tks nz 2 (.con b) ++ ts, f, u⟩ = some (some (rt f.length (.con b), ⟨ts, f ++ (Tr.con b).nodes f.length, u⟩)) := by
   intro f u ts
   refine ⟨1, ?_⟩
   cases b <;> rfl
  exact ⟨hF, C_of_F hF rfl, D_of_C (C_of_F hF rfl) rfl⟩
 | var v =>
  rintro ⟨h1, h2, h3⟩
  have hF : ∀ (f : List FN) (u : Bool) (ts : List Tk), ∃ k, run nxl nm k .fac 0 ⟨tks nz 2 (.var v) ++ ts, f, u⟩ = some (some (rt f.length (.var v), ⟨ts, f ++ (Tr.var v).nodes f.length, u⟩)) := by
   intro f u ts
   refine ⟨1, ?_⟩
   simp only [tks, List.cons_append, List.nil_append, run, nxl, wordOf, if_neg h2, if_neg h3, h1, Option.isNone_some, Bool.or_false, Option.getD_some, PS.put, rt, Tr.size, Tr.nodes]
   simp
  exact ⟨hF, C_of_F hF rfl, D_of_C (C_of_F hF rfl) rfl⟩
 | not t ih =>
  intro hk
  have hi := ih hk
  have hF : ∀ (f : List FN) (u : Bool) (ts : List Tk), ∃ k, run nxl nm k .fac 0 ⟨tks nz 2 (.not t) ++ ts, f, u⟩ = some (some (rt f.length (.not t), ⟨ts, f ++ (Tr.not t).nodes f.length, u⟩)) := by
   intro f u ts
   obtain ⟨k, h⟩ := hi.F f u ts
   refine ⟨k + 1, ?_⟩
   simp only [tks, List.cons_append, run, nxl, h, PS.put, Tr.nodes, List.length_append, Tr.nodes_length, rt, Tr.size, List.append_assoc]
   simp
  exact ⟨hF, C_of_F hF rfl, D_of_C (C_of_F hF rfl) rfl⟩
 | bin c l r ihl ihr =>
  rintro ⟨hkl, hkr⟩
  have hl := ihl hkl
  have hr := ihr hkr
  cases c with
  | true =>
   have hC : ∀ (f : List FN) (u : Bool) (ts : List Tk) x k0, run nxl nm k0 (.lo true) (rt f.length (.bin true l r)) ⟨ts, f ++ (Tr.bin true l r).nodes f.length, u⟩ = some x → ∃ k, run nxl nm k (.ex true) 0 ⟨tks nz 1 (.bin true l r) ++ ts, f, u⟩ = some x := by
    intro f u ts x k0 h
    obtain ⟨k1, h1⟩ := hr.F (f ++ l.nodes f.length) u ts
    have e : tks nz 1 (.bin true l r) ++ ts = tks nz 1 l ++ (.and :: (tks nz 2 r ++ ts)) := by simp [tks, lv, tkOf]
    rw [e]
    refine hl.C f u _ x (max k1 k0 + 1) ?_
    simp only [run, nxl, run_le nxl nm (Nat.le_max_left k1 k0) h1]
    refine run_le nxl nm (Nat.le_max_right k1 k0) ?_
    rw [← h, rt_bin]
    simp only [PS.put, Tr.nodes, List.length_append, Tr.nodes_length, rt, opOf, List.append_assoc, Nat.add_assoc]
   have hD := D_of_C hC (by simp [tks, lv])
   have hF : ∀ (f : List FN) (u : Bool) (ts : List Tk), ∃ k, run nxl nm k .fac 0 ⟨tks nz 2 (.bin true l r) ++ ts, f, u⟩ = some (some (rt f.length (.bin true l r), ⟨ts, f ++ (Tr.bin true l r).nodes f.length, u⟩)) := by
    intro f u ts
    have e : tks nz 2 (.bin true l r) ++ ts = .lp :: (tks nz 0 (.bin true l r) ++ .rp :: ts) := by simp [tks, lv, tkOf]
    rw [e]
    exact F_of_D hD f u ts
   exact ⟨hF, hC, hD⟩
  | false =>
   have hD : ∀ (f : List FN) (u : Bool) (ts : List Tk) x k0, noAnd ts → run nxl nm k0 (.lo false) (rt f.length (.bin false l r)) ⟨ts, f ++ (Tr.bin false l r).nodes f.length, u⟩ = some x → ∃ k, run nxl nm k (.ex false) 0 ⟨tks nz 0 (.bin false l r) ++ ts, f, u⟩ = some x := by
    intro f u ts x k0 hn h
    obtain ⟨k1, h1⟩ := hr.C (f ++ l.nodes f.length) u ts _ 1 (lo_stop hn _ _ _)
    have e : tks nz 0 (.bin false l r) ++ ts = tks nz 0 l ++ (.or :: (tks nz 1 r ++ ts)) := by simp [tks, lv, tkOf]
    rw [e]
    refine hl.D f u _ x (max k1 k0 + 1) trivial ?_
    simp only [run, nxl, run_le nxl nm (Nat.le_max_left k1 k0) h1]
    refine run_le nxl nm (Nat.le_max_right k1 k0) ?_
    rw [← h, rt_bin]
    simp only [PS.put, Tr.nodes, List.length_append, Tr.nodes_length, rt, opOf, List.append_assoc, Nat.add_assoc]
   have e2 : ∀ n, 0 < n → tks nz n (.bin false l r) = .lp :: (tks nz 0 (.bin false l r) ++ [.rp]) := by
    intro n hn
    simp [tks, lv, tkOf, hn]
   have hF : ∀ (f : List FN) (u : Bool) (ts : List Tk), ∃ k, run nxl nm k .fac 0 ⟨tks nz 2 (.bin false l r) ++ ts, f, u⟩ = some (some (rt f.length (.bin false l r), ⟨ts, f ++ (Tr.bin false l r).nodes f.length, u⟩)) := by
    intro f u ts
    have e : tks nz 2 (.bin false l r) ++ ts = .lp :: (tks nz 0 (.bin false l r) ++ .rp :: ts) := by rw [e2 2 (by omega)]; simp
    rw [e]
    exact F_of_D hD f u ts
   exact ⟨hF, C_of_F hF (by rw [e2 1 (by omega), e2 2 (by omega)]), hD⟩

/-! ### how many parentheses a tree needs -/
def par : Nat → Tr → Nat
 | _, .con _ => 0
 | _, .var _ => 0
 | _, .not t => par 2 t
 | n, .bin c l r => (if lv c < n then 1 else 0) + par (lv c) l + par (lv c + 1) r

def cnt : List Tk → Nat
 | [] => 0
 | .lp :: ts => cnt ts + 1
 | _ :: ts => cnt ts

theorem cnt_append (a b : List Tk) : cnt (a ++ b) = cnt a + cnt b := by
 induction a with
 | nil => simp [cnt]
 | cons t a ih => cases t <;> simp [cnt, ih] <;> omega

theorem cnt_tks (t : Tr) : ∀ n, cnt (tks nz n t) = par n t := by
 induction t with
 | con b => intro n; rfl
 | var v => intro n; rfl
 | not t ih => intro n; simp [tks, cnt, par, ih]
 | bin c l r ihl ihr =>
  intro n
  simp only [tks, par]
  split
  ·simp only [List.cons_append, cnt, cnt_append, ihl]
   cases c <;> simp [tkOf, cnt, cnt_append, ihr] <;> omega
  ·simp only [cnt_append, ihl]
   cases c <;> simp [tkOf, cnt, ihr]

theorem par_mono (t : Tr) {m n : Nat} (h : m ≤ n) : par m t ≤ par n t ∧ par n t ≤ par m t + 1 := by
 cases t with
 | con b => simp [par]
 | var v => simp [par]
 | not t => simp [par]
 | bin c l r =>
  simp only [par]
  split <;> split <;> omega

/-- What a parse gives is a tree in postorder, and there were parentheses enough for it. -/
theorem run_tree : ∀ (k : Nat) (m : M) (a : Int) (st : PS (List Tk)) r st', run nxl nm k m a st = some (some (r, st')) → match m with
  | .fac => ∃ t : Tr, st'.f = st.f ++ t.nodes st.f.length ∧ r = rt st.f.length t ∧ par 2 t + cnt st'.rest ≤ cnt st.rest
  | .ex c => ∃ t : Tr, st'.f = st.f ++ t.nodes st.f.length ∧ r = rt st.f.length t ∧ par (lv c) t + cnt st'.rest ≤ cnt st.rest
  | .lo c => ∀ (f0 : List FN) (x : Tr), st.f = f0 ++ x.nodes f0.length → a = rt f0.length x → ∃ t : Tr, st'.f = f0 ++ t.nodes f0.length ∧ r = rt f0.length t ∧ par (lv c) t + cnt st'.rest ≤ par (lv c) x + cnt st.rest := by
 intro k
 induction k with
 | zero => intro m a st r st' h; simp [run] at h
 | succ k ih =>
  intro m a st r st' h
  cases m with
  | ex l =>
   simp only
   unfold run at h
   split at h
   ·simp at h
   ·simp at h
   ·rename_i a1 st1 h1
    have i2 := ih _ _ _ _ _ h
    have i1 := ih _ _ _ _ _ h1
    cases l with
    | true =>
     obtain ⟨t, e1, e2, e3⟩ := i1
     obtain ⟨t', g1, g2, g3⟩ := i2 _ t e1 e2
     exact ⟨t', g1, g2, by have := par_mono t (m := lv true) (n := 2) (by decide); omega⟩
    | false =>
     obtain ⟨t, e1, e2, e3⟩ := i1
     obtain ⟨t', g1, g2, g3⟩ := i2 _ t e1 e2
     exact ⟨t', g1, g2, by have := par_mono t (m := lv false) (n := lv true) (by decide); omega⟩
  | lo l =>
   simp only
   intro f0 x hf ha
   cases l with
   | true =>
    unfold run at h
    split at h
    ·rename_i s hs
     have hc : st.rest = .and :: s := by
      cases hr : st.rest with
      | nil => rw [hr] at hs; simp [nxl] at hs
      | cons t ts => rw [hr] at hs; simp only [nxl, Option.some.injEq, Prod.mk.injEq] at hs; rw [hs.1, hs.2]
     split at h
     ·simp at h
     ·simp at h
     ·rename_i b st1 h1
      obtain ⟨t, e1, e2, e3⟩ := ih _ _ _ _ _ h1
      simp only at e1 e2 e3
      have i2 := ih _ _ _ _ _ h
      simp only [PS.put] at i2
      obtain ⟨t', g1, g2, g3⟩ := i2 f0 (.bin true x t) (by rw [e1, hf, ha, e2, hf]; simp [Tr.nodes, Tr.nodes_length, rt, opOf]) (by rw [rt_bin, e1, hf]; simp [Tr.nodes_length]; omega)
      refine ⟨t', g1, g2, ?_⟩
      rw [hc]
      simp only [par, lv, Nat.lt_irrefl, if_false, cnt, Nat.zero_add, Nat.reduceAdd] at *
      omega
    ·simp only [Option.some.injEq, Prod.mk.injEq] at h
     obtain ⟨rfl, rfl⟩ := h
     exact ⟨x, hf, ha, Nat.le_refl _⟩
   | false =>
    unfold run at h
    split at h
    ·rename_i s hs
     have hc : st.rest = .or :: s := by
      cases hr : st.rest with
      | nil => rw [hr] at hs; simp [nxl] at hs
      | cons t ts => rw [hr] at hs; simp only [nxl, Option.some.injEq, Prod.mk.injEq] at hs; rw [hs.1, hs.2]
     split at h
     ·simp at h
     ·simp at h
     ·rename_i b st1 h1
      obtain ⟨t, e1, e2, e3⟩ := ih _ _ _ _ _ h1
      simp only at e1 e2 e3
      have i2 := ih _ _ _ _ _ h
      simp only [PS.put] at i2
      obtain ⟨t', g1, g2, g3⟩ := i2 f0 (.bin false x t) (by rw [e1, hf, ha, e2, hf]; simp [Tr.nodes, Tr.nodes_length, rt, opOf]) (by rw [rt_bin, e1, hf]; simp [Tr.nodes_length]; omega)
      refine ⟨t', g1, g2, ?_⟩
      rw [hc]
      simp only [par, lv, Nat.lt_irrefl, if_false, cnt, Nat.zero_add, Nat.reduceAdd] at *
      omega
    ·simp only [Option.some.injEq, Prod.mk.injEq] at h
     obtain ⟨rfl, rfl⟩ := h
     exact ⟨x, hf, ha, Nat.le_refl _⟩
  | fac =>
   simp only
   unfold run at h
   cases hr : st.rest with
   | nil => rw [hr] at h; simp [nxl] at h
   | cons t ts =>
    rw [hr] at h
    cases t with
    | rp => simp [nxl] at h
    | and => simp [nxl] at h
    | or => simp [nxl] at h
    | bang =>
     simp only [nxl] at h
     split at h
     ·simp at h
     ·simp at h
     ·rename_i a1 st1 h1
      obtain ⟨t, e1, e2, e3⟩ := ih _ _ _ _ _ h1
      simp only [Option.some.injEq, Prod.mk.injEq, PS.put] at h
      obtain ⟨rfl, rfl⟩ := h
      simp only at e1 e2 e3
      refine ⟨.not t, ?_, ?_, ?_⟩
      ·rw [e1, e2]; simp [Tr.nodes, rt]
      ·rw [e1]; simp [rt, Tr.size, Tr.nodes_length]
      ·simp only [par, cnt]; omega
    | lp =>
     simp only [nxl] at h
     split at h
     ·simp at h
     ·simp at h
     ·rename_i a1 st1 h1
      obtain ⟨t, e1, e2, e3⟩ := ih _ _ _ _ _ h1
      simp only at e1 e2 e3
      cases hr1 : st1.rest with
      | nil => rw [hr1] at h; simp [nxl] at h
      | cons t1 ts1 =>
       rw [hr1] at h
       cases t1 with
       | rp =>
        simp only [nxl, Option.some.injEq, Prod.mk.injEq] at h
        obtain ⟨rfl, rfl⟩ := h
        refine ⟨t, e1, e2, ?_⟩
        rw [hr1] at e3
        have := par_mono t (m := lv false) (n := 2) (by decide)
        simp only [cnt] at *
        omega
       | _ => simp [nxl] at h
    | word w =>
     simp only [nxl, Option.some.injEq] at h
     unfold wordOf at h
     split at h
     ·simp only [PS.put, Prod.mk.injEq] at h
      obtain ⟨rfl, rfl⟩ := h
      exact ⟨.con true, rfl, by simp [rt, Tr.size], by simp [par, cnt]⟩
     ·split at h
      ·simp only [PS.put, Prod.mk.injEq] at h
       obtain ⟨rfl, rfl⟩ := h
       exact ⟨.con false, rfl, by simp [rt, Tr.size], by simp [par, cnt]⟩
      ·simp only [PS.put, Prod.mk.injEq] at h
       obtain ⟨rfl, rfl⟩ := h
       exact ⟨.var ((nm w).getD 0), rfl, by simp [rt, Tr.size], by simp [par, cnt]⟩
end
end Go.Proofs.YtgpnpfjbkaehlaaDoor.Fm
namespace Go.Proofs.YtgpnpfjbkaehlaaDoor.Fm
set_option linter.unusedVariables false
set_option linter.unusedSimpArgs false

def blank (b : List UInt8) : Prop := ∀ c ∈ b, ws c = true

/-- A word that is one token. -/
def wordy (w : List UInt8) : Prop := (∀ c ∈ w, idc c = true) ∧ ∃ c r, w = c :: r ∧ dig c = false

def free : List UInt8 → Prop | [] => True | c :: _ => idc c = false

/-- The strings of a list of tokens. -/
inductive Ren : List Tk → List UInt8 → Prop where
 | done {b : List UInt8} (h : blank b) : Ren [] b
 | lp {b : List UInt8} {ts l} (h : blank b) (r : Ren ts l) : Ren (.lp :: ts) (b ++ 40 :: l)
 | rp {b : List UInt8} {ts l} (h : blank b) (r : Ren ts l) : Ren (.rp :: ts) (b ++ 41 :: l)
 | bang {b : List UInt8} {ts l} (h : blank b) (r : Ren ts l) : Ren (.bang :: ts) (b ++ 33 :: l)
 | and {b : List UInt8} {ts l} (h : blank b) (r : Ren ts l) : Ren (.and :: ts) (b ++ 38 :: 38 :: l)
 | or {b : List UInt8} {ts l} (h : blank b) (r : Ren ts l) : Ren (.or :: ts) (b ++ 124 :: 124 :: l)
 | word {b w : List UInt8} {ts l} (h : blank b) (hw : wordy w) (hf : free l) (r : Ren ts l) : Ren (.word w :: ts) (b ++ (w ++ l))

theorem trim_blank {b : List UInt8} (h : blank b) (l : List UInt8) : trim (b ++ l) = trim l := by
 induction b with
 | nil => rfl
 | cons c b ih =>
  have hc : ws c = true := h c (by simp)
  unfold trim
  rw [List.cons_append, List.dropWhile_cons, if_pos hc]
  exact ih (fun x hx => h x (by simp [hx]))

theorem trim_cons {c : UInt8} (h : ws c = false) (l : List UInt8) : trim (c :: l) = c :: l := by
 unfold trim
 rw [List.dropWhile_cons, if_neg (by simp [h])]

theorem trim_all {b : List UInt8} (h : blank b) : trim b = [] := by
 have := trim_blank h []
 simpa [trim] using this

theorem trim_trim (l : List UInt8) : trim (trim l) = trim l := by
 induction l with
 | nil => rfl
 | cons c l ih =>
  unfold trim at ih ⊢
  rw [List.dropWhile_cons]
  split
  ·exact ih
  ·rename_i h
   rw [List.dropWhile_cons, if_neg h]

theorem takeWhile_word {w l : List UInt8} (h : ∀ c ∈ w, idc c = true) (hf : free l) : (w ++ l).takeWhile idc = w := by
 induction w with
 | nil =>
  cases l with
  | nil => rfl
  | cons c l => simp [free] at hf; simp [List.takeWhile_cons, hf]
 | cons c w ih =>
  rw [List.cons_append, List.takeWhile_cons, if_pos (h c (by simp)), ih (fun x hx => h x (by simp [hx]))]

theorem idc_not {c : UInt8} (h : idc c = true) : ws c = false ∧ c ≠ 40 ∧ c ≠ 41 ∧ c ≠ 33 ∧ c ≠ 38 ∧ c ≠ 124 := by
 refine ⟨?_, ?_, ?_, ?_, ?_, ?_⟩
 ·cases hw : ws c with
  | false => rfl
  | true =>
   simp only [ws, Bool.or_eq_true, beq_iff_eq] at hw
   rcases hw with rfl | rfl <;> simp [idc, ltr, dig] at h
 all_goals
  rintro rfl
  simp [idc, ltr, dig] at h

theorem lex1_word {w l : List UInt8} (hw : wordy w) (hf : free l) : lex1 (w ++ l) = some (.word w, trim l) ∧ trim (w ++ l) = w ++ l := by
 obtain ⟨h1, c, r, rfl, hd⟩ := hw
 obtain ⟨hws, h40, h41, h33, h38, h124⟩ := idc_not (h1 c (by simp))
 have hi : idl (c :: r ++ l) = (c :: r).length := by
  rw [List.cons_append, idl_cons, hd, if_neg (by simp), ← List.cons_append, takeWhile_word h1 hf]
 constructor
 ·rw [List.cons_append, lex1_cons, if_neg h40, if_neg h41, if_neg h33, if_neg h38, if_neg h124, ← List.cons_append, hi]
  rw [if_neg (by simp), List.take_left, List.drop_left]
 ·exact trim_cons hws _

theorem ren_lex {ts : List Tk} {l : List UInt8} (h : Ren ts l) : lexAll (trim l) = ts ∧ lexOk (trim l) = true := by
 induction h with
 | done h => rw [trim_all h]; exact ⟨rfl, rfl⟩
 | lp h r ih =>
  rename_i l
  rw [trim_blank h, trim_cons (by decide)]
  have e : lex1 (40 :: l) = some (.lp, trim l) := rfl
  rw [lexAll_some e, lexOk_some e]
  exact ⟨by rw [ih.1], ih.2⟩
 | rp h r ih =>
  rename_i l
  rw [trim_blank h, trim_cons (by decide)]
  have e : lex1 (41 :: l) = some (.rp, trim l) := rfl
  rw [lexAll_some e, lexOk_some e]
  exact ⟨by rw [ih.1], ih.2⟩
 | bang h r ih =>
  rename_i l
  rw [trim_blank h, trim_cons (by decide)]
  have e : lex1 (33 :: l) = some (.bang, trim l) := rfl
  rw [lexAll_some e, lexOk_some e]
  exact ⟨by rw [ih.1], ih.2⟩
 | and h r ih =>
  rename_i l
  rw [trim_blank h, trim_cons (by decide)]
  have e : lex1 (38 :: 38 :: l) = some (.and, trim l) := rfl
  rw [lexAll_some e, lexOk_some e]
  exact ⟨by rw [ih.1], ih.2⟩
 | or h r ih =>
  rename_i l
  rw [trim_blank h, trim_cons (by decide)]
  have e : lex1 (124 :: 124 :: l) = some (.or, trim l) := rfl
  rw [lexAll_some e, lexOk_some e]
  exact ⟨by rw [ih.1], ih.2⟩
 | word h hw hf r ih =>
  obtain ⟨e, e2⟩ := lex1_word hw hf
  rw [trim_blank h, e2, lexAll_some e, lexOk_some e]
  exact ⟨by rw [ih.1], ih.2⟩

/-- One step: the first token of a string of tokens. -/
theorem Ren.blank_left {ts : List Tk} {l b : List UInt8} (hb : blank b) (h : Ren ts l) : Ren ts (b ++ l) := by
 have app : ∀ {b' : List UInt8}, blank b' → blank (b ++ b') := fun h' c hc => by
  rcases List.mem_append.1 hc with hc | hc
  ·exact hb c hc
  ·exact h' c hc
 cases h with
 | done h => exact .done (app h)
 | lp h r => rw [← List.append_assoc]; exact .lp (app h) r
 | rp h r => rw [← List.append_assoc]; exact .rp (app h) r
 | bang h r => rw [← List.append_assoc]; exact .bang (app h) r
 | and h r => rw [← List.append_assoc]; exact .and (app h) r
 | or h r => rw [← List.append_assoc]; exact .or (app h) r
 | word h hw hf r => rw [← List.append_assoc]; exact .word (app h) hw hf r

/-- All words of a tree are one token each. -/
def Wordy (nz : Nat → List UInt8) : Tr → Prop
 | .con _ => True
 | .var v => wordy (nz v)
 | .not t => Wordy nz t
 | .bin _ l r => Wordy nz l ∧ Wordy nz r

theorem wordy_true : wordy trueW := ⟨by decide, _, _, rfl, by decide⟩
theorem wordy_false : wordy falseW := ⟨by decide, _, _, rfl, by decide⟩
theorem blank_nil : blank [] := fun _ h => by cases h
theorem blank_one : blank [32] := fun c h => by rw [List.mem_singleton.1 h]; decide
theorem free_cons {c : UInt8} {l : List UInt8} (h : idc c = false) : free (c :: l) := h

theorem Ren.word0 {w : List UInt8} {ts l} (hw : wordy w) (hf : free l) (r : Ren ts l) : Ren (.word w :: ts) (w ++ l) := .word (b := []) blank_nil hw hf r

/-- What stands in front of a printed tree goes with it. -/
theorem ren_wr {nz : Nat → List UInt8} (t : Tr) (hw : Wordy nz t) : ∀ (n : Nat) (ts : List Tk) (l : List UInt8), Ren ts l → free l → Ren (tks nz n t ++ ts) (wr nz n t ++ l) := by
 induction t with
 | con b =>
  intro n ts l h hf
  cases b
  ·exact Ren.word0 wordy_false hf h
  ·exact Ren.word0 wordy_true hf h
 | var v => intro n ts l h hf; exact Ren.word0 hw hf h
 | not t ih => intro n ts l h hf; exact Ren.bang (b := []) blank_nil (ih hw 2 ts l h hf)
 | bin c l r ihl ihr =>
  intro n ts l0 h hf
  have core : ∀ (ts : List Tk) (l0 : List UInt8), Ren ts l0 → free l0 → Ren ((tks nz (lv c) l ++ tkOf c :: tks nz (lv c + 1) r) ++ ts) ((wr nz (lv c) l ++ (if c then [32, 38, 38, 32] else [32, 124, 124, 32]) ++ wr nz (lv c + 1) r) ++ l0) := by
   intro ts l0 h hf
   have h1 := ihr hw.2 (lv c + 1) ts l0 h hf
   have h2 := h1.blank_left blank_one
   cases c with
   | true =>
    have h3 := Ren.and (b := [32]) blank_one h2
    have h4 := ihl hw.1 (lv true) _ _ h3 (free_cons (by decide))
    simpa [tkOf] using h4
   | false =>
    have h3 := Ren.or (b := [32]) blank_one h2
    have h4 := ihl hw.1 (lv false) _ _ h3 (free_cons (by decide))
    simpa [tkOf] using h4
  simp only [tks, wr]
  split
  ·have h1 := Ren.rp (b := []) blank_nil h
   have h2 := core _ _ h1 (free_cons (by decide))
   have h3 := Ren.lp (b := []) blank_nil h2
   simpa using h3
  ·exact core ts l0 h hf

/-! ### other blanks -/
/-- The bytes at which blanks are put. -/
def spot (c : UInt8) : Bool := c == 32 || c == 40 || c == 41 || c == 33

/-- The string with blanks: one of bl a spot; the next spots' blanks by the rest. -/
def sp (bl : Nat → List UInt8) : Nat → List UInt8 → List UInt8
 | _, [] => []
 | k, c :: r => if c = 32 then bl k ++ sp bl (k + 1) r else if spot c then bl k ++ c :: bl k ++ sp bl (k + 1) r else c :: sp bl k r

def spots : List UInt8 → Nat
 | [] => 0
 | c :: r => if spot c then spots r + 1 else spots r

theorem sp_append (bl : Nat → List UInt8) (a b : List UInt8) : ∀ k, sp bl k (a ++ b) = sp bl k a ++ sp bl (k + spots a) b := by
 induction a with
 | nil => intro k; simp [sp, spots]
 | cons c a ih =>
  intro k
  simp only [List.cons_append, sp, spots]
  by_cases h32 : c = 32
  ·subst h32
   rw [if_pos rfl, if_pos rfl, if_pos (by decide), ih]
   simp [Nat.add_assoc, Nat.add_comm 1]
  ·rw [if_neg h32, if_neg h32]
   by_cases hs : spot c = true
   ·rw [if_pos hs, if_pos hs, if_pos hs, ih]
    simp [Nat.add_assoc, Nat.add_comm 1]
   ·rw [if_neg hs, if_neg hs, if_neg hs, ih]
    simp

theorem idc_spot {c : UInt8} (h : idc c = true) : spot c = false ∧ c ≠ 32 := by
 have h1 := idc_not h
 refine ⟨?_, ?_⟩
 ·cases hs : spot c with
  | false => rfl
  | true =>
   simp only [spot, Bool.or_eq_true, beq_iff_eq] at hs
   rcases hs with ((rfl | rfl) | rfl) | rfl <;> simp [idc, ltr, dig] at h
 ·rintro rfl
  simp [idc, ltr, dig] at h

theorem sp_word {bl : Nat → List UInt8} {w : List UInt8} (h : ∀ c ∈ w, idc c = true) : ∀ k, sp bl k w = w ∧ spots w = 0 := by
 induction w with
 | nil => intro k; exact ⟨rfl, rfl⟩
 | cons c w ih =>
  intro k
  obtain ⟨h1, h2⟩ := idc_spot (h c (by simp))
  have hi := ih (fun x hx => h x (by simp [hx])) k
  constructor
  ·rw [sp, if_neg h2, if_neg (by simp [h1]), hi.1]
  ·rw [spots, if_neg (by simp [h1]), hi.2]

theorem free_blank {b l : List UInt8} (hb : blank b) (hf : free l) : free (b ++ l) := by
 cases b with
 | nil => exact hf
 | cons c b =>
  have h : ws c = true := hb c (by simp)
  show idc c = false
  cases hi : idc c with
  | false => rfl
  | true => rw [(idc_not hi).1] at h; cases h

theorem ren_sp {nz : Nat → List UInt8} {bl : Nat → List UInt8} (hbl : ∀ k, blank (bl k)) (t : Tr) (hw : Wordy nz t) : ∀ (n k : Nat) (ts : List Tk) (l : List UInt8), Ren ts l → free l → Ren (tks nz n t ++ ts) (sp bl k (wr nz n t) ++ l) := by
 induction t with
 | con b =>
  intro n k ts l h hf
  cases b
  ·simp only [tks, wr, Bool.false_eq_true, if_false]; rw [(sp_word wordy_false.1 k).1]; exact Ren.word0 wordy_false hf h
  ·simp only [tks, wr, if_true]; rw [(sp_word wordy_true.1 k).1]; exact Ren.word0 wordy_true hf h
 | var v => intro n k ts l h hf; simp only [tks, wr]; rw [(sp_word hw.1 k).1]; exact Ren.word0 hw hf h
 | not t ih =>
  intro n k ts l h hf
  simp only [tks, wr]
  rw [sp, if_neg (by decide), if_pos (by decide)]
  have h1 := (ih hw 2 (k + 1) ts l h hf).blank_left (hbl k)
  have h2 := Ren.bang (hbl k) h1
  simpa using h2
 | bin c l r ihl ihr =>
  intro n k ts l0 h hf
  have core : ∀ (k : Nat) (ts : List Tk) (l0 : List UInt8), Ren ts l0 → free l0 → Ren ((tks nz (lv c) l ++ tkOf c :: tks nz (lv c + 1) r) ++ ts) (sp bl k (wr nz (lv c) l ++ (if c then [32, 38, 38, 32] else [32, 124, 124, 32]) ++ wr nz (lv c + 1) r) ++ l0) := by
   intro k ts l0 h hf
   rw [sp_append, sp_append]
   have h1 := ihr hw.2 (lv c + 1) (k + spots (wr nz (lv c) l ++ (if c then [32, 38, 38, 32] else [32, 124, 124, 32]))) ts l0 h hf
   cases c with
   | true =>
    have e : sp bl (k + spots (wr nz (lv true) l)) (if true = true then [32, 38, 38, 32] else [32, 124, 124, 32]) = bl (k + spots (wr nz (lv true) l)) ++ 38 :: 38 :: bl (k + spots (wr nz (lv true) l) + 1) := by
     simp [sp, spot]
    rw [e]
    have h3 := Ren.and (hbl (k + spots (wr nz (lv true) l))) (h1.blank_left (hbl (k + spots (wr nz (lv true) l) + 1)))
    have h4 := ihl hw.1 (lv true) k _ _ h3 (free_blank (hbl _) (free_cons (by decide)))
    simpa [tkOf] using h4
   | false =>
    have e : sp bl (k + spots (wr nz (lv false) l)) (if false = true then [32, 38, 38, 32] else [32, 124, 124, 32]) = bl (k + spots (wr nz (lv false) l)) ++ 124 :: 124 :: bl (k + spots (wr nz (lv false) l) + 1) := by
     simp [sp, spot]
    rw [e]
    have h3 := Ren.or (hbl (k + spots (wr nz (lv false) l))) (h1.blank_left (hbl (k + spots (wr nz (lv false) l) + 1)))
    have h4 := ihl hw.1 (lv false) k _ _ h3 (free_blank (hbl _) (free_cons (by decide)))
    simpa [tkOf] using h4
  simp only [tks, wr]
  split
  ·simp only [List.cons_append]
   rw [show ∀ x, sp bl k (40 :: x) = bl k ++ 40 :: bl k ++ sp bl (k + 1) x from fun x => by rw [sp, if_neg (by decide), if_pos (by decide)], sp_append]
   have e : ∀ q, sp bl q [41] = bl q ++ 41 :: bl q := by intro q; simp [sp, spot]
   rw [e]
   generalize k + 1 + spots _ = q
   have h1 := Ren.rp (hbl q) (h.blank_left (hbl q))
   have h2 := core (k + 1) _ _ h1 (free_blank (hbl q) (free_cons (by decide)))
   have h3 := Ren.lp (hbl k) (h2.blank_left (hbl k))
   simpa using h3
  ·exact core k ts l0 h hf

/-! ### a printed expression, parsed -/
section
variable {nz : Nat → List UInt8} {nm : List UInt8 → Option Nat}

/-- The parse of a string of tokens, by the tokens. -/
theorem run_lex {k : Nat} {ts : List Tk} {l : List UInt8} (h : Ren ts l) (f : List FN) (u : Bool) {a : Int} {f' : List FN} {u' : Bool} (hr : run nxl nm k (.ex false) 0 ⟨ts, f, u⟩ = some (some (a, ⟨[], f', u'⟩))) :
  run lex1 nm k (.ex false) 0 ⟨trim l, f, u⟩ = some (some (a, ⟨[], f', u'⟩)) := by
 have hm := run_map (nm := nm) lex_sim k (.ex false) 0 ⟨trim l, f, u⟩
 obtain ⟨h1, h2⟩ := ren_lex h
 have e : (⟨trim l, f, u⟩ : PS (List UInt8)).map lexAll = ⟨ts, f, u⟩ := by simp [PS.map, h1]
 rw [e, hr] at hm
 cases hx : run lex1 nm k (.ex false) 0 ⟨trim l, f, u⟩ with
 | none => rw [hx] at hm; simp at hm
 | some r1 =>
  rw [hx] at hm
  cases r1 with
  | none => simp at hm
  | some p =>
   obtain ⟨a1, l1, f1, u1⟩ := p
   have hok := run_lexOk _ _ _ _ _ _ hx
   simp only [Option.map_some, Option.some.injEq, Prod.mk.injEq, PS.map, PS.mk.injEq] at hm
   obtain ⟨rfl, h3, rfl, rfl⟩ := hm
   rw [h2] at hok
   have : l1 = [] := by
    cases hl : lex1 l1 with
    | none =>
     simp only at hok
     rw [lexOk_none hl] at hok
     cases l1 with
     | nil => rfl
     | cons c r => cases hok
    | some p => obtain ⟨t, l'⟩ := p; rw [lexAll_some hl] at h3; cases h3
   subst this
   rfl

/-- A tree's tokens give its nodes. -/
theorem run_tks {t : Tr} (hk : Known nz nm t) (f : List FN) (u : Bool) : ∃ k, run nxl nm k (.ex false) 0 ⟨tks nz 0 t, f, u⟩ = some (some (rt f.length t, ⟨[], f ++ t.nodes f.length, u⟩)) := by
 have := (parses t hk).D f u [] _ 1 trivial (lo_stop' (ts := []) trivial _ _ _)
 simpa using this
end
end Go.Proofs.YtgpnpfjbkaehlaaDoor.Fm
namespace Go.Proofs.YtgpnpfjbkaehlaaDoor.Fm
set_option linter.unusedVariables false
set_option linter.unusedSimpArgs false

/-- A rune that is no part of an identifier. -/
def pid (r : Nat) : Bool := !(decide (97 ≤ r) && decide (r ≤ 122) || decide (65 ≤ r) && decide (r ≤ 90) || r == 95 || decide (48 ≤ r) && decide (r ≤ 57))

theorem pid_idc (c : UInt8) : pid c.toNat = !idc c := by simp [pid, idc, ltr, dig]

theorem pid_high {r : Nat} (h : 128 ≤ r) : pid r = true := by
 simp only [pid, Bool.not_eq_true', Bool.or_eq_false_iff, Bool.and_eq_false_imp, decide_eq_true_eq, decide_eq_false_iff_not, beq_eq_false_iff_ne]
 omega

theorem decode_low (n b0 b1 b2 b3 : Nat) (h : b0 < 128) : Lib.decodeN n b0 b1 b2 b3 = (b0, 1) := by unfold Lib.decodeN; rw [if_pos h]

theorem decode_high (n b0 b1 b2 b3 : Nat) (h : ¬ b0 < 128) : 128 ≤ (Lib.decodeN n b0 b1 b2 b3).1 := by
 unfold Lib.decodeN
 rw [if_neg h]
 repeat' split
 all_goals (simp only; omega)

theorem idx_from (s : ByteArray) : ∀ (f pos : Nat), s.size - pos ≤ f → Lib.idxFuncFrom pid true s f pos = if ((s.data.toList.drop pos).takeWhile idc).length = s.size - pos then -1 else ((pos + ((s.data.toList.drop pos).takeWhile idc).length : Nat) : Int) := by
 intro f
 induction f with
 | zero =>
  intro pos h
  have hd : s.data.toList.drop pos = [] := List.drop_eq_nil_of_le (by rw [Array.length_toList]; show s.size ≤ pos; omega)
  rw [hd]
  rw [if_pos (by rw [List.takeWhile_nil, List.length_nil]; omega)]
  rfl
 | succ f ih =>
  intro pos h
  by_cases hp : pos < s.size
  ·have hd : s.data.toList.drop pos = s[pos] :: s.data.toList.drop (pos + 1) := by
    have : pos < s.data.toList.length := by rw [Array.length_toList]; exact hp
    rw [List.drop_eq_getElem_cons this]
    rfl
   have hg : s.get! pos = s[pos] := by
    simp [ByteArray.get!, hp]
    rfl
   simp only [Lib.idxFuncFrom, if_pos hp]
   rw [Lib.decode_at, hg, hd, List.takeWhile_cons]
   by_cases h1 : idc s[pos] = true
   ·have hlt : s[pos].toNat < 128 := by
     rcases Nat.lt_or_ge s[pos].toNat 128 with hlt | hge
     ·exact hlt
     ·have := pid_high hge
      rw [pid_idc, h1] at this
      cases this
    rw [decode_low _ _ _ _ _ hlt]
    simp only [pid_idc, h1, Bool.not_true, Bool.false_eq_true, if_false, if_true, List.length_cons]
    rw [ih (pos + 1) (by omega)]
    by_cases he : (List.takeWhile idc (List.drop (pos + 1) s.data.toList)).length = s.size - (pos + 1)
    ·rw [if_pos he, if_pos (by omega)]
    ·rw [if_neg he, if_neg (by omega)]
     congr 1
     omega
   ·have hp1 : pid (Lib.decodeN (s.size - pos) s[pos].toNat (s.get! (pos + 1)).toNat (s.get! (pos + 2)).toNat (s.get! (pos + 3)).toNat).1 = true := by
     by_cases hlt : s[pos].toNat < 128
     ·rw [decode_low _ _ _ _ _ hlt]
      simp only [pid_idc, h1, Bool.not_false]
     ·exact pid_high (decode_high _ _ _ _ _ hlt)
    rw [hp1, if_pos rfl, if_neg h1, List.length_nil, if_neg (by omega)]
    rfl
  ·have hd : s.data.toList.drop pos = [] := List.drop_eq_nil_of_le (by rw [Array.length_toList]; show s.size ≤ pos; omega)
   rw [hd]
   rw [if_pos (by rw [List.takeWhile_nil, List.length_nil]; omega)]
   simp only [Lib.idxFuncFrom, if_neg hp]

theorem idx_is (s : ByteArray) : Lib.idxFunc pid true s = if (s.data.toList.takeWhile idc).length = s.size then -1 else ((s.data.toList.takeWhile idc).length : Int) := by
 have := idx_from s s.size 0 (by omega)
 simpa [Lib.idxFunc] using this

theorem trim_is (l : List UInt8) : Lib.trimLeftS l [32, 9] = trim l := by
 unfold Lib.trimLeftS trim
 congr 1
 funext c
 simp [ws, List.contains, List.elem]
 cases h : c == 32 <;> cases h2 : c == 9 <;> simp_all
end Go.Proofs.YtgpnpfjbkaehlaaDoor.Fm
namespace Go.Proofs.YtgpnpfjbkaehlaaDoor.Fm
set_option linter.unusedVariables false
set_option linter.unusedSimpArgs false

/-- What skip leaves, and what it tells. -/
def skR (l sym : List UInt8) : List UInt8 := Lib.trimPrefix (trim l) sym
def skB (l sym : List UInt8) : Bool := Lib.hasPrefix (trim l) sym

theorem skR_no {l sym : List UInt8} (h : skB l sym = false) : skR l sym = trim l := by
 unfold skB at h
 unfold skR Lib.trimPrefix
 rw [h]
 rfl
theorem skR_yes {l sym : List UInt8} (h : skB l sym = true) : skR l sym = (trim l).drop sym.length := by
 unfold skB at h
 unfold skR Lib.trimPrefix
 rw [h]
 rfl
theorem skR_le (l sym : List UInt8) : (skR l sym).length ≤ l.length := by
 have := trim_le l
 cases h : skB l sym with
 | false => rw [skR_no h]; exact this
 | true => rw [skR_yes h, List.length_drop]; omega
theorem skR_nil (l : List UInt8) : skR l [] = trim l := by
 unfold skR Lib.trimPrefix Lib.hasPrefix
 simp [List.isPrefixOf]
theorem trim_skR {l sym : List UInt8} (h : skB l sym = false) : trim (skR l sym) = trim l := by rw [skR_no h, trim_trim]

/-- The token of a symbol. -/
theorem sk1 {c : UInt8} {t : Tk} (hc : ∀ r, lex1 (c :: r) = some (t, trim r)) (hn : ∀ d r s, d ≠ c → lex1 (d :: r) ≠ some (t, s)) (l : List UInt8) :
  (skB l [c] = true → lex1 (trim l) = some (t, trim (skR l [c]))) ∧ (skB l [c] = false → ∀ s, lex1 (trim l) ≠ some (t, s)) := by
 cases hx : trim l with
 | nil =>
  constructor
  ·intro h
   simp [skB, hx, Lib.hasPrefix, List.isPrefixOf] at h
  ·intro _ s
   simp [lex1]
 | cons d r =>
  constructor
  ·intro h
   have hd : d = c := by simp [skB, hx, Lib.hasPrefix, List.isPrefixOf] at h; exact h.symm
   subst hd
   rw [hc, skR_yes h, hx]
   rfl
  ·intro h s
   have hd : d ≠ c := by
    rintro rfl
    simp [skB, hx, Lib.hasPrefix, List.isPrefixOf] at h
   exact hn d r s hd

theorem lex_other {d : UInt8} {r : List UInt8} {t : Tk} {s : List UInt8} (h : lex1 (d :: r) = some (t, s)) :
  (t = .lp → d = 40) ∧ (t = .rp → d = 41) ∧ (t = .bang → d = 33) ∧ (t = .and → ∃ r', d = 38 ∧ r = 38 :: r') ∧ (t = .or → ∃ r', d = 124 ∧ r = 124 :: r') := by
 rw [lex1_cons] at h
 split at h
 ·simp only [Option.some.injEq, Prod.mk.injEq] at h; obtain ⟨rfl, -⟩ := h; simp_all
 split at h
 ·simp only [Option.some.injEq, Prod.mk.injEq] at h; obtain ⟨rfl, -⟩ := h; simp_all
 split at h
 ·simp only [Option.some.injEq, Prod.mk.injEq] at h; obtain ⟨rfl, -⟩ := h; simp_all
 split at h
 ·split at h
  ·split at h
   ·simp only [Option.some.injEq, Prod.mk.injEq] at h; obtain ⟨rfl, -⟩ := h; simp_all
   ·cases h
  ·cases h
 split at h
 ·split at h
  ·split at h
   ·simp only [Option.some.injEq, Prod.mk.injEq] at h; obtain ⟨rfl, -⟩ := h; simp_all
   ·cases h
  ·cases h
 split at h
 ·cases h
 ·simp only [Option.some.injEq, Prod.mk.injEq] at h; obtain ⟨rfl, -⟩ := h; simp

theorem sk_bang (l : List UInt8) : (skB l [33] = true → lex1 (trim l) = some (.bang, trim (skR l [33]))) ∧ (skB l [33] = false → ∀ s, lex1 (trim l) ≠ some (.bang, s)) :=
 sk1 (fun r => rfl) (fun d r s hd h => hd ((lex_other h).2.2.1 rfl)) l
theorem sk_lp (l : List UInt8) : (skB l [40] = true → lex1 (trim l) = some (.lp, trim (skR l [40]))) ∧ (skB l [40] = false → ∀ s, lex1 (trim l) ≠ some (.lp, s)) :=
 sk1 (fun r => rfl) (fun d r s hd h => hd ((lex_other h).1 rfl)) l
theorem sk_rp (l : List UInt8) : (skB l [41] = true → lex1 (trim l) = some (.rp, trim (skR l [41]))) ∧ (skB l [41] = false → ∀ s, lex1 (trim l) ≠ some (.rp, s)) :=
 sk1 (fun r => rfl) (fun d r s hd h => hd ((lex_other h).2.1 rfl)) l

theorem sk_and (l : List UInt8) : (skB l [38, 38] = true → lex1 (trim l) = some (.and, trim (skR l [38, 38]))) ∧ (skB l [38, 38] = false → ∀ s, lex1 (trim l) ≠ some (.and, s)) := by
 cases hx : trim l with
 | nil => exact ⟨fun h => by simp [skB, hx, Lib.hasPrefix, List.isPrefixOf] at h, fun _ s => by simp [lex1]⟩
 | cons d r =>
  constructor
  ·intro h
   cases r with
   | nil => simp [skB, hx, Lib.hasPrefix, List.isPrefixOf] at h
   | cons e r =>
    obtain ⟨rfl, rfl⟩ : (38 : UInt8) = d ∧ (38 : UInt8) = e := by simpa [skB, hx, Lib.hasPrefix, List.isPrefixOf] using h
    rw [skR_yes h, hx]
    rfl
  ·intro h s hs
   obtain ⟨r', rfl, rfl⟩ := (lex_other hs).2.2.2.1 rfl
   simp [skB, hx, Lib.hasPrefix, List.isPrefixOf] at h

theorem sk_or (l : List UInt8) : (skB l [124, 124] = true → lex1 (trim l) = some (.or, trim (skR l [124, 124]))) ∧ (skB l [124, 124] = false → ∀ s, lex1 (trim l) ≠ some (.or, s)) := by
 cases hx : trim l with
 | nil => exact ⟨fun h => by simp [skB, hx, Lib.hasPrefix, List.isPrefixOf] at h, fun _ s => by simp [lex1]⟩
 | cons d r =>
  constructor
  ·intro h
   cases r with
   | nil => simp [skB, hx, Lib.hasPrefix, List.isPrefixOf] at h
   | cons e r =>
    obtain ⟨rfl, rfl⟩ : (124 : UInt8) = d ∧ (124 : UInt8) = e := by simpa [skB, hx, Lib.hasPrefix, List.isPrefixOf] using h
    rw [skR_yes h, hx]
    rfl
  ·intro h s hs
   obtain ⟨r', rfl, rfl⟩ := (lex_other hs).2.2.2.2 rfl
   simp [skB, hx, Lib.hasPrefix, List.isPrefixOf] at h

/-- A word, where none of the other tokens of a factor stands. -/
theorem lex_word {l : List UInt8} (hn : idl l ≠ 0) : lex1 l = some (.word (l.take (idl l)), trim (l.drop (idl l))) := by
 cases l with
 | nil => simp [idl] at hn
 | cons c r =>
  have hc : idc c = true := by
   rw [idl_cons] at hn
   split at hn
   ·simp at hn
   ·rw [List.takeWhile_cons] at hn
    split at hn
    ·assumption
    ·simp at hn
  obtain ⟨_, h1, h2, h3, h4, h5⟩ := idc_not hc
  rw [lex1_cons, if_neg h1, if_neg h2, if_neg h3, if_neg h4, if_neg h5, if_neg hn]

theorem lex_noword {l : List UInt8} (hn : idl l = 0) (w s : List UInt8) : lex1 l ≠ some (.word w, s) := by
 cases l with
 | nil => simp [lex1]
 | cons c r =>
  rw [lex1_cons, if_pos hn]
  repeat' split
  all_goals simp
end Go.Proofs.YtgpnpfjbkaehlaaDoor.Fm
namespace Go.Proofs.YtgpnpfjbkaehlaaDoor.Fm
set_option linter.unusedVariables false
set_option linter.unusedSimpArgs false

/-- An identifier that is no constant. -/
def okName (s : List UInt8) : Bool := !s.isEmpty && idl s == s.length && !(s == trueW) && !(s == falseW)

/-- The number of a name among the first k. -/
def nmK (xs : List (List UInt8)) : Nat → List UInt8 → Option Nat
 | 0, _ => none
 | k + 1, s => if xs[k]? = some s then some k else nmK xs k s

/-- Are the first k all different? -/
def ndK (xs : List (List UInt8)) : Nat → Bool
 | 0 => true
 | k + 1 => ndK xs k && (match xs[k]? with | some s => (nmK xs k s).isNone | none => true)

def namesOK (xs : List (List UInt8)) : Bool := xs.all okName && ndK xs xs.length && decide (xs.length ≤ 64)
def nmOf (xs : List (List UInt8)) : List UInt8 → Option Nat := nmK xs xs.length

theorem names_bad {xs : List (List UInt8)} {k : Nat} {s : List UInt8} (h : xs[k]? = some s) (hb : okName s = false) : namesOK xs = false := by
 cases hn : namesOK xs with
 | false => rfl
 | true =>
  simp only [namesOK, Bool.and_eq_true, List.all_eq_true] at hn
  rw [hn.1.1 s (List.mem_of_getElem? h)] at hb
  cases hb

theorem names_all {xs : List (List UInt8)} (h : xs.all okName = true) : namesOK xs = (ndK xs xs.length && decide (xs.length ≤ 64)) := by
 simp [namesOK, h]

theorem nmK_succ {xs : List (List UInt8)} {k : Nat} {s : List UInt8} (h : xs[k]? = some s) (t : List UInt8) : nmK xs (k + 1) t = if s = t then some k else nmK xs k t := by
 simp only [nmK, h, Option.some.injEq]

theorem ndK_succ {xs : List (List UInt8)} {k : Nat} {s : List UInt8} (h : xs[k]? = some s) : ndK xs (k + 1) = (ndK xs k && (nmK xs k s).isNone) := by
 simp only [ndK, h]
end Go.Proofs.YtgpnpfjbkaehlaaDoor.Fm
namespace Go.Proofs.YtgpnpfjbkaehlaaDoor.Fm
set_option linter.unusedVariables false
set_option linter.unusedSimpArgs false

/-- Node i of the list is the root of the tree. -/
def Rep (f : List FN) : Tr → Nat → Prop
 | .con b, i => f[i]? = some ⟨if b then 1 else 0, 0, 0, 0⟩
 | .var v, i => f[i]? = some ⟨2, (v : Int), 0, 0⟩
 | .not t, i => ∃ a : Nat, f[i]? = some ⟨3, 0, (a : Int), 0⟩ ∧ Rep f t a
 | .bin c l r, i => ∃ a b : Nat, f[i]? = some ⟨opOf c, 0, (a : Int), (b : Int)⟩ ∧ Rep f l a ∧ Rep f r b

/-- All conditions are below n. -/
def VarsLt (n : Nat) : Tr → Prop
 | .con _ => True
 | .var v => v < n
 | .not t => VarsLt n t
 | .bin _ l r => VarsLt n l ∧ VarsLt n r

/-- The name of a condition. -/
def nzOf (ns : List ByteArray) (v : Nat) : List UInt8 := ((ns[v]?).getD ByteArray.empty).data.toList

theorem wr_par (nz : Nat → List UInt8) (n : Nat) (c : Bool) (l r : Tr) (h : lv c < n) : wr nz n (.bin c l r) = 40 :: (wr nz (lv c) l ++ (if c then [32, 38, 38, 32] else [32, 124, 124, 32]) ++ wr nz (lv c + 1) r) ++ [41] := by rw [wr, if_pos h]
theorem wr_bare (nz : Nat → List UInt8) (n : Nat) (c : Bool) (l r : Tr) (h : ¬ lv c < n) : wr nz n (.bin c l r) = wr nz (lv c) l ++ (if c then [32, 38, 38, 32] else [32, 124, 124, 32]) ++ wr nz (lv c + 1) r := by rw [wr, if_neg h]
theorem wr_le_not (nz : Nat → List UInt8) (n : Nat) (t : Tr) : (wr nz 2 t).length < (wr nz n (.not t)).length := by simp [wr]
end Go.Proofs.YtgpnpfjbkaehlaaDoor.Fm
namespace Go.Proofs.YtgpnpfjbkaehlaaDoor.Fm
set_option linter.unusedVariables false
set_option linter.unusedSimpArgs false

/-- The number of operands of node i, or -1. -/
def arI (n : FN) (i : Int) : Int :=
 if n.f0 = 0 ∨ n.f0 = 1 then (if n.f1 = 0 ∧ n.f2 = 0 ∧ n.f3 = 0 then 0 else -1)
 else if n.f0 = 2 then (if 0 ≤ n.f1 ∧ n.f1 < 64 ∧ n.f2 = 0 ∧ n.f3 = 0 then 0 else -1)
 else if n.f0 = 3 then (if n.f1 = 0 ∧ n.f3 = 0 ∧ 0 ≤ n.f2 ∧ n.f2 < i then 1 else -1)
 else if n.f0 = 4 ∨ n.f0 = 5 then (if n.f1 = 0 ∧ 0 ≤ n.f2 ∧ 0 ≤ n.f3 ∧ n.f2 < i ∧ n.f3 < i then 2 else -1)
 else -1

/-- The operands marked, one by one; none: one is marked already. -/
def markL : List Int → List Int → Option (List Int)
 | us, [] => some us
 | us, a :: r => if a ∈ us then none else markL (us ++ [a]) r

/-- The operands of the first k nodes; none: one of these is not well-formed, or one is used twice. -/
def usedK (f : List FN) : Nat → Option (List Int)
 | 0 => some []
 | k + 1 => match usedK f k, f[k]? with
  | some us, some n => if arI n k < 0 then none else markL us ([n.f2, n.f3].take (arI n k).toNat)
  | _, _ => none

/-- Is the formula valid? -/
def checkB (f : List FN) : Bool :=
 decide (0 < f.length) && decide (f.length ≤ 512) && (match usedK f f.length with | none => false | some us => (List.range (f.length - 1)).all fun i => decide ((i : Int) ∈ us))

theorem usedK_none {f : List FN} {k : Nat} (h : usedK f k = none) : ∀ m, usedK f (k + m) = none := by
 intro m
 induction m with
 | zero => exact h
 | succ m ih => rw [Nat.add_succ, usedK, ih]

theorem check_none {f : List FN} {k : Nat} (h : usedK f k = none) (hk : k ≤ f.length) : checkB f = false := by
 have := usedK_none h (f.length - k)
 rw [show k + (f.length - k) = f.length by omega] at this
 simp [checkB, this]

theorem used_step {f : List FN} {k : Nat} {us : List Int} {n : FN} (h1 : usedK f k = some us) (h2 : f[k]? = some n) : usedK f (k + 1) = if arI n k < 0 then none else markL us ([n.f2, n.f3].take (arI n k).toNat) := by
 simp only [usedK, h1, h2]

theorem check_neg {f : List FN} {k : Nat} {us : List Int} {n : FN} (h1 : usedK f k = some us) (h2 : f[k]? = some n) (h3 : arI n k < 0) : checkB f = false := by
 refine check_none (k := k + 1) ?_ (List.getElem?_eq_some_iff.1 h2).1
 rw [used_step h1 h2, if_pos h3]

theorem check_dup {f : List FN} {k : Nat} {us : List Int} {n : FN} (h1 : usedK f k = some us) (h2 : f[k]? = some n) (h3 : markL us ([n.f2, n.f3].take (arI n k).toNat) = none) : checkB f = false := by
 refine check_none (k := k + 1) ?_ (List.getElem?_eq_some_iff.1 h2).1
 rw [used_step h1 h2, h3]
 split <;> rfl

theorem arI_ops {n : FN} {k : Int} (h : ¬ arI n k < 0) : (arI n k = 0 ∨ arI n k = 1 ∨ arI n k = 2) ∧ ∀ y ∈ [n.f2, n.f3].take (arI n k).toNat, 0 ≤ y ∧ y < k := by
 unfold arI at h ⊢
 repeat' split
 all_goals simp_all

theorem markL_at {us ops : List Int} {j : Nat} {y : Int} (hy : ops[j]? = some y) : markL us (ops.drop j) = if y ∈ us then none else markL (us ++ [y]) (ops.drop (j + 1)) := by
 obtain ⟨h1, h2⟩ := List.getElem?_eq_some_iff.1 hy
 rw [List.drop_eq_getElem_cons h1, h2, markL]

theorem check_last {f : List FN} {us : List Int} {k : Nat} (h1 : usedK f f.length = some us) (hk : k < f.length - 1) (h2 : (k : Int) ∉ us) : checkB f = false := by
 have h : ((List.range (f.length - 1)).all fun i => decide ((i : Int) ∈ us)) = false := by
  rw [List.all_eq_false]
  exact ⟨k, List.mem_range.2 hk, by simpa using h2⟩
 simp [checkB, h1, h]

theorem check_yes {f : List FN} {us : List Int} (h0 : 0 < f.length) (h5 : f.length ≤ 512) (h1 : usedK f f.length = some us) (h2 : ∀ i : Nat, i < f.length - 1 → (i : Int) ∈ us) : checkB f = true := by
 have h : ((List.range (f.length - 1)).all fun i => decide ((i : Int) ∈ us)) = true := by
  rw [List.all_eq_true]
  intro k hk
  simpa using h2 k (List.mem_range.1 hk)
 simp [checkB, h0, h5, h1, h]

theorem check_out {f : List FN} (h : f.length = 0 ∨ 512 < f.length) : checkB f = false := by
 unfold checkB
 rcases h with h | h
 ·rw [decide_eq_false (by omega : ¬ 0 < f.length)]; rfl
 ·rw [decide_eq_false (by omega : ¬ f.length ≤ 512), Bool.and_false]; rfl
end Go.Proofs.YtgpnpfjbkaehlaaDoor.Fm
namespace Go.Proofs.YtgpnpfjbkaehlaaDoor.Fm
set_option linter.unusedVariables false
set_option linter.unusedSimpArgs false

/-- Is a condition named that has no name? -/
def badVar (f : List FN) (n : Nat) : Bool := f.any fun x => decide (x.f0 = 2) && decide ((n : Int) ≤ x.f1)

theorem used_some {f : List FN} : ∀ {k : Nat} {us : List Int}, usedK f k = some us → ∀ i, i < k → ∃ x, f[i]? = some x ∧ ¬ arI x i < 0 := by
 intro k
 induction k with
 | zero => intro us h i hi; exact absurd hi (Nat.not_lt_zero _)
 | succ k ih =>
  intro us h i hi
  rw [usedK] at h
  split at h
  ·rename_i us' x h1 h2
   by_cases hx : arI x k < 0
   ·rw [if_pos hx] at h; cases h
   ·by_cases hik : i = k
    ·subst hik; exact ⟨x, h2, hx⟩
    ·exact ih h1 i (by omega)
  ·cases h

theorem check_parts {f : List FN} (h : checkB f = true) : 0 < f.length ∧ f.length ≤ 512 ∧ ∃ us, usedK f f.length = some us ∧ ∀ i : Nat, i < f.length - 1 → (i : Int) ∈ us := by
 unfold checkB at h
 rw [Bool.and_eq_true, Bool.and_eq_true] at h
 obtain ⟨⟨h1, h2⟩, h3⟩ := h
 refine ⟨of_decide_eq_true h1, of_decide_eq_true h2, ?_⟩
 split at h3
 ·cases h3
 ·rename_i us hu
  refine ⟨us, hu, fun i hi => ?_⟩
  rw [List.all_eq_true] at h3
  exact of_decide_eq_true (h3 i (List.mem_range.2 hi))

theorem FN_eta (x : FN) : x = ⟨x.f0, x.f1, x.f2, x.f3⟩ := by cases x; rfl

theorem tree_at {f : List FN} (h : ∀ i, i < f.length → ∃ x, f[i]? = some x ∧ ¬ arI x i < 0) : ∀ n i, i < n → i < f.length → ∃ t, Rep f t i := by
 intro n
 induction n with
 | zero => intro i hi; omega
 | succ n ih =>
  intro i hi hl
  obtain ⟨x, hx, ha⟩ := h i hl
  obtain ⟨f0, f1, f2, f3⟩ := x
  unfold arI at ha
  dsimp only at ha
  split at ha
  ·rename_i h0
   split at ha
   ·rename_i h1
    obtain ⟨rfl, rfl, rfl⟩ := h1
    rcases h0 with rfl | rfl
    ·exact ⟨.con false, hx⟩
    ·exact ⟨.con true, hx⟩
   ·omega
  ·split at ha
   ·rename_i h0
    split at ha
    ·rename_i h1
     obtain ⟨h1, h2, rfl, rfl⟩ := h1
     refine ⟨.var f1.toNat, ?_⟩
     show f[i]? = some ⟨2, ((f1.toNat : Nat) : Int), 0, 0⟩
     rw [hx, h0, Int.toNat_of_nonneg h1]
    ·omega
   ·split at ha
    ·rename_i h0
     split at ha
     ·rename_i h1
      obtain ⟨rfl, rfl, h2, h3⟩ := h1
      obtain ⟨t, ht⟩ := ih f2.toNat (by omega) (by omega)
      refine ⟨.not t, f2.toNat, ?_, ht⟩
      rw [hx, h0, Int.toNat_of_nonneg h2]
     ·omega
    ·split at ha
     ·rename_i h0
      split at ha
      ·rename_i h1
       obtain ⟨rfl, h2, h3, h4, h5⟩ := h1
       obtain ⟨t, ht⟩ := ih f2.toNat (by omega) (by omega)
       obtain ⟨s, hs⟩ := ih f3.toNat (by omega) (by omega)
       rcases h0 with rfl | rfl
       ·refine ⟨.bin true t s, f2.toNat, f3.toNat, ?_, ht, hs⟩
        rw [hx, Int.toNat_of_nonneg h2, Int.toNat_of_nonneg h3]; rfl
       ·refine ⟨.bin false t s, f2.toNat, f3.toNat, ?_, ht, hs⟩
        rw [hx, Int.toNat_of_nonneg h2, Int.toNat_of_nonneg h3]; rfl
      ·omega
     ·omega

/-- A valid formula is a tree. -/
theorem tree_of {f : List FN} (h : checkB f = true) : ∃ t, Rep f t (f.length - 1) := by
 obtain ⟨h0, h1, us, hu, _⟩ := check_parts h
 exact tree_at (used_some hu) f.length _ (by omega) (by omega)

theorem rep_inj {f : List FN} : ∀ {t s : Tr} {i : Nat}, Rep f t i → Rep f s i → t = s := by
 intro t
 induction t with
 | con b =>
  intro s i h1 h2
  cases s with
  | con c =>
   have := Option.some.inj (h1.symm.trans h2)
   cases b <;> cases c <;> simp_all
  | var v => exact absurd (Option.some.inj (h1.symm.trans h2)) (by cases b <;> simp)
  | not s => obtain ⟨a, h, _⟩ := h2; exact absurd (Option.some.inj (h1.symm.trans h)) (by cases b <;> simp)
  | bin c l r => obtain ⟨a, b', h, _⟩ := h2; exact absurd (Option.some.inj (h1.symm.trans h)) (by cases b <;> cases c <;> simp [opOf])
 | var v =>
  intro s i h1 h2
  cases s with
  | con c => exact absurd (Option.some.inj (h1.symm.trans h2)) (by cases c <;> simp)
  | var v' =>
   have := Option.some.inj (h1.symm.trans h2)
   simp only [Option.some.injEq, Nt.S62.mk.injEq] at this
   rw [show v = v' by omega]
  | not s => obtain ⟨a, h, _⟩ := h2; exact absurd (Option.some.inj (h1.symm.trans h)) (by simp)
  | bin c l r => obtain ⟨a, b', h, _⟩ := h2; exact absurd (Option.some.inj (h1.symm.trans h)) (by cases c <;> simp [opOf])
 | not t ih =>
  intro s i h1 h2
  obtain ⟨a, h1, h1'⟩ := h1
  cases s with
  | con c => exact absurd (Option.some.inj (h1.symm.trans h2)) (by cases c <;> simp)
  | var v' => exact absurd (Option.some.inj (h1.symm.trans h2)) (by simp)
  | not s =>
   obtain ⟨b, h, h2'⟩ := h2
   have := Option.some.inj (h1.symm.trans h)
   simp only [Nt.S62.mk.injEq] at this
   obtain rfl : a = b := by omega
   rw [ih h1' h2']
  | bin c l r => obtain ⟨a, b', h, _⟩ := h2; exact absurd (Option.some.inj (h1.symm.trans h)) (by cases c <;> simp [opOf])
 | bin c l r ihl ihr =>
  intro s i h1 h2
  obtain ⟨a, b, h1, hl, hr⟩ := h1
  cases s with
  | con d => exact absurd (Option.some.inj (h1.symm.trans h2)) (by cases c <;> cases d <;> simp [opOf])
  | var v' => exact absurd (Option.some.inj (h1.symm.trans h2)) (by cases c <;> simp [opOf])
  | not s => obtain ⟨b, h, h2'⟩ := h2; exact absurd (Option.some.inj (h1.symm.trans h)) (by cases c <;> simp [opOf])
  | bin d l' r' =>
   obtain ⟨a', b', h, hl', hr'⟩ := h2
   have := Option.some.inj (h1.symm.trans h)
   simp only [Nt.S62.mk.injEq] at this
   obtain ⟨h0, _, h3, h4⟩ := this
   obtain rfl : a = a' := by omega
   obtain rfl : b = b' := by omega
   rw [ihl hl hl', ihr hr hr', show c = d by cases c <;> cases d <;> simp_all [opOf]]

theorem rep_vars {f : List FN} {n : Nat} (h : badVar f n = false) : ∀ {t : Tr} {i : Nat}, Rep f t i → VarsLt n t := by
 intro t
 induction t with
 | con b => intro i _; trivial
 | var v =>
  intro i h1
  rw [badVar, List.any_eq_false] at h
  have := h _ (List.mem_of_getElem? h1)
  show v < n
  simp at this
  omega
 | not t ih => intro i ⟨a, _, h1⟩; exact ih h1
 | bin c l r ihl ihr => intro i ⟨a, b, _, h1, h2⟩; exact ⟨ihl h1, ihr h2⟩
theorem rep_lt {f : List FN} : ∀ {t : Tr} {i : Nat}, Rep f t i → i < f.length := by
 intro t i h
 cases t with
 | con b => exact (List.getElem?_eq_some_iff.1 h).1
 | var v => exact (List.getElem?_eq_some_iff.1 h).1
 | not t => obtain ⟨a, h, _⟩ := h; exact (List.getElem?_eq_some_iff.1 h).1
 | bin c l r => obtain ⟨a, b, h, _⟩ := h; exact (List.getElem?_eq_some_iff.1 h).1
theorem bad_at {f : List FN} {n k : Nat} {x : FN} (h : f[k]? = some x) (h0 : x.f0 = 2) (h1 : (n : Int) ≤ x.f1) : badVar f n = true := by
 rw [badVar, List.any_eq_true]
 exact ⟨x, List.mem_of_getElem? h, by simp [h0, h1]⟩
theorem bad_none {f : List FN} {n : Nat} (h : ∀ (k : Nat) (x : FN), f[k]? = some x → ¬ (x.f0 = 2 ∧ (n : Int) ≤ x.f1)) : badVar f n = false := by
 rw [badVar, List.any_eq_false]
 intro x hx
 obtain ⟨k, hk⟩ := List.getElem?_of_mem hx
 have := h k x hk
 simp
 intro h0
 have := fun h1 => this ⟨h0, h1⟩
 omega
end Go.Proofs.YtgpnpfjbkaehlaaDoor.Fm
namespace Go.Proofs.YtgpnpfjbkaehlaaDoor.Fm
set_option linter.unusedVariables false
set_option linter.unusedSimpArgs false

abbrev Br := Go.Proofs.YtgpnpfjbkaehlaaDoor.Nt.S74

/-- What a walk has done: the new numbers, and the branches. -/
structure VS where
 num : Int → Option Int
 out : List Br

def VS.add (s : VS) (n : Int) (b : Br) : VS := ⟨fun y => if y = n then some ((s.out.length + 2 : Nat) : Int) else s.num y, s.out ++ [b]⟩

/-- The visit of a number, k levels deep at most. -/
def visP (nodes : List Br) : Nat → Int → VS → Int × VS
 | 0, _, s => (0, s)
 | k + 1, n, s => match s.num n with
  | some m => (m, s)
  | none => match nodes[(n - 2).toNat]? with
   | none => (0, s)
   | some x =>
    let r1 := visP nodes k x.f1 s
    let r2 := visP nodes k x.f2 r1.2
    (((r2.2.out.length + 2 : Nat) : Int), r2.2.add n ⟨x.f0, r1.1, r2.1⟩)

/-- Every branch leads to numbers before its own. -/
def Dn (nodes : List Br) : Prop := ∀ (i : Nat) (x : Br), nodes[i]? = some x → 0 ≤ x.f1 ∧ x.f1 < i + 2 ∧ 0 ≤ x.f2 ∧ x.f2 < i + 2

/-- The constants have their numbers. -/
def VS.Ok (s : VS) : Prop := s.num 0 = some 0 ∧ s.num 1 = some 1

theorem vis_ok (nodes : List Br) : ∀ (k : Nat) (n : Int) (s : VS), s.Ok → (visP nodes k n s).2.Ok ∧ s.out.length ≤ (visP nodes k n s).2.out.length := by
 intro k
 induction k with
 | zero => intro n s h; exact ⟨h, Nat.le_refl _⟩
 | succ k ih =>
  intro n s h
  rw [visP]
  cases hn : s.num n with
  | some m => exact ⟨h, Nat.le_refl _⟩
  | none =>
   dsimp only
   cases hx : nodes[(n - 2).toNat]? with
   | none => exact ⟨h, Nat.le_refl _⟩
   | some x =>
    dsimp only
    have h1 := ih x.f1 s h
    have h2 := ih x.f2 _ h1.1
    have n0 : n ≠ 0 := by rintro rfl; rw [h.1] at hn; cases hn
    have n1 : n ≠ 1 := by rintro rfl; rw [h.2] at hn; cases hn
    refine ⟨⟨?_, ?_⟩, ?_⟩
    ·simp only [VS.add]; rw [if_neg (Ne.symm n0)]; exact h2.1.1
    ·simp only [VS.add]; rw [if_neg (Ne.symm n1)]; exact h2.1.2
    ·simp only [VS.add, List.length_append, List.length_singleton]; have := h1.2; have := h2.2; omega

theorem vis_hit {nodes : List Br} {k : Nat} {n m : Int} {s : VS} (h : s.num n = some m) : visP nodes (k + 1) n s = (m, s) := by rw [visP, h]
theorem vis_new {nodes : List Br} {k : Nat} {n : Int} {s : VS} {x : Br} (h : s.num n = none) (hx : nodes[(n - 2).toNat]? = some x) :
  visP nodes (k + 1) n s = ((((visP nodes k x.f2 (visP nodes k x.f1 s).2).2.out.length + 2 : Nat) : Int), (visP nodes k x.f2 (visP nodes k x.f1 s).2).2.add n ⟨x.f0, (visP nodes k x.f1 s).1, (visP nodes k x.f2 (visP nodes k x.f1 s).2).1⟩) := by
 rw [visP, h]; dsimp only; rw [hx]

/-- The diagram of a root. -/
def dgP (nodes : List Br) (root : Int) : Int × VS := visP nodes (nodes.length + 2) root ⟨fun y => if y = 1 then some 1 else if y = 0 then some 0 else none, []⟩
end Go.Proofs.YtgpnpfjbkaehlaaDoor.Fm
namespace Go.Proofs.YtgpnpfjbkaehlaaDoor.Fm
open Go.RowKit Go.Proofs.YtgpnpfjbkaehlaaDoorW.PrintWords Go.Proofs.YtgpnpfjbkaehlaaDoor.Nt
set_option linter.unusedVariables false
set_option linter.unusedSimpArgs false

instance : DecidableEq Br := fun a b => decidable_of_iff (a.f0 = b.f0 ∧ a.f1 = b.f1 ∧ a.f2 = b.f2) (by cases a; cases b; simp)
instance : DecidableEq FN := fun a b => decidable_of_iff (a.f0 = b.f0 ∧ a.f1 = b.f1 ∧ a.f2 = b.f2 ∧ a.f3 = b.f3) (by cases a; cases b; simp)

theorem w64 {x : Int} (h0 : -9223372036854775808 ≤ x) (h1 : x < 9223372036854775808) : wrap64 x = x := by unfold wrap64; omega

theorem brs_same : ∀ (k : Nat) (xs ys : List Br) (i : Nat), xs.length = ys.length → xs.length < 4294967296 → i ≤ xs.length → xs.length - i < k → api_Branch.l0 k xs ys xs.length i = some (decide (xs.drop i = ys.drop i)) := by
 intro k
 induction k with
 | zero => intro xs ys i h1 h2 h3 h4; omega
 | succ k ih =>
  intro xs ys i h1 h2 h3 h4
  unfold api_Branch.l0
  by_cases hi : i < xs.length
  ·rw [if_pos (by omega), if_pos (by omega), if_pos (by omega), if_pos (by omega), w64 (by omega) (by omega)]
   have hx : rd_T74 xs i = xs[i] := by simp [rd_T74, List.getD_eq_getElem?_getD, hi]
   have hy : rd_T74 ys i = ys[i]'(by omega) := by simp [rd_T74, List.getD_eq_getElem?_getD, show i < ys.length by omega]
   rw [hx, hy, List.drop_eq_getElem_cons hi, List.drop_eq_getElem_cons (show i < ys.length by omega)]
   generalize xs[i] = a
   generalize ys[i]'(by omega) = b
   by_cases hab : a = b
   ·subst hab
    simp only [beq_self_eq_true, Bool.not_true, Bool.or_false, Bool.false_eq_true, if_false, List.cons.injEq, true_and]
    exact ih xs ys (i + 1) h1 h2 (by omega) (by omega)
   ·have hne : ¬ (a.f0 = b.f0 ∧ a.f1 = b.f1 ∧ a.f2 = b.f2) := by
     intro h; apply hab; cases a; cases b; simp_all
    rw [if_pos (by
     by_cases h0 : a.f0 = b.f0 <;> by_cases h1 : a.f1 = b.f1 <;> by_cases h2 : a.f2 = b.f2 <;> simp_all)]
    simp [hab]
  ·rw [if_neg (by omega), List.drop_eq_nil_of_le (by omega), List.drop_eq_nil_of_le (by omega)]
   simp

theorem dg_same (xs ys : List Br) (r q : Int) (h : xs.length < 4294967296) : diagram_Same.f (xs.length + 1) xs r ys q = some (decide (r = q ∧ xs = ys)) := by
 unfold diagram_Same.f api_Branch.f
 by_cases hr : r = q
 ·rw [if_pos hr]
  by_cases hl : xs.length = ys.length
  ·rw [if_pos (by omega), show (0 : Int) = ((0 : Nat) : Int) from rfl, brs_same _ xs ys 0 hl h (Nat.zero_le _) (by omega)]
   simp [hr]
  ·rw [if_neg (by omega)]
   have : xs ≠ ys := fun h => hl (by rw [h])
   simp [this]
 ·rw [if_neg hr]
  simp [hr]

theorem fns_same : ∀ (k : Nat) (xs ys : List FN) (i : Nat), xs.length = ys.length → xs.length < 4294967296 → i ≤ xs.length → xs.length - i < k → koineref03_Same.l0 k xs ys i = some (decide (xs.drop i = ys.drop i)) := by
 intro k
 induction k with
 | zero => intro xs ys i h1 h2 h3 h4; omega
 | succ k ih =>
  intro xs ys i h1 h2 h3 h4
  unfold koineref03_Same.l0
  by_cases hi : i < xs.length
  ·rw [if_pos (by omega), if_pos (by omega), if_pos (by omega), w64 (by omega) (by omega)]
   have hx : rd_T62 xs i = xs[i] := by simp [rd_T62, List.getD_eq_getElem?_getD, hi]
   have hy : rd_T62 ys i = ys[i]'(by omega) := by simp [rd_T62, List.getD_eq_getElem?_getD, show i < ys.length by omega]
   rw [hx, hy, List.drop_eq_getElem_cons hi, List.drop_eq_getElem_cons (show i < ys.length by omega)]
   generalize xs[i] = a
   generalize ys[i]'(by omega) = b
   by_cases hab : a = b
   ·subst hab
    simp only [beq_self_eq_true, Bool.not_true, Bool.or_false, Bool.false_eq_true, if_false, List.cons.injEq, true_and]
    exact ih xs ys (i + 1) h1 h2 (by omega) (by omega)
   ·have hne : ¬ (a.f0 = b.f0 ∧ a.f1 = b.f1 ∧ a.f2 = b.f2 ∧ a.f3 = b.f3) := by
     intro h; apply hab; cases a; cases b; simp_all
    rw [if_pos (by
     by_cases h0 : a.f0 = b.f0 <;> by_cases h1 : a.f1 = b.f1 <;> by_cases h2 : a.f2 = b.f2 <;> by_cases h3 : a.f3 = b.f3 <;> simp_all)]
    simp [hab]
  ·rw [if_neg (by omega), List.drop_eq_nil_of_le (by omega), List.drop_eq_nil_of_le (by omega)]
   simp

theorem fn_same (xs ys : List FN) (h : xs.length < 4294967296) : koineref03_Same.f (xs.length + 1) xs ys = some (decide (xs = ys)) := by
 unfold koineref03_Same.f
 by_cases hl : xs.length = ys.length
 ·rw [if_pos (by omega), show (0 : Int) = ((0 : Nat) : Int) from rfl, fns_same _ xs ys 0 hl h (Nat.zero_le _) (by omega)]
  simp
 ·rw [if_neg (by omega)]
  have : xs ≠ ys := fun h => hl (by rw [h])
  simp [this]

/-- How many of the first L have no number? -/
def cu (f : Int → Option Int) : Nat → Nat
 | 0 => 0
 | L + 1 => cu f L + (if (f (L + 2 : Nat)).isNone then 1 else 0)

theorem cu_same {f g : Int → Option Int} : ∀ {L : Nat}, (∀ i : Nat, i < L → f (i + 2 : Nat) = g (i + 2 : Nat)) → cu f L = cu g L := by
 intro L
 induction L with
 | zero => intro _; rfl
 | succ L ih => intro h; rw [cu, cu, ih (fun i hi => h i (by omega)), h L (by omega)]

theorem cu_one {f g : Int → Option Int} {i : Nat} (h0 : f (i + 2 : Nat) = none) (h1 : g (i + 2 : Nat) ≠ none) : ∀ {L : Nat}, i < L → (∀ j : Nat, j < L → j ≠ i → f (j + 2 : Nat) = g (j + 2 : Nat)) → cu f L = cu g L + 1 := by
 intro L
 induction L with
 | zero => intro h; omega
 | succ L ih =>
  intro hi h
  rw [cu, cu]
  by_cases hL : i = L
  ·subst hL
   rw [cu_same (g := g) (fun j hj => h j (by omega) (by omega)), h0]
   have : (g (i + 2 : Nat)).isNone = false := by cases hg : g (i + 2 : Nat) with | none => exact absurd hg h1 | some _ => rfl
   rw [this]
   simp
  ·rw [ih (by omega) (fun j hj => h j (by omega)), h L (by omega) (fun h => hL h.symm)]
   omega

theorem vis_cnt {nodes : List Br} (hd : Dn nodes) : ∀ (k : Nat) (n : Int) (s : VS), s.Ok → 0 ≤ n → n < nodes.length + 2 → (visP nodes k n s).2.out.length + cu (visP nodes k n s).2.num nodes.length = s.out.length + cu s.num nodes.length ∧ ∀ y, n < y → (visP nodes k n s).2.num y = s.num y := by
 intro k
 induction k with
 | zero => intro n s _ _ _; exact ⟨rfl, fun _ _ => rfl⟩
 | succ k ih =>
  intro n s hok hn0 hn
  cases hnum : s.num n with
  | some m => rw [vis_hit hnum]; exact ⟨rfl, fun _ _ => rfl⟩
  | none =>
   cases hx : nodes[(n - 2).toNat]? with
   | none => rw [visP, hnum]; dsimp only; rw [hx]; exact ⟨rfl, fun _ _ => rfl⟩
   | some x =>
    rw [vis_new hnum hx]
    by_cases hn2 : 2 ≤ n
    ·obtain ⟨d1, d2, d3, d4⟩ := hd _ x hx
     obtain ⟨a1, a2⟩ := ih x.f1 s hok (by omega) (by omega)
     have o1 := vis_ok nodes k x.f1 s hok
     obtain ⟨b1, b2⟩ := ih x.f2 _ o1.1 (by omega) (by omega)
     have hnn : (visP nodes k x.f2 (visP nodes k x.f1 s).2).2.num n = none := by rw [b2 n (by omega), a2 n (by omega), hnum]
     generalize (visP nodes k x.f2 (visP nodes k x.f1 s).2).2 = s2 at b1 b2 hnn ⊢
     constructor
     ·have := cu_one (f := s2.num) (g := (s2.add n ⟨x.f0, (visP nodes k x.f1 s).1, (visP nodes k x.f2 (visP nodes k x.f1 s).2).1⟩).num) (i := (n - 2).toNat) (by rw [show (((n - 2).toNat + 2 : Nat) : Int) = n by omega]; exact hnn) (by simp only [VS.add]; rw [if_pos (by omega)]; simp) (L := nodes.length) (by omega) (fun j hj hne => by simp only [VS.add]; rw [if_neg (by omega)])
      simp only [VS.add, List.length_append, List.length_singleton] at this ⊢
      omega
     ·intro y hy
      simp only [VS.add]
      rw [if_neg (by omega), b2 y (by omega), a2 y (by omega)]
    ·have n0 : n ≠ 0 := by rintro rfl; rw [hok.1] at hnum; cases hnum
     have n1 : n ≠ 1 := by rintro rfl; rw [hok.2] at hnum; cases hnum
     omega

theorem cu_le (f : Int → Option Int) : ∀ L, cu f L ≤ L := by
 intro L
 induction L with
 | zero => exact Nat.le_refl _
 | succ L ih => rw [cu]; split <;> omega

theorem dg_len {nodes : List Br} (hd : Dn nodes) {root : Int} (h0 : 0 ≤ root) (h1 : root < nodes.length + 2) : (dgP nodes root).2.out.length ≤ nodes.length := by
 have := (vis_cnt hd (nodes.length + 2) root ⟨fun y => if y = 1 then some 1 else if y = 0 then some 0 else none, []⟩ ⟨rfl, rfl⟩ h0 h1).1
 have h2 := cu_le (fun y : Int => if y = 1 then some (1 : Int) else if y = 0 then some 0 else none) nodes.length
 simp only [List.length_nil] at this
 unfold dgP
 omega

/-- The condition of a number. -/
def lvl (nodes : List Br) (n : Int) : Int := if n < 2 then 64 else match nodes[(n - 2).toNat]? with | some x => x.f0 | none => 0

theorem lvl_is {nodes : List Br} (r : Int) {n : Int} (h0 : 0 ≤ n) (h1 : n < nodes.length + 2) (h : nodes.length < 4294967296) : diagram_level.f nodes r n = some (lvl nodes n) := by
 unfold diagram_level.f lvl
 by_cases hn : n < 2
 ·rw [if_pos hn, if_pos hn]
 ·rw [if_neg hn, if_neg hn, w64 (by omega) (by omega), if_pos (by omega), if_pos (by omega)]
  have hl : (n - 2).toNat < nodes.length := by omega
  simp [rd_T74, List.getD_eq_getElem?_getD, hl]

/-- Is branch i well-formed? The plain part, the part on earlier ones, and the part on levels. -/
def okA (i : Nat) (b : Br) : Prop := 0 ≤ b.f0 ∧ b.f0 ≤ 63 ∧ 0 ≤ b.f1 ∧ 0 ≤ b.f2 ∧ b.f1 ≤ i + 1 ∧ b.f2 ≤ i + 1 ∧ b.f1 ≠ b.f2
instance (i : Nat) (b : Br) : Decidable (okA i b) := by unfold okA; infer_instance

def okBr (nodes : List Br) (i : Nat) (b : Br) : Bool := decide (okA i b) && !decide (b ∈ nodes.take i) && decide (b.f0 < lvl nodes b.f1) && decide (b.f0 < lvl nodes b.f2)

/-- Are the first k branches well-formed? -/
def okD (nodes : List Br) : Nat → Bool
 | 0 => true
 | k + 1 => okD nodes k && (match nodes[k]? with | some b => okBr nodes k b | none => false)

def dgOK (nodes : List Br) (root : Int) : Bool :=
 okD nodes nodes.length && decide (0 ≤ root) && decide (root ≤ nodes.length + 1) && decide ((dgP nodes root).1 = root ∧ (dgP nodes root).2.out = nodes)

/-- What Check comes to. -/
def dgC (nodes : List Br) (root : Int) : Int := if 4096 < nodes.length then 2 else if dgOK nodes root then 0 else 20

theorem okD_le {nodes : List Br} {k : Nat} (h : okD nodes k = false) : ∀ m, okD nodes (k + m) = false := by
 intro m
 induction m with
 | zero => exact h
 | succ m ih => rw [Nat.add_succ, okD, ih]; rfl
theorem dg_badbr {nodes : List Br} {root : Int} {k : Nat} {b : Br} (hl : nodes.length ≤ 4096) (h : nodes[k]? = some b) (hb : okBr nodes k b = false) : dgC nodes root = 20 := by
 have hk : k < nodes.length := (List.getElem?_eq_some_iff.1 h).1
 have h1 : okD nodes (k + 1) = false := by rw [okD, h]; simp [hb]
 have h2 := okD_le h1 (nodes.length - (k + 1))
 rw [show k + 1 + (nodes.length - (k + 1)) = nodes.length by omega] at h2
 rw [dgC, if_neg (by omega), dgOK, h2]
 rfl
theorem okD_at {nodes : List Br} : ∀ {k : Nat}, okD nodes k = true → ∀ i b, i < k → nodes[i]? = some b → okBr nodes i b = true := by
 intro k
 induction k with
 | zero => intro _ i b hi; omega
 | succ k ih =>
  intro h i b hi hb
  rw [okD, Bool.and_eq_true] at h
  by_cases hik : i = k
  ·subst hik; rw [hb] at h; exact h.2
  ·exact ih h.1 i b (by omega) hb
theorem okD_dn {nodes : List Br} (h : okD nodes nodes.length = true) : Dn nodes := by
 intro i x hx
 have := okD_at h i x (List.getElem?_eq_some_iff.1 hx).1 hx
 simp only [okBr, Bool.and_eq_true, decide_eq_true_eq] at this
 obtain ⟨⟨⟨⟨_, _, h1, h2, h3, h4, _⟩, _⟩, _⟩, _⟩ := this
 omega
end Go.Proofs.YtgpnpfjbkaehlaaDoor.Fm
namespace Go.Proofs.YtgpnpfjbkaehlaaDoor.Fm
set_option linter.unusedVariables false
set_option linter.unusedSimpArgs false

/-- A node appended, unless there are too many. -/
def cput (f : List FN) (n : FN) : Int × List FN := if f.length ≤ 512 then (((f.length : Nat) : Int), f ++ [n]) else (((f.length - 1 : Nat) : Int), f)

/-- A condition, joined with the formula of a number. -/
def sideP (bld : Int → List FN → Int × List FN) (op v : Int) (pos : Bool) (num : Int) (f : List FN) : Int × List FN :=
 let r := cput f ⟨2, v, 0, 0⟩
 let s := if pos then r else cput r.2 ⟨3, 0, r.1, 0⟩
 if op = 4 ∧ num = 1 then s else
  let t := bld num s.2
  cput t.2 ⟨op, 0, s.1, t.1⟩

/-- The formula of a number, k levels deep at most. -/
def bldP (nodes : List Br) : Nat → Int → List FN → Int × List FN
 | 0, _, f => (0, f)
 | k + 1, n, f => if n < 2 ∨ 512 < f.length then cput f ⟨min n 1, 0, 0, 0⟩ else
  match nodes[(n - 2).toNat]? with
  | none => (0, f)
  | some b =>
   if b.f1 = 0 then sideP (bldP nodes k) 4 b.f0 true b.f2 f
   else if b.f2 = 0 then sideP (bldP nodes k) 4 b.f0 false b.f1 f
   else if b.f2 = 1 then sideP (bldP nodes k) 5 b.f0 true b.f1 f
   else if b.f1 = 1 then sideP (bldP nodes k) 5 b.f0 false b.f2 f
   else
    let h := sideP (bldP nodes k) 4 b.f0 true b.f2 f
    let l := sideP (bldP nodes k) 4 b.f0 false b.f1 h.2
    cput l.2 ⟨5, 0, h.1, l.1⟩

theorem side_t_stop (bld : Int → List FN → Int × List FN) (v : Int) (f : List FN) : sideP bld 4 v true 1 f = cput f ⟨2, v, 0, 0⟩ := by simp only [sideP, if_true, and_self]
theorem side_f_stop (bld : Int → List FN → Int × List FN) (v : Int) (f : List FN) : sideP bld 4 v false 1 f = cput (cput f ⟨2, v, 0, 0⟩).2 ⟨3, 0, (cput f ⟨2, v, 0, 0⟩).1, 0⟩ := by simp only [sideP, if_true, and_self, Bool.false_eq_true, if_false]
theorem side_t_go (bld : Int → List FN → Int × List FN) {op v num a1 : Int} {f f1 : List FN} (h : ¬ (op = 4 ∧ num = 1)) (e1 : cput f ⟨2, v, 0, 0⟩ = (a1, f1)) : sideP bld op v true num f = cput (bld num f1).2 ⟨op, 0, a1, (bld num f1).1⟩ := by
 simp only [sideP, if_true]
 rw [if_neg h, e1]
theorem side_f_go (bld : Int → List FN → Int × List FN) {op v num a1 a2 : Int} {f f1 f2 : List FN} (h : ¬ (op = 4 ∧ num = 1)) (e1 : cput f ⟨2, v, 0, 0⟩ = (a1, f1)) (e2 : cput f1 ⟨3, 0, a1, 0⟩ = (a2, f2)) : sideP bld op v false num f = cput (bld num f2).2 ⟨op, 0, a2, (bld num f2).1⟩ := by
 simp only [sideP, Bool.false_eq_true, if_false]
 rw [if_neg h, e1, e2]

theorem cput_le {f : List FN} (h : f.length ≤ 513) (n : FN) : (cput f n).2.length ≤ 513 := by
 unfold cput
 split
 ·rw [List.length_append]; simp; omega
 ·exact h
theorem cput_pos (f : List FN) (n : FN) : 0 < (cput f n).2.length := by
 unfold cput
 split
 ·simp
 ·show 0 < f.length; omega
theorem side_le {bld : Int → List FN → Int × List FN} (hb : ∀ n f, f.length ≤ 513 → (bld n f).2.length ≤ 513) (op v : Int) (pos : Bool) (num : Int) {f : List FN} (h : f.length ≤ 513) : (sideP bld op v pos num f).2.length ≤ 513 := by
 unfold sideP
 have h1 := cput_le h ⟨2, v, 0, 0⟩
 generalize cput f ⟨2, v, 0, 0⟩ = r at h1
 have h2 : (if pos then r else cput r.2 ⟨3, 0, r.1, 0⟩).2.length ≤ 513 := by
  split
  ·exact h1
  ·exact cput_le h1 _
 dsimp only
 generalize (if pos then r else cput r.2 ⟨3, 0, r.1, 0⟩) = s at h2
 split
 ·exact h2
 ·exact cput_le (hb _ _ h2) _
theorem bld_le (nodes : List Br) : ∀ (k : Nat) (n : Int) (f : List FN), f.length ≤ 513 → (bldP nodes k n f).2.length ≤ 513 := by
 intro k
 induction k with
 | zero => intro n f h; exact h
 | succ k ih =>
  intro n f h
  rw [bldP]
  split
  ·exact cput_le h _
  ·split
   ·exact h
   ·dsimp only
    repeat' split
    all_goals first | exact side_le ih _ _ _ _ h | exact cput_le (side_le ih _ _ _ _ (side_le ih _ _ _ _ h)) _

/-- What Of comes to. -/
def ofP (nodes : List Br) (root : Int) : List FN × Int :=
 if dgC nodes root ≠ 0 then ([], dgC nodes root) else
  let f := (bldP nodes (nodes.length + 2) root []).2
  if 512 < f.length then ([], 2) else (f, 0)

theorem dgC_0 {nodes : List Br} {root : Int} (h : dgC nodes root = 0) : nodes.length ≤ 4096 ∧ okD nodes nodes.length = true ∧ 0 ≤ root ∧ root ≤ nodes.length + 1 ∧ (dgP nodes root).1 = root ∧ (dgP nodes root).2.out = nodes := by
 unfold dgC at h
 split at h
 ·cases h
 ·split at h
  ·rename_i h1 h2
   simp only [dgOK, Bool.and_eq_true, decide_eq_true_eq] at h2
   exact ⟨by omega, h2.1.1.1, h2.1.1.2, h2.1.2, h2.2.1, h2.2.2⟩
  ·cases h
theorem dgC_cases (nodes : List Br) (root : Int) : dgC nodes root = 0 ∨ dgC nodes root = 2 ∨ dgC nodes root = 20 := by
 unfold dgC
 split
 ·exact .inr (.inl rfl)
 ·split
  ·exact .inl rfl
  ·exact .inr (.inr rfl)
theorem ofP_no {nodes : List Br} {root : Int} (h : dgC nodes root ≠ 0) : ofP nodes root = ([], dgC nodes root) := by rw [ofP, if_pos h]
theorem ofP_yes {nodes : List Br} {root : Int} (h : dgC nodes root = 0) : ofP nodes root = if 512 < (bldP nodes (nodes.length + 2) root []).2.length then ([], 2) else ((bldP nodes (nodes.length + 2) root []).2, 0) := by
 rw [ofP, if_neg (by rw [h]; simp)]
end Go.Proofs.YtgpnpfjbkaehlaaDoor.Fm
namespace Go.Proofs.YtgpnpfjbkaehlaaDoor.Fm
open Go.RowKit Go.Proofs.YtgpnpfjbkaehlaaDoorW.PrintWords Go.Proofs.YtgpnpfjbkaehlaaDoor.Nt
set_option linter.unusedVariables false
set_option linter.unusedSimpArgs false

theorem rlvl_is {nodes : List Br} (r : Int) {n : Int} (h0 : 0 ≤ n) (h1 : n < nodes.length + 2) (h : nodes.length < 4294967296) : koineref02_level.f nodes r n = some (lvl nodes n) := by
 unfold koineref02_level.f lvl
 by_cases hn : n < 2
 ·rw [if_pos hn, if_pos hn]
 ·rw [if_neg hn, if_neg hn, w64 (by omega) (by omega), if_pos (by omega), if_pos (by omega)]
  have hl : (n - 2).toNat < nodes.length := by omega
  simp [rd_T74, List.getD_eq_getElem?_getD, hl]

theorem br_eq (a b : Br) : ((a.f0 == b.f0) && ((a.f1 == b.f1) && (a.f2 == b.f2))) = decide (a = b) := by
 by_cases h : a = b
 ·subst h; simp
 ·rw [decide_eq_false h]
  by_cases h0 : a.f0 = b.f0 <;> by_cases h1 : a.f1 = b.f1 <;> by_cases h2 : a.f2 = b.f2 <;> simp_all
  apply h
  cases a; cases b; simp_all

theorem br_loop {nodes : List Br} {i : Nat} (b : Br) (r : Int) (hi : i ≤ nodes.length) (hn : nodes.length < 4294967296) : ∀ (k j : Nat), j ≤ i → i - j < k →
  koineref02_branch.l0 k i j nodes r b.f0 b.f1 b.f2 = some (!decide (b ∈ (nodes.take i).drop j)) := by
 intro k
 induction k with
 | zero => intro j h1 h2; omega
 | succ k ih =>
  intro j h1 h2
  unfold koineref02_branch.l0
  by_cases hj : j < i
  ·rw [if_pos (by omega), if_pos (by omega), if_pos (by omega), w64 (by omega) (by omega)]
   have hx : rd_T74 nodes j = nodes[j]'(by omega) := by simp [rd_T74, List.getD_eq_getElem?_getD, show j < nodes.length by omega]
   have ht : (nodes.take i).drop j = nodes[j]'(by omega) :: (nodes.take i).drop (j + 1) := by
    rw [List.drop_eq_getElem_cons (by rw [List.length_take]; omega), List.getElem_take]
   rw [hx, br_eq, ht]
   by_cases hb : nodes[j]'(by omega) = b
   ·rw [decide_eq_true hb, if_pos rfl]
    simp [hb]
   ·rw [decide_eq_false hb, if_neg (by simp)]
    have := ih (j + 1) (by omega) (by omega)
    rw [show ((j : Int) + 1) = ((j + 1 : Nat) : Int) by omega, this]
    congr 2
    simp [Ne.symm hb]
  ·rw [if_neg (by omega), List.drop_eq_nil_of_le (by rw [List.length_take]; omega)]
   simp

theorem br_bad (k : Nat) (i r a b c : Int) (nodes : List Br) : koineref02_branch.j0 (k + 1) i true nodes r a b c = some false := by rw [koineref02_branch.j0, if_pos rfl]
theorem br_bad1 (k : Nat) (i r a b c : Int) (nodes : List Br) : koineref02_branch.j1 (k + 1) i true nodes r a b c = some false := by rw [koineref02_branch.j1, if_pos rfl]

theorem br_is {nodes : List Br} {i : Nat} {b : Br} (r : Int) (hb : nodes[i]? = some b) (hn : nodes.length < 4294967296) : koineref02_branch.f (i + 4) nodes r i = some (okBr nodes i b) := by
 have hi : i < nodes.length := (List.getElem?_eq_some_iff.1 hb).1
 have hx : rd_T74 nodes i = b := by simp [rd_T74, List.getD_eq_getElem?_getD, hb]
 unfold koineref02_branch.f
 rw [if_pos (by omega), if_pos (by omega), hx, w64 (by omega) (by omega)]
 by_cases g0 : 0 ≤ b.f0
 ·rw [if_neg (by omega)]
  by_cases g1 : b.f0 ≤ 63
  ·rw [if_neg (by omega)]
   by_cases g2 : 0 ≤ b.f1
   ·rw [if_neg (by omega)]
    by_cases g3 : 0 ≤ b.f2
    ·rw [if_neg (by omega)]
     by_cases g4 : b.f1 ≤ i + 1
     ·rw [if_neg (by omega)]
      by_cases g5 : b.f2 ≤ i + 1
      ·rw [if_neg (by omega)]
       by_cases g6 : b.f1 = b.f2
       ·rw [beq_iff_eq.2 g6, br_bad]
        simp [okBr, okA, g6]
       ·rw [beq_eq_false_iff_ne.2 g6]
        have hA : okA i b := ⟨g0, g1, g2, g3, g4, g5, g6⟩
        rw [koineref02_branch.j0]
        rw [if_neg (by simp), rlvl_is r g2 (by omega) hn]
        simp only [Option.bind_some]
        by_cases l1 : lvl nodes b.f1 ≤ b.f0
        ·rw [if_pos l1, br_bad1]
         have l1' : ¬ b.f0 < lvl nodes b.f1 := by omega
         simp [okBr, l1']
        ·rw [if_neg l1, rlvl_is r g3 (by omega) hn]
         simp only [Option.bind_some]
         by_cases l2 : lvl nodes b.f2 ≤ b.f0
         ·rw [decide_eq_true l2, br_bad1]
          have l2' : ¬ b.f0 < lvl nodes b.f2 := by omega
          simp [okBr, l2']
         ·rw [decide_eq_false l2]
          rw [koineref02_branch.j1]
          rw [if_neg (by simp), show (0 : Int) = ((0 : Nat) : Int) from rfl, br_loop b r (by omega) hn _ 0 (Nat.zero_le _) (by omega)]
          have l1' : b.f0 < lvl nodes b.f1 := by omega
          have l2' : b.f0 < lvl nodes b.f2 := by omega
          simp [okBr, hA, l1', l2']
      ·rw [if_pos (by omega), br_bad]
       have : ¬ okA i b := fun h => g5 h.2.2.2.2.2.1
       simp [okBr, this]
     ·rw [if_pos (by omega), br_bad]
      have : ¬ okA i b := fun h => g4 h.2.2.2.2.1
      simp [okBr, this]
    ·rw [if_pos (by omega), br_bad]
     have : ¬ okA i b := fun h => g3 h.2.2.2.1
     simp [okBr, this]
   ·rw [if_pos (by omega), br_bad]
    have : ¬ okA i b := fun h => g2 h.2.2.1
    simp [okBr, this]
  ·rw [if_pos (by omega), br_bad]
   have : ¬ okA i b := fun h => g1 h.2.1
   simp [okBr, this]
 ·rw [if_pos (by omega), br_bad]
  have : ¬ okA i b := fun h => g0 h.1
  simp [okBr, this]

theorem sm_loop : ∀ (k : Nat) (xs ys : List Br) (r q : Int) (i : Nat), xs.length = ys.length → xs.length < 4294967296 → i ≤ xs.length → xs.length - i < k → koineref02_Same.l0 k i xs r ys q = some (decide (xs.drop i = ys.drop i)) := by
 intro k
 induction k with
 | zero => intro xs ys r q i h1 h2 h3 h4; omega
 | succ k ih =>
  intro xs ys r q i h1 h2 h3 h4
  unfold koineref02_Same.l0
  by_cases hi : i < xs.length
  ·rw [if_pos (by omega), if_pos (by omega), if_pos (by omega), w64 (by omega) (by omega)]
   have hx : rd_T74 xs i = xs[i] := by simp [rd_T74, List.getD_eq_getElem?_getD, hi]
   have hy : rd_T74 ys i = ys[i]'(by omega) := by simp [rd_T74, List.getD_eq_getElem?_getD, show i < ys.length by omega]
   rw [hx, hy, List.drop_eq_getElem_cons hi, List.drop_eq_getElem_cons (show i < ys.length by omega)]
   generalize xs[i] = a
   generalize ys[i]'(by omega) = b
   by_cases hab : a = b
   ·subst hab
    simp only [beq_self_eq_true, Bool.not_true, Bool.or_false, Bool.false_eq_true, if_false, List.cons.injEq, true_and]
    exact ih xs ys r q (i + 1) h1 h2 (by omega) (by omega)
   ·have hne : ¬ (a.f0 = b.f0 ∧ a.f1 = b.f1 ∧ a.f2 = b.f2) := by
     intro h; apply hab; cases a; cases b; simp_all
    rw [if_pos (by
     by_cases h0 : a.f0 = b.f0 <;> by_cases h1 : a.f1 = b.f1 <;> by_cases h2 : a.f2 = b.f2 <;> simp_all)]
    simp [hab]
  ·rw [if_neg (by omega), List.drop_eq_nil_of_le (by omega), List.drop_eq_nil_of_le (by omega)]
   simp

theorem rdg_same (xs ys : List Br) (r q : Int) (h : xs.length < 4294967296) : koineref02_Same.f (xs.length + 2) xs r ys q = some (decide (r = q ∧ xs = ys)) := by
 unfold koineref02_Same.f
 by_cases hr : r = q
 ·rw [if_pos hr]
  rw [koineref02_Same.j0]
  by_cases hl : xs.length = ys.length
  ·have hl' : (xs.length : Int) = ys.length := by omega
   rw [if_neg (by simp [hl']), show (0 : Int) = ((0 : Nat) : Int) from rfl, sm_loop _ xs ys r q 0 hl h (Nat.zero_le _) (by omega)]
   simp [hr]
  ·have hl' : ¬ (xs.length : Int) = ys.length := by omega
   rw [if_pos (by simp [hl'])]
   have : xs ≠ ys := fun h => hl (by rw [h])
   simp [this]
 ·rw [if_neg hr]
  rw [koineref02_Same.j0]
  rw [if_pos rfl]
  simp [hr]
end Go.Proofs.YtgpnpfjbkaehlaaDoor.Fm
namespace Go.Proofs.YtgpnpfjbkaehlaaDoor.Fm
open Go.RowKit Go.Proofs.YtgpnpfjbkaehlaaDoorW.PrintWords Go.Proofs.YtgpnpfjbkaehlaaDoor.Nt
set_option linter.unusedVariables false
set_option linter.unusedSimpArgs false

/-- The place of a branch in a list, counted from i. -/
def idxB : List Br → Br → Nat → Option Nat
 | [], _, _ => none
 | x :: r, b, i => if x = b then some i else idxB r b (i + 1)

/-- The number of a branch in a list of different branches, and the list with it. -/
def unqP (l : List Br) (b : Br) : List Br × Int :=
 if b.f1 = b.f2 then (l, b.f1) else match idxB l b 0 with
  | some i => (l, ((i + 2 : Nat) : Int))
  | none => (l ++ [b], ((l.length + 2 : Nat) : Int))

theorem unq_loop (l : List Br) (b : Br) (hn : l.length < 4294967296) : ∀ (k j : Nat), j ≤ l.length → l.length - j < k →
  koineref02_unique.l0 k l j b.f0 b.f1 b.f2 = some (match idxB (l.drop j) b j with | some i => (l, ((i + 2 : Nat) : Int)) | none => (l ++ [b], ((l.length + 2 : Nat) : Int))) := by
 intro k
 induction k with
 | zero => intro j h1 h2; omega
 | succ k ih =>
  intro j h1 h2
  unfold koineref02_unique.l0
  by_cases hj : j < l.length
  ·rw [if_pos (by omega), if_pos (by omega), w64 (by omega) (by omega), w64 (by omega) (by omega)]
   have hx : rd_T74 l j = l[j] := by simp [rd_T74, List.getD_eq_getElem?_getD, hj]
   rw [hx, br_eq, List.drop_eq_getElem_cons hj, idxB]
   by_cases hb : l[j] = b
   ·rw [decide_eq_true hb, if_pos rfl, if_pos hb]
    simp only [Option.some.injEq, Prod.mk.injEq, true_and]
    omega
   ·rw [decide_eq_false hb, if_neg (by simp), if_neg hb]
    have := ih (j + 1) (by omega) (by omega)
    rw [show ((j : Int) + 1) = ((j + 1 : Nat) : Int) by omega, this]
  ·rw [if_neg (by omega), if_pos (by omega), List.drop_eq_nil_of_le (by omega), idxB]
   simp only [Option.bind_some, List.length_append, List.length_singleton, Option.some.injEq, Prod.mk.injEq, true_and]
   rw [w64 (by omega) (by omega)]
   omega

theorem unq_is (l : List Br) (b : Br) (hn : l.length < 4294967296) : koineref02_unique.f (l.length + 1) l b.f0 b.f1 b.f2 = some ((unqP l b).1, (unqP l b).2) := by
 unfold koineref02_unique.f unqP
 by_cases h : b.f1 = b.f2
 ·rw [if_pos h, if_pos h]
 ·rw [if_neg h, if_neg h, show (0 : Int) = ((0 : Nat) : Int) from rfl, unq_loop l b hn _ 0 (Nat.zero_le _) (by omega)]
  rw [List.drop_zero]

/-- The numbers to which a number leads by a condition. -/
def sdP (nodes : List Br) (n v : Int) : Int × Int := if lvl nodes n = v then (match nodes[(n - 2).toNat]? with | some x => (x.f1, x.f2) | none => (n, n)) else (n, n)

theorem sd_is {nodes : List Br} (r : Int) {n v : Int} (h0 : 0 ≤ n) (h1 : n < nodes.length + 2) (h : nodes.length < 4294967296) (hv : v < 64) : koineref02_sides.f nodes r n v = some (sdP nodes n v) := by
 unfold koineref02_sides.f sdP
 rw [rlvl_is r h0 h1 h]
 simp only [Option.bind_some]
 by_cases hl : lvl nodes n = v
 ·rw [if_pos hl, if_pos hl]
  have hn2 : 2 ≤ n := by
   by_cases hn : n < 2
   ·rw [lvl, if_pos hn] at hl; omega
   ·omega
  have hlt : (n - 2).toNat < nodes.length := by omega
  rw [w64 (by omega) (by omega)]
  simp [rd_T74, List.getD_eq_getElem?_getD, hlt]
  try omega
 ·rw [if_neg hl, if_neg hl]

/-- The result of an operation for two constants. -/
def conP (op x y : Int) : Int := if op = 0 then x * y else if op = 1 then max x y else Int.tmod (x + y) 2

/-- What an application has made: the branches; the pairs of numbers with the number of their result (told as branches: f0, f1 the pair, f2 the result). -/
structure AS where
 nodes : List Br
 seen : List Br

/-- The result that was seen for two numbers. -/
def findS : List Br → Int → Int → Option Int
 | [], _, _ => none
 | e :: r, x, y => if e.f0 = x ∧ e.f1 = y then some e.f2 else findS r x y

/-- The application of an operation to two numbers, k levels deep at most. -/
def apP (a b : List Br) (op : Int) : Nat → Int → Int → AS → Int × AS
 | 0, _, _, s => (0, s)
 | k + 1, x, y, s =>
  if x < 2 ∧ y < 2 then (conP op x y, s) else match findS s.seen x y with
  | some r => (r, s)
  | none =>
   let v := min (lvl a x) (lvl b y)
   let r1 := apP a b op k (sdP a x v).1 (sdP b y v).1 s
   let r2 := apP a b op k (sdP a x v).2 (sdP b y v).2 r1.2
   let u := unqP r2.2.nodes ⟨v, r1.1, r2.1⟩
   (u.2, ⟨u.1, r2.2.seen ++ [⟨x, y, u.2⟩]⟩)

theorem unq_le (l : List Br) (b : Br) : l.length ≤ (unqP l b).1.length ∧ (unqP l b).1.length ≤ l.length + 1 := by
 unfold unqP
 split
 ·exact ⟨Nat.le_refl _, Nat.le_succ _⟩
 ·split
  ·exact ⟨Nat.le_refl _, Nat.le_succ _⟩
  ·simp

theorem ap_le (a b : List Br) (op : Int) : ∀ (k : Nat) (x y : Int) (s : AS), s.nodes.length ≤ (apP a b op k x y s).2.nodes.length ∧ s.seen.length ≤ (apP a b op k x y s).2.seen.length := by
 intro k
 induction k with
 | zero => intro x y s; exact ⟨Nat.le_refl _, Nat.le_refl _⟩
 | succ k ih =>
  intro x y s
  rw [apP]
  split
  ·exact ⟨Nat.le_refl _, Nat.le_refl _⟩
  ·split
   ·exact ⟨Nat.le_refl _, Nat.le_refl _⟩
   ·dsimp only
    have h1 := ih (sdP a x (min (lvl a x) (lvl b y))).1 (sdP b y (min (lvl a x) (lvl b y))).1 s
    generalize apP a b op k (sdP a x (min (lvl a x) (lvl b y))).1 (sdP b y (min (lvl a x) (lvl b y))).1 s = r1 at h1 ⊢
    have h2 := ih (sdP a x (min (lvl a x) (lvl b y))).2 (sdP b y (min (lvl a x) (lvl b y))).2 r1.2
    generalize apP a b op k (sdP a x (min (lvl a x) (lvl b y))).2 (sdP b y (min (lvl a x) (lvl b y))).2 r1.2 = r2 at h2 ⊢
    have h3 := unq_le r2.2.nodes ⟨min (lvl a x) (lvl b y), r1.1, r2.1⟩
    refine ⟨by omega, ?_⟩
    rw [List.length_append]
    simp only [List.length_singleton]
    omega
end Go.Proofs.YtgpnpfjbkaehlaaDoor.Fm
namespace Go.Proofs.YtgpnpfjbkaehlaaDoor.Fm
set_option linter.unusedVariables false
set_option linter.unusedSimpArgs false

set_option maxRecDepth 10000 in
theorem xor_nodes : (apP [⟨0, 0, 1⟩] [⟨1, 0, 1⟩] 2 20 2 2 ⟨[], []⟩).1 = 4 ∧ (apP [⟨0, 0, 1⟩] [⟨1, 0, 1⟩] 2 20 2 2 ⟨[], []⟩).2.nodes = [⟨1, 0, 1⟩, ⟨1, 1, 0⟩, ⟨0, 2, 3⟩] := by decide +kernel

set_option maxRecDepth 10000 in
theorem xor_dg : (dgP [⟨1, 0, 1⟩, ⟨1, 1, 0⟩, ⟨0, 2, 3⟩] 4).1 = 4 ∧ (dgP [⟨1, 0, 1⟩, ⟨1, 1, 0⟩, ⟨0, 2, 3⟩] 4).2.out = [⟨1, 0, 1⟩, ⟨1, 1, 0⟩, ⟨0, 2, 3⟩] := by decide +kernel

set_option maxRecDepth 10000 in
theorem xor_of : ofP [⟨1, 0, 1⟩, ⟨1, 1, 0⟩, ⟨0, 2, 3⟩] 4 = ([⟨2, 0, 0, 0⟩, ⟨2, 1, 0, 0⟩, ⟨3, 0, 1, 0⟩, ⟨4, 0, 0, 2⟩, ⟨2, 0, 0, 0⟩, ⟨3, 0, 4, 0⟩, ⟨2, 1, 0, 0⟩, ⟨4, 0, 5, 6⟩, ⟨5, 0, 3, 7⟩], 0) := by decide +kernel
end Go.Proofs.YtgpnpfjbkaehlaaDoor.Fm
namespace Go.Proofs.YtgpnpfjbkaehlaaDoor.Fm
set_option linter.unusedVariables false
set_option linter.unusedSimpArgs false

inductive DT where
 | lf (b : Bool)
 | nd (v : Int) (lo hi : DT)

def DT.size : DT → Nat
 | .lf _ => 1
 | .nd _ l h => l.size + h.size + 1

/-- The value in a configuration. -/
def DT.ev : DT → (Int → Bool) → Bool
 | .lf b, _ => b
 | .nd v l h, c => if c v then h.ev c else l.ev c

/-- Reduced, and ordered from a condition on. -/
def DT.Ord : DT → Int → Prop
 | .lf _, _ => True
 | .nd u l h, v => v ≤ u ∧ l ≠ h ∧ l.Ord (u + 1) ∧ h.Ord (u + 1)

def DT.top : DT → Int
 | .lf _ => 64
 | .nd v _ _ => v

theorem DT.Ord.mono {t : DT} {u v : Int} (h : t.Ord v) (huv : u ≤ v) : t.Ord u := by
 cases t with
 | lf b => trivial
 | nd w l r => exact ⟨Int.le_trans huv h.1, h.2⟩

theorem ev_indep : ∀ {t : DT} {v : Int} {c d : Int → Bool}, t.Ord v → (∀ x, v ≤ x → c x = d x) → t.ev c = t.ev d := by
 intro t
 induction t with
 | lf b => intro v c d _ _; rfl
 | nd u l h ihl ihh =>
  intro v c d ho hc
  obtain ⟨h1, _, h3, h4⟩ := ho
  simp only [DT.ev]
  rw [hc u h1, ihl h3 (fun x hx => hc x (by omega)), ihh h4 (fun x hx => hc x (by omega))]

def upd (c : Int → Bool) (u : Int) (b : Bool) : Int → Bool := fun x => if x = u then b else c x
theorem upd_same (c : Int → Bool) (u : Int) (b : Bool) : upd c u b u = b := if_pos rfl
theorem ev_upd {t : DT} {u : Int} (h : t.Ord (u + 1)) (c : Int → Bool) (b : Bool) : t.ev (upd c u b) = t.ev c :=
 ev_indep h (fun x hx => by unfold upd; rw [if_neg (by omega)])

theorem canon_le : ∀ (n : Nat) (s t : DT) (v : Int), s.size + t.size ≤ n → s.Ord v → t.Ord v → (∀ c, s.ev c = t.ev c) → s = t := by
 intro n
 induction n with
 | zero => intro s t v h; cases s <;> simp [DT.size] at h
 | succ n ih =>
  -- a tree that starts at u is not one that starts later
  have diff : ∀ (u : Int) (l h t : DT), l.size + h.size ≤ n → l ≠ h → l.Ord (u + 1) → h.Ord (u + 1) → t.Ord (u + 1) → ¬ ∀ c, (DT.nd u l h).ev c = t.ev c := by
   intro u l h t hs hne hl hh ht he
   refine hne (ih l h (u + 1) hs hl hh fun c => ?_)
   have h0 := he (upd c u false)
   have h1 := he (upd c u true)
   simp only [DT.ev, upd_same, if_true, Bool.false_eq_true, if_false] at h0 h1
   rw [ev_upd hl, ev_upd ht] at h0
   rw [ev_upd hh, ev_upd ht] at h1
   rw [h0, h1]
  intro s t v hs ho1 ho2 he
  cases s with
  | lf a =>
   cases t with
   | lf b => have := he (fun _ => false); simp only [DT.ev] at this; rw [this]
   | nd u l h =>
    simp only [DT.size] at hs
    exact absurd (fun c => (he c).symm) (diff u l h (.lf a) (by omega) ho2.2.1 ho2.2.2.1 ho2.2.2.2 trivial)
  | nd u l h =>
   cases t with
   | lf b =>
    simp only [DT.size] at hs
    exact absurd he (diff u l h (.lf b) (by omega) ho1.2.1 ho1.2.2.1 ho1.2.2.2 trivial)
   | nd u' l' h' =>
    simp only [DT.size] at hs
    obtain ⟨a1, a2, a3, a4⟩ := ho1
    obtain ⟨b1, b2, b3, b4⟩ := ho2
    by_cases hlt : u < u'
    ·exact absurd he (diff u l h _ (by omega) a2 a3 a4 ⟨by omega, b2, b3, b4⟩)
    ·by_cases hgt : u' < u
     ·exact absurd (fun c => (he c).symm) (diff u' l' h' _ (by omega) b2 b3 b4 ⟨by omega, a2, a3, a4⟩)
     ·obtain rfl : u = u' := by omega
      have hl : l = l' := ih l l' (u + 1) (by omega) a3 b3 fun c => by
       have := he (upd c u false)
       simp only [DT.ev, upd_same, Bool.false_eq_true, if_false] at this
       rwa [ev_upd a3, ev_upd b3] at this
      have hh : h = h' := ih h h' (u + 1) (by omega) a4 b4 fun c => by
       have := he (upd c u true)
       simp only [DT.ev, upd_same, if_true] at this
       rwa [ev_upd a4, ev_upd b4] at this
      rw [hl, hh]

theorem canon {s t : DT} {v : Int} (h1 : s.Ord v) (h2 : t.Ord v) (he : ∀ c, s.ev c = t.ev c) : s = t := canon_le _ s t v (Nat.le_refl _) h1 h2 he

/-- The tree of a number, k levels deep at most. -/
def tk (nodes : List Br) : Nat → Int → DT
 | 0, _ => .lf false
 | k + 1, n => if n < 2 then .lf (decide (n = 1)) else match nodes[(n - 2).toNat]? with
  | some b => .nd b.f0 (tk nodes k b.f1) (tk nodes k b.f2)
  | none => .lf false

def T (nodes : List Br) (n : Int) : DT := tk nodes (n.toNat + 1) n

theorem tk_fuel {nodes : List Br} (hd : Dn nodes) : ∀ (k k' : Nat) (n : Int), n.toNat < k → n.toNat < k' → tk nodes k n = tk nodes k' n := by
 intro k
 induction k with
 | zero => intro k' n h; omega
 | succ k ih =>
  intro k' n h h'
  obtain ⟨j, rfl⟩ : ∃ j, k' = j + 1 := ⟨k' - 1, by omega⟩
  rw [tk, tk]
  split
  ·rfl
  ·rename_i hn
   cases hx : nodes[(n - 2).toNat]? with
   | none => rfl
   | some b =>
    obtain ⟨d1, d2, d3, d4⟩ := hd _ b hx
    dsimp only
    rw [ih j b.f1 (by omega) (by omega), ih j b.f2 (by omega) (by omega)]

theorem T_0 (nodes : List Br) : T nodes 0 = .lf false := rfl
theorem T_1 (nodes : List Br) : T nodes 1 = .lf true := rfl
theorem T_nd {nodes : List Br} (hd : Dn nodes) {n : Int} {b : Br} (h2 : 2 ≤ n) (hb : nodes[(n - 2).toNat]? = some b) : T nodes n = .nd b.f0 (T nodes b.f1) (T nodes b.f2) := by
 obtain ⟨d1, d2, d3, d4⟩ := hd _ b hb
 rw [T, tk, if_neg (by omega), hb]
 dsimp only
 rw [tk_fuel hd n.toNat (b.f1.toNat + 1) b.f1 (by omega) (by omega), tk_fuel hd n.toNat (b.f2.toNat + 1) b.f2 (by omega) (by omega)]
 rfl

theorem tk_app {nodes : List Br} (hd : Dn nodes) (g : List Br) : ∀ (k : Nat) (n : Int), n < nodes.length + 2 → tk (nodes ++ g) k n = tk nodes k n := by
 intro k
 induction k with
 | zero => intro n _; rfl
 | succ k ih =>
  intro n hn
  rw [tk, tk]
  split
  ·rfl
  ·rename_i h2
   rw [List.getElem?_append_left (by omega)]
   cases hx : nodes[(n - 2).toNat]? with
   | none => rfl
   | some b =>
    obtain ⟨d1, d2, d3, d4⟩ := hd _ b hx
    dsimp only
    rw [ih b.f1 (by omega), ih b.f2 (by omega)]
theorem T_app {nodes : List Br} (hd : Dn nodes) (g : List Br) {n : Int} (hn : n < nodes.length + 2) : T (nodes ++ g) n = T nodes n := tk_app hd g _ n hn

/-- Branches that are well-formed. -/
def BD (nodes : List Br) : Prop := ∀ (i : Nat) (b : Br), nodes[i]? = some b → okA i b ∧ b ∉ nodes.take i ∧ b.f0 < lvl nodes b.f1 ∧ b.f0 < lvl nodes b.f2

theorem BD.dn {nodes : List Br} (h : BD nodes) : Dn nodes := by
 intro i x hx
 obtain ⟨⟨_, _, h1, h2, h3, h4, _⟩, _⟩ := h i x hx
 omega

theorem bd_of_ok {nodes : List Br} (h : okD nodes nodes.length = true) : BD nodes := by
 intro i b hb
 have := okD_at h i b (List.getElem?_eq_some_iff.1 hb).1 hb
 simp only [okBr, Bool.and_eq_true, decide_eq_true_eq, Bool.not_eq_true', decide_eq_false_iff_not] at this
 exact ⟨this.1.1.1, this.1.1.2, this.1.2, this.2⟩
theorem ok_of_bd {nodes : List Br} (h : BD nodes) : okD nodes nodes.length = true := by
 have : ∀ k, k ≤ nodes.length → okD nodes k = true := by
  intro k
  induction k with
  | zero => intro _; rfl
  | succ k ih =>
   intro hk
   have hx : nodes[k]? = some nodes[k] := List.getElem?_eq_getElem (by omega)
   rw [okD, ih (by omega), hx]
   obtain ⟨h1, h2, h3, h4⟩ := h k _ hx
   simp only [okBr, h1, h2, h3, h4, decide_true, decide_false, Bool.not_false, Bool.and_self]
 exact this _ (Nat.le_refl _)

theorem lvl_lt {nodes : List Br} {n : Int} (h : n < 2) : lvl nodes n = 64 := by rw [lvl, if_pos h]
theorem lvl_nd {nodes : List Br} {n : Int} {b : Br} (h : 2 ≤ n) (hb : nodes[(n - 2).toNat]? = some b) : lvl nodes n = b.f0 := by rw [lvl, if_neg (by omega), hb]
theorem lvl_app {nodes : List Br} (g : List Br) {n : Int} (hn : n < nodes.length + 2) : lvl (nodes ++ g) n = lvl nodes n := by
 unfold lvl
 split
 ·rfl
 ·rw [List.getElem?_append_left (by omega)]
theorem num_nd {nodes : List Br} {n : Int} (h2 : 2 ≤ n) (hn : n < nodes.length + 2) : ∃ b, nodes[(n - 2).toNat]? = some b := ⟨_, List.getElem?_eq_getElem (by omega)⟩

theorem lvl_top {nodes : List Br} (hd : Dn nodes) {n : Int} (h0 : 0 ≤ n) (hn : n < nodes.length + 2) : lvl nodes n = (T nodes n).top := by
 by_cases h2 : n < 2
 ·have : n = 0 ∨ n = 1 := by omega
  rcases this with rfl | rfl <;> rfl
 ·obtain ⟨b, hb⟩ := num_nd (by omega) hn
  rw [T_nd hd (by omega) hb, lvl_nd (by omega) hb]; rfl

theorem T_inj {nodes : List Br} (h : BD nodes) : ∀ (k : Nat) (m n : Int), m.toNat + n.toNat < k → 0 ≤ m → m < nodes.length + 2 → 0 ≤ n → n < nodes.length + 2 → T nodes m = T nodes n → m = n := by
 intro k
 induction k with
 | zero => intro m n h; omega
 | succ k ih =>
  intro m n hk m0 m1 n0 n1 he
  have hd := h.dn
  by_cases hm : m < 2
  ·have hm' : m = 0 ∨ m = 1 := by omega
   by_cases hn : n < 2
   ·have hn' : n = 0 ∨ n = 1 := by omega
    rcases hm' with rfl | rfl <;> rcases hn' with rfl | rfl <;> first | rfl | (simp [T_0, T_1] at he)
   ·obtain ⟨b, hb⟩ := num_nd (by omega) n1
    rw [T_nd hd (by omega) hb] at he
    rcases hm' with rfl | rfl <;> simp [T_0, T_1] at he
  ·obtain ⟨a, ha⟩ := num_nd (by omega) m1
   rw [T_nd hd (by omega) ha] at he
   by_cases hn : n < 2
   ·have hn' : n = 0 ∨ n = 1 := by omega
    rcases hn' with rfl | rfl <;> simp [T_0, T_1] at he
   ·obtain ⟨b, hb⟩ := num_nd (by omega) n1
    rw [T_nd hd (by omega) hb] at he
    obtain ⟨e0, e1, e2⟩ := DT.nd.inj he
    obtain ⟨a1, a2, a3, a4⟩ := hd _ a ha
    obtain ⟨b1, b2, b3, b4⟩ := hd _ b hb
    have f1 := ih a.f1 b.f1 (by omega) (by omega) (by omega) (by omega) (by omega) e1
    have f2 := ih a.f2 b.f2 (by omega) (by omega) (by omega) (by omega) (by omega) e2
    have hab : a = b := by cases a; cases b; simp_all
    subst hab
    by_cases hlt : m < n
    ·have := (h _ _ hb).2.1
     exact absurd (List.mem_of_getElem? (i := (m - 2).toNat) (by rw [List.getElem?_take, if_pos (by omega)]; exact ha)) this
    ·by_cases hgt : n < m
     ·have := (h _ _ ha).2.1
      exact absurd (List.mem_of_getElem? (i := (n - 2).toNat) (by rw [List.getElem?_take, if_pos (by omega)]; exact hb)) this
     ·omega

theorem BD.inj {nodes : List Br} (h : BD nodes) {m n : Int} (m0 : 0 ≤ m) (m1 : m < nodes.length + 2) (n0 : 0 ≤ n) (n1 : n < nodes.length + 2) (he : T nodes m = T nodes n) : m = n := T_inj h _ m n (Nat.lt_succ_self _) m0 m1 n0 n1 he

theorem T_ord_le {nodes : List Br} (h : BD nodes) : ∀ (k : Nat) (n v : Int), n.toNat < k → 0 ≤ n → n < nodes.length + 2 → v ≤ lvl nodes n → (T nodes n).Ord v := by
 intro k
 induction k with
 | zero => intro n v h; omega
 | succ k ih =>
  intro n v hk n0 n1 hv
  by_cases hn : n < 2
  ·have hn' : n = 0 ∨ n = 1 := by omega
   rcases hn' with rfl | rfl <;> trivial
  ·obtain ⟨b, hb⟩ := num_nd (by omega) n1
   obtain ⟨d1, d2, d3, d4⟩ := h.dn _ b hb
   obtain ⟨ho, _, l1, l2⟩ := h _ b hb
   rw [lvl_nd (by omega) hb] at hv
   rw [T_nd h.dn (by omega) hb]
   refine ⟨hv, ?_, ih b.f1 _ (by omega) d1 (by omega) (by omega), ih b.f2 _ (by omega) d3 (by omega) (by omega)⟩
   intro e
   exact ho.2.2.2.2.2.2 (h.inj d1 (by omega) d3 (by omega) e)
theorem BD.ord {nodes : List Br} (h : BD nodes) {n v : Int} (n0 : 0 ≤ n) (n1 : n < nodes.length + 2) (hv : v ≤ lvl nodes n) : (T nodes n).Ord v := T_ord_le h _ n v (Nat.lt_succ_self _) n0 n1 hv
theorem BD.lvl0 {nodes : List Br} (h : BD nodes) {n : Int} (n0 : 0 ≤ n) (n1 : n < nodes.length + 2) : 0 ≤ lvl nodes n ∧ lvl nodes n ≤ 64 := by
 by_cases hn : n < 2
 ·rw [lvl_lt hn]; omega
 ·obtain ⟨b, hb⟩ := num_nd (by omega) n1
  rw [lvl_nd (by omega) hb]
  have := (h _ b hb).1
  unfold okA at this
  omega

theorem BD.nil : BD [] := by intro i b h; simp at h

theorem BD.snoc {nodes : List Br} (h : BD nodes) {b : Br} (h1 : okA nodes.length b) (h2 : b ∉ nodes) (h3 : b.f0 < lvl nodes b.f1) (h4 : b.f0 < lvl nodes b.f2) : BD (nodes ++ [b]) := by
 intro i x hx
 have hl : i < (nodes ++ [b]).length := (List.getElem?_eq_some_iff.1 hx).1
 rw [List.length_append, List.length_singleton] at hl
 by_cases hi : i < nodes.length
 ·rw [List.getElem?_append_left hi] at hx
  obtain ⟨k1, k2, k3, k4⟩ := h i x hx
  obtain ⟨d1, d2, d3, d4⟩ := h.dn i x hx
  refine ⟨k1, ?_, by rw [lvl_app _ (by omega)]; exact k3, by rw [lvl_app _ (by omega)]; exact k4⟩
  rw [List.take_append_of_le_length (by omega)]
  exact k2
 ·obtain rfl : i = nodes.length := by omega
  obtain rfl : b = x := by simpa using hx
  have ha := h1
  unfold okA at ha
  refine ⟨h1, ?_, by rw [lvl_app _ (by omega)]; exact h3, by rw [lvl_app _ (by omega)]; exact h4⟩
  rw [List.take_append_of_le_length (Nat.le_refl _), List.take_length]
  exact h2
end Go.Proofs.YtgpnpfjbkaehlaaDoor.Fm
namespace Go.Proofs.YtgpnpfjbkaehlaaDoor.Fm
set_option linter.unusedVariables false
set_option linter.unusedSimpArgs false

/-- What a numbering has made of the branches. -/
structure VInv (nodes : List Br) (s : VS) : Prop where
 bd : BD s.out
 ok : s.Ok
 fwd : ∀ n m : Int, 0 ≤ n → n < nodes.length + 2 → s.num n = some m → 0 ≤ m ∧ m < s.out.length + 2 ∧ T s.out m = T nodes n
 sur : ∀ j : Nat, j < s.out.length → ∃ n : Int, 0 ≤ n ∧ n < nodes.length + 2 ∧ s.num n = some ((j + 2 : Nat) : Int)

/-- One numbering after another. -/
structure VExt (s s' : VS) : Prop where
 out : ∃ g, s'.out = s.out ++ g
 num : ∀ y m, s.num y = some m → s'.num y = some m

theorem VExt.refl (s : VS) : VExt s s := ⟨⟨[], by simp⟩, fun _ _ h => h⟩
theorem VExt.trans {s t u : VS} (h : VExt s t) (k : VExt t u) : VExt s u := by
 obtain ⟨g, hg⟩ := h.out
 obtain ⟨g', hg'⟩ := k.out
 exact ⟨⟨g ++ g', by rw [hg', hg, List.append_assoc]⟩, fun y m hm => k.num y m (h.num y m hm)⟩

theorem okA_mk {nodes : List Br} {x : Br} {r1 r2 : Int} {L : Nat} (hx : 0 ≤ x.f0 ∧ x.f0 ≤ 63) (h1 : 0 ≤ r1 ∧ r1 < L + 2) (h2 : 0 ≤ r2 ∧ r2 < L + 2) (hne : r1 ≠ r2) : okA L ⟨x.f0, r1, r2⟩ := by
 unfold okA
 dsimp only
 exact ⟨hx.1, hx.2, h1.1, h2.1, by omega, by omega, hne⟩

theorem vis_inv {nodes : List Br} (hB : BD nodes) : ∀ (k : Nat) (n : Int) (s : VS), VInv nodes s → 0 ≤ n → n.toNat < k → n < nodes.length + 2 →
  VInv nodes (visP nodes k n s).2 ∧ VExt s (visP nodes k n s).2 ∧ (visP nodes k n s).2.num n = some (visP nodes k n s).1 ∧ ∀ y, n < y → (visP nodes k n s).2.num y = s.num y := by
 intro k
 induction k with
 | zero => intro n s _ _ h; omega
 | succ k ih =>
  intro n s hs h0 hk h1
  cases hn : s.num n with
  | some m =>
   rw [vis_hit hn]
   exact ⟨hs, VExt.refl _, hn, fun _ _ => rfl⟩
  | none =>
   have hn2 : 2 ≤ n := by
    have e0 : n ≠ 0 := by rintro rfl; rw [hs.ok.1] at hn; cases hn
    have e1 : n ≠ 1 := by rintro rfl; rw [hs.ok.2] at hn; cases hn
    omega
   obtain ⟨x, hx⟩ := num_nd hn2 h1
   obtain ⟨d1, d2, d3, d4⟩ := hB.dn _ x hx
   obtain ⟨ha, hdup, l1, l2⟩ := hB _ x hx
   rw [vis_new hn hx]
   obtain ⟨i1, e1, v1, u1⟩ := ih x.f1 s hs d1 (by omega) (by omega)
   generalize hr1 : visP nodes k x.f1 s = r1 at i1 e1 v1 u1 ⊢
   obtain ⟨i2, e2, v2, u2⟩ := ih x.f2 r1.2 i1 d3 (by omega) (by omega)
   generalize hr2 : visP nodes k x.f2 r1.2 = r2 at i2 e2 v2 u2 ⊢
   have w1 := e2.num _ _ v1
   obtain ⟨a0, a1, aT⟩ := i2.fwd _ _ d1 (by omega) w1
   obtain ⟨b0, b1, bT⟩ := i2.fwd _ _ d3 (by omega) v2
   have hun : ∀ y, n ≤ y → r2.2.num y = s.num y := fun y hy => by rw [u2 y (by omega), u1 y (by omega)]
   have hne : r1.1 ≠ r2.1 := by
    intro e
    have hT : T nodes x.f1 = T nodes x.f2 := by rw [← aT, ← bT, e]
    exact ha.2.2.2.2.2.2 (hB.inj d1 (by omega) d3 (by omega) hT)
   have hT2 := T_nd hB.dn hn2 hx
   have hnd : (⟨x.f0, r1.1, r2.1⟩ : Br) ∉ r2.2.out := by
    intro hm
    obtain ⟨j, hj⟩ := List.getElem?_of_mem hm
    have hjl := (List.getElem?_eq_some_iff.1 hj).1
    obtain ⟨n', n0', n1', hn'⟩ := i2.sur j hjl
    obtain ⟨_, _, hT'⟩ := i2.fwd _ _ n0' n1' hn'
    have hj2 : r2.2.out[((((j + 2 : Nat) : Int)) - 2).toNat]? = some ⟨x.f0, r1.1, r2.1⟩ := by rw [show ((((j + 2 : Nat) : Int)) - 2).toNat = j by omega]; exact hj
    rw [T_nd i2.bd.dn (by omega) hj2] at hT'
    dsimp only at hT'
    rw [aT, bT, ← hT2] at hT'
    have := hB.inj h0 h1 n0' n1' hT'
    subst this
    rw [hun _ (by omega), hn] at hn'
    cases hn'
   have hbd : BD (r2.2.out ++ [⟨x.f0, r1.1, r2.1⟩]) := by
    refine i2.bd.snoc (okA_mk (nodes := nodes) (by unfold okA at ha; omega) ⟨a0, a1⟩ ⟨b0, b1⟩ hne) hnd ?_ ?_
    ·show x.f0 < lvl r2.2.out r1.1
     rw [lvl_top i2.bd.dn a0 a1, aT, ← lvl_top hB.dn d1 (by omega)]; exact l1
    ·show x.f0 < lvl r2.2.out r2.1
     rw [lvl_top i2.bd.dn b0 b1, bT, ← lvl_top hB.dn d3 (by omega)]; exact l2
   have hTn : T (r2.2.out ++ [⟨x.f0, r1.1, r2.1⟩]) ((r2.2.out.length + 2 : Nat) : Int) = T nodes n := by
    have hg : (r2.2.out ++ [(⟨x.f0, r1.1, r2.1⟩ : Br)])[((((r2.2.out.length + 2 : Nat) : Int)) - 2).toNat]? = some ⟨x.f0, r1.1, r2.1⟩ := by
     rw [show ((((r2.2.out.length + 2 : Nat) : Int)) - 2).toNat = r2.2.out.length by omega]; simp
    rw [T_nd hbd.dn (by omega) hg]
    dsimp only
    rw [T_app i2.bd.dn _ a1, T_app i2.bd.dn _ b1, aT, bT, hT2]
   refine ⟨⟨hbd, ⟨?_, ?_⟩, ?_, ?_⟩, (e1.trans e2).trans ⟨⟨_, rfl⟩, ?_⟩, ?_, ?_⟩
   ·show (if (0 : Int) = n then _ else _) = _
    rw [if_neg (by omega)]; exact i2.ok.1
   ·show (if (1 : Int) = n then _ else _) = _
    rw [if_neg (by omega)]; exact i2.ok.2
   ·intro y m y0 y1 hm
    change (if y = n then some (((r2.2.out.length + 2 : Nat) : Int)) else r2.2.num y) = some m at hm
    show 0 ≤ m ∧ m < ((r2.2.out ++ [(⟨x.f0, r1.1, r2.1⟩ : Br)]).length : Int) + 2 ∧ T (r2.2.out ++ [⟨x.f0, r1.1, r2.1⟩]) m = T nodes y
    rw [List.length_append, List.length_singleton]
    split at hm
    ·rename_i e
     injection hm with hm
     subst e; subst hm
     exact ⟨by omega, by omega, hTn⟩
    ·obtain ⟨m0, m1, mT⟩ := i2.fwd y m y0 y1 hm
     exact ⟨m0, by omega, by rw [T_app i2.bd.dn _ m1, mT]⟩
   ·intro j hj
    change j < (r2.2.out ++ [(⟨x.f0, r1.1, r2.1⟩ : Br)]).length at hj
    rw [List.length_append, List.length_singleton] at hj
    by_cases hjl : j < r2.2.out.length
    ·obtain ⟨n', n0', n1', hn'⟩ := i2.sur j hjl
     refine ⟨n', n0', n1', ?_⟩
     show (if n' = n then _ else _) = _
     rw [if_neg ?_]
     ·exact hn'
     ·rintro rfl
      rw [hun _ (by omega), hn] at hn'
      cases hn'
    ·refine ⟨n, h0, h1, ?_⟩
     show (if n = n then _ else _) = _
     rw [if_pos rfl, show j = r2.2.out.length by omega]
   ·intro y m hm
    show (if y = n then _ else _) = _
    rw [if_neg ?_]
    ·exact hm
    ·rintro rfl
     rw [hun _ (by omega), hn] at hm
     cases hm
   ·show (if n = n then _ else _) = _
    rw [if_pos rfl]
   ·intro y hy
    show (if y = n then _ else _) = _
    rw [if_neg (by omega)]
    exact hun y (by omega)

theorem vs0_inv (nodes : List Br) : VInv nodes ⟨fun y => if y = 1 then some 1 else if y = 0 then some 0 else none, []⟩ := by
 refine ⟨BD.nil, ⟨rfl, rfl⟩, ?_, ?_⟩
 ·intro n m h0 h1 hm
  dsimp only at hm
  split at hm
  ·rename_i e; injection hm with hm; subst e; subst hm; exact ⟨by omega, by simp, rfl⟩
  ·split at hm
   ·rename_i e; injection hm with hm; subst e; subst hm; exact ⟨by omega, by simp, rfl⟩
   ·cases hm
 ·intro j hj; cases hj

/-- Two numberings of branches with the same trees. -/
structure VSim (n1 n2 : List Br) (s1 s2 : VS) : Prop where
 out : s1.out = s2.out
 num : ∀ m1 m2 : Int, 0 ≤ m1 → m1 < n1.length + 2 → 0 ≤ m2 → m2 < n2.length + 2 → T n1 m1 = T n2 m2 → s1.num m1 = s2.num m2

theorem vis_sim {n1 n2 : List Br} (h1 : BD n1) (h2 : BD n2) : ∀ (k1 k2 : Nat) (x1 x2 : Int) (s1 s2 : VS), VSim n1 n2 s1 s2 → s1.Ok → s2.Ok → 0 ≤ x1 → x1 < n1.length + 2 → 0 ≤ x2 → x2 < n2.length + 2 → x1.toNat < k1 → x2.toNat < k2 → T n1 x1 = T n2 x2 →
  (visP n1 k1 x1 s1).1 = (visP n2 k2 x2 s2).1 ∧ VSim n1 n2 (visP n1 k1 x1 s1).2 (visP n2 k2 x2 s2).2 := by
 intro k1
 induction k1 with
 | zero => intro k2 x1 x2 s1 s2 _ _ _ _ _ _ _ h; omega
 | succ k1 ih =>
  intro k2 x1 x2 s1 s2 hs o1 o2 a0 a1 b0 b1 hk1 hk2 hT
  obtain ⟨k2, rfl⟩ : ∃ j, k2 = j + 1 := ⟨k2 - 1, by omega⟩
  have hnum := hs.num x1 x2 a0 a1 b0 b1 hT
  cases hn : s1.num x1 with
  | some m =>
   rw [hn] at hnum
   rw [vis_hit hn, vis_hit hnum.symm]
   exact ⟨rfl, hs⟩
  | none =>
   rw [hn] at hnum
   have hnum := hnum.symm
   have hx1 : 2 ≤ x1 := by
    have e0 : x1 ≠ 0 := by rintro rfl; rw [o1.1] at hn; cases hn
    have e1 : x1 ≠ 1 := by rintro rfl; rw [o1.2] at hn; cases hn
    omega
   have hx2 : 2 ≤ x2 := by
    have e0 : x2 ≠ 0 := by rintro rfl; rw [o2.1] at hnum; cases hnum
    have e1 : x2 ≠ 1 := by rintro rfl; rw [o2.2] at hnum; cases hnum
    omega
   obtain ⟨y1, hy1⟩ := num_nd hx1 a1
   obtain ⟨y2, hy2⟩ := num_nd hx2 b1
   obtain ⟨c1, c2, c3, c4⟩ := h1.dn _ y1 hy1
   obtain ⟨d1, d2, d3, d4⟩ := h2.dn _ y2 hy2
   have hT' := hT
   rw [T_nd h1.dn hx1 hy1, T_nd h2.dn hx2 hy2] at hT'
   obtain ⟨e0, e1, e2⟩ := DT.nd.inj hT'
   rw [vis_new hn hy1, vis_new hnum hy2]
   obtain ⟨p1, p2⟩ := ih k2 y1.f1 y2.f1 s1 s2 hs o1 o2 c1 (by omega) d1 (by omega) (by omega) (by omega) e1
   have q1 := (vis_ok n1 k1 y1.f1 s1 o1).1
   have q2 := (vis_ok n2 k2 y2.f1 s2 o2).1
   generalize visP n1 k1 y1.f1 s1 = r1 at p1 p2 q1 ⊢
   generalize visP n2 k2 y2.f1 s2 = t1 at p1 p2 q2 ⊢
   obtain ⟨p3, p4⟩ := ih k2 y1.f2 y2.f2 r1.2 t1.2 p2 q1 q2 c3 (by omega) d3 (by omega) (by omega) (by omega) e2
   generalize visP n1 k1 y1.f2 r1.2 = r2 at p3 p4 ⊢
   generalize visP n2 k2 y2.f2 t1.2 = t2 at p3 p4 ⊢
   refine ⟨by rw [p4.out], ?_, ?_⟩
   ·show r2.2.out ++ [(⟨y1.f0, r1.1, r2.1⟩ : Br)] = t2.2.out ++ [⟨y2.f0, t1.1, t2.1⟩]
    rw [p4.out, e0, p1, p3]
   ·intro m1 m2 g0 g1 g2 g3 hm
    show (if m1 = x1 then some (((r2.2.out.length + 2 : Nat) : Int)) else r2.2.num m1) = (if m2 = x2 then some (((t2.2.out.length + 2 : Nat) : Int)) else t2.2.num m2)
    by_cases hm1 : m1 = x1
    ·subst hm1
     have : m2 = x2 := h2.inj g2 g3 b0 b1 (by rw [← hm, hT])
     rw [if_pos rfl, if_pos this, p4.out]
    ·have : m2 ≠ x2 := by
      rintro rfl
      exact hm1 (h1.inj g0 g1 a0 a1 (by rw [hm, hT]))
     rw [if_neg hm1, if_neg this]
     exact p4.num m1 m2 g0 g1 g2 g3 hm

theorem T_low {nodes : List Br} (hd : Dn nodes) {n : Int} (h0 : 0 ≤ n) (h1 : n < nodes.length + 2) (b : Bool) : T nodes n = .lf b ↔ n = if b then 1 else 0 := by
 by_cases h2 : n < 2
 ·have : n = 0 ∨ n = 1 := by omega
  rcases this with rfl | rfl <;> cases b <;> simp [T_0, T_1]
 ·obtain ⟨x, hx⟩ := num_nd (by omega) h1
  rw [T_nd hd (by omega) hx]
  constructor
  ·intro h; cases h
  ·intro h; split at h <;> omega

theorem vs0_sim {n1 n2 : List Br} (h1 : BD n1) (h2 : BD n2) : VSim n1 n2 ⟨fun y => if y = 1 then some 1 else if y = 0 then some 0 else none, []⟩ ⟨fun y => if y = 1 then some 1 else if y = 0 then some 0 else none, []⟩ := by
 refine ⟨rfl, ?_⟩
 intro m1 m2 a0 a1 b0 b1 hT
 dsimp only
 have t1 := T_low h1.dn a0 a1 true
 have t0 := T_low h1.dn a0 a1 false
 have u1 := T_low h2.dn b0 b1 true
 have u0 := T_low h2.dn b0 b1 false
 rw [hT] at t1 t0
 simp only [if_true, Bool.false_eq_true, if_false] at t1 t0 u1 u0
 have e1 : m1 = 1 ↔ m2 = 1 := t1.symm.trans u1
 have e0 : m1 = 0 ↔ m2 = 0 := t0.symm.trans u0
 by_cases c1 : m1 = 1
 ·rw [if_pos c1, if_pos (e1.1 c1)]
 ·rw [if_neg c1, if_neg (fun h => c1 (e1.2 h))]
  by_cases c0 : m1 = 0
  ·rw [if_pos c0, if_pos (e0.1 c0)]
  ·rw [if_neg c0, if_neg (fun h => c0 (e0.2 h))]

theorem dg_sim {n1 n2 : List Br} (h1 : BD n1) (h2 : BD n2) {r1 r2 : Int} (a0 : 0 ≤ r1) (a1 : r1 < n1.length + 2) (b0 : 0 ≤ r2) (b1 : r2 < n2.length + 2) (hT : T n1 r1 = T n2 r2) : (dgP n1 r1).1 = (dgP n2 r2).1 ∧ (dgP n1 r1).2.out = (dgP n2 r2).2.out := by
 obtain ⟨p, q⟩ := vis_sim h1 h2 (n1.length + 2) (n2.length + 2) r1 r2 _ _ (vs0_sim h1 h2) ⟨rfl, rfl⟩ ⟨rfl, rfl⟩ a0 a1 b0 b1 (by omega) (by omega) hT
 exact ⟨p, q.out⟩

/-- A valid diagram, but for its length. -/
structure Vd (nodes : List Br) (root : Int) : Prop where
 bd : BD nodes
 r0 : 0 ≤ root
 r1 : root < nodes.length + 2
 rt : (dgP nodes root).1 = root
 out : (dgP nodes root).2.out = nodes

/-- The numbering of well-formed branches. -/
theorem dg_vd {nodes : List Br} (h : BD nodes) {r : Int} (r0 : 0 ≤ r) (r1 : r < nodes.length + 2) : Vd (dgP nodes r).2.out (dgP nodes r).1 ∧ T (dgP nodes r).2.out (dgP nodes r).1 = T nodes r := by
 obtain ⟨i, e, v, _⟩ := vis_inv h (nodes.length + 2) r _ (vs0_inv nodes) r0 (by omega) r1
 rw [show visP nodes (nodes.length + 2) r ⟨fun y => if y = 1 then some 1 else if y = 0 then some 0 else none, []⟩ = dgP nodes r from rfl] at i e v
 obtain ⟨m0, m1, mT⟩ := i.fwd _ _ r0 r1 v
 obtain ⟨p, q⟩ := dg_sim i.bd h m0 m1 r0 r1 mT
 exact ⟨⟨i.bd, m0, m1, p, q⟩, mT⟩

theorem vd_C {nodes : List Br} {root : Int} : dgC nodes root = 0 ↔ Vd nodes root ∧ nodes.length ≤ 4096 := by
 constructor
 ·intro h
  obtain ⟨h1, h2, h3, h4, h5, h6⟩ := dgC_0 h
  exact ⟨⟨bd_of_ok h2, h3, by omega, h5, h6⟩, h1⟩
 ·rintro ⟨⟨h1, h2, h3, h4, h5⟩, hl⟩
  rw [dgC, if_neg (by omega), if_pos ?_]
  rw [dgOK, ok_of_bd h1, decide_eq_true h2, decide_eq_true (show root ≤ nodes.length + 1 by omega)]
  simp [h4, h5]

/-- A valid diagram is determined by its tree. -/
theorem Vd.same {a b : List Br} {ra rb : Int} (ha : Vd a ra) (hb : Vd b rb) (hT : T a ra = T b rb) : a = b ∧ ra = rb := by
 obtain ⟨p, q⟩ := dg_sim ha.bd hb.bd ha.r0 ha.r1 hb.r0 hb.r1 hT
 exact ⟨by rw [← ha.out, ← hb.out, q], by rw [← ha.rt, ← hb.rt, p]⟩

/-- Is a configuration in the set? -/
def evd (nodes : List Br) (root : Int) (c : Int → Bool) : Bool := (T nodes root).ev c

/-- A valid diagram is determined by its set. -/
theorem Vd.ext {a b : List Br} {ra rb : Int} (ha : Vd a ra) (hb : Vd b rb) (h : ∀ c, evd a ra c = evd b rb c) : a = b ∧ ra = rb :=
 ha.same hb (canon (ha.bd.ord (v := 0) ha.r0 ha.r1 (ha.bd.lvl0 ha.r0 ha.r1).1) (hb.bd.ord (v := 0) hb.r0 hb.r1 (hb.bd.lvl0 hb.r0 hb.r1).1) h)

/-- All conditions are below L. -/
def Vs (L : Int) (nodes : List Br) : Prop := ∀ b ∈ nodes, b.f0 < L

theorem vis_vs {nodes : List Br} {L : Int} (h : Vs L nodes) : ∀ (k : Nat) (n : Int) (s : VS), Vs L s.out → Vs L (visP nodes k n s).2.out := by
 intro k
 induction k with
 | zero => intro n s hs; exact hs
 | succ k ih =>
  intro n s hs
  cases hn : s.num n with
  | some m => rw [vis_hit hn]; exact hs
  | none =>
   cases hx : nodes[(n - 2).toNat]? with
   | none => rw [visP, hn]; dsimp only; rw [hx]; exact hs
   | some x =>
    rw [vis_new hn hx]
    have h2 := ih x.f2 _ (ih x.f1 s hs)
    intro b hb
    change b ∈ (visP nodes k x.f2 (visP nodes k x.f1 s).2).2.out ++ [_] at hb
    rcases List.mem_append.1 hb with hb | hb
    ·exact h2 b hb
    ·rw [List.mem_singleton.1 hb]; exact h x (List.mem_of_getElem? hx)

/-- How many branches a numbering adds at most. -/
theorem vis_few {nodes : List Br} (hB : BD nodes) (h : Vs 6 nodes) : ∀ (k : Nat) (n : Int) (s : VS), s.Ok → 0 ≤ n → n < nodes.length + 2 → (visP nodes k n s).2.out.length + 1 ≤ s.out.length + 2 ^ (6 - lvl nodes n).toNat := by
 intro k
 induction k with
 | zero => intro n s _ _ _; have := Nat.one_le_two_pow (n := (6 - lvl nodes n).toNat); show s.out.length + 1 ≤ _; omega
 | succ k ih =>
  intro n s hok h0 h1
  have hp := Nat.one_le_two_pow (n := (6 - lvl nodes n).toNat)
  cases hn : s.num n with
  | some m => rw [vis_hit hn]; dsimp only; omega
  | none =>
   have hn2 : 2 ≤ n := by
    have e0 : n ≠ 0 := by rintro rfl; rw [hok.1] at hn; cases hn
    have e1 : n ≠ 1 := by rintro rfl; rw [hok.2] at hn; cases hn
    omega
   obtain ⟨x, hx⟩ := num_nd hn2 h1
   obtain ⟨d1, d2, d3, d4⟩ := hB.dn _ x hx
   obtain ⟨ha, _, l1, l2⟩ := hB _ x hx
   have hx6 := h x (List.mem_of_getElem? hx)
   rw [vis_new hn hx, lvl_nd hn2 hx]
   have i1 := ih x.f1 s hok d1 (by omega)
   have o1 := (vis_ok nodes k x.f1 s hok).1
   have i2 := ih x.f2 _ o1 d3 (by omega)
   show ((visP nodes k x.f2 (visP nodes k x.f1 s).2).2.out ++ [_]).length + 1 ≤ _
   rw [List.length_append, List.length_singleton]
   have m1 : 2 ^ (6 - lvl nodes x.f1).toNat ≤ 2 ^ (6 - (x.f0 + 1)).toNat := Nat.pow_le_pow_right (by omega) (by omega)
   have m2 : 2 ^ (6 - lvl nodes x.f2).toNat ≤ 2 ^ (6 - (x.f0 + 1)).toNat := Nat.pow_le_pow_right (by omega) (by omega)
   have m3 : 2 ^ (6 - x.f0).toNat = 2 ^ (6 - (x.f0 + 1)).toNat + 2 ^ (6 - (x.f0 + 1)).toNat := by
    rw [show (6 - x.f0).toNat = (6 - (x.f0 + 1)).toNat + 1 by omega, Nat.pow_succ]; omega
   omega

theorem dg_vs {nodes : List Br} {L : Int} (h : Vs L nodes) (r : Int) : Vs L (dgP nodes r).2.out := vis_vs h _ r _ (by intro b hb; cases hb)
theorem dg_few {nodes : List Br} (hB : BD nodes) (h : Vs 6 nodes) {r : Int} (r0 : 0 ≤ r) (r1 : r < nodes.length + 2) : (dgP nodes r).2.out.length ≤ 63 := by
 have h1 := vis_few hB h (nodes.length + 2) r ⟨fun y => if y = 1 then some 1 else if y = 0 then some 0 else none, []⟩ ⟨rfl, rfl⟩ r0 r1
 have h2 := (hB.lvl0 r0 r1).1
 have h3 : 2 ^ (6 - lvl nodes r).toNat ≤ 2 ^ 6 := Nat.pow_le_pow_right (by omega) (by omega)
 have h4 : (dgP nodes r).2.out.length + 1 ≤ 0 + 2 ^ (6 - lvl nodes r).toNat := h1
 omega

theorem Vd.few {a : List Br} {ra : Int} (h : Vd a ra) (h6 : Vs 6 a) : a.length ≤ 63 := by
 have := dg_few h.bd h6 h.r0 h.r1
 rwa [h.out] at this
end Go.Proofs.YtgpnpfjbkaehlaaDoor.Fm
namespace Go.Proofs.YtgpnpfjbkaehlaaDoor.Fm
set_option linter.unusedVariables false
set_option linter.unusedSimpArgs false

/-- A list of branches, and one more of them behind. -/
theorem bd_more {l g : List Br} (h : BD (l ++ g)) {n : Int} (hl : BD l) (h1 : n < l.length + 2) : T (l ++ g) n = T l n ∧ lvl (l ++ g) n = lvl l n := ⟨T_app hl.dn g h1, lvl_app g h1⟩

theorem idx_some {l : List Br} {b : Br} : ∀ {i j : Nat}, idxB l b i = some j → i ≤ j ∧ l[j - i]? = some b := by
 induction l with
 | nil => intro i j h; cases h
 | cons x r ih =>
  intro i j h
  rw [idxB] at h
  split at h
  ·rename_i e; injection h with h; subst h; subst e; exact ⟨Nat.le_refl _, by simp⟩
  ·obtain ⟨h1, h2⟩ := ih h
   refine ⟨by omega, ?_⟩
   rw [show j - i = (j - (i + 1)) + 1 by omega, List.getElem?_cons_succ]
   exact h2
theorem idx_none {l : List Br} {b : Br} : ∀ {i : Nat}, idxB l b i = none → b ∉ l := by
 induction l with
 | nil => intro i _ h; cases h
 | cons x r ih =>
  intro i h
  rw [idxB] at h
  split at h
  ·cases h
  ·rename_i e
   intro hm
   rcases List.mem_cons.1 hm with hm | hm
   ·exact e hm.symm
   ·exact ih h hm

/-- The number of a new branch, and the list with it: the set is what the branch says. -/
theorem unq_ok {l : List Br} (h : BD l) {v a b : Int} (hv : 0 ≤ v ∧ v ≤ 63) (ha : 0 ≤ a ∧ a < l.length + 2) (hb : 0 ≤ b ∧ b < l.length + 2) (la : v < lvl l a) (lb : v < lvl l b) :
  ∃ g, (unqP l ⟨v, a, b⟩).1 = l ++ g ∧ BD (l ++ g) ∧ g.length ≤ 1 ∧ (∀ x ∈ g, x.f0 = v) ∧ 0 ≤ (unqP l ⟨v, a, b⟩).2 ∧ (unqP l ⟨v, a, b⟩).2 < (l ++ g).length + 2 ∧ v ≤ lvl (l ++ g) (unqP l ⟨v, a, b⟩).2 ∧
   ∀ c, (T (l ++ g) (unqP l ⟨v, a, b⟩).2).ev c = if c v then (T l b).ev c else (T l a).ev c := by
 unfold unqP
 dsimp only
 by_cases hab : a = b
 ·rw [if_pos hab]
  refine ⟨[], by simp, by simpa using h, by simp, by simp, ha.1, by simpa using ha.2, by simp; omega, fun c => ?_⟩
  rw [List.append_nil, hab]; simp
 ·rw [if_neg hab]
  cases hi : idxB l ⟨v, a, b⟩ 0 with
  | some i =>
   obtain ⟨_, h2⟩ := idx_some hi
   rw [Nat.sub_zero] at h2
   have hil := (List.getElem?_eq_some_iff.1 h2).1
   dsimp only
   have hg : l[((((i + 2 : Nat)) : Int) - 2).toNat]? = some ⟨v, a, b⟩ := by rw [show ((((i + 2 : Nat)) : Int) - 2).toNat = i by omega]; exact h2
   refine ⟨[], by simp, by simpa using h, by simp, by simp, by omega, by simp; omega, ?_, fun c => ?_⟩
   ·rw [List.append_nil, lvl_nd (by omega) hg]; exact Int.le_refl _
   ·rw [List.append_nil, T_nd h.dn (by omega) hg]; rfl
  | none =>
   dsimp only
   have hB := h.snoc (b := ⟨v, a, b⟩) (okA_mk (nodes := l) (x := ⟨v, a, b⟩) hv ha hb hab) (idx_none hi) la lb
   have hg : (l ++ [(⟨v, a, b⟩ : Br)])[((((l.length + 2 : Nat)) : Int) - 2).toNat]? = some ⟨v, a, b⟩ := by rw [show ((((l.length + 2 : Nat)) : Int) - 2).toNat = l.length by omega]; simp
   refine ⟨[⟨v, a, b⟩], rfl, hB, by simp, by simp, by omega, by simp; omega, ?_, fun c => ?_⟩
   ·rw [lvl_nd (by omega) hg]; exact Int.le_refl _
   ·rw [T_nd hB.dn (by omega) hg]
    show (if c v then _ else _) = _
    dsimp only
    rw [T_app h.dn _ ha.2, T_app h.dn _ hb.2]

/-- The numbers to which a number leads. -/
theorem sd_ok {l : List Br} (h : BD l) {n v : Int} (h0 : 0 ≤ n) (h1 : n < l.length + 2) (hv : v ≤ lvl l n) (hv6 : v < 64) :
  (0 ≤ (sdP l n v).1 ∧ (sdP l n v).1 < l.length + 2 ∧ (sdP l n v).1 ≤ n ∧ v < lvl l (sdP l n v).1) ∧ (0 ≤ (sdP l n v).2 ∧ (sdP l n v).2 < l.length + 2 ∧ (sdP l n v).2 ≤ n ∧ v < lvl l (sdP l n v).2) ∧
   (lvl l n = v → (sdP l n v).1 < n ∧ (sdP l n v).2 < n) ∧ ∀ c, (T l n).ev c = if c v then (T l (sdP l n v).2).ev c else (T l (sdP l n v).1).ev c := by
 unfold sdP
 by_cases hl : lvl l n = v
 ·rw [if_pos hl]
  have hn2 : 2 ≤ n := by
   by_cases hn : n < 2
   ·rw [lvl_lt hn] at hl; omega
   ·omega
  obtain ⟨x, hx⟩ := num_nd hn2 h1
  obtain ⟨d1, d2, d3, d4⟩ := h.dn _ x hx
  obtain ⟨_, _, l1, l2⟩ := h _ x hx
  rw [hx]
  rw [lvl_nd hn2 hx] at hl
  dsimp only
  refine ⟨⟨d1, by omega, by omega, by omega⟩, ⟨d3, by omega, by omega, by omega⟩, fun _ => ⟨by omega, by omega⟩, fun c => ?_⟩
  rw [T_nd h.dn hn2 hx, ← hl]; rfl
 ·rw [if_neg hl]
  dsimp only
  exact ⟨⟨h0, h1, Int.le_refl _, by omega⟩, ⟨h0, h1, Int.le_refl _, by omega⟩, fun e => absurd e hl, fun c => by split <;> rfl⟩

/-- An operation on two bools. -/
def opB (op : Int) (x y : Bool) : Bool := if op = 0 then x && y else if op = 1 then x || y else x != y

theorem con_ok {op x y : Int} (hop : op = 0 ∨ op = 1 ∨ op = 2) (hx : x = 0 ∨ x = 1) (hy : y = 0 ∨ y = 1) (l a b : List Br) : 0 ≤ conP op x y ∧ conP op x y < 2 ∧ ∀ c, (T l (conP op x y)).ev c = opB op ((T a x).ev c) ((T b y).ev c) := by
 rcases hop with rfl | rfl | rfl <;> rcases hx with rfl | rfl <;> rcases hy with rfl | rfl <;> refine ⟨by decide, by decide, fun c => rfl⟩

/-- What an application has seen is right. -/
structure AInv (a b : List Br) (op : Int) (s : AS) : Prop where
 bd : BD s.nodes
 vs : Vs 6 s.nodes
 seen : ∀ e ∈ s.seen, 0 ≤ e.f2 ∧ e.f2 < s.nodes.length + 2 ∧ min (lvl a e.f0) (lvl b e.f1) ≤ lvl s.nodes e.f2 ∧ ∀ c, (T s.nodes e.f2).ev c = opB op ((T a e.f0).ev c) ((T b e.f1).ev c)

theorem AInv.nil (a b : List Br) (op : Int) : AInv a b op ⟨[], []⟩ := ⟨BD.nil, by intro b hb; simp at hb, by intro e he; simp at he⟩

theorem find_some : ∀ {l : List Br} {x y r : Int}, findS l x y = some r → ∃ e ∈ l, e.f0 = x ∧ e.f1 = y ∧ e.f2 = r := by
 intro l
 induction l with
 | nil => intro x y r h; cases h
 | cons e l ih =>
  intro x y r h
  rw [findS] at h
  split at h
  ·rename_i he; injection h with h; exact ⟨e, by simp, he.1, he.2, h⟩
  ·obtain ⟨e', h1, h2⟩ := ih h; exact ⟨e', List.mem_cons_of_mem _ h1, h2⟩

theorem lvl_six {l : List Br} (h6 : Vs 6 l) {n : Int} (h0 : 2 ≤ n) (h1 : n < l.length + 2) : lvl l n < 6 := by
 obtain ⟨x, hx⟩ := num_nd h0 h1
 rw [lvl_nd h0 hx]; exact h6 x (List.mem_of_getElem? hx)

/-- The application, as a set; and how much it adds. -/
theorem ap_ok {a b : List Br} (ha : BD a) (hb : BD b) (a6 : Vs 6 a) (b6 : Vs 6 b) {op : Int} (hop : op = 0 ∨ op = 1 ∨ op = 2) :
  ∀ (k : Nat) (x y : Int) (s : AS), AInv a b op s → 0 ≤ x → x < a.length + 2 → 0 ≤ y → y < b.length + 2 → (x + y).toNat < k →
   AInv a b op (apP a b op k x y s).2 ∧ (∃ g, (apP a b op k x y s).2.nodes = s.nodes ++ g) ∧
   0 ≤ (apP a b op k x y s).1 ∧ (apP a b op k x y s).1 < (apP a b op k x y s).2.nodes.length + 2 ∧ min (lvl a x) (lvl b y) ≤ lvl (apP a b op k x y s).2.nodes (apP a b op k x y s).1 ∧
   (∀ c, (T (apP a b op k x y s).2.nodes (apP a b op k x y s).1).ev c = opB op ((T a x).ev c) ((T b y).ev c)) ∧
   (apP a b op k x y s).2.nodes.length + 1 ≤ s.nodes.length + 2 ^ (6 - min (lvl a x) (lvl b y)).toNat ∧ (apP a b op k x y s).2.seen.length + 1 ≤ s.seen.length + 2 ^ (6 - min (lvl a x) (lvl b y)).toNat := by
 intro k
 induction k with
 | zero => intro x y s _ _ _ _ _ h; omega
 | succ k ih =>
  intro x y s hs x0 x1 y0 y1 hk
  have hp := Nat.one_le_two_pow (n := (6 - min (lvl a x) (lvl b y)).toNat)
  rw [apP]
  by_cases hc : x < 2 ∧ y < 2
  ·rw [if_pos hc]
   obtain ⟨c0, c1, c2⟩ := con_ok hop (show x = 0 ∨ x = 1 by omega) (show y = 0 ∨ y = 1 by omega) s.nodes a b
   dsimp only
   refine ⟨hs, ⟨[], by simp⟩, c0, by omega, ?_, c2, by omega, by omega⟩
   rw [lvl_lt c1, lvl_lt hc.1, lvl_lt hc.2]; decide
  ·rw [if_neg hc]
   cases hf : findS s.seen x y with
   | some r =>
    obtain ⟨e, he, e0, e1, e2⟩ := find_some hf
    obtain ⟨q0, q1, q2, q3⟩ := hs.seen e he
    rw [e0, e1, e2] at q2
    rw [e2] at q0 q1
    dsimp only
    refine ⟨hs, ⟨[], by simp⟩, q0, q1, q2, fun c => ?_, by omega, by omega⟩
    have := q3 c
    rwa [e0, e1, e2] at this
   | none =>
    dsimp only
    generalize hv : min (lvl a x) (lvl b y) = v at hp ⊢
    have hla := ha.lvl0 x0 x1
    have hlb := hb.lvl0 y0 y1
    have hv6 : v < 6 := by
     by_cases hx2 : x < 2
     ·have := lvl_six b6 (n := y) (by omega) y1
      omega
     ·have := lvl_six a6 (n := x) (by omega) x1
      omega
    obtain ⟨⟨s1, s2, s3, s4⟩, ⟨t1, t2, t3, t4⟩, s5, s6⟩ := sd_ok ha x0 x1 (v := v) (by omega) (by omega)
    obtain ⟨⟨u1, u2, u3, u4⟩, ⟨w1, w2, w3, w4⟩, u5, u6⟩ := sd_ok hb y0 y1 (v := v) (by omega) (by omega)
    have hdec : lvl a x = v ∨ lvl b y = v := by omega
    have hlt1 : ((sdP a x v).1 + (sdP b y v).1).toNat < k ∧ ((sdP a x v).2 + (sdP b y v).2).toNat < k := by
     rcases hdec with h | h
     ·have := s5 h; omega
     ·have := u5 h; omega
    obtain ⟨i1, ⟨g1, e1⟩, p1, p2, p3, p4, p5, p6⟩ := ih (sdP a x v).1 (sdP b y v).1 s hs s1 s2 u1 u2 hlt1.1
    generalize apP a b op k (sdP a x v).1 (sdP b y v).1 s = r1 at i1 e1 p1 p2 p3 p4 p5 p6 ⊢
    obtain ⟨i2, ⟨g2, e2⟩, q1, q2, q3, q4, q5, q6⟩ := ih (sdP a x v).2 (sdP b y v).2 r1.2 i1 t1 t2 w1 w2 hlt1.2
    generalize apP a b op k (sdP a x v).2 (sdP b y v).2 r1.2 = r2 at i2 e2 q1 q2 q3 q4 q5 q6 ⊢
    have m1 : T r2.2.nodes r1.1 = T r1.2.nodes r1.1 := by rw [e2]; exact T_app i1.bd.dn _ p2
    have m2 : lvl r2.2.nodes r1.1 = lvl r1.2.nodes r1.1 := by rw [e2]; exact lvl_app _ p2
    have hl2 : r1.2.nodes.length ≤ r2.2.nodes.length := by rw [e2, List.length_append]; omega
    obtain ⟨g, n1, n2, n3, n3', n4, n5, n6, n7⟩ := unq_ok i2.bd (v := v) (a := r1.1) (b := r2.1) ⟨by omega, by omega⟩ ⟨p1, by omega⟩ ⟨q1, q2⟩ (by rw [m2]; omega) (by omega)
    generalize unqP r2.2.nodes ⟨v, r1.1, r2.1⟩ = u at n1 n4 n5 n6 n7 ⊢
    rw [n1]
    have hsem : ∀ c, (T (r2.2.nodes ++ g) u.2).ev c = opB op ((T a x).ev c) ((T b y).ev c) := by
     intro c
     rw [n7 c, q4 c, m1, p4 c, s6 c, u6 c]
     split <;> rfl
    have hpow : 2 ^ (6 - v).toNat = 2 ^ (6 - (v + 1)).toNat + 2 ^ (6 - (v + 1)).toNat := by
     rw [show (6 - v).toNat = (6 - (v + 1)).toNat + 1 by omega, Nat.pow_succ]; omega
    have pw1 : 2 ^ (6 - min (lvl a (sdP a x v).1) (lvl b (sdP b y v).1)).toNat ≤ 2 ^ (6 - (v + 1)).toNat := Nat.pow_le_pow_right (by omega) (by omega)
    have pw2 : 2 ^ (6 - min (lvl a (sdP a x v).2) (lvl b (sdP b y v).2)).toNat ≤ 2 ^ (6 - (v + 1)).toNat := Nat.pow_le_pow_right (by omega) (by omega)
    refine ⟨⟨n2, ?_, ?_⟩, ⟨g1 ++ g2 ++ g, by rw [e2, e1]; simp⟩, n4, n5, n6, hsem, ?_, ?_⟩
    ·intro z hz
     rcases List.mem_append.1 hz with hz | hz
     ·exact i2.vs z hz
     ·rw [n3' z hz]; exact hv6
    ·intro e he
     rcases List.mem_append.1 he with he | he
     ·obtain ⟨z0, z1, z2, z3⟩ := i2.seen e he
      dsimp only
      refine ⟨z0, by rw [List.length_append]; omega, by rw [lvl_app _ z1]; exact z2, fun c => by rw [T_app i2.bd.dn _ z1]; exact z3 c⟩
     ·rw [List.mem_singleton.1 he]
      dsimp only
      exact ⟨n4, n5, by rw [hv]; exact n6, hsem⟩
    ·rw [List.length_append]; omega
    ·rw [List.length_append, List.length_singleton]; omega

/-- The application of an operation to two valid diagrams over six conditions: a valid diagram of the set. -/
theorem ap_vd {a b : List Br} {ra rb : Int} (ha : Vd a ra) (hb : Vd b rb) (a6 : Vs 6 a) (b6 : Vs 6 b) {op : Int} (hop : op = 0 ∨ op = 1 ∨ op = 2) {k : Nat} (hk : (ra + rb).toNat < k) {r : Int} {s : AS} (h : apP a b op k ra rb ⟨[], []⟩ = (r, s)) :
  BD s.nodes ∧ s.nodes.length ≤ 63 ∧ s.seen.length ≤ 63 ∧ 0 ≤ r ∧ r < s.nodes.length + 2 ∧ Vd (dgP s.nodes r).2.out (dgP s.nodes r).1 ∧ (dgP s.nodes r).2.out.length ≤ 63 ∧ Vs 6 (dgP s.nodes r).2.out ∧
   ∀ c, evd (dgP s.nodes r).2.out (dgP s.nodes r).1 c = opB op (evd a ra c) (evd b rb c) := by
 obtain ⟨i, _, p1, p2, p3, p4, p5, p6⟩ := ap_ok ha.bd hb.bd a6 b6 hop k ra rb ⟨[], []⟩ (AInv.nil a b op) ha.r0 ha.r1 hb.r0 hb.r1 hk
 rw [h] at i p1 p2 p3 p4 p5 p6
 dsimp only at i p1 p2 p3 p4 p5 p6
 have l1 := (ha.bd.lvl0 ha.r0 ha.r1).1
 have l2 := (hb.bd.lvl0 hb.r0 hb.r1).1
 have hp : 2 ^ (6 - min (lvl a ra) (lvl b rb)).toNat ≤ 2 ^ 6 := Nat.pow_le_pow_right (by omega) (by omega)
 simp only [List.length_nil] at p5 p6
 obtain ⟨v1, v2⟩ := dg_vd i.bd p1 p2
 refine ⟨i.bd, by omega, by omega, p1, p2, v1, dg_few i.bd i.vs p1 p2, dg_vs i.vs r, fun c => ?_⟩
 unfold evd
 rw [v2, p4 c]
end Go.Proofs.YtgpnpfjbkaehlaaDoor.Fm
