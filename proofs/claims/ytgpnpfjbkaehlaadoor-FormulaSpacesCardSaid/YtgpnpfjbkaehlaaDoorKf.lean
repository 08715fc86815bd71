/- Spaces: the plain law, the walk. -/
import Derived.WalkSpells
import Derived.Test.YtgpnpfjbkaehlaaDoorTa
import Derived.Test.YtgpnpfjbkaehlaaDoorKd
namespace Go.Proofs.YtgpnpfjbkaehlaaDoor.Fm
set_option linter.unusedVariables false
set_option linter.unusedSimpArgs false

/-- Where the depth comes to 0. -/
def clo : List UInt8 → Int → Option Nat
  | [], _ => none
  | c :: r, d =>
    let d' := if c = 40 then d + 1 else if c = 41 then d - 1 else d
    if d' = 0 then some 0 else (clo r d').map (· + 1)

theorem clo_other {c : UInt8} {r : List UInt8} {d : Int} (h : c ≠ 40 ∧ c ≠ 41) (hd : d ≠ 0) : clo (c :: r) d = (clo r d).map (· + 1) := by
  simp only [clo, if_neg h.1, if_neg h.2, if_neg hd]
theorem clo_open {r : List UInt8} {d : Int} (hd : 0 ≤ d) : clo (40 :: r) d = (clo r (d + 1)).map (· + 1) := by
  simp only [clo, if_true]; rw [if_neg (by omega)]
theorem clo_close {r : List UInt8} {d : Int} (hd : 1 < d) : clo (41 :: r) d = (clo r (d - 1)).map (· + 1) := by
  have h : ¬ (41 : UInt8) = 40 := by decide
  simp only [clo, if_neg h, if_true]; rw [if_neg (by omega)]
theorem clo_end (r : List UInt8) : clo (41 :: r) 1 = some 0 := by
  have h : ¬ (41 : UInt8) = 40 := by decide
  simp only [clo, if_neg h, if_true]; rfl

theorem map_add (o : Option Nat) (a b : Nat) : (o.map (· + a)).map (· + b) = o.map (· + (a + b)) := by cases o <;> simp; omega

def noPar (w : List UInt8) : Prop := ∀ c ∈ w, c ≠ 40 ∧ c ≠ 41
theorem noPar_word {w : List UInt8} (h : wordy w) : noPar w := fun c hc => by
  have := idc_not (h.1 c hc)
  exact ⟨this.2.1, this.2.2.1⟩

theorem clo_noPar {w : List UInt8} (h : noPar w) (l : List UInt8) {d : Int} (hd : 1 ≤ d) : clo (w ++ l) d = (clo l d).map (· + w.length) := by
  induction w with
  | nil => simp
  | cons c w ih =>
    rw [List.cons_append, clo_other (h c (by simp)) (by omega), ih (fun x hx => h x (List.mem_cons_of_mem _ hx)), map_add]
    simp only [List.length_cons]

theorem noPar_op (c : Bool) : noPar (if c then [32, 38, 38, 32] else [32, 124, 124, 32]) := by
  cases c <;> (intro x hx; simp at hx; rcases hx with hx | hx | hx <;> subst hx <;> decide)

theorem clo_wr {nz : Nat → List UInt8} (t : Tr) (hw : Wordy nz t) : ∀ (n : Nat) (l : List UInt8) (d : Int), 1 ≤ d → clo (wr nz n t ++ l) d = (clo l d).map (· + (wr nz n t).length) := by
  induction t with
  | con b =>
    intro n l d hd
    cases b
    · exact clo_noPar (noPar_word wordy_false) l hd
    · exact clo_noPar (noPar_word wordy_true) l hd
  | var v => intro n l d hd; exact clo_noPar (noPar_word hw) l hd
  | not t ih =>
    intro n l d hd
    show clo (33 :: (wr nz 2 t ++ l)) d = _
    rw [clo_other (by decide) (by omega), ih hw 2 l d hd, map_add]
    simp only [wr, List.length_cons]
  | bin c a b iha ihb =>
    intro n l d hd
    have core : ∀ (l : List UInt8) (d : Int), 1 ≤ d → clo ((wr nz (lv c) a ++ (if c then [32, 38, 38, 32] else [32, 124, 124, 32]) ++ wr nz (lv c + 1) b) ++ l) d = (clo l d).map (· + (wr nz (lv c) a ++ (if c then [32, 38, 38, 32] else [32, 124, 124, 32]) ++ wr nz (lv c + 1) b).length) := by
      intro l d hd
      rw [List.append_assoc, List.append_assoc, iha hw.1 _ _ d hd, clo_noPar (noPar_op c) _ hd, ihb hw.2 _ _ d hd, map_add, map_add]
      congr 1
      funext x
      simp only [List.length_append]
      omega
    by_cases hn : lv c < n
    · rw [wr_par nz n c a b hn]
      show clo (40 :: ((_ ++ [41]) ++ l)) d = _
      rw [clo_open (by omega), List.append_assoc, core _ _ (by omega)]
      show Option.map _ (Option.map _ (clo (41 :: l) (d + 1))) = _
      rw [clo_close (by omega), show d + 1 - 1 = d by omega, map_add, map_add]
      congr 1
      funext x
      simp only [List.length_append, List.length_cons, List.length_nil]
      omega
    · rw [wr_bare nz n c a b hn]
      exact core l d hd

/-- Every parenthesis of a printed expression is closed. -/
theorem closed {nz : Nat → List UInt8} (t : Tr) (hw : Wordy nz t) : ∀ (n : Nat) (pre post : List UInt8), wr nz n t = pre ++ 40 :: post → ∃ j, j < post.length ∧ ∀ l, clo (post ++ l) 1 = some j := by
  have absd : ∀ {w pre post : List UInt8}, noPar w → w = pre ++ 40 :: post → False := by
    intro w pre post h e
    exact (h 40 (by rw [e]; simp)).1 rfl
  induction t with
  | con b =>
    intro n pre post e
    cases b
    · exact (absd (noPar_word wordy_false) e).elim
    · exact (absd (noPar_word wordy_true) e).elim
  | var v => intro n pre post e; exact (absd (noPar_word hw) e).elim
  | not t ih =>
    intro n pre post e
    simp only [wr] at e
    cases pre with
    | nil => simp at e
    | cons c pre =>
      rw [List.cons_append] at e
      injection e with e0 e1
      exact ih hw 2 pre post e1
  | bin c a b iha ihb =>
    intro n pre post e
    have core : ∀ (pre post tail : List UInt8), (wr nz (lv c) a ++ (if c then [32, 38, 38, 32] else [32, 124, 124, 32]) ++ wr nz (lv c + 1) b) = pre ++ 40 :: post → ∃ j, j < post.length ∧ ∀ l, clo (post ++ l) 1 = some j := by
      intro pre post tail e
      rw [List.append_assoc] at e
      rcases List.append_eq_append_iff.1 e with ⟨ps, e1, e2⟩ | ⟨bs, e1, e2⟩
      · -- behind the left operand
        rcases List.append_eq_append_iff.1 e2 with ⟨cs, f1, f2⟩ | ⟨cs, f1, f2⟩
        · obtain ⟨j, h1, h2⟩ := ihb hw.2 _ cs post f2
          exact ⟨j, h1, h2⟩
        · cases cs with
          | nil =>
            simp only [List.nil_append] at f2
            obtain ⟨j, h1, h2⟩ := ihb hw.2 _ [] post f2.symm
            exact ⟨j, h1, h2⟩
          | cons x cs =>
            rw [List.cons_append] at f2
            injection f2 with g1 g2
            subst g1
            exact (absd (noPar_op c) f1).elim
      · cases bs with
        | nil =>
          simp only [List.nil_append] at e2
          exfalso
          cases c <;> simp at e2
        | cons x bs =>
          rw [List.cons_append] at e2
          injection e2 with g1 g2
          subst g1
          obtain ⟨j, h1, h2⟩ := iha hw.1 _ pre bs e1
          refine ⟨j, by rw [g2, List.length_append]; omega, fun l => ?_⟩
          rw [g2, List.append_assoc]
          exact h2 _
    by_cases hn : lv c < n
    · rw [wr_par nz n c a b hn] at e
      cases pre with
      | nil =>
        rw [List.cons_append, List.nil_append] at e
        injection e with _ e
        subst e
        have hcl := clo_wr (.bin c a b) hw 0
        refine ⟨(wr nz 0 (.bin c a b)).length, ?_, fun l => ?_⟩
        · rw [wr_bare nz 0 c a b (Nat.not_lt_zero _), List.length_append]; simp; omega
        · have := hcl (41 :: l) 1 (Int.le_refl _)
          rw [wr_bare nz 0 c a b (Nat.not_lt_zero _), clo_end] at this
          rw [List.append_assoc]
          rw [wr_bare nz 0 c a b (Nat.not_lt_zero _)]
          simpa using this
      | cons x pre =>
        rw [List.cons_append, List.cons_append] at e
        injection e with _ e
        rcases List.append_eq_append_iff.1 e with ⟨ps, e1, e2⟩ | ⟨bs, e1, e2⟩
        · cases ps with
          | nil => simp at e2
          | cons y ps =>
            rw [List.cons_append] at e2
            injection e2 with _ e2
            have := congrArg List.length e2
            simp at this
        · cases bs with
          | nil => simp at e2
          | cons y bs =>
            rw [List.cons_append] at e2
            injection e2 with g1 g2
            subst g1
            obtain ⟨j, h1, h2⟩ := core pre bs [] e1
            refine ⟨j, by rw [g2, List.length_append]; omega, fun l => ?_⟩
            rw [g2, List.append_assoc]
            exact h2 _
    · rw [wr_bare nz n c a b hn] at e
      exact core pre post [] e

/-- How many parentheses are opened. -/
def c40 (l : List UInt8) : Nat := l.countP (· == 40)

theorem c40_trim (l : List UInt8) : c40 (trim l) ≤ c40 l := by
  unfold c40 trim
  exact List.Sublist.countP_le (List.dropWhile_sublist _)

theorem c40_lex1 {l l' : List UInt8} {t : Tk} (h : lex1 l = some (t, l')) : cnt [t] + c40 l' ≤ c40 l := by
  cases l with
  | nil => simp [lex1] at h
  | cons c r =>
    have hc : c40 r ≤ c40 (c :: r) := by unfold c40; exact List.Sublist.countP_le (List.sublist_cons_self _ _)
    have ht := c40_trim r
    rw [lex1_cons] at h
    split at h
    · rename_i e
      simp only [Option.some.injEq, Prod.mk.injEq] at h
      obtain ⟨rfl, rfl⟩ := h
      subst e
      have : c40 (40 :: r) = c40 r + 1 := by unfold c40; rw [List.countP_cons]; rfl
      simp only [cnt]; omega
    split at h
    · simp only [Option.some.injEq, Prod.mk.injEq] at h; obtain ⟨rfl, rfl⟩ := h; simp only [cnt]; omega
    split at h
    · simp only [Option.some.injEq, Prod.mk.injEq] at h; obtain ⟨rfl, rfl⟩ := h; simp only [cnt]; omega
    split at h
    · split at h
      · rename_i d r'
        split at h
        · simp only [Option.some.injEq, Prod.mk.injEq] at h; obtain ⟨rfl, rfl⟩ := h
          have h2 := c40_trim r'
          have h3 : c40 r' ≤ c40 (d :: r') := by unfold c40; exact List.Sublist.countP_le (List.sublist_cons_self _ _)
          simp only [cnt]; omega
        · simp at h
      · simp at h
    split at h
    · split at h
      · rename_i d r'
        split at h
        · simp only [Option.some.injEq, Prod.mk.injEq] at h; obtain ⟨rfl, rfl⟩ := h
          have h2 := c40_trim r'
          have h3 : c40 r' ≤ c40 (d :: r') := by unfold c40; exact List.Sublist.countP_le (List.sublist_cons_self _ _)
          simp only [cnt]; omega
        · simp at h
      · simp at h
    split at h
    · simp at h
    · simp only [Option.some.injEq, Prod.mk.injEq] at h
      obtain ⟨rfl, rfl⟩ := h
      have h1 := c40_trim ((c :: r).drop (idl (c :: r)))
      have h2 : c40 ((c :: r).drop (idl (c :: r))) ≤ c40 (c :: r) := by unfold c40; exact List.Sublist.countP_le (List.drop_sublist _ _)
      simp only [cnt]; omega

theorem c40_lex : ∀ (n : Nat) (l : List UInt8), l.length ≤ n → cnt (lexAll l) ≤ c40 l := by
  intro n
  induction n with
  | zero =>
    intro l hl
    have : l = [] := List.length_eq_zero_iff.1 (by omega)
    subst this
    exact Nat.zero_le _
  | succ n ih =>
    intro l hl
    cases h : lex1 l with
    | none => rw [lexAll_none h]; exact Nat.zero_le _
    | some p =>
      obtain ⟨t, l'⟩ := p
      have h1 := c40_lex1 h
      have h2 := lex1_low _ _ _ h
      have h3 := ih l' (by omega)
      rw [lexAll_some h, show t :: lexAll l' = [t] ++ lexAll l' from rfl, cnt_append]
      omega

theorem c40_noPar {w : List UInt8} (h : noPar w) : c40 w = 0 := by
  unfold c40
  rw [List.countP_eq_zero]
  intro c hc
  have := (h c hc).1
  simpa using this
theorem c40_app (a b : List UInt8) : c40 (a ++ b) = c40 a + c40 b := List.countP_append ..

theorem c40_wr {nz : Nat → List UInt8} (t : Tr) (hw : Wordy nz t) : ∀ n, c40 (wr nz n t) = par n t := by
  induction t with
  | con b =>
    intro n
    cases b
    · exact c40_noPar (noPar_word wordy_false)
    · exact c40_noPar (noPar_word wordy_true)
  | var v => intro n; exact c40_noPar (noPar_word hw)
  | not t ih =>
    intro n
    simp only [wr, par]
    rw [← ih hw 2, show (33 :: wr nz 2 t) = [33] ++ wr nz 2 t from rfl, c40_app]
    have : c40 [33] = 0 := rfl
    omega
  | bin c a b iha ihb =>
    intro n
    have core : c40 (wr nz (lv c) a ++ (if c then [32, 38, 38, 32] else [32, 124, 124, 32]) ++ wr nz (lv c + 1) b) = par (lv c) a + par (lv c + 1) b := by
      rw [c40_app, c40_app, iha hw.1, ihb hw.2, c40_noPar (noPar_op c)]; omega
    by_cases hn : lv c < n
    · rw [wr_par nz n c a b hn]
      simp only [par, if_pos hn]
      rw [show ∀ (x : List UInt8), 40 :: x ++ [41] = [40] ++ x ++ [41] from fun _ => rfl, c40_app, c40_app, core]
      have h1 : c40 [40] = 1 := rfl
      have h2 : c40 [41] = 0 := rfl
      omega
    · rw [wr_bare nz n c a b hn]
      simp only [par, if_neg hn]
      rw [core]; omega

theorem rep_nodes (t : Tr) : ∀ (f : List FN), Rep (f ++ t.nodes f.length) t (f.length + t.size - 1) := by
  induction t with
  | con b => intro f; show (f ++ _)[f.length + 1 - 1]? = _; simp [Tr.nodes]
  | var v => intro f; show (f ++ _)[f.length + 1 - 1]? = _; simp [Tr.nodes]
  | not t ih =>
    intro f
    have h := ih f
    have hp := t.size_pos
    refine ⟨f.length + t.size - 1, ?_, ?_⟩
    · simp only [Tr.nodes, Tr.size]
      rw [← List.append_assoc, List.getElem?_append_right (by rw [List.length_append, Tr.nodes_length]; omega), List.length_append, Tr.nodes_length, show f.length + (t.size + 1) - 1 - (f.length + t.size) = 0 by omega]
      rfl
    · simp only [Tr.nodes]
      rw [← List.append_assoc]
      exact rep_app _ h
  | bin c l r ihl ihr =>
    intro f
    have h1 := ihl f
    have h2 := ihr (f ++ l.nodes f.length)
    have hl := l.size_pos
    have hr := r.size_pos
    rw [List.length_append, Tr.nodes_length] at h2
    refine ⟨f.length + l.size - 1, f.length + l.size + r.size - 1, ?_, ?_, ?_⟩
    · simp only [Tr.nodes, Tr.size]
      rw [← List.append_assoc, List.getElem?_append_right (by simp only [List.length_append, Tr.nodes_length]; omega)]
      simp only [List.length_append, Tr.nodes_length]
      rw [show f.length + (l.size + r.size + 1) - 1 - (f.length + (l.size + r.size)) = 0 by omega]
      rfl
    · simp only [Tr.nodes]
      rw [← List.append_assoc, ← List.append_assoc]
      exact rep_app _ (rep_app _ h1)
    · simp only [Tr.nodes]
      rw [← List.append_assoc, ← List.append_assoc]
      exact rep_app _ h2

theorem nodes_inj {t s : Tr} (h : t.nodes 0 = s.nodes 0) : t = s := by
  have h1 := rep_nodes t []
  have h2 := rep_nodes s []
  have hs : t.size = s.size := by rw [← Tr.nodes_length t 0, h, Tr.nodes_length]
  simp only [List.nil_append, List.length_nil] at h1 h2
  rw [h, hs] at h1
  exact rep_inj h1 h2

/-- An expression with too few parentheses is not one of the formula. -/
theorem few_par {nz : Nat → List UInt8} {nm : List UInt8 → Option Nat} {t : Tr} (hw : Wordy nz t) {l : List UInt8} (hl : c40 l < c40 (wr nz 0 t)) {k : Nat} {a : Int} {g : List FN} {u : Bool} (hr : run lex1 nm k (.ex false) 0 ⟨trim l, [], false⟩ = some (some (a, ⟨[], g, u⟩))) : g ≠ t.nodes 0 := by
  have hm := run_map (nm := nm) lex_sim k (.ex false) 0 ⟨trim l, [], false⟩
  rw [hr] at hm
  have e : (⟨trim l, [], false⟩ : PS (List UInt8)).map lexAll = ⟨lexAll (trim l), [], false⟩ := rfl
  rw [e] at hm
  obtain ⟨t2, h1, _, h3⟩ := run_tree _ _ _ _ _ _ hm
  simp only [PS.map, List.length_nil, List.nil_append] at h1
  intro hg
  rw [hg] at h1
  have := nodes_inj h1
  subst this
  have h4 : cnt (lexAll (trim l)) ≤ c40 l := Nat.le_trans (c40_lex _ _ (Nat.le_refl _)) (c40_trim l)
  have h5 := c40_wr t hw 0
  have h6 : par (lv false) t = par 0 t := rfl
  simp only [PS.map] at h3
  omega
end Go.Proofs.YtgpnpfjbkaehlaaDoor.Fm
namespace Go.Proofs.YtgpnpfjbkaehlaaDoor.Wk
open Go.RowKit Go.Shelf Go.Lib Go.Maps Go.Proofs.YtgpnpfjbkaehlaaDoorW.PrintWords Go.Proofs.YtgpnpfjbkaehlaaDoorW.PrintLast Go.Proofs.YtgpnpfjbkaehlaaDoorW.PrintMore Go.Proofs.YtgpnpfjbkaehlaaDoor.Nt Go.Proofs.YtgpnpfjbkaehlaaDoor.Fm
set_option linter.unusedVariables false
set_option linter.unusedSimpArgs false

def bq : Nat → List UInt8 | 0 => [] | 1 => [32] | 2 => [9] | _ => [32, 32, 9, 32]
/-- The blanks that numbers choose. -/
def bls (l : List UInt8) (k : Nat) : List UInt8 := match l[k]? with | some x => bq (x.toNat % 4) | none => []
theorem blank_bq (n : Nat) : Fm.blank (bq n) := by
  intro c hc
  unfold bq at hc
  split at hc <;> simp at hc
  · subst hc; decide
  · subst hc; decide
  · rcases hc with hc | hc | hc <;> subst hc <;> decide
theorem blank_bls (l : List UInt8) (k : Nat) : Fm.blank (bls l k) := by
  unfold bls
  split
  · exact blank_bq _
  · exact blank_nil

theorem sp_32 (bl : Nat → List UInt8) (k : Nat) (r : List UInt8) : sp bl k (32 :: r) = bl k ++ sp bl (k + 1) r := by rw [sp, if_pos rfl]
theorem sp_spot (bl : Nat → List UInt8) (k : Nat) {c : UInt8} (r : List UInt8) (h : c = 40 ∨ c = 41 ∨ c = 33) : sp bl k (c :: r) = bl k ++ (c :: (bl k ++ sp bl (k + 1) r)) := by
  rw [sp, if_neg (by rcases h with rfl | rfl | rfl <;> decide), if_pos (by rcases h with rfl | rfl | rfl <;> decide)]
  simp
theorem sp_else (bl : Nat → List UInt8) (k : Nat) {c : UInt8} (r : List UInt8) (h : c ≠ 32 ∧ c ≠ 40 ∧ c ≠ 41 ∧ c ≠ 33) : sp bl k (c :: r) = c :: sp bl k r := by
  rw [sp, if_neg h.1, if_neg (by unfold spot; simp [h.1, h.2.1, h.2.2.1, h.2.2.2])]

/-- What the loop goes on. -/
def SpR (s : ByteArray) (l : List UInt8) (w : World) (kq : Nat) (v5 v6 v7 : Value) (wr : World) : Prop :=
  ∃ (out : ByteArray) (k i : Nat), v5 = .string out ∧ v6 = .int .i64 k ∧ v7 = .int .i64 i ∧ Aside0 (i + kq = s.size ∧ out.data.toList ++ sp (bls l) k (s.data.toList.drop i) = sp (bls l) 0 s.data.toList ∧ k ≤ i ∧ out.size ≤ 9 * i ∧ Below w.heap.size w wr)

theorem bq_len (n : Nat) : (bq n).length ≤ 4 := by unfold bq; split <;> simp
theorem bls_len (l : List UInt8) (k : Nat) : (bls l k).length ≤ 4 := by unfold bls; split; exact bq_len _; simp

theorem bsize (b : ByteArray) : b.size = b.data.toList.length := by rw [Array.length_toList]; rfl

theorem byte_d {s : ByteArray} {i : Nat} {b : UInt8} (hi : i < s.size) (hb : s[i] = b) : s.data.toList.drop i = b :: s.data.toList.drop (i + 1) := by
  rw [List.drop_eq_getElem_cons (by simpa using hi)]
  congr 1

theorem spr_32 {s : ByteArray} {l : List UInt8} {w wr : World} {out bl : ByteArray} {k i gk : Nat} (hi : i < s.size) (hb : s[i] = 32) (hk : i + gk = s.size) (h : out.data.toList ++ sp (bls l) k (s.data.toList.drop i) = sp (bls l) 0 s.data.toList) (hki : k ≤ i) (hz : out.size ≤ 9 * i) (hbw : Below w.heap.size w wr)
    (hbl : bl.data.toList = bls l k) {v6 v7 : Value} (h6 : v6 = .int .i64 ((k + 1 : Nat) : Int)) (h7 : v7 = .int .i64 ((i + 1 : Nat) : Int)) : SpR s l w (gk - 1) (.string (out ++ bl)) v6 v7 wr := by
  refine ⟨_, k + 1, i + 1, rfl, h6, h7, by omega, ?_, by omega, ?_, hbw⟩
  · rw [← h, byte_d hi hb, sp_32, ByteArray.data_append, Array.toList_append, hbl, List.append_assoc]
  · have := bls_len l k
    rw [bsize] at hz ⊢
    rw [ByteArray.data_append, Array.toList_append, List.length_append, hbl]; omega

theorem spr_spot {s : ByteArray} {l : List UInt8} {w wr : World} {out bl : ByteArray} {b : UInt8} {k i gk : Nat} (hi : i < s.size) (hb : s[i] = b) (hs : b = 40 ∨ b = 41 ∨ b = 33) (hk : i + gk = s.size) (h : out.data.toList ++ sp (bls l) k (s.data.toList.drop i) = sp (bls l) 0 s.data.toList) (hki : k ≤ i) (hz : out.size ≤ 9 * i) (hbw : Below w.heap.size w wr)
    (hbl : bl.data.toList = bls l k) {v6 v7 : Value} (h6 : v6 = .int .i64 ((k + 1 : Nat) : Int)) (h7 : v7 = .int .i64 ((i + 1 : Nat) : Int)) : SpR s l w (gk - 1) (.string (out ++ bl ++ s.extract i (i + 1) ++ bl)) v6 v7 wr := by
  have he : (s.extract i (i + 1)).data.toList = [b] := by
    rw [Lib.extract_data, byte_d hi hb, show i + 1 - i = 1 by omega]; rfl
  refine ⟨_, k + 1, i + 1, rfl, h6, h7, by omega, ?_, by omega, ?_, hbw⟩
  · rw [← h, byte_d hi hb, sp_spot _ _ _ hs]
    simp only [ByteArray.data_append, Array.toList_append, hbl, he, List.append_assoc, List.cons_append, List.nil_append]
  · have := bls_len l k
    rw [bsize] at hz ⊢
    simp only [ByteArray.data_append, Array.toList_append, List.length_append, hbl, he, List.length_cons, List.length_nil]; omega

theorem spr_else {s : ByteArray} {l : List UInt8} {w wr : World} {out : ByteArray} {b : UInt8} {k i gk : Nat} (hi : i < s.size) (hb : s[i] = b) (hs : b ≠ 32 ∧ b ≠ 40 ∧ b ≠ 41 ∧ b ≠ 33) (hk : i + gk = s.size) (h : out.data.toList ++ sp (bls l) k (s.data.toList.drop i) = sp (bls l) 0 s.data.toList) (hki : k ≤ i) (hz : out.size ≤ 9 * i) (hbw : Below w.heap.size w wr)
    {v6 v7 : Value} (h6 : v6 = .int .i64 (k : Int)) (h7 : v7 = .int .i64 ((i + 1 : Nat) : Int)) : SpR s l w (gk - 1) (.string (out ++ s.extract i (i + 1))) v6 v7 wr := by
  have he : (s.extract i (i + 1)).data.toList = [b] := by
    rw [Lib.extract_data, byte_d hi hb, show i + 1 - i = 1 by omega]; rfl
  refine ⟨_, k, i + 1, rfl, h6, h7, by omega, ?_, by omega, ?_, hbw⟩
  · rw [← h, byte_d hi hb, sp_else _ _ _ hs]
    simp only [ByteArray.data_append, Array.toList_append, he, List.append_assoc, List.cons_append, List.nil_append]
  · rw [bsize] at hz ⊢
    simp only [ByteArray.data_append, Array.toList_append, List.length_append, he, List.length_cons, List.length_nil]; omega

theorem u8_eq {b c : UInt8} : b = c ↔ ((b.toNat : Int) = (c.toNat : Int)) := ⟨fun h => by rw [h], fun h => UInt8.toNat_inj.1 (by omega)⟩

/-- What spaced comes to. -/
def SpP (s : ByteArray) (l : List UInt8) (w : World) (e : Ending) (w' : World) : Prop := Below w.heap.size w w' ∧ ∃ r : ByteArray, e = .returned (.string r) ∧ r.data.toList = 32 :: (sp (bls l) 0 s.data.toList ++ [9]) ∧ r.size ≤ 9 * s.size + 2

set_option maxHeartbeats 8000000 in
set_option maxRecDepth 100000 in
theorem spaced_any (A : Option Addr) (c : Nat) (s : ByteArray) (l : List UInt8) (w : World) (hs : s.size ≤ 2000) (hC : (Kd.int .u8).C w A l.length (u8s l)) (hc : l.length ≤ c) :
    Calls Tryd.prog 26 #[.string s, .slice A l.length c] w (SpP s l w) := by
  have HC := Lib.hid hC
  have hll := HC.out.2.1
  clear hC
  go_enter Tryd.func26, Tryd.ntmps26
  go_wp2_with fail
  go_loopg [5, 6, 7] s.size (fun kq v5 v6 v7 wr => SpR s l w kq v5 v6 v7 wr)
  case atStart => exact ⟨⟨#[]⟩, 0, 0, rfl, rfl, rfl, by omega, rfl, by omega, by decide, Below.refl _ _⟩
  case round =>
    obtain ⟨out, k, i, rfl, rfl, rfl, HA⟩ := hrel
    have hik := HA.out.1
    have hki := HA.out.2.2.1
    have hoz := HA.out.2.2.2.1
    have HE := Lib.hid HA.out.2.1
    have HBR := Lib.hid HA.out.2.2.2.2
    clear HA
    by_cases hi : i < s.size
    · obtain ⟨b, hb⟩ : ∃ b, s[i] = b := ⟨_, rfl⟩
      have hx0 : (0 : Int) ≤ (i : Int) := by omega
      have hx1 : (i : Int) < (s.size : Int) := by omega
      have hx2 : (i : Int) + 1 ≤ (s.size : Int) := by omega
      have hk0 : (0 : Int) ≤ (k : Int) := by omega
      have hcase : (b = 32 ∧ ((b.toNat : Int) == 32) = true) ∨ ((b = 40 ∨ b = 41 ∨ b = 33) ∧ ((b.toNat : Int) == 32) = false ∧ (((b.toNat : Int) == 40) = true ∨ ((b.toNat : Int) == 40) = false ∧ ((b.toNat : Int) == 41) = true ∨ ((b.toNat : Int) == 40) = false ∧ ((b.toNat : Int) == 41) = false ∧ ((b.toNat : Int) == 33) = true)) ∨
          ((b ≠ 32 ∧ b ≠ 40 ∧ b ≠ 41 ∧ b ≠ 33) ∧ ((b.toNat : Int) == 32) = false ∧ ((b.toNat : Int) == 40) = false ∧ ((b.toNat : Int) == 41) = false ∧ ((b.toNat : Int) == 33) = false) := by
        have u32 := @u8_eq b 32
        have u40 := @u8_eq b 40
        have u41 := @u8_eq b 41
        have u33 := @u8_eq b 33
        simp only [show ((32 : UInt8).toNat : Int) = 32 from rfl, show ((40 : UInt8).toNat : Int) = 40 from rfl, show ((41 : UInt8).toNat : Int) = 41 from rfl, show ((33 : UInt8).toNat : Int) = 33 from rfl] at u32 u40 u41 u33
        simp only [beq_iff_eq, beq_eq_false_iff_ne, ne_eq, u32, u40, u41, u33]
        omega
      have HB := Lib.hid hb
      rw [← hb] at hcase
      obtain ⟨bl, hbl⟩ : ∃ bl : ByteArray, bl.data.toList = bls l k := ⟨⟨(bls l k).toArray⟩, by simp⟩
      have hblk : (¬ (k : Int) < (l.length : Int) ∧ bl = ⟨#[]⟩) ∨ ((k : Int) < (l.length : Int) ∧ ∃ (ad : Addr) (x : Int), A = some ad ∧ wr.cell? (ad.add k) = some (.int .u8 x) ∧ 0 ≤ x ∧ x < 256 ∧ (x % 4 = 0 ∧ bl = ⟨#[]⟩ ∨ x % 4 = 1 ∧ bl = ⟨#[32]⟩ ∨ x % 4 = 2 ∧ bl = ⟨#[9]⟩ ∨ x % 4 = 3 ∧ bl = ⟨#[32, 32, 9, 32]⟩)) := by
        have mk : ∀ q : List UInt8, bls l k = q → bl = ⟨q.toArray⟩ := by
          intro q hq
          rw [hq] at hbl
          obtain ⟨⟨q'⟩⟩ := bl
          simp at hbl
          rw [hbl]
        by_cases hkl : k < l.length
        · refine .inr ⟨by omega, ?_⟩
          obtain ⟨ad, hA, hcl⟩ := Kd.at_int (Kd.C_below HC.out HBR.out) (k : Int) (by omega) (by omega)
          have hx : l[k]? = some l[k] := List.getElem?_eq_getElem hkl
          rw [rd_at rfl, u8s, List.getD_eq_getElem?_getD, List.getElem?_map, hx, Int.toNat_natCast] at hcl
          have hlt := (l[k]).toNat_lt
          refine ⟨ad, _, hA, hcl, by simp, by simp; omega, ?_⟩
          have hb0 : bls l k = bq (l[k].toNat % 4) := by rw [bls, hx]
          simp only [Option.map_some, Option.getD_some]
          have h4 : l[k].toNat % 4 = 0 ∨ l[k].toNat % 4 = 1 ∨ l[k].toNat % 4 = 2 ∨ l[k].toNat % 4 = 3 := by omega
          rcases h4 with h | h | h | h
          · exact .inl ⟨by omega, mk [] (by rw [hb0, h]; rfl)⟩
          · exact .inr (.inl ⟨by omega, mk [32] (by rw [hb0, h]; rfl)⟩)
          · exact .inr (.inr (.inl ⟨by omega, mk [9] (by rw [hb0, h]; rfl)⟩))
          · exact .inr (.inr (.inr ⟨by omega, mk [32, 32, 9, 32] (by rw [hb0, h]; rfl)⟩))
        · exact .inl ⟨by omega, mk [] (by rw [bls, List.getElem?_eq_none (by omega)])⟩
      have HBL := Lib.hid hbl
      clear hb hbl
      rcases hcase with ⟨q0, q1⟩ | ⟨q0, q1, q2⟩ | ⟨q0, q1, q2, q3, q4⟩
      · rcases hblk with ⟨hk1, rfl⟩ | ⟨hk1, ad, x, rfl, hcl, hxa, hxb, hxq⟩
        · have Q0 := Lib.hid q0
          clear q0
          go_wp2_with fail
          go_roundg (gk - 1)
          case measure => omega
          case rel => exact spr_32 hi Q0.out hik HE.out hki hoz HBR.out HBL.out (by go_num) (by go_num)
        · have Q0 := Lib.hid q0
          have hcl2 : (wr.alloc (.cells #[.string ⟨#[]⟩, .string ⟨#[32]⟩, .string ⟨#[9]⟩, .string ⟨#[32, 32, 9, 32]⟩] 9)).cell? (ad.add k) = some (.int .u8 x) := (Below.cell (below_alloc (Below.refl _ _) _) (World.block_lt_of_cell? _ _ hcl)).trans hcl
          clear q0
          rcases hxq with ⟨h4, rfl⟩ | ⟨h4, rfl⟩ | ⟨h4, rfl⟩ | ⟨h4, rfl⟩
          all_goals
            go_wp2_with fail
            go_roundg (gk - 1)
            case measure => omega
            case rel => exact spr_32 hi Q0.out hik HE.out hki hoz (below_alloc HBR.out _) HBL.out (by go_num) (by go_num)
      · rcases hblk with ⟨hk1, rfl⟩ | ⟨hk1, ad, x, rfl, hcl, hxa, hxb, hxq⟩
        · have Q0 := Lib.hid q0
          clear q0
          rcases q2 with q2 | ⟨q2, q3⟩ | ⟨q2, q3, q4⟩
          all_goals
            go_wp2_with fail
            go_roundg (gk - 1)
            case measure => omega
            case rel => exact spr_spot hi rfl Q0.out hik HE.out hki hoz HBR.out HBL.out (by go_num) (by go_num)
        · have Q0 := Lib.hid q0
          have hcl2 : (wr.alloc (.cells #[.string ⟨#[]⟩, .string ⟨#[32]⟩, .string ⟨#[9]⟩, .string ⟨#[32, 32, 9, 32]⟩] 9)).cell? (ad.add k) = some (.int .u8 x) := (Below.cell (below_alloc (Below.refl _ _) _) (World.block_lt_of_cell? _ _ hcl)).trans hcl
          clear q0
          rcases q2 with q2 | ⟨q2, q3⟩ | ⟨q2, q3, q4⟩
          all_goals
            rcases hxq with ⟨h4, rfl⟩ | ⟨h4, rfl⟩ | ⟨h4, rfl⟩ | ⟨h4, rfl⟩
            all_goals
              go_wp2_with fail
              go_roundg (gk - 1)
              case measure => omega
              case rel => exact spr_spot hi rfl Q0.out hik HE.out hki hoz (below_alloc HBR.out _) HBL.out (by go_num) (by go_num)
      · have Q0 := Lib.hid q0
        clear q0 hblk
        go_wp2_with fail
        go_roundg (gk - 1)
        case measure => omega
        case rel => exact spr_else hi rfl Q0.out hik HE.out hki hoz HBR.out (by go_num) (by go_num)
    · have hf : i = s.size := by omega
      have he := HE.out
      rw [List.drop_of_length_le (by rw [← bsize]; omega)] at he
      rw [show sp (bls l) k [] = [] from rfl, List.append_nil] at he
      have HF := Lib.hid he
      clear hf he
      go_wp2_with fail
      go_ret
      refine ⟨HBR.out, _, ret_v rfl, ?_, ?_⟩
      · simp only [ByteArray.data_append, Array.toList_append, HF.out]; rfl
      · rw [bsize] at hoz ⊢
        simp only [ByteArray.data_append, Array.toList_append, List.length_append]
        have h1 : ([32] : List UInt8).length = 1 := rfl
        have h2 : ([9] : List UInt8).length = 1 := rfl
        omega

theorem ren_spaced {m : Nat} {t : Tr} (hL : LetOK m) (hv : VarsLt m t) (l : List UInt8) : Ren (tks (nzL m) 0 t) (32 :: (sp (bls l) 0 (Fm.wr (nzL m) 0 t) ++ [9])) := by
  have h := ren_sp (bl := bls l) (blank_bls l) t (hL.tree hv).2.1 0 0 [] [9] (.done (b := [9]) (fun c hc => by rw [List.mem_singleton.1 hc]; decide)) (by show idc 9 = false; decide)
  rw [List.append_nil] at h
  exact h.blank_left blank_one

set_option maxHeartbeats 8000000 in
set_option maxRecDepth 100000 in
/-- Spaces, walked. -/
theorem spaces_any (A B : Option Addr) (c n d : Nat) (l bs : List UInt8) (w : World) (hC : (Kd.int .u8).C w A l.length (u8s l)) (hc : l.length ≤ c) (hn : n < 256) (hCB : (Kd.int .u8).C w B bs.length (u8s bs)) (hd : bs.length ≤ d) :
    Calls Tryd.prog 8 #[.slice A l.length c, .int .u8 n, .slice B bs.length d] w (LawP w) := by
  obtain ⟨hml, hck, hbv, t, hrep, hv, hts⟩ := made_ok l (n := 1 + n % 12) (by omega) (by omega)
  obtain ⟨f, hf⟩ : ∃ f, f = madeP l ((1 + n % 12 : Nat) : Int) := ⟨_, rfl⟩
  rw [← hf] at hml hck hbv hrep hts
  have hbv12 : badVar f 12 = false := bad_more (by omega) hbv
  have hv12 : VarsLt 12 t := vars_more (by omega) hv
  have HF := Lib.hid hf
  have HC := Lib.hid hC
  have HCB := Lib.hid hCB
  have HCK := Lib.hid hck
  have HBV := Lib.hid hbv12
  have HREP := Lib.hid hrep
  have HV := Lib.hid hv12
  have hn0 : (0 : Int) ≤ (n : Int) := by omega
  have hn1 : (n : Int) < 256 := by omega
  have hsz : t.size ≤ 80 := by omega
  clear hf hC hCB hck hbv hbv12 hrep hv hv12 hts
  go_enter Tryd.func8, Tryd.ntmps8
  go_wp2_with fail
  refine (sanity_any w).mono ?_
  rintro e w1 ⟨rfl, hb1⟩
  have HB1 := Lib.hid hb1
  clear hb1
  go_wp2_with fail
  refine (letters_any 12 w1 (by decide)).mono ?_
  rintro e w2 ⟨hb2, AN, rfl, hN⟩
  have HB2 := Lib.hid (bth HB1.out hb2)
  have HN := Lib.hid hN
  clear hb2 hN HB1
  go_wp2_with fail
  have hma := made_any A c (1 + n % 12) l w2 (Kd.C_below HC.out HB2.out) hc (by omega) (by omega)
  rw [← HF.out] at hma
  rw [show (1 + (n : Int) % 12) = ((1 + n % 12 : Nat) : Int) by omega]
  refine hma.mono ?_
  rintro e w3 ⟨hb3, Af, cf, rfl, hcf, hCf⟩
  have HB3 := Lib.hid (bth HB2.out hb3)
  have HN3 := Lib.hid (Kd.C_below HN.out hb3)
  have HCF := Lib.hid hCf
  clear hma hb3 hCf HN HB2
  go_wp2_with fail
  refine (print_let let12 HN3.out HCF.out hcf HCK.out HBV.out HREP.out HV.out (by omega)).mono ?_
  rintro e w4 ⟨rfl, hb4⟩
  have HB4 := Lib.hid (bth HB3.out hb4)
  have HN4 := Lib.hid (Kd.C_below HN3.out hb4)
  have hwl := (let12.tree HV.out).2.2 0
  obtain ⟨s, hs⟩ : ∃ s : ByteArray, s = ⟨(Fm.wr (nzL 12) 0 t).toArray⟩ := ⟨_, rfl⟩
  have hsl : s.data.toList = Fm.wr (nzL 12) 0 t := by rw [hs]
  have hss : s.size ≤ 1600 := by rw [hs]; show (Fm.wr (nzL 12) 0 t).toArray.size ≤ _; rw [List.size_toArray]; omega
  rw [← hs]
  have HSL := Lib.hid hsl
  clear hb4 HN3 HCF HB3 hs hwl hsl
  go_wp2_with fail
  refine (parse_let (t := t) (s := s) let12 HN4.out HV.out (by omega) (by omega) (by rw [HSL.out]; exact ren_print let12 HV.out)).mono ?_
  rintro e w5 ⟨hb5, Ag, cg, rfl, hcg, hCg⟩
  dsimp only at hcg hCg
  have hgl := Tr.nodes_length t 0
  obtain ⟨g, hg⟩ : ∃ g, g = t.nodes 0 := ⟨_, rfl⟩
  rw [← hg] at hcg hCg hgl
  dsimp only
  rw [← hg]
  have hgl2 : g.length ≤ 80 := by omega
  have HB5 := Lib.hid (bth HB4.out hb5)
  have HN5 := Lib.hid (Kd.C_below HN4.out hb5)
  have HCG := Lib.hid hCg
  have HG := Lib.hid hg
  clear hb5 HN4 HB4 hCg hg hgl
  go_wp2_with fail
  refine (spaced_any B d s bs w5 (by omega) (Kd.C_below HCB.out HB5.out) hd).mono ?_
  rintro e w6 ⟨hb6, s2, rfl, hs2, hz2⟩
  have HB6 := Lib.hid (bth HB5.out hb6)
  have HN6 := Lib.hid (Kd.C_below HN5.out hb6)
  have HCG6 := Lib.hid (Kd.C_below HCG.out hb6)
  have HS2 := Lib.hid hs2
  clear hb6 hs2 HB5 HN5 HCG
  go_wp2_with fail
  refine (parse_let (t := t) (s := s2) let12 HN6.out HV.out (by omega) (by omega) (by rw [HS2.out, HSL.out]; exact ren_spaced let12 HV.out bs)).mono ?_
  rintro e w7 ⟨hb7, Ah, ch, rfl, hch, hCh⟩
  dsimp only at hch hCh
  rw [← HG.out] at hch hCh
  dsimp only
  rw [← HG.out]
  have HB7 := Lib.hid (bth HB6.out hb7)
  have HCG7 := Lib.hid (Kd.C_below HCG6.out hb7)
  have HCH := Lib.hid hCh
  clear hb7 hCh HB6 HN6 HCG6
  go_wp2_with fail
  refine (koineref03_Same.calls _ Ag cg g Ah ch g true w7 HCG7.out hcg HCH.out hch ((fn_same g g (by omega)).trans (by rw [decide_eq_true rfl]))).mono ?_
  rintro e w8 ⟨rfl, hd8⟩
  have HB8 := Lib.hid (bth HB7.out (drawn_below hd8))
  clear hd8
  go_wp2_with fail
  go_ret
  exact ⟨rfl, HB8.out⟩
end Go.Proofs.YtgpnpfjbkaehlaaDoor.Wk
