/- Parentheses: the plain law, the walk. -/
import Derived.WalkSpells
import Derived.Test.YtgpnpfjbkaehlaaDoorTa
import Derived.Test.YtgpnpfjbkaehlaaDoorKd
namespace Go.Proofs.YtgpnpfjbkaehlaaDoor.Fm
set_option linter.unusedVariables false
set_option linter.unusedSimpArgs false

/-- Where the depth comes to 0. -/
def clo : List UInt8 → Int → Option Nat
  | [], _ => none
  | c :: r, d =>
    let d' := if c = 40 then d + 1 else if c = 41 then d - 1 else d
    if d' = 0 then some 0 else (clo r d').map (· + 1)

theorem clo_other {c : UInt8} {r : List UInt8} {d : Int} (h : c ≠ 40 ∧ c ≠ 41) (hd : d ≠ 0) : clo (c :: r) d = (clo r d).map (· + 1) := by
  simp only [clo, if_neg h.1, if_neg h.2, if_neg hd]
theorem clo_open {r : List UInt8} {d : Int} (hd : 0 ≤ d) : clo (40 :: r) d = (clo r (d + 1)).map (· + 1) := by
  simp only [clo, if_true]; rw [if_neg (by omega)]
theorem clo_close {r : List UInt8} {d : Int} (hd : 1 < d) : clo (41 :: r) d = (clo r (d - 1)).map (· + 1) := by
  have h : ¬ (41 : UInt8) = 40 := by decide
  simp only [clo, if_neg h, if_true]; rw [if_neg (by omega)]
theorem clo_end (r : List UInt8) : clo (41 :: r) 1 = some 0 := by
  have h : ¬ (41 : UInt8) = 40 := by decide
  simp only [clo, if_neg h, if_true]; rfl

theorem map_add (o : Option Nat) (a b : Nat) : (o.map (· + a)).map (· + b) = o.map (· + (a + b)) := by cases o <;> simp; omega

def noPar (w : List UInt8) : Prop := ∀ c ∈ w, c ≠ 40 ∧ c ≠ 41
theorem noPar_word {w : List UInt8} (h : wordy w) : noPar w := fun c hc => by
  have := idc_not (h.1 c hc)
  exact ⟨this.2.1, this.2.2.1⟩

theorem clo_noPar {w : List UInt8} (h : noPar w) (l : List UInt8) {d : Int} (hd : 1 ≤ d) : clo (w ++ l) d = (clo l d).map (· + w.length) := by
  induction w with
  | nil => simp
  | cons c w ih =>
    rw [List.cons_append, clo_other (h c (by simp)) (by omega), ih (fun x hx => h x (List.mem_cons_of_mem _ hx)), map_add]
    simp only [List.length_cons]

theorem noPar_op (c : Bool) : noPar (if c then [32, 38, 38, 32] else [32, 124, 124, 32]) := by
  cases c <;> (intro x hx; simp at hx; rcases hx with hx | hx | hx <;> subst hx <;> decide)

theorem clo_wr {nz : Nat → List UInt8} (t : Tr) (hw : Wordy nz t) : ∀ (n : Nat) (l : List UInt8) (d : Int), 1 ≤ d → clo (wr nz n t ++ l) d = (clo l d).map (· + (wr nz n t).length) := by
  induction t with
  | con b =>
    intro n l d hd
    cases b
    · exact clo_noPar (noPar_word wordy_false) l hd
    · exact clo_noPar (noPar_word wordy_true) l hd
  | var v => intro n l d hd; exact clo_noPar (noPar_word hw) l hd
  | not t ih =>
    intro n l d hd
    show clo (33 :: (wr nz 2 t ++ l)) d = _
    rw [clo_other (by decide) (by omega), ih hw 2 l d hd, map_add]
    simp only [wr, List.length_cons]
  | bin c a b iha ihb =>
    intro n l d hd
    have core : ∀ (l : List UInt8) (d : Int), 1 ≤ d → clo ((wr nz (lv c) a ++ (if c then [32, 38, 38, 32] else [32, 124, 124, 32]) ++ wr nz (lv c + 1) b) ++ l) d = (clo l d).map (· + (wr nz (lv c) a ++ (if c then [32, 38, 38, 32] else [32, 124, 124, 32]) ++ wr nz (lv c + 1) b).length) := by
      intro l d hd
      rw [List.append_assoc, List.append_assoc, iha hw.1 _ _ d hd, clo_noPar (noPar_op c) _ hd, ihb hw.2 _ _ d hd, map_add, map_add]
      congr 1
      funext x
      simp only [List.length_append]
      omega
    by_cases hn : lv c < n
    · rw [wr_par nz n c a b hn]
      show clo (40 :: ((_ ++ [41]) ++ l)) d = _
      rw [clo_open (by omega), List.append_assoc, core _ _ (by omega)]
      show Option.map _ (Option.map _ (clo (41 :: l) (d + 1))) = _
      rw [clo_close (by omega), show d + 1 - 1 = d by omega, map_add, map_add]
      congr 1
      funext x
      simp only [List.length_append, List.length_cons, List.length_nil]
      omega
    · rw [wr_bare nz n c a b hn]
      exact core l d hd

/-- Every parenthesis of a printed expression is closed. -/
theorem closed {nz : Nat → List UInt8} (t : Tr) (hw : Wordy nz t) : ∀ (n : Nat) (pre post : List UInt8), wr nz n t = pre ++ 40 :: post → ∃ j, j < post.length ∧ ∀ l, clo (post ++ l) 1 = some j := by
  have absd : ∀ {w pre post : List UInt8}, noPar w → w = pre ++ 40 :: post → False := by
    intro w pre post h e
    exact (h 40 (by rw [e]; simp)).1 rfl
  induction t with
  | con b =>
    intro n pre post e
    cases b
    · exact (absd (noPar_word wordy_false) e).elim
    · exact (absd (noPar_word wordy_true) e).elim
  | var v => intro n pre post e; exact (absd (noPar_word hw) e).elim
  | not t ih =>
    intro n pre post e
    simp only [wr] at e
    cases pre with
    | nil => simp at e
    | cons c pre =>
      rw [List.cons_append] at e
      injection e with e0 e1
      exact ih hw 2 pre post e1
  | bin c a b iha ihb =>
    intro n pre post e
    have core : ∀ (pre post tail : List UInt8), (wr nz (lv c) a ++ (if c then [32, 38, 38, 32] else [32, 124, 124, 32]) ++ wr nz (lv c + 1) b) = pre ++ 40 :: post → ∃ j, j < post.length ∧ ∀ l, clo (post ++ l) 1 = some j := by
      intro pre post tail e
      rw [List.append_assoc] at e
      rcases List.append_eq_append_iff.1 e with ⟨ps, e1, e2⟩ | ⟨bs, e1, e2⟩
      · -- behind the left operand
        rcases List.append_eq_append_iff.1 e2 with ⟨cs, f1, f2⟩ | ⟨cs, f1, f2⟩
        · obtain ⟨j, h1, h2⟩ := ihb hw.2 _ cs post f2
          exact ⟨j, h1, h2⟩
        · cases cs with
          | nil =>
            simp only [List.nil_append] at f2
            obtain ⟨j, h1, h2⟩ := ihb hw.2 _ [] post f2.symm
            exact ⟨j, h1, h2⟩
          | cons x cs =>
            rw [List.cons_append] at f2
            injection f2 with g1 g2
            subst g1
            exact (absd (noPar_op c) f1).elim
      · cases bs with
        | nil =>
          simp only [List.nil_append] at e2
          exfalso
          cases c <;> simp at e2
        | cons x bs =>
          rw [List.cons_append] at e2
          injection e2 with g1 g2
          subst g1
          obtain ⟨j, h1, h2⟩ := iha hw.1 _ pre bs e1
          refine ⟨j, by rw [g2, List.length_append]; omega, fun l => ?_⟩
          rw [g2, List.append_assoc]
          exact h2 _
    by_cases hn : lv c < n
    · rw [wr_par nz n c a b hn] at e
      cases pre with
      | nil =>
        rw [List.cons_append, List.nil_append] at e
        injection e with _ e
        subst e
        have hcl := clo_wr (.bin c a b) hw 0
        refine ⟨(wr nz 0 (.bin c a b)).length, ?_, fun l => ?_⟩
        · rw [wr_bare nz 0 c a b (Nat.not_lt_zero _), List.length_append]; simp; omega
        · have := hcl (41 :: l) 1 (Int.le_refl _)
          rw [wr_bare nz 0 c a b (Nat.not_lt_zero _), clo_end] at this
          rw [List.append_assoc]
          rw [wr_bare nz 0 c a b (Nat.not_lt_zero _)]
          simpa using this
      | cons x pre =>
        rw [List.cons_append, List.cons_append] at e
        injection e with _ e
        rcases List.append_eq_append_iff.1 e with ⟨ps, e1, e2⟩ | ⟨bs, e1, e2⟩
        · cases ps with
          | nil => simp at e2
          | cons y ps =>
            rw [List.cons_append] at e2
            injection e2 with _ e2
            have := congrArg List.length e2
            simp at this
        · cases bs with
          | nil => simp at e2
          | cons y bs =>
            rw [List.cons_append] at e2
            injection e2 with g1 g2
            subst g1
            obtain ⟨j, h1, h2⟩ := core pre bs [] e1
            refine ⟨j, by rw [g2, List.length_append]; omega, fun l => ?_⟩
            rw [g2, List.append_assoc]
            exact h2 _
    · rw [wr_bare nz n c a b hn] at e
      exact core pre post [] e

/-- How many parentheses are opened. -/
def c40 (l : List UInt8) : Nat := l.countP (· == 40)

theorem c40_trim (l : List UInt8) : c40 (trim l) ≤ c40 l := by
  unfold c40 trim
  exact List.Sublist.countP_le (List.dropWhile_sublist _)

theorem c40_lex1 {l l' : List UInt8} {t : Tk} (h : lex1 l = some (t, l')) : cnt [t] + c40 l' ≤ c40 l := by
  cases l with
  | nil => simp [lex1] at h
  | cons c r =>
    have hc : c40 r ≤ c40 (c :: r) := by unfold c40; exact List.Sublist.countP_le (List.sublist_cons_self _ _)
    have ht := c40_trim r
    rw [lex1_cons] at h
    split at h
    · rename_i e
      simp only [Option.some.injEq, Prod.mk.injEq] at h
      obtain ⟨rfl, rfl⟩ := h
      subst e
      have : c40 (40 :: r) = c40 r + 1 := by unfold c40; rw [List.countP_cons]; rfl
      simp only [cnt]; omega
    split at h
    · simp only [Option.some.injEq, Prod.mk.injEq] at h; obtain ⟨rfl, rfl⟩ := h; simp only [cnt]; omega
    split at h
    · simp only [Option.some.injEq, Prod.mk.injEq] at h; obtain ⟨rfl, rfl⟩ := h; simp only [cnt]; omega
    split at h
    · split at h
      · rename_i d r'
        split at h
        · simp only [Option.some.injEq, Prod.mk.injEq] at h; obtain ⟨rfl, rfl⟩ := h
          have h2 := c40_trim r'
          have h3 : c40 r' ≤ c40 (d :: r') := by unfold c40; exact List.Sublist.countP_le (List.sublist_cons_self _ _)
          simp only [cnt]; omega
        · simp at h
      · simp at h
    split at h
    · split at h
      · rename_i d r'
        split at h
        · simp only [Option.some.injEq, Prod.mk.injEq] at h; obtain ⟨rfl, rfl⟩ := h
          have h2 := c40_trim r'
          have h3 : c40 r' ≤ c40 (d :: r') := by unfold c40; exact List.Sublist.countP_le (List.sublist_cons_self _ _)
          simp only [cnt]; omega
        · simp at h
      · simp at h
    split at h
    · simp at h
    · simp only [Option.some.injEq, Prod.mk.injEq] at h
      obtain ⟨rfl, rfl⟩ := h
      have h1 := c40_trim ((c :: r).drop (idl (c :: r)))
      have h2 : c40 ((c :: r).drop (idl (c :: r))) ≤ c40 (c :: r) := by unfold c40; exact List.Sublist.countP_le (List.drop_sublist _ _)
      simp only [cnt]; omega

theorem c40_lex : ∀ (n : Nat) (l : List UInt8), l.length ≤ n → cnt (lexAll l) ≤ c40 l := by
  intro n
  induction n with
  | zero =>
    intro l hl
    have : l = [] := List.length_eq_zero_iff.1 (by omega)
    subst this
    exact Nat.zero_le _
  | succ n ih =>
    intro l hl
    cases h : lex1 l with
    | none => rw [lexAll_none h]; exact Nat.zero_le _
    | some p =>
      obtain ⟨t, l'⟩ := p
      have h1 := c40_lex1 h
      have h2 := lex1_low _ _ _ h
      have h3 := ih l' (by omega)
      rw [lexAll_some h, show t :: lexAll l' = [t] ++ lexAll l' from rfl, cnt_append]
      omega

theorem c40_noPar {w : List UInt8} (h : noPar w) : c40 w = 0 := by
  unfold c40
  rw [List.countP_eq_zero]
  intro c hc
  have := (h c hc).1
  simpa using this
theorem c40_app (a b : List UInt8) : c40 (a ++ b) = c40 a + c40 b := List.countP_append ..

theorem c40_wr {nz : Nat → List UInt8} (t : Tr) (hw : Wordy nz t) : ∀ n, c40 (wr nz n t) = par n t := by
  induction t with
  | con b =>
    intro n
    cases b
    · exact c40_noPar (noPar_word wordy_false)
    · exact c40_noPar (noPar_word wordy_true)
  | var v => intro n; exact c40_noPar (noPar_word hw)
  | not t ih =>
    intro n
    simp only [wr, par]
    rw [← ih hw 2, show (33 :: wr nz 2 t) = [33] ++ wr nz 2 t from rfl, c40_app]
    have : c40 [33] = 0 := rfl
    omega
  | bin c a b iha ihb =>
    intro n
    have core : c40 (wr nz (lv c) a ++ (if c then [32, 38, 38, 32] else [32, 124, 124, 32]) ++ wr nz (lv c + 1) b) = par (lv c) a + par (lv c + 1) b := by
      rw [c40_app, c40_app, iha hw.1, ihb hw.2, c40_noPar (noPar_op c)]; omega
    by_cases hn : lv c < n
    · rw [wr_par nz n c a b hn]
      simp only [par, if_pos hn]
      rw [show ∀ (x : List UInt8), 40 :: x ++ [41] = [40] ++ x ++ [41] from fun _ => rfl, c40_app, c40_app, core]
      have h1 : c40 [40] = 1 := rfl
      have h2 : c40 [41] = 0 := rfl
      omega
    · rw [wr_bare nz n c a b hn]
      simp only [par, if_neg hn]
      rw [core]; omega

theorem rep_nodes (t : Tr) : ∀ (f : List FN), Rep (f ++ t.nodes f.length) t (f.length + t.size - 1) := by
  induction t with
  | con b => intro f; show (f ++ _)[f.length + 1 - 1]? = _; simp [Tr.nodes]
  | var v => intro f; show (f ++ _)[f.length + 1 - 1]? = _; simp [Tr.nodes]
  | not t ih =>
    intro f
    have h := ih f
    have hp := t.size_pos
    refine ⟨f.length + t.size - 1, ?_, ?_⟩
    · simp only [Tr.nodes, Tr.size]
      rw [← List.append_assoc, List.getElem?_append_right (by rw [List.length_append, Tr.nodes_length]; omega), List.length_append, Tr.nodes_length, show f.length + (t.size + 1) - 1 - (f.length + t.size) = 0 by omega]
      rfl
    · simp only [Tr.nodes]
      rw [← List.append_assoc]
      exact rep_app _ h
  | bin c l r ihl ihr =>
    intro f
    have h1 := ihl f
    have h2 := ihr (f ++ l.nodes f.length)
    have hl := l.size_pos
    have hr := r.size_pos
    rw [List.length_append, Tr.nodes_length] at h2
    refine ⟨f.length + l.size - 1, f.length + l.size + r.size - 1, ?_, ?_, ?_⟩
    · simp only [Tr.nodes, Tr.size]
      rw [← List.append_assoc, List.getElem?_append_right (by simp only [List.length_append, Tr.nodes_length]; omega)]
      simp only [List.length_append, Tr.nodes_length]
      rw [show f.length + (l.size + r.size + 1) - 1 - (f.length + (l.size + r.size)) = 0 by omega]
      rfl
    · simp only [Tr.nodes]
      rw [← List.append_assoc, ← List.append_assoc]
      exact rep_app _ (rep_app _ h1)
    · simp only [Tr.nodes]
      rw [← List.append_assoc, ← List.append_assoc]
      exact rep_app _ h2

theorem nodes_inj {t s : Tr} (h : t.nodes 0 = s.nodes 0) : t = s := by
  have h1 := rep_nodes t []
  have h2 := rep_nodes s []
  have hs : t.size = s.size := by rw [← Tr.nodes_length t 0, h, Tr.nodes_length]
  simp only [List.nil_append, List.length_nil] at h1 h2
  rw [h, hs] at h1
  exact rep_inj h1 h2

/-- An expression with too few parentheses is not one of the formula. -/
theorem few_par {nz : Nat → List UInt8} {nm : List UInt8 → Option Nat} {t : Tr} (hw : Wordy nz t) {l : List UInt8} (hl : c40 l < c40 (wr nz 0 t)) {k : Nat} {a : Int} {g : List FN} {u : Bool} (hr : run lex1 nm k (.ex false) 0 ⟨trim l, [], false⟩ = some (some (a, ⟨[], g, u⟩))) : g ≠ t.nodes 0 := by
  have hm := run_map (nm := nm) lex_sim k (.ex false) 0 ⟨trim l, [], false⟩
  rw [hr] at hm
  have e : (⟨trim l, [], false⟩ : PS (List UInt8)).map lexAll = ⟨lexAll (trim l), [], false⟩ := rfl
  rw [e] at hm
  obtain ⟨t2, h1, _, h3⟩ := run_tree _ _ _ _ _ _ hm
  simp only [PS.map, List.length_nil, List.nil_append] at h1
  intro hg
  rw [hg] at h1
  have := nodes_inj h1
  subst this
  have h4 : cnt (lexAll (trim l)) ≤ c40 l := Nat.le_trans (c40_lex _ _ (Nat.le_refl _)) (c40_trim l)
  have h5 := c40_wr t hw 0
  have h6 : par (lv false) t = par 0 t := rfl
  simp only [PS.map] at h3
  omega
end Go.Proofs.YtgpnpfjbkaehlaaDoor.Fm
namespace Go.Proofs.YtgpnpfjbkaehlaaDoor.Wk
open Go.RowKit Go.Shelf Go.Lib Go.Maps Go.Proofs.YtgpnpfjbkaehlaaDoorW.PrintWords Go.Proofs.YtgpnpfjbkaehlaaDoorW.PrintLast Go.Proofs.YtgpnpfjbkaehlaaDoorW.PrintMore Go.Proofs.YtgpnpfjbkaehlaaDoor.Nt Go.Proofs.YtgpnpfjbkaehlaaDoor.Fm
set_option linter.unusedVariables false
set_option linter.unusedSimpArgs false

theorem clo_step {l : List UInt8} {i j : Nat} {b : UInt8} {d : Int} (hb : l[i]? = some b) (h : clo (l.drop i) d = some j) :
    (if b = 40 then d + 1 else if b = 41 then d - 1 else d) = 0 ∧ j = 0 ∨ (if b = 40 then d + 1 else if b = 41 then d - 1 else d) ≠ 0 ∧ ∃ j', j = j' + 1 ∧ clo (l.drop (i + 1)) (if b = 40 then d + 1 else if b = 41 then d - 1 else d) = some j' := by
  obtain ⟨h1, h2⟩ := List.getElem?_eq_some_iff.1 hb
  rw [List.drop_eq_getElem_cons h1, h2, clo] at h
  change (if (if b = 40 then d + 1 else if b = 41 then d - 1 else d) = 0 then some 0 else (clo (l.drop (i + 1)) (if b = 40 then d + 1 else if b = 41 then d - 1 else d)).map (· + 1)) = some j at h
  generalize (if b = 40 then d + 1 else if b = 41 then d - 1 else d) = d' at h ⊢
  split at h
  · rename_i h0
    injection h with h
    exact .inl ⟨h0, h.symm⟩
  · rename_i h0
    obtain ⟨j', h3, h4⟩ := Option.map_eq_some_iff.1 h
    exact .inr ⟨h0, j', h4.symm, h3⟩

theorem byte_at {s : ByteArray} {i : Nat} (hi : i < s.size) : s.data.toList[i]? = some s[i] := by
  rw [List.getElem?_eq_getElem (by simpa using hi)]; rfl

set_option maxHeartbeats 4000000 in
set_option maxRecDepth 100000 in
theorem closing_any (s : ByteArray) (i j : Nat) (w : World) (hs : s.size < 2147483648) (hi : i < s.size) (h : clo (s.data.toList.drop i) 0 = some j) (hj : i + j < s.size) :
    Calls Tryd.prog 25 #[.string s, .int .i64 i] w fun e w' => e = .returned (.int .i64 ((i + j : Nat) : Int)) ∧ w' = w := by
  have H := Lib.hid h
  clear h
  go_enter Tryd.func25, Tryd.ntmps25
  go_wp2_with fail
  go_loopg [5, 6] j (fun kq v5 v6 wr => ∃ (d : Int) (m : Nat), v5 = .int .i64 d ∧ v6 = .int .i64 ((i + m : Nat) : Int) ∧ Aside0 (m + kq = j ∧ clo (s.data.toList.drop (i + m)) d = some kq ∧ -(m : Int) ≤ d ∧ d ≤ m ∧ wr = w))
  case atStart => exact ⟨0, 0, rfl, rfl, by omega, H.out, by omega, by omega, rfl⟩
  case round =>
    obtain ⟨d, m, rfl, rfl, HA⟩ := hrel
    obtain ⟨hm, hcl, hd0, hd1, rfl⟩ := HA.out
    clear HA
    have him : i + m < s.size := by omega
    have hx : ((i + m : Nat) : Int) < (s.size : Int) := by omega
    have hx0 : (0 : Int) ≤ ((i + m : Nat) : Int) := by omega
    have hst := clo_step (byte_at him) hcl
    obtain ⟨b, hb⟩ : ∃ b, s[i + m] = b := ⟨_, rfl⟩
    rw [hb] at hst
    clear hcl
    have u40 : b = 40 ↔ ((b.toNat : Int) = 40) := by
      constructor
      · rintro rfl; rfl
      · intro h; exact UInt8.toNat_inj.1 (by have : (40 : UInt8).toNat = 40 := rfl; omega)
    have u41 : b = 41 ↔ ((b.toNat : Int) = 41) := by
      constructor
      · rintro rfl; rfl
      · intro h; exact UInt8.toNat_inj.1 (by have : (41 : UInt8).toNat = 41 := rfl; omega)
    obtain ⟨d', hd'⟩ : ∃ d', d' = (if b = 40 then d + 1 else if b = 41 then d - 1 else d) := ⟨_, rfl⟩
    rw [← hd'] at hst
    have hdd : -((m : Int) + 1) ≤ d' ∧ d' ≤ m + 1 := by rw [hd']; split <;> (try split) <;> omega
    have HST := Lib.hid hst
    have hcase : (((b.toNat : Int) == 40) = true ∧ ((b.toNat : Int) == 41) = false ∧ d' = d + 1) ∨ (((b.toNat : Int) == 40) = false ∧ ((b.toNat : Int) == 41) = true ∧ d' = d - 1) ∨ (((b.toNat : Int) == 40) = false ∧ ((b.toNat : Int) == 41) = false ∧ d' = d) := by
      simp only [beq_iff_eq, beq_eq_false_iff_ne, ne_eq, ← u40, ← u41]
      by_cases h0 : b = 40
      · refine .inl ⟨h0, ?_, by rw [hd', if_pos h0]⟩
        subst h0; decide
      · by_cases h1 : b = 41
        · exact .inr (.inl ⟨h0, h1, by rw [hd', if_neg h0, if_pos h1]⟩)
        · exact .inr (.inr ⟨h0, h1, by rw [hd', if_neg h0, if_neg h1]⟩)
    have hkj : gk = 0 ∧ d' = 0 ∨ 0 < gk ∧ d' ≠ 0 := by
      rcases hst with ⟨h1, h2⟩ | ⟨h1, j', h2, h3⟩
      · exact .inl ⟨h2, h1⟩
      · exact .inr ⟨by omega, h1⟩
    clear hst hd' u40 u41
    rcases hcase with ⟨q1, q2, q3⟩ | ⟨q1, q2, q3⟩ | ⟨q1, q2, q3⟩
    all_goals
      subst q3
      rcases hkj with ⟨h1, h2⟩ | ⟨h1, h2⟩
      · have hz := beq_iff_eq.2 h2
        have H1 := Lib.hid h1
        have hjm : i + m = i + j := by omega
        have HJ := Lib.hid hjm
        clear h1 h2 hjm
        go_wp2_with fail
        go_ret
        refine ⟨ret_v (val_i (by have := HJ.out; omega)), rfl⟩
      · have hz := beq_eq_false_iff_ne.2 h2
        have H2 := Lib.hid h2
        clear h2
        go_wp2_with fail
        go_roundg (gk - 1)
        case measure => omega
        case rel =>
          rcases HST.out with ⟨e1, e2⟩ | ⟨e1, j', e2, e3⟩
          · omega
          · exact ⟨_, m + 1, rfl, val_i (by omega), by omega, by rw [show i + (m + 1) = i + m + 1 by omega, show gk - 1 = j' by omega]; exact e3, by omega, by omega, rfl⟩

/-- What a removal of two bytes leaves. -/
def cutP (l : List UInt8) (i j : Nat) : List UInt8 := l.take i ++ ((l.drop (i + 1)).take j ++ l.drop (i + j + 2))

/-- Two lists of nodes that differ. -/
theorem same_no {xs ys : List FN} (h : xs ≠ ys) (hy : ys.length < 4294967296) : koineref03_Same.f (xs.length + 1) xs ys = some false := by
  by_cases hl : xs.length < 4294967296
  · rw [fn_same xs ys hl, decide_eq_false h]
  · unfold koineref03_Same.f
    rw [if_neg (by omega)]

set_option maxHeartbeats 8000000 in
set_option maxRecDepth 100000 in
/-- Parentheses, walked. -/
theorem parens_any (A : Option Addr) (c n : Nat) (l : List UInt8) (w : World) (hC : (Kd.int .u8).C w A l.length (u8s l)) (hc : l.length ≤ c) (hn : n < 256) :
    Calls Tryd.prog 7 #[.slice A l.length c, .int .u8 n] w (LawP w) := by
  obtain ⟨hml, hck, hbv, t, hrep, hv, hts⟩ := made_ok l (n := 1 + n % 12) (by omega) (by omega)
  obtain ⟨f, hf⟩ : ∃ f, f = madeP l ((1 + n % 12 : Nat) : Int) := ⟨_, rfl⟩
  rw [← hf] at hml hck hbv hrep hts
  have hbv12 : badVar f 12 = false := bad_more (by omega) hbv
  have hv12 : VarsLt 12 t := vars_more (by omega) hv
  have HF := Lib.hid hf
  have HC := Lib.hid hC
  have HCK := Lib.hid hck
  have HBV := Lib.hid hbv12
  have HREP := Lib.hid hrep
  have HV := Lib.hid hv12
  have hn0 : (0 : Int) ≤ (n : Int) := by omega
  have hn1 : (n : Int) < 256 := by omega
  have hsz : t.size ≤ 80 := by omega
  clear hf hC hck hbv hbv12 hrep hv hv12 hts
  go_enter Tryd.func7, Tryd.ntmps7
  go_wp2_with fail
  refine (sanity_any w).mono ?_
  rintro e w1 ⟨rfl, hb1⟩
  have HB1 := Lib.hid hb1
  clear hb1
  go_wp2_with fail
  refine (letters_any 12 w1 (by decide)).mono ?_
  rintro e w2 ⟨hb2, AN, rfl, hN⟩
  have HB2 := Lib.hid (bth HB1.out hb2)
  have HN := Lib.hid hN
  clear hb2 hN HB1
  go_wp2_with fail
  have hma := made_any A c (1 + n % 12) l w2 (Kd.C_below HC.out HB2.out) hc (by omega) (by omega)
  rw [← HF.out] at hma
  rw [show (1 + (n : Int) % 12) = ((1 + n % 12 : Nat) : Int) by omega]
  refine hma.mono ?_
  rintro e w3 ⟨hb3, Af, cf, rfl, hcf, hCf⟩
  have HB3 := Lib.hid (bth HB2.out hb3)
  have HN3 := Lib.hid (Kd.C_below HN.out hb3)
  have HCF := Lib.hid hCf
  clear hma hb3 hCf HN HB2
  go_wp2_with fail
  refine (print_let let12 HN3.out HCF.out hcf HCK.out HBV.out HREP.out HV.out (by omega)).mono ?_
  rintro e w4 ⟨rfl, hb4⟩
  have HB4 := Lib.hid (bth HB3.out hb4)
  have HN4 := Lib.hid (Kd.C_below HN3.out hb4)
  have HCF4 := Lib.hid (Kd.C_below HCF.out hb4)
  have hwl := (let12.tree HV.out).2.2 0
  obtain ⟨s, hs⟩ : ∃ s : ByteArray, s = ⟨(wr (nzL 12) 0 t).toArray⟩ := ⟨_, rfl⟩
  have hsl : s.data.toList = wr (nzL 12) 0 t := by rw [hs]
  have hss : s.size ≤ 1600 := by rw [hs]; show (wr (nzL 12) 0 t).toArray.size ≤ _; rw [List.size_toArray]; omega
  rw [← hs]
  have HSL := Lib.hid hsl
  clear hb4 HN3 HCF HB3 hs hwl hsl
  go_wp2_with fail
  go_loopg [10] s.size (fun kq v10 wr => ∃ i : Nat, v10 = .int .i64 i ∧ Aside0 (i + kq = s.size ∧ Below w4.heap.size w4 wr))
  case atStart => exact ⟨0, rfl, by omega, Below.refl _ _⟩
  case round =>
    obtain ⟨i, rfl, HA⟩ := hrel
    have hik := HA.out.1
    have HBR := Lib.hid HA.out.2
    by_cases hi : i < s.size
    · obtain ⟨b, hb⟩ : ∃ b, s[i] = b := ⟨_, rfl⟩
      have hx0 : (0 : Int) ≤ (i : Int) := by omega
      have hx1 : (i : Int) < (s.size : Int) := by omega
      by_cases h40 : b = 40
      · subst h40
        have hsl := HSL.out
        have hd : s.data.toList.drop i = 40 :: s.data.toList.drop (i + 1) := by
          rw [List.drop_eq_getElem_cons (by simpa using hi)]
          congr 1
        have hw : Fm.wr (nzL 12) 0 t = s.data.toList.take i ++ 40 :: s.data.toList.drop (i + 1) := by rw [← hsl, ← hd, List.take_append_drop]
        obtain ⟨j, hj1, hj2⟩ := closed t (let12.tree HV.out).2.1 0 _ _ hw
        rw [List.length_drop] at hj1
        have hlen : s.data.toList.length = s.size := by rw [Array.length_toList]; rfl
        have hc0 : clo (s.data.toList.drop i) 0 = some (j + 1) := by
          rw [hd, clo_open (Int.le_refl _)]
          have := hj2 []
          rw [List.append_nil] at this
          rw [show (0 : Int) + 1 = 1 from rfl, this]; rfl
        have hij : i + (j + 1) < s.size := by omega
        have hcl := closing_any s i (j + 1) wr (by omega) hi hc0 hij
        have HCL := Lib.hid hcl
        have HW := Lib.hid hw
        clear hcl hw hj2 hc0 hd hsl
        have hq : ((s[i].toNat : Int) != 40) = false := by rw [hb]; rfl
        have HB40 := Lib.hid hb
        clear hb
        go_wp2_with fail
        refine HCL.out.mono ?_
        rintro e wz ⟨rfl, rfl⟩
        go_wp2_with fail
        have i0 : (i : Int) ≤ (s.size : Int) := by omega
        have i1 : (0 : Int) ≤ (i : Int) + 1 := by omega
        have i2 : (i : Int) + 1 ≤ (i : Int) + ((j : Int) + 1) := by omega
        have i9 : (i : Int) + ((j : Int) + 1) ≤ (s.size : Int) := by omega
        have i3 : (i : Int) + ((j : Int) + 1) + 1 ≤ (s.size : Int) := by omega
        have i4 : (0 : Int) ≤ (i : Int) + ((j : Int) + 1) + 1 := by omega
        have i5 : IntKind.i64.wrap ((i : Int) + 1) = (i : Int) + 1 := IntWalk.i64_in _ (by omega)
        have i6 : IntKind.i64.wrap ((i : Int) + ((j : Int) + 1) + 1) = (i : Int) + ((j : Int) + 1) + 1 := IntWalk.i64_in _ (by omega)
        have i7 : ((i : Int) + 1).toNat = i + 1 := by omega
        have i8 : ((i : Int) + ((j : Int) + 1) + 1).toNat = i + j + 2 := by omega
        have i10 : ((i : Int) + ((j : Int) + 1)).toNat = i + j + 1 := by omega
        go_quiet (fail)
        obtain ⟨s2, hs2⟩ : ∃ s2, s2 = s.extract 0 i ++ s.extract (i + 1) (i + j + 1) ++ s.extract (i + j + 2) s.size := ⟨_, rfl⟩
        rw [← hs2]
        have hdat : s2.data.toList = cutP s.data.toList i j := by
          rw [hs2]
          rw [ByteArray.data_append, ByteArray.data_append, Array.toList_append, Array.toList_append, Lib.extract_data, Lib.extract_data, Lib.extract_data]
          unfold cutP
          rw [List.drop_zero, Nat.sub_zero, List.append_assoc, show i + j + 1 - (i + 1) = j by omega, List.take_of_length_le (l := s.data.toList.drop (i + j + 2)) (by rw [List.length_drop]; omega)]
        have hc40 : c40 s2.data.toList < c40 (Fm.wr (nzL 12) 0 t) := by
          rw [hdat, HW.out]
          unfold cutP
          rw [c40_app, c40_app, c40_app, show ∀ x : List UInt8, (40 :: x) = [40] ++ x from fun _ => rfl, c40_app]
          have h1 : c40 [40] = 1 := rfl
          have h2 : c40 ((s.data.toList.drop (i + 1)).take j) + c40 (s.data.toList.drop (i + j + 2)) ≤ c40 (s.data.toList.drop (i + 1)) := by
            have h3 := c40_app ((s.data.toList.drop (i + 1)).take j) ((s.data.toList.drop (i + 1)).drop j)
            rw [List.take_append_drop] at h3
            have h4 : c40 (s.data.toList.drop (i + j + 2)) ≤ c40 ((s.data.toList.drop (i + 1)).drop j) := by
              rw [List.drop_drop, show i + j + 2 = i + 1 + j + 1 by omega]
              unfold c40
              rw [← List.drop_drop]
              exact List.Sublist.countP_le (List.drop_sublist _ _)
            omega
          omega
        have hs2z : s2.size < 2147483648 := by
          have h1 : s2.data.toList.length = s2.size := by rw [Array.length_toList]; rfl
          rw [← h1, hdat]
          unfold cutP
          simp only [List.length_append, List.length_take, List.length_drop]
          omega
        have hb5 : Below w4.heap.size w4 (wz.drewN nq) := pw_below_drewN HBR.out nq
        obtain ⟨rr, hrr⟩ := run_total (nx := lex1) (nm := nmL 12) lex1_low _ (.ex false) 0 (⟨trim s2.data.toList, [], false⟩ : PS (List UInt8)) (Nat.le_refl _)
        have hpg := parse_good AN 12 (letters.take 12) s2 (wz.drewN nq) (Kd.C_below HN4.out hb5) (by decide) (by decide) let_sz let12.names hs2z _ rr hrr
        have hne : (fin rr).2 = 0 → (fin rr).1 ≠ t.nodes 0 := by
          intro h0
          cases rr with
          | none => simp [fin] at h0
          | some p =>
            obtain ⟨a, l1, g, u⟩ := p
            simp only [fin] at h0 ⊢
            split at h0
            · simp at h0
            · rename_i h1
              split at h0
              · simp at h0
              · split at h0
                · simp at h0
                · rename_i h2 h3
                  have h1' : l1 = [] := by simpa using h1
                  subst h1'
                  rw [if_neg h1, if_neg h2, if_neg h3]
                  exact few_par (let12.tree HV.out).2.1 hc40 hrr
        obtain ⟨gg, hgg⟩ : ∃ gg, gg = fin rr := ⟨_, rfl⟩
        rw [← hgg] at hpg hne
        have HPG := Lib.hid hpg
        have HNE := Lib.hid hne
        have HB5 := Lib.hid hb5
        clear hpg hne hb5 hgg hrr hs2 hdat hc40 i0 i1 i2 i3 i4 i5 i6 i7 i8 i9 i10 HCL
        go_wp2_with fail
        refine HPG.out.mono ?_
        rintro e w5 ⟨hb6, Ag, cg, rfl, hcg, hCg⟩
        have HB6 := Lib.hid (bth HB5.out hb6)
        have HCG := Lib.hid hCg
        clear hb6 hCg HB5
        by_cases h0 : gg.2 = 0
        · have h0b : (gg.2 == 0) = true := beq_iff_eq.2 h0
          have HNQ := Lib.hid (HNE.out h0)
          have hpo := postorder_any Af cf f t w5 (Kd.C_below HCF4.out HB6.out) hcf (by omega) HREP.out (by omega)
          have HPO := Lib.hid hpo
          clear h0 hpo
          go_wp2_with fail
          refine HPO.out.mono ?_
          rintro e w6 ⟨hb7, Ap, cp, rfl, hcp, hCp⟩
          have hgl := Kd.C_max HCG.out
          have hpl : (t.nodes 0).length = t.size := Tr.nodes_length t 0
          have hsm := koineref03_Same.calls (gg.1.length + 1) Ag cg gg.1 Ap cp (t.nodes 0) false w6 (Kd.C_below HCG.out hb7) hcg hCp hcp (same_no HNQ.out (by omega))
          have HSM := Lib.hid hsm
          have HB7 := Lib.hid (bth HB6.out hb7)
          clear hb7 hCp hsm hpl
          go_wp2_with fail
          refine HSM.out.mono ?_
          rintro e w7 ⟨rfl, hd7⟩
          have HB8 := Lib.hid (bth HB7.out (drawn_below hd7))
          clear hd7
          go_wp2_with fail
          go_roundg (gk - 1)
          case measure => omega
          case rel => exact ⟨i + 1, by go_num, by omega, HB8.out⟩
        · have h0b : (gg.2 == 0) = false := beq_eq_false_iff_ne.2 h0
          clear h0
          go_wp2_with fail
          go_roundg (gk - 1)
          case measure => omega
          case rel => exact ⟨i + 1, by go_num, by omega, HB6.out⟩
      · have hq : ((b.toNat : Int) != 40) = true := by
          rw [bne_iff_ne]; intro h; exact h40 (UInt8.toNat_inj.1 (by have : (40 : UInt8).toNat = 40 := rfl; omega))
        have hq2 : ((b.toNat : Int) == 40) = false := by
          rw [beq_eq_false_iff_ne]; intro h; exact h40 (UInt8.toNat_inj.1 (by have : (40 : UInt8).toNat = 40 := rfl; omega))
        clear h40
        go_wp2_with fail
        go_roundg (gk - 1)
        case measure => omega
        case rel => exact ⟨i + 1, by go_num, by omega, HBR.out⟩
    · go_wp2_with fail
      go_ret
      exact ⟨rfl, bth HB4.out HBR.out⟩
end Go.Proofs.YtgpnpfjbkaehlaaDoor.Wk
