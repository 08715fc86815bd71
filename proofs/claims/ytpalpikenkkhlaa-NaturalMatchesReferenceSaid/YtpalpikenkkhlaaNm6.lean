/- What Same, trim, fit and Made of the reference answer, in numbers; helps for the laws. -/
import Derived.Test.YtpalpikenkkhlaaNm4
import Derived.Test.YtpalpikenkkhlaaNtG
set_option linter.unusedVariables false
namespace Go.Proofs.Ytpalpikenkkhlaa.Nm
open Go.RowKit Go.Proofs.YtpalpikenkkhlaaW.PrintWords Go.Proofs.YtpalpikenkkhlaaW.PrintMore Go.Proofs.Ytpalpikenkkhlaa.Nt

theorem lm_of_wf {l : List Int} (h : ∀ x ∈ l, (Lit.int .u32 x).wf = true) : Lm l := by
  intro x hx
  have := h x hx
  simp [Lit.wf, IntKind.min, IntKind.max, IntKind.signed, IntKind.bits] at this
  omega
theorem lim_add_len {m n p q : Nat} (hm : (lim m).length ≤ p) (hn : (lim n).length ≤ q) : (lim (m + n)).length ≤ p + q + 1 := by
  rw [lim_len_iff] at hm hn ⊢
  have h1 : np p ≤ np (p + q) := np_le (by omega)
  have h2 : np q ≤ np (p + q) := np_le (by omega)
  rw [np_succ]
  have := np_pos (p + q)
  omega
theorem lim_mul_len {m n p q : Nat} (hm : (lim m).length ≤ p) (hn : (lim n).length ≤ q) : (lim (m * n)).length ≤ p + q := by
  rw [lim_len_iff] at hm hn ⊢
  rw [np_add]
  exact Nat.mul_lt_mul'' hm hn

/-! ### Same -/
theorem same_loop (xs ys : List Int) (hl : xs.length = ys.length) (hb : xs.length < 4611686018427387904) : ∀ (d i : Nat), xs.length = i + d → (∀ j, j < i → xs.getD j 0 = ys.getD j 0) →
    Ev (fun k => koineref01_Same.l0 k xs ys (i : Int)) (decide (xs = ys)) := by
  intro d
  induction d with
  | zero =>
    intro i hi he
    have e : xs = ys := by
      apply List.ext_getElem hl
      intro j h1 h2
      have := he j (by omega)
      rw [List.getD_eq_getElem?_getD, List.getD_eq_getElem?_getD, List.getElem?_eq_getElem h1, List.getElem?_eq_getElem h2] at this
      simpa using this
    rw [decide_eq_true e]
    refine Ev.some_ fun k => ?_
    simp only [koineref01_Same.l0]
    rw [if_neg (by omega)]
  | succ d ih =>
    intro i hi he
    by_cases h : xs.getD i 0 = ys.getD i 0
    · refine Ev.step (fun k => ?_) (ih (i + 1) (by omega) (fun j hj => ?_))
      · simp only [koineref01_Same.l0]
        rw [if_pos (by omega), if_pos (by omega), if_pos (by omega), rd_nat, rd_nat, if_pos h, w64_add i (by omega)]
      · by_cases hji : j = i
        · rw [hji]; exact h
        · exact he j (by omega)
    · have e : ¬ xs = ys := fun e => h (by rw [e])
      rw [decide_eq_false e]
      refine Ev.some_ fun k => ?_
      simp only [koineref01_Same.l0]
      rw [if_pos (by omega), if_pos (by omega), if_pos (by omega), rd_nat, rd_nat, if_neg h]
theorem same_ev (xs ys : List Int) (hb : xs.length < 4611686018427387904) : Ev (fun k => koineref01_Same.f k xs ys) (decide (xs = ys)) := by
  unfold koineref01_Same.f
  by_cases h : xs.length = ys.length
  · refine Ev.congr (fun k => ?_) (same_loop xs ys h hb xs.length 0 (by omega) (fun j hj => by omega))
    rw [if_pos (by omega)]; rfl
  · have e : ¬ xs = ys := fun e => h (by rw [e])
    rw [decide_eq_false e]
    refine Ev.all fun k => ?_
    rw [if_neg (by omega)]
theorem same_refl (xs : List Int) (hb : xs.length ≤ 1024) : Ev (fun k => koineref01_Same.f k xs xs) true := by
  have := same_ev xs xs (by omega)
  rw [decide_eq_true rfl] at this
  exact this

/-! ### trim, fit, Made of the reference -/
theorem rtrim_loop (xs : List Int) (h : Lm xs) (hl : xs.length < 1099511627776) : ∀ n : Nat, n ≤ xs.length → val (xs.take n) = val xs → Ev (fun k => koineref01_trim.l0 k xs (n : Int)) (lim (val xs).toNat) := by
  intro n
  induction n with
  | zero =>
    intro _ hv
    have e : (val xs).toNat = 0 := by rw [← hv]; rfl
    rw [e, lim_zero]
    refine Ev.some_ fun k => ?_
    simp only [koineref01_trim.l0]
    rw [if_neg (by omega), if_pos (by omega), if_pos (by omega)]
    simp
  | succ n ih =>
    intro hn hv
    by_cases h0 : rd xs (n : Int) = 0
    · have hv' : val (xs.take n) = val xs := by
        rw [rd_nat] at h0
        have := gval_take_succ 4294967296 xs n (by omega)
        rw [h0, Int.mul_zero, Int.add_zero] at this
        exact this.symm.trans hv
      refine Ev.step (fun k => ?_) (ih (by omega) hv')
      simp only [koineref01_trim.l0]
      rw [w64_sub n (by omega), if_pos (by omega), if_pos (by omega), if_pos (by omega), if_pos h0]
    · have h0' : xs.getD n 0 ≠ 0 := by rw [← rd_nat]; exact h0
      have ht : lim (val xs).toNat = xs.take (n + 1) := by rw [← hv]; exact lim_val (h.take _) (tr_take (by omega) h0')
      refine Ev.some_ fun k => ?_
      simp only [koineref01_trim.l0]
      rw [w64_sub n (by omega), if_pos (by omega), if_pos (by omega), if_pos (by omega), if_neg h0, if_pos (by omega), if_pos (by omega), ht, Int.toNat_natCast]
theorem rtrim_ev {xs : List Int} (h : Lm xs) (hl : xs.length < 1099511627776) : Ev (fun k => koineref01_trim.f k xs) (lim (val xs).toNat) := by
  unfold koineref01_trim.f
  exact rtrim_loop xs h hl xs.length (Nat.le_refl _) (by rw [List.take_length])
theorem rfit_ev {xs : List Int} (h : Lm xs) (hl : xs.length < 1099511627776) : Ev (fun k => koineref01_fit.f k xs) (fit (val xs).toNat) := by
  unfold koineref01_fit.f
  refine Ev.bind (f := fun _ (t : List Int) => if (t.length : Int) > 1024 then some (([] : List Int), (2 : Int)) else some (t, 0)) (rtrim_ev h hl) ?_
  refine Ev.all fun k => ?_
  unfold fit
  by_cases h1 : (lim (val xs).toNat).length > 1024
  · rw [if_pos (by omega), if_pos h1]
  · rw [if_neg (by omega), if_neg h1]
theorem made_ev {l : List Int} (h : Lm l) (hl : l.length * 4 ≤ 140737488351232) (n : Nat) (hn : n ≤ 1000) :
    Ev (fun k => koineref01_Made.f k l (n : Int)) (lim (val (l.take n)).toNat) := by
  have e : mn (l.length : Int) (n : Int) = ((min n l.length : Nat) : Int) := by
    unfold mn
    rcases Nat.lt_or_ge n l.length with h1 | h1
    · rw [if_pos (by omega), Nat.min_eq_left (by omega)]
    · rw [if_neg (by omega), Nat.min_eq_right h1]
  have hL : l.take (min n l.length) = l.take n := by
    rw [← List.take_take, List.take_length]
  have ht := rtrim_ev (h.take n) (show (l.take n).length < 1099511627776 by rw [List.length_take]; omega)
  refine Ev.congr (f := fun k => (koineref01_trim.f k (l.take n)).bind fun t => some t) (fun k => ?_) (Ev.map ht (fun z => z))
  unfold koineref01_Made.f
  rw [Option.bind_some, e, if_pos (by omega), if_pos (by omega), Int.toNat_natCast, hL, List.nil_append]
  have h2 : ([] : List Int).length + (l.take n).length < 35184372088832 := by rw [List.length_take]; simp; omega
  rw [if_pos h2]
theorem made_len {l : List Int} (h : Lm l) (n : Nat) : (lim (val (l.take n)).toNat).length ≤ n := by
  rw [lim_len_iff]
  have h1 := val_toNat_lt (xs := l.take n) (h.take n)
  exact Nat.lt_of_lt_of_le h1 (np_le (by rw [List.length_take]; omega))
end Go.Proofs.Ytpalpikenkkhlaa.Nm
