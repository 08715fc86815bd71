/- What Long, Compare and Sub of the reference answer, in numbers. -/
import Derived.Test.YtpalpikenkkhlaaNm5
import Derived.Test.YtpalpikenkkhlaaNmR
import Derived.Test.YtpalpikenkkhlaaNtK
import Derived.Lib.Hide
set_option linter.unusedVariables false
namespace Go.Proofs.Ytpalpikenkkhlaa.Nm
open Go.RowKit Go.Proofs.YtpalpikenkkhlaaW.PrintWords Go.Proofs.YtpalpikenkkhlaaW.PrintMore Go.Proofs.Ytpalpikenkkhlaa.Nt

/-! ### Long -/
theorem rlong_loop (v : Int) (h0 : 0 ≤ v) (h1 : v < 4294967296) (n : Nat) (hn : n < 4294967296) : ∀ (d i : Nat) (out : List Int), n = i + d → out.length = i → Lm out →
    ∃ N, (lim N).length ≤ n ∧ Ev (fun k => koineref01_Long.l0 k v (n : Int) out (i : Int)) (lim N) := by
  intro d
  induction d with
  | zero =>
    intro i out hi ho hL
    refine ⟨(val out).toNat, ?_, Ev.step (f := fun k => (koineref01_trim.f k out).bind fun z => some z) (fun k => ?_) (Ev.map (rtrim_ev hL (by omega)) (fun z => z))⟩
    · have h := made_len hL n
      rw [List.take_of_length_le (by omega)] at h
      exact h
    · simp only [koineref01_Long.l0]
      rw [if_neg (by omega)]
  | succ d ih =>
    intro i out hi ho hL
    obtain ⟨N, hN, h⟩ := ih (i + 1) (out ++ [v]) (by omega) (by simp; omega) (Digs.snoc hL h0 h1)
    refine ⟨N, hN, Ev.step (fun k => ?_) h⟩
    simp only [koineref01_Long.l0]
    rw [if_pos (by omega), if_pos (by omega), w64_add i (by omega)]
theorem rlong_ev {v : Int} (h0 : 0 ≤ v) (h1 : v < 4294967296) {n : Nat} (hn : n < 4294967296) : ∃ N, (lim N).length ≤ n ∧ Ev (fun k => koineref01_Long.f k v (n : Int)) (lim N) := by
  unfold koineref01_Long.f
  exact rlong_loop v h0 h1 n hn n 0 [] (by omega) rfl (Digs.nil _)

/-! ### Compare -/
theorem rcompare_loop (xs ys : List Int) (hx : Lm xs) (hy : Lm ys) : ∀ n : Nat, n < 4294967296 → val (xs.drop n) = val (ys.drop n) →
    Ev (fun k => koineref01_Compare.l0 k xs ys ((n : Int) - 1)) (cmp (val xs).toNat (val ys).toNat) := by
  intro n
  induction n with
  | zero =>
    intro hi hv
    rw [List.drop_zero, List.drop_zero] at hv
    have e : cmp (val xs).toNat (val ys).toNat = 0 := by
      rw [hv]; unfold cmp; rw [if_neg (Nat.lt_irrefl _), if_neg (Nat.lt_irrefl _)]
    rw [e]
    refine Ev.some_ fun k => ?_
    simp only [koineref01_Compare.l0]
    rw [if_neg (by omega)]
  | succ n ih =>
    intro hi hv
    have n1 := val_nonneg hx
    have n2 := val_nonneg hy
    have hn1 : (((n + 1 : Nat) : Int) - 1) = (n : Int) := by omega
    have Hn2 := Lib.hid (show wrap64 ((n : Int) - 1) = (n : Int) - 1 from w64 (by omega) (by omega))
    by_cases h1 : xs.getD n 0 < ys.getD n 0
    · have := top_lt hx hy hv h1
      have e : cmp (val xs).toNat (val ys).toNat = -1 := by unfold cmp; rw [if_pos (by omega)]
      rw [e]
      refine Ev.some_ fun k => ?_
      simp only [koineref01_Compare.l0]
      rw [hn1, if_pos (by omega), limb_eq hx, Option.bind_some, limb_eq hy, Option.bind_some, if_pos h1]
    · by_cases h2 : ys.getD n 0 < xs.getD n 0
      · have := top_lt hy hx hv.symm h2
        have e : cmp (val xs).toNat (val ys).toNat = 1 := by unfold cmp; rw [if_neg (by omega), if_pos (by omega)]
        rw [e]
        refine Ev.some_ fun k => ?_
        simp only [koineref01_Compare.l0]
        rw [hn1, if_pos (by omega), limb_eq hx, Option.bind_some, limb_eq hy, Option.bind_some, if_neg h1, Option.bind_some, Option.bind_some, if_pos h2]
      · refine Ev.step (fun k => ?_) (ih (by omega) (drop_step hv (by omega)))
        simp only [koineref01_Compare.l0]
        rw [hn1, if_pos (by omega), limb_eq hx, Option.bind_some, limb_eq hy, Option.bind_some, if_neg h1, Option.bind_some, Option.bind_some, if_neg (by omega), Hn2.out]
theorem rcompare_ev {m n : Nat} (hm : (lim m).length ≤ 1024) (hn : (lim n).length ≤ 1024) : Ev (fun k => koineref01_Compare.f k (lim m) (lim n)) (cmp m n) := by
  unfold koineref01_Compare.f
  simp only [rvalid_lim hm, rvalid_lim hn, Option.bind_some, if_true, Bool.not_true]
  have e : mx ((lim m).length : Int) ((lim n).length : Int) = ((max (lim m).length (lim n).length : Nat) : Int) := by unfold mx; split <;> omega
  have hz := rcompare_loop (lim m) (lim n) (lm_lim m) (lm_lim n) (max (lim m).length (lim n).length) (by omega) (by rw [List.drop_of_length_le (by omega), List.drop_of_length_le (by omega)])
  rw [val_lim, val_lim, Int.toNat_natCast, Int.toNat_natCast] at hz
  have hw : wrap64 (((max (lim m).length (lim n).length : Nat) : Int) - 1) = ((max (lim m).length (lim n).length : Nat) : Int) - 1 := w64 (by omega) (by omega)
  have Hw := Lib.hid hw
  clear hw
  refine Ev.step (fun k => ?_) hz
  simp only [koineref01_Compare.j0]
  rw [if_neg (by decide), e, Hw.out]
theorem rcompare_bad {a b : List Int} (h : (okB a && okB b) = false) : Ev (fun k => koineref01_Compare.f k a b) 0 := by
  unfold koineref01_Compare.f
  simp only [rvalid_eq, Option.bind_some]
  have hs : ∀ k, koineref01_Compare.j0 (k + 1) a b true = some 0 := fun k => by rw [koineref01_Compare.j0, if_pos rfl]
  cases ha : okB a
  · simp only [Bool.false_eq_true, if_false]; exact Ev.some_ hs
  · rw [ha] at h
    simp only [Bool.true_and] at h
    simp only [h, if_true, Bool.not_false]; exact Ev.some_ hs

/-! ### Sub -/
theorem rsub_step {V P c o W t A B : Int} (ht : t = 4294967296 + o - W - c) (hv : V - P * c = A - B) : V + P * (t % 4294967296) - P * 4294967296 * (1 - t / 4294967296) = A + P * o - (B + P * W) := by
  have k1 : P * (t % 4294967296) - P * 4294967296 * (1 - t / 4294967296) = P * (o - W - c) := by
    rw [Int.mul_assoc, ← Int.mul_sub]
    congr 1
    omega
  have k2 : P * (o - W - c) = P * o - P * W - P * c := by rw [Int.mul_sub, Int.mul_sub]
  omega
theorem rsub_loop (xs ys : List Int) (hx : Lm xs) (hy : Lm ys) (hl : ys.length ≤ xs.length) (hb : xs.length < 4294967296) (hge : val ys ≤ val xs) : ∀ (d i : Nat) (out : List Int) (c : Int), xs.length = i + d → out.length = i → Lm out → (c = 0 ∨ c = 1) →
    val out - gp 4294967296 i * c = val (xs.take i) - val (ys.take i) →
    Ev (fun k => koineref01_Sub.l0 k xs ys out c (i : Int)) (fit (val xs - val ys).toNat) := by
  intro d
  induction d with
  | zero =>
    intro i out c hi ho hL hc hv
    rw [List.take_of_length_le (by omega), List.take_of_length_le (by omega)] at hv
    have b6 := val_nonneg hL
    have b7 := val_lt hL
    rw [ho] at b7
    have hc0 : c = 0 := by
      rcases hc with h | h
      · exact h
      · rw [h, Int.mul_one] at hv; omega
    rw [hc0, Int.mul_zero, Int.sub_zero] at hv
    have ht := rfit_ev hL (by omega)
    rw [hv] at ht
    refine Ev.step (f := fun k => (koineref01_fit.f k out).bind fun z => some (z.1, z.2)) (fun k => ?_) (Ev.map ht (fun z => (z.1, z.2)))
    simp only [koineref01_Sub.l0]
    rw [if_neg (by omega)]
  | succ d ih =>
    intro i out c hi ho hL hc hv
    have hX := Digs.get hx (by decide) i
    have hY := Digs.get hy (by decide) i
    have hb2 : i < 4611686018427387904 := by omega
    have hol : out.length < 35184372088832 := by omega
    obtain ⟨t, ht⟩ : ∃ t, t = 4294967296 + xs.getD i 0 - ys.getD i 0 - c := ⟨_, rfl⟩
    have hw : IntKind.u64.wrap (IntKind.u64.wrap (IntKind.u64.wrap (4294967296 + xs.getD i 0) - ys.getD i 0) - c) = t := by
      rw [u64w (x := 4294967296 + xs.getD i 0) (by omega) (by omega), u64w (x := 4294967296 + xs.getD i 0 - ys.getD i 0) (by omega) (by omega), u64w (by omega) (by omega), ht]
    have hs := sum_low (s := t) (by omega) (by omega)
    have hq : IntKind.u64.wrap (1 - t / 4294967296) = 1 - t / 4294967296 := u64w (by omega) (by omega)
    have hsn := val_snoc out (t % 4294967296)
    have htx : val (xs.take (i + 1)) = val (xs.take i) + gp 4294967296 i * xs.getD i 0 := gval_take_beyond _ _ _
    have hty : val (ys.take (i + 1)) = val (ys.take i) + gp 4294967296 i * ys.getD i 0 := gval_take_beyond _ _ _
    refine Ev.step (fun k => ?_) (ih (i + 1) (out ++ [t % 4294967296]) (1 - t / 4294967296) (by omega) (by simp; omega) (Digs.snoc hL (by omega) (by omega)) (by omega) (by
      rw [hsn, ho, gp_succ, rsub_step ht hv, htx, hty]))
    simp only [koineref01_Sub.l0]
    rw [if_pos (by omega), limb_eq hx, Option.bind_some, limb_eq hy, Option.bind_some, if_pos hol, hw, hs.1, hs.2, hq, w64_add i hb2]
theorem rsub_ev {m n : Nat} (hm : (lim m).length ≤ 1024) (hn : (lim n).length ≤ 1024) : Ev (fun k => koineref01_Sub.f k (lim m) (lim n)) (if m < n then ([], 10) else (lim (m - n), 0)) := by
  unfold koineref01_Sub.f
  simp only [rvalid_lim hm, rvalid_lim hn, Option.bind_some, if_true, Bool.not_true]
  have hc := rcompare_ev hm hn
  refine Ev.step (f := fun k => (koineref01_Compare.f k (lim m) (lim n)).bind fun t => (if t < 0 then (some (([] : List Int), 10)) else (koineref01_Sub.l0 k (lim m) (lim n) (([] : List Int)) 0 0))) (fun k => ?_) ?_
  · simp only [koineref01_Sub.j0]
    rw [if_neg (by decide)]
  · refine Ev.bind (f := fun k t => (if t < 0 then (some (([] : List Int), 10)) else (koineref01_Sub.l0 k (lim m) (lim n) (([] : List Int)) 0 0))) hc ?_
    by_cases h : m < n
    · rw [if_pos h]
      refine Ev.all fun k => ?_
      have : cmp m n = -1 := by unfold cmp; rw [if_pos h]
      rw [this, if_pos (by decide)]
    · rw [if_neg h]
      have hcm : ¬ cmp m n < 0 := by unfold cmp; rw [if_neg h]; split <;> decide
      have hz := rsub_loop (lim m) (lim n) (lm_lim m) (lm_lim n) (lim_len_mono (by omega)) (by omega) (by rw [val_lim, val_lim]; omega) (lim m).length 0 [] 0 (by omega) rfl (Digs.nil _) (.inl rfl) (by simp [val, gval])
      have e1 : (val (lim m) - val (lim n)).toNat = m - n := by rw [val_lim, val_lim]; omega
      have e2 : fit (m - n) = (lim (m - n), 0) := fit_lim (Nat.le_trans (lim_len_mono (Nat.sub_le m n)) hm)
      rw [e1, e2] at hz
      refine Ev.congr (fun k => ?_) hz
      rw [if_neg hcm]; rfl
theorem rsub_bad {a b : List Int} (h : (okB a && okB b) = false) : Ev (fun k => koineref01_Sub.f k a b) ([], 1) := by
  unfold koineref01_Sub.f
  simp only [rvalid_eq, Option.bind_some]
  have hs : ∀ k, koineref01_Sub.j0 (k + 1) a b true = some ([], 1) := fun k => by rw [koineref01_Sub.j0, if_pos rfl]
  cases ha : okB a
  · simp only [Bool.false_eq_true, if_false]; exact Ev.some_ hs
  · rw [ha] at h
    simp only [Bool.true_and] at h
    simp only [h, if_true, Bool.not_false]; exact Ev.some_ hs
end Go.Proofs.Ytpalpikenkkhlaa.Nm
