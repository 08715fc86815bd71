/- What Valid, Of, Add and Mul of the reference answer, in numbers. -/
import Derived.Test.YtpalpikenkkhlaaNm6
import Derived.Test.YtpalpikenkkhlaaNtH
import Derived.Lib.Hide
set_option linter.unusedVariables false
namespace Go.Proofs.Ytpalpikenkkhlaa.Nm
open Go.RowKit Go.Proofs.YtpalpikenkkhlaaW.PrintWords Go.Proofs.YtpalpikenkkhlaaW.PrintMore Go.Proofs.Ytpalpikenkkhlaa.Nt

theorem rvalid_eq (xs : List Int) : koineref01_Valid.f xs = some (okB xs) := valid_eq xs
theorem rvalid_lim {n : Nat} (h : (lim n).length ≤ 1024) : koineref01_Valid.f (lim n) = some true := valid_lim h
theorem limb_eq {xs : List Int} (h : Lm xs) (i : Nat) : koineref01_limb.f xs (i : Int) = some (xs.getD i 0) := by
  have hx := Digs.get h (by decide) i
  unfold koineref01_limb.f
  by_cases hi : (i : Int) < (xs.length : Int)
  · rw [if_pos hi, if_pos (by omega), rd_nat, u64w (by omega) (by omega)]
  · have h0 : xs.getD i 0 = 0 := by rw [List.getD_eq_getElem?_getD, List.getElem?_eq_none (by omega)]; rfl
    rw [if_neg hi, h0]
theorem rof_ev {a : Int} (h0 : 0 ≤ a) (h1 : a < 18446744073709551616) : Ev (fun k => koineref01_Of.f k a) (lim a.toNat) := by
  have e1 : Int.tmod a 4294967296 % 4294967296 = a % 4294967296 := by rw [Int.tmod_eq_emod_of_nonneg h0]; omega
  have e2 : IntKind.u64.wrap (Int.tdiv a 4294967296) % 4294967296 = a / 4294967296 % 4294967296 := by
    rw [Int.tdiv_eq_ediv_of_nonneg h0, u64w (by omega) (by omega)]
  have hL : Lm [a % 4294967296, a / 4294967296 % 4294967296] := Digs.cons (by omega) (by omega) (Digs.cons (by omega) (by omega) (Digs.nil _))
  have hv : val [a % 4294967296, a / 4294967296 % 4294967296] = a := by simp only [val, gval]; omega
  have h := rtrim_ev hL (by simp)
  rw [hv] at h
  unfold koineref01_Of.f
  rw [e1, e2]
  exact Ev.map h (fun x => x)

/-! ### Add -/
theorem sum_low {s : Int} (h0 : 0 ≤ s) (h1 : s < 18446744073709551616) : Int.tmod s 4294967296 % 4294967296 = s % 4294967296 ∧ IntKind.u64.wrap (Int.tdiv s 4294967296) = s / 4294967296 := by
  constructor
  · rw [Int.tmod_eq_emod_of_nonneg h0]; omega
  · rw [Int.tdiv_eq_ediv_of_nonneg h0, u64w (by omega) (by omega)]
theorem radd_step {V P c o W t A B : Int} (ht : t = o + W + c) (hv : V + P * c = A + B) : V + P * (t % 4294967296) + P * 4294967296 * (t / 4294967296) = A + P * o + (B + P * W) := by
  have k1 : P * (t % 4294967296) + P * 4294967296 * (t / 4294967296) = P * (o + W + c) := by
    rw [Int.mul_assoc, ← Int.mul_add]
    congr 1
    omega
  have k2 : P * (o + W + c) = P * o + P * W + P * c := by rw [Int.mul_add, Int.mul_add]
  omega
theorem val_snoc (xs : List Int) (v : Int) : val (xs ++ [v]) = val xs + gp 4294967296 xs.length * v := by
  rw [val, gval_append]; simp [gval, val]
theorem radd_loop (xs ys : List Int) (hx : Lm xs) (hy : Lm ys) (m : Nat) (hxm : xs.length ≤ m) (hym : ys.length ≤ m) (hm : m < 4294967296) (hmx : mx (xs.length : Int) (ys.length : Int) = (m : Int)) : ∀ (d i : Nat) (out : List Int) (c : Int), m + 1 = i + d → out.length = i → Lm out → (c = 0 ∨ c = 1) →
    val out + gp 4294967296 i * c = val (xs.take i) + val (ys.take i) →
    Ev (fun k => koineref01_Add.l0 k xs ys out c (i : Int)) (fit (val xs + val ys).toNat) := by
  intro d
  induction d with
  | zero =>
    intro i out c hi ho hL hc hv
    rw [List.take_of_length_le (by omega), List.take_of_length_le (by omega)] at hv
    have b1 := val_lt hx
    have b2 := val_lt hy
    have b3 : gp 4294967296 xs.length ≤ gp 4294967296 m := gp_le (by decide) hxm
    have b4 : gp 4294967296 ys.length ≤ gp 4294967296 m := gp_le (by decide) hym
    have b5 : gp 4294967296 i = gp 4294967296 m * 4294967296 := by rw [show i = m + 1 by omega, gp_succ]
    have b6 := val_nonneg hL
    have b7 : 0 < gp 4294967296 m := gp_pos (by decide) m
    have hc0 : c = 0 := by
      rcases hc with h | h
      · exact h
      · rw [h, Int.mul_one] at hv; omega
    rw [hc0, Int.mul_zero, Int.add_zero] at hv
    have ht := rfit_ev hL (by omega)
    rw [hv] at ht
    refine Ev.step (f := fun k => (koineref01_fit.f k out).bind fun z => some (z.1, z.2)) (fun k => ?_) (Ev.map ht (fun z => (z.1, z.2)))
    simp only [koineref01_Add.l0]
    rw [hmx, if_neg (by omega)]
  | succ d ih =>
    intro i out c hi ho hL hc hv
    have hX := Digs.get hx (by decide) i
    have hY := Digs.get hy (by decide) i
    have hb2 : i < 4611686018427387904 := by omega
    have hol : out.length < 35184372088832 := by omega
    obtain ⟨t, ht⟩ : ∃ t, t = xs.getD i 0 + ys.getD i 0 + c := ⟨_, rfl⟩
    have hw : IntKind.u64.wrap (IntKind.u64.wrap (xs.getD i 0 + ys.getD i 0) + c) = t := by rw [u64w (x := xs.getD i 0 + ys.getD i 0) (by omega) (by omega), u64w (by omega) (by omega), ht]
    have hs := sum_low (s := t) (by omega) (by omega)
    have hsn := val_snoc out (t % 4294967296)
    have htx : val (xs.take (i + 1)) = val (xs.take i) + gp 4294967296 i * xs.getD i 0 := gval_take_beyond _ _ _
    have hty : val (ys.take (i + 1)) = val (ys.take i) + gp 4294967296 i * ys.getD i 0 := gval_take_beyond _ _ _
    refine Ev.step (fun k => ?_) (ih (i + 1) (out ++ [t % 4294967296]) (t / 4294967296) (by omega) (by simp; omega) (Digs.snoc hL (by omega) (by omega)) (by omega) (by
      rw [hsn, ho, gp_succ, radd_step ht hv, htx, hty]))
    simp only [koineref01_Add.l0]
    rw [hmx, if_pos (by omega), limb_eq hx, Option.bind_some, limb_eq hy, Option.bind_some, if_pos hol, hw, hs.1, hs.2, w64_add i hb2]
theorem radd_ev {m n : Nat} (hm : (lim m).length ≤ 1024) (hn : (lim n).length ≤ 1024) : Ev (fun k => koineref01_Add.f k (lim m) (lim n)) (fit (m + n)) := by
  unfold koineref01_Add.f
  simp only [rvalid_lim hm, rvalid_lim hn, Option.bind_some, if_true, Bool.not_true]
  have e : mx ((lim m).length : Int) ((lim n).length : Int) = ((max (lim m).length (lim n).length : Nat) : Int) := by unfold mx; split <;> omega
  have e1 : (val (lim m) + val (lim n)).toNat = m + n := by rw [val_lim, val_lim]; omega
  have h := radd_loop (lim m) (lim n) (lm_lim m) (lm_lim n) (max (lim m).length (lim n).length) (by omega) (by omega) (by omega) e (max (lim m).length (lim n).length + 1) 0 [] 0 (by omega) rfl (Digs.nil _) (.inl rfl) (by simp [val, gval])
  rw [e1] at h
  refine Ev.step (fun k => ?_) h
  simp only [koineref01_Add.j0]
  rw [if_neg (by decide)]; rfl
theorem radd_bad {a b : List Int} (h : (okB a && okB b) = false) : Ev (fun k => koineref01_Add.f k a b) ([], 1) := by
  unfold koineref01_Add.f
  simp only [rvalid_eq, Option.bind_some]
  have hs : ∀ k, koineref01_Add.j0 (k + 1) a b true = some ([], 1) := fun k => by rw [koineref01_Add.j0, if_pos rfl]
  cases ha : okB a
  · simp only [Bool.false_eq_true, if_false]; exact Ev.some_ hs
  · rw [ha] at h
    simp only [Bool.true_and] at h
    simp only [h, if_true, Bool.not_false]; exact Ev.some_ hs

/-! ### Mul -/
theorem rmul_inner (a b : List Int) (ha : Lm a) (hb : Lm b) (hal : a.length < 4294967296) (hbl : b.length < 4294967296) (i : Nat) (hi : i < a.length) (r : List Int × Int) (out0 : List Int) (ho0 : out0.length = a.length + b.length)
    (next : ∀ out : List Int, out.length = a.length + b.length → Lm out → (∀ j, i + 1 + b.length ≤ j → out.getD j 0 = 0) → val out = val out0 + gp 4294967296 i * a.getD i 0 * val b → Ev (fun k => koineref01_Mul.l0 k a b out ((i + 1 : Nat) : Int)) r) :
    ∀ (d j : Nat) (out : List Int) (c : Int), b.length - j = d → j ≤ b.length → out.length = a.length + b.length → Lm out → 0 ≤ c → c < 4294967296 → (∀ q, i + b.length ≤ q → out.getD q 0 = 0) →
      val out + gp 4294967296 (i + j) * c = val out0 + gp 4294967296 i * a.getD i 0 * val (b.take j) →
      Ev (fun k => koineref01_Mul.l1 k a b out (i : Int) c (j : Int)) r := by
  intro d
  induction d with
  | zero =>
    intro j out c hd hj hol hL hc0 hc1 hq hv
    have hjb : j = b.length := by omega
    subst hjb
    rw [List.take_length] at hv
    have hb1 : i + b.length < 4611686018427387904 := by omega
    have hb2 : i < 4611686018427387904 := by omega
    have hcm : c % 4294967296 = c := by omega
    refine Ev.step (fun k => ?_) (next (out.set (i + b.length) c) (by simpa using hol) (hL.set _ hc0 hc1) ?_ ?_)
    · simp only [koineref01_Mul.l1]
      rw [if_neg (by omega), w64_addn i b.length hb1, if_pos (by omega), if_pos (by omega), w64_add i hb2, Int.toNat_natCast, hcm]
    · intro q hq'
      rw [List.getD_eq_getElem?_getD, List.getElem?_set_ne (by omega), ← List.getD_eq_getElem?_getD]
      exact hq q (by omega)
    · rw [← hv, val, gval_set _ _ _ _ (by omega), hq _ (Nat.le_refl _), Int.sub_zero]; rfl
  | succ d ih =>
    intro j out c hd hj hol hL hc0 hc1 hq hv
    have hA := Digs.get ha (by decide) i
    have hB := Digs.get hb (by decide) j
    have hO := Digs.get hL (by decide) (i + j)
    have hm := mul_bound hA hB
    have hb1 : i + j < 4611686018427387904 := by omega
    have hb2 : j < 4611686018427387904 := by omega
    obtain ⟨x, hx⟩ : ∃ x, x = a.getD i 0 * b.getD j 0 := ⟨_, rfl⟩
    rw [← hx] at hm
    have hr := mul_round (out := out) (p := i + j) (c := c) (x := x) (by omega)
    obtain ⟨s, hs⟩ : ∃ s, s = c + (x + out.getD (i + j) 0) := ⟨_, rfl⟩
    have hsum : IntKind.u64.wrap (IntKind.u64.wrap (IntKind.u64.wrap (a.getD i 0 * b.getD j 0) + out.getD (i + j) 0) + c) = s := by
      rw [← hx, u64w (x := x) (by omega) (by omega), u64w (x := x + _) (by omega) (by omega), u64w (by omega) (by omega), hs]; omega
    rw [← hs] at hr
    have hlow := sum_low (s := s) (by omega) (by omega)
    refine Ev.step (fun k => ?_) (ih (j + 1) (out.set (i + j) (s % 4294967296)) (s / 4294967296) (by omega) (by omega) (by simpa using hol) (hL.set _ (by omega) (by omega)) (by omega) (by omega) ?_ ?_)
    · simp only [koineref01_Mul.l1]
      rw [if_pos (by omega), w64_addn i j hb1, limb_eq ha, Option.bind_some, limb_eq hb, Option.bind_some, limb_eq hL, Option.bind_some, if_pos (by omega), if_pos (by omega), hsum, hlow.1, hlow.2, w64_add j hb2, Int.toNat_natCast]
    · intro q hq'
      rw [List.getD_eq_getElem?_getD, List.getElem?_set_ne (by omega), ← List.getD_eq_getElem?_getD]
      exact hq q hq'
    · rw [← Nat.add_assoc, hr, Int.mul_add, ← Int.add_assoc, hv]
      have e1 : val (b.take (j + 1)) = val (b.take j) + gp 4294967296 j * b.getD j 0 := gval_take_succ _ b j (by omega)
      rw [e1, Int.mul_add, Int.add_assoc]
      congr 1
      rw [hx, gp_add]
      congr 1
      rw [Int.mul_assoc, Int.mul_assoc]
      congr 1
      rw [← Int.mul_assoc, ← Int.mul_assoc, Int.mul_comm (gp 4294967296 j)]
theorem rmul_outer (a b : List Int) (ha : Lm a) (hb : Lm b) (hal : a.length < 4294967296) (hbl : b.length < 4294967296) :
    ∀ (d i : Nat) (out : List Int), a.length - i = d → i ≤ a.length → out.length = a.length + b.length → Lm out → (∀ j, i + b.length ≤ j → out.getD j 0 = 0) → val out = val (a.take i) * val b →
      Ev (fun k => koineref01_Mul.l0 k a b out (i : Int)) (fit (val a * val b).toNat) := by
  intro d
  induction d with
  | zero =>
    intro i out hd hi hol hL hq hv
    have hia : i = a.length := by omega
    subst hia
    rw [List.take_length] at hv
    have ht := rfit_ev hL (show out.length < 1099511627776 by omega)
    rw [hv] at ht
    refine Ev.step (f := fun k => (koineref01_fit.f k out).bind fun z => some (z.1, z.2)) (fun k => ?_) ?_
    · simp only [koineref01_Mul.l0]
      rw [if_neg (by omega)]
    · exact Ev.map ht (fun z => (z.1, z.2))
  | succ d ih =>
    intro i out hd hi hol hL hq hv
    refine Ev.step (fun k => ?_) (rmul_inner a b ha hb hal hbl i (by omega) _ out hol ?_ b.length 0 out 0 (by omega) (by omega) hol hL (by omega) (by omega) hq ?_)
    · simp only [koineref01_Mul.l0]
      rw [if_pos (by omega)]; rfl
    · intro out' hol' hL' hq' hv'
      refine ih (i + 1) out' (by omega) (by omega) hol' hL' hq' ?_
      have e1 : val (a.take (i + 1)) = val (a.take i) + gp 4294967296 i * a.getD i 0 := gval_take_succ _ a i (by omega)
      rw [hv', hv, e1, Int.add_mul]
    · simp [val, gval]
theorem rmul_ev {m n : Nat} (hm : (lim m).length ≤ 1024) (hn : (lim n).length ≤ 1024) : Ev (fun k => koineref01_Mul.f k (lim m) (lim n)) (fit (m * n)) := by
  have e : (val (lim m) * val (lim n)).toNat = m * n := by
    rw [val_lim, val_lim]
    have : ((m : Int) * (n : Int)) = ((m * n : Nat) : Int) := by push_cast; rfl
    rw [this, Int.toNat_natCast]
  have h := rmul_outer (lim m) (lim n) (lm_lim m) (lm_lim n) (by omega) (by omega) (lim m).length 0 (List.replicate ((lim m).length + (lim n).length) 0) (by omega) (by omega) (by simp) (Digs.replicate (by decide) _)
    (fun j _ => by
      rw [List.getD_eq_getElem?_getD, List.getElem?_replicate]
      split <;> rfl) (by rw [val, gval_replicate]; simp [val, gval])
  rw [e] at h
  unfold koineref01_Mul.f
  simp only [rvalid_lim hm, rvalid_lim hn, Option.bind_some, if_true, Bool.not_true]
  refine Ev.step (fun k => ?_) h
  simp only [koineref01_Mul.j0]
  rw [if_neg (by decide), w64_addn _ _ (by omega), if_pos (by omega), Int.toNat_natCast, if_pos (by omega)]; rfl
theorem rmul_bad {a b : List Int} (h : (okB a && okB b) = false) : Ev (fun k => koineref01_Mul.f k a b) ([], 1) := by
  unfold koineref01_Mul.f
  simp only [rvalid_eq, Option.bind_some]
  have hs : ∀ k, koineref01_Mul.j0 (k + 1) a b true = some ([], 1) := fun k => by rw [koineref01_Mul.j0, if_pos rfl]
  cases ha : okB a
  · simp only [Bool.false_eq_true, if_false]; exact Ev.some_ hs
  · rw [ha] at h
    simp only [Bool.true_and] at h
    simp only [h, if_true, Bool.not_false]; exact Ev.some_ hs

end Go.Proofs.Ytpalpikenkkhlaa.Nm
