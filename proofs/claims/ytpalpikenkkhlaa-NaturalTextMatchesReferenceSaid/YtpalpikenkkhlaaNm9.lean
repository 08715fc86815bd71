/- What Valid, Of, Add, Mul, Text and Parse of the reference answer, in numbers. -/
import Derived.Test.YtpalpikenkkhlaaNm6
import Derived.Test.YtpalpikenkkhlaaNm7
import Derived.Test.YtpalpikenkkhlaaNtI
import Derived.Lib.Hide
set_option linter.unusedVariables false
namespace Go.Proofs.Ytpalpikenkkhlaa.Nm
open Go.RowKit Go.Proofs.YtpalpikenkkhlaaW.PrintWords Go.Proofs.YtpalpikenkkhlaaW.PrintMore Go.Proofs.Ytpalpikenkkhlaa.Nt

theorem rvalid_eq (xs : List Int) : koineref01_Valid.f xs = some (okB xs) := valid_eq xs
theorem rvalid_lim {n : Nat} (h : (lim n).length ≤ 1024) : koineref01_Valid.f (lim n) = some true := valid_lim h
theorem limb_eq {xs : List Int} (h : Lm xs) (i : Nat) : koineref01_limb.f xs (i : Int) = some (xs.getD i 0) := by
  have hx := Digs.get h (by decide) i
  unfold koineref01_limb.f
  by_cases hi : (i : Int) < (xs.length : Int)
  · rw [if_pos hi, if_pos (by omega), rd_nat, u64w (by omega) (by omega)]
  · have h0 : xs.getD i 0 = 0 := by rw [List.getD_eq_getElem?_getD, List.getElem?_eq_none (by omega)]; rfl
    rw [if_neg hi, h0]
theorem rof_ev {a : Int} (h0 : 0 ≤ a) (h1 : a < 18446744073709551616) : Ev (fun k => koineref01_Of.f k a) (lim a.toNat) := by
  have e1 : Int.tmod a 4294967296 % 4294967296 = a % 4294967296 := by rw [Int.tmod_eq_emod_of_nonneg h0]; omega
  have e2 : IntKind.u64.wrap (Int.tdiv a 4294967296) % 4294967296 = a / 4294967296 % 4294967296 := by
    rw [Int.tdiv_eq_ediv_of_nonneg h0, u64w (by omega) (by omega)]
  have hL : Lm [a % 4294967296, a / 4294967296 % 4294967296] := Digs.cons (by omega) (by omega) (Digs.cons (by omega) (by omega) (Digs.nil _))
  have hv : val [a % 4294967296, a / 4294967296 % 4294967296] = a := by simp only [val, gval]; omega
  have h := rtrim_ev hL (by simp)
  rw [hv] at h
  unfold koineref01_Of.f
  rw [e1, e2]
  exact Ev.map h (fun x => x)

/-! ### Add -/
theorem sum_low {s : Int} (h0 : 0 ≤ s) (h1 : s < 18446744073709551616) : Int.tmod s 4294967296 % 4294967296 = s % 4294967296 ∧ IntKind.u64.wrap (Int.tdiv s 4294967296) = s / 4294967296 := by
  constructor
  · rw [Int.tmod_eq_emod_of_nonneg h0]; omega
  · rw [Int.tdiv_eq_ediv_of_nonneg h0, u64w (by omega) (by omega)]
theorem radd_step {V P c o W t A B : Int} (ht : t = o + W + c) (hv : V + P * c = A + B) : V + P * (t % 4294967296) + P * 4294967296 * (t / 4294967296) = A + P * o + (B + P * W) := by
  have k1 : P * (t % 4294967296) + P * 4294967296 * (t / 4294967296) = P * (o + W + c) := by
    rw [Int.mul_assoc, ← Int.mul_add]
    congr 1
    omega
  have k2 : P * (o + W + c) = P * o + P * W + P * c := by rw [Int.mul_add, Int.mul_add]
  omega
theorem val_snoc (xs : List Int) (v : Int) : val (xs ++ [v]) = val xs + gp 4294967296 xs.length * v := by
  rw [val, gval_append]; simp [gval, val]
theorem radd_loop (xs ys : List Int) (hx : Lm xs) (hy : Lm ys) (m : Nat) (hxm : xs.length ≤ m) (hym : ys.length ≤ m) (hm : m < 4294967296) (hmx : mx (xs.length : Int) (ys.length : Int) = (m : Int)) : ∀ (d i : Nat) (out : List Int) (c : Int), m + 1 = i + d → out.length = i → Lm out → (c = 0 ∨ c = 1) →
    val out + gp 4294967296 i * c = val (xs.take i) + val (ys.take i) →
    Ev (fun k => koineref01_Add.l0 k xs ys out c (i : Int)) (fit (val xs + val ys).toNat) := by
  intro d
  induction d with
  | zero =>
    intro i out c hi ho hL hc hv
    rw [List.take_of_length_le (by omega), List.take_of_length_le (by omega)] at hv
    have b1 := val_lt hx
    have b2 := val_lt hy
    have b3 : gp 4294967296 xs.length ≤ gp 4294967296 m := gp_le (by decide) hxm
    have b4 : gp 4294967296 ys.length ≤ gp 4294967296 m := gp_le (by decide) hym
    have b5 : gp 4294967296 i = gp 4294967296 m * 4294967296 := by rw [show i = m + 1 by omega, gp_succ]
    have b6 := val_nonneg hL
    have b7 : 0 < gp 4294967296 m := gp_pos (by decide) m
    have hc0 : c = 0 := by
      rcases hc with h | h
      · exact h
      · rw [h, Int.mul_one] at hv; omega
    rw [hc0, Int.mul_zero, Int.add_zero] at hv
    have ht := rfit_ev hL (by omega)
    rw [hv] at ht
    refine Ev.step (f := fun k => (koineref01_fit.f k out).bind fun z => some (z.1, z.2)) (fun k => ?_) (Ev.map ht (fun z => (z.1, z.2)))
    simp only [koineref01_Add.l0]
    rw [hmx, if_neg (by omega)]
  | succ d ih =>
    intro i out c hi ho hL hc hv
    have hX := Digs.get hx (by decide) i
    have hY := Digs.get hy (by decide) i
    have hb2 : i < 4611686018427387904 := by omega
    have hol : out.length < 35184372088832 := by omega
    obtain ⟨t, ht⟩ : ∃ t, t = xs.getD i 0 + ys.getD i 0 + c := ⟨_, rfl⟩
    have hw : IntKind.u64.wrap (IntKind.u64.wrap (xs.getD i 0 + ys.getD i 0) + c) = t := by rw [u64w (x := xs.getD i 0 + ys.getD i 0) (by omega) (by omega), u64w (by omega) (by omega), ht]
    have hs := sum_low (s := t) (by omega) (by omega)
    have hsn := val_snoc out (t % 4294967296)
    have htx : val (xs.take (i + 1)) = val (xs.take i) + gp 4294967296 i * xs.getD i 0 := gval_take_beyond _ _ _
    have hty : val (ys.take (i + 1)) = val (ys.take i) + gp 4294967296 i * ys.getD i 0 := gval_take_beyond _ _ _
    refine Ev.step (fun k => ?_) (ih (i + 1) (out ++ [t % 4294967296]) (t / 4294967296) (by omega) (by simp; omega) (Digs.snoc hL (by omega) (by omega)) (by omega) (by
      rw [hsn, ho, gp_succ, radd_step ht hv, htx, hty]))
    simp only [koineref01_Add.l0]
    rw [hmx, if_pos (by omega), limb_eq hx, Option.bind_some, limb_eq hy, Option.bind_some, if_pos hol, hw, hs.1, hs.2, w64_add i hb2]
theorem radd_ev {m n : Nat} (hm : (lim m).length ≤ 1024) (hn : (lim n).length ≤ 1024) : Ev (fun k => koineref01_Add.f k (lim m) (lim n)) (fit (m + n)) := by
  unfold koineref01_Add.f
  simp only [rvalid_lim hm, rvalid_lim hn, Option.bind_some, if_true, Bool.not_true]
  have e : mx ((lim m).length : Int) ((lim n).length : Int) = ((max (lim m).length (lim n).length : Nat) : Int) := by unfold mx; split <;> omega
  have e1 : (val (lim m) + val (lim n)).toNat = m + n := by rw [val_lim, val_lim]; omega
  have h := radd_loop (lim m) (lim n) (lm_lim m) (lm_lim n) (max (lim m).length (lim n).length) (by omega) (by omega) (by omega) e (max (lim m).length (lim n).length + 1) 0 [] 0 (by omega) rfl (Digs.nil _) (.inl rfl) (by simp [val, gval])
  rw [e1] at h
  refine Ev.step (fun k => ?_) h
  simp only [koineref01_Add.j0]
  rw [if_neg (by decide)]; rfl
theorem radd_bad {a b : List Int} (h : (okB a && okB b) = false) : Ev (fun k => koineref01_Add.f k a b) ([], 1) := by
  unfold koineref01_Add.f
  simp only [rvalid_eq, Option.bind_some]
  have hs : ∀ k, koineref01_Add.j0 (k + 1) a b true = some ([], 1) := fun k => by rw [koineref01_Add.j0, if_pos rfl]
  cases ha : okB a
  · simp only [Bool.false_eq_true, if_false]; exact Ev.some_ hs
  · rw [ha] at h
    simp only [Bool.true_and] at h
    simp only [h, if_true, Bool.not_false]; exact Ev.some_ hs

/-! ### Mul -/
theorem rmul_inner (a b : List Int) (ha : Lm a) (hb : Lm b) (hal : a.length < 4294967296) (hbl : b.length < 4294967296) (i : Nat) (hi : i < a.length) (r : List Int × Int) (out0 : List Int) (ho0 : out0.length = a.length + b.length)
    (next : ∀ out : List Int, out.length = a.length + b.length → Lm out → (∀ j, i + 1 + b.length ≤ j → out.getD j 0 = 0) → val out = val out0 + gp 4294967296 i * a.getD i 0 * val b → Ev (fun k => koineref01_Mul.l0 k a b out ((i + 1 : Nat) : Int)) r) :
    ∀ (d j : Nat) (out : List Int) (c : Int), b.length - j = d → j ≤ b.length → out.length = a.length + b.length → Lm out → 0 ≤ c → c < 4294967296 → (∀ q, i + b.length ≤ q → out.getD q 0 = 0) →
      val out + gp 4294967296 (i + j) * c = val out0 + gp 4294967296 i * a.getD i 0 * val (b.take j) →
      Ev (fun k => koineref01_Mul.l1 k a b out (i : Int) c (j : Int)) r := by
  intro d
  induction d with
  | zero =>
    intro j out c hd hj hol hL hc0 hc1 hq hv
    have hjb : j = b.length := by omega
    subst hjb
    rw [List.take_length] at hv
    have hb1 : i + b.length < 4611686018427387904 := by omega
    have hb2 : i < 4611686018427387904 := by omega
    have hcm : c % 4294967296 = c := by omega
    refine Ev.step (fun k => ?_) (next (out.set (i + b.length) c) (by simpa using hol) (hL.set _ hc0 hc1) ?_ ?_)
    · simp only [koineref01_Mul.l1]
      rw [if_neg (by omega), w64_addn i b.length hb1, if_pos (by omega), if_pos (by omega), w64_add i hb2, Int.toNat_natCast, hcm]
    · intro q hq'
      rw [List.getD_eq_getElem?_getD, List.getElem?_set_ne (by omega), ← List.getD_eq_getElem?_getD]
      exact hq q (by omega)
    · rw [← hv, val, gval_set _ _ _ _ (by omega), hq _ (Nat.le_refl _), Int.sub_zero]; rfl
  | succ d ih =>
    intro j out c hd hj hol hL hc0 hc1 hq hv
    have hA := Digs.get ha (by decide) i
    have hB := Digs.get hb (by decide) j
    have hO := Digs.get hL (by decide) (i + j)
    have hm := mul_bound hA hB
    have hb1 : i + j < 4611686018427387904 := by omega
    have hb2 : j < 4611686018427387904 := by omega
    obtain ⟨x, hx⟩ : ∃ x, x = a.getD i 0 * b.getD j 0 := ⟨_, rfl⟩
    rw [← hx] at hm
    have hr := mul_round (out := out) (p := i + j) (c := c) (x := x) (by omega)
    obtain ⟨s, hs⟩ : ∃ s, s = c + (x + out.getD (i + j) 0) := ⟨_, rfl⟩
    have hsum : IntKind.u64.wrap (IntKind.u64.wrap (IntKind.u64.wrap (a.getD i 0 * b.getD j 0) + out.getD (i + j) 0) + c) = s := by
      rw [← hx, u64w (x := x) (by omega) (by omega), u64w (x := x + _) (by omega) (by omega), u64w (by omega) (by omega), hs]; omega
    rw [← hs] at hr
    have hlow := sum_low (s := s) (by omega) (by omega)
    refine Ev.step (fun k => ?_) (ih (j + 1) (out.set (i + j) (s % 4294967296)) (s / 4294967296) (by omega) (by omega) (by simpa using hol) (hL.set _ (by omega) (by omega)) (by omega) (by omega) ?_ ?_)
    · simp only [koineref01_Mul.l1]
      rw [if_pos (by omega), w64_addn i j hb1, limb_eq ha, Option.bind_some, limb_eq hb, Option.bind_some, limb_eq hL, Option.bind_some, if_pos (by omega), if_pos (by omega), hsum, hlow.1, hlow.2, w64_add j hb2, Int.toNat_natCast]
    · intro q hq'
      rw [List.getD_eq_getElem?_getD, List.getElem?_set_ne (by omega), ← List.getD_eq_getElem?_getD]
      exact hq q hq'
    · rw [← Nat.add_assoc, hr, Int.mul_add, ← Int.add_assoc, hv]
      have e1 : val (b.take (j + 1)) = val (b.take j) + gp 4294967296 j * b.getD j 0 := gval_take_succ _ b j (by omega)
      rw [e1, Int.mul_add, Int.add_assoc]
      congr 1
      rw [hx, gp_add]
      congr 1
      rw [Int.mul_assoc, Int.mul_assoc]
      congr 1
      rw [← Int.mul_assoc, ← Int.mul_assoc, Int.mul_comm (gp 4294967296 j)]
theorem rmul_outer (a b : List Int) (ha : Lm a) (hb : Lm b) (hal : a.length < 4294967296) (hbl : b.length < 4294967296) :
    ∀ (d i : Nat) (out : List Int), a.length - i = d → i ≤ a.length → out.length = a.length + b.length → Lm out → (∀ j, i + b.length ≤ j → out.getD j 0 = 0) → val out = val (a.take i) * val b →
      Ev (fun k => koineref01_Mul.l0 k a b out (i : Int)) (fit (val a * val b).toNat) := by
  intro d
  induction d with
  | zero =>
    intro i out hd hi hol hL hq hv
    have hia : i = a.length := by omega
    subst hia
    rw [List.take_length] at hv
    have ht := rfit_ev hL (show out.length < 1099511627776 by omega)
    rw [hv] at ht
    refine Ev.step (f := fun k => (koineref01_fit.f k out).bind fun z => some (z.1, z.2)) (fun k => ?_) ?_
    · simp only [koineref01_Mul.l0]
      rw [if_neg (by omega)]
    · exact Ev.map ht (fun z => (z.1, z.2))
  | succ d ih =>
    intro i out hd hi hol hL hq hv
    refine Ev.step (fun k => ?_) (rmul_inner a b ha hb hal hbl i (by omega) _ out hol ?_ b.length 0 out 0 (by omega) (by omega) hol hL (by omega) (by omega) hq ?_)
    · simp only [koineref01_Mul.l0]
      rw [if_pos (by omega)]; rfl
    · intro out' hol' hL' hq' hv'
      refine ih (i + 1) out' (by omega) (by omega) hol' hL' hq' ?_
      have e1 : val (a.take (i + 1)) = val (a.take i) + gp 4294967296 i * a.getD i 0 := gval_take_succ _ a i (by omega)
      rw [hv', hv, e1, Int.add_mul]
    · simp [val, gval]
theorem rmul_ev {m n : Nat} (hm : (lim m).length ≤ 1024) (hn : (lim n).length ≤ 1024) : Ev (fun k => koineref01_Mul.f k (lim m) (lim n)) (fit (m * n)) := by
  have e : (val (lim m) * val (lim n)).toNat = m * n := by
    rw [val_lim, val_lim]
    have : ((m : Int) * (n : Int)) = ((m * n : Nat) : Int) := by push_cast; rfl
    rw [this, Int.toNat_natCast]
  have h := rmul_outer (lim m) (lim n) (lm_lim m) (lm_lim n) (by omega) (by omega) (lim m).length 0 (List.replicate ((lim m).length + (lim n).length) 0) (by omega) (by omega) (by simp) (Digs.replicate (by decide) _)
    (fun j _ => by
      rw [List.getD_eq_getElem?_getD, List.getElem?_replicate]
      split <;> rfl) (by rw [val, gval_replicate]; simp [val, gval])
  rw [e] at h
  unfold koineref01_Mul.f
  simp only [rvalid_lim hm, rvalid_lim hn, Option.bind_some, if_true, Bool.not_true]
  refine Ev.step (fun k => ?_) h
  simp only [koineref01_Mul.j0]
  rw [if_neg (by decide), w64_addn _ _ (by omega), if_pos (by omega), Int.toNat_natCast, if_pos (by omega)]; rfl
theorem rmul_bad {a b : List Int} (h : (okB a && okB b) = false) : Ev (fun k => koineref01_Mul.f k a b) ([], 1) := by
  unfold koineref01_Mul.f
  simp only [rvalid_eq, Option.bind_some]
  have hs : ∀ k, koineref01_Mul.j0 (k + 1) a b true = some ([], 1) := fun k => by rw [koineref01_Mul.j0, if_pos rfl]
  cases ha : okB a
  · simp only [Bool.false_eq_true, if_false]; exact Ev.some_ hs
  · rw [ha] at h
    simp only [Bool.true_and] at h
    simp only [h, if_true, Bool.not_false]; exact Ev.some_ hs

/-! ### Text -/
theorem small_loop (xs : List Int) (h : Lm xs) (hl : xs.length < 4294967296) (d : Int) (hd0 : 0 < d) (hd1 : d < 4294967296) : ∀ (n : Nat) (q : List Int) (r : Int), n ≤ xs.length → q.length = xs.length → Lm q → 0 ≤ r → r < d →
    val (xs.drop n) = val (q.drop n) * d + r →
    Ev (fun k => koineref01_small.l0 k xs d q r ((n : Int) - 1)) (lim (val xs / d).toNat, val xs % d) := by
  intro n
  induction n with
  | zero =>
    intro q r hi hq hL hr0 hr1 hv
    rw [List.drop_zero, List.drop_zero] at hv
    have hd : val xs / d = val q := by
      rw [hv, Int.mul_comm, Int.mul_add_ediv_left _ _ (by omega), Int.ediv_eq_zero_of_lt hr0 hr1, Int.add_zero]
    have hm : val xs % d = r := by
      rw [hv, Int.mul_comm, Int.mul_add_emod_self_left, Int.emod_eq_of_lt hr0 hr1]
    have ht := rtrim_ev hL (show q.length < 1099511627776 by omega)
    rw [hd, hm]
    refine Ev.step (f := fun k => (koineref01_trim.f k q).bind fun z => some (z, r)) (fun k => ?_) (Ev.map ht (fun z => (z, r)))
    simp only [koineref01_small.l0]
    rw [if_neg (by omega)]
  | succ n ih =>
    intro q r hi hq hL hr0 hr1 hv
    have hx := Digs.get h (by decide) n
    have hround := short_round (xs := xs) (r := r) hd0 (show n < q.length by omega) hv
    obtain ⟨s, hs⟩ : ∃ s, s = r * 4294967296 + xs.getD n 0 := ⟨_, rfl⟩
    have hsw : IntKind.u64.wrap (IntKind.u64.wrap (r * 4294967296) + xs.getD n 0) = s := by rw [u64w (x := r * 4294967296) (by omega) (by omega), u64w (by omega) (by omega), hs]
    rw [← hs] at hround
    have hs0 : 0 ≤ s := by omega
    have hsd : s < d * 4294967296 := by
      have : r * 4294967296 ≤ (d - 1) * 4294967296 := Int.mul_le_mul_of_nonneg_right (by omega) (by decide)
      omega
    have hq0 : 0 ≤ s / d := Int.ediv_nonneg hs0 (by omega)
    have hq1 : s / d < 4294967296 := Int.ediv_lt_of_lt_mul hd0 (by rw [Int.mul_comm]; exact hsd)
    have hm0 : 0 ≤ s % d := Int.emod_nonneg _ (by omega)
    have hm1 : s % d < d := Int.emod_lt_of_pos _ hd0
    have htd : Int.tdiv s d = s / d := Int.tdiv_eq_ediv_of_nonneg hs0
    have htm : Int.tmod s d = s % d := Int.tmod_eq_emod_of_nonneg hs0
    have hqw : IntKind.u64.wrap (s / d) % 4294967296 = s / d := by rw [u64w hq0 (by omega)]; omega
    have hn1 : (((n + 1 : Nat) : Int) - 1) = (n : Int) := by omega
    have hn2 : wrap64 ((n : Int) - 1) = (n : Int) - 1 := w64 (by omega) (by omega)
    have Hn2 := Lib.hid hn2
    clear hn2
    refine Ev.step (fun k => ?_) (ih (q.set n (s / d)) (s % d) (by omega) (by simpa using hq) (hL.set _ hq0 hq1) hm0 hm1 hround)
    simp only [koineref01_small.l0]
    rw [hn1, if_pos (by omega), limb_eq h, Option.bind_some, if_neg (by omega), if_pos (by omega), if_pos (by omega), hsw, htd, htm, hqw, Hn2.out, Int.toNat_natCast]
theorem small_ev {n : Nat} (hn : (lim n).length ≤ 1024) : Ev (fun k => koineref01_small.f k (lim n) 10) (lim (n / 10), ((n % 10 : Nat) : Int)) := by
  have hz := small_loop (lim n) (lm_lim n) (by omega) 10 (by decide) (by decide) (lim n).length (lim n) 0 (Nat.le_refl _) rfl (lm_lim n) (by decide) (by decide) (by rw [List.drop_length]; simp [val, gval])
  rw [val_lim] at hz
  have e1 : ((n : Int) / 10).toNat = n / 10 := by omega
  have e2 : (n : Int) % 10 = ((n % 10 : Nat) : Int) := by omega
  rw [e1, e2] at hz
  have hw : wrap64 (((lim n).length : Int) - 1) = ((lim n).length : Int) - 1 := w64 (by omega) (by omega)
  have Hw := Lib.hid hw
  clear hw
  refine Ev.congr (fun k => ?_) hz
  unfold koineref01_small.f
  rw [Option.bind_some, if_pos (by simp; omega), Option.bind_some, List.nil_append, Hw.out]
theorem strOfNums_append (xs ys : List Int) : strOfNums xs ++ strOfNums ys = strOfNums (xs ++ ys) := by
  unfold strOfNums
  apply ByteArray.ext
  simp
theorem size_strOfNums (xs : List Int) : (strOfNums xs).size = xs.length := by
  unfold strOfNums
  show (Array.size _) = _
  simp
theorem rtext_loop : ∀ (b n : Nat) (ds : List Int), n < 2 ^ b → (lim n).length ≤ 1024 → ds.length + b < 4294967296 →
    Ev (fun k => koineref01_Text.l0 k (lim n) (strOfNums (asc ds).reverse)) (strOfNums (asc (ds ++ dec n)).reverse) := by
  intro b
  induction b with
  | zero =>
    intro n ds hn hl hb
    have hn0 : n = 0 := by simpa using hn
    subst hn0
    have e0 : dec 0 = [] := digs_zero _ _
    rw [lim_zero, e0, List.append_nil]
    refine Ev.some_ fun k => ?_
    simp only [koineref01_Text.l0]
    rw [if_neg (by simp)]
  | succ b ih =>
    intro n ds hn hl hb
    by_cases hn0 : n = 0
    · subst hn0
      exact ih 0 ds (Nat.two_pow_pos b) hl (by omega)
    · have hne : (lim n).length ≠ 0 := by
        intro h0
        exact hn0 ((lim_nil_iff n).1 (List.eq_nil_of_length_eq_zero h0))
      have hq : n / 10 < 2 ^ b := by
        rw [Nat.pow_succ] at hn
        omega
      have hql : (lim (n / 10)).length ≤ 1024 := Nat.le_trans (lim_len_mono (Nat.div_le_self n 10)) hl
      obtain ⟨K1, h1⟩ := small_ev hl
      obtain ⟨K2, h2⟩ := ih (n / 10) (ds ++ [((n % 10 : Nat) : Int)]) hq hql (by simp; omega)
      have ed : dec n = ((n % 10 : Nat) : Int) :: dec (n / 10) := digs_pos 10 (by decide) n hn0
      have e3 : ds ++ [((n % 10 : Nat) : Int)] ++ dec (n / 10) = ds ++ dec n := by rw [ed]; simp
      rw [e3] at h2
      have hwm : IntKind.u64.wrap (48 + ((n % 10 : Nat) : Int)) % 256 = 48 + ((n % 10 : Nat) : Int) := by rw [u64w (by omega) (by omega)]; omega
      have e4 : strOfNums [48 + ((n % 10 : Nat) : Int)] ++ strOfNums (asc ds).reverse = strOfNums (asc (ds ++ [((n % 10 : Nat) : Int)])).reverse := by
        rw [strOfNums_append, asc_append]
        congr 1
        simp [asc]
      have hsz : (strOfNums [48 + ((n % 10 : Nat) : Int)]).size + (strOfNums (asc ds).reverse).size ≤ 9223372036854775807 := by
        rw [size_strOfNums, size_strOfNums, List.length_reverse, asc_length]; simp; omega
      obtain ⟨L, hL⟩ : ∃ L, L = lim (n / 10) := ⟨_, rfl⟩
      obtain ⟨M, hM⟩ : ∃ M, M = lim n := ⟨_, rfl⟩
      rw [← hL, ← hM] at h1
      rw [← hL] at h2
      rw [← hM] at hne ⊢
      refine ⟨K1 + K2 + 1, fun k hk => ?_⟩
      obtain ⟨k, rfl⟩ : ∃ m, k = m + 1 := ⟨k - 1, by omega⟩
      have u1 : koineref01_small.f k M 10 = some (L, ((n % 10 : Nat) : Int)) := h1 k (by omega)
      have u2 := h2 k (by omega)
      simp only [koineref01_Text.l0]
      rw [if_pos (by omega), u1, Option.bind_some, Option.bind_some, hwm, if_pos hsz, e4]
      exact u2
theorem rtext_ev {n : Nat} (h : (lim n).length ≤ 1024) : Ev (fun k => koineref01_Text.f k (lim n)) (text n) := by
  unfold koineref01_Text.f
  simp only [rvalid_lim h, Option.bind_some, if_true]
  by_cases h0 : n = 0
  · subst h0
    refine Ev.all fun k => ?_
    rw [lim_zero]; rfl
  · have hne : (lim n).length ≠ 0 := fun h' => h0 ((lim_nil_iff n).1 (List.eq_nil_of_length_eq_zero h'))
    have hb : n < 2 ^ (32 * (lim n).length) := by
      have h1 := (lim_len_iff (lim n).length n).1 (Nat.le_refl _)
      have e : ∀ K, np K = 2 ^ (32 * K) := by
        intro K
        unfold np
        rw [Nat.pow_mul]
      rw [e] at h1
      exact h1
    have := rtext_loop (32 * (lim n).length) n [] hb h (by simp; omega)
    have e : text n = strOfNums (asc (dec n)).reverse := by unfold text; rw [if_neg h0]
    rw [e]
    refine Ev.congr (fun k => ?_) this
    rw [if_neg (by omega)]; rfl
theorem rtext_bad {xs : List Int} (h : okB xs = false) : Ev (fun k => koineref01_Text.f k xs) ⟨#[]⟩ := by
  unfold koineref01_Text.f
  simp only [rvalid_eq, h, Option.bind_some, Bool.false_eq_true, if_false]
  exact Ev.now _

/-! ### Parse -/
theorem rparse_l1 (s : ByteArray) (hs : s.size ≤ 1000) (h : AllD s) : ∀ (d i : Nat), s.size = i + d →
    Ev (fun k => koineref01_Parse.l1 k s (lim (pv s i).toNat) (i : Int)) (lim (pv s s.size).toNat, 0) := by
  intro d
  induction d with
  | zero =>
    intro i hi
    have : i = s.size := by omega
    subst this
    refine Ev.some_ fun k => ?_
    simp only [koineref01_Parse.l1]
    rw [if_neg (by omega)]
  | succ d ih =>
    intro i hi
    have hb := h i (by omega)
    have hpb := pv_bounds h i
    have hps := pv_succ s i (by omega)
    have hl1 := pv_small h i (by omega)
    have hl2 := pv_small h (i + 1) (by omega)
    have l10 : (lim 10).length ≤ 1 := by rw [lim_len_iff]; unfold np; decide
    have e10 : lim 10 = [10] := by
      unfold lim
      rw [digs_pos _ _ _ (by decide), digs_zero]; rfl
    have sm := lim_mul_len hl1 l10
    have sd : (lim (bt s (i : Int) - 48).toNat).length ≤ 1 := by
      rw [lim_len_iff]
      have : np 1 = 4294967296 := by unfold np; decide
      omega
    have he : (pv s i).toNat * 10 + (bt s (i : Int) - 48).toNat = (pv s (i + 1)).toNat := by omega
    have hc : (bt s (i : Int) - 48) % 256 = bt s (i : Int) - 48 := by omega
    obtain ⟨K1, h1⟩ := rmul_ev (m := (pv s i).toNat) (n := 10) (by omega) (by omega)
    rw [fit_lim (by omega), e10] at h1
    obtain ⟨K2, h2⟩ := rof_ev (a := bt s (i : Int) - 48) (by omega) (by omega)
    obtain ⟨K3, h3⟩ := radd_ev (m := (pv s i).toNat * 10) (n := (bt s (i : Int) - 48).toNat) (by omega) (by omega)
    rw [he, fit_lim (by omega)] at h3
    obtain ⟨K4, h4⟩ := ih (i + 1) (by omega)
    obtain ⟨A, hA⟩ : ∃ L, L = lim (pv s i).toNat := ⟨_, rfl⟩
    obtain ⟨B, hB⟩ : ∃ L, L = lim ((pv s i).toNat * 10) := ⟨_, rfl⟩
    obtain ⟨C, hC⟩ : ∃ L, L = lim (bt s (i : Int) - 48).toNat := ⟨_, rfl⟩
    obtain ⟨E, hE⟩ : ∃ L, L = lim (pv s (i + 1)).toNat := ⟨_, rfl⟩
    rw [← hA, ← hB] at h1
    rw [← hC] at h2
    rw [← hB, ← hC, ← hE] at h3
    rw [← hE] at h4
    rw [← hA]
    refine ⟨K1 + K2 + K3 + K4 + 1, fun k hk => ?_⟩
    obtain ⟨k, rfl⟩ : ∃ m, k = m + 1 := ⟨k - 1, by omega⟩
    have u1 : koineref01_Mul.f k A [10] = some (B, 0) := h1 k (by omega)
    have u2 : koineref01_Of.f k (bt s (i : Int) - 48) = some C := h2 k (by omega)
    have u3 : koineref01_Add.f k B C = some (E, 0) := h3 k (by omega)
    have u4 := h4 k (by omega)
    simp only [koineref01_Parse.l1]
    rw [if_pos (by omega), u1, Option.bind_some, if_pos rfl, if_pos (by omega), hc, u2, Option.bind_some, u3, Option.bind_some, if_pos rfl, w64_add i (by omega)]
    exact u4
theorem rparse_l0_good (s : ByteArray) (hs : s.size ≤ 1000) (h : AllD s) : ∀ (d i : Nat), s.size = i + d →
    Ev (fun k => koineref01_Parse.l0 k s (i : Int)) (lim (pv s s.size).toNat, 0) := by
  intro d
  induction d with
  | zero =>
    intro i hi
    refine Ev.step (fun k => ?_) (rparse_l1 s hs h s.size 0 (by omega))
    simp only [koineref01_Parse.l0]
    rw [if_neg (by omega), pv_zero]
    simp [lim_zero]
  | succ d ih =>
    intro i hi
    have hb := h i (by omega)
    refine Ev.step (fun k => ?_) (ih (i + 1) (by omega))
    simp only [koineref01_Parse.l0]
    rw [if_pos (by omega), if_pos (by omega), if_neg (by omega), if_neg (by omega), w64_add i (by omega)]
theorem rparse_l0_bad (s : ByteArray) (hs : s.size ≤ 140737488351232) : ∀ (d i j : Nat), j = i + d → j < s.size → (bt s (j : Int) < 48 ∨ 57 < bt s (j : Int)) →
    Ev (fun k => koineref01_Parse.l0 k s (i : Int)) ([], 12) := by
  intro d
  induction d with
  | zero =>
    intro i j hj hjs hb
    have : i = j := by omega
    subst this
    refine Ev.some_ fun k => ?_
    simp only [koineref01_Parse.l0]
    rw [if_pos (by omega), if_pos (by omega)]
    by_cases h1 : bt s (i : Int) < 48
    · rw [if_pos h1]
    · rw [if_neg h1, if_pos (by omega)]
  | succ d ih =>
    intro i j hj hjs hb
    by_cases h1 : bt s (i : Int) < 48
    · refine Ev.some_ fun k => ?_
      simp only [koineref01_Parse.l0]
      rw [if_pos (by omega), if_pos (by omega), if_pos h1]
    · by_cases h2 : bt s (i : Int) > 57
      · refine Ev.some_ fun k => ?_
        simp only [koineref01_Parse.l0]
        rw [if_pos (by omega), if_pos (by omega), if_neg h1, if_pos h2]
      · refine Ev.step (fun k => ?_) (ih (i + 1) j (by omega) hjs hb)
        simp only [koineref01_Parse.l0]
        rw [if_pos (by omega), if_pos (by omega), if_neg h1, if_neg h2, w64_add i (by omega)]
theorem rparse_good {s : ByteArray} (hs : s.size ≤ 1000) (h : Good s) : Ev (fun k => koineref01_Parse.f k s) (lim (pv s s.size).toNat, 0) := by
  obtain ⟨h0, h1, h2⟩ := h
  have hj : Ev (fun k => koineref01_Parse.j0 k s false) (lim (pv s s.size).toNat, 0) := by
    refine Ev.step (fun k => ?_) (rparse_l0_good s hs h2 s.size 0 (by omega))
    simp only [koineref01_Parse.j0]
    rw [if_neg (by decide)]; rfl
  refine Ev.congr (fun k => ?_) hj
  unfold koineref01_Parse.f
  rw [if_neg (by rw [toList_nil]; exact h0)]
  by_cases h3 : (s.size : Int) > 1
  · have hb : (bt s 0 == 48) = false := by
      rw [beq_eq_false_iff_ne]
      rcases h1 with h1 | h1
      · omega
      · exact h1
    rw [if_pos h3, if_pos (by omega), hb]
  · rw [if_neg h3]
theorem rparse_bad {s : ByteArray} (hs : s.size ≤ 140737488351232) (h : ¬ Good s) : Ev (fun k => koineref01_Parse.f k s) ([], 12) := by
  have hT : Ev (fun k => koineref01_Parse.j0 k s true) ([], 12) := by
    refine Ev.some_ fun k => ?_
    rw [koineref01_Parse.j0, if_pos rfl]
  by_cases h0 : s.size = 0
  · refine Ev.congr (fun k => ?_) hT
    unfold koineref01_Parse.f
    rw [if_pos (by rw [toList_nil]; exact h0)]
  · by_cases h1 : s.size = 1 ∨ bt s 0 ≠ 48
    · have hF : Ev (fun k => koineref01_Parse.j0 k s false) ([], 12) := by
        rcases allD_em s with h2 | ⟨j, hj, hb⟩
        · exact absurd ⟨h0, h1, h2⟩ h
        · refine Ev.step (fun k => ?_) (rparse_l0_bad s hs j 0 j (by omega) hj hb)
          simp only [koineref01_Parse.j0]
          rw [if_neg (by decide)]; rfl
      refine Ev.congr (fun k => ?_) hF
      unfold koineref01_Parse.f
      rw [if_neg (by rw [toList_nil]; exact h0)]
      by_cases h3 : (s.size : Int) > 1
      · have hb : (bt s 0 == 48) = false := by
          rw [beq_eq_false_iff_ne]
          rcases h1 with h1 | h1
          · omega
          · exact h1
        rw [if_pos h3, if_pos (by omega), hb]
      · rw [if_neg h3]
    · refine Ev.congr (fun k => ?_) hT
      have h3 : s.size ≠ 1 := fun h => h1 (.inl h)
      have h4 : bt s 0 = 48 := Classical.byContradiction fun h => h1 (.inr h)
      unfold koineref01_Parse.f
      rw [if_neg (by rw [toList_nil]; exact h0), if_pos (by omega), if_pos (by omega), h4]; rfl
end Go.Proofs.Ytpalpikenkkhlaa.Nm
