/- What Div of package natural answers, in numbers: long division, bit by bit. -/
import Derived.Test.YtpalpikenkkhlaaNm5
import Derived.Lib.Hide
set_option linter.unusedVariables false
namespace Go.Proofs.Ytpalpikenkkhlaa.Nm
open Go.RowKit Go.Proofs.YtpalpikenkkhlaaW.PrintWords Go.Proofs.YtpalpikenkkhlaaW.PrintMore Go.Proofs.Ytpalpikenkkhlaa.Nt

theorem wraps_u32 (n : Int) (h0 : 0 ≤ n) (h1 : n < 2 ^ 32) : IntKind.u32.wrap n = n := by
  rw [IntKind.wrap_u32]
  have : (2 : Int) ^ 32 = 4294967296 := by decide
  omega

/-! ### shift -/
theorem or_bit {x c : Int} (hx : 0 ≤ x ∧ x < 4294967296) (hc : c = 0 ∨ c = 1) : Go.bits .or .u32 (x * 2 % 4294967296) c = x * 2 % 4294967296 + c :=
  bits_join .u32 32 (by decide) wraps_u32 1 (x * 2 % 4294967296) c (by omega) (show x * 2 % 4294967296 % 2 = 0 by omega) (show x * 2 % 4294967296 < 4294967296 by omega) (by omega) (show c < 2 by omega) (show c < 4294967296 by omega)
theorem shift_step {V P c o A : Int} (ho : 0 ≤ o ∧ o < 4294967296) (hv : V + P * c = A) : V + P * (o * 2 % 4294967296 + c - o) + P * 4294967296 * (o / 2147483648) = A + P * o := by
  have k1 : P * (o * 2 % 4294967296 + c - o) + P * 4294967296 * (o / 2147483648) = P * (c + o) := by
    rw [Int.mul_assoc, ← Int.mul_add]
    congr 1
    omega
  have k2 : P * (c + o) = P * c + P * o := Int.mul_add _ _ _
  omega
theorem shift_loop (xs : List Int) (hb : xs.length < 4294967296) (c0 : Int) : ∀ (d i : Nat) (out : List Int) (c : Int), xs.length = i + d → out.length = xs.length → Lm out → (c = 0 ∨ c = 1) → (∀ q, i ≤ q → out.getD q 0 = xs.getD q 0) →
    val out + gp 4294967296 i * c = val xs + val (xs.take i) + c0 →
    ∃ r, Ev (fun k => natural_shift.l0 k out c (xs.length : Int) (i : Int)) r ∧ r.length = xs.length ∧ Lm r ∧ ∃ c', (c' = 0 ∨ c' = 1) ∧ val r + gp 4294967296 xs.length * c' = val xs + val xs + c0 := by
  intro d
  induction d with
  | zero =>
    intro i out c hi ho hL hc hq hv
    have : i = xs.length := by omega
    subst this
    rw [List.take_length] at hv
    refine ⟨out, Ev.some_ fun k => ?_, ho, hL, c, hc, hv⟩
    simp only [natural_shift.l0]
    rw [if_neg (by omega)]
  | succ d ih =>
    intro i out c hi ho hL hc hq hv
    have hO := Digs.get hL (by decide) i
    have hb2 : i < 4611686018427387904 := by omega
    have hor := or_bit hO hc
    have hset : val (out.set i (out.getD i 0 * 2 % 4294967296 + c)) = val out + gp 4294967296 i * (out.getD i 0 * 2 % 4294967296 + c - out.getD i 0) := gval_set _ _ _ _ (by omega)
    have htk : val (xs.take (i + 1)) = val (xs.take i) + gp 4294967296 i * xs.getD i 0 := gval_take_beyond _ _ _
    have hqi := hq i (Nat.le_refl _)
    obtain ⟨r, hr, h1, h2, h3⟩ := ih (i + 1) (out.set i (out.getD i 0 * 2 % 4294967296 + c)) (out.getD i 0 / 2147483648) (by omega) (by simpa using ho) (hL.set _ (by omega) (by omega)) (by omega)
      (fun q hq' => by
        rw [List.getD_eq_getElem?_getD, List.getElem?_set_ne (by omega), ← List.getD_eq_getElem?_getD]
        exact hq q (by omega))
      (by
        rw [hset, gp_succ, shift_step hO hv, htk, ← hqi]
        omega)
    refine ⟨r, Ev.step (fun k => ?_) hr, h1, h2, h3⟩
    simp only [natural_shift.l0]
    rw [if_pos (by omega), if_pos (by omega), if_pos (by omega), rd_nat, hor, w64_add i hb2, Int.toNat_natCast]
theorem shift_ev {xs : List Int} (h : Lm xs) (hb : xs.length < 4294967296) {c : Int} (hc : c = 0 ∨ c = 1) (hs : 2 * val xs + c < gp 4294967296 xs.length) :
    ∃ r, Ev (fun k => natural_shift.f k xs c) r ∧ r.length = xs.length ∧ Lm r ∧ val r = 2 * val xs + c := by
  obtain ⟨r, hr, h1, h2, c', hc', hv⟩ := shift_loop xs hb c xs.length 0 xs c (by omega) rfl h hc (fun _ _ => rfl) (by rw [gp_zero]; simp [val, gval])
  have h3 := val_nonneg h2
  refine ⟨r, hr, h1, h2, ?_⟩
  rcases hc' with hc' | hc'
  · rw [hc', Int.mul_zero] at hv; omega
  · rw [hc', Int.mul_one] at hv; omega

/-! ### less -/
theorem less_loop (xs ys : List Int) (hx : Lm xs) (hy : Lm ys) (hb : xs.length < 4294967296) : ∀ (n i : Nat), xs.length = i + n → val (xs.drop n) = val (ys.drop n) →
    Ev (fun k => natural_less.l0 k xs ys (xs.length : Int) (i : Int)) (decide (val xs < val ys)) := by
  intro n
  induction n with
  | zero =>
    intro i hi hv
    rw [List.drop_zero, List.drop_zero] at hv
    rw [hv, decide_eq_false (Int.lt_irrefl _)]
    refine Ev.some_ fun k => ?_
    simp only [natural_less.l0]
    rw [if_neg (by omega)]
  | succ n ih =>
    intro i hi hv
    have hin : xs.length - 1 - i = n := by omega
    have hlb : xs.length < 4611686018427387904 := by omega
    have hlt : i < xs.length := by omega
    by_cases he : xs.getD n 0 = ys.getD n 0
    · refine Ev.step (fun k => ?_) (ih (i + 1) (by omega) (drop_step hv he))
      simp only [natural_less.l0]
      rw [if_pos (by omega), w64_at _ _ hlb hlt, hin, if_pos (by omega), if_pos (by omega)]
      by_cases hn : (n : Int) < (ys.length : Int)
      · rw [if_pos hn, rd_nat, rd_nat, if_pos he, w64_add i (by omega)]
      · have h0 : ys.getD n 0 = 0 := by rw [List.getD_eq_getElem?_getD, List.getElem?_eq_none (by omega)]; rfl
        rw [if_neg hn, rd_nat, if_pos (by rw [he, h0]), w64_add i (by omega)]
    · have hd : decide (xs.getD n 0 < ys.getD n 0) = decide (val xs < val ys) := by
        rw [decide_eq_decide]
        constructor
        · exact top_lt hx hy hv
        · intro h
          have : ¬ ys.getD n 0 < xs.getD n 0 := fun h' => by have := top_lt hy hx hv.symm h'; omega
          omega
      rw [← hd]
      refine Ev.some_ fun k => ?_
      simp only [natural_less.l0]
      rw [if_pos (by omega), w64_at _ _ hlb hlt, hin, if_pos (by omega), if_pos (by omega)]
      by_cases hn : (n : Int) < (ys.length : Int)
      · rw [if_pos hn, rd_nat, rd_nat, if_neg he]
      · have h0 : ys.getD n 0 = 0 := by rw [List.getD_eq_getElem?_getD, List.getElem?_eq_none (by omega)]; rfl
        rw [h0] at he ⊢
        rw [if_neg hn, rd_nat, if_neg he]
theorem less_ev {xs ys : List Int} (hx : Lm xs) (hy : Lm ys) (hb : xs.length < 4294967296) (hl : ys.length ≤ xs.length) : Ev (fun k => natural_less.f k xs ys) (decide (val xs < val ys)) := by
  unfold natural_less.f
  exact less_loop xs ys hx hy hb xs.length 0 (by omega) (by rw [List.drop_length, List.drop_of_length_le hl])

/-! ### bits of a number -/
/-- A power of two. -/
@[irreducible] def tp (n : Nat) : Nat := 2 ^ n
theorem tp_zero : tp 0 = 1 := by unfold tp; rfl
theorem tp_succ (n : Nat) : tp (n + 1) = 2 * tp n := by unfold tp; rw [Nat.pow_succ, Nat.mul_comm]
theorem tp_pos (n : Nat) : 0 < tp n := by unfold tp; exact Nat.two_pow_pos n
theorem tp_add (m n : Nat) : tp (m + n) = tp m * tp n := by unfold tp; exact Nat.pow_add _ _ _
theorem tp_np (n : Nat) : tp (32 * n) = np n := by unfold tp np; rw [Nat.pow_mul]
theorem tp_lt32 {j : Nat} (h : j < 32) : tp j * tp (32 - j) = 4294967296 := by
  rw [← tp_add, show j + (32 - j) = 32 by omega]; unfold tp; decide
/-- The digit at a place, out of the value. -/
theorem digit_of {xs : List Int} (h : Lm xs) (i : Nat) : xs.getD i 0 = (((val xs).toNat / np i % 4294967296 : Nat) : Int) := by
  have h1 : val xs = val (xs.take i) + gp 4294967296 i * val (xs.drop i) := by
    rcases Nat.le_total i xs.length with hi | hi
    · exact gval_split _ xs i hi
    · rw [List.take_of_length_le hi, List.drop_eq_nil_of_le hi]; simp [val, gval]
  have h2 : val (xs.drop i) = xs.getD i 0 + 4294967296 * val (xs.drop (i + 1)) := gval_drop_get _ xs i
  have t0 := val_nonneg (h.take i)
  have t1 : val (xs.take i) < gp 4294967296 i := Int.lt_of_lt_of_le (val_lt (h.take i)) (gp_le (by decide) (by rw [List.length_take]; omega))
  have d0 := val_nonneg (h.drop i)
  have hd := Digs.get h (by decide) i
  have e0 := val_nonneg (h.drop (i + 1))
  rw [gp_np] at h1 t1
  obtain ⟨t, ht⟩ := Int.eq_ofNat_of_zero_le t0
  obtain ⟨u, hu⟩ := Int.eq_ofNat_of_zero_le d0
  rw [ht, hu] at h1
  have e : (val xs).toNat = t + np i * u := by
    rw [h1]
    have : ((t : Int) + ((np i : Nat) : Int) * (u : Int)) = ((t + np i * u : Nat) : Int) := by push_cast; rfl
    rw [this, Int.toNat_natCast]
  rw [e, Nat.add_mul_div_left _ _ (np_pos i), Nat.div_eq_of_lt (by omega), Nat.zero_add]
  omega
/-- The bit at a place. -/
theorem bit_of {xs : List Int} (h : Lm xs) (i j : Nat) (hj : j < 32) : Go.bits .and .u32 (shr .u32 (xs.getD i 0) (j : Int)) 1 = (((val xs).toNat / tp (32 * i + j) % 2 : Nat) : Int) := by
  have hd := Digs.get h (by decide) i
  have hg := digit_of h i
  have hs : shr .u32 (xs.getD i 0) (j : Int) = (((val xs).toNat / np i % 4294967296 / tp j : Nat) : Int) := by
    unfold shr
    rw [Int.toNat_natCast, Nat.min_eq_left (show j ≤ IntKind.u32.bits by show j ≤ 32; omega), hg]
    have : ((2 : Int) ^ j) = ((tp j : Nat) : Int) := by unfold tp; exact (Int.natCast_pow 2 j).symm
    rw [this, Int.natCast_ediv]
  have hp := tp_pos j
  obtain ⟨m, hm⟩ : ∃ m, m = (val xs).toNat / np i := ⟨_, rfl⟩
  rw [hs, ← hm]
  have hlt : m % 4294967296 / tp j < 4294967296 := Nat.lt_of_le_of_lt (Nat.div_le_self _ _) (Nat.mod_lt _ (by decide))
  have hmask := bits_mask .u32 32 (by decide) wraps_u32 1 (by decide) ((m % 4294967296 / tp j : Nat) : Int) (Int.natCast_nonneg _) (show ((m % 4294967296 / tp j : Nat) : Int) < 4294967296 from Int.ofNat_lt.2 hlt)
  have hone : ((2 : Int) ^ 1 - 1) = 1 := by decide
  rw [hone] at hmask
  rw [hmask]
  have e2 : m % 4294967296 / tp j % 2 = m / tp j % 2 := by
    have h32 := tp_lt32 hj
    have h33 : tp (32 - j) = 2 * tp (31 - j) := by rw [← tp_succ]; congr 1; omega
    have hq := Nat.div_add_mod m 4294967296
    obtain ⟨q, hq'⟩ : ∃ q, q = m / 4294967296 := ⟨_, rfl⟩
    rw [← hq'] at hq
    have : m / tp j = m % 4294967296 / tp j + 2 * (tp (31 - j) * q) := by
      conv => lhs; rw [← hq]
      have : 4294967296 * q + m % 4294967296 = m % 4294967296 + tp j * (2 * (tp (31 - j) * q)) := by
        rw [← h32, h33]
        have : tp j * (2 * tp (31 - j)) * q = tp j * (2 * (tp (31 - j) * q)) := by rw [Nat.mul_assoc, Nat.mul_assoc]
        omega
      rw [this, Nat.add_mul_div_left _ _ hp]
    omega
  have e3 : (val xs).toNat / tp (32 * i + j) = m / tp j := by rw [tp_add, tp_np, ← Nat.div_div_eq_div_mul, hm]
  rw [e3]
  have e4 : ((2 : Int) ^ 1) = 2 := by decide
  rw [e4]
  omega
/-- A bit is set that was not. -/
theorem set_bit {q : List Int} (h : Lm q) (i j Q : Nat) (hi : i < q.length) (hj : j < 32) (hq : (val q).toNat = Q * tp (32 * i + j + 1)) :
    ∃ v, Go.bits .or .u32 (q.getD i 0) (shl .u32 1 (j : Int)) = v ∧ 0 ≤ v ∧ v < 4294967296 ∧ val (q.set i v) = (((2 * Q + 1) * tp (32 * i + j) : Nat) : Int) := by
  have hd := Digs.get h (by decide) i
  have hg := digit_of h i
  have hp := tp_pos j
  have hn := np_pos i
  have h32 := tp_lt32 hj
  have h33 : tp (32 - j) = 2 * tp (31 - j) := by rw [← tp_succ]; congr 1; omega
  have hvn := val_toNat h
  have hsh : shl .u32 1 (j : Int) = ((tp j : Nat) : Int) := by
    unfold shl
    rw [Int.toNat_natCast, Nat.min_eq_left (show j ≤ IntKind.u32.bits by show j ≤ 32; omega), Int.one_mul]
    have : ((2 : Int) ^ j) = ((tp j : Nat) : Int) := by unfold tp; exact (Int.natCast_pow 2 j).symm
    rw [this, IntKind.wrap_u32]
    have : tp j < 4294967296 := by
      rw [← h32]
      have h34 := tp_pos (31 - j)
      rw [h33]
      have : tp j * 1 < tp j * (2 * tp (31 - j)) := Nat.mul_lt_mul_of_pos_left (by omega) hp
      omega
    omega
  have hdiv : (val q).toNat / np i = Q * (2 * tp j) := by
    rw [hq, tp_succ, tp_add, tp_np]
    have : Q * (2 * (np i * tp j)) = np i * (Q * (2 * tp j)) := by
      rw [Nat.mul_left_comm 2, Nat.mul_left_comm Q]
    rw [this, Nat.mul_div_cancel_left _ hn]
  have hdig : ∃ w, (val q).toNat / np i % 4294967296 = 2 * tp j * w := by
    rw [hdiv, ← h32, h33]
    refine ⟨Q % tp (31 - j), ?_⟩
    rw [Nat.mul_comm Q, show tp j * (2 * tp (31 - j)) = (2 * tp j) * tp (31 - j) by rw [Nat.mul_left_comm, Nat.mul_assoc], Nat.mul_mod_mul_left]
  obtain ⟨w, hw⟩ := hdig
  rw [hw] at hg
  have hx2 : (((2 * tp j * w : Nat) : Int)) % 2 ^ (j + 1) = 0 := by
    have : ((2 : Int) ^ (j + 1)) = ((2 * tp j : Nat) : Int) := by
      rw [← tp_succ]; unfold tp; exact (Int.natCast_pow 2 (j + 1)).symm
    rw [this, ← Int.natCast_emod, Nat.mul_mod_right]; rfl
  have hjoin := bits_join .u32 32 (by decide) wraps_u32 (j + 1) (((2 * tp j * w : Nat) : Int)) ((tp j : Nat) : Int) (by omega) hx2 (show (((2 * tp j * w : Nat) : Int)) < 4294967296 by omega) (by omega)
    (by
      have : ((2 : Int) ^ (j + 1)) = ((2 * tp j : Nat) : Int) := by
        rw [← tp_succ]; unfold tp; exact (Int.natCast_pow 2 (j + 1)).symm
      rw [this]; omega)
    (by
      have : tp j < 4294967296 := by
        rw [← h32, h33]
        have h34 := tp_pos (31 - j)
        have : tp j * 1 < tp j * (2 * tp (31 - j)) := Nat.mul_lt_mul_of_pos_left (by omega) hp
        omega
      show ((tp j : Nat) : Int) < 4294967296
      omega)
  have hsum : 2 * tp j * w + tp j < 4294967296 := by
    have hb : 2 * tp j * w < tp j * (2 * tp (31 - j)) := by rw [← h33, h32]; omega
    have hb2 : 2 * tp j * w < 2 * tp j * tp (31 - j) := by
      have : tp j * (2 * tp (31 - j)) = 2 * tp j * tp (31 - j) := by rw [Nat.mul_left_comm, Nat.mul_assoc]
      omega
    have hw2 : w < tp (31 - j) := Nat.lt_of_mul_lt_mul_left hb2
    have h5 : 2 * tp j * (w + 1) ≤ 2 * tp j * tp (31 - j) := Nat.mul_le_mul_left _ hw2
    have h6 : 2 * tp j * tp (31 - j) = 4294967296 := by
      rw [← h32, h33, Nat.mul_left_comm, Nat.mul_assoc]
    rw [Nat.mul_add, Nat.mul_one] at h5
    omega
  refine ⟨((2 * tp j * w : Nat) : Int) + ((tp j : Nat) : Int), by rw [hg, hsh]; exact hjoin, by omega, by omega, ?_⟩
  have hset : val (q.set i (((2 * tp j * w : Nat) : Int) + ((tp j : Nat) : Int))) = val q + gp 4294967296 i * (((2 * tp j * w : Nat) : Int) + ((tp j : Nat) : Int) - q.getD i 0) := gval_set _ _ _ _ hi
  rw [hset, hg, ← hvn, hq, gp_np]
  have e1 : ((2 * tp j * w : Nat) : Int) + ((tp j : Nat) : Int) - ((2 * tp j * w : Nat) : Int) = ((tp j : Nat) : Int) := by omega
  rw [e1]
  have e2 : (2 * Q + 1) * tp (32 * i + j) = Q * tp (32 * i + j + 1) + np i * tp j := by
    rw [tp_succ, tp_add, tp_np, Nat.add_mul, Nat.one_mul]
    congr 1
    rw [Nat.mul_comm 2 Q, Nat.mul_assoc]
  rw [e2]
  push_cast
  rfl

/-! ### Div -/
theorem at_num (n s : Nat) (hn : n < 4294967296) (hs : s < 32 * n) : wrap64 (wrap64 (wrap64 (32 * (n : Int)) - 1) - (s : Int)) = ((32 * n - 1 - s : Nat) : Int) := by
  have e : (32 * (n : Int)) = ((32 * n : Nat) : Int) := by push_cast; rfl
  rw [e, w64 (x := ((32 * n : Nat) : Int)) (by omega) (by omega)]
  exact w64_at (32 * n) s (by omega) hs
theorem div32 (p : Nat) (h : p < 1099511627776) : wrap64 (Int.tdiv ((p : Nat) : Int) 32) = ((p / 32 : Nat) : Int) := by
  rw [Int.tdiv_eq_ediv_of_nonneg (by omega), w64 (by omega) (by omega)]; omega
theorem mod32 (p : Nat) : Int.tmod ((p : Nat) : Int) 32 = ((p % 32 : Nat) : Int) := by
  rw [Int.tmod_eq_emod_of_nonneg (by omega)]; omega
theorem quot_step {m D N bit Q R a : Nat} (hm : a = 2 * m + bit) (hinv : m = Q * D + R) : a = 2 * Q * D + (2 * R + bit) := by
  rw [hm, hinv, Nat.mul_add, Nat.mul_assoc]; omega
theorem tp_split (N p : Nat) : N / tp p = 2 * (N / tp (p + 1)) + N / tp p % 2 := by
  have : N / tp (p + 1) = N / tp p / 2 := by rw [tp_succ, Nat.mul_comm, Nat.div_div_eq_div_mul]
  rw [this]; omega
theorem div_loop (a b : List Int) (ha : Lm a) (hb : Lm b) (hal : a.length ≤ 1024) (hbl : b.length ≤ 1024) (D : Nat) (hD : (val b).toNat = D) (hD0 : 0 < D) : ∀ (p s : Nat) (q r : List Int) (Q R : Nat), 32 * a.length = s + p → q.length = a.length → Lm q → r.length = b.length + 1 → Lm r →
    val q = ((Q * tp p : Nat) : Int) → val r = (R : Int) → R < D → (val a).toNat / tp p = Q * D + R →
    Ev (fun k => natural_Div.l0 k a b q r (((32 * a.length : Nat) : Int)) (s : Int)) (lim ((val a).toNat / D), lim ((val a).toNat % D), 0) := by
  intro p
  induction p with
  | zero =>
    intro s q r Q R hs hql hqL hrl hrL hqv hrv hR hinv
    rw [tp_zero, Nat.mul_one] at hqv
    rw [tp_zero, Nat.div_one] at hinv
    have t1 := trim_ev hqL (by omega)
    have t2 := trim_ev hrL (by omega)
    rw [hqv, Int.toNat_natCast] at t1
    rw [hrv, Int.toNat_natCast] at t2
    have e1 : (val a).toNat / D = Q := by
      rw [hinv, Nat.mul_comm, Nat.mul_add_div hD0, Nat.div_eq_of_lt hR, Nat.add_zero]
    have e2 : (val a).toNat % D = R := by
      rw [hinv, Nat.mul_comm, Nat.mul_add_mod, Nat.mod_eq_of_lt hR]
    have l1 : fit Q = (lim Q, 0) := by
      refine fit_ok (Nat.lt_of_le_of_lt ?_ (Nat.lt_of_lt_of_le (val_toNat_lt ha) (np_le hal)))
      rw [← e1]; exact Nat.div_le_self _ _
    have l2 : fit R = (lim R, 0) := by
      refine fit_ok (Nat.lt_trans hR (Nat.lt_of_lt_of_le ?_ (np_le hbl)))
      rw [← hD]; exact val_toNat_lt hb
    rw [l1] at t1
    rw [l2] at t2
    rw [e1, e2]
    obtain ⟨K1, t1⟩ := t1
    obtain ⟨K2, t2⟩ := t2
    obtain ⟨LQ, hLQ⟩ : ∃ L, L = lim Q := ⟨_, rfl⟩
    obtain ⟨LR, hLR⟩ : ∃ L, L = lim R := ⟨_, rfl⟩
    rw [← hLQ] at t1 ⊢
    rw [← hLR] at t2 ⊢
    refine ⟨K1 + K2 + 1, fun k hk => ?_⟩
    obtain ⟨k, rfl⟩ : ∃ m, k = m + 1 := ⟨k - 1, by omega⟩
    have u1 : natural_trim.f k q = some (LQ, 0) := t1 k (by omega)
    have u2 : natural_trim.f k r = some (LR, 0) := t2 k (by omega)
    simp only [natural_Div.l0]
    rw [if_neg (by omega), u1, Option.bind_some, u2, Option.bind_some]
  | succ p ih =>
    intro s q r Q R hs hql hqL hrl hrL hqv hrv hR hinv
    have hn32 : a.length < 4294967296 := by omega
    have hs32 : s < 32 * a.length := by omega
    have hat : 32 * a.length - 1 - s = p := by omega
    have hdp : 32 * (p / 32) + p % 32 = p := Nat.div_add_mod p 32
    have hpm : p % 32 < 32 := Nat.mod_lt _ (by decide)
    have hpi : p / 32 < a.length := by omega
    obtain ⟨N, hN⟩ : ∃ N, N = (val a).toNat := ⟨_, rfl⟩
    have hbit := bit_of ha (p / 32) (p % 32) hpm
    rw [hdp, ← hN] at hbit
    rw [← hN] at hinv ih ⊢
    obtain ⟨bit, hbitv⟩ : ∃ bit, bit = N / tp p % 2 := ⟨_, rfl⟩
    have hb01 : ((bit : Nat) : Int) = 0 ∨ ((bit : Nat) : Int) = 1 := by omega
    have hsplit := tp_split N p
    rw [← hbitv] at hbit hsplit
    have hq1 := quot_step (N := N) hsplit hinv
    -- the remainder, doubled
    have hDlt : D < np b.length := by rw [← hD]; exact val_toNat_lt hb
    have hsh := shift_ev (xs := r) hrL (by omega) (c := ((bit : Nat) : Int)) hb01 (by
      rw [hrv, hrl, gp_succ, gp_np]
      omega)
    obtain ⟨r1, hr1, hr1l, hr1L, hr1v⟩ := hsh
    rw [hrv] at hr1v
    have hbv : val b = ((D : Nat) : Int) := by rw [← hD]; exact (val_toNat hb).symm
    have hless := less_ev hr1L hb (by omega) (by omega)
    obtain ⟨K1, hr1⟩ := hr1
    obtain ⟨K2, hless⟩ := hless
    have hsb : s < 4611686018427387904 := by omega
    have hat64 := at_num a.length s hn32 hs32
    rw [hat] at hat64
    have Hat := Lib.hid hat64
    clear hat64
    have Htd := Lib.hid (div32 p (by omega))
    have Htm := Lib.hid (mod32 p)
    by_cases hlt : val r1 < val b
    · rw [decide_eq_true hlt] at hless
      have hih := ih (s + 1) q r1 (2 * Q) (2 * R + bit) (by omega) hql hqL (by omega) hr1L (by rw [hqv, tp_succ]; congr 1; rw [Nat.mul_left_comm, Nat.mul_assoc]) (by rw [hr1v]; push_cast; rfl) (by omega) hq1
      obtain ⟨K3, hih⟩ := hih
      refine ⟨K1 + K2 + K3 + 1, fun k hk => ?_⟩
      obtain ⟨k, rfl⟩ : ∃ m, k = m + 1 := ⟨k - 1, by omega⟩
      have u1 : natural_shift.f k r ((bit : Nat) : Int) = some r1 := hr1 k (by omega)
      have u2 : natural_less.f k r1 b = some true := hless k (by omega)
      have u3 := hih k (by omega)
      simp only [natural_Div.l0]
      rw [if_pos (by omega), Hat.out, Htd.out, Htm.out, if_pos (by omega), if_pos (by omega), if_pos (by omega), rd_nat, hbit, u1, Option.bind_some, u2, Option.bind_some, if_pos rfl, w64_add s hsb]
      exact u3
    · rw [decide_eq_false hlt] at hless
      obtain ⟨r2, hr2, hr2l, hr2L, hr2v⟩ := subtract_ev hr1L hb (by omega) (by omega) (by omega)
      obtain ⟨v, hv, hv0, hv1, hvv⟩ := set_bit hqL (p / 32) (p % 32) Q (by omega) hpm (by rw [hdp, hqv, Int.toNat_natCast])
      rw [hdp] at hvv
      have hih := ih (s + 1) (q.set (p / 32) v) r2 (2 * Q + 1) (2 * R + bit - D) (by omega) (by simpa using hql) (hqL.set _ hv0 hv1) (by omega) hr2L hvv (by rw [hr2v, hr1v, hbv]; omega) (by omega) (by
        rw [hq1, Nat.add_mul (2 * Q), Nat.one_mul]
        omega)
      obtain ⟨K3, hih⟩ := hih
      obtain ⟨K4, hr2⟩ := hr2
      refine ⟨K1 + K2 + K3 + K4 + 1, fun k hk => ?_⟩
      obtain ⟨k, rfl⟩ : ∃ m, k = m + 1 := ⟨k - 1, by omega⟩
      have u1 : natural_shift.f k r ((bit : Nat) : Int) = some r1 := hr1 k (by omega)
      have u2 : natural_less.f k r1 b = some false := hless k (by omega)
      have u4 : natural_subtract.f k r1 b = some r2 := hr2 k (by omega)
      have u3 := hih k (by omega)
      simp only [natural_Div.l0]
      rw [if_pos (by omega), Hat.out, Htd.out, Htm.out, if_pos (by omega), if_pos (by omega), if_pos (by omega), rd_nat, hbit, u1, Option.bind_some, u2, Option.bind_some, if_neg (by decide), u4, Option.bind_some, if_pos (by omega), rd_nat, hv, w64_add s hsb, Int.toNat_natCast]
      exact u3
theorem div_ev {m n : Nat} (hm : (lim m).length ≤ 1024) (hn : (lim n).length ≤ 1024) (h0 : 0 < n) : Ev (fun k => natural_Div.f k (lim m) (lim n)) (lim (m / n), lim (m % n), 0) := by
  have hne : (lim n).length ≠ 0 := fun h => by
    have := (lim_nil_iff n).1 (List.eq_nil_of_length_eq_zero h); omega
  have hvm : (val (lim m)).toNat = m := by rw [val_lim, Int.toNat_natCast]
  have hvn : (val (lim n)).toNat = n := by rw [val_lim, Int.toNat_natCast]
  have key : Ev (fun k => natural_Div.j0 k (lim m) (lim n) false) (lim (m / n), lim (m % n), 0) := by
    by_cases h1 : (lim n).length = 1
    · have hnB : n < 4294967296 := by
        have := (lim_len_iff 1 n).1 (by omega)
        have e : np 1 = 4294967296 := by unfold np; decide
        omega
      have hg := digit_of (lm_lim n) 0
      rw [hvn, np_zero, Nat.div_one, Nat.mod_eq_of_lt hnB] at hg
      obtain ⟨K1, hs⟩ := short_ev (lm_lim m) hm (d := n) h0 hnB
      rw [hvm] at hs
      have hmn : m % n < n := Nat.mod_lt _ h0
      obtain ⟨K2, ho⟩ := of_ev (a := ((m % n : Nat) : Int)) (by omega) (by omega)
      rw [Int.toNat_natCast] at ho
      have hw : IntKind.u64.wrap ((m % n : Nat) : Int) = ((m % n : Nat) : Int) := u64w (by omega) (by omega)
      obtain ⟨A, hA⟩ : ∃ L, L = lim m := ⟨_, rfl⟩
      obtain ⟨B, hB⟩ : ∃ L, L = lim n := ⟨_, rfl⟩
      obtain ⟨LQ, hLQ⟩ : ∃ L, L = lim (m / n) := ⟨_, rfl⟩
      obtain ⟨LR, hLR⟩ : ∃ L, L = lim (m % n) := ⟨_, rfl⟩
      rw [← hA, ← hLQ] at hs
      rw [← hLR] at ho
      rw [← hB] at h1 hg
      rw [← hA, ← hB, ← hLQ, ← hLR]
      refine ⟨K1 + K2 + 1, fun k hk => ?_⟩
      obtain ⟨k, rfl⟩ : ∃ m, k = m + 1 := ⟨k - 1, by omega⟩
      have u1 : natural_short.f k A ((n : Nat) : Int) = some (LQ, ((m % n : Nat) : Int)) := hs k (by omega)
      have u2 : natural_Of.f k ((m % n : Nat) : Int) = some LR := ho k (by omega)
      have hrd : rd B 0 = ((n : Nat) : Int) := by
        have := rd_nat B 0
        rw [hg] at this
        exact this
      have Hw := Lib.hid hw
      clear hw
      simp only [natural_Div.j0]
      rw [if_neg (by decide), if_neg (by omega), if_pos (by omega), if_pos (by omega), hrd, u1, Option.bind_some]
      simp only []
      rw [Hw.out, u2, Option.bind_some]
    · have hL := div_loop (lim m) (lim n) (lm_lim m) (lm_lim n) hm hn n hvn h0 (32 * (lim m).length) 0 (List.replicate (lim m).length 0) (List.replicate ((lim n).length + 1) 0) 0 0 (by omega) (by simp) (Digs.replicate (by decide) _) (by simp) (Digs.replicate (by decide) _)
        (by rw [Nat.zero_mul]; exact gval_replicate _ _) (gval_replicate _ _) h0 (by
          rw [hvm, tp_np, Nat.div_eq_of_lt ((lim_len_iff _ m).1 (Nat.le_refl _)), Nat.zero_mul])
      rw [hvm] at hL
      have e1 : wrap64 (((lim n).length : Int) + 1) = (((lim n).length + 1 : Nat) : Int) := w64_add _ (by omega)
      have e2 : wrap64 (32 * ((lim m).length : Int)) = ((32 * (lim m).length : Nat) : Int) := by
        rw [w64 (by omega) (by omega)]; push_cast; rfl
      have E1 := Lib.hid e1
      have E2 := Lib.hid e2
      clear e1 e2
      refine Ev.step (fun k => ?_) hL
      simp only [natural_Div.j0]
      rw [if_neg (by decide), if_neg (by omega), if_neg (by omega), if_pos (by omega), if_pos (by omega), E1.out, E2.out, if_pos (by omega), if_pos (by omega), Int.toNat_natCast, Int.toNat_natCast]; rfl
  unfold natural_Div.f
  simp only [valid_lim hm, valid_lim hn, Option.bind_some, if_true, Bool.not_true]
  exact key
theorem div_zero {m : Nat} (hm : (lim m).length ≤ 1024) : Ev (fun k => natural_Div.f k (lim m) []) ([], [], 11) := by
  have h0 : natural_Valid.f [] = some true := by rw [valid_eq]; rfl
  unfold natural_Div.f
  simp only [valid_lim hm, h0, Option.bind_some, if_true, Bool.not_true]
  refine Ev.some_ fun k => ?_
  simp only [natural_Div.j0]
  rw [if_neg (by decide), if_pos (by simp)]
theorem div_bad {a b : List Int} (h : (okB a && okB b) = false) : Ev (fun k => natural_Div.f k a b) ([], [], 1) := by
  unfold natural_Div.f
  simp only [valid_eq, Option.bind_some]
  have hs : ∀ k, natural_Div.j0 (k + 1) a b true = some ([], [], 1) := fun k => by rw [natural_Div.j0, if_pos rfl]
  cases ha : okB a
  · simp only [Bool.false_eq_true, if_false]; exact Ev.some_ hs
  · rw [ha] at h
    simp only [Bool.true_and] at h
    simp only [h, if_true, Bool.not_false]; exact Ev.some_ hs
end Go.Proofs.Ytpalpikenkkhlaa.Nm
