/- What Compare, Sub and Add of package natural answer, in numbers. -/
import Derived.Test.YtpalpikenkkhlaaNm4
import Derived.Test.YtpalpikenkkhlaaNtJ
set_option linter.unusedVariables false
namespace Go.Proofs.Ytpalpikenkkhlaa.Nm
open Go.RowKit Go.Proofs.YtpalpikenkkhlaaW.PrintWords Go.Proofs.YtpalpikenkkhlaaW.PrintMore Go.Proofs.Ytpalpikenkkhlaa.Nt

/-! ### order -/
/-- Two lists that agree from a place on are ordered as the digits before it. -/
theorem top_lt {xs ys : List Int} {n : Nat} (hx : Lm xs) (hy : Lm ys) (he : val (xs.drop (n + 1)) = val (ys.drop (n + 1))) (hl : xs.getD n 0 < ys.getD n 0) : val xs < val ys := by
  have key : ∀ zs : List Int, Lm zs → val zs = val (zs.take n) + gp 4294967296 n * (zs.getD n 0 + 4294967296 * val (zs.drop (n + 1))) ∧ 0 ≤ val (zs.take n) ∧ val (zs.take n) < gp 4294967296 n := by
    intro zs hz
    refine ⟨?_, val_nonneg (hz.take n), ?_⟩
    · rcases Nat.lt_or_ge n zs.length with h | h
      · have h1 := gval_split 4294967296 zs n (Nat.le_of_lt h)
        rw [gval_drop_get] at h1
        exact h1
      · have h2 : zs.getD n 0 = 0 := by rw [List.getD_eq_getElem?_getD, List.getElem?_eq_none h]; rfl
        rw [h2, List.take_of_length_le h, List.drop_eq_nil_of_le (by omega)]
        simp [val, gval]
    · have h1 := val_lt (xs := zs.take n) (hz.take n)
      exact Int.lt_of_lt_of_le h1 (gp_le (by decide) (by rw [List.length_take]; omega))
  obtain ⟨x1, x2, x3⟩ := key xs hx
  obtain ⟨y1, y2, y3⟩ := key ys hy
  rw [x1, y1, he]
  obtain ⟨P, hP⟩ : ∃ P, P = gp 4294967296 n := ⟨_, rfl⟩
  rw [← hP] at x3 y3 ⊢
  have h3 : P * (xs.getD n 0 + 4294967296 * val (ys.drop (n + 1)) + 1) ≤ P * (ys.getD n 0 + 4294967296 * val (ys.drop (n + 1))) := Int.mul_le_mul_of_nonneg_left (by omega) (by omega)
  rw [Int.mul_add, Int.mul_one] at h3
  omega
theorem drop_step {xs ys : List Int} {n : Nat} (he : val (xs.drop (n + 1)) = val (ys.drop (n + 1))) (hl : xs.getD n 0 = ys.getD n 0) : val (xs.drop n) = val (ys.drop n) := by
  have h1 : val (xs.drop n) = xs.getD n 0 + 4294967296 * val (xs.drop (n + 1)) := gval_drop_get _ _ _
  have h2 : val (ys.drop n) = ys.getD n 0 + 4294967296 * val (ys.drop (n + 1)) := gval_drop_get _ _ _
  rw [h1, h2, he, hl]
/-- -1, 0 or 1. -/
def cmp (m n : Nat) : Int := if m < n then -1 else if n < m then 1 else 0

theorem compare_loop (xs ys : List Int) (hx : Lm xs) (hy : Lm ys) (hl : xs.length = ys.length) (hb : xs.length < 4294967296) : ∀ (n i : Nat), xs.length = i + n → val (xs.drop n) = val (ys.drop n) →
    Ev (fun k => natural_Compare.l0 k xs ys (xs.length : Int) (i : Int)) (cmp (val xs).toNat (val ys).toNat) := by
  intro n
  induction n with
  | zero =>
    intro i hi hv
    rw [List.drop_zero, List.drop_zero] at hv
    have e : cmp (val xs).toNat (val ys).toNat = 0 := by
      rw [hv]; unfold cmp; rw [if_neg (Nat.lt_irrefl _), if_neg (Nat.lt_irrefl _)]
    rw [e]
    refine Ev.some_ fun k => ?_
    simp only [natural_Compare.l0]
    rw [if_neg (by omega)]
  | succ n ih =>
    intro i hi hv
    have hin : xs.length - 1 - i = n := by omega
    have hlb : xs.length < 4611686018427387904 := by omega
    have hlt : i < xs.length := by omega
    have n1 := val_nonneg hx
    have n2 := val_nonneg hy
    by_cases h1 : xs.getD n 0 < ys.getD n 0
    · have := top_lt hx hy hv h1
      have e : cmp (val xs).toNat (val ys).toNat = -1 := by unfold cmp; rw [if_pos (by omega)]
      rw [e]
      refine Ev.some_ fun k => ?_
      simp only [natural_Compare.l0]
      rw [if_pos (by omega), w64_at _ _ hlb hlt, hin, if_pos (by omega), if_pos (by omega), if_pos (by omega), rd_nat, rd_nat, if_pos h1]
    · by_cases h2 : ys.getD n 0 < xs.getD n 0
      · have := top_lt hy hx hv.symm h2
        have e : cmp (val xs).toNat (val ys).toNat = 1 := by unfold cmp; rw [if_neg (by omega), if_pos (by omega)]
        rw [e]
        refine Ev.some_ fun k => ?_
        simp only [natural_Compare.l0]
        rw [if_pos (by omega), w64_at _ _ hlb hlt, hin, if_pos (by omega), if_pos (by omega), if_pos (by omega), rd_nat, rd_nat, if_neg h1, if_pos h2]
      · refine Ev.step (fun k => ?_) (ih (i + 1) (by omega) (drop_step hv (by omega)))
        simp only [natural_Compare.l0]
        rw [if_pos (by omega), w64_at _ _ hlb hlt, hin, if_pos (by omega), if_pos (by omega), if_pos (by omega), rd_nat, rd_nat, if_neg h1, if_neg (by omega), w64_add i (by omega)]
theorem compare_ev {m n : Nat} (hm : (lim m).length ≤ 1024) (hn : (lim n).length ≤ 1024) : Ev (fun k => natural_Compare.f k (lim m) (lim n)) (cmp m n) := by
  unfold natural_Compare.f
  simp only [valid_lim hm, valid_lim hn, Option.bind_some, if_true, Bool.not_true]
  by_cases h : (lim m).length = (lim n).length
  · have hz := compare_loop (lim m) (lim n) (lm_lim m) (lm_lim n) h (by omega) (lim m).length 0 (by omega) (by rw [List.drop_length, List.drop_of_length_le (by omega)])
    rw [val_lim, val_lim, Int.toNat_natCast, Int.toNat_natCast] at hz
    refine Ev.step (fun k => ?_) hz
    simp only [natural_Compare.j0]
    rw [if_neg (by decide), if_pos (by omega)]; rfl
  · by_cases h2 : (lim m).length < (lim n).length
    · have hlt : m < n := by
        rcases Nat.lt_or_ge m n with h3 | h3
        · exact h3
        · have := lim_len_mono h3; omega
      refine Ev.some_ fun k => ?_
      simp only [natural_Compare.j0]
      unfold cmp
      rw [if_neg (by decide), if_neg (by omega), if_pos (by omega), if_pos hlt]
    · have hlt : n < m := by
        rcases Nat.lt_or_ge n m with h3 | h3
        · exact h3
        · have := lim_len_mono h3; omega
      refine Ev.some_ fun k => ?_
      simp only [natural_Compare.j0]
      unfold cmp
      rw [if_neg (by decide), if_neg (by omega), if_neg (by omega), if_neg (by omega), if_pos hlt]
theorem compare_bad {a b : List Int} (h : (okB a && okB b) = false) : Ev (fun k => natural_Compare.f k a b) 0 := by
  unfold natural_Compare.f
  simp only [valid_eq, Option.bind_some]
  have hs : ∀ k, natural_Compare.j0 (k + 1) a b true = some 0 := fun k => by rw [natural_Compare.j0, if_pos rfl]
  cases ha : okB a
  · simp only [Bool.false_eq_true, if_false]; exact Ev.some_ hs
  · rw [ha] at h
    simp only [Bool.true_and] at h
    simp only [h, if_true, Bool.not_false]; exact Ev.some_ hs

/-! ### subtract -/
theorem sub_step {V P c o t W A : Int} (ht : t = o - W) (hv : V - P * c = A) : V + P * (t % 4294967296 - o) - P * 4294967296 * (-(t / 4294967296)) = A - P * (W - c) := by
  have k1 : P * (t % 4294967296 - o) - P * 4294967296 * (-(t / 4294967296)) = P * (-W) := by
    rw [Int.mul_assoc, ← Int.mul_sub]
    congr 1
    omega
  have k2 : P * (W - c) = P * W - P * c := Int.mul_sub _ _ _
  have k3 : P * (-W) = -(P * W) := Int.mul_neg _ _
  omega
theorem subtract_loop (ys : List Int) (hy : Lm ys) (n : Nat) (hn : n < 4294967296) (A : Int) : ∀ (d i : Nat) (xs : List Int) (c : Int), n = i + d → xs.length = n → Lm xs → (c = 0 ∨ c = 1) → val xs - gp 4294967296 i * c = A - val (ys.take i) →
    ∃ r, Ev (fun k => natural_subtract.l0 k xs ys c (n : Int) (i : Int)) r ∧ r.length = n ∧ Lm r ∧ ∃ c', (c' = 0 ∨ c' = 1) ∧ val r - gp 4294967296 n * c' = A - val (ys.take n) := by
  intro d
  induction d with
  | zero =>
    intro i xs c hi hl hL hc hv
    have : i = n := by omega
    subst this
    refine ⟨xs, Ev.some_ fun k => ?_, hl, hL, c, hc, hv⟩
    simp only [natural_subtract.l0]
    rw [if_neg (by omega)]
  | succ d ih =>
    intro i xs c hi hl hL hc hv
    have hX := Digs.get hL (by decide) i
    have hY := Digs.get hy (by decide) i
    have hb2 : i < 4611686018427387904 := by omega
    obtain ⟨t, ht⟩ : ∃ t, t = xs.getD i 0 - (c + ys.getD i 0) := ⟨_, rfl⟩
    have hte : IntKind.u64.wrap t % 4294967296 = t % 4294967296 := by rw [u64mod]; omega
    have hxw : IntKind.u64.wrap (xs.getD i 0) = xs.getD i 0 := u64w (by omega) (by omega)
    have hyw : IntKind.u64.wrap (ys.getD i 0) = ys.getD i 0 := u64w (by omega) (by omega)
    have hcw : IntKind.u64.wrap (c + ys.getD i 0) = c + ys.getD i 0 := u64w (by omega) (by omega)
    have hqt : -(t / 4294967296) = 0 ∨ -(t / 4294967296) = 1 := by omega
    have hset : val (xs.set i (t % 4294967296)) = val xs + gp 4294967296 i * (t % 4294967296 - xs.getD i 0) := gval_set _ _ _ _ (by omega)
    have htk : val (ys.take (i + 1)) = val (ys.take i) + gp 4294967296 i * ys.getD i 0 := gval_take_beyond _ _ _
    obtain ⟨r, hr, h1, h2, h3⟩ := ih (i + 1) (xs.set i (t % 4294967296)) (-(t / 4294967296)) (by omega) (by simpa using hl) (hL.set _ (by omega) (by omega)) hqt (by
      rw [hset, gp_succ, sub_step (c := c) ht hv, htk]
      have : (c + ys.getD i 0 - c) = ys.getD i 0 := by omega
      rw [this]
      omega)
    refine ⟨r, Ev.step (fun k => ?_) hr, h1, h2, h3⟩
    simp only [natural_subtract.l0]
    rw [if_pos (by omega)]
    by_cases hiy : (i : Int) < (ys.length : Int)
    · rw [if_pos hiy, if_pos (by omega), if_pos (by omega), rd_nat, rd_nat, hxw, hyw, hcw, ← ht, hte, w64_add i hb2, Int.toNat_natCast]
      by_cases hlt : xs.getD i 0 < c + ys.getD i 0
      · rw [if_pos hlt]
        have : -(t / 4294967296) = 1 := by omega
        rw [this]
      · rw [if_neg hlt]
        have : -(t / 4294967296) = 0 := by omega
        rw [this]
    · have h0 : ys.getD i 0 = 0 := by rw [List.getD_eq_getElem?_getD, List.getElem?_eq_none (by omega)]; rfl
      rw [h0, Int.add_zero] at ht
      rw [if_neg hiy, if_pos (by omega), if_pos (by omega), rd_nat, hxw, ← ht, hte, w64_add i hb2, Int.toNat_natCast]
      by_cases hlt : xs.getD i 0 < c
      · rw [if_pos hlt]
        have : -(t / 4294967296) = 1 := by omega
        rw [this]
      · rw [if_neg hlt]
        have : -(t / 4294967296) = 0 := by omega
        rw [this]
theorem subtract_ev {xs ys : List Int} (hx : Lm xs) (hy : Lm ys) (hl : ys.length ≤ xs.length) (hb : xs.length < 4294967296) (hge : val ys ≤ val xs) :
    ∃ r, Ev (fun k => natural_subtract.f k xs ys) r ∧ r.length = xs.length ∧ Lm r ∧ val r = val xs - val ys := by
  obtain ⟨r, hr, h1, h2, c, hc, hv⟩ := subtract_loop ys hy xs.length hb (val xs) xs.length 0 xs 0 (by omega) rfl hx (.inl rfl) (by simp [val, gval])
  rw [List.take_of_length_le hl] at hv
  have h3 := val_lt h2
  have h4 := val_nonneg h2
  rw [h1] at h3
  refine ⟨r, hr, h1, h2, ?_⟩
  rcases hc with hc | hc
  · rw [hc, Int.mul_zero] at hv; omega
  · rw [hc, Int.mul_one] at hv; omega

/-! ### Sub -/
theorem copy_zeros (xs : List Int) (n : Nat) (k : Nat) (h : xs.length ≤ n) : copy_in.f k (List.replicate n 0) xs = some (xs ++ List.replicate (n - xs.length) 0) := by
  unfold copy_in.f
  rw [List.length_replicate, List.take_of_length_le h, List.drop_replicate]
theorem sub_ev {m n : Nat} (hm : (lim m).length ≤ 1024) (hn : (lim n).length ≤ 1024) : Ev (fun k => natural_Sub.f k (lim m) (lim n)) (if m < n then ([], 10) else (lim (m - n), 0)) := by
  unfold natural_Sub.f
  simp only [valid_lim hm, valid_lim hn, Option.bind_some, if_true, Bool.not_true]
  have hc := compare_ev hm hn
  refine Ev.step (f := fun k => (natural_Compare.f k (lim m) (lim n)).bind fun t481 => (if t481 < 0 then (some (([] : List Int), 10)) else (if 0 ≤ ((lim m).length : Int) then (if (((lim m).length : Int) : Int).toNat ≤ 70368744177664 then ((copy_in.f k (List.replicate (((lim m).length : Int) : Int).toNat 0) (lim m)).bind fun t485 => ((natural_subtract.f k t485 (lim n)).bind fun t486 => ((natural_trim.f k t486).bind fun bt487 => (some (bt487.1, bt487.2))))) else (none)) else (none)))) (fun k => ?_) ?_
  · simp only [natural_Sub.j0]
    rw [if_neg (by decide)]
  · refine Ev.bind (f := fun k t481 => (if t481 < 0 then (some (([] : List Int), 10)) else (if 0 ≤ ((lim m).length : Int) then (if (((lim m).length : Int) : Int).toNat ≤ 70368744177664 then ((copy_in.f k (List.replicate (((lim m).length : Int) : Int).toNat 0) (lim m)).bind fun t485 => ((natural_subtract.f k t485 (lim n)).bind fun t486 => ((natural_trim.f k t486).bind fun bt487 => (some (bt487.1, bt487.2))))) else (none)) else (none)))) hc ?_
    by_cases h : m < n
    · rw [if_pos h]
      refine Ev.all fun k => ?_
      have : cmp m n = -1 := by unfold cmp; rw [if_pos h]
      rw [this, if_pos (by decide)]
    · rw [if_neg h]
      have hcm : ¬ cmp m n < 0 := by unfold cmp; rw [if_neg h]; split <;> decide
      obtain ⟨r, hr, h1, h2, h3⟩ := subtract_ev (lm_lim m) (lm_lim n) (lim_len_mono (by omega)) (by omega) (by rw [val_lim, val_lim]; omega)
      rw [val_lim, val_lim] at h3
      have ht := trim_ev h2 (by omega)
      have e1 : (val r).toNat = m - n := by omega
      have e2 : fit (m - n) = (lim (m - n), 0) := fit_lim (Nat.le_trans (lim_len_mono (Nat.sub_le m n)) hm)
      rw [e1, e2] at ht
      refine Ev.congr (f := fun k => (natural_subtract.f k (lim m) (lim n)).bind fun t486 => ((natural_trim.f k t486).bind fun bt487 => (some (bt487.1, bt487.2)))) (fun k => ?_) ?_
      · rw [if_neg hcm, if_pos (by omega), if_pos (by omega), Int.toNat_natCast, copy_zeros _ _ _ (Nat.le_refl _), Option.bind_some, Nat.sub_self]
        simp
      · refine Ev.bind (f := fun k t486 => ((natural_trim.f k t486).bind fun bt487 => (some (bt487.1, bt487.2)))) hr ?_
        exact Ev.map ht (fun z => (z.1, z.2))
theorem sub_bad {a b : List Int} (h : (okB a && okB b) = false) : Ev (fun k => natural_Sub.f k a b) ([], 1) := by
  unfold natural_Sub.f
  simp only [valid_eq, Option.bind_some]
  have hs : ∀ k, natural_Sub.j0 (k + 1) a b true = some ([], 1) := fun k => by rw [natural_Sub.j0, if_pos rfl]
  cases ha : okB a
  · simp only [Bool.false_eq_true, if_false]; exact Ev.some_ hs
  · rw [ha] at h
    simp only [Bool.true_and] at h
    simp only [h, if_true, Bool.not_false]; exact Ev.some_ hs

/-! ### Add -/
theorem add_step {V P c o t W A : Int} (ht : t = c + o + W) (hv : V + P * c = A) : V + P * (t % 4294967296 - o) + P * 4294967296 * (t / 4294967296) = A + P * W := by
  have k1 : P * (t % 4294967296 - o) + P * 4294967296 * (t / 4294967296) = P * (c + W) := by
    rw [Int.mul_assoc, ← Int.mul_add]
    congr 1
    omega
  have k2 : P * (c + W) = P * c + P * W := Int.mul_add _ _ _
  omega
theorem add_loop (xs ys : List Int) (hx : Lm xs) (hy : Lm ys) (hb : xs.length < 4294967296) (hl : ys.length ≤ xs.length) : ∀ (d i : Nat) (out : List Int) (c : Int), xs.length = i + d → out.length = xs.length + 1 → Lm out → (c = 0 ∨ c = 1) → out.getD xs.length 0 = 0 →
    val out + gp 4294967296 i * c = val xs + val (ys.take i) →
    Ev (fun k => natural_Add.l0 k xs ys out c (xs.length : Int) (i : Int)) (fit (val xs + val ys).toNat) := by
  intro d
  induction d with
  | zero =>
    intro i out c hi ho hL hc hz hv
    have : i = xs.length := by omega
    subst this
    rw [List.take_of_length_le hl] at hv
    have hcm : c % 4294967296 = c := by omega
    have hset : val (out.set xs.length c) = val out + gp 4294967296 xs.length * (c - out.getD xs.length 0) := gval_set _ _ _ _ (by omega)
    rw [hz, Int.sub_zero, hv] at hset
    have ht := trim_ev (xs := out.set xs.length c) (hL.set _ (by omega) (by omega)) (by simp; omega)
    rw [hset] at ht
    refine Ev.step (f := fun k => (natural_trim.f k (out.set xs.length c)).bind fun z => some (z.1, z.2)) (fun k => ?_) (Ev.map ht (fun z => (z.1, z.2)))
    simp only [natural_Add.l0]
    rw [if_neg (by omega), if_pos (by omega), if_pos (by omega), hcm, Int.toNat_natCast]
  | succ d ih =>
    intro i out c hi ho hL hc hz hv
    have hO := Digs.get hL (by decide) i
    have hY := Digs.get hy (by decide) i
    have hb2 : i < 4611686018427387904 := by omega
    obtain ⟨t, ht⟩ : ∃ t, t = c + out.getD i 0 + ys.getD i 0 := ⟨_, rfl⟩
    have how : IntKind.u64.wrap (out.getD i 0) = out.getD i 0 := u64w (by omega) (by omega)
    have hyw : IntKind.u64.wrap (ys.getD i 0) = ys.getD i 0 := u64w (by omega) (by omega)
    have hcw : IntKind.u64.wrap (c + out.getD i 0) = c + out.getD i 0 := u64w (by omega) (by omega)
    have htw : IntKind.u64.wrap t = t := u64w (by omega) (by omega)
    have hset : val (out.set i (t % 4294967296)) = val out + gp 4294967296 i * (t % 4294967296 - out.getD i 0) := gval_set _ _ _ _ (by omega)
    have htk : val (ys.take (i + 1)) = val (ys.take i) + gp 4294967296 i * ys.getD i 0 := gval_take_beyond _ _ _
    refine Ev.step (fun k => ?_) (ih (i + 1) (out.set i (t % 4294967296)) (t / 4294967296) (by omega) (by simpa using ho) (hL.set _ (by omega) (by omega)) (by omega) ?_ ?_)
    · simp only [natural_Add.l0]
      rw [if_pos (by omega), if_pos (by omega), if_pos (by omega)]
      by_cases hiy : (i : Int) < (ys.length : Int)
      · rw [if_pos hiy, rd_nat, rd_nat, how, hyw, hcw, ← ht, htw, w64_add i hb2, Int.toNat_natCast]
      · have h0 : ys.getD i 0 = 0 := by rw [List.getD_eq_getElem?_getD, List.getElem?_eq_none (by omega)]; rfl
        rw [h0, Int.add_zero] at ht
        rw [if_neg hiy, rd_nat, how, hcw, ← ht, w64_add i hb2, Int.toNat_natCast]
    · rw [List.getD_eq_getElem?_getD, List.getElem?_set_ne (by omega), ← List.getD_eq_getElem?_getD]
      exact hz
    · rw [hset, gp_succ, add_step ht hv, htk]
      omega
theorem add_j1 (xs ys : List Int) (hx : Lm xs) (hy : Lm ys) (hb : xs.length < 1099511627) (hl : ys.length ≤ xs.length) : Ev (fun k => natural_Add.j1 k xs ys) (fit (val xs + val ys).toNat) := by
  have hv : val (xs ++ List.replicate 1 0) = val xs := by
    rw [val, gval_append]; simp [gval, val]
  have hg : (xs ++ List.replicate 1 0).getD xs.length 0 = 0 := by
    rw [List.getD_eq_getElem?_getD, List.getElem?_append_right (Nat.le_refl _), Nat.sub_self]; rfl
  have h := add_loop xs ys hx hy (by omega) hl xs.length 0 (xs ++ List.replicate 1 0) 0 (by omega) (by simp) (Digs.append hx (Digs.replicate (by decide) 1)) (.inl rfl) hg (by rw [hv]; simp [val, gval])
  have hw : wrap64 ((xs.length : Int) + 1) = ((xs.length + 1 : Nat) : Int) := w64_add _ (by omega)
  refine Ev.step (fun k => ?_) h
  simp only [natural_Add.j1, hw]
  rw [if_pos (by omega), Int.toNat_natCast, if_pos (by omega), copy_zeros _ _ _ (by omega), Option.bind_some, Nat.add_sub_cancel_left]; rfl
theorem add_ev {m n : Nat} (hm : (lim m).length ≤ 1024) (hn : (lim n).length ≤ 1024) : Ev (fun k => natural_Add.f k (lim m) (lim n)) (fit (m + n)) := by
  unfold natural_Add.f
  simp only [valid_lim hm, valid_lim hn, Option.bind_some, if_true, Bool.not_true]
  have e1 : (val (lim m) + val (lim n)).toNat = m + n := by rw [val_lim, val_lim]; omega
  have e2 : (val (lim n) + val (lim m)).toNat = m + n := by rw [val_lim, val_lim]; omega
  by_cases h : ((lim m).length : Int) < ((lim n).length : Int)
  · have h1 := add_j1 (lim n) (lim m) (lm_lim n) (lm_lim m) (by omega) (by omega)
    rw [e2] at h1
    refine Ev.step (fun k => ?_) h1
    simp only [natural_Add.j0]
    rw [if_neg (by decide), if_pos h]
  · have h1 := add_j1 (lim m) (lim n) (lm_lim m) (lm_lim n) (by omega) (by omega)
    rw [e1] at h1
    refine Ev.step (fun k => ?_) h1
    simp only [natural_Add.j0]
    rw [if_neg (by decide), if_neg h]
theorem add_bad {a b : List Int} (h : (okB a && okB b) = false) : Ev (fun k => natural_Add.f k a b) ([], 1) := by
  unfold natural_Add.f
  simp only [valid_eq, Option.bind_some]
  have hs : ∀ k, natural_Add.j0 (k + 1) a b true = some ([], 1) := fun k => by rw [natural_Add.j0, if_pos rfl]
  cases ha : okB a
  · simp only [Bool.false_eq_true, if_false]; exact Ev.some_ hs
  · rw [ha] at h
    simp only [Bool.true_and] at h
    simp only [h, if_true, Bool.not_false]; exact Ev.some_ hs
theorem mul_lim {m n : Nat} (hm : (lim m).length ≤ 1024) (hn : (lim n).length ≤ 1024) : Ev (fun k => natural_Mul.f k (lim m) (lim n)) (fit (m * n)) := by
  have h := mul_ev (lm_lim m) (lm_lim n) (by rw [okB_lim, decide_eq_true hm]) (by rw [okB_lim, decide_eq_true hn])
  have e : (val (lim m) * val (lim n)).toNat = m * n := by
    rw [val_lim, val_lim]
    have : ((m : Int) * (n : Int)) = ((m * n : Nat) : Int) := by push_cast; rfl
    rw [this, Int.toNat_natCast]
  rw [e] at h
  exact h
theorem addl_ev {m n : Nat} (hm : (lim m).length ≤ 1024) (hn : (lim n).length ≤ 1024) (h : (lim (m + n)).length ≤ 1024) : Ev (fun k => koinelaw01_add.f k (lim m) (lim n)) (lim (m + n)) := by
  unfold koinelaw01_add.f
  have := Ev.map (add_ev hm hn) (fun z => z.1)
  rw [fit_lim h] at this
  exact this
theorem mull_ev {m n : Nat} (hm : (lim m).length ≤ 1024) (hn : (lim n).length ≤ 1024) (h : (lim (m * n)).length ≤ 1024) : Ev (fun k => koinelaw01_mul.f k (lim m) (lim n)) (lim (m * n)) := by
  unfold koinelaw01_mul.f
  have := Ev.map (mul_lim hm hn) (fun z => z.1)
  rw [fit_lim h] at this
  exact this
end Go.Proofs.Ytpalpikenkkhlaa.Nm
