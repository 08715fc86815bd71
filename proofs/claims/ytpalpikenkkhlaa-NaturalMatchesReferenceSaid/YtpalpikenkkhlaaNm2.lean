/- What the first functions of package natural answer, in numbers: trim, Of, Valid, Mul, short, subtract, shift, less. -/
import Derived.Test.YtpalpikenkkhlaaNm1
import Derived.Test.YtpalpikenkkhlaaNtE
set_option linter.unusedVariables false
namespace Go.Proofs.Ytpalpikenkkhlaa.Nm
open Go.RowKit Go.Proofs.YtpalpikenkkhlaaW.PrintWords Go.Proofs.YtpalpikenkkhlaaW.PrintMore Go.Proofs.Ytpalpikenkkhlaa.Nt

/-- The limbs of a number. -/
def lim (n : Nat) : List Int := digs 4294967296 (by decide) n
/-- The number of some limbs. -/
def val (l : List Int) : Int := gval 4294967296 l
def Lm (l : List Int) : Prop := Digs 4294967296 l
/-- A number, or the error that it is too large. -/
def fit (n : Nat) : List Int × Int := if (lim n).length > 1024 then ([], 2) else (lim n, 0)

theorem val_lim (n : Nat) : val (lim n) = n := gval_digs 4294967296 (by decide) n
theorem lm_lim (n : Nat) : Lm (lim n) := digs_digs 4294967296 (by decide) n
theorem tr_lim (n : Nat) : Tr (lim n) := digs_tr 4294967296 (by decide) n
theorem lim_val {xs : List Int} (h : Lm xs) (t : Tr xs) : lim (val xs).toNat = xs := digs_gval 4294967296 (by decide) xs h t
theorem val_nonneg {xs : List Int} (h : Lm xs) : 0 ≤ val xs := gval_nonneg (by decide) h
theorem val_lt {xs : List Int} (h : Lm xs) : val xs < gp 4294967296 xs.length := gval_lt (by decide) h
theorem lim_zero : lim 0 = [] := digs_zero _ _
theorem lim_nil_iff (n : Nat) : lim n = [] ↔ n = 0 := digs_nil_iff _ _ n
/-- A power of the base of the limbs. -/
@[irreducible] def np (n : Nat) : Nat := 4294967296 ^ n
theorem np_zero : np 0 = 1 := by unfold np; exact Nat.pow_zero _
theorem np_succ (n : Nat) : np (n + 1) = np n * 4294967296 := by unfold np; exact Nat.pow_succ ..
theorem np_pos (n : Nat) : 0 < np n := by unfold np; exact Nat.pow_pos (by decide)
theorem np_le {m n : Nat} (h : m ≤ n) : np m ≤ np n := by unfold np; exact Nat.pow_le_pow_right (by decide) h
theorem np_add (m n : Nat) : np (m + n) = np m * np n := by unfold np; exact Nat.pow_add _ _ _
theorem np_two : np 2 = 18446744073709551616 := by unfold np; decide
theorem gp_np (n : Nat) : gp 4294967296 n = ((np n : Nat) : Int) := by unfold gp np; exact (Int.natCast_pow 4294967296 n).symm
theorem lim_len_iff (k n : Nat) : (lim n).length ≤ k ↔ n < np k := by unfold np; exact digs_length_iff 4294967296 (by decide) k n
theorem lim_inj {m n : Nat} (h : lim m = lim n) : m = n := by
  have h1 := val_lim m
  rw [h, val_lim] at h1
  omega
theorem val_toNat {xs : List Int} (h : Lm xs) : ((val xs).toNat : Int) = val xs := Int.toNat_of_nonneg (val_nonneg h)
theorem val_toNat_lt {xs : List Int} (h : Lm xs) : (val xs).toNat < np xs.length := by
  have h1 := val_lt h
  have h2 := val_toNat h
  rw [gp_np] at h1
  omega
theorem fit_ok {n : Nat} (h : n < np 1024) : fit n = (lim n, 0) := by
  unfold fit
  have := (lim_len_iff 1024 n).2 h
  rw [if_neg (by omega)]
theorem fit_lim {n : Nat} (h : (lim n).length ≤ 1024) : fit n = (lim n, 0) := fit_ok ((lim_len_iff 1024 n).1 h)

theorem Ev.val_eq {α : Type} {g : Nat → Option α} {r s : α} (h : Ev g r) (e : r = s) : Ev g s := e ▸ h
theorem Ev.some_ {α : Type} {g : Nat → Option α} {r : α} (h : ∀ k, g (k + 1) = some r) : Ev g r := Ev.step h (Ev.now r)
theorem Ev.all {α : Type} {g : Nat → Option α} {r : α} (h : ∀ k, g k = some r) : Ev g r := ⟨0, fun k _ => h k⟩
theorem Ev.map {α β : Type} {g : Nat → Option α} {a : α} (h : Ev g a) (f : α → β) : Ev (fun k => (g k).bind fun x => some (f x)) (f a) := Ev.bind (f := fun _ x => some (f x)) h (Ev.now _)

theorem getLast_getD {xs : List Int} {n : Nat} (h : xs.length = n + 1) : xs.getLast? = some (xs.getD n 0) := by
  rw [List.getLast?_eq_getElem?, h, List.getD_eq_getElem?_getD]
  simp only [Nat.add_sub_cancel]
  rw [List.getElem?_eq_getElem (by omega)]; rfl
theorem tr_take {xs : List Int} {n : Nat} (h : n < xs.length) (h0 : xs.getD n 0 ≠ 0) : Tr (xs.take (n + 1)) := by
  intro y hy
  have hl : (xs.take (n + 1)).length = n + 1 := by rw [List.length_take]; omega
  rw [getLast_getD hl] at hy
  injection hy with hy
  rw [List.getD_eq_getElem?_getD, List.getElem?_take, if_pos (by omega), ← List.getD_eq_getElem?_getD] at hy
  rw [← hy]; exact h0

/-! ### trim -/
theorem trim_loop (xs : List Int) (h : Lm xs) (hl : xs.length < 1099511627776) : ∀ n : Nat, n ≤ xs.length → val (xs.take n) = val xs → Ev (fun k => natural_trim.l0 k xs (n : Int)) (fit (val xs).toNat)
  | 0, _, hv => by
    have e : (val xs).toNat = 0 := by rw [← hv]; rfl
    rw [e, fit_ok (np_pos _), lim_zero]
    refine Ev.some_ fun k => ?_
    simp only [natural_trim.l0]
    rw [if_neg (by omega), if_neg (by omega), if_pos (by omega), if_pos (by omega)]
    simp
  | n + 1, hn, hv => by
    have hw := w64_sub n (by omega)
    by_cases h0 : rd xs (n : Int) = 0
    · have hv' : val (xs.take n) = val xs := by
        rw [rd_nat] at h0
        have := gval_take_succ 4294967296 xs n (by omega)
        rw [h0, Int.mul_zero, Int.add_zero] at this
        exact this.symm.trans hv
      refine Ev.step (fun k => ?_) (trim_loop xs h hl n (by omega) hv')
      simp only [natural_trim.l0]
      rw [hw, if_pos (by omega), if_pos (by omega), if_pos (by omega), if_pos h0]
    · have h0' : xs.getD n 0 ≠ 0 := by rw [← rd_nat]; exact h0
      have ht : lim (val xs).toNat = xs.take (n + 1) := by rw [← hv]; exact lim_val (h.take _) (tr_take (by omega) h0')
      have htl : (xs.take (n + 1)).length = n + 1 := by rw [List.length_take]; omega
      refine Ev.some_ fun k => ?_
      simp only [natural_trim.l0]
      rw [hw, if_pos (by omega), if_pos (by omega), if_pos (by omega), if_neg h0]
      unfold fit
      rw [ht, htl]
      by_cases h1 : n + 1 > 1024
      · rw [if_pos (by omega), if_pos h1]
      · rw [if_neg (by omega), if_pos (by omega), if_pos (by omega), if_neg h1, Int.toNat_natCast]
theorem trim_ev {xs : List Int} (h : Lm xs) (hl : xs.length < 1099511627776) : Ev (fun k => natural_trim.f k xs) (fit (val xs).toNat) := by
  unfold natural_trim.f
  exact trim_loop xs h hl xs.length (Nat.le_refl _) (by rw [List.take_length])

/-! ### Of -/
theorem of_ev {a : Int} (h0 : 0 ≤ a) (h1 : a < 18446744073709551616) : Ev (fun k => natural_Of.f k a) (lim a.toNat) := by
  have hL : Lm [a % 4294967296, a / 4294967296 % 4294967296] := Digs.cons (by omega) (by omega) (Digs.cons (by omega) (by omega) (Digs.nil _))
  have hv : val [a % 4294967296, a / 4294967296 % 4294967296] = a := by simp only [val, gval]; omega
  have h := trim_ev hL (by simp)
  rw [hv] at h
  have hf : fit a.toNat = (lim a.toNat, 0) := fit_ok (Nat.lt_of_lt_of_le (show a.toNat < np 2 by rw [np_two]; omega) (np_le (by decide)))
  rw [hf] at h
  unfold natural_Of.f
  exact Ev.map h (fun x => x.1)

/-! ### Valid -/
def okB (xs : List Int) : Bool := decide (xs.length ≤ 1024) && (xs.isEmpty || (xs.getD (xs.length - 1) 0 != 0))
theorem valid_eq (xs : List Int) : natural_Valid.f xs = some (okB xs) := by
  unfold natural_Valid.f okB
  by_cases h : (xs.length : Int) ≤ 1024
  · rw [if_pos h]
    have h' : xs.length ≤ 1024 := by omega
    cases hx : xs with
    | nil => simp
    | cons x ys =>
      rw [← hx]
      have hl : xs.length = ys.length + 1 := by rw [hx]; rfl
      have hw : wrap64 ((xs.length : Int) - 1) = (ys.length : Int) := by rw [hl]; exact w64_sub _ (by omega)
      rw [if_neg (by omega), hw, if_pos (by omega), if_pos (by omega), rd_nat]
      have e1 : xs.isEmpty = false := by rw [hx]; rfl
      rw [e1, hl, Nat.add_sub_cancel, decide_eq_true (by omega : ys.length + 1 ≤ 1024)]
      simp
  · rw [if_neg h]
    have h' : ¬ xs.length ≤ 1024 := by omega
    simp [h']
theorem okB_tr {xs : List Int} (h : okB xs = true) : xs.length ≤ 1024 ∧ Tr xs := by
  unfold okB at h
  simp only [Bool.and_eq_true, decide_eq_true_eq, Bool.or_eq_true, bne_iff_ne] at h
  refine ⟨h.1, fun y hy => ?_⟩
  rcases h.2 with h2 | h2
  · have : xs = [] := by simpa using h2
    rw [this] at hy; simp at hy
  · cases hx : xs.length with
    | zero =>
      have : xs = [] := List.eq_nil_of_length_eq_zero hx
      rw [this] at hy; simp at hy
    | succ n =>
      rw [getLast_getD hx] at hy
      injection hy with hy
      rw [hx, Nat.add_sub_cancel] at h2
      rw [← hy]; exact h2
theorem okB_lim (n : Nat) : okB (lim n) = decide ((lim n).length ≤ 1024) := by
  unfold okB
  cases hx : (lim n).length with
  | zero =>
    have : lim n = [] := List.eq_nil_of_length_eq_zero hx
    simp [this]
  | succ m =>
    have := tr_lim n _ (getLast_getD hx)
    rw [Nat.add_sub_cancel]
    have e : ((lim n).getD m 0 != 0) = true := by rw [bne_iff_ne]; exact this
    rw [e]; simp
theorem okB_val {xs : List Int} (h : okB xs = true) (hL : Lm xs) : xs = lim (val xs).toNat := (lim_val hL (okB_tr h).2).symm
theorem valid_lim {n : Nat} (h : (lim n).length ≤ 1024) : natural_Valid.f (lim n) = some true := by rw [valid_eq, okB_lim, decide_eq_true h]

/-! ### Mul -/
theorem mul_bound {a b : Int} (ha : 0 ≤ a ∧ a < 4294967296) (hb : 0 ≤ b ∧ b < 4294967296) : 0 ≤ a * b ∧ a * b ≤ 18446744065119617025 := by
  refine ⟨Int.mul_nonneg ha.1 hb.1, ?_⟩
  have h1 : a * b ≤ 4294967295 * b := Int.mul_le_mul_of_nonneg_right (by omega) hb.1
  have h2 : 4294967295 * b ≤ 4294967295 * 4294967295 := Int.mul_le_mul_of_nonneg_left (by omega) (by decide)
  omega
/-- The inner loop's round, in numbers. -/
theorem mul_round {out : List Int} {p : Nat} {c x : Int} (hp : p < out.length) :
    val (out.set p ((c + (x + out.getD p 0)) % 4294967296)) + gp 4294967296 (p + 1) * ((c + (x + out.getD p 0)) / 4294967296) = val out + gp 4294967296 p * (c + x) := by
  obtain ⟨s, hs⟩ : ∃ s, s = c + (x + out.getD p 0) := ⟨_, rfl⟩
  rw [← hs, val, gval_set _ _ _ _ hp, gp_succ, Int.mul_assoc, Int.add_assoc, ← Int.mul_add]
  have e : s % 4294967296 - out.getD p 0 + 4294967296 * (s / 4294967296) = c + x := by omega
  rw [e]; rfl
theorem mul_inner (a b : List Int) (ha : Lm a) (hb : Lm b) (hal : a.length < 4294967296) (hbl : b.length < 4294967296) (i : Nat) (hi : i < a.length) (r : List Int × Int) (out0 : List Int) (ho0 : out0.length = a.length + b.length)
    (hz : ∀ j, i + b.length ≤ j → out0.getD j 0 = 0)
    (next : ∀ out : List Int, out.length = a.length + b.length → Lm out → (∀ j, i + 1 + b.length ≤ j → out.getD j 0 = 0) → val out = val out0 + gp 4294967296 i * a.getD i 0 * val b → Ev (fun k => natural_Mul.l0 k a b out (a.length : Int) ((i + 1 : Nat) : Int)) r) :
    ∀ (d j : Nat) (out : List Int) (c : Int), b.length - j = d → j ≤ b.length → out.length = a.length + b.length → Lm out → 0 ≤ c → c < 4294967296 → (∀ q, i + b.length ≤ q → out.getD q 0 = 0) →
      val out + gp 4294967296 (i + j) * c = val out0 + gp 4294967296 i * a.getD i 0 * val (b.take j) →
      Ev (fun k => natural_Mul.l1 k a b out (i : Int) c (a.length : Int) (i : Int) (b.length : Int) (j : Int)) r := by
  intro d
  induction d with
  | zero =>
    intro j out c hd hj hol hL hc0 hc1 hq hv
    have hjb : j = b.length := by omega
    subst hjb
    rw [List.take_length] at hv
    have hb1 : i + b.length < 4611686018427387904 := by omega
    have hb2 : i < 4611686018427387904 := by omega
    have hcm : c % 4294967296 = c := by omega
    refine Ev.step (fun k => ?_) (next (out.set (i + b.length) c) (by simpa using hol) (hL.set _ hc0 hc1) ?_ ?_)
    · simp only [natural_Mul.l1]
      rw [if_neg (by omega), w64_addn i b.length hb1, if_pos (by omega), if_pos (by omega), w64_add i hb2, Int.toNat_natCast, hcm]
    · intro q hq'
      rw [List.getD_eq_getElem?_getD, List.getElem?_set_ne (by omega), ← List.getD_eq_getElem?_getD]
      exact hq q (by omega)
    · rw [← hv, val, gval_set _ _ _ _ (by omega), hq _ (Nat.le_refl _), Int.sub_zero]; rfl
  | succ d ih =>
    intro j out c hd hj hol hL hc0 hc1 hq hv
    have hA := Digs.get ha (by decide) i
    have hB := Digs.get hb (by decide) j
    have hO := Digs.get hL (by decide) (i + j)
    have hm := mul_bound hA hB
    have hb1 : i + j < 4611686018427387904 := by omega
    have hb2 : j < 4611686018427387904 := by omega
    obtain ⟨x, hx⟩ : ∃ x, x = a.getD i 0 * b.getD j 0 := ⟨_, rfl⟩
    rw [← hx] at hm
    have hs0 : 0 ≤ c + (x + out.getD (i + j) 0) := by omega
    have hs1 : c + (x + out.getD (i + j) 0) < 18446744073709551616 := by omega
    have hr := mul_round (out := out) (p := i + j) (c := c) (x := x) (by omega)
    obtain ⟨s, hs⟩ : ∃ s, s = c + (x + out.getD (i + j) 0) := ⟨_, rfl⟩
    have hsum : IntKind.u64.wrap (c + (IntKind.u64.wrap ((IntKind.u64.wrap ((IntKind.u64.wrap (rd a (i : Int))) * (IntKind.u64.wrap (rd b (j : Int))))) + (IntKind.u64.wrap (rd out ((i + j : Nat) : Int)))))) = s := by
      rw [rd_nat, rd_nat, rd_nat, u64w (x := a.getD i 0) (by omega) (by omega), u64w (x := b.getD j 0) (by omega) (by omega), u64w (x := out.getD (i + j) 0) (by omega) (by omega), ← hx,
        u64w (x := x) (by omega) (by omega), u64w (x := x + _) (by omega) (by omega), u64w (by omega) (by omega), hs]
    rw [← hs] at hr hs0 hs1
    refine Ev.step (fun k => ?_) (ih (j + 1) (out.set (i + j) (s % 4294967296)) (s / 4294967296) (by omega) (by omega) (by simpa using hol) (hL.set _ (by omega) (by omega)) (by omega) (by omega) ?_ ?_)
    · simp only [natural_Mul.l1]
      rw [if_pos (by omega), if_pos (by omega), if_pos (by omega), if_pos (by omega), if_pos (by omega), w64_addn i j hb1, if_pos (by omega), if_pos (by omega), hsum, w64_add j hb2, Int.toNat_natCast]
    · intro q hq'
      rw [List.getD_eq_getElem?_getD, List.getElem?_set_ne (by omega), ← List.getD_eq_getElem?_getD]
      exact hq q hq'
    · rw [← Nat.add_assoc, hr, Int.mul_add, ← Int.add_assoc, hv]
      have e1 : val (b.take (j + 1)) = val (b.take j) + gp 4294967296 j * b.getD j 0 := gval_take_succ _ b j (by omega)
      rw [e1, Int.mul_add, Int.add_assoc]
      congr 1
      rw [hx, gp_add]
      congr 1
      rw [Int.mul_assoc, Int.mul_assoc]
      congr 1
      rw [← Int.mul_assoc, ← Int.mul_assoc, Int.mul_comm (gp 4294967296 j)]
theorem mul_outer (a b : List Int) (ha : Lm a) (hb : Lm b) (hal : a.length < 4294967296) (hbl : b.length < 4294967296) :
    ∀ (d i : Nat) (out : List Int), a.length - i = d → i ≤ a.length → out.length = a.length + b.length → Lm out → (∀ j, i + b.length ≤ j → out.getD j 0 = 0) → val out = val (a.take i) * val b →
      Ev (fun k => natural_Mul.l0 k a b out (a.length : Int) (i : Int)) (fit (val a * val b).toNat) := by
  intro d
  induction d with
  | zero =>
    intro i out hd hi hol hL hq hv
    have hia : i = a.length := by omega
    subst hia
    rw [List.take_length] at hv
    have ht := trim_ev hL (show out.length < 1099511627776 by omega)
    rw [hv] at ht
    refine Ev.step (f := fun k => (natural_trim.f k out).bind fun z => some (z.1, z.2)) (fun k => ?_) ?_
    · simp only [natural_Mul.l0]
      rw [if_neg (by omega)]
    · exact Ev.map ht (fun z => (z.1, z.2))
  | succ d ih =>
    intro i out hd hi hol hL hq hv
    refine Ev.step (fun k => ?_) (mul_inner a b ha hb hal hbl i (by omega) _ out hol hq ?_ b.length 0 out 0 (by omega) (by omega) hol hL (by omega) (by omega) hq ?_)
    · simp only [natural_Mul.l0]
      rw [if_pos (by omega)]; rfl
    · intro out' hol' hL' hq' hv'
      refine ih (i + 1) out' (by omega) (by omega) hol' hL' hq' ?_
      have e1 : val (a.take (i + 1)) = val (a.take i) + gp 4294967296 i * a.getD i 0 := gval_take_succ _ a i (by omega)
      rw [hv', hv, e1, Int.add_mul]
    · simp [val, gval]
theorem mul_ev {a b : List Int} (ha : Lm a) (hb : Lm b) (va : okB a = true) (vb : okB b = true) : Ev (fun k => natural_Mul.f k a b) (fit (val a * val b).toNat) := by
  have hal := (okB_tr va).1
  have hbl := (okB_tr vb).1
  have hw : wrap64 ((a.length : Int) + (b.length : Int)) = ((a.length + b.length : Nat) : Int) := by rw [w64 (by omega) (by omega)]; omega
  unfold natural_Mul.f
  simp only [valid_eq, va, vb, Option.bind_some, if_true, Bool.not_true]
  refine Ev.step (fun k => ?_) (mul_outer a b ha hb (by omega) (by omega) a.length 0 (List.replicate (a.length + b.length) 0) (by omega) (by omega) (by simp) (Digs.replicate (by decide) _) ?_ ?_)
  · simp only [natural_Mul.j0]
    rw [if_neg (by decide), hw, if_pos (by omega), Int.toNat_natCast, if_pos (by omega)]; rfl
  · intro j _
    rw [List.getD_eq_getElem?_getD, List.getElem?_replicate]
    split <;> rfl
  · rw [val, gval_replicate]; simp [val, gval]
theorem mul_bad {a b : List Int} (h : (okB a && okB b) = false) : Ev (fun k => natural_Mul.f k a b) ([], 1) := by
  unfold natural_Mul.f
  simp only [valid_eq, Option.bind_some]
  have hs : ∀ k, natural_Mul.j0 (k + 1) a b true = some ([], 1) := fun k => by rw [natural_Mul.j0, if_pos rfl]
  cases ha : okB a
  · simp only [Bool.false_eq_true, if_false]; exact Ev.some_ hs
  · rw [ha] at h
    simp only [Bool.true_and] at h
    simp only [h, if_true, Bool.not_false]; exact Ev.some_ hs
end Go.Proofs.Ytpalpikenkkhlaa.Nm
