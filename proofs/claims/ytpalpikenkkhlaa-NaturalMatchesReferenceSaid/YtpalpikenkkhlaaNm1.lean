/- Lists of digits to a base and the numbers that they tell: plain lemmas, no program in sight. -/
import Derived.Test.YtpalpikenkkhlaaNtW
import Derived.Laws.BitsLemmas
set_option linter.unusedVariables false
namespace Go.Proofs.Ytpalpikenkkhlaa.Nm
open Go.RowKit Go.Proofs.YtpalpikenkkhlaaW.PrintWords Go.Proofs.YtpalpikenkkhlaaW.PrintMore

/-- The value of a list of digits to the base b, the least first. -/
def gval (b : Int) : List Int → Int
  | [] => 0
  | x :: xs => x + b * gval b xs
/-- All digits are digits. -/
def Digs (b : Int) (l : List Int) : Prop := ∀ x ∈ l, 0 ≤ x ∧ x < b
/-- No zero stands last. -/
def Tr (l : List Int) : Prop := ∀ y, l.getLast? = some y → y ≠ 0

theorem gval_nil (b : Int) : gval b [] = 0 := rfl
theorem gval_cons (b x : Int) (xs : List Int) : gval b (x :: xs) = x + b * gval b xs := rfl
/-- A power of the base. -/
@[irreducible] def gp (b : Int) (n : Nat) : Int := b ^ n
theorem gp_zero (b : Int) : gp b 0 = 1 := by unfold gp; exact Int.pow_zero _
theorem gp_succ (b : Int) (n : Nat) : gp b (n + 1) = gp b n * b := by unfold gp; exact Int.pow_succ _ _
theorem gp_add (b : Int) (m n : Nat) : gp b (m + n) = gp b m * gp b n := by unfold gp; exact Int.pow_add _ _ _
theorem gp_pos {b : Int} (hb : 0 < b) (n : Nat) : 0 < gp b n := by unfold gp; exact Int.pow_pos hb
theorem gp_one (b : Int) : gp b 1 = b := by rw [gp_succ, gp_zero, Int.one_mul]
theorem gval_append (b : Int) (xs ys : List Int) : gval b (xs ++ ys) = gval b xs + gp b xs.length * gval b ys := by
  induction xs with
  | nil => simp [gval, gp_zero]
  | cons x xs ih =>
    simp only [List.cons_append, gval, ih, List.length_cons, gp_succ]
    rw [Int.mul_add, Int.add_assoc, ← Int.mul_assoc, Int.mul_comm b (gp b xs.length)]
theorem gval_replicate (b : Int) (n : Nat) : gval b (List.replicate n 0) = 0 := by
  induction n with
  | zero => rfl
  | succ n ih => simp [List.replicate_succ, gval, ih]
theorem gval_split (b : Int) (xs : List Int) (i : Nat) (h : i ≤ xs.length) : gval b xs = gval b (xs.take i) + gp b i * gval b (xs.drop i) := by
  have := gval_append b (xs.take i) (xs.drop i)
  rw [List.take_append_drop, List.length_take, Nat.min_eq_left h] at this
  exact this
theorem gval_take_succ (b : Int) (xs : List Int) (i : Nat) (h : i < xs.length) : gval b (xs.take (i + 1)) = gval b (xs.take i) + gp b i * xs.getD i 0 := by
  rw [List.take_succ_eq_append_getElem h, gval_append, List.length_take, Nat.min_eq_left (Nat.le_of_lt h)]
  simp [gval, List.getD_eq_getElem?_getD, List.getElem?_eq_getElem h]
theorem gval_take_all (b : Int) (xs : List Int) (i : Nat) (h : xs.length ≤ i) : gval b (xs.take i) = gval b xs := by rw [List.take_of_length_le h]
theorem gval_take_beyond (b : Int) (xs : List Int) (i : Nat) : gval b (xs.take (i + 1)) = gval b (xs.take i) + gp b i * xs.getD i 0 := by
  rcases Nat.lt_or_ge i xs.length with h | h
  · exact gval_take_succ b xs i h
  · rw [List.take_of_length_le h, List.take_of_length_le (by omega), List.getD_eq_getElem?_getD, List.getElem?_eq_none h]; simp
theorem gval_drop_get (b : Int) (xs : List Int) (i : Nat) : gval b (xs.drop i) = xs.getD i 0 + b * gval b (xs.drop (i + 1)) := by
  rcases Nat.lt_or_ge i xs.length with h | h
  · rw [List.drop_eq_getElem_cons h, gval, List.getD_eq_getElem?_getD, List.getElem?_eq_getElem h]; rfl
  · rw [List.drop_eq_nil_of_le h, List.drop_eq_nil_of_le (by omega), List.getD_eq_getElem?_getD, List.getElem?_eq_none h]; simp [gval]
theorem gval_set (b v : Int) (xs : List Int) (i : Nat) (h : i < xs.length) : gval b (xs.set i v) = gval b xs + gp b i * (v - xs.getD i 0) := by
  have e : xs.set i v = xs.take i ++ v :: xs.drop (i + 1) := by rw [List.set_eq_take_append_cons_drop, if_pos h]
  have e2 := gval_split b xs i (Nat.le_of_lt h)
  rw [gval_drop_get] at e2
  rw [e, gval_append, List.length_take, Nat.min_eq_left (Nat.le_of_lt h), gval, e2]
  have : gp b i * (v + b * gval b (xs.drop (i + 1))) = gp b i * v + gp b i * (b * gval b (xs.drop (i + 1))) := Int.mul_add _ _ _
  have h2 : gp b i * (xs.getD i 0 + b * gval b (xs.drop (i + 1))) = gp b i * xs.getD i 0 + gp b i * (b * gval b (xs.drop (i + 1))) := Int.mul_add _ _ _
  have h3 : gp b i * (v - xs.getD i 0) = gp b i * v - gp b i * xs.getD i 0 := Int.mul_sub _ _ _
  omega

theorem Digs.nil (b : Int) : Digs b [] := fun x h => by simp at h
theorem Digs.cons {b x : Int} {xs : List Int} (h0 : 0 ≤ x) (h1 : x < b) (h : Digs b xs) : Digs b (x :: xs) := by
  intro y hy
  rcases List.mem_cons.1 hy with rfl | hy
  · exact ⟨h0, h1⟩
  · exact h y hy
theorem Digs.tail {b x : Int} {xs : List Int} (h : Digs b (x :: xs)) : Digs b xs := fun y hy => h y (List.mem_cons_of_mem _ hy)
theorem Digs.take {b : Int} {xs : List Int} (h : Digs b xs) (i : Nat) : Digs b (xs.take i) := fun y hy => h y (List.mem_of_mem_take hy)
theorem Digs.drop {b : Int} {xs : List Int} (h : Digs b xs) (i : Nat) : Digs b (xs.drop i) := fun y hy => h y (List.mem_of_mem_drop hy)
theorem Digs.append {b : Int} {xs ys : List Int} (h : Digs b xs) (k : Digs b ys) : Digs b (xs ++ ys) := fun y hy => (List.mem_append.1 hy).elim (h y) (k y)
theorem Digs.snoc {b x : Int} {xs : List Int} (h : Digs b xs) (h0 : 0 ≤ x) (h1 : x < b) : Digs b (xs ++ [x]) := h.append (Digs.cons h0 h1 (Digs.nil b))
theorem Digs.replicate {b : Int} (hb : 0 < b) (n : Nat) : Digs b (List.replicate n 0) := fun y hy => by
  rw [List.mem_replicate] at hy
  omega
theorem Digs.set {b v : Int} {xs : List Int} (h : Digs b xs) (i : Nat) (h0 : 0 ≤ v) (h1 : v < b) : Digs b (xs.set i v) := fun y hy => by
  rcases List.mem_or_eq_of_mem_set hy with hy | rfl
  · exact h y hy
  · exact ⟨h0, h1⟩
theorem Digs.get {b : Int} {xs : List Int} (h : Digs b xs) (hb : 0 < b) (i : Nat) : 0 ≤ xs.getD i 0 ∧ xs.getD i 0 < b := by
  rw [List.getD_eq_getElem?_getD]
  rcases Nat.lt_or_ge i xs.length with hi | hi
  · rw [List.getElem?_eq_getElem hi]; exact h _ (List.getElem_mem hi)
  · rw [List.getElem?_eq_none hi]; exact ⟨Int.le_refl _, hb⟩

theorem gval_nonneg {b : Int} (hb : 0 < b) : ∀ {xs : List Int}, Digs b xs → 0 ≤ gval b xs
  | [], _ => Int.le_refl _
  | x :: xs, h => by
    have h1 := (h x (List.mem_cons_self)).1
    have h2 := gval_nonneg hb h.tail
    have := Int.mul_nonneg (Int.le_of_lt hb) h2
    simp only [gval]; omega
theorem gval_lt {b : Int} (hb : 0 < b) : ∀ {xs : List Int}, Digs b xs → gval b xs < gp b xs.length
  | [], _ => by simp [gval, gp_zero]
  | x :: xs, h => by
    have h1 := (h x (List.mem_cons_self)).2
    have h2 := gval_lt hb h.tail
    simp only [gval, List.length_cons, gp_succ]
    have h3 : b * (gval b xs + 1) ≤ b * gp b xs.length := Int.mul_le_mul_of_nonneg_left (by omega) (Int.le_of_lt hb)
    rw [Int.mul_add, Int.mul_one] at h3
    rw [Int.mul_comm (gp b xs.length) b]
    omega

/-- The digits of a number to a base, the least first, no zero last. -/
def digs (b : Nat) (hb : 2 ≤ b) (n : Nat) : List Int := if h : n = 0 then [] else ((n % b : Nat) : Int) :: digs b hb (n / b)
termination_by n
decreasing_by exact Nat.div_lt_self (Nat.pos_of_ne_zero h) hb

theorem digs_zero (b : Nat) (hb : 2 ≤ b) : digs b hb 0 = [] := by rw [digs]; simp
theorem digs_pos (b : Nat) (hb : 2 ≤ b) (n : Nat) (h : n ≠ 0) : digs b hb n = ((n % b : Nat) : Int) :: digs b hb (n / b) := by rw [digs, dif_neg h]
theorem gval_digs (b : Nat) (hb : 2 ≤ b) (n : Nat) : gval (b : Int) (digs b hb n) = n := by
  induction n using Nat.strongRecOn with
  | ind n ih =>
    by_cases h : n = 0
    · subst h; rw [digs_zero]; rfl
    · rw [digs_pos b hb n h, gval, ih _ (Nat.div_lt_self (Nat.pos_of_ne_zero h) hb)]
      have := Nat.mod_add_div n b
      have h2 : ((n % b + b * (n / b) : Nat) : Int) = n := by rw [this]
      push_cast at h2 ⊢
      exact h2
theorem digs_digs (b : Nat) (hb : 2 ≤ b) (n : Nat) : Digs (b : Int) (digs b hb n) := by
  induction n using Nat.strongRecOn with
  | ind n ih =>
    by_cases h : n = 0
    · subst h; rw [digs_zero]; exact Digs.nil _
    · rw [digs_pos b hb n h]
      have := Nat.mod_lt n (show 0 < b by omega)
      exact Digs.cons (by omega) (by omega) (ih _ (Nat.div_lt_self (Nat.pos_of_ne_zero h) hb))
theorem digs_nil_iff (b : Nat) (hb : 2 ≤ b) (n : Nat) : digs b hb n = [] ↔ n = 0 := by
  constructor
  · intro h
    by_cases h0 : n = 0
    · exact h0
    · rw [digs_pos b hb n h0] at h; simp at h
  · rintro rfl; exact digs_zero b hb
theorem digs_length_le (b : Nat) (hb : 2 ≤ b) : ∀ (k n : Nat), n < b ^ k → (digs b hb n).length ≤ k
  | 0, n, h => by
    have : n = 0 := by simpa using h
    subst this; rw [digs_zero]; simp
  | k + 1, n, h => by
    by_cases h0 : n = 0
    · subst h0; rw [digs_zero]; simp
    · rw [digs_pos b hb n h0, List.length_cons]
      have : n / b < b ^ k := by rw [Nat.div_lt_iff_lt_mul (by omega)]; rw [Nat.pow_succ] at h; exact h
      have := digs_length_le b hb k _ this
      omega
theorem digs_length_ge (b : Nat) (hb : 2 ≤ b) : ∀ (k n : Nat), b ^ k ≤ n → k < (digs b hb n).length
  | 0, n, h => by
    have : n ≠ 0 := by intro h0; subst h0; simp at h
    rw [digs_pos b hb n this]; simp
  | k + 1, n, h => by
    have hpos : 0 < b ^ (k + 1) := Nat.pow_pos (by omega)
    have h0 : n ≠ 0 := by omega
    rw [digs_pos b hb n h0, List.length_cons]
    have : b ^ k ≤ n / b := by rw [Nat.le_div_iff_mul_le (by omega)]; rw [Nat.pow_succ] at h; exact h
    have := digs_length_ge b hb k _ this
    omega
theorem digs_length_iff (b : Nat) (hb : 2 ≤ b) (k n : Nat) : (digs b hb n).length ≤ k ↔ n < b ^ k := by
  constructor
  · intro h
    rcases Nat.lt_or_ge n (b ^ k) with h1 | h1
    · exact h1
    · have := digs_length_ge b hb k n h1; omega
  · exact digs_length_le b hb k n
theorem Tr.tail {x y : Int} {xs : List Int} (h : Tr (x :: y :: xs)) : Tr (y :: xs) := fun z hz => h z (by rw [List.getLast?_cons_cons]; exact hz)
theorem digs_gval (b : Nat) (hb : 2 ≤ b) : ∀ (xs : List Int), Digs (b : Int) xs → Tr xs → digs b hb (gval (b : Int) xs).toNat = xs
  | [], _, _ => by simp [gval, digs_zero]
  | [x], h, t => by
    have h1 := h x (List.mem_cons_self)
    have h0 : x ≠ 0 := t x (by simp)
    have e : (gval (b : Int) [x]).toNat = x.toNat := by simp [gval]
    rw [e, digs_pos b hb _ (by omega), Nat.mod_eq_of_lt (by omega), Nat.div_eq_of_lt (by omega), digs_zero]
    rw [Int.toNat_of_nonneg h1.1]
  | x :: y :: xs, h, t => by
    have h1 := h x (List.mem_cons_self)
    have ih := digs_gval b hb (y :: xs) h.tail t.tail
    have hn := gval_nonneg (b := (b : Int)) (by omega) h.tail
    obtain ⟨v, hv⟩ := Int.eq_ofNat_of_zero_le hn
    rw [hv] at ih
    have hv0 : v ≠ 0 := by
      intro h0; subst h0
      simp [digs_zero] at ih
    obtain ⟨u, hu⟩ := Int.eq_ofNat_of_zero_le h1.1
    have hub : u < b := by omega
    have e : (gval (b : Int) (x :: y :: xs)).toNat = u + b * v := by
      rw [gval, hv, hu]
      have : ((u : Int) + (b : Int) * (v : Int)) = ((u + b * v : Nat) : Int) := by push_cast; rfl
      rw [this, Int.toNat_natCast]
    have hbv : 0 < b * v := Nat.mul_pos (by omega) (by omega)
    rw [e, digs_pos b hb _ (by omega), Nat.add_mul_mod_self_left, Nat.mod_eq_of_lt hub, Nat.add_mul_div_left _ _ (show 0 < b by omega), Nat.div_eq_of_lt hub, Nat.zero_add]
    rw [Int.toNat_natCast] at ih
    rw [ih, hu]
theorem digs_tr (b : Nat) (hb : 2 ≤ b) (n : Nat) : Tr (digs b hb n) := by
  induction n using Nat.strongRecOn with
  | ind n ih =>
    by_cases h : n = 0
    · subst h; rw [digs_zero]; intro y hy; simp at hy
    · rw [digs_pos b hb n h]
      have i := ih _ (Nat.div_lt_self (Nat.pos_of_ne_zero h) hb)
      intro z hz
      cases hd : digs b hb (n / b) with
      | nil =>
        have h0 := (digs_nil_iff b hb _).1 hd
        rw [hd] at hz
        simp at hz
        have : n < b := by
          rcases Nat.lt_or_ge n b with h1 | h1
          · exact h1
          · have := Nat.div_pos h1 (by omega); omega
        rw [← Int.natCast_emod, Nat.mod_eq_of_lt this] at hz
        omega
      | cons y ys =>
        rw [hd] at hz i
        rw [List.getLast?_cons_cons] at hz
        exact i z hz

/-! ### wraps -/
theorem w64 {x : Int} (h0 : -9223372036854775808 ≤ x) (h1 : x ≤ 9223372036854775807) : wrap64 x = x := by unfold wrap64; omega
theorem u64w {x : Int} (h0 : 0 ≤ x) (h1 : x < 18446744073709551616) : IntKind.u64.wrap x = x := by
  have e : IntKind.u64.wrap x = x % 18446744073709551616 := by simp [IntKind.wrap, IntKind.bits, IntKind.signed]
  rw [e]; omega
theorem u64mod (x : Int) : IntKind.u64.wrap x = x % 18446744073709551616 := by simp [IntKind.wrap, IntKind.bits, IntKind.signed]
theorem w64_add (n : Nat) (h : n < 4611686018427387904) : wrap64 ((n : Int) + 1) = ((n + 1 : Nat) : Int) := by rw [w64 (by omega) (by omega)]; omega
theorem w64_sub (n : Nat) (h : n < 4611686018427387904) : wrap64 (((n + 1 : Nat) : Int) - 1) = (n : Int) := by rw [w64 (by omega) (by omega)]; omega
theorem w64_addn (i j : Nat) (h : i + j < 4611686018427387904) : wrap64 ((i : Int) + (j : Int)) = ((i + j : Nat) : Int) := by rw [w64 (by omega) (by omega)]; omega
theorem w64_subn (i j : Nat) (h : i < 4611686018427387904) (hj : j ≤ i) : wrap64 ((i : Int) - (j : Int)) = ((i - j : Nat) : Int) := by rw [w64 (by omega) (by omega)]; omega
theorem rd_nat (xs : List Int) (n : Nat) : rd xs (n : Int) = xs.getD n 0 := by unfold rd; rw [Int.toNat_natCast]
end Go.Proofs.Ytpalpikenkkhlaa.Nm
