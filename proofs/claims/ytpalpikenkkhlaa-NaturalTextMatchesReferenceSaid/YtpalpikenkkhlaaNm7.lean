/- The text of a number, byte by byte; texts in order; powers of ten. -/
import Derived.Test.YtpalpikenkkhlaaNm4
set_option linter.unusedVariables false
namespace Go.Proofs.Ytpalpikenkkhlaa.Nm
open Go.RowKit Go.Proofs.YtpalpikenkkhlaaW.PrintWords Go.Proofs.YtpalpikenkkhlaaW.PrintMore Go.Proofs.Ytpalpikenkkhlaa.Nt

theorem bytesOf_strOfNums {xs : List Int} (h : ∀ x ∈ xs, 0 ≤ x ∧ x < 256) : bytesOf (strOfNums xs) = xs := by
  unfold bytesOf strOfNums
  simp only [List.map_map]
  conv => rhs; rw [← List.map_id xs]
  apply List.map_congr_left
  intro x hx
  have := h x hx
  simp only [Function.comp, id]
  have e : (UInt8.ofNat x.toNat).toNat = x.toNat := by
    rw [UInt8.toNat_ofNat']
    exact Nat.mod_eq_of_lt (by omega)
  rw [e]; omega
theorem d10_dec (n : Nat) : D10 (dec n) := digs_digs 10 (by decide) n
theorem tr_dec (n : Nat) : Tr (dec n) := digs_tr 10 (by decide) n
theorem dec_nil (n : Nat) : dec n = [] ↔ n = 0 := digs_nil_iff _ _ n
theorem dl_text (n : Nat) : dl (text n) = if n = 0 then [0] else (dec n).reverse := by
  unfold text
  by_cases h : n = 0
  · rw [if_pos h, if_pos h]; rfl
  · rw [if_neg h, if_neg h]
    unfold dl
    rw [bytesOf_strOfNums]
    · unfold asc
      rw [← List.map_reverse, List.map_map]
      conv => rhs; rw [← List.map_id (dec n).reverse]
      apply List.map_congr_left
      intro x _
      simp only [Function.comp, id]
      omega
    · intro x hx
      rw [List.mem_reverse] at hx
      unfold asc at hx
      obtain ⟨d, hd, rfl⟩ := List.mem_map.1 hx
      have := d10_dec n d hd
      omega
theorem text_size (n : Nat) : (text n).size = if n = 0 then 1 else (dec n).length := by
  rw [← dl_length, dl_text]
  by_cases h : n = 0
  · rw [if_pos h, if_pos h]; rfl
  · rw [if_neg h, if_neg h, List.length_reverse]
theorem text_pv_n (n : Nat) : pv (text n) (text n).size = n := by
  unfold pv
  rw [List.take_of_length_le (by rw [dl_length]; exact Nat.le_refl _), dl_text]
  by_cases h : n = 0
  · rw [if_pos h, h]; rfl
  · rw [if_neg h, List.reverse_reverse, gval_dec]
theorem text_good (n : Nat) : Good (text n) := by
  have hsz := text_size n
  have hdl := dl_text n
  have hall : D10 (dl (text n)) := by
    rw [hdl]
    by_cases h : n = 0
    · rw [if_pos h]; exact Digs.cons (by decide) (by decide) (Digs.nil _)
    · rw [if_neg h]; exact D10.reverse (d10_dec n)
  refine ⟨?_, ?_, ?_⟩
  · rw [hsz]
    by_cases h : n = 0
    · rw [if_pos h]; decide
    · rw [if_neg h]
      intro h0
      exact h ((dec_nil n).1 (List.eq_nil_of_length_eq_zero h0))
  · by_cases h : n = 0
    · left; rw [hsz, if_pos h]
    · right
      rw [if_neg h] at hsz hdl
      have hp : (dec n).length ≠ 0 := fun h0 => h ((dec_nil n).1 (List.eq_nil_of_length_eq_zero h0))
      have hg := bt_get (text n) 0 (by omega)
      obtain ⟨m, hm⟩ : ∃ m, (dec n).length = m + 1 := ⟨(dec n).length - 1, by omega⟩
      have ht := tr_dec n _ (getLast_getD hm)
      have e : (dl (text n)).getD 0 0 = (dec n).getD m 0 := by
        rw [hdl, List.getD_eq_getElem?_getD, List.getElem?_reverse (by omega), hm, List.getD_eq_getElem?_getD]
        simp
      rw [e] at hg
      intro h48
      rw [show ((0 : Nat) : Int) = 0 from rfl, h48] at hg
      exact ht hg
  · intro i hi
    have := Digs.get hall (by decide) i
    rw [bt_get _ _ hi] at this
    omega
theorem dec_len_le {n k : Nat} (h : n < 10 ^ k) : (dec n).length ≤ k := digs_length_le 10 (by decide) k n h
theorem text_size_le {n : Nat} (h : (lim n).length ≤ 20) : (text n).size ≤ 200 := by
  rw [lim_len_iff] at h
  have h2 : np 20 ≤ 10 ^ 200 := by
    unfold np
    have : (10 : Nat) ^ 200 = (10 ^ 10) ^ 20 := by rw [← Nat.pow_mul]
    rw [this]
    exact Nat.pow_le_pow_left (by decide) 20
  rw [text_size]
  split
  · decide
  · exact dec_len_le (Nat.lt_of_lt_of_le h h2)

/-! ### order of texts -/
theorem size_lt {m n : Nat} (h : (text m).size < (text n).size) : m < n := by
  rcases Nat.lt_or_ge m n with h1 | h1
  · exact h1
  · exfalso
    rw [text_size, text_size] at h
    by_cases hn : n = 0
    · rw [if_pos hn] at h
      split at h
      · omega
      · rename_i hm
        have : (dec m).length ≠ 0 := fun h0 => hm ((dec_nil m).1 (List.eq_nil_of_length_eq_zero h0))
        omega
    · rw [if_neg (show ¬ m = 0 by omega), if_neg hn] at h
      have := (digs_length_iff 10 (by decide) (dec m).length m).1 (Nat.le_refl _)
      have := digs_length_le 10 (by decide) (dec m).length n (Nat.lt_of_le_of_lt h1 this)
      have e : (digs 10 (by decide) n).length = (dec n).length := rfl
      omega
theorem bytesLess_val : ∀ (xs ys : List UInt8), xs.length = ys.length → (∀ x ∈ xs, 48 ≤ x.toNat ∧ x.toNat ≤ 57) → (∀ y ∈ ys, 48 ≤ y.toNat ∧ y.toNat ≤ 57) →
    Op.bytesLess xs ys = decide (gval 10 (xs.map (fun b => (b.toNat : Int) - 48)).reverse < gval 10 (ys.map (fun b => (b.toNat : Int) - 48)).reverse)
  | [], [], _, _, _ => by simp [Op.bytesLess]
  | [], _ :: _, h, _, _ => by simp at h
  | _ :: _, [], h, _, _ => by simp at h
  | x :: xs, y :: ys, h, hx, hy => by
    have hl : xs.length = ys.length := by simpa using h
    have ih := bytesLess_val xs ys hl (fun z hz => hx z (List.mem_cons_of_mem _ hz)) (fun z hz => hy z (List.mem_cons_of_mem _ hz))
    have b1 : ∀ (zs : List UInt8), (∀ z ∈ zs, 48 ≤ z.toNat ∧ z.toNat ≤ 57) → 0 ≤ gval 10 (zs.map (fun b => (b.toNat : Int) - 48)).reverse ∧ gval 10 (zs.map (fun b => (b.toNat : Int) - 48)).reverse < gp 10 zs.length := by
      intro zs hz
      have hD : D10 (zs.map (fun b => (b.toNat : Int) - 48)).reverse := D10.reverse (fun v hv => by
        obtain ⟨z, hz', rfl⟩ := List.mem_map.1 hv
        have := hz z hz'
        omega)
      have h2 := gval_lt (b := 10) (by decide) hD
      rw [List.length_reverse, List.length_map] at h2
      exact ⟨gval_nonneg (by decide) hD, h2⟩
    have bx := b1 xs (fun z hz => hx z (List.mem_cons_of_mem _ hz))
    have byy := b1 ys (fun z hz => hy z (List.mem_cons_of_mem _ hz))
    have cx := hx x (List.mem_cons_self)
    have cy := hy y (List.mem_cons_self)
    simp only [List.map_cons, List.reverse_cons, gval_append, List.length_reverse, List.length_map, gval, Int.mul_zero, Int.add_zero]
    obtain ⟨P, hP⟩ : ∃ P, P = gp 10 xs.length := ⟨_, rfl⟩
    have hPy : gp 10 ys.length = P := by rw [hP, hl]
    rw [hPy] at byy ⊢
    rw [← hP] at bx ⊢
    have hP0 : 0 < P := by rw [hP]; exact gp_pos (by decide) _
    unfold Op.bytesLess
    rw [ih]
    obtain ⟨X, hX⟩ : ∃ X, X = gval 10 (xs.map (fun b => (b.toNat : Int) - 48)).reverse := ⟨_, rfl⟩
    obtain ⟨Y, hY⟩ : ∃ Y, Y = gval 10 (ys.map (fun b => (b.toNat : Int) - 48)).reverse := ⟨_, rfl⟩
    rw [← hX] at bx ⊢
    rw [← hY] at byy ⊢
    rcases Nat.lt_trichotomy x.toNat y.toNat with hc | hc | hc
    · have h1 : decide (x < y) = true := decide_eq_true (UInt8.lt_iff_toNat_lt.2 hc)
      have h2 : P * ((x.toNat : Int) - 48 + 1) ≤ P * ((y.toNat : Int) - 48) := Int.mul_le_mul_of_nonneg_left (by omega) (by omega)
      rw [Int.mul_add, Int.mul_one] at h2
      rw [h1, Bool.true_or, decide_eq_true (by omega)]
    · have h1 : x = y := UInt8.toNat_inj.1 hc
      subst h1
      have h2 : decide (x < x) = false := decide_eq_false (fun h => by rw [UInt8.lt_iff_toNat_lt] at h; omega)
      rw [h2, Bool.false_or, beq_self_eq_true, Bool.true_and]
      rw [decide_eq_decide]
      constructor <;> intro _ <;> omega
    · have h1 : decide (x < y) = false := decide_eq_false (fun h => by rw [UInt8.lt_iff_toNat_lt] at h; omega)
      have h2 : (x == y) = false := by rw [beq_eq_false_iff_ne]; intro h; rw [h] at hc; omega
      have h3 : P * ((y.toNat : Int) - 48 + 1) ≤ P * ((x.toNat : Int) - 48) := Int.mul_le_mul_of_nonneg_left (by omega) (by omega)
      rw [Int.mul_add, Int.mul_one] at h3
      rw [h1, h2, Bool.false_or, Bool.false_and, decide_eq_false (by omega)]
theorem text_less {m n : Nat} (h : (text m).size = (text n).size) : Op.bytesLess (text m).toList (text n).toList = decide (m < n) := by
  have key : ∀ k, (∀ x ∈ (text k).toList, 48 ≤ x.toNat ∧ x.toNat ≤ 57) ∧ gval 10 ((text k).toList.map (fun b => (b.toNat : Int) - 48)).reverse = k := by
    intro k
    have e : (text k).toList.map (fun b => (b.toNat : Int) - 48) = dl (text k) := by
      rw [Go.ByteArray.toList_eq]
      unfold dl bytesOf
      rw [List.map_map]; rfl
    constructor
    · intro x hx
      obtain ⟨i, hi, rfl⟩ := List.mem_iff_getElem.1 hx
      have hi' : i < (text k).size := by
        rw [Go.ByteArray.toList_eq, data_length] at hi
        exact hi
      have hg := bt_get (text k) i hi'
      have ha := (text_good k).2.2 i hi'
      rw [← e, List.getD_eq_getElem?_getD, List.getElem?_map, List.getElem?_eq_getElem hi] at hg
      simp only [Option.map_some, Option.getD_some] at hg
      omega
    · rw [e]
      have := text_pv_n k
      unfold pv at this
      rw [List.take_of_length_le (by rw [dl_length]; exact Nat.le_refl _)] at this
      exact this
  rw [bytesLess_val _ _ (by rw [Go.ByteArray.toList_eq, Go.ByteArray.toList_eq, data_length, data_length]; exact h) (key m).1 (key n).1, (key m).2, (key n).2]
  rw [decide_eq_decide]
  omega
theorem text_inj {m n : Nat} (h : text m = text n) : m = n := by
  have h1 := text_pv_n m
  rw [h, text_pv_n] at h1
  omega
theorem toList_inj {s t : ByteArray} (h : s.toList = t.toList) : s = t := by
  rw [Go.ByteArray.toList_eq, Go.ByteArray.toList_eq] at h
  cases s; cases t
  congr 1
  exact Array.toList_inj.1 h

/-! ### powers of ten -/
theorem dec_ten (k : Nat) : dec (10 ^ k) = List.replicate k 0 ++ [1] := by
  have hD : D10 (List.replicate k 0 ++ [1]) := Digs.snoc (Digs.replicate (by decide) _) (by decide) (by decide)
  have hT : Tr (List.replicate k 0 ++ [1]) := fun y hy => by
    rw [List.getLast?_append] at hy; simp at hy; omega
  have hv : gval 10 (List.replicate k 0 ++ [1]) = ((10 ^ k : Nat) : Int) := by
    rw [gval_append, gval_replicate, List.length_replicate]
    simp only [gval, Int.mul_zero, Int.add_zero, Int.mul_one, Int.zero_add]
    unfold gp; exact (Int.natCast_pow 10 k).symm
  have := dec_gval hD hT
  rw [hv, Int.toNat_natCast] at this
  exact this
theorem gval_nines (k : Nat) : gval 10 (List.replicate k 9) = gp 10 k - 1 := by
  induction k with
  | zero => rw [gp_zero]; rfl
  | succ k ih =>
    rw [List.replicate_succ, gval, ih, gp_succ]
    omega
theorem dec_nines (k : Nat) : dec (10 ^ k - 1) = List.replicate k 9 := by
  have hD : D10 (List.replicate k 9) := fun x hx => by rw [List.mem_replicate] at hx; omega
  have hT : Tr (List.replicate k 9) := fun y hy => by
    have := List.mem_of_getLast? hy
    rw [List.mem_replicate] at this; omega
  have h := dec_gval hD hT
  have e : (gval 10 (List.replicate k 9)).toNat = 10 ^ k - 1 := by
    rw [gval_nines]
    have : gp 10 k = ((10 ^ k : Nat) : Int) := by unfold gp; exact (Int.natCast_pow 10 k).symm
    rw [this]
    have := Nat.pow_pos (n := k) (show 0 < 10 by decide)
    omega
  rw [e] at h
  exact h
end Go.Proofs.Ytpalpikenkkhlaa.Nm
