/- NaturalPowers, the plain law. -/
import Derived.Test.YtpalpikenkkhlaaNm5
import Derived.Test.YtpalpikenkkhlaaNm7
import Derived.Test.YtpalpikenkkhlaaLwPowers
set_option linter.unusedVariables false
namespace Go.Proofs.Ytpalpikenkkhlaa.Nm
open Go.RowKit Go.Proofs.YtpalpikenkkhlaaW.PrintWords Go.Proofs.YtpalpikenkkhlaaW.PrintMore Go.Proofs.Ytpalpikenkkhlaa.Nt

theorem text_ten_size (n : Nat) : (text (10 ^ n)).size = n + 1 := by
  have hp : 10 ^ n ≠ 0 := Nat.ne_of_gt (Nat.pow_pos (by decide))
  rw [text_size, if_neg hp, dec_ten]; simp
theorem text_ten_zero (n : Nat) : bt (text (10 ^ n)) 0 = 49 := by
  have hp : 10 ^ n ≠ 0 := Nat.ne_of_gt (Nat.pow_pos (by decide))
  have h := bt_get (text (10 ^ n)) 0 (by rw [text_ten_size]; omega)
  rw [dl_text, if_neg hp, dec_ten] at h
  simp at h
  omega
theorem text_ten_succ (n i : Nat) (h : i < n) : bt (text (10 ^ n)) ((i + 1 : Nat) : Int) = 48 := by
  have hp : 10 ^ n ≠ 0 := Nat.ne_of_gt (Nat.pow_pos (by decide))
  have hg := bt_get (text (10 ^ n)) (i + 1) (by rw [text_ten_size]; omega)
  rw [dl_text, if_neg hp, dec_ten, List.reverse_append] at hg
  have e : ([1].reverse ++ (List.replicate n (0 : Int)).reverse).getD (i + 1) 0 = 0 := by
    rw [List.reverse_replicate, List.getD_eq_getElem?_getD]
    simp [h]
  rw [e] at hg
  omega
theorem text_nines_size (n : Nat) (h : n ≠ 0) : (text (10 ^ n - 1)).size = n := by
  have hp : 10 ^ n - 1 ≠ 0 := by
    obtain ⟨m, rfl⟩ : ∃ m, n = m + 1 := ⟨n - 1, by omega⟩
    have := Nat.pow_pos (n := m) (show 0 < 10 by decide)
    rw [Nat.pow_succ]; omega
  rw [text_size, if_neg hp, dec_nines]; simp
theorem text_nines (n i : Nat) (h : i < n) : bt (text (10 ^ n - 1)) (i : Int) = 57 := by
  have hp : 10 ^ n - 1 ≠ 0 := by
    obtain ⟨m, rfl⟩ : ∃ m, n = m + 1 := ⟨n - 1, by omega⟩
    have := Nat.pow_pos (n := m) (show 0 < 10 by decide)
    rw [Nat.pow_succ]; omega
  have hg := bt_get (text (10 ^ n - 1)) i (by rw [text_nines_size _ (by omega)]; exact h)
  rw [dl_text, if_neg hp, dec_nines, List.reverse_replicate] at hg
  have e : (List.replicate n (9 : Int)).getD i 0 = 9 := by
    rw [List.getD_eq_getElem?_getD]
    simp [h]
  rw [e] at hg
  omega
theorem ten_small (n : Nat) (h : n ≤ 201) : (lim (10 ^ n)).length ≤ 1000 := by
  rw [lim_len_iff]
  have h1 : 10 ^ n ≤ np n := by unfold np; exact Nat.pow_le_pow_left (by decide) n
  have h2 : np n < np 1000 := by
    obtain ⟨d, hd⟩ : ∃ d, 1000 = n + (d + 1) := ⟨1000 - n - 1, by omega⟩
    rw [hd, np_add, np_succ]
    have p1 := np_pos n
    have p2 := np_pos d
    have : np n * 1 < np n * (np d * 4294967296) := Nat.mul_lt_mul_of_pos_left (by omega) p1
    omega
  omega

theorem powers_l1 (n : Nat) (hn : n ≤ 200) : ∀ (d i : Nat), n = i + d → Ev (fun k => koinelaw01_NaturalPowers.l1 k true (n : Int) (text (10 ^ n)) (text (10 ^ n - 1)) (i : Int)) true := by
  intro d
  induction d with
  | zero =>
    intro i hi
    refine Ev.some_ fun k => ?_
    simp only [koinelaw01_NaturalPowers.l1]
    rw [if_neg (by omega)]
  | succ d ih =>
    intro i hi
    have z1 := text_ten_size n
    have z2 := text_nines_size n (by omega)
    refine Ev.step (fun k => ?_) (ih (i + 1) (by omega))
    simp only [koinelaw01_NaturalPowers.l1]
    rw [if_pos (by omega), w64_add i (by omega), if_pos (by omega), if_pos (by omega), text_ten_succ n i (by omega), if_pos rfl, if_pos (by omega), if_pos (by omega), text_nines n i (by omega), if_pos rfl]
theorem lim_one_len : (lim 1).length ≤ 1024 := by rw [lim_len_iff]; exact Nat.lt_of_lt_of_le (show 1 < np 1 by unfold np; decide) (np_le (by decide))
theorem lim_ten_len : (lim 10).length ≤ 1024 := by rw [lim_len_iff]; exact Nat.lt_of_lt_of_le (show 10 < np 1 by unfold np; decide) (np_le (by decide))
theorem of_one : Ev (fun k => natural_Of.f k 1) (lim 1) := of_ev (a := 1) (by decide) (by decide)
theorem of_ten : Ev (fun k => natural_Of.f k 10) (lim 10) := of_ev (a := 10) (by decide) (by decide)
theorem powers_core (k i : Nat) (hn : i ≤ 200) (T1 T2 : ByteArray) (L0 L1 one : List Int) (h1 : natural_Text.f (k + 1) L0 = some T1) (h2 : natural_Of.f (k + 1) 1 = some one) (h3 : natural_Sub.f (k + 1) L0 one = some (L1, 0))
    (h4 : natural_Text.f (k + 1) L1 = some T2) (z1 : T1.size = i + 1) (b1 : bt T1 0 = 49) (z2 : i = 0 → T2.toList = [48]) (z3 : i ≠ 0 → T2.size = i) (g : koinelaw01_NaturalPowers.j1 (k + 1) true (i : Int) T1 T2 false = some true) :
    koinelaw01_NaturalPowers.l0 (k + 1 + 1) true (i : Int) L0 (i : Int) = some true := by
  have w1 : (T1.size : Int) = wrap64 ((i : Int) + 1) := by rw [w64_add i (by omega), z1]
  simp only [koinelaw01_NaturalPowers.l0]
  rw [if_neg (Int.lt_irrefl _), h1, Option.bind_some, h2, Option.bind_some, h3, Option.bind_some, h4, Option.bind_some]
  rw [if_pos w1]
  clear w1
  rw [if_pos (by omega), if_pos b1, if_pos rfl]
  by_cases hz : i = 0
  · subst hz
    rw [if_pos (by omega), if_pos (z2 rfl), if_neg (by omega)]
    exact g
  · have z4 := z3 hz
    rw [if_neg (by omega), if_pos (by omega), z4, bne_self_eq_false]
    exact g
theorem text_zero : (text 0).toList = [48] := by
  have e0 : text 0 = ⟨#[48]⟩ := rfl
  rw [e0, Go.ByteArray.toList_eq]
theorem powers_end (i : Nat) (hn : i ≤ 200) : Ev (fun k => koinelaw01_NaturalPowers.l0 k true (i : Int) (lim (10 ^ i)) (i : Int)) true := by
  have hs := ten_small i (by omega)
  have l1 := lim_one_len
  have hp : 0 < 10 ^ i := Nat.pow_pos (by decide)
  have hsub := lim_len_mono (Nat.sub_le (10 ^ i) 1)
  obtain ⟨K1, h1⟩ := text_ev (n := 10 ^ i) (by omega)
  obtain ⟨K2, h2⟩ := of_one
  obtain ⟨K3, h3⟩ := sub_ev (m := 10 ^ i) (n := 1) (by omega) l1
  obtain ⟨K4, h4⟩ := text_ev (n := 10 ^ i - 1) (by omega)
  obtain ⟨K5, h5⟩ := powers_l1 i hn i 0 (by omega)
  rw [if_neg (by omega)] at h3
  refine ⟨K1 + K2 + K3 + K4 + K5 + 2, fun k hk => ?_⟩
  obtain ⟨k, rfl⟩ : ∃ m, k = m + 1 + 1 := ⟨k - 2, by omega⟩
  refine powers_core k i hn (text (10 ^ i)) (text (10 ^ i - 1)) (lim (10 ^ i)) (lim (10 ^ i - 1)) (lim 1) (h1 (k + 1) (by omega)) (h2 (k + 1) (by omega)) (h3 (k + 1) (by omega)) (h4 (k + 1) (by omega)) (text_ten_size i) (text_ten_zero i) (fun h => ?_) (text_nines_size i) ?_
  · rw [h, Nat.pow_zero, Nat.sub_self]; exact text_zero
  · simp only [koinelaw01_NaturalPowers.j1, Bool.false_eq_true, if_false]
    exact h5 k (by omega)
theorem powers_step (n i : Nat) (hn : n ≤ 200) (hi : i < n) (ih : Ev (fun k => koinelaw01_NaturalPowers.l0 k true (n : Int) (lim (10 ^ (i + 1))) ((i + 1 : Nat) : Int)) true) : Ev (fun k => koinelaw01_NaturalPowers.l0 k true (n : Int) (lim (10 ^ i)) (i : Int)) true := by
  have hs := ten_small i (by omega)
  have hs' := ten_small (i + 1) (by omega)
  have l10 := lim_ten_len
  obtain ⟨K1, h1⟩ := of_ten
  have e10 : 10 ^ i * 10 = 10 ^ (i + 1) := (Nat.pow_succ ..).symm
  obtain ⟨K2, h2⟩ := mull_ev (m := 10 ^ i) (n := 10) (by omega) l10 (by rw [e10]; omega)
  obtain ⟨K3, h3⟩ := ih
  rw [e10] at h2
  have h1' : ∀ k, K1 ≤ k → natural_Of.f k 10 = some (lim 10) := h1
  refine ⟨K1 + K2 + K3 + 1, fun k hk => ?_⟩
  obtain ⟨k, rfl⟩ : ∃ m, k = m + 1 := ⟨k - 1, by omega⟩
  simp only [koinelaw01_NaturalPowers.l0]
  rw [if_pos (by omega)]
  simp only [h1' k (by omega), h2 k (by omega), Option.bind_some]
  rw [w64_add i (by omega)]
  exact h3 k (by omega)
theorem powers_l0 (n : Nat) (hn : n ≤ 200) : ∀ (d i : Nat), n = i + d → Ev (fun k => koinelaw01_NaturalPowers.l0 k true (n : Int) (lim (10 ^ i)) (i : Int)) true := by
  intro d
  induction d with
  | zero =>
    intro i hi
    have : i = n := by omega
    subst this
    exact powers_end i hn
  | succ d ih =>
    intro i hi
    exact powers_step n i hn (by omega) (ih (i + 1) (by omega))
theorem powers_pure : koinelaw01_NaturalPowers.Pure := by
  intro a0 w0
  have hx : 0 ≤ a0 ∧ a0 ≤ 255 := by simpa [Lit.wf, IntKind.min, IntKind.max, IntKind.signed, IntKind.bits] using w0
  have e : Int.tmod (wrap64 a0) 201 = (((a0 % 201).toNat : Nat) : Int) := by
    rw [w64 (by omega) (by omega), Int.tmod_eq_emod_of_nonneg hx.1]; omega
  obtain ⟨K1, h1⟩ := sanity_ev
  obtain ⟨K2, h2⟩ := of_ev (a := 1) (by decide) (by decide)
  obtain ⟨K3, h3⟩ := powers_l0 (a0 % 201).toNat (by omega) (a0 % 201).toNat 0 (by omega)
  have h2' : ∀ k, K2 ≤ k → natural_Of.f k 1 = some (lim (10 ^ 0)) := h2
  refine ⟨K1 + K2 + K3, ?_⟩
  simp only [koinelaw01_NaturalPowers.f, h1 (K1 + K2 + K3) (by omega), h2' (K1 + K2 + K3) (by omega), Option.bind_some, e]
  exact h3 (K1 + K2 + K3) (by omega)
end Go.Proofs.Ytpalpikenkkhlaa.Nm
namespace Go.Proofs.Ytpalpikenkkhlaa.Pure
theorem NaturalPowers : Nt.koinelaw01_NaturalPowers.Pure := Nm.powers_pure
end Go.Proofs.Ytpalpikenkkhlaa.Pure
