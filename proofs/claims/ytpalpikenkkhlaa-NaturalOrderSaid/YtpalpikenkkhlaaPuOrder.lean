/- NaturalOrder, the plain law. -/
import Derived.Test.YtpalpikenkkhlaaNm5
import Derived.Test.YtpalpikenkkhlaaNm6
import Derived.Test.YtpalpikenkkhlaaLwOrder
set_option linter.unusedVariables false
namespace Go.Proofs.Ytpalpikenkkhlaa.Nm
open Go.RowKit Go.Proofs.YtpalpikenkkhlaaW.PrintWords Go.Proofs.YtpalpikenkkhlaaW.PrintMore Go.Proofs.Ytpalpikenkkhlaa.Nt

theorem cmp_neg (m n : Nat) : cmp m n = wrap64 (-(cmp n m)) := by
  unfold cmp
  rcases Nat.lt_trichotomy m n with h | h | h
  · rw [if_pos h, if_neg (by omega), if_pos h, w64 (by decide) (by decide)]
  · rw [if_neg (by omega), if_neg (by omega), if_neg (by omega), if_neg (by omega), w64 (by decide) (by decide)]; rfl
  · rw [if_neg (by omega), if_pos h, if_pos h, w64 (by decide) (by decide)]; rfl
theorem cmp_range (m n : Nat) : ¬ cmp m n < -1 ∧ ¬ cmp m n > 1 := by
  unfold cmp
  split
  · decide
  · split <;> decide
theorem cmp_zero (m n : Nat) : (cmp m n == 0) = decide (lim m = lim n) := by
  unfold cmp
  rcases Nat.lt_trichotomy m n with h | h | h
  · rw [if_pos h, decide_eq_false (fun e => by have := lim_inj e; omega)]; rfl
  · rw [if_neg (by omega), if_neg (by omega), decide_eq_true (by rw [h])]; rfl
  · rw [if_neg (by omega), if_pos h, decide_eq_false (fun e => by have := lim_inj e; omega)]; rfl
theorem cmp_le (m n : Nat) : cmp m n ≤ 0 ↔ m ≤ n := by
  unfold cmp
  rcases Nat.lt_trichotomy m n with h | h | h
  · rw [if_pos h]; constructor <;> intro _ <;> omega
  · rw [if_neg (by omega), if_neg (by omega)]; constructor <;> intro _ <;> omega
  · rw [if_neg (by omega), if_pos h]; constructor <;> intro _ <;> omega
theorem cmp_add (m n p : Nat) : cmp (m + p) (n + p) = cmp m n := by
  unfold cmp
  simp only [Nat.add_lt_add_iff_right]
theorem cmp_mul (m n p : Nat) (hp : 0 < p) : cmp (m * p) (n * p) = cmp m n := by
  unfold cmp
  simp only [Nat.mul_lt_mul_right hp]
theorem cmp_self_add (m n : Nat) : ¬ cmp (m + n) m < 0 := by
  unfold cmp
  rw [if_neg (by omega)]
  split <;> decide

theorem order_pure : koinelaw01_NaturalOrder.Pure := by
  intro l0 l1 l2 _ s0 w0 _ s1 w1 _ s2 w2
  have hA := made_len (lm_of_wf w0) 40
  have hB := made_len (lm_of_wf w1) 40
  have hC := made_len (lm_of_wf w2) 40
  obtain ⟨K1, h1⟩ := sanity_ev
  obtain ⟨K2, h2⟩ := made_ev (lm_of_wf w0) s0 40 (by omega)
  obtain ⟨K3, h3⟩ := made_ev (lm_of_wf w1) s1 40 (by omega)
  obtain ⟨K4, h4⟩ := made_ev (lm_of_wf w2) s2 40 (by omega)
  obtain ⟨A, eA⟩ : ∃ A, A = (val (l0.take 40)).toNat := ⟨_, rfl⟩
  obtain ⟨B, eB⟩ : ∃ B, B = (val (l1.take 40)).toNat := ⟨_, rfl⟩
  obtain ⟨C, eC⟩ : ∃ C, C = (val (l2.take 40)).toNat := ⟨_, rfl⟩
  rw [← eA] at h2 hA
  rw [← eB] at h3 hB
  rw [← eC] at h4 hC
  have lA : (lim A).length ≤ 1024 := by omega
  have lB : (lim B).length ≤ 1024 := by omega
  have lC : (lim C).length ≤ 1024 := by omega
  have lAB := lim_add_len hA hB
  have lAC := lim_add_len hA hC
  have lBC := lim_add_len hB hC
  have mAC := lim_mul_len hA hC
  have mBC := lim_mul_len hB hC
  obtain ⟨K5, h5⟩ := compare_ev lA lB
  obtain ⟨K6, h6⟩ := compare_ev lB lA
  obtain ⟨K7, h7⟩ := same_ev (lim A) (lim B) (by omega)
  obtain ⟨K8, h8⟩ := compare_ev lB lC
  obtain ⟨K9, h9⟩ := compare_ev lA lC
  obtain ⟨K10, h10⟩ := addl_ev lA lC (by omega)
  obtain ⟨K11, h11⟩ := addl_ev lB lC (by omega)
  obtain ⟨K12, h12⟩ := compare_ev (m := A + C) (n := B + C) (by omega) (by omega)
  obtain ⟨K13, h13⟩ := addl_ev lA lB (by omega)
  obtain ⟨K14, h14⟩ := compare_ev (m := A + B) (n := A) (by omega) lA
  obtain ⟨K15, h15⟩ := mull_ev lA lC (by omega)
  obtain ⟨K16, h16⟩ := mull_ev lB lC (by omega)
  obtain ⟨K17, h17⟩ := compare_ev (m := A * C) (n := B * C) (by omega) (by omega)
  rw [cmp_add] at h12
  have f2 : ∀ k, K2 ≤ k → koineref01_Made.f k l0 40 = some (lim A) := h2
  have f3 : ∀ k, K3 ≤ k → koineref01_Made.f k l1 40 = some (lim B) := h3
  have f4 : ∀ k, K4 ≤ k → koineref01_Made.f k l2 40 = some (lim C) := h4
  obtain ⟨K, hK⟩ : ∃ K, K = K1 + K2 + K3 + K4 + K5 + K6 + K7 + K8 + K9 + K10 + K11 + K12 + K13 + K14 + K15 + K16 + K17 := ⟨_, rfl⟩
  have g2 : koinelaw01_NaturalOrder.j2 (K + 1) true (lim A) (lim B) (lim C) (cmp A B) false = some true := by
    simp only [koinelaw01_NaturalOrder.j2, Bool.false_eq_true, if_false]
    by_cases hz : ((lim C).length : Int) = 0
    · rw [if_pos hz]
    · have hC0 : 0 < C := by
        rcases Nat.eq_zero_or_pos C with h | h
        · rw [h, lim_zero] at hz; exact absurd rfl hz
        · exact h
      rw [cmp_mul _ _ _ hC0] at h17
      rw [if_neg hz]
      simp only [h15 K (by omega), h16 K (by omega), h17 K (by omega), Option.bind_some, if_true]
  have g1 : koinelaw01_NaturalOrder.j1 (K + 2) true (lim A) (lim B) (lim C) (cmp A B) false = some true := by
    simp only [koinelaw01_NaturalOrder.j1, Bool.false_eq_true, if_false, h10 (K + 1) (by omega), h11 (K + 1) (by omega), h12 (K + 1) (by omega), h13 (K + 1) (by omega), h14 (K + 1) (by omega), Option.bind_some, if_true]
    rw [decide_eq_false (cmp_self_add A B)]
    exact g2
  have g0 : koinelaw01_NaturalOrder.j0 (K + 3) true (lim A) (lim B) (lim C) (cmp A B) false = some true := by
    simp only [koinelaw01_NaturalOrder.j0, Bool.false_eq_true, if_false]
    by_cases c1 : cmp A B ≤ 0
    · rw [if_pos c1]
      simp only [h8 (K + 2) (by omega), Option.bind_some]
      by_cases c2 : cmp B C ≤ 0
      · rw [if_pos c2]
        simp only [h9 (K + 2) (by omega), Option.bind_some]
        have : ¬ cmp A C > 0 := by
          have a1 := (cmp_le A B).1 c1
          have a2 := (cmp_le B C).1 c2
          have := (cmp_le A C).2 (by omega)
          omega
        rw [decide_eq_false this]
        exact g1
      · rw [if_neg c2]; exact g1
    · rw [if_neg c1]; exact g1
  refine ⟨K + 3, ?_⟩
  have hr := cmp_range A B
  simp only [koinelaw01_NaturalOrder.f, h1 (K + 3) (by omega), f2 (K + 3) (by omega), f3 (K + 3) (by omega), f4 (K + 3) (by omega), h5 (K + 3) (by omega), h6 (K + 3) (by omega), Option.bind_some]
  rw [← cmp_neg, if_pos rfl]
  simp only [h7 (K + 3) (by omega), Option.bind_some]
  rw [cmp_zero]
  simp only [bne_self_eq_false, Bool.false_eq_true, if_false]
  rw [if_neg hr.1, decide_eq_false hr.2]
  exact g0
end Go.Proofs.Ytpalpikenkkhlaa.Nm
namespace Go.Proofs.Ytpalpikenkkhlaa.Pure
theorem NaturalOrder : Nt.koinelaw01_NaturalOrder.Pure := Nm.order_pure
end Go.Proofs.Ytpalpikenkkhlaa.Pure
