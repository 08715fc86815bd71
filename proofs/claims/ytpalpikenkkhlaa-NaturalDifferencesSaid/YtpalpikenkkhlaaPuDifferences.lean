/- NaturalDifferences, the plain law. -/
import Derived.Test.YtpalpikenkkhlaaNm5
import Derived.Test.YtpalpikenkkhlaaNm6
import Derived.Test.YtpalpikenkkhlaaLwDifferences
set_option linter.unusedVariables false
namespace Go.Proofs.Ytpalpikenkkhlaa.Nm
open Go.RowKit Go.Proofs.YtpalpikenkkhlaaW.PrintWords Go.Proofs.YtpalpikenkkhlaaW.PrintMore Go.Proofs.Ytpalpikenkkhlaa.Nt

theorem differences_pure : koinelaw01_NaturalDifferences.Pure := by
  intro l0 l1 _ s0 w0 _ s1 w1
  have hA := made_len (lm_of_wf w0) 60
  have hB := made_len (lm_of_wf w1) 60
  obtain ⟨K1, h1⟩ := sanity_ev
  obtain ⟨K2, h2⟩ := made_ev (lm_of_wf w0) s0 60 (by omega)
  obtain ⟨K3, h3⟩ := made_ev (lm_of_wf w1) s1 60 (by omega)
  obtain ⟨A, eA⟩ : ∃ A, A = (val (l0.take 60)).toNat := ⟨_, rfl⟩
  obtain ⟨B, eB⟩ : ∃ B, B = (val (l1.take 60)).toNat := ⟨_, rfl⟩
  rw [← eA] at h2 hA
  rw [← eB] at h3 hB
  have lA : (lim A).length ≤ 1024 := by omega
  have lB : (lim B).length ≤ 1024 := by omega
  have lAB := lim_add_len hA hB
  have lBs := lim_len_mono (Nat.sub_le B A)
  obtain ⟨K4, h4⟩ := addl_ev lA lB (by omega)
  obtain ⟨K5, h5⟩ := sub_ev (m := A + B) (n := B) (by omega) lB
  obtain ⟨K6, h6⟩ := same_refl (lim A) lA
  obtain ⟨K7, h7⟩ := sub_ev (m := B) (n := A) lB lA
  obtain ⟨K8, h8⟩ := compare_ev lB lA
  rw [if_neg (by omega), Nat.add_sub_cancel] at h5
  have f2' : ∀ k, K2 ≤ k → koineref01_Made.f k l0 60 = some (lim A) := h2
  have f3' : ∀ k, K3 ≤ k → koineref01_Made.f k l1 60 = some (lim B) := h3
  by_cases hlt : B < A
  · rw [if_pos hlt] at h7
    have hc : cmp B A = -1 := by unfold cmp; rw [if_pos hlt]
    rw [hc] at h8
    obtain ⟨K, hK⟩ : ∃ K, K = K1 + K2 + K3 + K4 + K5 + K6 + K7 + K8 := ⟨_, rfl⟩
    have g : koinelaw01_NaturalDifferences.j0 (K + 1) true (lim A) (lim B) false = some true := by
      simp only [koinelaw01_NaturalDifferences.j0, h7 K (by omega), h8 K (by omega), Option.bind_some]
      rfl
    refine ⟨K + 1, ?_⟩
    simp only [koinelaw01_NaturalDifferences.f, h1 (K + 1) (by omega), f2' (K + 1) (by omega), f3' (K + 1) (by omega), h4 (K + 1) (by omega), h5 (K + 1) (by omega), h6 (K + 1) (by omega), Option.bind_some, if_true, Bool.not_true]
    exact g
  · rw [if_neg hlt] at h7
    have hc : ¬ cmp B A < 0 := by unfold cmp; rw [if_neg hlt]; split <;> decide
    obtain ⟨K9, h9⟩ := addl_ev (m := A) (n := B - A) lA (by omega) (by rw [Nat.add_sub_cancel' (by omega)]; exact lB)
    rw [Nat.add_sub_cancel' (by omega)] at h9
    obtain ⟨K10, h10⟩ := same_refl (lim B) lB
    obtain ⟨K, hK⟩ : ∃ K, K = K1 + K2 + K3 + K4 + K5 + K6 + K7 + K8 + K9 + K10 := ⟨_, rfl⟩
    have g : koinelaw01_NaturalDifferences.j0 (K + 1) true (lim A) (lim B) false = some true := by
      simp only [koinelaw01_NaturalDifferences.j0, h7 K (by omega), h8 K (by omega), h9 K (by omega), h10 K (by omega), if_neg hc, Option.bind_some, if_true, Bool.false_eq_true, if_false]
    refine ⟨K + 1, ?_⟩
    simp only [koinelaw01_NaturalDifferences.f, h1 (K + 1) (by omega), f2' (K + 1) (by omega), f3' (K + 1) (by omega), h4 (K + 1) (by omega), h5 (K + 1) (by omega), h6 (K + 1) (by omega), Option.bind_some, if_true, Bool.not_true]
    exact g
end Go.Proofs.Ytpalpikenkkhlaa.Nm
namespace Go.Proofs.Ytpalpikenkkhlaa.Pure
theorem NaturalDifferences : Nt.koinelaw01_NaturalDifferences.Pure := Nm.differences_pure
end Go.Proofs.Ytpalpikenkkhlaa.Pure
