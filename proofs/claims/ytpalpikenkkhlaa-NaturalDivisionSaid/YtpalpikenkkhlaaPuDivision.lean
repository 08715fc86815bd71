/- NaturalDivision, the plain law. -/
import Derived.Test.YtpalpikenkkhlaaNm6
import Derived.Test.YtpalpikenkkhlaaNm8
import Derived.Test.YtpalpikenkkhlaaLwDivision
set_option linter.unusedVariables false
namespace Go.Proofs.Ytpalpikenkkhlaa.Nm
open Go.RowKit Go.Proofs.YtpalpikenkkhlaaW.PrintWords Go.Proofs.YtpalpikenkkhlaaW.PrintMore Go.Proofs.Ytpalpikenkkhlaa.Nt

theorem division_nil (k : Nat) (l0 l1 A : List Int) (h1 : koinelaw01_sanity.f k = some true) (h2 : koineref01_Made.f k l0 40 = some A) (h3 : koineref01_Made.f k l1 20 = some []) (h4 : natural_Div.f k A [] = some ([], [], 11)) :
    koinelaw01_NaturalDivision.f k l0 l1 = some true := by
  unfold koinelaw01_NaturalDivision.f
  rw [h1, Option.bind_some, h2, Option.bind_some, h3, Option.bind_some, h4, Option.bind_some]
  rfl
theorem division_core (k : Nat) (l0 l1 A B Q R AB QB : List Int) (c : Int) (h1 : koinelaw01_sanity.f k = some true) (h2 : koineref01_Made.f k l0 40 = some A) (h3 : koineref01_Made.f k l1 20 = some B) (hB : B.length ≠ 0)
    (h4 : natural_Div.f k A B = some (Q, R, 0)) (h5 : koinelaw01_mul.f k A B = some AB) (h6 : natural_Div.f k AB B = some (A, [], 0)) (h7 : koinelaw01_mul.f k Q B = some QB) (h8 : koinelaw01_add.f k QB R = some A)
    (h9 : koineref01_Same.f k A A = some true) (h10 : natural_Compare.f k R B = some c) (hc : c < 0) : koinelaw01_NaturalDivision.f k l0 l1 = some true := by
  unfold koinelaw01_NaturalDivision.f
  rw [h1, Option.bind_some, h2, Option.bind_some, h3, Option.bind_some, h4, Option.bind_some, if_neg (by omega), h5, Option.bind_some, h6, Option.bind_some, h7, Option.bind_some, h8, Option.bind_some, h9, Option.bind_some, if_pos rfl, h10, Option.bind_some, if_pos rfl, if_pos rfl, if_pos hc, Option.bind_some, if_pos rfl]
  rfl
theorem division_pure : koinelaw01_NaturalDivision.Pure := by
  intro l0 l1 _ s0 w0 _ s1 w1
  have hA := made_len (lm_of_wf w0) 40
  have hB := made_len (lm_of_wf w1) 20
  obtain ⟨K1, h1⟩ := sanity_ev
  obtain ⟨K2, h2⟩ := made_ev (lm_of_wf w0) s0 40 (by omega)
  obtain ⟨K3, h3⟩ := made_ev (lm_of_wf w1) s1 20 (by omega)
  obtain ⟨A, eA⟩ : ∃ A, A = (val (l0.take 40)).toNat := ⟨_, rfl⟩
  obtain ⟨B, eB⟩ : ∃ B, B = (val (l1.take 20)).toNat := ⟨_, rfl⟩
  rw [← eA] at h2 hA
  rw [← eB] at h3 hB
  by_cases hz : B = 0
  · obtain ⟨K4, h4⟩ := div_zero (m := A) (by omega)
    rw [hz, lim_zero] at h3
    obtain ⟨K, hK⟩ : ∃ K, K = K1 + K2 + K3 + K4 := ⟨_, rfl⟩
    exact ⟨K, division_nil K l0 l1 (lim A) (h1 K (by omega)) (h2 K (by omega)) (h3 K (by omega)) (h4 K (by omega))⟩
  · have hp : 0 < B := by omega
    have hne : (lim B).length ≠ 0 := fun h => hz ((lim_nil_iff B).1 (List.eq_nil_of_length_eq_zero h))
    have mAB := lim_mul_len hA hB
    have lQ := lim_len_mono (Nat.div_le_self A B)
    have lR : (lim (A % B)).length ≤ 20 := Nat.le_trans (lim_len_mono (Nat.le_of_lt (Nat.mod_lt A hp))) hB
    have mQB := lim_mul_len (Nat.le_trans lQ hA) hB
    have hdm : A / B * B + A % B = A := by rw [Nat.mul_comm]; exact Nat.div_add_mod A B
    obtain ⟨K4, h4⟩ := div_ev (m := A) (n := B) (by omega) (by omega) hp
    obtain ⟨K5, h5⟩ := mull_ev (m := A) (n := B) (by omega) (by omega) (by omega)
    obtain ⟨K6, h6⟩ := div_ev (m := A * B) (n := B) (by omega) (by omega) hp
    rw [Nat.mul_div_cancel _ hp, Nat.mul_mod_left, lim_zero] at h6
    obtain ⟨K7, h7⟩ := mull_ev (m := A / B) (n := B) (by omega) (by omega) (by omega)
    obtain ⟨K8, h8⟩ := addl_ev (m := A / B * B) (n := A % B) (by omega) (by omega) (by rw [hdm]; omega)
    rw [hdm] at h8
    obtain ⟨K9, h9⟩ := same_refl (lim A) (by omega)
    obtain ⟨K10, h10⟩ := compare_ev (m := A % B) (n := B) (by omega) (by omega)
    have hc : cmp (A % B) B < 0 := by unfold cmp; rw [if_pos (Nat.mod_lt A hp)]; decide
    obtain ⟨K, hK⟩ : ∃ K, K = K1 + K2 + K3 + K4 + K5 + K6 + K7 + K8 + K9 + K10 := ⟨_, rfl⟩
    exact ⟨K, division_core K l0 l1 (lim A) (lim B) _ _ _ _ _ (h1 K (by omega)) (h2 K (by omega)) (h3 K (by omega)) hne (h4 K (by omega)) (h5 K (by omega)) (h6 K (by omega)) (h7 K (by omega)) (h8 K (by omega)) (h9 K (by omega)) (h10 K (by omega)) hc⟩
end Go.Proofs.Ytpalpikenkkhlaa.Nm
namespace Go.Proofs.Ytpalpikenkkhlaa.Pure
theorem NaturalDivision : Nt.koinelaw01_NaturalDivision.Pure := Nm.division_pure
end Go.Proofs.Ytpalpikenkkhlaa.Pure
