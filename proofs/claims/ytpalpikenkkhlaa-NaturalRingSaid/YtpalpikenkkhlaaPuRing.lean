/- NaturalRing, the plain law. -/
import Derived.Test.YtpalpikenkkhlaaNm5
import Derived.Test.YtpalpikenkkhlaaNm6
import Derived.Test.YtpalpikenkkhlaaLwRing
set_option linter.unusedVariables false
namespace Go.Proofs.Ytpalpikenkkhlaa.Nm
open Go.RowKit Go.Proofs.YtpalpikenkkhlaaW.PrintWords Go.Proofs.YtpalpikenkkhlaaW.PrintMore Go.Proofs.Ytpalpikenkkhlaa.Nt

theorem ring_pure : koinelaw01_NaturalRing.Pure := by
  intro l0 l1 l2 _ s0 w0 _ s1 w1 _ s2 w2
  have hA := made_len (lm_of_wf w0) 40
  have hB := made_len (lm_of_wf w1) 40
  have hC := made_len (lm_of_wf w2) 40
  obtain ⟨K1, h1⟩ := sanity_ev
  obtain ⟨K2, h2⟩ := made_ev (lm_of_wf w0) s0 40 (by omega)
  obtain ⟨K3, h3⟩ := made_ev (lm_of_wf w1) s1 40 (by omega)
  obtain ⟨K4, h4⟩ := made_ev (lm_of_wf w2) s2 40 (by omega)
  obtain ⟨A, eA⟩ : ∃ A, A = (val (l0.take 40)).toNat := ⟨_, rfl⟩
  obtain ⟨B, eB⟩ : ∃ B, B = (val (l1.take 40)).toNat := ⟨_, rfl⟩
  obtain ⟨C, eC⟩ : ∃ C, C = (val (l2.take 40)).toNat := ⟨_, rfl⟩
  rw [← eA] at h2 hA
  rw [← eB] at h3 hB
  rw [← eC] at h4 hC
  have lA : (lim A).length ≤ 1024 := by omega
  have lB : (lim B).length ≤ 1024 := by omega
  have lC : (lim C).length ≤ 1024 := by omega
  have lAB := lim_add_len hA hB
  have lBC := lim_add_len hB hC
  have lABC := lim_add_len lAB hC
  have lABC' := lim_add_len hA lBC
  have lBA := lim_add_len hB hA
  have mAB := lim_mul_len hA hB
  have mBA := lim_mul_len hB hA
  have mBC := lim_mul_len hB hC
  have mAC := lim_mul_len hA hC
  have mABC := lim_mul_len mAB hC
  have mABC' := lim_mul_len hA mBC
  have mA1 : (lim 1).length ≤ 1 := by rw [lim_len_iff]; unfold np; decide
  have mA := lim_mul_len hA mA1
  have mABpC := lim_mul_len hA lBC
  have mS := lim_add_len mAB mAC
  have e1 : lim 1 = [1] := by
    unfold lim
    rw [digs_pos _ _ _ (by decide), digs_zero]; rfl
  obtain ⟨K5, h5⟩ := addl_ev lA lB (by omega)
  obtain ⟨K6, h6⟩ := addl_ev (m := A + B) (n := C) (by omega) lC (by omega)
  obtain ⟨K7, h7⟩ := addl_ev lB lC (by omega)
  obtain ⟨K8, h8⟩ := addl_ev (m := A) (n := B + C) lA (by omega) (by omega)
  obtain ⟨K9, h9⟩ := same_refl (lim (A + B + C)) (by omega)
  obtain ⟨K10, h10⟩ := addl_ev lB lA (by omega)
  obtain ⟨K11, h11⟩ := same_refl (lim (A + B)) (by omega)
  obtain ⟨K12, h12⟩ := addl_ev (m := A) (n := 0) lA (by rw [lim_zero]; simp) (by rw [Nat.add_zero]; exact lA)
  obtain ⟨K13, h13⟩ := same_refl (lim A) lA
  obtain ⟨K14, h14⟩ := mull_ev lA lB (by omega)
  obtain ⟨K15, h15⟩ := mull_ev (m := A * B) (n := C) (by omega) lC (by omega)
  obtain ⟨K16, h16⟩ := mull_ev lB lC (by omega)
  obtain ⟨K17, h17⟩ := mull_ev (m := A) (n := B * C) lA (by omega) (by omega)
  obtain ⟨K18, h18⟩ := same_refl (lim (A * B * C)) (by omega)
  obtain ⟨K19, h19⟩ := mull_ev lB lA (by omega)
  obtain ⟨K20, h20⟩ := same_refl (lim (A * B)) (by omega)
  obtain ⟨K21, h21⟩ := mull_ev (m := A) (n := 1) lA (by omega) (by omega)
  obtain ⟨K22, h22⟩ := mull_ev (m := A) (n := 0) lA (by rw [lim_zero]; simp) (by rw [Nat.mul_zero, lim_zero]; simp)
  obtain ⟨K23, h23⟩ := mull_ev (m := A) (n := B + C) lA (by omega) (by omega)
  obtain ⟨K24, h24⟩ := mull_ev lA lC (by omega)
  obtain ⟨K25, h25⟩ := addl_ev (m := A * B) (n := A * C) (by omega) (by omega) (by omega)
  obtain ⟨K26, h26⟩ := same_refl (lim (A * B + A * C)) (by omega)
  rw [← Nat.add_assoc] at h8
  rw [Nat.add_comm B A] at h10
  rw [lim_zero, Nat.add_zero] at h12
  rw [← Nat.mul_assoc] at h17
  rw [Nat.mul_comm B A] at h19
  rw [e1, Nat.mul_one] at h21
  rw [lim_zero, Nat.mul_zero, lim_zero] at h22
  rw [Nat.mul_add] at h23
  obtain ⟨K, hK⟩ : ∃ K, K = K1 + K2 + K3 + K4 + K5 + K6 + K7 + K8 + K9 + K10 + K11 + K12 + K13 + K14 + K15 + K16 + K17 + K18 + K19 + K20 + K21 + K22 + K23 + K24 + K25 + K26 := ⟨_, rfl⟩
  have f1 := h1 (K + 2) (by omega)
  have f2 := h2 (K + 2) (by omega)
  have f3 := h3 (K + 2) (by omega)
  have f4 := h4 (K + 2) (by omega)
  have f5 := h5 (K + 2) (by omega)
  have f6 := h6 (K + 2) (by omega)
  have f7 := h7 (K + 2) (by omega)
  have f8 := h8 (K + 2) (by omega)
  have f9 := h9 (K + 2) (by omega)
  have f10 := h10 (K + 2) (by omega)
  have f11 := h11 (K + 2) (by omega)
  have f12 := h12 (K + 2) (by omega)
  have f13 := h13 (K + 2) (by omega)
  have f14 := h14 (K + 1) (by omega)
  have f15 := h15 (K + 1) (by omega)
  have f16 := h16 (K + 1) (by omega)
  have f17 := h17 (K + 1) (by omega)
  have f18 := h18 (K + 1) (by omega)
  have f19 := h19 (K + 1) (by omega)
  have f20 := h20 (K + 1) (by omega)
  have f21 := h21 (K + 1) (by omega)
  have f22 := h22 (K + 1) (by omega)
  have f13' := h13 (K + 1) (by omega)
  have f7' := h7 K (by omega)
  have f14' := h14 K (by omega)
  have f23 := h23 K (by omega)
  have f24 := h24 K (by omega)
  have f25 := h25 K (by omega)
  have f26 := h26 K (by omega)
  refine ⟨K + 2, ?_⟩
  have g2 : koinelaw01_NaturalRing.j1 (K + 1) true (lim A) (lim B) (lim C) true true = some true := by
    simp only [koinelaw01_NaturalRing.j1, if_true, f7', f14', f23, f24, f25, f26, Option.bind_some]
  have g1 : koinelaw01_NaturalRing.j0 (K + 2) true (lim A) (lim B) (lim C) true = some true := by
    simp only [koinelaw01_NaturalRing.j0, f14, f15, f16, f17, f18, f19, f20, f21, f22, f13', Option.bind_some, if_true]
    exact g2
  simp only [koinelaw01_NaturalRing.f, f1, Option.bind_some]
  have f2' : koineref01_Made.f (K + 2) l0 40 = some (lim A) := f2
  have f3' : koineref01_Made.f (K + 2) l1 40 = some (lim B) := f3
  have f4' : koineref01_Made.f (K + 2) l2 40 = some (lim C) := f4
  simp only [f2', f3', f4', f5, f6, f7, f8, f9, f10, f11, f12, f13, Option.bind_some, if_true]
  exact g1
end Go.Proofs.Ytpalpikenkkhlaa.Nm
namespace Go.Proofs.Ytpalpikenkkhlaa.Pure
theorem NaturalRing : Nt.koinelaw01_NaturalRing.Pure := Nm.ring_pure
end Go.Proofs.Ytpalpikenkkhlaa.Pure
