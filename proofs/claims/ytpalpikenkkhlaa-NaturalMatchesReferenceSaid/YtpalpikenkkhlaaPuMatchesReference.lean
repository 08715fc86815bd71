/- NaturalMatchesReference, the plain law. -/
import Derived.Test.YtpalpikenkkhlaaNm8
import Derived.Test.YtpalpikenkkhlaaNm12
import Derived.Test.YtpalpikenkkhlaaNmU
import Derived.Test.YtpalpikenkkhlaaLwMatchesReference
set_option linter.unusedVariables false
namespace Go.Proofs.Ytpalpikenkkhlaa.Nm
open Go.RowKit Go.Proofs.YtpalpikenkkhlaaW.PrintWords Go.Proofs.YtpalpikenkkhlaaW.PrintMore Go.Proofs.Ytpalpikenkkhlaa.Nt

theorem mref_core (k : Nat) (A B S D P Q R N : List Int) (x e1 e2 e3 e4 c y : Int) (z v : Bool) (hl : (A.length : Int) ≤ 30) (hm : (B.length : Int) ≤ 30)
    (h1 : ∀ j, k ≤ j → koinelaw01_sanity.f j = some true)
    (h2 : ∀ j, k ≤ j → natural_Add.f j A B = some (S, e1)) (h3 : ∀ j, k ≤ j → koineref01_Add.f j A B = some (S, e1)) (s1 : ∀ j, k ≤ j → koineref01_Same.f j S S = some true)
    (h4 : ∀ j, k ≤ j → natural_Sub.f j A B = some (D, e2)) (h5 : ∀ j, k ≤ j → koineref01_Sub.f j A B = some (D, e2)) (s2 : ∀ j, k ≤ j → koineref01_Same.f j D D = some true)
    (h6 : ∀ j, k ≤ j → natural_Mul.f j A B = some (P, e3)) (h7 : ∀ j, k ≤ j → koineref01_Mul.f j A B = some (P, e3)) (s3 : ∀ j, k ≤ j → koineref01_Same.f j P P = some true)
    (h8 : ∀ j, k ≤ j → natural_Div.f j A B = some (Q, R, e4)) (h9 : ∀ j, k ≤ j → koineref01_Div.f j A B = some (Q, R, e4)) (s4 : ∀ j, k ≤ j → koineref01_Same.f j Q Q = some true) (s5 : ∀ j, k ≤ j → koineref01_Same.f j R R = some true)
    (u1 : ∀ j, k ≤ j → natural_Uint64.f j A = some (y, z)) (u2 : ∀ j, k ≤ j → koineref01_Uint64.f j A = some (y, z)) (v1 : natural_Valid.f A = some v) (v2 : koineref01_Valid.f A = some v)
    (c1 : ∀ j, k ≤ j → natural_Compare.f j A B = some c) (c2 : ∀ j, k ≤ j → koineref01_Compare.f j A B = some c)
    (n1 : ∀ j, k ≤ j → natural_Of.f j x = some N) (n2 : ∀ j, k ≤ j → koineref01_Of.f j x = some N) (s6 : ∀ j, k ≤ j → koineref01_Same.f j N N = some true) :
    koinelaw01_NaturalMatchesReference.f (k + 1 + 1 + 1 + 1) A B x = some true := by
  have j3 : koinelaw01_NaturalMatchesReference.j3 (k + 1) A B x true false = some true := by
    simp only [koinelaw01_NaturalMatchesReference.j3]
    rw [if_neg (by decide), h8 k (by omega), Option.bind_some, h9 k (by omega), Option.bind_some, u1 k (by omega), Option.bind_some, u2 k (by omega), Option.bind_some, v1, Option.bind_some, v2, Option.bind_some, if_pos (beq_self_eq_true _), c1 k (by omega), Option.bind_some, c2 k (by omega), Option.bind_some, if_pos rfl, if_pos rfl, if_pos (beq_self_eq_true _), n1 k (by omega), Option.bind_some, n2 k (by omega), Option.bind_some, s6 k (by omega), Option.bind_some, if_pos rfl, s4 k (by omega), Option.bind_some, if_pos rfl, s5 k (by omega), Option.bind_some, if_pos rfl, if_pos rfl]
  have j2 : koinelaw01_NaturalMatchesReference.j2 (k + 1 + 1) A B x true false = some true := by
    simp only [koinelaw01_NaturalMatchesReference.j2]
    rw [if_neg (by decide), h6 (k + 1) (by omega), Option.bind_some, h7 (k + 1) (by omega), Option.bind_some, if_pos rfl, s3 (k + 1) (by omega), Option.bind_some]
    exact j3
  have j1 : koinelaw01_NaturalMatchesReference.j1 (k + 1 + 1 + 1) A B x true false = some true := by
    simp only [koinelaw01_NaturalMatchesReference.j1]
    rw [if_neg (by decide), h4 (k + 1 + 1) (by omega), Option.bind_some, h5 (k + 1 + 1) (by omega), Option.bind_some, if_pos rfl, s2 (k + 1 + 1) (by omega), Option.bind_some]
    exact j2
  have j0 : koinelaw01_NaturalMatchesReference.j0 (k + 1 + 1 + 1 + 1) A B x true false = some true := by
    simp only [koinelaw01_NaturalMatchesReference.j0]
    rw [if_neg (by decide), h2 (k + 1 + 1 + 1) (by omega), Option.bind_some, h3 (k + 1 + 1 + 1) (by omega), Option.bind_some, if_pos rfl, s1 (k + 1 + 1 + 1) (by omega), Option.bind_some]
    exact j1
  unfold koinelaw01_NaturalMatchesReference.f
  rw [h1 (k + 1 + 1 + 1 + 1) (by omega), Option.bind_some, if_neg (by omega), decide_eq_false (by omega)]
  exact j0
theorem fit_small' (n : Nat) : (fit n).1.length ≤ 1024 := by
  unfold fit
  split
  · exact Nat.zero_le _
  · show (lim n).length ≤ 1024
    omega
theorem matchesReference_pure : koinelaw01_NaturalMatchesReference.Pure := by
  intro A B x _ s0 w0 _ s1 w1 w2
  have hx : 0 ≤ x ∧ x < 18446744073709551616 := by
    have h : (decide (IntKind.u64.min ≤ x) && decide (x ≤ IntKind.u64.max)) = true := w2
    simp [IntKind.min, IntKind.max, IntKind.signed, IntKind.bits] at h
    omega
  obtain ⟨K1, h1_⟩ := sanity_ev
  have h1 : ∀ k, K1 ≤ k → koinelaw01_sanity.f k = some true := h1_
  clear h1_
  have hT : ∀ k, koinelaw01_NaturalMatchesReference.j0 (k + 1) A B x true true = some true := fun k => by rw [koinelaw01_NaturalMatchesReference.j0, if_pos rfl]
  by_cases hl : (A.length : Int) > 30
  · refine ⟨K1 + 1, ?_⟩
    unfold koinelaw01_NaturalMatchesReference.f
    rw [h1 (K1 + 1) (by omega), Option.bind_some, if_pos hl]
    exact hT K1
  · by_cases hs : (B.length : Int) > 30
    · refine ⟨K1 + 1, ?_⟩
      unfold koinelaw01_NaturalMatchesReference.f
      rw [h1 (K1 + 1) (by omega), Option.bind_some, if_neg hl, decide_eq_true hs]
      exact hT K1
    · have key : ∃ (S D P Q R : List Int) (e1 e2 e3 e4 c : Int), S.length ≤ 1024 ∧ D.length ≤ 1024 ∧ P.length ≤ 1024 ∧ Q.length ≤ 1024 ∧ R.length ≤ 1024 ∧
          Ev (fun k => natural_Add.f k A B) (S, e1) ∧ Ev (fun k => koineref01_Add.f k A B) (S, e1) ∧
          Ev (fun k => natural_Sub.f k A B) (D, e2) ∧ Ev (fun k => koineref01_Sub.f k A B) (D, e2) ∧
          Ev (fun k => natural_Mul.f k A B) (P, e3) ∧ Ev (fun k => koineref01_Mul.f k A B) (P, e3) ∧
          Ev (fun k => natural_Div.f k A B) (Q, R, e4) ∧ Ev (fun k => koineref01_Div.f k A B) (Q, R, e4) ∧
          Ev (fun k => natural_Compare.f k A B) c ∧ Ev (fun k => koineref01_Compare.f k A B) c := by
        cases ho : (okB A && okB B) with
        | false =>
          exact ⟨[], [], [], [], [], _, _, _, _, _, Nat.zero_le _, Nat.zero_le _, Nat.zero_le _, Nat.zero_le _, Nat.zero_le _, add_bad ho, radd_bad ho, sub_bad ho, rsub_bad ho, mul_bad ho, rmul_bad ho, div_bad ho, rdiv_bad ho, compare_bad ho, rcompare_bad ho⟩
        | true =>
          rw [Bool.and_eq_true] at ho
          have eA := okB_val ho.1 (lm_of_wf w0)
          have eB := okB_val ho.2 (lm_of_wf w1)
          obtain ⟨a, ha⟩ : ∃ a, a = (val A).toNat := ⟨_, rfl⟩
          obtain ⟨b, hb⟩ : ∃ b, b = (val B).toNat := ⟨_, rfl⟩
          rw [← ha] at eA
          rw [← hb] at eB
          have la : (lim a).length ≤ 30 := by rw [← eA]; omega
          have lb : (lim b).length ≤ 30 := by rw [← eB]; omega
          rw [eA, eB]
          have d1 := sub_ev (m := a) (n := b) (by omega) (by omega)
          have d2 := rsub_ev (m := a) (n := b) (by omega) (by omega)
          have hD : (if a < b then (([], 10) : List Int × Int) else (lim (a - b), 0)).1.length ≤ 1024 := by
            split
            · exact Nat.zero_le _
            · exact Nat.le_trans (lim_len_mono (Nat.sub_le a b)) (by omega)
          have hQ : ∃ (Q R : List Int) (e4 : Int), Q.length ≤ 1024 ∧ R.length ≤ 1024 ∧ Ev (fun k => natural_Div.f k (lim a) (lim b)) (Q, R, e4) ∧ Ev (fun k => koineref01_Div.f k (lim a) (lim b)) (Q, R, e4) := by
            by_cases hz : b = 0
            · rw [hz, lim_zero]
              exact ⟨[], [], 11, Nat.zero_le _, Nat.zero_le _, div_zero (by omega), rdiv_zero (by omega)⟩
            · exact ⟨_, _, _, Nat.le_trans (lim_len_mono (Nat.div_le_self a b)) (by omega), Nat.le_trans (lim_len_mono (Nat.mod_le a b)) (by omega), div_ev (by omega) (by omega) (by omega), rdiv_ev (by omega) (by omega) (by omega)⟩
          obtain ⟨Q, R, e4, lQ, lR, q1, q2⟩ := hQ
          exact ⟨_, _, _, Q, R, _, _, _, e4, _, fit_small' (a + b), hD, fit_small' (a * b), lQ, lR, add_ev (by omega) (by omega), radd_ev (by omega) (by omega), d1, d2, mul_lim (by omega) (by omega), rmul_ev (by omega) (by omega), q1, q2, compare_ev (by omega) (by omega), rcompare_ev (by omega) (by omega)⟩
      have hU : ∃ (y : Int) (z : Bool), Ev (fun k => natural_Uint64.f k A) (y, z) ∧ Ev (fun k => koineref01_Uint64.f k A) (y, z) := by
        cases ho : okB A with
        | false => exact ⟨_, _, uint64_bad ho, ruint64_bad ho⟩
        | true =>
          have eA := okB_val ho (lm_of_wf w0)
          have la : (lim (val A).toNat).length ≤ 1024 := by rw [← eA]; omega
          have g1 := uint64_ev la
          have g2 := ruint64_ev la
          rw [← eA] at g1 g2
          exact ⟨_, _, g1, g2⟩
      obtain ⟨S, D, P, Q, R, e1, e2, e3, e4, c, lS, lD, lP, lQ, lR, ⟨K2, h2⟩, ⟨K3, h3⟩, ⟨K4, h4⟩, ⟨K5, h5⟩, ⟨K6, h6⟩, ⟨K7, h7⟩, ⟨K8, h8⟩, ⟨K9, h9⟩, ⟨K10, c1⟩, ⟨K11, c2⟩⟩ := key
      obtain ⟨y, z, ⟨K12, u1⟩, ⟨K13, u2⟩⟩ := hU
      obtain ⟨K14, n1⟩ := of_ev hx.1 hx.2
      obtain ⟨K15, n2⟩ := rof_ev hx.1 hx.2
      have hN2 : (lim x.toNat).length ≤ 2 := by rw [lim_len_iff, np_two]; omega
      obtain ⟨K16, s1⟩ := same_refl S lS
      obtain ⟨K17, s2⟩ := same_refl D lD
      obtain ⟨K18, s3⟩ := same_refl P lP
      obtain ⟨K19, s4⟩ := same_refl Q lQ
      obtain ⟨K20, s5⟩ := same_refl R lR
      obtain ⟨K21, s6⟩ := same_refl (lim x.toNat) (by omega)
      obtain ⟨K, hK⟩ : ∃ K, K = K1 + K2 + K3 + K4 + K5 + K6 + K7 + K8 + K9 + K10 + K11 + K12 + K13 + K14 + K15 + K16 + K17 + K18 + K19 + K20 + K21 := ⟨_, rfl⟩
      exact ⟨K + 1 + 1 + 1 + 1, mref_core K A B S D P Q R (lim x.toNat) x e1 e2 e3 e4 c y z (okB A) (by omega) (by omega) (fun j hj => h1 j (by omega))
        (fun j hj => h2 j (by omega)) (fun j hj => h3 j (by omega)) (fun j hj => s1 j (by omega)) (fun j hj => h4 j (by omega)) (fun j hj => h5 j (by omega)) (fun j hj => s2 j (by omega))
        (fun j hj => h6 j (by omega)) (fun j hj => h7 j (by omega)) (fun j hj => s3 j (by omega)) (fun j hj => h8 j (by omega)) (fun j hj => h9 j (by omega)) (fun j hj => s4 j (by omega)) (fun j hj => s5 j (by omega))
        (fun j hj => u1 j (by omega)) (fun j hj => u2 j (by omega)) (valid_eq _) (rvalid_eq _) (fun j hj => c1 j (by omega)) (fun j hj => c2 j (by omega)) (fun j hj => n1 j (by omega)) (fun j hj => n2 j (by omega)) (fun j hj => s6 j (by omega))⟩
end Go.Proofs.Ytpalpikenkkhlaa.Nm
namespace Go.Proofs.Ytpalpikenkkhlaa.Pure
theorem NaturalMatchesReference : Nt.koinelaw01_NaturalMatchesReference.Pure := Nm.matchesReference_pure
end Go.Proofs.Ytpalpikenkkhlaa.Pure
