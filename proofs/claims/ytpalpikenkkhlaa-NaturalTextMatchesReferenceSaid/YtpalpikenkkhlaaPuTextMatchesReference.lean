/- NaturalTextMatchesReference, the plain law. -/
import Derived.Test.YtpalpikenkkhlaaNm9
import Derived.Test.YtpalpikenkkhlaaLwTextMatchesReference
set_option linter.unusedVariables false
namespace Go.Proofs.Ytpalpikenkkhlaa.Nm
open Go.RowKit Go.Proofs.YtpalpikenkkhlaaW.PrintWords Go.Proofs.YtpalpikenkkhlaaW.PrintMore Go.Proofs.Ytpalpikenkkhlaa.Nt

theorem textref_core (k : Nat) (l0 P : List Int) (e : Int) (a1 t : ByteArray) (h1 : koinelaw01_sanity.f (k + 1) = some true)
    (h2 : natural_Parse.f k a1 = some (P, e)) (h3 : koineref01_Parse.f k a1 = some (P, e)) (h4 : natural_Text.f k l0 = some t) (h5 : koineref01_Text.f k l0 = some t) (h6 : koineref01_Same.f k P P = some true)
    (hl : (l0.length : Int) ≤ 30) (hs : (a1.size : Int) ≤ 300) : koinelaw01_NaturalTextMatchesReference.f (k + 1) l0 a1 = some true := by
  unfold koinelaw01_NaturalTextMatchesReference.f
  rw [h1, Option.bind_some, if_neg (by omega), decide_eq_false (by omega)]
  simp only [koinelaw01_NaturalTextMatchesReference.j0]
  rw [if_neg (by decide), h2, Option.bind_some, h3, Option.bind_some, h4, Option.bind_some, h5, Option.bind_some, if_pos rfl, h6, Option.bind_some, if_pos rfl, if_pos rfl]
theorem textMatchesReference_pure : koinelaw01_NaturalTextMatchesReference.Pure := by
  intro l0 a1 _ s0 w0 s1
  obtain ⟨K1, h1_⟩ := sanity_ev
  have h1 : ∀ k, K1 ≤ k → koinelaw01_sanity.f k = some true := h1_
  clear h1_
  have hT : ∀ k, koinelaw01_NaturalTextMatchesReference.j0 (k + 1) l0 a1 true true = some true := fun k => by rw [koinelaw01_NaturalTextMatchesReference.j0, if_pos rfl]
  by_cases hl : (l0.length : Int) > 30
  · refine ⟨K1 + 1, ?_⟩
    unfold koinelaw01_NaturalTextMatchesReference.f
    rw [h1 (K1 + 1) (by omega), Option.bind_some, if_pos hl]
    exact hT K1
  · by_cases hs : (a1.size : Int) > 300
    · refine ⟨K1 + 1, ?_⟩
      unfold koinelaw01_NaturalTextMatchesReference.f
      rw [h1 (K1 + 1) (by omega), Option.bind_some, if_neg hl, decide_eq_true hs]
      exact hT K1
    · have hP : ∃ (P : List Int) (e : Int), P.length ≤ 1024 ∧ Ev (fun k => natural_Parse.f k a1) (P, e) ∧ Ev (fun k => koineref01_Parse.f k a1) (P, e) := by
        by_cases hg : Good a1
        · refine ⟨_, _, ?_, parse_good (by omega) hg, rparse_good (by omega) hg⟩
          have := pv_small hg.2.2 a1.size (by omega)
          omega
        · exact ⟨_, _, by simp, parse_bad s1 hg, rparse_bad s1 hg⟩
      have hX : ∃ t : ByteArray, Ev (fun k => natural_Text.f k l0) t ∧ Ev (fun k => koineref01_Text.f k l0) t := by
        cases ho : okB l0 with
        | true =>
          have e := okB_val ho (lm_of_wf w0)
          have hlen : (lim (val l0).toNat).length ≤ 1024 := by rw [← e]; omega
          rw [e]
          exact ⟨_, text_ev hlen, rtext_ev hlen⟩
        | false => exact ⟨_, text_bad ho, rtext_bad ho⟩
      obtain ⟨P, e, hPl, ⟨K2, h2⟩, ⟨K3, h3⟩⟩ := hP
      obtain ⟨t, ⟨K4, h4⟩, ⟨K5, h5⟩⟩ := hX
      obtain ⟨K6, h6⟩ := same_refl P hPl
      exact ⟨K1 + K2 + K3 + K4 + K5 + K6 + 1, textref_core (K1 + K2 + K3 + K4 + K5 + K6) l0 P e a1 t (h1 _ (by omega)) (h2 _ (by omega)) (h3 _ (by omega)) (h4 _ (by omega)) (h5 _ (by omega)) (h6 _ (by omega)) (by omega) (by omega)⟩
end Go.Proofs.Ytpalpikenkkhlaa.Nm
namespace Go.Proofs.Ytpalpikenkkhlaa.Pure
theorem NaturalTextMatchesReference : Nt.koinelaw01_NaturalTextMatchesReference.Pure := Nm.textMatchesReference_pure
end Go.Proofs.Ytpalpikenkkhlaa.Pure
