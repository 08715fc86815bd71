/- NaturalLimits, the plain law. -/
import Derived.Test.YtpalpikenkkhlaaNm10
import Derived.Test.YtpalpikenkkhlaaLwLimits
set_option linter.unusedVariables false
namespace Go.Proofs.Ytpalpikenkkhlaa.Nm
open Go.RowKit Go.Proofs.YtpalpikenkkhlaaW.PrintWords Go.Proofs.YtpalpikenkkhlaaW.PrintMore Go.Proofs.Ytpalpikenkkhlaa.Nt

theorem limits_core (k : Nat) (a0 a1 : Int) (l2 L M S P D : List Int) (n e1 e2 e3 c : Int) (v : Bool) (hn : wrap64 (1020 + wrap64 (Int.tmod a1 10)) = n)
    (h1 : koinelaw01_sanity.f k = some true) (h2 : koineref01_Long.f k a0 n = some L) (h3 : koineref01_Made.f k l2 4 = some M)
    (h4 : natural_Add.f k L M = some (S, e1)) (h5 : koineref01_Add.f k L M = some (S, e1)) (h6 : natural_Mul.f k M L = some (P, e2)) (h7 : koineref01_Mul.f k M L = some (P, e2))
    (h8 : natural_Sub.f k L M = some (D, e3)) (h9 : koineref01_Sub.f k L M = some (D, e3)) (s1 : koineref01_Same.f k S S = some true) (s2 : koineref01_Same.f k P P = some true) (s3 : koineref01_Same.f k D D = some true)
    (v1 : natural_Valid.f L = some v) (v2 : koineref01_Valid.f L = some v) (c1 : natural_Compare.f k L M = some c) (c2 : koineref01_Compare.f k L M = some c) : koinelaw01_NaturalLimits.f k a0 a1 l2 = some true := by
  unfold koinelaw01_NaturalLimits.f
  rw [h1, Option.bind_some, hn, h2, Option.bind_some, h3, Option.bind_some, h4, Option.bind_some, h5, Option.bind_some, h6, Option.bind_some, h7, Option.bind_some, h8, Option.bind_some, h9, Option.bind_some, if_pos rfl, if_pos rfl, if_pos rfl, s1, Option.bind_some, if_pos rfl, s2, Option.bind_some, if_pos rfl, s3, Option.bind_some, if_pos rfl, v1, Option.bind_some, v2, Option.bind_some, if_pos (beq_self_eq_true _), c1, Option.bind_some, c2, Option.bind_some, if_pos rfl]
theorem fit_small (n : Nat) : (fit n).1.length ≤ 1024 := by
  unfold fit
  split
  · exact Nat.zero_le _
  · show (lim n).length ≤ 1024
    omega
theorem limits_pure : koinelaw01_NaturalLimits.Pure := by
  intro a0 a1 l2 w0 w1 _ s2 w2
  have hx : 0 ≤ a0 ∧ a0 < 4294967296 := by
    have h : (decide (IntKind.u32.min ≤ a0) && decide (a0 ≤ IntKind.u32.max)) = true := w0
    simp [IntKind.min, IntKind.max, IntKind.signed, IntKind.bits] at h
    omega
  have hy : 0 ≤ a1 ∧ a1 < 256 := by
    have h : (decide (IntKind.u8.min ≤ a1) && decide (a1 ≤ IntKind.u8.max)) = true := w1
    simp [IntKind.min, IntKind.max, IntKind.signed, IntKind.bits] at h
    omega
  have hn : ∃ n : Nat, n ≤ 1029 ∧ wrap64 (1020 + wrap64 (Int.tmod a1 10)) = (n : Int) := by
    refine ⟨(1020 + a1 % 10).toNat, by omega, ?_⟩
    have e1 : Int.tmod a1 10 = a1 % 10 := Int.tmod_eq_emod_of_nonneg hy.1
    rw [e1, w64 (x := a1 % 10) (by omega) (by omega), w64 (by omega) (by omega)]
    omega
  obtain ⟨n, hn9, hw⟩ := hn
  obtain ⟨N, hN, ⟨K2, h2⟩⟩ := rlong_ev hx.1 hx.2 (n := n) (by omega)
  obtain ⟨K3, h3⟩ := made_ev (lm_of_wf w2) s2 4 (by omega)
  have hM := made_len (lm_of_wf w2) 4
  obtain ⟨M, eM⟩ : ∃ M, M = (val (l2.take 4)).toNat := ⟨_, rfl⟩
  rw [← eM] at h3 hM
  obtain ⟨K1, h1⟩ := sanity_ev
  have key : ∃ (S P D : List Int) (e1 e2 e3 c : Int), S.length ≤ 1024 ∧ P.length ≤ 1024 ∧ D.length ≤ 1024 ∧
      Ev (fun k => natural_Add.f k (lim N) (lim M)) (S, e1) ∧ Ev (fun k => koineref01_Add.f k (lim N) (lim M)) (S, e1) ∧
      Ev (fun k => natural_Mul.f k (lim M) (lim N)) (P, e2) ∧ Ev (fun k => koineref01_Mul.f k (lim M) (lim N)) (P, e2) ∧
      Ev (fun k => natural_Sub.f k (lim N) (lim M)) (D, e3) ∧ Ev (fun k => koineref01_Sub.f k (lim N) (lim M)) (D, e3) ∧
      Ev (fun k => natural_Compare.f k (lim N) (lim M)) c ∧ Ev (fun k => koineref01_Compare.f k (lim N) (lim M)) c := by
    by_cases hb : (lim N).length ≤ 1024
    · have hm : (lim M).length ≤ 1024 := by omega
      have d1 := sub_ev hb hm
      have d2 := rsub_ev hb hm
      by_cases hlt : N < M
      · rw [if_pos hlt] at d1 d2
        exact ⟨_, _, _, _, _, _, _, fit_small (N + M), fit_small (M * N), Nat.zero_le _, add_ev hb hm, radd_ev hb hm, mul_lim hm hb, rmul_ev hm hb, d1, d2, compare_ev hb hm, rcompare_ev hb hm⟩
      · rw [if_neg hlt] at d1 d2
        exact ⟨_, _, _, _, _, _, _, fit_small (N + M), fit_small (M * N), Nat.le_trans (lim_len_mono (Nat.sub_le N M)) hb, add_ev hb hm, radd_ev hb hm, mul_lim hm hb, rmul_ev hm hb, d1, d2, compare_ev hb hm, rcompare_ev hb hm⟩
    · have o1 : (okB (lim N) && okB (lim M)) = false := by rw [okB_lim, decide_eq_false hb]; rfl
      have o2 : (okB (lim M) && okB (lim N)) = false := by rw [Bool.and_comm]; exact o1
      exact ⟨[], [], [], _, _, _, _, Nat.zero_le _, Nat.zero_le _, Nat.zero_le _, add_bad o1, radd_bad o1, mul_bad o2, rmul_bad o2, sub_bad o1, rsub_bad o1, compare_bad o1, rcompare_bad o1⟩
  obtain ⟨S, P, D, e1, e2, e3, c, lS, lP, lD, ⟨K4, h4⟩, ⟨K5, h5⟩, ⟨K6, h6⟩, ⟨K7, h7⟩, ⟨K8, h8⟩, ⟨K9, h9⟩, ⟨K10, h10⟩, ⟨K11, h11⟩⟩ := key
  obtain ⟨K12, s1⟩ := same_refl S lS
  obtain ⟨K13, s2⟩ := same_refl P lP
  obtain ⟨K14, s3⟩ := same_refl D lD
  obtain ⟨K, hK⟩ : ∃ K, K = K1 + K2 + K3 + K4 + K5 + K6 + K7 + K8 + K9 + K10 + K11 + K12 + K13 + K14 := ⟨_, rfl⟩
  exact ⟨K, limits_core K a0 a1 l2 (lim N) (lim M) S P D n e1 e2 e3 c (okB (lim N)) hw (h1 K (by omega)) (h2 K (by omega)) (h3 K (by omega)) (h4 K (by omega)) (h5 K (by omega)) (h6 K (by omega)) (h7 K (by omega)) (h8 K (by omega)) (h9 K (by omega)) (s1 K (by omega)) (s2 K (by omega)) (s3 K (by omega)) (valid_eq _) (rvalid_eq _) (h10 K (by omega)) (h11 K (by omega))⟩
end Go.Proofs.Ytpalpikenkkhlaa.Nm
namespace Go.Proofs.Ytpalpikenkkhlaa.Pure
theorem NaturalLimits : Nt.koinelaw01_NaturalLimits.Pure := Nm.limits_pure
end Go.Proofs.Ytpalpikenkkhlaa.Pure
