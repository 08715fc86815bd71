/- NaturalCanonical, the plain law. -/
import Derived.Test.YtpalpikenkkhlaaNm6
import Derived.Test.YtpalpikenkkhlaaNm8
import Derived.Test.YtpalpikenkkhlaaLwCanonical
set_option linter.unusedVariables false
namespace Go.Proofs.Ytpalpikenkkhlaa.Nm
open Go.RowKit Go.Proofs.YtpalpikenkkhlaaW.PrintWords Go.Proofs.YtpalpikenkkhlaaW.PrintMore Go.Proofs.Ytpalpikenkkhlaa.Nt

theorem or_up {a x : Int} (ha : 0 ≤ a ∧ a < 4294967296) (hx : 0 ≤ x ∧ x < 4294967296) : Go.bits .or .u64 a (x * 4294967296) = a + x * 4294967296 := by
  have h1 := bits_join .u64 64 (by decide) wraps_u64 32 (x * 4294967296) a (by omega) (show x * 4294967296 % 4294967296 = 0 by omega) (show x * 4294967296 < 18446744073709551616 by omega) ha.1 (show a < 4294967296 from ha.2) (show a < 18446744073709551616 by omega)
  obtain ⟨m, hm⟩ := Int.eq_ofNat_of_zero_le ha.1
  obtain ⟨n, hn⟩ := Int.eq_ofNat_of_zero_le (show 0 ≤ x * 4294967296 by omega)
  rw [hm, hn] at h1 ⊢
  have hm' : m < 2 ^ 64 := by
    have : (2 : Nat) ^ 64 = 18446744073709551616 := by decide
    omega
  have hn' : n < 2 ^ 64 := by
    have : (2 : Nat) ^ 64 = 18446744073709551616 := by decide
    omega
  rw [(bits_nat .u64 64 (by decide) wraps_u64 n m hn' hm').2] at h1
  rw [(bits_nat .u64 64 (by decide) wraps_u64 m n hm' hn').2, Nat.or_comm, h1]
  omega
theorem or_zero {x : Int} (hx : 0 ≤ x ∧ x < 4294967296) : Go.bits .or .u64 0 x = x := by
  have h1 := bits_join .u64 64 (by decide) wraps_u64 32 0 x (by decide) (by decide) (by decide) hx.1 (show x < 4294967296 from hx.2) (show x < 18446744073709551616 by omega)
  rw [h1]; omega
theorem shl_zero (x : Int) (hx : 0 ≤ x ∧ x < 4294967296) : shl .u64 (IntKind.u64.wrap x) 0 = x := by
  unfold shl
  rw [u64w (x := x) (by omega) (by omega)]
  have : min (0 : Int).toNat IntKind.u64.bits = 0 := by decide
  rw [this, Int.pow_zero, Int.mul_one]
  exact u64w (by omega) (by omega)
theorem shl_one (x : Int) (hx : 0 ≤ x ∧ x < 4294967296) : shl .u64 (IntKind.u64.wrap x) 32 = x * 4294967296 := by
  unfold shl
  rw [u64w (x := x) (by omega) (by omega)]
  have : min (32 : Int).toNat IntKind.u64.bits = 32 := by decide
  rw [this]
  have e : (2 : Int) ^ 32 = 4294967296 := by decide
  rw [e]
  exact u64w (by omega) (by omega)
theorem wa : wrap64 (32 * 0) = 0 := by rw [w64 (by decide) (by decide)]; rfl
theorem wb : wrap64 (0 + 1) = 1 := by rw [w64 (by decide) (by decide)]; rfl
theorem wc : wrap64 (32 * 1) = 32 := by rw [w64 (by decide) (by decide)]; rfl
theorem wd : wrap64 (1 + 1) = 2 := by rw [w64 (by decide) (by decide)]; rfl
theorem uint64_j0 (xs : List Int) (hL : Lm xs) (hl : xs.length ≤ 2) : ∀ k, natural_Uint64.j0 (k + 1 + 1 + 1 + 1) xs false = some (val xs, true) := by
  intro k
  simp only [natural_Uint64.j0]
  rw [if_neg (by decide)]
  match xs, hL, hl with
  | [], _, _ =>
    simp only [natural_Uint64.l0]
    rw [if_neg (by simp)]; rfl
  | [x], h, _ =>
    have hx := h x (List.mem_cons_self)
    simp only [natural_Uint64.l0, wa, wb]
    have e0 : rd [x] 0 = x := rfl
    rw [if_pos (by simp), if_pos (by decide), if_pos (by simp), if_pos (by decide), if_neg (by simp), e0, shl_zero x hx, or_zero hx]
    simp [val, gval]
  | [x, y], h, _ =>
    have hx := h x (List.mem_cons_self)
    have hy := h y (List.mem_cons_of_mem _ List.mem_cons_self)
    simp only [natural_Uint64.l0, wa, wb, wc, wd]
    have e0 : rd [x, y] 0 = x := rfl
    have e1 : rd [x, y] 1 = y := rfl
    rw [if_pos (by simp), if_pos (by decide), if_pos (by simp), if_pos (by decide), if_pos (by simp), if_pos (by decide), if_pos (by simp), if_pos (by decide), if_neg (by simp), e0, e1, shl_zero x hx, or_zero hx, shl_one y hy, or_up hx hy]
    simp only [val, gval]
    have : x + 4294967296 * (y + 4294967296 * 0) = x + y * 4294967296 := by omega
    rw [this]
theorem uint64_ev {n : Nat} (hn : (lim n).length ≤ 1024) : Ev (fun k => natural_Uint64.f k (lim n)) (if (lim n).length ≤ 2 then ((n : Int), true) else (0, false)) := by
  unfold natural_Uint64.f
  simp only [valid_lim hn, Option.bind_some, if_true]
  by_cases h : (lim n).length ≤ 2
  · rw [if_pos h]
    have hd : decide (((lim n).length : Int) > 2) = false := decide_eq_false (by omega)
    refine ⟨4, fun k hk => ?_⟩
    obtain ⟨k, rfl⟩ : ∃ m, k = m + 1 + 1 + 1 + 1 := ⟨k - 4, by omega⟩
    show natural_Uint64.j0 (k + 1 + 1 + 1 + 1) (lim n) (decide (((lim n).length : Int) > 2)) = _
    rw [hd, uint64_j0 (lim n) (lm_lim n) h k, val_lim]
  · rw [if_neg h]
    have hd : decide (((lim n).length : Int) > 2) = true := decide_eq_true (by omega)
    refine Ev.some_ fun k => ?_
    rw [hd, natural_Uint64.j0, if_pos rfl]
theorem canonical_core (k : Nat) (l0 l1 A B Q R D N S P : List Int) (a2 y e3 : Int) (sm : Bool) (h1 : koinelaw01_sanity.f k = some true) (h2 : koineref01_Made.f k l0 40 = some A) (h3 : koineref01_Made.f k l1 40 = some B)
    (e1 e2 : Int) (h4 : natural_Div.f k A B = some (Q, R, e1)) (h5 : natural_Sub.f k A B = some (D, e2)) (h6 : natural_Of.f k a2 = some N) (h7 : natural_Uint64.f k N = some (a2, true)) (h8 : natural_Uint64.f k A = some (y, sm))
    (h9 : koinelaw01_add.f k A B = some S) (v9 : natural_Valid.f S = some true) (h10 : koinelaw01_mul.f k A B = some P) (v10 : natural_Valid.f P = some true) (vQ : natural_Valid.f Q = some true) (vR : natural_Valid.f R = some true) (vD : natural_Valid.f D = some true) (vN : natural_Valid.f N = some true)
    (hsm : sm = decide ((A.length : Int) ≤ 2)) (hy : sm = true → natural_Of.f k y = some A) (hs : koineref01_Same.f k A A = some true) : koinelaw01_NaturalCanonical.f k l0 l1 a2 = some true := by
  unfold koinelaw01_NaturalCanonical.f
  rw [h1, Option.bind_some, h2, Option.bind_some, h3, Option.bind_some, h4, Option.bind_some, h5, Option.bind_some, h6, Option.bind_some, h7, Option.bind_some, h8, Option.bind_some, h9, Option.bind_some, v9, Option.bind_some, if_pos rfl, h10, Option.bind_some, v10, Option.bind_some, if_pos rfl, vQ, Option.bind_some, if_pos rfl, vR, Option.bind_some, if_pos rfl, vD, Option.bind_some, if_pos rfl, Option.bind_some, vN, Option.bind_some, if_pos rfl, if_pos rfl, if_pos rfl, ← hsm]
  rw [if_pos (beq_self_eq_true _)]
  cases sm with
  | false => rfl
  | true =>
    rw [if_pos rfl, hy rfl, Option.bind_some, hs, Option.bind_some, if_pos rfl]
theorem canonical_pure : koinelaw01_NaturalCanonical.Pure := by
  intro l0 l1 a2 _ s0 w0 _ s1 w1 w2
  have hx : 0 ≤ a2 ∧ a2 < 18446744073709551616 := by
    have h : (decide (IntKind.u64.min ≤ a2) && decide (a2 ≤ IntKind.u64.max)) = true := w2
    simp [IntKind.min, IntKind.max, IntKind.signed, IntKind.bits] at h
    omega
  have hA := made_len (lm_of_wf w0) 40
  have hB := made_len (lm_of_wf w1) 40
  obtain ⟨K1, h1⟩ := sanity_ev
  obtain ⟨K2, h2⟩ := made_ev (lm_of_wf w0) s0 40 (by omega)
  obtain ⟨K3, h3⟩ := made_ev (lm_of_wf w1) s1 40 (by omega)
  obtain ⟨A, eA⟩ : ∃ A, A = (val (l0.take 40)).toNat := ⟨_, rfl⟩
  obtain ⟨B, eB⟩ : ∃ B, B = (val (l1.take 40)).toNat := ⟨_, rfl⟩
  rw [← eA] at h2 hA
  rw [← eB] at h3 hB
  have lAB := lim_add_len hA hB
  have mAB := lim_mul_len hA hB
  have vnil : natural_Valid.f [] = some true := by rw [valid_eq]; rfl
  -- the quotient, the remainder, the difference
  have hdiv : ∃ Q R e, Ev (fun k => natural_Div.f k (lim A) (lim B)) (Q, R, e) ∧ natural_Valid.f Q = some true ∧ natural_Valid.f R = some true := by
    by_cases hz : B = 0
    · refine ⟨[], [], 11, ?_, vnil, vnil⟩
      rw [hz, lim_zero]
      exact div_zero (by omega)
    · have hp : 0 < B := by omega
      refine ⟨_, _, _, div_ev (by omega) (by omega) hp, valid_lim ?_, valid_lim ?_⟩
      · exact Nat.le_trans (lim_len_mono (Nat.div_le_self A B)) (by omega)
      · exact Nat.le_trans (lim_len_mono (Nat.mod_le A B)) (by omega)
  have hsub : ∃ D e, Ev (fun k => natural_Sub.f k (lim A) (lim B)) (D, e) ∧ natural_Valid.f D = some true := by
    have h := sub_ev (m := A) (n := B) (by omega) (by omega)
    by_cases hlt : A < B
    · rw [if_pos hlt] at h
      exact ⟨_, _, h, vnil⟩
    · rw [if_neg hlt] at h
      exact ⟨_, _, h, valid_lim (Nat.le_trans (lim_len_mono (Nat.sub_le A B)) (by omega))⟩
  obtain ⟨Q, R, e1, ⟨K4, h4⟩, vQ, vR⟩ := hdiv
  obtain ⟨D, e2, ⟨K5, h5⟩, vD⟩ := hsub
  have hN2 : (lim a2.toNat).length ≤ 2 := by rw [lim_len_iff, np_two]; omega
  obtain ⟨K6, h6⟩ := of_ev hx.1 hx.2
  obtain ⟨K7, h7⟩ := uint64_ev (n := a2.toNat) (by omega)
  rw [if_pos hN2, Int.toNat_of_nonneg hx.1] at h7
  obtain ⟨K8, h8⟩ := uint64_ev (n := A) (by omega)
  obtain ⟨K9, h9⟩ := addl_ev (m := A) (n := B) (by omega) (by omega) (by omega)
  obtain ⟨K10, h10⟩ := mull_ev (m := A) (n := B) (by omega) (by omega) (by omega)
  obtain ⟨K11, h11⟩ := same_refl (lim A) (by omega)
  have v9 : natural_Valid.f (lim (A + B)) = some true := valid_lim (by omega)
  have v10 : natural_Valid.f (lim (A * B)) = some true := valid_lim (by omega)
  have vN : natural_Valid.f (lim a2.toNat) = some true := valid_lim (by omega)
  by_cases hs : (lim A).length ≤ 2
  · rw [if_pos hs] at h8
    have hA2 : A < 18446744073709551616 := by
      have := (lim_len_iff 2 A).1 hs
      rw [np_two] at this
      exact this
    obtain ⟨K12, h12⟩ := of_ev (a := (A : Int)) (by omega) (by omega)
    rw [Int.toNat_natCast] at h12
    obtain ⟨K, hK⟩ : ∃ K, K = K1 + K2 + K3 + K4 + K5 + K6 + K7 + K8 + K9 + K10 + K11 + K12 := ⟨_, rfl⟩
    exact ⟨K, canonical_core K l0 l1 (lim A) (lim B) Q R D (lim a2.toNat) (lim (A + B)) (lim (A * B)) a2 A 0 true (h1 K (by omega)) (h2 K (by omega)) (h3 K (by omega)) e1 e2 (h4 K (by omega)) (h5 K (by omega)) (h6 K (by omega)) (h7 K (by omega)) (h8 K (by omega)) (h9 K (by omega)) v9 (h10 K (by omega)) v10 vQ vR vD vN (decide_eq_true (by omega)).symm (fun _ => h12 K (by omega)) (h11 K (by omega))⟩
  · rw [if_neg hs] at h8
    obtain ⟨K, hK⟩ : ∃ K, K = K1 + K2 + K3 + K4 + K5 + K6 + K7 + K8 + K9 + K10 + K11 := ⟨_, rfl⟩
    exact ⟨K, canonical_core K l0 l1 (lim A) (lim B) Q R D (lim a2.toNat) (lim (A + B)) (lim (A * B)) a2 0 0 false (h1 K (by omega)) (h2 K (by omega)) (h3 K (by omega)) e1 e2 (h4 K (by omega)) (h5 K (by omega)) (h6 K (by omega)) (h7 K (by omega)) (h8 K (by omega)) (h9 K (by omega)) v9 (h10 K (by omega)) v10 vQ vR vD vN (decide_eq_false (by omega)).symm (fun h => by cases h) (h11 K (by omega))⟩
end Go.Proofs.Ytpalpikenkkhlaa.Nm
namespace Go.Proofs.Ytpalpikenkkhlaa.Pure
theorem NaturalCanonical : Nt.koinelaw01_NaturalCanonical.Pure := Nm.canonical_pure
end Go.Proofs.Ytpalpikenkkhlaa.Pure
