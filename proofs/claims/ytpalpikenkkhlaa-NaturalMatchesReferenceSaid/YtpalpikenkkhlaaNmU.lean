/- What Uint64 answers, in numbers. -/
import Derived.Test.YtpalpikenkkhlaaNm6
import Derived.Test.YtpalpikenkkhlaaNm8
import Derived.Test.YtpalpikenkkhlaaNtM
set_option linter.unusedVariables false
namespace Go.Proofs.Ytpalpikenkkhlaa.Nm
open Go.RowKit Go.Proofs.YtpalpikenkkhlaaW.PrintWords Go.Proofs.YtpalpikenkkhlaaW.PrintMore Go.Proofs.Ytpalpikenkkhlaa.Nt

theorem or_up {a x : Int} (ha : 0 ≤ a ∧ a < 4294967296) (hx : 0 ≤ x ∧ x < 4294967296) : Go.bits .or .u64 a (x * 4294967296) = a + x * 4294967296 := by
  have h1 := bits_join .u64 64 (by decide) wraps_u64 32 (x * 4294967296) a (by omega) (show x * 4294967296 % 4294967296 = 0 by omega) (show x * 4294967296 < 18446744073709551616 by omega) ha.1 (show a < 4294967296 from ha.2) (show a < 18446744073709551616 by omega)
  obtain ⟨m, hm⟩ := Int.eq_ofNat_of_zero_le ha.1
  obtain ⟨n, hn⟩ := Int.eq_ofNat_of_zero_le (show 0 ≤ x * 4294967296 by omega)
  rw [hm, hn] at h1 ⊢
  have hm' : m < 2 ^ 64 := by
    have : (2 : Nat) ^ 64 = 18446744073709551616 := by decide
    omega
  have hn' : n < 2 ^ 64 := by
    have : (2 : Nat) ^ 64 = 18446744073709551616 := by decide
    omega
  rw [(bits_nat .u64 64 (by decide) wraps_u64 n m hn' hm').2] at h1
  rw [(bits_nat .u64 64 (by decide) wraps_u64 m n hm' hn').2, Nat.or_comm, h1]
  omega
theorem or_zero {x : Int} (hx : 0 ≤ x ∧ x < 4294967296) : Go.bits .or .u64 0 x = x := by
  have h1 := bits_join .u64 64 (by decide) wraps_u64 32 0 x (by decide) (by decide) (by decide) hx.1 (show x < 4294967296 from hx.2) (show x < 18446744073709551616 by omega)
  rw [h1]; omega
theorem shl_zero (x : Int) (hx : 0 ≤ x ∧ x < 4294967296) : shl .u64 (IntKind.u64.wrap x) 0 = x := by
  unfold shl
  rw [u64w (x := x) (by omega) (by omega)]
  have : min (0 : Int).toNat IntKind.u64.bits = 0 := by decide
  rw [this, Int.pow_zero, Int.mul_one]
  exact u64w (by omega) (by omega)
theorem shl_one (x : Int) (hx : 0 ≤ x ∧ x < 4294967296) : shl .u64 (IntKind.u64.wrap x) 32 = x * 4294967296 := by
  unfold shl
  rw [u64w (x := x) (by omega) (by omega)]
  have : min (32 : Int).toNat IntKind.u64.bits = 32 := by decide
  rw [this]
  have e : (2 : Int) ^ 32 = 4294967296 := by decide
  rw [e]
  exact u64w (by omega) (by omega)
theorem wa : wrap64 (32 * 0) = 0 := by rw [w64 (by decide) (by decide)]; rfl
theorem wb : wrap64 (0 + 1) = 1 := by rw [w64 (by decide) (by decide)]; rfl
theorem wc : wrap64 (32 * 1) = 32 := by rw [w64 (by decide) (by decide)]; rfl
theorem wd : wrap64 (1 + 1) = 2 := by rw [w64 (by decide) (by decide)]; rfl
theorem uint64_j0 (xs : List Int) (hL : Lm xs) (hl : xs.length ≤ 2) : ∀ k, natural_Uint64.j0 (k + 1 + 1 + 1 + 1) xs false = some (val xs, true) := by
  intro k
  simp only [natural_Uint64.j0]
  rw [if_neg (by decide)]
  match xs, hL, hl with
  | [], _, _ =>
    simp only [natural_Uint64.l0]
    rw [if_neg (by simp)]; rfl
  | [x], h, _ =>
    have hx := h x (List.mem_cons_self)
    simp only [natural_Uint64.l0, wa, wb]
    have e0 : rd [x] 0 = x := rfl
    rw [if_pos (by simp), if_pos (by decide), if_pos (by simp), if_pos (by decide), if_neg (by simp), e0, shl_zero x hx, or_zero hx]
    simp [val, gval]
  | [x, y], h, _ =>
    have hx := h x (List.mem_cons_self)
    have hy := h y (List.mem_cons_of_mem _ List.mem_cons_self)
    simp only [natural_Uint64.l0, wa, wb, wc, wd]
    have e0 : rd [x, y] 0 = x := rfl
    have e1 : rd [x, y] 1 = y := rfl
    rw [if_pos (by simp), if_pos (by decide), if_pos (by simp), if_pos (by decide), if_pos (by simp), if_pos (by decide), if_pos (by simp), if_pos (by decide), if_neg (by simp), e0, e1, shl_zero x hx, or_zero hx, shl_one y hy, or_up hx hy]
    simp only [val, gval]
    have : x + 4294967296 * (y + 4294967296 * 0) = x + y * 4294967296 := by omega
    rw [this]
theorem uint64_ev {n : Nat} (hn : (lim n).length ≤ 1024) : Ev (fun k => natural_Uint64.f k (lim n)) (if (lim n).length ≤ 2 then ((n : Int), true) else (0, false)) := by
  unfold natural_Uint64.f
  simp only [valid_lim hn, Option.bind_some, if_true]
  by_cases h : (lim n).length ≤ 2
  · rw [if_pos h]
    have hd : decide (((lim n).length : Int) > 2) = false := decide_eq_false (by omega)
    refine ⟨4, fun k hk => ?_⟩
    obtain ⟨k, rfl⟩ : ∃ m, k = m + 1 + 1 + 1 + 1 := ⟨k - 4, by omega⟩
    show natural_Uint64.j0 (k + 1 + 1 + 1 + 1) (lim n) (decide (((lim n).length : Int) > 2)) = _
    rw [hd, uint64_j0 (lim n) (lm_lim n) h k, val_lim]
  · rw [if_neg h]
    have hd : decide (((lim n).length : Int) > 2) = true := decide_eq_true (by omega)
    refine Ev.some_ fun k => ?_
    rw [hd, natural_Uint64.j0, if_pos rfl]
end Go.Proofs.Ytpalpikenkkhlaa.Nm
