/- What Div and Uint64 of the reference answer, in numbers. -/
import Derived.Test.YtpalpikenkkhlaaNm11
set_option linter.unusedVariables false
namespace Go.Proofs.Ytpalpikenkkhlaa.Nm
open Go.RowKit Go.Proofs.YtpalpikenkkhlaaW.PrintWords Go.Proofs.YtpalpikenkkhlaaW.PrintMore Go.Proofs.Ytpalpikenkkhlaa.Nt

theorem rdiv_loop {n : Nat} (hn : (lim n).length ≤ 100) (h0 : 0 < n) (bits : List Int) (hB : Digs 2 bits) (hl : bits.length ≤ 3200) :
    ∀ (t : Nat) (q rem : List Int) (Q : Int), t ≤ bits.length → q.length = bits.length → Digs 2 q → Digs 2 rem → rem.length + t ≤ 10000 + bits.length → gval 2 q = gp 2 t * Q → (∀ j, j < t → q.getD j 0 = 0) →
      gval 2 (bits.drop t) = Q * (n : Int) + gval 2 rem → gval 2 rem < (n : Int) →
      Ev (fun k => koineref01_Div.l0 k (lim n) bits q rem ((t : Int) - 1)) (lim (gval 2 bits / (n : Int)).toNat, lim (gval 2 bits % (n : Int)).toNat, 0) := by
  intro t
  induction t with
  | zero =>
    intro q rem Q ht hq hDq hDr hrl hgq hz hv hlt
    have hr0 := gval_nonneg (b := 2) (by decide) hDr
    rw [List.drop_zero] at hv
    rw [gp_zero, Int.one_mul] at hgq
    have e1 : gval 2 bits / (n : Int) = gval 2 q := by
      rw [hv, Int.mul_comm, Int.mul_add_ediv_left _ _ (by omega), Int.ediv_eq_zero_of_lt hr0 hlt, Int.add_zero, hgq]
    have e2 : gval 2 bits % (n : Int) = gval 2 rem := by
      rw [hv, Int.mul_comm, Int.mul_add_emod_self_left, Int.emod_eq_of_lt hr0 hlt]
    rw [e1, e2]
    obtain ⟨K1, h1⟩ := rbinary_ev hDq (by omega)
    obtain ⟨K2, h2⟩ := rbinary_ev hDr (by omega)
    obtain ⟨A, hA⟩ : ∃ A, A = lim (gval 2 q).toNat := ⟨_, rfl⟩
    obtain ⟨B, hB'⟩ : ∃ B, B = lim (gval 2 rem).toNat := ⟨_, rfl⟩
    rw [← hA] at h1
    rw [← hB'] at h2
    rw [← hA, ← hB']
    refine ⟨K1 + K2 + 1, fun k hk => ?_⟩
    obtain ⟨k, rfl⟩ : ∃ m, k = m + 1 := ⟨k - 1, by omega⟩
    have u1 : koineref01_binary.f k q = some A := h1 k (by omega)
    have u2 : koineref01_binary.f k rem = some B := h2 k (by omega)
    simp only [koineref01_Div.l0]
    rw [if_neg (by omega), u1, Option.bind_some, u2, Option.bind_some]
  | succ t ih =>
    intro q rem Q ht hq hDq hDr hrl hgq hz hv hlt
    have hr0 := gval_nonneg (b := 2) (by decide) hDr
    have hb := Digs.get hB (by decide) t
    have hDy : Digs 2 (bits.getD t 0 :: rem) := Digs.cons hb.1 hb.2 hDr
    have hgy : gval 2 (bits.getD t 0 :: rem) = bits.getD t 0 + 2 * gval 2 rem := rfl
    have hdrop := gval_drop_get 2 bits t
    rw [hv] at hdrop
    obtain ⟨v, hvn⟩ : ∃ v : Nat, gval 2 (bits.getD t 0 :: rem) = (v : Int) := ⟨(gval 2 (bits.getD t 0 :: rem)).toNat, by omega⟩
    have hv2 : v ≤ n * 2 := by omega
    have l2 : (lim 2).length ≤ 1 := by rw [lim_len_iff]; unfold np; decide
    have hvl := Nat.le_trans (lim_len_mono hv2) (lim_mul_len hn l2)
    rw [gp_succ, Int.mul_assoc] at hgq
    have hn1 : (((t + 1 : Nat) : Int) - 1) = (t : Int) := by omega
    have Hw := Lib.hid (show wrap64 ((t : Int) - 1) = (t : Int) - 1 from w64 (by omega) (by omega))
    have hyl : (bits.getD t 0 :: rem).length = rem.length + 1 := rfl
    obtain ⟨K1, h1⟩ := rbinary_ev hDy (by omega)
    rw [hvn, Int.toNat_natCast] at h1
    obtain ⟨K2, h2⟩ := rcompare_ev (m := v) (n := n) (by omega) (by omega)
    obtain ⟨L, hL⟩ : ∃ L, L = lim n := ⟨_, rfl⟩
    obtain ⟨V, hV⟩ : ∃ V, V = lim v := ⟨_, rfl⟩
    rw [← hV] at h1
    rw [← hL, ← hV] at h2
    rw [← hL] at ih ⊢
    by_cases hc : v < n
    · have ec : cmp v n = -1 := by unfold cmp; rw [if_pos hc]
      rw [ec] at h2
      obtain ⟨K3, h3⟩ := ih q (bits.getD t 0 :: rem) (2 * Q) (by omega) hq hDq hDy (by omega) hgq (fun j hj => hz j (by omega)) (by
        rw [hdrop, hvn, Int.mul_assoc]; omega) (by omega)
      refine ⟨K1 + K2 + K3 + 1, fun k hk => ?_⟩
      obtain ⟨k, rfl⟩ : ∃ m, k = m + 1 := ⟨k - 1, by omega⟩
      have u1 : koineref01_binary.f k ([bits.getD t 0] ++ rem) = some V := h1 k (by omega)
      have u2 : koineref01_Compare.f k V L = some (-1) := h2 k (by omega)
      have u3 := h3 k (by omega)
      simp only [koineref01_Div.l0]
      rw [hn1, if_pos (by omega), if_pos (by omega), if_pos (by omega), Option.bind_some, rd_nat, if_pos (by simp; omega), Option.bind_some, u1, Option.bind_some, u2, Option.bind_some, if_neg (by decide), Hw.out]
      exact u3
    · have ec : ¬ cmp v n < 0 := by unfold cmp; rw [if_neg hc]; split <;> decide
      obtain ⟨c, hcc⟩ : ∃ c, c = cmp v n := ⟨_, rfl⟩
      rw [← hcc] at h2 ec
      obtain ⟨K4, h4⟩ := rsub_ev (m := v) (n := n) (by omega) (by omega)
      rw [if_neg hc] at h4
      have hsl := Nat.le_trans (lim_len_mono (Nat.sub_le v n)) hvl
      obtain ⟨bs, ⟨K5, h5⟩, b1, b2, b3⟩ := rbits_ev (lm_lim (v - n)) (by omega)
      rw [val_lim] at b3
      obtain ⟨D, hD⟩ : ∃ D, D = lim (v - n) := ⟨_, rfl⟩
      rw [← hD, ← hL, ← hV] at h4
      rw [← hD] at h5
      have hgs := gval_set 2 1 q t (by omega)
      rw [hz t (by omega), Int.sub_zero, hgq, ← Int.mul_add] at hgs
      obtain ⟨K3, h3⟩ := ih (q.set t 1) bs (2 * Q + 1) (by omega) (by simpa using hq) (hDq.set t (by decide) (by decide)) b1 (by omega) hgs (fun j hj => by
        rw [List.getD_eq_getElem?_getD, List.getElem?_set_ne (by omega), ← List.getD_eq_getElem?_getD]
        exact hz j (by omega)) (by
        rw [hdrop, b3, Int.add_mul, Int.one_mul, Int.mul_assoc]; omega) (by rw [b3]; omega)
      refine ⟨K1 + K2 + K3 + K4 + K5 + 1, fun k hk => ?_⟩
      obtain ⟨k, rfl⟩ : ∃ m, k = m + 1 := ⟨k - 1, by omega⟩
      have u1 : koineref01_binary.f k ([bits.getD t 0] ++ rem) = some V := h1 k (by omega)
      have u2 : koineref01_Compare.f k V L = some c := h2 k (by omega)
      have u4 : koineref01_Sub.f k V L = some (D, 0) := h4 k (by omega)
      have u5 : koineref01_Bits.f k D = some bs := h5 k (by omega)
      have u3 := h3 k (by omega)
      simp only [koineref01_Div.l0]
      rw [hn1, if_pos (by omega), if_pos (by omega), if_pos (by omega), Option.bind_some, rd_nat, if_pos (by simp; omega), Option.bind_some, u1, Option.bind_some, u2, Option.bind_some, if_pos (by omega), u4, Option.bind_some, u5, Option.bind_some, if_pos (by omega), Hw.out, Int.toNat_natCast]
      exact u3
theorem rdiv_ev {m n : Nat} (hm : (lim m).length ≤ 100) (hn : (lim n).length ≤ 100) (h0 : 0 < n) : Ev (fun k => koineref01_Div.f k (lim m) (lim n)) (lim (m / n), lim (m % n), 0) := by
  have hne : (lim n).length ≠ 0 := fun h => by
    have := (lim_nil_iff n).1 (List.eq_nil_of_length_eq_zero h); omega
  obtain ⟨bs, ⟨K1, h1⟩, b1, b2, b3⟩ := rbits_ev (lm_lim m) (by omega)
  rw [val_lim] at b3
  have hz := rdiv_loop hn h0 bs b1 (by omega) bs.length (List.replicate bs.length 0) [] 0 (Nat.le_refl _) (by simp) (Digs.replicate (by decide) _) (Digs.nil _) (by simp) (by rw [gval_replicate, Int.mul_zero]) (fun j hj => by
    rw [List.getD_eq_getElem?_getD, List.getElem?_replicate]; split <;> rfl) (by rw [List.drop_length, Int.zero_mul]; rfl) (by simp [gval]; omega)
  have e1 : (gval 2 bs / (n : Int)).toNat = m / n := by rw [b3, ← Int.natCast_ediv, Int.toNat_natCast]
  have e2 : (gval 2 bs % (n : Int)).toNat = m % n := by rw [b3, ← Int.natCast_emod, Int.toNat_natCast]
  rw [e1, e2] at hz
  obtain ⟨K2, h2⟩ := hz
  have hw : wrap64 ((bs.length : Int) - 1) = (bs.length : Int) - 1 := w64 (by omega) (by omega)
  have Hw := Lib.hid hw
  clear hw
  have v1 := rvalid_lim (n := m) (by omega)
  have v2 := rvalid_lim (n := n) (by omega)
  obtain ⟨L, hL⟩ : ∃ L, L = lim n := ⟨_, rfl⟩
  obtain ⟨M, hM⟩ : ∃ M, M = lim m := ⟨_, rfl⟩
  rw [← hM] at h1 v1
  rw [← hL] at h2 v2 hne
  rw [← hL, ← hM]
  refine ⟨K1 + K2 + 1, fun k hk => ?_⟩
  obtain ⟨k, rfl⟩ : ∃ m, k = m + 1 := ⟨k - 1, by omega⟩
  have u1 : koineref01_Bits.f k M = some bs := h1 k (by omega)
  have u2 := h2 k (by omega)
  show koineref01_Div.f (k + 1) M L = _
  unfold koineref01_Div.f
  rw [v1, Option.bind_some, if_pos rfl, v2, Option.bind_some]
  simp only [koineref01_Div.j0]
  rw [if_neg (by decide), if_neg (by omega), u1, Option.bind_some, if_pos (by omega), if_pos (by omega), Hw.out, Int.toNat_natCast]
  exact u2
theorem rdiv_zero {m : Nat} (hm : (lim m).length ≤ 1024) : Ev (fun k => koineref01_Div.f k (lim m) []) ([], [], 11) := by
  have h0 : koineref01_Valid.f [] = some true := by rw [rvalid_eq]; rfl
  unfold koineref01_Div.f
  simp only [rvalid_lim hm, h0, Option.bind_some, if_true, Bool.not_true]
  refine Ev.some_ fun k => ?_
  simp only [koineref01_Div.j0]
  rw [if_neg (by decide), if_pos (by simp)]
theorem rdiv_bad {a b : List Int} (h : (okB a && okB b) = false) : Ev (fun k => koineref01_Div.f k a b) ([], [], 1) := by
  unfold koineref01_Div.f
  simp only [rvalid_eq, Option.bind_some]
  have hs : ∀ k, koineref01_Div.j0 (k + 1) a b true = some ([], [], 1) := fun k => by rw [koineref01_Div.j0, if_pos rfl]
  cases ha : okB a
  · simp only [Bool.false_eq_true, if_false]; exact Ev.some_ hs
  · rw [ha] at h
    simp only [Bool.true_and] at h
    simp only [h, if_true, Bool.not_false]; exact Ev.some_ hs

/-! ### Uint64 -/
theorem ruint64_ev {n : Nat} (hn : (lim n).length ≤ 1024) : Ev (fun k => koineref01_Uint64.f k (lim n)) (if (lim n).length ≤ 2 then ((n : Int), true) else (0, false)) := by
  unfold koineref01_Uint64.f
  simp only [rvalid_lim hn, Option.bind_some, if_true]
  by_cases h : (lim n).length ≤ 2
  · rw [if_pos h, decide_eq_false (by omega)]
    have hx := Digs.get (lm_lim n) (by decide) 0
    have hy := Digs.get (lm_lim n) (by decide) 1
    have d0 := gval_drop_get 4294967296 (lim n) 0
    have d1 := gval_drop_get 4294967296 (lim n) 1
    have d2 : gval 4294967296 ((lim n).drop (1 + 1)) = 0 := by rw [List.drop_of_length_le (by omega)]; rfl
    rw [List.drop_zero, Nat.zero_add] at d0
    have d3 : gval 4294967296 (lim n) = n := val_lim n
    have l0 := limb_eq (lm_lim n) 0
    have l1 := limb_eq (lm_lim n) 1
    refine Ev.some_ fun k => ?_
    simp only [koineref01_Uint64.j0]
    have e0 : koineref01_limb.f (lim n) 0 = some ((lim n).getD 0 0) := l0
    have e1 : koineref01_limb.f (lim n) 1 = some ((lim n).getD 1 0) := l1
    have es : (lim n).getD 0 0 + 4294967296 * (lim n).getD 1 0 = (n : Int) := by omega
    rw [if_neg (by decide), e0, Option.bind_some, e1, Option.bind_some, u64w (x := 4294967296 * (lim n).getD 1 0) (by omega) (by omega), es, u64w (by omega) (by omega)]
  · rw [if_neg h, decide_eq_true (by omega)]
    refine Ev.some_ fun k => ?_
    rw [koineref01_Uint64.j0, if_pos rfl]
theorem ruint64_bad {xs : List Int} (h : okB xs = false) : Ev (fun k => koineref01_Uint64.f k xs) (0, false) := by
  unfold koineref01_Uint64.f
  simp only [rvalid_eq, h, Option.bind_some, Bool.false_eq_true, if_false]
  exact Ev.some_ fun k => by rw [koineref01_Uint64.j0, if_pos rfl]
theorem uint64_bad {xs : List Int} (h : okB xs = false) : Ev (fun k => natural_Uint64.f k xs) (0, false) := by
  unfold natural_Uint64.f
  simp only [valid_eq, h, Option.bind_some, Bool.false_eq_true, if_false]
  exact Ev.some_ fun k => by rw [natural_Uint64.j0, if_pos rfl]
end Go.Proofs.Ytpalpikenkkhlaa.Nm
