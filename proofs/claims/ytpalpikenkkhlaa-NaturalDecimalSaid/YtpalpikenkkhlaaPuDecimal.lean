/- NaturalDecimal, the plain law. -/
import Derived.Test.YtpalpikenkkhlaaNm5
import Derived.Test.YtpalpikenkkhlaaNm6
import Derived.Test.YtpalpikenkkhlaaNm7
import Derived.Test.YtpalpikenkkhlaaLwDecimal
set_option linter.unusedVariables false
namespace Go.Proofs.Ytpalpikenkkhlaa.Nm
open Go.RowKit Go.Proofs.YtpalpikenkkhlaaW.PrintWords Go.Proofs.YtpalpikenkkhlaaW.PrintMore Go.Proofs.Ytpalpikenkkhlaa.Nt

/-- What the order of two texts says. -/
theorem decimal_j3 (L1 L2 : List Int) (s t : ByteArray) (k : Nat) (b : Bool) (c : Int) (hs : koineref01_Same.f k L1 L1 = some true) (hc : natural_Compare.f k L1 L2 = some c)
    (hb : b = true → c = -1) (hb2 : b = false → if s.toList = t.toList then c = 0 else c = 1) : koinelaw01_NaturalDecimal.j3 (k + 1) true L1 L2 s t L1 0 b = some true := by
  simp only [koinelaw01_NaturalDecimal.j3]
  cases b with
  | true =>
    rw [if_pos rfl, hs, Option.bind_some, if_pos rfl, hc, Option.bind_some, if_pos (hb rfl)]
  | false =>
    rw [if_neg (by decide)]
    have h := hb2 rfl
    by_cases he : s.toList = t.toList
    · rw [if_pos he] at h ⊢
      rw [hs, Option.bind_some, if_pos rfl, hc, Option.bind_some, if_pos h]
    · rw [if_neg he] at h ⊢
      rw [hs, Option.bind_some, if_pos rfl, hc, Option.bind_some, if_pos h]
theorem decimal_end (L1 L2 : List Int) (s t : ByteArray) (k : Nat) (c : Int) (hs : koineref01_Same.f k L1 L1 = some true) (hc : natural_Compare.f k L1 L2 = some c)
    (h1 : s.size < t.size → c = -1) (h2 : s.size = t.size → Op.bytesLess s.toList t.toList = true → c = -1) (h3 : s.size = t.size → Op.bytesLess s.toList t.toList = false → if s.toList = t.toList then c = 0 else c = 1)
    (h4 : t.size < s.size → c = 1) : koinelaw01_NaturalDecimal.l0 (k + 1 + 1) true L1 L2 s t L1 (s.size : Int) = some true := by
  simp only [koinelaw01_NaturalDecimal.l0]
  rw [if_neg (Int.lt_irrefl _)]
  by_cases c1 : s.size < t.size
  · rw [if_pos (by omega)]
    exact decimal_j3 L1 L2 s t k true c hs hc (fun _ => h1 c1) (fun h => by cases h)
  · rw [if_neg (by omega)]
    by_cases c2 : s.size = t.size
    · rw [if_pos (by omega)]
      exact decimal_j3 L1 L2 s t k _ c hs hc (h2 c2) (h3 c2)
    · rw [if_neg (by omega)]
      have he : ¬ s.toList = t.toList := fun h => c2 (by rw [toList_inj h])
      exact decimal_j3 L1 L2 s t k false c hs hc (fun h => by cases h) (fun _ => by rw [if_neg he]; exact h4 (by omega))
/-- A digit is taken. -/
theorem decimal_round (L1 L2 V W X Y T : List Int) (s t : ByteArray) (k i : Nat) (hi : i < s.size) (hz : s.size ≤ 200) (hd : 48 ≤ bt s (i : Int) ∧ bt s (i : Int) ≤ 57) (h1 : natural_Of.f k 10 = some T) (h2 : koinelaw01_mul.f k V T = some W)
    (h3 : natural_Of.f k (bt s (i : Int) - 48) = some X) (h4 : koinelaw01_add.f k W X = some Y) (h5 : koinelaw01_NaturalDecimal.l0 k true L1 L2 s t Y ((i + 1 : Nat) : Int) = some true) :
    koinelaw01_NaturalDecimal.l0 (k + 1 + 1) true L1 L2 s t V (i : Int) = some true := by
  have hm : (bt s (i : Int) - 48) % 256 = bt s (i : Int) - 48 := by omega
  simp only [koinelaw01_NaturalDecimal.l0]
  rw [if_pos (by omega), if_pos (by omega), if_neg (by omega), decide_eq_false (by omega)]
  simp only [koinelaw01_NaturalDecimal.j2]
  rw [if_neg (by decide), h1, Option.bind_some, h2, Option.bind_some, if_pos (by omega), if_pos (by omega), hm, h3, Option.bind_some, h4, Option.bind_some, w64_add i (by omega)]
  exact h5
theorem decimal_loop (A B : Nat) (hA : (lim A).length ≤ 20) (hB : (lim B).length ≤ 20) : ∀ (d i : Nat), (text A).size = i + d →
    Ev (fun k => koinelaw01_NaturalDecimal.l0 k true (lim A) (lim B) (text A) (text B) (lim (pv (text A) i).toNat) (i : Int)) true := by
  have hg := text_good A
  have hz := text_size_le hA
  intro d
  induction d with
  | zero =>
    intro i hi
    have hi' : i = (text A).size := by omega
    subst hi'
    obtain ⟨K1, h1⟩ := same_refl (lim A) (by omega)
    obtain ⟨K2, h2⟩ := compare_ev (m := A) (n := B) (by omega) (by omega)
    refine ⟨K1 + K2 + 2, fun k hk => ?_⟩
    obtain ⟨k, rfl⟩ : ∃ m, k = m + 1 + 1 := ⟨k - 2, by omega⟩
    have e : (pv (text A) (text A).size).toNat = A := by rw [text_pv_n]; omega
    rw [e]
    refine decimal_end (lim A) (lim B) (text A) (text B) k (cmp A B) (h1 k (by omega)) (h2 k (by omega)) (fun h => ?_) (fun h h' => ?_) (fun h h' => ?_) (fun h => ?_)
    · have := size_lt h
      unfold cmp; rw [if_pos this]
    · rw [text_less h, decide_eq_true_eq] at h'
      unfold cmp; rw [if_pos h']
    · rw [text_less h, decide_eq_false_iff_not] at h'
      by_cases he : (text A).toList = (text B).toList
      · have := text_inj (toList_inj he)
        rw [if_pos he, this]; unfold cmp; rw [if_neg (Nat.lt_irrefl _), if_neg (Nat.lt_irrefl _)]
      · rw [if_neg he]
        have : A ≠ B := fun h => he (by rw [h])
        unfold cmp; rw [if_neg h', if_pos (by omega)]
    · have := size_lt h
      unfold cmp; rw [if_neg (by omega), if_pos this]
  | succ d ih =>
    intro i hi
    have hb := hg.2.2 i (by omega)
    have hps := pv_succ (text A) i (by omega)
    have hpb := pv_bounds hg.2.2 i
    have s1 := pv_small hg.2.2 i (by omega)
    have s2 := pv_small hg.2.2 (i + 1) (by omega)
    have l10 : (lim 10).length ≤ 1 := by rw [lim_len_iff]; unfold np; decide
    have sm := lim_mul_len s1 l10
    have sd : (lim (bt (text A) (i : Int) - 48).toNat).length ≤ 1 := by
      rw [lim_len_iff]
      have : np 1 = 4294967296 := by unfold np; decide
      omega
    have he : (pv (text A) i).toNat * 10 + (bt (text A) (i : Int) - 48).toNat = (pv (text A) (i + 1)).toNat := by omega
    obtain ⟨K1, h1⟩ := of_ev (a := 10) (by decide) (by decide)
    obtain ⟨K2, h2⟩ := mull_ev (m := (pv (text A) i).toNat) (n := 10) (by omega) (by omega) (by omega)
    obtain ⟨K3, h3⟩ := of_ev (a := bt (text A) (i : Int) - 48) (by omega) (by omega)
    obtain ⟨K4, h4⟩ := addl_ev (m := (pv (text A) i).toNat * 10) (n := (bt (text A) (i : Int) - 48).toNat) (by omega) (by omega) (by rw [he]; omega)
    rw [he] at h4
    obtain ⟨K5, h5⟩ := ih (i + 1) (by omega)
    refine ⟨K1 + K2 + K3 + K4 + K5 + 2, fun k hk => ?_⟩
    obtain ⟨k, rfl⟩ : ∃ m, k = m + 1 + 1 := ⟨k - 2, by omega⟩
    exact decimal_round _ _ _ _ _ _ (lim 10) (text A) (text B) k i (by omega) hz hb (h1 k (by omega)) (h2 k (by omega)) (h3 k (by omega)) (h4 k (by omega)) (h5 k (by omega))
theorem decimal_core (k : Nat) (l0 l1 L1 L2 : List Int) (s t : ByteArray) (h1 : koinelaw01_sanity.f (k + 1) = some true) (h2 : koineref01_Made.f (k + 1) l0 20 = some L1) (h3 : koineref01_Made.f (k + 1) l1 20 = some L2)
    (h4 : natural_Text.f (k + 1) L1 = some s) (h5 : natural_Text.f (k + 1) L2 = some t) (h6 : natural_Parse.f (k + 1) s = some (L1, 0)) (h7 : koineref01_Same.f (k + 1) L1 L1 = some true) (hg : Good s)
    (h8 : koinelaw01_NaturalDecimal.l0 k true L1 L2 s t [] 0 = some true) : koinelaw01_NaturalDecimal.f (k + 1) l0 l1 = some true := by
  have g : koinelaw01_NaturalDecimal.j0 (k + 1) true L1 L2 s t false = some true := by
    simp only [koinelaw01_NaturalDecimal.j0]
    rw [if_neg (by decide)]
    exact h8
  unfold koinelaw01_NaturalDecimal.f
  rw [h1, Option.bind_some, h2, Option.bind_some, h3, Option.bind_some, h4, Option.bind_some, h5, Option.bind_some, h6, Option.bind_some, if_pos rfl, h7, Option.bind_some, if_pos rfl, if_neg (by rw [toList_nil]; exact hg.1)]
  by_cases hz : (s.size : Int) > 1
  · have hb : (bt s 0 == 48) = false := by
      rw [beq_eq_false_iff_ne]
      rcases hg.2.1 with h | h
      · omega
      · exact h
    rw [if_pos hz, if_pos (by omega), hb]
    exact g
  · rw [if_neg hz]
    exact g
theorem decimal_pure : koinelaw01_NaturalDecimal.Pure := by
  intro l0 l1 _ s0 w0 _ s1 w1
  have hA := made_len (lm_of_wf w0) 20
  have hB := made_len (lm_of_wf w1) 20
  obtain ⟨K1, h1⟩ := sanity_ev
  obtain ⟨K2, h2⟩ := made_ev (lm_of_wf w0) s0 20 (by omega)
  obtain ⟨K3, h3⟩ := made_ev (lm_of_wf w1) s1 20 (by omega)
  obtain ⟨A, eA⟩ : ∃ A, A = (val (l0.take 20)).toNat := ⟨_, rfl⟩
  obtain ⟨B, eB⟩ : ∃ B, B = (val (l1.take 20)).toNat := ⟨_, rfl⟩
  rw [← eA] at h2 hA
  rw [← eB] at h3 hB
  have hg := text_good A
  have hz := text_size_le hA
  obtain ⟨K4, h4⟩ := text_ev (n := A) (by omega)
  obtain ⟨K5, h5⟩ := text_ev (n := B) (by omega)
  obtain ⟨K6, h6⟩ := parse_good (s := text A) (by omega) hg
  have e : (pv (text A) (text A).size).toNat = A := by rw [text_pv_n]; omega
  rw [e] at h6
  obtain ⟨K7, h7⟩ := same_refl (lim A) (by omega)
  obtain ⟨K8, h8⟩ := decimal_loop A B hA hB (text A).size 0 (by omega)
  have e0 : lim (pv (text A) 0).toNat = [] := by rw [pv_zero]; exact lim_zero
  rw [e0] at h8
  obtain ⟨K, hK⟩ : ∃ K, K = K1 + K2 + K3 + K4 + K5 + K6 + K7 + K8 := ⟨_, rfl⟩
  exact ⟨K + 1, decimal_core K l0 l1 (lim A) (lim B) (text A) (text B) (h1 (K + 1) (by omega)) (h2 (K + 1) (by omega)) (h3 (K + 1) (by omega)) (h4 (K + 1) (by omega)) (h5 (K + 1) (by omega)) (h6 (K + 1) (by omega)) (h7 (K + 1) (by omega)) hg (h8 K (by omega))⟩
end Go.Proofs.Ytpalpikenkkhlaa.Nm
namespace Go.Proofs.Ytpalpikenkkhlaa.Pure
theorem NaturalDecimal : Nt.koinelaw01_NaturalDecimal.Pure := Nm.decimal_pure
end Go.Proofs.Ytpalpikenkkhlaa.Pure
