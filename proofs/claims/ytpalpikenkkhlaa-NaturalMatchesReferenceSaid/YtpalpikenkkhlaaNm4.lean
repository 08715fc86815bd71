/- What Parse of package natural answers, in numbers; the examples of the chapter. -/
import Derived.Test.YtpalpikenkkhlaaNm3
import Derived.Test.YtpalpikenkkhlaaNtF
set_option linter.unusedVariables false
namespace Go.Proofs.Ytpalpikenkkhlaa.Nm
open Go.RowKit Go.Proofs.YtpalpikenkkhlaaW.PrintWords Go.Proofs.YtpalpikenkkhlaaW.PrintMore Go.Proofs.Ytpalpikenkkhlaa.Nt

theorem sanity_now : koinelaw01_sanity.f 200 = some true := by decide +kernel
theorem sanity_ev : Ev (fun k => koinelaw01_sanity.f k) true := Ev.of koinelaw01_sanity.mono sanity_now

/-! ### a string's digits -/
/-- The digits that a string's bytes tell, the first byte first. -/
def dl (s : ByteArray) : List Int := (bytesOf s).map (fun c => c - 48)
/-- The number of the first i digits. -/
def pv (s : ByteArray) (i : Nat) : Int := gval 10 ((dl s).take i).reverse
theorem dl_length (s : ByteArray) : (dl s).length = s.size := by simp [dl, bytesOf_length]
theorem bt_get (s : ByteArray) (i : Nat) (h : i < s.size) : (dl s).getD i 0 = bt s (i : Int) - 48 := by
  rw [← rd_bytesOf, rd_nat]
  have : i < (bytesOf s).length := by rw [bytesOf_length]; exact h
  simp [dl, List.getD_eq_getElem?_getD, List.getElem?_eq_getElem this]
theorem pv_zero (s : ByteArray) : pv s 0 = 0 := rfl
theorem pv_succ (s : ByteArray) (i : Nat) (h : i < s.size) : pv s (i + 1) = (bt s (i : Int) - 48) + 10 * pv s i := by
  unfold pv
  rw [List.take_succ_eq_append_getElem (by rw [dl_length]; exact h), List.reverse_append]
  have := bt_get s i h
  rw [List.getD_eq_getElem?_getD, List.getElem?_eq_getElem (by rw [dl_length]; exact h)] at this
  simp only [Option.getD_some] at this
  simp only [List.reverse_cons, List.reverse_nil, List.nil_append, List.singleton_append, gval, this]
/-- All bytes are digits. -/
def AllD (s : ByteArray) : Prop := ∀ i : Nat, i < s.size → 48 ≤ bt s (i : Int) ∧ bt s (i : Int) ≤ 57
/-- A string of digits without a leading zero. -/
def Good (s : ByteArray) : Prop := s.size ≠ 0 ∧ (s.size = 1 ∨ bt s 0 ≠ 48) ∧ AllD s
theorem allD_d10 {s : ByteArray} (h : AllD s) : D10 (dl s) := by
  intro x hx
  obtain ⟨i, hi, rfl⟩ := List.mem_iff_getElem.1 hx
  have hi' : i < s.size := by rw [← dl_length]; exact hi
  have e := bt_get s i hi'
  rw [List.getD_eq_getElem?_getD, List.getElem?_eq_getElem hi] at e
  simp only [Option.getD_some] at e
  have := h i hi'
  omega
theorem D10.reverse {l : List Int} (h : D10 l) : D10 l.reverse := fun x hx => h x (List.mem_reverse.1 hx)
theorem gp_le {b : Int} (hb : 0 < b) {m n : Nat} (h : m ≤ n) : gp b m ≤ gp b n := by
  obtain ⟨d, rfl⟩ : ∃ d, n = m + d := ⟨n - m, by omega⟩
  rw [gp_add]
  have h2 : 0 < gp b d := gp_pos hb d
  have h3 : 0 < gp b m := gp_pos hb m
  have h4 : gp b m * 1 ≤ gp b m * gp b d := Int.mul_le_mul_of_nonneg_left (by omega) (by omega)
  rw [Int.mul_one] at h4
  exact h4
theorem pv_bounds {s : ByteArray} (h : AllD s) (i : Nat) : 0 ≤ pv s i ∧ pv s i < gp 10 i := by
  have hD : D10 ((dl s).take i).reverse := D10.reverse (Digs.take (allD_d10 h) i)
  refine ⟨gval_nonneg (by decide) hD, ?_⟩
  have h1 := gval_lt (b := 10) (by decide) hD
  refine Int.lt_of_lt_of_le h1 ?_
  have hl : ((dl s).take i).reverse.length ≤ i := by rw [List.length_reverse, List.length_take]; omega
  exact gp_le (by decide) hl

theorem len_eq {xs : List Int} (h : Lm xs) (hl : xs.length ≤ (lim (val xs).toNat).length) : xs = lim (val xs).toNat := by
  refine (lim_val h (fun y hy hy0 => ?_)).symm
  cases hx : xs.length with
  | zero =>
    have : xs = [] := List.eq_nil_of_length_eq_zero hx
    rw [this] at hy; simp at hy
  | succ n =>
    have hg := getLast_getD hx
    rw [hg] at hy
    injection hy with hy
    have hv : val (xs.take n) = val xs := by
      have := gval_take_succ 4294967296 xs n (by omega)
      rw [hy, hy0, Int.mul_zero, Int.add_zero, List.take_of_length_le (by omega)] at this
      exact this.symm
    have h1 := val_toNat_lt (xs := xs.take n) (h.take n)
    rw [hv, List.length_take, Nat.min_eq_left (by omega)] at h1
    have := (lim_len_iff n _).2 h1
    omega
theorem lim_len_mono {m n : Nat} (h : m ≤ n) : (lim m).length ≤ (lim n).length := by
  rw [lim_len_iff]
  exact Nat.lt_of_le_of_lt h ((lim_len_iff _ n).1 (Nat.le_refl _))

/-! ### Parse -/
/-- The bytes of a string of at most 1000 digits make a number of few limbs. -/
theorem pv_small {s : ByteArray} (h : AllD s) (i : Nat) (hi : i ≤ 1000) : (lim (pv s i).toNat).length ≤ 1023 := by
  rw [lim_len_iff]
  have h1 := pv_bounds h i
  have h2 : gp 10 i = ((10 ^ i : Nat) : Int) := by unfold gp; exact (Int.natCast_pow 10 i).symm
  rw [h2] at h1
  have h3 : 10 ^ i ≤ np i := by unfold np; exact Nat.pow_le_pow_left (by decide) i
  have h4 : np i ≤ np 1023 := np_le (by omega)
  omega
theorem parse_step {V P c o t W s : Int} (ht : t = c + 10 * o) (hv : V + P * c = s + 9 * W) :
    V + P * (t % 4294967296 - o) + P * 4294967296 * (t / 4294967296) = s + 9 * (W + P * o) := by
  have k1 : P * (t % 4294967296 - o) + P * 4294967296 * (t / 4294967296) = P * (c + 9 * o) := by
    rw [Int.mul_assoc, ← Int.mul_add]
    congr 1
    omega
  have k2 : P * (c + 9 * o) = P * c + 9 * (P * o) := by rw [Int.mul_add, Int.mul_left_comm]
  omega
theorem parse_l2 (s : ByteArray) (n i : Nat) (d : Int) (hs : s.size < 4294967296) (hn : (lim n).length ≤ 1023) (hd : 0 ≤ d ∧ d ≤ 9) (hm : (lim (10 * n + d.toNat)).length ≤ 1023) (r : List Int × Int)
    (next : Ev (fun k => natural_Parse.l1 k s (lim (10 * n + d.toNat)) (s.size : Int) (wrap64 ((i : Int) + 1))) r) :
    ∀ (m j : Nat) (out : List Int) (c : Int), (lim n).length = j + m → out.length = (lim n).length → Lm out → 0 ≤ c → c < 4294967296 → (∀ q, j ≤ q → out.getD q 0 = (lim n).getD q 0) →
      val out + gp 4294967296 j * c = d + n + 9 * val ((lim n).take j) →
      Ev (fun k => natural_Parse.l2 k s out c (s.size : Int) (i : Int) ((lim n).length : Int) (j : Int)) r := by
  intro m
  induction m with
  | zero =>
    intro j out c hj ho hL hc0 hc1 hq hv
    rw [List.take_of_length_le (by omega), val_lim] at hv
    have hjl : j = out.length := by omega
    have htot : val out + gp 4294967296 out.length * c = ((10 * n + d.toNat : Nat) : Int) := by rw [← hjl, hv]; omega
    by_cases hcz : c > 0
    · have hL2 : Lm (out ++ [c]) := Digs.snoc hL hc0 hc1
      have hv2 : val (out ++ [c]) = ((10 * n + d.toNat : Nat) : Int) := by
        rw [← htot, val, gval_append]; simp [gval, val]
      have ht : Tr (out ++ [c]) := fun y hy => by
        rw [List.getLast?_append] at hy
        simp at hy; omega
      have e : out ++ [c] = lim (10 * n + d.toNat) := by
        have := lim_val hL2 ht
        rw [hv2, Int.toNat_natCast] at this
        exact this.symm
      have hcm : c % 4294967296 = c := by omega
      have hol : (out ++ [c]).length ≤ 1023 := by rw [e]; exact hm
      have hol2 : out.length < 35184372088832 := by simp at hol; omega
      have h3 : ¬ ((lim (10 * n + d.toNat)).length : Int) > 1024 := by omega
      refine Ev.step (fun k => ?_) next
      simp only [natural_Parse.l2]
      rw [if_neg (by omega), if_pos hcz, if_pos hol2, Option.bind_some, hcm, e, if_neg h3]
    · have hc : c = 0 := by omega
      rw [hc, Int.mul_zero, Int.add_zero] at htot
      have e : out = lim (10 * n + d.toNat) := by
        have h1 := len_eq hL (by
          rw [htot, Int.toNat_natCast, ho]
          exact lim_len_mono (by omega))
        rw [htot, Int.toNat_natCast] at h1
        exact h1
      have h3 : ¬ (out.length : Int) > 1024 := by omega
      refine Ev.step (fun k => ?_) next
      simp only [natural_Parse.l2]
      rw [if_neg (by omega), if_neg hcz, if_neg h3, e]
  | succ m ih =>
    intro j out c hj ho hL hc0 hc1 hq hv
    have hO := Digs.get hL (by decide) j
    have hqj := hq j (Nat.le_refl _)
    have hb2 : j < 4611686018427387904 := by omega
    have hsum : IntKind.u64.wrap (c + (IntKind.u64.wrap (10 * (IntKind.u64.wrap (rd out (j : Int)))))) = c + 10 * out.getD j 0 := by
      rw [rd_nat, u64w (x := out.getD j 0) (by omega) (by omega), u64w (x := 10 * _) (by omega) (by omega), u64w (by omega) (by omega)]
    obtain ⟨t, ht⟩ : ∃ t, t = c + 10 * out.getD j 0 := ⟨_, rfl⟩
    rw [← ht] at hsum
    refine Ev.step (fun k => ?_) (ih (j + 1) (out.set j (t % 4294967296)) (t / 4294967296) (by omega) (by simpa using ho) (hL.set _ (by omega) (by omega)) (by omega) (by omega) ?_ ?_)
    · simp only [natural_Parse.l2]
      rw [if_pos (by omega), if_pos (by omega), if_pos (by omega), hsum, w64_add j hb2, Int.toNat_natCast]
    · intro q hq'
      rw [List.getD_eq_getElem?_getD, List.getElem?_set_ne (by omega), ← List.getD_eq_getElem?_getD]
      exact hq q (by omega)
    · have e1 : val ((lim n).take (j + 1)) = val ((lim n).take j) + gp 4294967296 j * (lim n).getD j 0 := gval_take_succ _ _ j (by omega)
      have e2 : val (out.set j (t % 4294967296)) = val out + gp 4294967296 j * (t % 4294967296 - out.getD j 0) := gval_set _ _ _ _ (by omega)
      rw [e1, e2, gp_succ, ← hqj]
      exact parse_step ht hv
theorem parse_l1 (s : ByteArray) (hs : s.size ≤ 1000) (h : AllD s) : ∀ (d i : Nat), s.size = i + d →
    Ev (fun k => natural_Parse.l1 k s (lim (pv s i).toNat) (s.size : Int) (i : Int)) (lim (pv s s.size).toNat, 0) := by
  intro d
  induction d with
  | zero =>
    intro i hi
    have : i = s.size := by omega
    subst this
    refine Ev.some_ fun k => ?_
    simp only [natural_Parse.l1]
    rw [if_neg (by omega)]
  | succ d ih =>
    intro i hi
    have hb := h i (by omega)
    have hpb := pv_bounds h i
    have hps := pv_succ s i (by omega)
    have hc : (bt s (i : Int) - 48) % 256 = bt s (i : Int) - 48 := by omega
    have he : 10 * (pv s i).toNat + (bt s (i : Int) - 48).toNat = (pv s (i + 1)).toNat := by omega
    have hih := ih (i + 1) (by omega)
    have hl1 := pv_small h i (by omega)
    have hl2 := pv_small h (i + 1) (by omega)
    refine Ev.step (fun k => ?_) (parse_l2 s (pv s i).toNat i (bt s (i : Int) - 48) (by omega) hl1 (by omega) (by rw [he]; exact hl2) _ (by rw [he, w64_add i (by omega)]; exact hih)
      (lim (pv s i).toNat).length 0 (lim (pv s i).toNat) (bt s (i : Int) - 48) (by omega) rfl (lm_lim _) (by omega) (by omega) (fun _ _ => rfl) (by rw [val_lim, gp_zero]; simp [val, gval]; omega))
    simp only [natural_Parse.l1]
    rw [if_pos (by omega), if_pos (by omega), if_pos (by omega), hc]; rfl
theorem parse_l0_good (s : ByteArray) (hs : s.size ≤ 1000) (h : AllD s) : ∀ (d i : Nat), s.size = i + d →
    Ev (fun k => natural_Parse.l0 k s (s.size : Int) (i : Int)) (lim (pv s s.size).toNat, 0) := by
  intro d
  induction d with
  | zero =>
    intro i hi
    refine Ev.step (fun k => ?_) (parse_l1 s hs h s.size 0 (by omega))
    simp only [natural_Parse.l0]
    rw [if_neg (by omega), pv_zero]
    simp [lim_zero]
  | succ d ih =>
    intro i hi
    have hb := h i (by omega)
    refine Ev.step (fun k => ?_) (ih (i + 1) (by omega))
    simp only [natural_Parse.l0]
    rw [if_pos (by omega), if_pos (by omega), if_pos (by omega), if_neg (by omega), if_neg (by omega), w64_add i (by omega)]
theorem parse_l0_bad (s : ByteArray) (hs : s.size ≤ 140737488351232) : ∀ (d i j : Nat), j = i + d → j < s.size → (bt s (j : Int) < 48 ∨ 57 < bt s (j : Int)) →
    Ev (fun k => natural_Parse.l0 k s (s.size : Int) (i : Int)) ([], 12) := by
  intro d
  induction d with
  | zero =>
    intro i j hj hjs hb
    have : i = j := by omega
    subst this
    refine Ev.some_ fun k => ?_
    simp only [natural_Parse.l0]
    rw [if_pos (by omega), if_pos (by omega), if_pos (by omega)]
    by_cases h1 : bt s (i : Int) < 48
    · rw [if_pos h1]
    · rw [if_neg h1, if_pos (by omega)]
  | succ d ih =>
    intro i j hj hjs hb
    by_cases h1 : bt s (i : Int) < 48
    · refine Ev.some_ fun k => ?_
      simp only [natural_Parse.l0]
      rw [if_pos (by omega), if_pos (by omega), if_pos (by omega), if_pos h1]
    · by_cases h2 : bt s (i : Int) > 57
      · refine Ev.some_ fun k => ?_
        simp only [natural_Parse.l0]
        rw [if_pos (by omega), if_pos (by omega), if_pos (by omega), if_neg h1, if_pos h2]
      · refine Ev.step (fun k => ?_) (ih (i + 1) j (by omega) hjs hb)
        simp only [natural_Parse.l0]
        rw [if_pos (by omega), if_pos (by omega), if_pos (by omega), if_neg h1, if_neg h2, w64_add i (by omega)]
theorem allD_em (s : ByteArray) : AllD s ∨ ∃ j : Nat, j < s.size ∧ (bt s (j : Int) < 48 ∨ 57 < bt s (j : Int)) := by
  by_cases h : AllD s
  · exact .inl h
  · right
    unfold AllD at h
    obtain ⟨i, hi⟩ := Classical.not_forall.1 h
    obtain ⟨h1, h2⟩ := Classical.not_imp.1 hi
    exact ⟨i, h1, by omega⟩
theorem toList_nil (s : ByteArray) : s.toList = [] ↔ s.size = 0 := by
  have e : s.toList = s.data.toList := Go.ByteArray.toList_eq s
  rw [e, ← data_length]
  exact List.eq_nil_iff_length_eq_zero
theorem parse_good {s : ByteArray} (hs : s.size ≤ 1000) (h : Good s) : Ev (fun k => natural_Parse.f k s) (lim (pv s s.size).toNat, 0) := by
  obtain ⟨h0, h1, h2⟩ := h
  have hj : Ev (fun k => natural_Parse.j0 k s false) (lim (pv s s.size).toNat, 0) := by
    refine Ev.step (fun k => ?_) (parse_l0_good s hs h2 s.size 0 (by omega))
    simp only [natural_Parse.j0]
    rw [if_neg (by decide)]; rfl
  refine Ev.congr (fun k => ?_) hj
  unfold natural_Parse.f
  rw [if_neg (by rw [toList_nil]; exact h0)]
  by_cases h3 : (s.size : Int) > 1
  · have hb : (bt s 0 == 48) = false := by
      rw [beq_eq_false_iff_ne]
      rcases h1 with h1 | h1
      · omega
      · exact h1
    rw [if_pos h3, if_pos (by omega), hb]
  · rw [if_neg h3]
theorem parse_bad {s : ByteArray} (hs : s.size ≤ 140737488351232) (h : ¬ Good s) : Ev (fun k => natural_Parse.f k s) ([], 12) := by
  have hT : Ev (fun k => natural_Parse.j0 k s true) ([], 12) := by
    refine Ev.some_ fun k => ?_
    rw [natural_Parse.j0, if_pos rfl]
  by_cases h0 : s.size = 0
  · refine Ev.congr (fun k => ?_) hT
    unfold natural_Parse.f
    rw [if_pos (by rw [toList_nil]; exact h0)]
  · by_cases h1 : s.size = 1 ∨ bt s 0 ≠ 48
    · have hF : Ev (fun k => natural_Parse.j0 k s false) ([], 12) := by
        rcases allD_em s with h2 | ⟨j, hj, hb⟩
        · exact absurd ⟨h0, h1, h2⟩ h
        · refine Ev.step (fun k => ?_) (parse_l0_bad s hs j 0 j (by omega) hj hb)
          simp only [natural_Parse.j0]
          rw [if_neg (by decide)]; rfl
      refine Ev.congr (fun k => ?_) hF
      unfold natural_Parse.f
      rw [if_neg (by rw [toList_nil]; exact h0)]
      by_cases h3 : (s.size : Int) > 1
      · have hb : (bt s 0 == 48) = false := by
          rw [beq_eq_false_iff_ne]
          rcases h1 with h1 | h1
          · omega
          · exact h1
        rw [if_pos h3, if_pos (by omega), hb]
      · rw [if_neg h3]
    · refine Ev.congr (fun k => ?_) hT
      have h3 : s.size ≠ 1 := fun h => h1 (.inl h)
      have h4 : bt s 0 = 48 := Classical.byContradiction fun h => h1 (.inr h)
      unfold natural_Parse.f
      rw [if_neg (by rw [toList_nil]; exact h0), if_pos (by omega), if_pos (by omega), h4]; rfl

/-! ### the text of a string's number is the string -/
theorem strOfNums_bytesOf (s : ByteArray) : strOfNums (bytesOf s) = s := by
  have e : (bytesOf s).map (fun n => UInt8.ofNat n.toNat) = s.data.toList := by
    unfold bytesOf
    rw [List.map_map]
    conv => rhs; rw [← List.map_id s.data.toList]
    apply List.map_congr_left
    intro b _
    simp
  unfold strOfNums
  rw [e]
theorem text_pv {s : ByteArray} (h : Good s) : text (pv s s.size).toNat = s := by
  obtain ⟨h0, h1, h2⟩ := h
  have hD : D10 (dl s).reverse := D10.reverse (allD_d10 h2)
  have hpe : pv s s.size = gval 10 (dl s).reverse := by unfold pv; rw [List.take_of_length_le (by rw [dl_length]; exact Nat.le_refl _)]
  have hasc : asc (dl s) = bytesOf s := by
    unfold asc dl
    rw [List.map_map]
    conv => rhs; rw [← List.map_id (bytesOf s)]
    apply List.map_congr_left
    intro c _
    simp only [Function.comp, id]
    omega
  have hlast : (dl s).reverse.getLast? = some (bt s 0 - 48) := by
    rw [List.getLast?_reverse, List.head?_eq_getElem?]
    have := bt_get s 0 (by omega)
    rw [List.getD_eq_getElem?_getD, List.getElem?_eq_getElem (by rw [dl_length]; omega)] at this
    rw [List.getElem?_eq_getElem (by rw [dl_length]; omega)]
    simpa using this
  by_cases hz : bt s 0 = 48
  · have hs1 : s.size = 1 := by
      rcases h1 with h1 | h1
      · exact h1
      · exact absurd hz h1
    have hl := dl_length s
    rw [hs1] at hl
    obtain ⟨d, hd⟩ : ∃ d, dl s = [d] := by
      match hx : dl s, hl with
      | [d], _ => exact ⟨d, rfl⟩
    have hd0 : d = 0 := by
      rw [hd] at hlast
      simp at hlast
      omega
    subst hd0
    rw [hpe, hd]
    have : text (gval 10 [0].reverse).toNat = strOfNums (asc [0]) := rfl
    rw [this, ← hd, hasc]
    exact strOfNums_bytesOf s
  · have ht : Tr (dl s).reverse := fun y hy => by
      rw [hlast] at hy
      injection hy with hy
      omega
    have hdec := dec_gval hD ht
    rw [← hpe] at hdec
    have hne : (pv s s.size).toNat ≠ 0 := by
      intro hn
      rw [hn] at hdec
      have e0 : dec 0 = [] := digs_zero _ _
      rw [e0] at hdec
      have hl := dl_length s
      rw [← List.length_reverse, ← hdec] at hl
      simp at hl
      omega
    unfold text
    rw [if_neg hne, hdec]
    have : (asc (dl s).reverse).reverse = asc (dl s) := by unfold asc; rw [List.map_reverse, List.reverse_reverse]
    rw [this, hasc]
    exact strOfNums_bytesOf s
end Go.Proofs.Ytpalpikenkkhlaa.Nm
