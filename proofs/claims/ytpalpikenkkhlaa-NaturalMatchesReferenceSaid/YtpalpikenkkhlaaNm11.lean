/- What Bits, binary, Div and Uint64 of the reference answer, in numbers. -/
import Derived.Test.YtpalpikenkkhlaaNm10
import Derived.Test.YtpalpikenkkhlaaNtL
import Derived.Test.YtpalpikenkkhlaaNtM
import Derived.Lib.Hide
set_option linter.unusedVariables false
namespace Go.Proofs.Ytpalpikenkkhlaa.Nm
open Go.RowKit Go.Proofs.YtpalpikenkkhlaaW.PrintWords Go.Proofs.YtpalpikenkkhlaaW.PrintMore Go.Proofs.Ytpalpikenkkhlaa.Nt

/-! ### Bits -/
theorem gp2_32 : gp 2 32 = 4294967296 := by unfold gp; decide
theorem gp2_mul (i : Nat) : gp 2 (32 * i) = gp 4294967296 i := by
  induction i with
  | zero => rw [Nat.mul_zero, gp_zero, gp_zero]
  | succ n ih => rw [Nat.mul_succ, gp_add, ih, gp2_32, gp_succ]
theorem gval_snoc2 (xs : List Int) (v : Int) : gval 2 (xs ++ [v]) = gval 2 xs + gp 2 xs.length * v := by
  rw [gval_append]; simp [gval]
theorem rbits_loop (xs : List Int) (h : Lm xs) (hl : xs.length < 100000) : ∀ (d i : Nat) (acc : List Int), xs.length = i + d → acc.length = 32 * i → Digs 2 acc → gval 2 acc = val (xs.take i) →
    ∃ bs, Ev (fun k => koineref01_Bits.l0 k xs acc (i : Int)) bs ∧ Digs 2 bs ∧ bs.length = 32 * xs.length ∧ gval 2 bs = val xs := by
  intro d
  induction d with
  | zero =>
    intro i acc hi ha hD hv
    rw [List.take_of_length_le (by omega)] at hv
    refine ⟨acc, Ev.some_ fun k => ?_, hD, by omega, hv⟩
    simp only [koineref01_Bits.l0]
    rw [if_neg (by omega)]
  | succ d ih =>
    intro i acc hi ha hD hv
    have hX := Digs.get h (by decide) i
    have htx : val (xs.take (i + 1)) = val (xs.take i) + gp 4294967296 i * xs.getD i 0 := gval_take_beyond _ _ _
    -- the bits of one limb, whatever the rest answers
    have key : ∃ acc' : List Int, acc'.length = 32 * (i + 1) ∧ Digs 2 acc' ∧ gval 2 acc' = val (xs.take (i + 1)) ∧ ∀ r, Ev (fun k => koineref01_Bits.l0 k xs acc' ((i + 1 : Nat) : Int)) r → Ev (fun k => koineref01_Bits.l1 k xs acc (i : Int) (xs.getD i 0) ((0 : Nat) : Int)) r := by
      have gen : ∀ (d j : Nat) (acc : List Int) (v : Int), 32 = j + d → acc.length = 32 * i + j → Digs 2 acc → 0 ≤ v → v < gp 2 d → v < 4294967296 →
          ∃ acc' : List Int, acc'.length = 32 * (i + 1) ∧ Digs 2 acc' ∧ gval 2 acc' = gval 2 acc + gp 2 acc.length * v ∧ ∀ r, Ev (fun k => koineref01_Bits.l0 k xs acc' ((i + 1 : Nat) : Int)) r → Ev (fun k => koineref01_Bits.l1 k xs acc (i : Int) v (j : Int)) r := by
        intro d
        induction d with
        | zero =>
          intro j acc v hj ha hD h0 h1 h2
          rw [gp_zero] at h1
          have hv0 : v = 0 := by omega
          refine ⟨acc, by omega, hD, by rw [hv0, Int.mul_zero, Int.add_zero], fun r hr => Ev.step (fun k => ?_) hr⟩
          simp only [koineref01_Bits.l1]
          rw [if_neg (by omega), w64_add i (by omega)]
        | succ d ih =>
          intro j acc v hj ha hD h0 h1 h2
          rw [gp_succ] at h1
          have e1 : Int.tmod v 2 = v % 2 := Int.tmod_eq_emod_of_nonneg h0
          have e2 : Int.tdiv v 2 = v / 2 := Int.tdiv_eq_ediv_of_nonneg h0
          have e3 : wrap64 (v % 2) = v % 2 := w64 (by omega) (by omega)
          have e4 : v / 2 % 4294967296 = v / 2 := by omega
          have hal : acc.length < 17592186044416 := by omega
          have hs := gval_snoc2 acc (v % 2)
          have hlen : (acc ++ [v % 2]).length = acc.length + 1 := by simp
          obtain ⟨acc', a1, a2, a3, a4⟩ := ih (j + 1) (acc ++ [v % 2]) (v / 2) (by omega) (by rw [hlen]; omega) (hD.snoc (by omega) (by omega)) (by omega) (by omega) (by omega)
          refine ⟨acc', a1, a2, ?_, fun r hr => Ev.step (fun k => ?_) (a4 r hr)⟩
          · rw [a3, hs, hlen, gp_succ, Int.add_assoc, Int.mul_assoc, ← Int.mul_add]
            congr 2
            omega
          · simp only [koineref01_Bits.l1]
            rw [if_pos (by omega), if_pos hal, e1, e2, e3, e4, w64_add j (by omega)]
      obtain ⟨acc', a1, a2, a3, a4⟩ := gen 32 0 acc (xs.getD i 0) rfl (by omega) hD hX.1 (by rw [gp2_32]; exact hX.2) hX.2
      exact ⟨acc', a1, a2, by rw [a3, ha, gp2_mul, hv, htx], a4⟩
    obtain ⟨acc', a1, a2, a3, a4⟩ := key
    obtain ⟨bs, b1, b2⟩ := ih (i + 1) acc' (by omega) a1 a2 a3
    refine ⟨bs, Ev.step (fun k => ?_) (a4 bs b1), b2⟩
    simp only [koineref01_Bits.l0]
    rw [if_pos (by omega), if_pos (by omega), rd_nat]; rfl
theorem rbits_ev {xs : List Int} (h : Lm xs) (hl : xs.length < 100000) : ∃ bs, Ev (fun k => koineref01_Bits.f k xs) bs ∧ Digs 2 bs ∧ bs.length = 32 * xs.length ∧ gval 2 bs = val xs := by
  unfold koineref01_Bits.f
  exact rbits_loop xs h hl xs.length 0 [] (by omega) rfl (Digs.nil _) (by simp [val, gval])

/-! ### binary -/
theorem gp2_le {m n : Nat} (h : m ≤ n) : gp 2 m ≤ gp 2 n := gp_le (by decide) h
theorem rbinary_inner (bs : List Int) (hD : Digs 2 bs) (hl : bs.length < 10000000) (out : List Int) (hol : out.length < 10000000) (p m : Nat) (hp : p ≤ m) (hm : m ≤ bs.length) (hm2 : m ≤ p + 32) (r : List Int)
    (next : Ev (fun k => koineref01_binary.l0 k bs (out ++ [gval 2 ((bs.take m).drop p)]) ((p + 32 : Nat) : Int)) r) :
    ∀ (d n : Nat) (w : Int), n = p + d → n ≤ m → w = gval 2 ((bs.take m).drop n) → Ev (fun k => koineref01_binary.l1 k bs out (p : Int) w ((n : Int) - 1)) r := by
  intro d
  induction d with
  | zero =>
    intro n w hn hnm hw
    have : n = p := by omega
    subst this
    refine Ev.step (fun k => ?_) next
    simp only [koineref01_binary.l1]
    rw [if_neg (by omega), if_pos (by omega), hw]
    have : wrap64 ((n : Int) + 32) = ((n + 32 : Nat) : Int) := by rw [w64 (by omega) (by omega)]; omega
    rw [this]
  | succ d ih =>
    intro n w hn hnm hw
    have hn1 : ((n : Int) - 1) = ((n - 1 : Nat) : Int) := by omega
    have hDm : Digs 2 ((bs.take m).drop (n - 1)) := (hD.take m).drop (n - 1)
    have hB := Digs.get hD (by decide) (n - 1)
    have hg : (bs.take m).getD (n - 1) 0 = bs.getD (n - 1) 0 := by
      rw [List.getD_eq_getElem?_getD, List.getD_eq_getElem?_getD, List.getElem?_take, if_pos (by omega)]
    have hd : gval 2 ((bs.take m).drop (n - 1)) = bs.getD (n - 1) 0 + 2 * w := by
      rw [gval_drop_get, hg, show n - 1 + 1 = n by omega, hw]
    have hlt := gval_lt (b := 2) (by decide) hDm
    have h0 := gval_nonneg (b := 2) (by decide) ((hD.take m).drop n)
    rw [← hw] at h0
    have hle : gp 2 ((bs.take m).drop (n - 1)).length ≤ gp 2 32 := gp2_le (by simp; omega)
    rw [gp2_32] at hle
    rw [hd] at hlt
    have e : (2 * w % 4294967296 + bs.getD (n - 1) 0 % 4294967296) % 4294967296 = gval 2 ((bs.take m).drop (n - 1)) := by
      rw [hd]; omega
    have Hw := Lib.hid (show wrap64 (((n - 1 : Nat) : Int) - 1) = ((n - 1 : Nat) : Int) - 1 from w64 (by omega) (by omega))
    refine Ev.step (fun k => ?_) (ih (n - 1) _ (by omega) (by omega) rfl)
    simp only [koineref01_binary.l1]
    rw [hn1, if_pos (by omega), if_pos (by omega), if_pos (by omega), rd_nat, e, Hw.out]
theorem rbinary_loop (bs : List Int) (hD : Digs 2 bs) (hl : bs.length < 10000000) : ∀ (d q : Nat) (out : List Int), bs.length ≤ 32 * (q + d) → 32 * q < 10000100 → out.length = q → Lm out → val out = gval 2 (bs.take (32 * q)) →
    Ev (fun k => koineref01_binary.l0 k bs out ((32 * q : Nat) : Int)) (lim (gval 2 bs).toNat) := by
  intro d
  induction d with
  | zero =>
    intro q out hi hq ho hL hv
    rw [List.take_of_length_le (by omega)] at hv
    have ht := rtrim_ev hL (by omega)
    rw [hv] at ht
    refine Ev.step (f := fun k => (koineref01_trim.f k out).bind fun z => some z) (fun k => ?_) (Ev.map ht (fun z => z))
    simp only [koineref01_binary.l0]
    rw [if_neg (by omega)]
  | succ d ih =>
    intro q out hi hq ho hL hv
    by_cases hlt : 32 * q < bs.length
    · obtain ⟨m, hm⟩ : ∃ m, m = min bs.length (32 * q + 32) := ⟨_, rfl⟩
      have hDm : Digs 2 ((bs.take m).drop (32 * q)) := (hD.take m).drop (32 * q)
      have h0 := gval_nonneg (b := 2) (by decide) hDm
      have h1 := gval_lt (b := 2) (by decide) hDm
      have hle : gp 2 ((bs.take m).drop (32 * q)).length ≤ gp 2 32 := gp2_le (by simp; omega)
      rw [gp2_32] at hle
      have htk : bs.take (32 * (q + 1)) = bs.take m := by
        rcases Nat.le_total bs.length (32 * q + 32) with h | h
        · rw [List.take_of_length_le (by omega), List.take_of_length_le (by omega)]
        · congr 1; omega
      have hsp := gval_split 2 (bs.take m) (32 * q) (by simp; omega)
      rw [List.take_take, show min (32 * q) m = 32 * q by omega, gp2_mul] at hsp
      have hn := ih (q + 1) (out ++ [gval 2 ((bs.take m).drop (32 * q))]) (by omega) (by omega) (by simp; omega) (Digs.snoc hL h0 (by omega)) (by rw [val_snoc, ho, hv, htk, hsp])
      have hin := rbinary_inner bs hD hl out (by omega) (32 * q) m (by omega) (by omega) (by omega) _ hn (m - 32 * q) m 0 (by omega) (Nat.le_refl _) (by rw [List.drop_of_length_le (by simp; omega)]; rfl)
      have e1 : wrap64 (((32 * q : Nat) : Int) + 32) = ((32 * q + 32 : Nat) : Int) := by rw [w64 (by omega) (by omega)]; omega
      have e2 : mn (bs.length : Int) ((32 * q + 32 : Nat) : Int) = (m : Int) := by unfold mn; split <;> omega
      have e3 : wrap64 ((m : Int) - 1) = (m : Int) - 1 := w64 (by omega) (by omega)
      have E3 := Lib.hid e3
      clear e3
      have E1 := Lib.hid e1
      clear e1
      refine Ev.step (fun k => ?_) hin
      simp only [koineref01_binary.l0]
      rw [if_pos (by omega), E1.out, e2, E3.out]
    · have h2 : bs.length ≤ 32 * (q + 0) := by omega
      rw [List.take_of_length_le (by omega)] at hv
      have ht := rtrim_ev hL (by omega)
      rw [hv] at ht
      refine Ev.step (f := fun k => (koineref01_trim.f k out).bind fun z => some z) (fun k => ?_) (Ev.map ht (fun z => z))
      simp only [koineref01_binary.l0]
      rw [if_neg (by omega)]
theorem rbinary_ev {bs : List Int} (hD : Digs 2 bs) (hl : bs.length < 10000000) : Ev (fun k => koineref01_binary.f k bs) (lim (gval 2 bs).toNat) := by
  unfold koineref01_binary.f
  exact rbinary_loop bs hD hl bs.length 0 [] (by omega) (by omega) rfl (Digs.nil _) (by simp [val, gval])
end Go.Proofs.Ytpalpikenkkhlaa.Nm
