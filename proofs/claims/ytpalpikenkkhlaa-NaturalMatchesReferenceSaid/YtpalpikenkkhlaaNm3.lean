/- What short and Text of package natural answer, in numbers. -/
import Derived.Test.YtpalpikenkkhlaaNm2
set_option linter.unusedVariables false
namespace Go.Proofs.Ytpalpikenkkhlaa.Nm
open Go.RowKit Go.Proofs.YtpalpikenkkhlaaW.PrintWords Go.Proofs.YtpalpikenkkhlaaW.PrintMore Go.Proofs.Ytpalpikenkkhlaa.Nt

theorem wraps_u64 (n : Int) (h0 : 0 ≤ n) (h1 : n < 2 ^ 64) : IntKind.u64.wrap n = n := u64w h0 h1
theorem or_u64 {r x : Int} (hr : 0 ≤ r ∧ r < 4294967296) (hx : 0 ≤ x ∧ x < 4294967296) : Go.bits .or .u64 (IntKind.u64.wrap (r * 4294967296)) (IntKind.u64.wrap x) = r * 4294967296 + x := by
  rw [u64w (by omega) (by omega), u64w (by omega) (by omega)]
  exact bits_join .u64 64 (by decide) wraps_u64 32 (r * 4294967296) x (by omega) (show r * 4294967296 % 4294967296 = 0 by omega) (show r * 4294967296 < 18446744073709551616 by omega) hx.1 (show x < 4294967296 from hx.2) (show x < 18446744073709551616 by omega)
theorem w64_at (n i : Nat) (hn : n < 4611686018427387904) (hi : i < n) : wrap64 (wrap64 ((n : Int) - 1) - (i : Int)) = ((n - 1 - i : Nat) : Int) := by
  rw [show ((n : Int) - 1) = ((n - 1 + 1 : Nat) : Int) - 1 by omega, w64_sub (n - 1) (by omega), w64_subn (n - 1) i (by omega) (by omega)]

/-! ### short -/
theorem short_round {q xs : List Int} {n : Nat} {d r : Int} (hd0 : 0 < d) (hn : n < q.length) (hinv : val (xs.drop (n + 1)) = val (q.drop (n + 1)) * d + r) :
    val (xs.drop n) = val ((q.set n ((r * 4294967296 + xs.getD n 0) / d)).drop n) * d + (r * 4294967296 + xs.getD n 0) % d := by
  obtain ⟨s, hs⟩ : ∃ s, s = r * 4294967296 + xs.getD n 0 := ⟨_, rfl⟩
  rw [← hs]
  have e1 : val (xs.drop n) = xs.getD n 0 + 4294967296 * val (xs.drop (n + 1)) := gval_drop_get _ xs n
  have e2 : val ((q.set n (s / d)).drop n) = s / d + 4294967296 * val (q.drop (n + 1)) := by
    have := gval_drop_get 4294967296 (q.set n (s / d)) n
    have hds : (q.set n (s / d)).drop (n + 1) = q.drop (n + 1) := List.drop_set_of_lt (by omega)
    rw [List.getD_eq_getElem?_getD, List.getElem?_set_self hn, hds] at this
    exact this
  rw [e1, e2, hinv, Int.mul_add, Int.add_mul]
  have e3 := Int.mul_ediv_add_emod s d
  rw [Int.mul_comm (s / d) d]
  have e4 : 4294967296 * (val (q.drop (n + 1)) * d) = 4294967296 * val (q.drop (n + 1)) * d := (Int.mul_assoc _ _ _).symm
  omega
theorem short_loop (xs : List Int) (h : Lm xs) (hl : xs.length < 4294967296) (d : Int) (hd0 : 0 < d) (hd1 : d < 4294967296) : ∀ (n i : Nat) (q : List Int) (r : Int), xs.length = i + n → q.length = xs.length → Lm q → 0 ≤ r → r < d →
    val (xs.drop n) = val (q.drop n) * d + r →
    Ev (fun k => natural_short.l0 k xs d q r (xs.length : Int) (i : Int)) ((fit (val xs / d).toNat).1, val xs % d) := by
  intro n
  induction n with
  | zero =>
    intro i q r hi hq hL hr0 hr1 hv
    rw [List.drop_zero, List.drop_zero] at hv
    have hd : val xs / d = val q := by
      rw [hv, Int.mul_comm, Int.mul_add_ediv_left _ _ (by omega), Int.ediv_eq_zero_of_lt hr0 hr1, Int.add_zero]
    have hm : val xs % d = r := by
      rw [hv, Int.mul_comm, Int.mul_add_emod_self_left, Int.emod_eq_of_lt hr0 hr1]
    have ht := trim_ev hL (show q.length < 1099511627776 by omega)
    rw [hd, hm]
    have hr : r % 4294967296 = r := by omega
    refine Ev.step (f := fun k => (natural_trim.f k q).bind fun z => some (z.1, r)) (fun k => ?_) (Ev.map ht (fun z => (z.1, r)))
    simp only [natural_short.l0]
    rw [if_neg (by omega), hr]
  | succ n ih =>
    intro i q r hi hq hL hr0 hr1 hv
    have hx := Digs.get h (by decide) n
    have hin : xs.length - 1 - i = n := by omega
    have hlt : i < xs.length := by omega
    have hlb : xs.length < 4611686018427387904 := by omega
    have hor := or_u64 (r := r) (x := xs.getD n 0) (by omega) hx
    have hround := short_round (xs := xs) (r := r) hd0 (show n < q.length by omega) hv
    obtain ⟨s, hs⟩ : ∃ s, s = r * 4294967296 + xs.getD n 0 := ⟨_, rfl⟩
    rw [← hs] at hor hround
    have hs0 : 0 ≤ s := by omega
    have hsd : s < d * 4294967296 := by
      have : r * 4294967296 ≤ (d - 1) * 4294967296 := Int.mul_le_mul_of_nonneg_right (by omega) (by decide)
      omega
    have hq0 : 0 ≤ s / d := Int.ediv_nonneg hs0 (by omega)
    have hq1 : s / d < 4294967296 := Int.ediv_lt_of_lt_mul hd0 (by rw [Int.mul_comm]; exact hsd)
    have hm0 : 0 ≤ s % d := Int.emod_nonneg _ (by omega)
    have hm1 : s % d < d := Int.emod_lt_of_pos _ hd0
    have hdw : IntKind.u64.wrap d = d := u64w (by omega) (by omega)
    have htd : Int.tdiv s d = s / d := Int.tdiv_eq_ediv_of_nonneg hs0
    have htm : Int.tmod s d = s % d := Int.tmod_eq_emod_of_nonneg hs0
    have hqw : IntKind.u64.wrap (s / d) % 4294967296 = s / d := by rw [u64w hq0 (by omega)]; omega
    refine Ev.step (fun k => ?_) (ih (i + 1) (q.set n (s / d)) (s % d) (by omega) (by simpa using hq) (hL.set _ hq0 hq1) hm0 hm1 hround)
    simp only [natural_short.l0]
    rw [if_pos (by omega), w64_at _ _ hlb hlt, hin, if_pos (by omega), if_pos (by omega), hdw, if_neg (by omega), if_pos (by omega), rd_nat, hor, htd, htm, hqw, w64_add i (by omega), Int.toNat_natCast]
theorem short_ev {xs : List Int} (h : Lm xs) (hl : xs.length ≤ 1024) {d : Nat} (hd0 : 0 < d) (hd1 : d < 4294967296) :
    Ev (fun k => natural_short.f k xs (d : Int)) (lim ((val xs).toNat / d), (((val xs).toNat % d : Nat) : Int)) := by
  have hz := short_loop xs h (by omega) d (by omega) (by omega) xs.length 0 (List.replicate xs.length 0) 0 (by omega) (by simp) (Digs.replicate (by decide) _) (by omega) (by omega)
    (by rw [List.drop_length, List.drop_of_length_le (by simp)]; simp [val, gval])
  have hv := val_toNat h
  have hlt := val_toNat_lt h
  obtain ⟨m, hm⟩ : ∃ m, m = (val xs).toNat := ⟨_, rfl⟩
  rw [← hm] at hv hlt ⊢
  have e1 : (val xs / (d : Int)).toNat = m / d := by rw [← hv, ← Int.natCast_ediv, Int.toNat_natCast]
  have e2 : val xs % (d : Int) = ((m % d : Nat) : Int) := by rw [← hv, Int.natCast_emod]
  have e3 : fit (m / d) = (lim (m / d), 0) := by
    refine fit_ok (Nat.lt_of_le_of_lt (Nat.div_le_self _ _) (Nat.lt_of_lt_of_le hlt (np_le hl)))
  rw [e1, e2, e3] at hz
  unfold natural_short.f
  refine Ev.congr (fun k => ?_) hz
  rw [if_pos (by omega), if_pos (by omega), Int.toNat_natCast]; rfl

/-! ### Text -/
/-- The decimal digits, the least first. -/
def dec (n : Nat) : List Int := digs 10 (by decide) n
def asc (l : List Int) : List Int := l.map (fun d => 48 + d)
/-- The text of a number. -/
def text (n : Nat) : ByteArray := if n = 0 then ⟨#[48]⟩ else strOfNums (asc (dec n)).reverse
def D10 (l : List Int) : Prop := Digs 10 l
theorem gval_dec (n : Nat) : gval 10 (dec n) = n := gval_digs 10 (by decide) n
theorem dec_gval {l : List Int} (h : D10 l) (t : Tr l) : dec (gval 10 l).toNat = l := digs_gval 10 (by decide) l h t
theorem asc_length (l : List Int) : (asc l).length = l.length := by simp [asc]
theorem asc_append (l m : List Int) : asc (l ++ m) = asc l ++ asc m := by simp [asc]
theorem asc_get {l : List Int} {n : Nat} (h : n < l.length) : (asc l).getD n 0 = 48 + l.getD n 0 := by
  simp [asc, List.getD_eq_getElem?_getD, List.getElem?_eq_getElem h]

theorem text_l3 (bs : List Int) (hl : bs.length < 4294967296) : ∀ (d i : Nat) (out : List Int), bs.length = i + d → out.length = bs.length → (∀ j, j < i → out.getD j 0 = bs.reverse.getD j 0) →
    Ev (fun k => natural_Text.l3 k bs out (bs.length : Int) (i : Int)) (strOfNums bs.reverse) := by
  intro d
  induction d with
  | zero =>
    intro i out hi ho hj
    have e : out = bs.reverse := by
      apply List.ext_getElem?
      intro j
      rcases Nat.lt_or_ge j bs.length with h | h
      · have := hj j (by omega)
        simp only [List.getD_eq_getElem?_getD] at this
        rw [List.getElem?_eq_getElem (by omega), List.getElem?_eq_getElem (by simpa using h)] at this ⊢
        simpa using this
      · rw [List.getElem?_eq_none (by omega), List.getElem?_eq_none (by simpa using h)]
    rw [← e]
    refine Ev.some_ fun k => ?_
    simp only [natural_Text.l3]
    rw [if_neg (by omega)]
  | succ d ih =>
    intro i out hi ho hj
    have hlt : i < bs.length := by omega
    have hlb : bs.length < 4611686018427387904 := by omega
    refine Ev.step (fun k => ?_) (ih (i + 1) (out.set i (bs.getD (bs.length - 1 - i) 0)) (by omega) (by simpa using ho) ?_)
    · simp only [natural_Text.l3]
      rw [if_pos (by omega), w64_at _ _ hlb hlt, if_pos (by omega), if_pos (by omega), if_pos (by omega), if_pos (by omega), rd_nat, w64_add i (by omega), Int.toNat_natCast]
    · intro j hji
      by_cases he : j = i
      · subst he
        rw [List.getD_eq_getElem?_getD, List.getElem?_set_self (by omega), List.getD_eq_getElem?_getD, List.getD_eq_getElem?_getD, List.getElem?_reverse hlt]; rfl
      · rw [List.getD_eq_getElem?_getD, List.getElem?_set_ne (by omega), ← List.getD_eq_getElem?_getD]
        exact hj j (by omega)
theorem text_j3 (bs : List Int) (hl : bs.length < 4294967296) : Ev (fun k => natural_Text.j3 k bs) (if bs = [] then ⟨#[48]⟩ else strOfNums bs.reverse) := by
  by_cases h : bs = []
  · subst h
    refine Ev.some_ fun k => ?_
    simp only [natural_Text.j3]
    rfl
  · have hp : 0 < bs.length := List.length_pos_iff.2 h
    rw [if_neg h]
    refine Ev.step (fun k => ?_) (text_l3 bs hl bs.length 0 (List.replicate bs.length 0) (by omega) (by simp) (fun j hj => by omega))
    simp only [natural_Text.j3]
    rw [if_neg (by omega), if_pos (by omega), if_pos (by omega), Int.toNat_natCast]; rfl
/-- Zeros at the end are taken away, but for the last digit. -/
theorem text_l2 : ∀ (n : Nat) (ds : List Int), ds.length = n → n < 4294967296 → D10 ds → (ds = [] → gval 10 ds = 0) →
    Ev (fun k => natural_Text.l2 k (asc ds)) (text (gval 10 ds).toNat) := by
  intro n
  induction n with
  | zero =>
    intro ds hn hb hD h0
    have : ds = [] := List.eq_nil_of_length_eq_zero hn
    subst this
    refine Ev.val_eq (Ev.step (fun k => ?_) (text_j3 (asc []) (by simp [asc]))) (by simp [asc, text, gval])
    simp only [natural_Text.l2]
    rw [if_neg (by simp [asc])]
  | succ n ih =>
    intro ds hn hb hD h0
    have hal := asc_length ds
    have hlast := Digs.get hD (by decide) n
    have hget := asc_get (l := ds) (n := n) (by omega)
    by_cases h1 : n = 0
    · subst h1
      obtain ⟨d, rfl⟩ : ∃ d, ds = [d] := by
        match ds, hn with
        | [d], _ => exact ⟨d, rfl⟩
      have hd := hD d (List.mem_cons_self)
      have e : text (gval 10 [d]).toNat = strOfNums (asc [d]).reverse := by
        by_cases hz : d = 0
        · subst hz; rfl
        · have ht : Tr [d] := fun y hy => by simp at hy; omega
          have := dec_gval hD ht
          have hp : (gval 10 [d]).toNat ≠ 0 := by simp [gval]; omega
          unfold text
          rw [if_neg hp, this]
      rw [e]
      refine Ev.val_eq (Ev.step (fun k => ?_) (text_j3 (asc [d]) (by simp [asc]))) (by simp [asc])
      simp only [natural_Text.l2]
      rw [if_neg (by simp [asc])]
    · have hs : wrap64 (((asc ds).length : Int) - 1) = (n : Int) := by rw [hal, hn]; exact w64_sub n (by omega)
      by_cases hz : ds.getD n 0 = 0
      · have ht : asc (ds.take n) = (asc ds).take n := by simp [asc, List.map_take]
        have hv : gval 10 (ds.take n) = gval 10 ds := by
          have := gval_take_succ 10 ds n (by omega)
          rw [hz, Int.mul_zero, Int.add_zero, List.take_of_length_le (by omega)] at this
          exact this.symm
        have := ih (ds.take n) (by rw [List.length_take]; omega) (by omega) (Digs.take hD n) (fun he => by rw [he]; rfl)
        rw [hv, ht] at this
        refine Ev.step (fun k => ?_) this
        have c1 : rd (asc ds) (n : Int) = 48 := by rw [rd_nat, hget]; omega
        have c2 : ((asc ds).length : Int) > 1 := by omega
        have c3 : (n : Int) < ((asc ds).length : Int) := by omega
        have c4 : (n : Int) ≤ ((asc ds).length : Int) := by omega
        simp only [natural_Text.l2, hs]
        rw [if_pos c2, if_pos (by omega), if_pos c3, if_pos c1, if_pos c4, Int.toNat_natCast]
      · have ht : Tr ds := by
          intro y hy
          rw [getLast_getD hn] at hy
          injection hy with hy
          rw [← hy]; exact hz
        have hd := dec_gval hD ht
        have hp : (gval 10 ds).toNat ≠ 0 := by
          intro h0'
          rw [h0'] at hd
          have : dec 0 = [] := digs_zero _ _
          rw [this] at hd
          rw [← hd] at hn
          simp at hn
        have e : text (gval 10 ds).toNat = strOfNums (asc ds).reverse := by
          unfold text
          rw [if_neg hp, hd]
        have hne : asc ds ≠ [] := by intro h'; rw [h'] at hal; simp at hal; omega
        rw [e]
        refine Ev.val_eq (Ev.step (fun k => ?_) (text_j3 (asc ds) (by omega))) (by rw [if_neg hne])
        have c1 : ¬ rd (asc ds) (n : Int) = 48 := by rw [rd_nat, hget]; omega
        have c2 : ((asc ds).length : Int) > 1 := by omega
        have c3 : (n : Int) < ((asc ds).length : Int) := by omega
        simp only [natural_Text.l2, hs]
        rw [if_pos c2, if_pos (by omega), if_pos c3, if_neg c1]
/-- Nine digits are written. -/
theorem text_l1 (a4 : List Int) (res : ByteArray) : ∀ (d j : Nat) (ds : List Int) (r : Int), 9 = j + d → ds.length + d < 4294967296 → D10 ds → 0 ≤ r → r < gp 10 d → r < 4294967296 →
    (∀ ds', D10 ds' → ds'.length = ds.length + d → gval 10 ds' = gval 10 ds + gp 10 ds.length * r → Ev (fun k => natural_Text.l0 k a4 (asc ds')) res) →
    Ev (fun k => natural_Text.l1 k (asc ds) a4 r (j : Int)) res := by
  intro d
  induction d with
  | zero =>
    intro j ds r hj hl hD h0 h1 h2 next
    rw [gp_zero] at h1
    have hr : r = 0 := by omega
    refine Ev.step (fun k => ?_) (next ds hD (by omega) (by rw [hr]; simp))
    simp only [natural_Text.l1]
    rw [if_neg (by omega)]
  | succ d ih =>
    intro j ds r hj hl hD h0 h1 h2 next
    have ht : Int.tmod r 10 = r % 10 := Int.tmod_eq_emod_of_nonneg h0
    have hq : Int.tdiv r 10 % 4294967296 = r / 10 := by
      rw [Int.tdiv_eq_ediv_of_nonneg h0, Int.emod_eq_of_lt (by omega) (by omega)]
    have hm : (48 + r % 10) % 256 = 48 + r % 10 := by omega
    have hal := asc_length ds
    have e : asc ds ++ [48 + r % 10] = asc (ds ++ [r % 10]) := by rw [asc_append]; rfl
    have hlt : r / 10 < gp 10 d := by
      rw [gp_succ] at h1
      omega
    refine Ev.step (fun k => ?_) (ih (j + 1) (ds ++ [r % 10]) (r / 10) (by omega) (by simp; omega) (Digs.snoc hD (by omega) (by omega)) (by omega) hlt (by omega) ?_)
    · simp only [natural_Text.l1]
      rw [if_pos (by omega), if_pos (by omega), ht, hm, hq, e, w64_add j (by omega)]
    · intro ds' hD' hl' hv'
      refine next ds' hD' (by rw [hl']; simp; omega) ?_
      rw [hv', gval_append]
      simp only [gval, List.length_append, List.length_cons, List.length_nil, Nat.zero_add, gp_succ, Int.mul_zero, Int.add_zero]
      rw [Int.mul_assoc, Int.add_assoc, ← Int.mul_add]
      congr 2
      omega
theorem text_l0 : ∀ (b n : Nat) (ds : List Int), n < 2 ^ b → (lim n).length ≤ 1024 → ds.length + 9 * b < 4294967296 → D10 ds →
    Ev (fun k => natural_Text.l0 k (lim n) (asc ds)) (text (gval 10 ds + gp 10 ds.length * n).toNat) := by
  intro b
  induction b with
  | zero =>
    intro n ds hn hl hb hD
    have hn0 : n = 0 := by simpa using hn
    subst hn0
    rw [lim_zero]
    refine Ev.val_eq (Ev.step (fun k => ?_) (text_l2 ds.length ds rfl (by omega) hD (fun he => by rw [he]; rfl))) (by simp)
    simp only [natural_Text.l0]
    rw [if_neg (by simp)]
  | succ b ih =>
    intro n ds hn hl hb hD
    by_cases hn0 : n = 0
    · subst hn0
      exact ih 0 ds (Nat.two_pow_pos b) hl (by omega) hD
    · have hne : (lim n).length ≠ 0 := by
        intro h0
        exact hn0 ((lim_nil_iff n).1 (List.eq_nil_of_length_eq_zero h0))
      have hs := short_ev (lm_lim n) hl (d := 1000000000) (by decide) (by decide)
      rw [val_lim, Int.toNat_natCast] at hs
      have hq : n / 1000000000 < 2 ^ b := by
        rw [Nat.pow_succ] at hn
        omega
      have hql : (lim (n / 1000000000)).length ≤ 1024 := by
        rw [lim_len_iff] at hl ⊢
        exact Nat.lt_of_le_of_lt (Nat.div_le_self _ _) hl
      have hg9 : gp 10 9 = 1000000000 := by unfold gp; decide
      refine Ev.step (f := fun k => (natural_short.f k (lim n) 1000000000).bind fun z => natural_Text.l1 k (asc ds) z.1 z.2 0) (fun k => ?_) (Ev.bind (f := fun k z => natural_Text.l1 k (asc ds) z.1 z.2 0) hs ?_)
      · simp only [natural_Text.l0]
        rw [if_pos (by omega)]
      · refine text_l1 (lim (n / 1000000000)) _ 9 0 ds ((n % 1000000000 : Nat) : Int) (by omega) (by omega) hD (by omega) (by rw [hg9]; omega) (by omega) ?_
        intro ds' hD' hl' hv'
        refine Ev.val_eq (ih (n / 1000000000) ds' hq hql (by omega) hD') ?_
        congr 2
        rw [hv', hl', gp_add, hg9, Int.add_assoc, Int.mul_assoc, ← Int.mul_add]
        congr 2
        omega
theorem text_ev {n : Nat} (h : (lim n).length ≤ 1024) : Ev (fun k => natural_Text.f k (lim n)) (text n) := by
  have hb : n < 2 ^ (32 * (lim n).length) := by
    have h1 := (lim_len_iff (lim n).length n).1 (Nat.le_refl _)
    have e : ∀ K, np K = 2 ^ (32 * K) := by
      intro K
      unfold np
      rw [Nat.pow_mul]
    rw [e] at h1
    exact h1
  have := text_l0 (32 * (lim n).length) n [] hb h (by simp; omega) (Digs.nil _)
  unfold natural_Text.f
  simp only [valid_lim h, Option.bind_some, if_true]
  refine Ev.val_eq this ?_
  simp [gval, gp_zero]
theorem text_bad {xs : List Int} (h : okB xs = false) : Ev (fun k => natural_Text.f k xs) ⟨#[]⟩ := by
  unfold natural_Text.f
  simp only [valid_eq, h, Option.bind_some, Bool.false_eq_true, if_false]
  exact Ev.now _
end Go.Proofs.Ytpalpikenkkhlaa.Nm
