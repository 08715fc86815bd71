/- NaturalStrings, the plain law: for every string of at most 100 bytes, Parse answers as Text and the digits say. -/
import Derived.Test.YtpalpikenkkhlaaNm4
import Derived.Test.YtpalpikenkkhlaaLwStrings
set_option linter.unusedVariables false
namespace Go.Proofs.Ytpalpikenkkhlaa.Nm
open Go.RowKit Go.Proofs.YtpalpikenkkhlaaW.PrintWords Go.Proofs.YtpalpikenkkhlaaW.PrintMore Go.Proofs.Ytpalpikenkkhlaa.Nt

theorem strings_off (s : ByteArray) (t : Bool) (v : List Int) (e : Int) (r : Bool) (hs : s.size ≤ 100) (next : Ev (fun k => koinelaw01_NaturalStrings.j1 k s t v e false) r) :
    ∀ (d i : Nat), s.size = i + d → Ev (fun k => koinelaw01_NaturalStrings.l0 k s t v e false (i : Int)) r := by
  intro d
  induction d with
  | zero =>
    intro i hi
    refine Ev.step (fun k => ?_) next
    simp only [koinelaw01_NaturalStrings.l0]
    rw [if_neg (by omega), if_neg (by decide)]
  | succ d ih =>
    intro i hi
    refine Ev.step (fun k => ?_) (ih (i + 1) (by omega))
    simp only [koinelaw01_NaturalStrings.l0]
    rw [if_pos (by omega), if_neg (by decide), w64_add i (by omega)]
theorem strings_on (s : ByteArray) (t : Bool) (v : List Int) (e : Int) (r : Bool) (hs : s.size ≤ 100) (h0 : s.size ≠ 0) (hd : AllD s) (b : Bool) (hb : b = true ↔ s.size = 1 ∨ bt s 0 ≠ 48)
    (next : Ev (fun k => koinelaw01_NaturalStrings.j1 k s t v e b) r) :
    ∀ (d i : Nat), s.size = i + d → Ev (fun k => koinelaw01_NaturalStrings.l0 k s t v e true (i : Int)) r := by
  intro d
  induction d with
  | zero =>
    intro i hi
    refine Ev.step (fun k => ?_) next
    simp only [koinelaw01_NaturalStrings.l0]
    rw [if_neg (by omega), if_pos trivial]
    by_cases h1 : s.size = 1
    · have : b = true := hb.2 (.inl h1)
      rw [if_pos (by omega), this]
    · rw [if_neg (by omega), if_pos (by omega)]
      congr 1
      cases b with
      | true =>
        rcases hb.1 rfl with h | h
        · exact absurd h h1
        · exact bne_iff_ne.2 h
      | false =>
        have : bt s 0 = 48 := Classical.byContradiction fun h => by have := hb.2 (.inr h); cases this
        rw [this]; rfl
  | succ d ih =>
    intro i hi
    have hdi := hd i (by omega)
    refine Ev.step (fun k => ?_) (ih (i + 1) (by omega))
    simp only [koinelaw01_NaturalStrings.l0]
    rw [if_pos (by omega), if_pos trivial, if_pos (by omega), if_pos (by omega), w64_add i (by omega), decide_eq_true hdi.2]
theorem strings_turn (s : ByteArray) (t : Bool) (v : List Int) (e : Int) (r : Bool) (hs : s.size ≤ 100) (next : Ev (fun k => koinelaw01_NaturalStrings.j1 k s t v e false) r) :
    ∀ (d i j : Nat), j = i + d → j < s.size → (bt s (j : Int) < 48 ∨ 57 < bt s (j : Int)) → Ev (fun k => koinelaw01_NaturalStrings.l0 k s t v e true (i : Int)) r := by
  intro d
  induction d with
  | zero =>
    intro i j hj hjs hb
    have : i = j := by omega
    subst this
    refine Ev.step (fun k => ?_) (strings_off s t v e r hs next (s.size - (i + 1)) (i + 1) (by omega))
    simp only [koinelaw01_NaturalStrings.l0]
    rw [if_pos (by omega), if_pos trivial, if_pos (by omega), w64_add i (by omega)]
    by_cases h1 : bt s (i : Int) ≥ 48
    · rw [if_pos h1, decide_eq_false (by omega)]
    · rw [if_neg h1]
  | succ d ih =>
    intro i j hj hjs hb
    by_cases h1 : bt s (i : Int) ≥ 48 ∧ bt s (i : Int) ≤ 57
    · refine Ev.step (fun k => ?_) (ih (i + 1) j (by omega) hjs hb)
      simp only [koinelaw01_NaturalStrings.l0]
      rw [if_pos (by omega), if_pos trivial, if_pos (by omega), if_pos h1.1, w64_add i (by omega), decide_eq_true h1.2]
    · refine Ev.step (fun k => ?_) (strings_off s t v e r hs next (s.size - (i + 1)) (i + 1) (by omega))
      simp only [koinelaw01_NaturalStrings.l0]
      rw [if_pos (by omega), if_pos trivial, if_pos (by omega), w64_add i (by omega)]
      by_cases h2 : bt s (i : Int) ≥ 48
      · rw [if_pos h2, decide_eq_false (by omega)]
      · rw [if_neg h2]

theorem strings_pure : koinelaw01_NaturalStrings.Pure := by
  intro s hs
  refine Ev.rounds (r := true) ?_
  unfold koinelaw01_NaturalStrings.f
  refine Ev.bind (f := fun k t => if (s.size : Int) > 100 then (some t) else ((natural_Parse.f k s).bind fun z => (koinelaw01_NaturalStrings.l0 k s t z.1 z.2 (s.toList != ([] : List UInt8)) 0))) sanity_ev ?_
  by_cases hl : (s.size : Int) > 100
  · refine Ev.all fun k => ?_
    rw [if_pos hl]
  · have hl' : s.size ≤ 100 := by omega
    refine Ev.congr (f := fun k => (natural_Parse.f k s).bind fun z => (koinelaw01_NaturalStrings.l0 k s true z.1 z.2 (s.toList != ([] : List UInt8)) 0)) (fun k => ?_) ?_
    · rw [if_neg hl]
    · by_cases hg : Good s
      · refine Ev.bind (f := fun k z => koinelaw01_NaturalStrings.l0 k s true z.1 z.2 (s.toList != ([] : List UInt8)) 0) (parse_good (by omega) hg) ?_
        have hf : (s.toList != ([] : List UInt8)) = true := by
          rw [bne_iff_ne]; intro h; exact hg.1 ((toList_nil s).1 h)
        rw [hf]
        have hsm := pv_small hg.2.2 s.size (by omega)
        refine strings_on s true _ 0 true hl' hg.1 hg.2.2 true (by simp [hg.2.1]) ?_ s.size 0 (by omega)
        refine Ev.step (f := fun k => (natural_Text.f k (lim (pv s s.size).toNat)).bind fun t => if t.toList = s.toList then some true else some false) (fun k => ?_) ?_
        · simp only [koinelaw01_NaturalStrings.j1]
          rw [if_pos trivial, if_pos trivial, valid_lim (n := (pv s s.size).toNat) (by omega), Option.bind_some, if_pos rfl]
        · refine Ev.bind (f := fun _ t => if t.toList = s.toList then some true else some false) (text_ev (n := (pv s s.size).toNat) (by omega)) ?_
          rw [text_pv hg]
          refine Ev.all fun k => ?_
          rw [if_pos rfl]
      · refine Ev.bind (f := fun k z => koinelaw01_NaturalStrings.l0 k s true z.1 z.2 (s.toList != ([] : List UInt8)) 0) (parse_bad (by omega) hg) ?_
        have hlast : Ev (fun k => koinelaw01_NaturalStrings.j1 k s true [] 12 false) true := by
          refine Ev.some_ fun k => ?_
          simp only [koinelaw01_NaturalStrings.j1]
          rfl
        by_cases h0 : s.size = 0
        · have hf : (s.toList != ([] : List UInt8)) = false := by rw [(toList_nil s).2 h0]; rfl
          rw [hf]
          exact strings_off s true [] 12 true hl' hlast s.size 0 (by omega)
        · have hf : (s.toList != ([] : List UInt8)) = true := by
            rw [bne_iff_ne]; intro h; exact h0 ((toList_nil s).1 h)
          rw [hf]
          rcases allD_em s with h2 | ⟨j, hj, hb⟩
          · have hn : ¬ (s.size = 1 ∨ bt s 0 ≠ 48) := fun h => hg ⟨h0, h, h2⟩
            exact strings_on s true [] 12 true hl' h0 h2 false (by constructor <;> intro h; cases h; exact absurd h hn) hlast s.size 0 (by omega)
          · exact strings_turn s true [] 12 true hl' hlast j 0 j (by omega) hj hb
end Go.Proofs.Ytpalpikenkkhlaa.Nm
namespace Go.Proofs.Ytpalpikenkkhlaa.Pure
theorem NaturalStrings : Nt.koinelaw01_NaturalStrings.Pure := Nm.strings_pure
end Go.Proofs.Ytpalpikenkkhlaa.Pure
