/- The machine side of the laws on natural numbers: for each Go function a Lean function with the same answers, and the walk that shows it. It began as the print of print.sh (turned to one namespace, copy told as a law of our own, mended); Lean checks it. -/
import Derived.Test.YtpalpikenkkhlaaNtF
import Derived.Test.YtpalpikenkkhlaaNtJ
import Derived.Test.YtpalpikenkkhlaaNtL
import Derived.Test.YtpalpikenkkhlaaNtH
import Derived.Test.YtpalpikenkkhlaaNtM
namespace Go.Proofs.Ytpalpikenkkhlaa.Nt
open Go.RowKit Go.Proofs.YtpalpikenkkhlaaW.PrintWords Go.Proofs.YtpalpikenkkhlaaW.PrintLast Go.Proofs.YtpalpikenkkhlaaW.PrintMore
attribute [local go_sem] max2_int min2_int max_two min_two max_three min_three max_four min_four   -- for this text's walks alone
set_option linter.unusedVariables false
set_option linter.unusedSimpArgs false

/-! ### koinelaw01_NaturalMatchesReference: function 12 -/
mutual
def koinelaw01_NaturalMatchesReference.j0 : Nat → List Int → List Int → Int → Bool → Bool → Option (Bool)
 | 0, _, _, _, _, _ => none
 | k + 1, x0, x1, x2, x7, x31 => if x31 = true then (some x7) else ((natural_Add.f k x0 x1).bind fun bt762 => ((koineref01_Add.f k x0 x1).bind fun bt766 => (if bt762.2 = bt766.2 then ((koineref01_Same.f k bt762.1 bt766.1).bind fun t770 => (koinelaw01_NaturalMatchesReference.j1 k x0 x1 x2 x7 (!t770))) else (koinelaw01_NaturalMatchesReference.j1 k x0 x1 x2 x7 true))))
def koinelaw01_NaturalMatchesReference.j1 : Nat → List Int → List Int → Int → Bool → Bool → Option (Bool)
 | 0, _, _, _, _, _ => none
 | k + 1, x0, x1, x2, x7, x53 => if x53 = true then (some false) else ((natural_Sub.f k x0 x1).bind fun bt771 => ((koineref01_Sub.f k x0 x1).bind fun bt775 => (if bt771.2 = bt775.2 then ((koineref01_Same.f k bt771.1 bt775.1).bind fun t779 => (koinelaw01_NaturalMatchesReference.j2 k x0 x1 x2 x7 (!t779))) else (koinelaw01_NaturalMatchesReference.j2 k x0 x1 x2 x7 true))))
def koinelaw01_NaturalMatchesReference.j2 : Nat → List Int → List Int → Int → Bool → Bool → Option (Bool)
 | 0, _, _, _, _, _ => none
 | k + 1, x0, x1, x2, x7, x74 => if x74 = true then (some false) else ((natural_Mul.f k x0 x1).bind fun bt780 => ((koineref01_Mul.f k x0 x1).bind fun bt784 => (if bt780.2 = bt784.2 then ((koineref01_Same.f k bt780.1 bt784.1).bind fun t788 => (koinelaw01_NaturalMatchesReference.j3 k x0 x1 x2 x7 (!t788))) else (koinelaw01_NaturalMatchesReference.j3 k x0 x1 x2 x7 true))))
def koinelaw01_NaturalMatchesReference.j3 : Nat → List Int → List Int → Int → Bool → Bool → Option (Bool)
 | 0, _, _, _, _, _ => none
 | k + 1, x0, x1, x2, x7, x95 => if x95 = true then (some false) else ((natural_Div.f k x0 x1).bind fun bt789 => ((koineref01_Div.f k x0 x1).bind fun bt796 => ((natural_Uint64.f k x0).bind fun bt803 => ((koineref01_Uint64.f k x0).bind fun bt805 => ((natural_Valid.f x0).bind fun t807 => ((koineref01_Valid.f x0).bind fun t808 => (if (t807 == t808) = true then ((natural_Compare.f k x0 x1).bind fun t809 => ((koineref01_Compare.f k x0 x1).bind fun t810 => (if t809 = t810 then (if bt803.1 = bt805.1 then (if (bt803.2 == bt805.2) = true then ((natural_Of.f k x2).bind fun t811 => ((koineref01_Of.f k x2).bind fun t814 => ((koineref01_Same.f k t811 t814).bind fun t817 => (if bt789.2.2 = bt796.2.2 then ((koineref01_Same.f k bt789.1 bt796.1).bind fun t818 => (if t818 = true then ((koineref01_Same.f k bt789.2.1 bt796.2.1).bind fun t819 => (if t819 = true then (if t817 = true then (some x7) else (some false)) else (some false))) else (some false))) else (some false))))) else (none)) else (none)) else (none)))) else (none))))))))
end
def koinelaw01_NaturalMatchesReference.f (k : Nat) (l0 : List Int) (l1 : List Int) (a2 : Int) : Option (Bool) := (koinelaw01_sanity.f k).bind fun t761 => (if (l0.length : Int) > 30 then (koinelaw01_NaturalMatchesReference.j0 k l0 l1 a2 t761 true) else (koinelaw01_NaturalMatchesReference.j0 k l0 l1 a2 t761 (decide ((l1.length : Int) > 30))))
theorem koinelaw01_NaturalMatchesReference.mono_l : ∀ k, (∀ y0 y1 y2 y3 y4, LeO (koinelaw01_NaturalMatchesReference.j0 k y0 y1 y2 y3 y4) (koinelaw01_NaturalMatchesReference.j0 (k + 1) y0 y1 y2 y3 y4)) ∧ (∀ y0 y1 y2 y3 y4, LeO (koinelaw01_NaturalMatchesReference.j1 k y0 y1 y2 y3 y4) (koinelaw01_NaturalMatchesReference.j1 (k + 1) y0 y1 y2 y3 y4)) ∧ (∀ y0 y1 y2 y3 y4, LeO (koinelaw01_NaturalMatchesReference.j2 k y0 y1 y2 y3 y4) (koinelaw01_NaturalMatchesReference.j2 (k + 1) y0 y1 y2 y3 y4)) ∧ (∀ y0 y1 y2 y3 y4, LeO (koinelaw01_NaturalMatchesReference.j3 k y0 y1 y2 y3 y4) (koinelaw01_NaturalMatchesReference.j3 (k + 1) y0 y1 y2 y3 y4))
 | 0 => ⟨fun _ _ _ _ _ r h => by simp [koinelaw01_NaturalMatchesReference.j0] at h, fun _ _ _ _ _ r h => by simp [koinelaw01_NaturalMatchesReference.j1] at h, fun _ _ _ _ _ r h => by simp [koinelaw01_NaturalMatchesReference.j2] at h, fun _ _ _ _ _ r h => by simp [koinelaw01_NaturalMatchesReference.j3] at h⟩
 | k + 1 => by
  obtain ⟨ih0, ih1, ih2, ih3⟩ := koinelaw01_NaturalMatchesReference.mono_l k
  refine ⟨?_, ?_, ?_, ?_⟩
  ·intro y0 y1 y2 y3 y4
   unfold koinelaw01_NaturalMatchesReference.j0
   repeat' first
   | (with_reducible exact ih0 _ _ _ _ _)
   | (with_reducible exact ih1 _ _ _ _ _)
   | (with_reducible exact ih2 _ _ _ _ _)
   | (with_reducible exact ih3 _ _ _ _ _)
   | (with_reducible exact koinelaw01_sanity.mono _)
   | (with_reducible exact koineref01_Add.mono _ _ _)
   | (with_reducible exact koineref01_Compare.mono _ _ _)
   | (with_reducible exact koineref01_Div.mono _ _ _)
   | (with_reducible exact koineref01_Mul.mono _ _ _)
   | (with_reducible exact koineref01_Of.mono _ _)
   | (with_reducible exact koineref01_Same.mono _ _ _)
   | (with_reducible exact koineref01_Sub.mono _ _ _)
   | (with_reducible exact koineref01_Uint64.mono _ _)
   | (with_reducible exact natural_Add.mono _ _ _)
   | (with_reducible exact natural_Compare.mono _ _ _)
   | (with_reducible exact natural_Div.mono _ _ _)
   | (with_reducible exact natural_Mul.mono _ _ _)
   | (with_reducible exact natural_Of.mono _ _)
   | (with_reducible exact natural_Sub.mono _ _ _)
   | (with_reducible exact natural_Uint64.mono _ _)
   | (with_reducible exact LeO.refl _)
   | (with_reducible exact LeO.none _)
   | (with_reducible refine LeO.ite ?_ ?_)
   | (with_reducible refine LeO.bind ?_ (fun _ => ?_))
   | exact ih0 _ _ _ _ _
   | exact ih1 _ _ _ _ _
   | exact ih2 _ _ _ _ _
   | exact ih3 _ _ _ _ _
   | exact koinelaw01_sanity.mono _
   | exact koineref01_Add.mono _ _ _
   | exact koineref01_Compare.mono _ _ _
   | exact koineref01_Div.mono _ _ _
   | exact koineref01_Mul.mono _ _ _
   | exact koineref01_Of.mono _ _
   | exact koineref01_Same.mono _ _ _
   | exact koineref01_Sub.mono _ _ _
   | exact koineref01_Uint64.mono _ _
   | exact natural_Add.mono _ _ _
   | exact natural_Compare.mono _ _ _
   | exact natural_Div.mono _ _ _
   | exact natural_Mul.mono _ _ _
   | exact natural_Of.mono _ _
   | exact natural_Sub.mono _ _ _
   | exact natural_Uint64.mono _ _
   | exact LeO.none _
   | refine LeO.ite ?_ ?_
   | refine LeO.bind ?_ (fun _ => ?_)
  ·intro y0 y1 y2 y3 y4
   unfold koinelaw01_NaturalMatchesReference.j1
   repeat' first
   | (with_reducible exact ih0 _ _ _ _ _)
   | (with_reducible exact ih1 _ _ _ _ _)
   | (with_reducible exact ih2 _ _ _ _ _)
   | (with_reducible exact ih3 _ _ _ _ _)
   | (with_reducible exact koinelaw01_sanity.mono _)
   | (with_reducible exact koineref01_Add.mono _ _ _)
   | (with_reducible exact koineref01_Compare.mono _ _ _)
   | (with_reducible exact koineref01_Div.mono _ _ _)
   | (with_reducible exact koineref01_Mul.mono _ _ _)
   | (with_reducible exact koineref01_Of.mono _ _)
   | (with_reducible exact koineref01_Same.mono _ _ _)
   | (with_reducible exact koineref01_Sub.mono _ _ _)
   | (with_reducible exact koineref01_Uint64.mono _ _)
   | (with_reducible exact natural_Add.mono _ _ _)
   | (with_reducible exact natural_Compare.mono _ _ _)
   | (with_reducible exact natural_Div.mono _ _ _)
   | (with_reducible exact natural_Mul.mono _ _ _)
   | (with_reducible exact natural_Of.mono _ _)
   | (with_reducible exact natural_Sub.mono _ _ _)
   | (with_reducible exact natural_Uint64.mono _ _)
   | (with_reducible exact LeO.refl _)
   | (with_reducible exact LeO.none _)
   | (with_reducible refine LeO.ite ?_ ?_)
   | (with_reducible refine LeO.bind ?_ (fun _ => ?_))
   | exact ih0 _ _ _ _ _
   | exact ih1 _ _ _ _ _
   | exact ih2 _ _ _ _ _
   | exact ih3 _ _ _ _ _
   | exact koinelaw01_sanity.mono _
   | exact koineref01_Add.mono _ _ _
   | exact koineref01_Compare.mono _ _ _
   | exact koineref01_Div.mono _ _ _
   | exact koineref01_Mul.mono _ _ _
   | exact koineref01_Of.mono _ _
   | exact koineref01_Same.mono _ _ _
   | exact koineref01_Sub.mono _ _ _
   | exact koineref01_Uint64.mono _ _
   | exact natural_Add.mono _ _ _
   | exact natural_Compare.mono _ _ _
   | exact natural_Div.mono _ _ _
   | exact natural_Mul.mono _ _ _
   | exact natural_Of.mono _ _
   | exact natural_Sub.mono _ _ _
   | exact natural_Uint64.mono _ _
   | exact LeO.none _
   | refine LeO.ite ?_ ?_
   | refine LeO.bind ?_ (fun _ => ?_)
  ·intro y0 y1 y2 y3 y4
   unfold koinelaw01_NaturalMatchesReference.j2
   repeat' first
   | (with_reducible exact ih0 _ _ _ _ _)
   | (with_reducible exact ih1 _ _ _ _ _)
   | (with_reducible exact ih2 _ _ _ _ _)
   | (with_reducible exact ih3 _ _ _ _ _)
   | (with_reducible exact koinelaw01_sanity.mono _)
   | (with_reducible exact koineref01_Add.mono _ _ _)
   | (with_reducible exact koineref01_Compare.mono _ _ _)
   | (with_reducible exact koineref01_Div.mono _ _ _)
   | (with_reducible exact koineref01_Mul.mono _ _ _)
   | (with_reducible exact koineref01_Of.mono _ _)
   | (with_reducible exact koineref01_Same.mono _ _ _)
   | (with_reducible exact koineref01_Sub.mono _ _ _)
   | (with_reducible exact koineref01_Uint64.mono _ _)
   | (with_reducible exact natural_Add.mono _ _ _)
   | (with_reducible exact natural_Compare.mono _ _ _)
   | (with_reducible exact natural_Div.mono _ _ _)
   | (with_reducible exact natural_Mul.mono _ _ _)
   | (with_reducible exact natural_Of.mono _ _)
   | (with_reducible exact natural_Sub.mono _ _ _)
   | (with_reducible exact natural_Uint64.mono _ _)
   | (with_reducible exact LeO.refl _)
   | (with_reducible exact LeO.none _)
   | (with_reducible refine LeO.ite ?_ ?_)
   | (with_reducible refine LeO.bind ?_ (fun _ => ?_))
   | exact ih0 _ _ _ _ _
   | exact ih1 _ _ _ _ _
   | exact ih2 _ _ _ _ _
   | exact ih3 _ _ _ _ _
   | exact koinelaw01_sanity.mono _
   | exact koineref01_Add.mono _ _ _
   | exact koineref01_Compare.mono _ _ _
   | exact koineref01_Div.mono _ _ _
   | exact koineref01_Mul.mono _ _ _
   | exact koineref01_Of.mono _ _
   | exact koineref01_Same.mono _ _ _
   | exact koineref01_Sub.mono _ _ _
   | exact koineref01_Uint64.mono _ _
   | exact natural_Add.mono _ _ _
   | exact natural_Compare.mono _ _ _
   | exact natural_Div.mono _ _ _
   | exact natural_Mul.mono _ _ _
   | exact natural_Of.mono _ _
   | exact natural_Sub.mono _ _ _
   | exact natural_Uint64.mono _ _
   | exact LeO.none _
   | refine LeO.ite ?_ ?_
   | refine LeO.bind ?_ (fun _ => ?_)
  ·intro y0 y1 y2 y3 y4
   unfold koinelaw01_NaturalMatchesReference.j3
   repeat' first
   | (with_reducible exact ih0 _ _ _ _ _)
   | (with_reducible exact ih1 _ _ _ _ _)
   | (with_reducible exact ih2 _ _ _ _ _)
   | (with_reducible exact ih3 _ _ _ _ _)
   | (with_reducible exact koinelaw01_sanity.mono _)
   | (with_reducible exact koineref01_Add.mono _ _ _)
   | (with_reducible exact koineref01_Compare.mono _ _ _)
   | (with_reducible exact koineref01_Div.mono _ _ _)
   | (with_reducible exact koineref01_Mul.mono _ _ _)
   | (with_reducible exact koineref01_Of.mono _ _)
   | (with_reducible exact koineref01_Same.mono _ _ _)
   | (with_reducible exact koineref01_Sub.mono _ _ _)
   | (with_reducible exact koineref01_Uint64.mono _ _)
   | (with_reducible exact natural_Add.mono _ _ _)
   | (with_reducible exact natural_Compare.mono _ _ _)
   | (with_reducible exact natural_Div.mono _ _ _)
   | (with_reducible exact natural_Mul.mono _ _ _)
   | (with_reducible exact natural_Of.mono _ _)
   | (with_reducible exact natural_Sub.mono _ _ _)
   | (with_reducible exact natural_Uint64.mono _ _)
   | (with_reducible exact LeO.refl _)
   | (with_reducible exact LeO.none _)
   | (with_reducible refine LeO.ite ?_ ?_)
   | (with_reducible refine LeO.bind ?_ (fun _ => ?_))
   | exact ih0 _ _ _ _ _
   | exact ih1 _ _ _ _ _
   | exact ih2 _ _ _ _ _
   | exact ih3 _ _ _ _ _
   | exact koinelaw01_sanity.mono _
   | exact koineref01_Add.mono _ _ _
   | exact koineref01_Compare.mono _ _ _
   | exact koineref01_Div.mono _ _ _
   | exact koineref01_Mul.mono _ _ _
   | exact koineref01_Of.mono _ _
   | exact koineref01_Same.mono _ _ _
   | exact koineref01_Sub.mono _ _ _
   | exact koineref01_Uint64.mono _ _
   | exact natural_Add.mono _ _ _
   | exact natural_Compare.mono _ _ _
   | exact natural_Div.mono _ _ _
   | exact natural_Mul.mono _ _ _
   | exact natural_Of.mono _ _
   | exact natural_Sub.mono _ _ _
   | exact natural_Uint64.mono _ _
   | exact LeO.none _
   | refine LeO.ite ?_ ?_
   | refine LeO.bind ?_ (fun _ => ?_)
theorem koinelaw01_NaturalMatchesReference.mono : ∀ a0 a1 a2 k, LeO (koinelaw01_NaturalMatchesReference.f k a0 a1 a2) (koinelaw01_NaturalMatchesReference.f (k + 1) a0 a1 a2) := by
 intro a0 a1 a2 k
 obtain ⟨ih0, ih1, ih2, ih3⟩ := koinelaw01_NaturalMatchesReference.mono_l k
 unfold koinelaw01_NaturalMatchesReference.f
 repeat' first
   | (with_reducible exact ih0 _ _ _ _ _)
   | (with_reducible exact ih1 _ _ _ _ _)
   | (with_reducible exact ih2 _ _ _ _ _)
   | (with_reducible exact ih3 _ _ _ _ _)
   | (with_reducible exact koinelaw01_sanity.mono _)
   | (with_reducible exact koineref01_Add.mono _ _ _)
   | (with_reducible exact koineref01_Compare.mono _ _ _)
   | (with_reducible exact koineref01_Div.mono _ _ _)
   | (with_reducible exact koineref01_Mul.mono _ _ _)
   | (with_reducible exact koineref01_Of.mono _ _)
   | (with_reducible exact koineref01_Same.mono _ _ _)
   | (with_reducible exact koineref01_Sub.mono _ _ _)
   | (with_reducible exact koineref01_Uint64.mono _ _)
   | (with_reducible exact natural_Add.mono _ _ _)
   | (with_reducible exact natural_Compare.mono _ _ _)
   | (with_reducible exact natural_Div.mono _ _ _)
   | (with_reducible exact natural_Mul.mono _ _ _)
   | (with_reducible exact natural_Of.mono _ _)
   | (with_reducible exact natural_Sub.mono _ _ _)
   | (with_reducible exact natural_Uint64.mono _ _)
   | (with_reducible exact LeO.refl _)
   | (with_reducible exact LeO.none _)
   | (with_reducible refine LeO.ite ?_ ?_)
   | (with_reducible refine LeO.bind ?_ (fun _ => ?_))
   | exact ih0 _ _ _ _ _
   | exact ih1 _ _ _ _ _
   | exact ih2 _ _ _ _ _
   | exact ih3 _ _ _ _ _
   | exact koinelaw01_sanity.mono _
   | exact koineref01_Add.mono _ _ _
   | exact koineref01_Compare.mono _ _ _
   | exact koineref01_Div.mono _ _ _
   | exact koineref01_Mul.mono _ _ _
   | exact koineref01_Of.mono _ _
   | exact koineref01_Same.mono _ _ _
   | exact koineref01_Sub.mono _ _ _
   | exact koineref01_Uint64.mono _ _
   | exact natural_Add.mono _ _ _
   | exact natural_Compare.mono _ _ _
   | exact natural_Div.mono _ _ _
   | exact natural_Mul.mono _ _ _
   | exact natural_Of.mono _ _
   | exact natural_Sub.mono _ _ _
   | exact natural_Uint64.mono _ _
   | exact LeO.none _
   | refine LeO.ite ?_ ?_
   | refine LeO.bind ?_ (fun _ => ?_)
set_option maxHeartbeats 8000000 in
set_option maxRecDepth 100000 in
theorem koinelaw01_NaturalMatchesReference.calls (k : Nat) (A0 : Option Addr) (c0 : Nat) (l0 : List Int) (A1 : Option Addr) (c1 : Nat) (l1 : List Int) (a2 : Int) (r : Bool) (w : World) (hr0 : Kd.C (Kd.int .u32) w A0 l0.length l0) (hc0 : l0.length ≤ c0) (hr1 : Kd.C (Kd.int .u32) w A1 l1.length l1) (hc1 : l1.length ≤ c1) (h : koinelaw01_NaturalMatchesReference.f k l0 l1 a2 = some r) :
  Calls Try.prog 12 #[.slice A0 l0.length c0, .slice A1 l1.length c1, .int .u64 a2] w fun e w' => e = .returned (.bool r) ∧ Below w.heap.size w w' := by
 have HR0 := Aside0.mk hr0
 have HC0 := Aside0.mk hc0
 clear hr0 hc0
 have HR1 := Aside0.mk hr1
 have HC1 := Aside0.mk hc1
 clear hr1 hc1
 have HB := As (Below.refl w.heap.size w)
 have H : ((koinelaw01_sanity.f k).bind fun t761 => (if (l0.length : Int) > 30 then (koinelaw01_NaturalMatchesReference.j0 k l0 l1 a2 t761 true) else (koinelaw01_NaturalMatchesReference.j0 k l0 l1 a2 t761 (decide ((l1.length : Int) > 30))))) = some r := h
 clear h
 replace H := Option.bind_eq_some_iff.mp H
 obtain ⟨t761, A40, H⟩ := H
 replace H : (if (l0.length : Int) > 30 then (koinelaw01_NaturalMatchesReference.j0 k l0 l1 a2 t761 true) else (koinelaw01_NaturalMatchesReference.j0 k l0 l1 a2 t761 (decide ((l1.length : Int) > 30)))) = some r := H
 have A4 := Aside0.mk A40
 clear A40
 have HC5 := Aside0.mk H
 clear H
 go_enter Try.func12, Try.ntmps12
 go_upto_region 2 with (first | ((with_reducible refine gate_callee (f := 14) rfl ?_); refine goesL_ (some 23) rfl rfl Try.func14 (by kernel_rfl) rfl #[] rfl (by (try simp only [List.map_toArray, List.map_cons, List.map_nil]); first | done | rfl | (simp only [List.length_drop, List.length_take]; rfl)) ?_; (with_reducible refine (koinelaw01_sanity.calls k  t761 _ A4.out).mono ?_); rintro e w6 ⟨rfl, hb⟩; refine ⟨_, rfl, ?_⟩; have n0_ := As (below_step (by repeat (first | (with_reducible first | exact HB.out | apply ba | apply bn | apply bd) | exact HB.out)) hb); clear HB; have HB := n0_; clear n0_; (try clear hb)))
 (try simp only [Act.put, List.setIfInBounds_toArray, List.set_cons_zero, List.set_cons_succ])
 go_cut [31] (fun v31 wc => ∃ (kq : Nat) (x31_4 : Bool), v31 = .bool x31_4 ∧ Aside0 (koinelaw01_NaturalMatchesReference.j0 kq l0 l1 a2 t761 x31_4 = some r) ∧ Aside0 (kq ≤ k) ∧ Aside0 (Below w.heap.size w wc))
 case first =>
  have H := HC5.out
  clear HC5
  by_cases c7 : (l0.length : Int) > 30
  ·rw [if_pos c7] at H
   have c7b0 : decide (30 < (l0.length : Int)) = true := decide_eq_true c7
   have c7b1 : decide (30 < l0.length) = true := decide_eq_true (by omega)
   clear c7
   (first | rw [c7b0] | (simp only [i64_w, i32_w]; rw [c7b0]) | skip)
   have H' := Aside0.mk H
   clear H
   go_wp2
   go_meet
   case rel => exact ⟨_, (true), (by first | rfl | (simp; done) | (simp [*]; done)), H', ⟨by first | omega | exact Nat.le_refl _⟩, ⟨by repeat (first | (with_reducible first | exact HB.out | apply ba | apply bn | apply bd) | exact HB.out)⟩⟩
  ·rw [if_neg c7] at H
   have c7b0 : decide (30 < (l0.length : Int)) = false := decide_eq_false c7
   have c7b1 : decide (30 < l0.length) = false := decide_eq_false (by omega)
   clear c7
   (first | rw [c7b0] | (simp only [i64_w, i32_w]; rw [c7b0]) | skip)
   have H' := Aside0.mk H
   clear H
   go_wp2
   go_meet
   case rel => exact ⟨_, (decide ((l1.length : Int) > 30)), (by first | rfl | (simp; done) | (simp [*]; done)), H', ⟨by first | omega | exact Nat.le_refl _⟩, ⟨by repeat (first | (with_reducible first | exact HB.out | apply ba | apply bn | apply bd) | exact HB.out)⟩⟩
 case rest =>
  clear HC5
  try clear c1
  try clear p2
  try clear c7
  try clear c7b0
  try clear c7b1
  obtain ⟨kq, x31_4, rfl, HA, HJ4, HB⟩ := hcut
  cases kq with
  | zero => exact absurd HA.out (by simp [koinelaw01_NaturalMatchesReference.j0])
  | succ kj4 =>
   have H := HA.out
   clear HA
   simp only [koinelaw01_NaturalMatchesReference.j0] at H
   by_cases c8 : x31_4 = true
   ·subst c8
    have H1 : (some t761) = some r := by rw [if_pos rfl] at H; exact H
    clear H
    have H := H1
    clear H1
    obtain rfl := Option.some.inj H
    go_wp2
    go_ret
    exact ⟨by first | rfl | (simp [errW_none, errW_some] <;> rfl) | (simp [*, errW_none, errW_some] <;> rfl), by repeat (first | (with_reducible first | exact HB.out | apply ba | apply bn | apply bd) | exact HB.out)⟩
   ·replace c8 := Bool.eq_false_iff.mpr c8
    subst c8
    have H1 : ((natural_Add.f kj4 l0 l1).bind fun bt762 => ((koineref01_Add.f kj4 l0 l1).bind fun bt766 => (if bt762.2 = bt766.2 then ((koineref01_Same.f kj4 bt762.1 bt766.1).bind fun t770 => (koinelaw01_NaturalMatchesReference.j1 kj4 l0 l1 a2 t761 (!t770))) else (koinelaw01_NaturalMatchesReference.j1 kj4 l0 l1 a2 t761 true)))) = some r := by rw [if_neg (show ¬ (false = true) by decide)] at H; exact H
    clear H
    have H := H1
    clear H1
    replace H := Option.bind_eq_some_iff.mp H
    obtain ⟨⟨t762, t765⟩, A90, H⟩ := H
    replace H : ((koineref01_Add.f kj4 l0 l1).bind fun bt766 => (if t765 = bt766.2 then ((koineref01_Same.f kj4 t762 bt766.1).bind fun t770 => (koinelaw01_NaturalMatchesReference.j1 kj4 l0 l1 a2 t761 (!t770))) else (koinelaw01_NaturalMatchesReference.j1 kj4 l0 l1 a2 t761 true))) = some r := H
    have A9 := Aside0.mk A90
    clear A90
    replace H := Option.bind_eq_some_iff.mp H
    obtain ⟨⟨t766, t767⟩, A100, H⟩ := H
    replace H : (if t765 = t767 then ((koineref01_Same.f kj4 t762 t766).bind fun t770 => (koinelaw01_NaturalMatchesReference.j1 kj4 l0 l1 a2 t761 (!t770))) else (koinelaw01_NaturalMatchesReference.j1 kj4 l0 l1 a2 t761 true)) = some r := H
    have A10 := Aside0.mk A100
    clear A100
    have HC11 := Aside0.mk H
    clear H
    go_upto_region 6 with (first | ((with_reducible refine gate_callee (f := 29) rfl ?_); refine goesL_ (some 36) rfl rfl Try.func29 (by kernel_rfl) rfl #[.slice A0 l0.length c0, .slice A1 l1.length c1] rfl (by (try simp only [List.map_toArray, List.map_cons, List.map_nil]); first | done | rfl | (simp only [List.length_drop, List.length_take]; rfl)) ?_; (with_reducible refine (natural_Add.calls kj4 (fun k_ => k_ < w.heap.size) _ _ l0 (fun k_ => k_ < w.heap.size) _ _ l1 t762 t765 _ ?side1 ?side2 A9.out).mono ?_); (case side1 => exact Kd.V_mk HC0.out (Kd.F_below (Kd.C_F (Kd.heap_int .u32) HR0.out) (by repeat (first | (with_reducible first | exact HB.out | apply ba | apply bn | apply bd) | exact HB.out)))); (case side2 => exact Kd.V_mk HC1.out (Kd.F_below (Kd.C_F (Kd.heap_int .u32) HR1.out) (by repeat (first | (with_reducible first | exact HB.out | apply ba | apply bn | apply bd) | exact HB.out)))); rintro e w12 ⟨v763, rfl, ho0, hb⟩; refine ⟨_, rfl, ?_⟩; have n0_ := As (Kd.R_lower (Kd.R_mono (ok' := fun k_ => True) ho0 (fun _ hk_ => trivial)) (below_size (by repeat (first | (with_reducible first | exact HB.out | apply ba | apply bn | apply bd) | exact HB.out)))); have n1_ := As (below_step (by repeat (first | (with_reducible first | exact HB.out | apply ba | apply bn | apply bd) | exact HB.out)) hb); clear HB; have HO764 := n0_; have HB := n1_; clear n0_ n1_; (try clear hb); (try clear ho0)) | ((with_reducible refine gate_callee (f := 30) rfl ?_); refine goesL_ (some 42) rfl rfl Try.func30 (by kernel_rfl) rfl #[.slice A0 l0.length c0, .slice A1 l1.length c1] rfl (by (try simp only [List.map_toArray, List.map_cons, List.map_nil]); first | done | rfl | (simp only [List.length_drop, List.length_take]; rfl)) ?_; (with_reducible refine (koineref01_Add.calls kj4 _ _ l0 _ _ l1 t766 t767 _ ?side1 ?side2 ?side3 ?side4 A10.out).mono ?_); (case side1 => repeat (first | exact (Kd.C_below HR0.out HB.out) | (with_reducible first | apply Ca | apply Cb | apply Cc))); (case side2 => exact HC0.out); (case side3 => repeat (first | exact (Kd.C_below HR1.out HB.out) | (with_reducible first | apply Ca | apply Cb | apply Cc))); (case side4 => exact HC1.out); rintro e w13 ⟨v768, rfl, ho0, hb⟩; refine ⟨_, rfl, ?_⟩; have n0_ := As (Kd.R_elder' (by (with_reducible repeat first | apply Ra | apply Rb | apply Rc); exact HO764.out) (Kd.R_base ho0) hb); have n1_ := As (Kd.R_lower (Kd.R_new' ho0 (Kd.R_lt (by (with_reducible repeat first | apply Ra | apply Rb | apply Rc); exact HO764.out))) (below_size (by repeat (first | (with_reducible first | exact HB.out | apply ba | apply bn | apply bd) | exact HB.out)))); have n2_ := As (below_step (by repeat (first | (with_reducible first | exact HB.out | apply ba | apply bn | apply bd) | exact HB.out)) hb); clear HO764; clear HB; have HO764 := n0_; have HO769 := n1_; have HB := n2_; clear n0_ n1_ n2_; (try clear hb); (try clear ho0)))
    (try simp only [Act.put, List.setIfInBounds_toArray, List.set_cons_zero, List.set_cons_succ])
    go_cut [53] (fun v53 wc => ∃ (kq : Nat) (x53_10 : Bool), v53 = .bool x53_10 ∧ Aside0 (koinelaw01_NaturalMatchesReference.j1 kq l0 l1 a2 t761 x53_10 = some r) ∧ Aside0 (kq ≤ kj4) ∧ Aside0 (Below w.heap.size w wc))
    case first =>
     have H := HC11.out
     clear HC11
     by_cases c14 : t765 = t767
     ·rw [if_pos c14] at H
      have c14b0 : (t765 == t767) = true := beq_iff_eq.mpr c14
      have c14b1 : (t765 != t767) = false := bne_eq_false_iff_eq.mpr c14
      clear c14
      (first | rw [c14b0] | (simp only [i64_w, i32_w]; rw [c14b0]) | skip)
      replace H := Option.bind_eq_some_iff.mp H
      obtain ⟨t770, A150, H⟩ := H
      replace H : (koinelaw01_NaturalMatchesReference.j1 kj4 l0 l1 a2 t761 (!t770)) = some r := H
      have A15 := Aside0.mk A150
      clear A150
      have H' := Aside0.mk H
      clear H
      obtain ⟨Ao16, co16, eo16⟩ := Kd.R_slice HO764.out
      subst eo16
      obtain ⟨Ao17, co17, eo17⟩ := Kd.R_slice HO769.out
      subst eo17
      go_wp2_with (first | (go_at_call 19; (with_reducible refine (koineref01_Same.calls kj4 _ _ t762 _ _ t766 t770 _ ?side1 ?side2 ?side3 ?side4 A15.out).mono ?_); (case side1 => repeat (first | exact (Kd.R_reads' HO764.out).2.2 | (with_reducible first | apply Ca | apply Cb | apply Cc))); (case side2 => exact (Kd.R_reads' HO764.out).2.1); (case side3 => repeat (first | exact (Kd.R_reads' HO769.out).2.2 | (with_reducible first | apply Ca | apply Cb | apply Cc))); (case side4 => exact (Kd.R_reads' HO769.out).2.1); rintro e w' ⟨rfl, ⟨nd, rfl⟩⟩))
      go_meet
      case rel => exact ⟨_, (!t770), (by first | rfl | (simp; done) | (simp [*]; done)), H', ⟨by have := HJ4.out; first | omega | exact Nat.le_refl _⟩, ⟨by repeat (first | (with_reducible first | exact HB.out | apply ba | apply bn | apply bd) | exact HB.out)⟩⟩
     ·rw [if_neg c14] at H
      have c14b0 : (t765 == t767) = false := beq_eq_false_iff_ne.mpr c14
      have c14b1 : (t765 != t767) = true := bne_iff_ne.mpr c14
      (first | rw [c14b0] | (simp only [i64_w, i32_w]; rw [c14b0]) | skip)
      have H' := Aside0.mk H
      clear H
      go_wp2
      go_meet
      case rel => exact ⟨_, (true), (by first | rfl | (simp; done) | (simp [*]; done)), H', ⟨by have := HJ4.out; first | omega | exact Nat.le_refl _⟩, ⟨by repeat (first | (with_reducible first | exact HB.out | apply ba | apply bn | apply bd) | exact HB.out)⟩⟩
    case rest =>
     clear HC11
     try clear c1
     try clear c2
     try clear p2
     try clear c3
     try clear c7
     try clear c7b0
     try clear c7b1
     try clear c8
     try clear c12
     try clear c14
     try clear c14b0
     try clear c14b1
     try clear p2
     obtain ⟨kq, x53_10, rfl, HA, HJ10, HB⟩ := hcut
     cases kq with
     | zero => exact absurd HA.out (by simp [koinelaw01_NaturalMatchesReference.j1])
     | succ kj10 =>
      have H := HA.out
      clear HA
      simp only [koinelaw01_NaturalMatchesReference.j1] at H
      by_cases c18 : x53_10 = true
      ·subst c18
       have H1 : (some false) = some r := by rw [if_pos rfl] at H; exact H
       clear H
       have H := H1
       clear H1
       obtain rfl := Option.some.inj H
       go_wp2
       go_ret
       exact ⟨by first | rfl | (simp [errW_none, errW_some] <;> rfl) | (simp [*, errW_none, errW_some] <;> rfl), by repeat (first | (with_reducible first | exact HB.out | apply ba | apply bn | apply bd) | exact HB.out)⟩
      ·replace c18 := Bool.eq_false_iff.mpr c18
       subst c18
       have H1 : ((natural_Sub.f kj10 l0 l1).bind fun bt771 => ((koineref01_Sub.f kj10 l0 l1).bind fun bt775 => (if bt771.2 = bt775.2 then ((koineref01_Same.f kj10 bt771.1 bt775.1).bind fun t779 => (koinelaw01_NaturalMatchesReference.j2 kj10 l0 l1 a2 t761 (!t779))) else (koinelaw01_NaturalMatchesReference.j2 kj10 l0 l1 a2 t761 true)))) = some r := by rw [if_neg (show ¬ (false = true) by decide)] at H; exact H
       clear H
       have H := H1
       clear H1
       replace H := Option.bind_eq_some_iff.mp H
       obtain ⟨⟨t771, t772⟩, A190, H⟩ := H
       replace H : ((koineref01_Sub.f kj10 l0 l1).bind fun bt775 => (if t772 = bt775.2 then ((koineref01_Same.f kj10 t771 bt775.1).bind fun t779 => (koinelaw01_NaturalMatchesReference.j2 kj10 l0 l1 a2 t761 (!t779))) else (koinelaw01_NaturalMatchesReference.j2 kj10 l0 l1 a2 t761 true))) = some r := H
       have A19 := Aside0.mk A190
       clear A190
       replace H := Option.bind_eq_some_iff.mp H
       obtain ⟨⟨t775, t776⟩, A200, H⟩ := H
       replace H : (if t772 = t776 then ((koineref01_Same.f kj10 t771 t775).bind fun t779 => (koinelaw01_NaturalMatchesReference.j2 kj10 l0 l1 a2 t761 (!t779))) else (koinelaw01_NaturalMatchesReference.j2 kj10 l0 l1 a2 t761 true)) = some r := H
       have A20 := Aside0.mk A200
       clear A200
       have HC21 := Aside0.mk H
       clear H
       go_upto_region 10 with (first | ((with_reducible refine gate_callee (f := 25) rfl ?_); refine goesL_ (some 57) rfl rfl Try.func25 (by kernel_rfl) rfl #[.slice A0 l0.length c0, .slice A1 l1.length c1] rfl (by (try simp only [List.map_toArray, List.map_cons, List.map_nil]); first | done | rfl | (simp only [List.length_drop, List.length_take]; rfl)) ?_; (with_reducible refine (natural_Sub.calls kj10 _ _ l0 _ _ l1 t771 t772 _ ?side1 ?side2 ?side3 ?side4 A19.out).mono ?_); (case side1 => repeat (first | exact (Kd.C_below HR0.out HB.out) | (with_reducible first | apply Ca | apply Cb | apply Cc))); (case side2 => exact HC0.out); (case side3 => repeat (first | exact (Kd.C_below HR1.out HB.out) | (with_reducible first | apply Ca | apply Cb | apply Cc))); (case side4 => exact HC1.out); rintro e w22 ⟨v773, rfl, ho0, hb⟩; refine ⟨_, rfl, ?_⟩; have n0_ := As (Kd.R_lower ho0 (below_size (by repeat (first | (with_reducible first | exact HB.out | apply ba | apply bn | apply bd) | exact HB.out)))); have n1_ := As (below_step (by repeat (first | (with_reducible first | exact HB.out | apply ba | apply bn | apply bd) | exact HB.out)) hb); clear HB; have HO774 := n0_; have HB := n1_; clear n0_ n1_; (try clear hb); (try clear ho0)) | ((with_reducible refine gate_callee (f := 33) rfl ?_); refine goesL_ (some 63) rfl rfl Try.func33 (by kernel_rfl) rfl #[.slice A0 l0.length c0, .slice A1 l1.length c1] rfl (by (try simp only [List.map_toArray, List.map_cons, List.map_nil]); first | done | rfl | (simp only [List.length_drop, List.length_take]; rfl)) ?_; (with_reducible refine (koineref01_Sub.calls kj10 _ _ l0 _ _ l1 t775 t776 _ ?side1 ?side2 ?side3 ?side4 A20.out).mono ?_); (case side1 => repeat (first | exact (Kd.C_below HR0.out HB.out) | (with_reducible first | apply Ca | apply Cb | apply Cc))); (case side2 => exact HC0.out); (case side3 => repeat (first | exact (Kd.C_below HR1.out HB.out) | (with_reducible first | apply Ca | apply Cb | apply Cc))); (case side4 => exact HC1.out); rintro e w23 ⟨v777, rfl, ho0, hb⟩; refine ⟨_, rfl, ?_⟩; have n0_ := As (Kd.R_elder' (by (with_reducible repeat first | apply Ra | apply Rb | apply Rc); exact HO774.out) (Kd.R_base ho0) hb); have n1_ := As (Kd.R_lower (Kd.R_new' ho0 (Kd.R_lt (by (with_reducible repeat first | apply Ra | apply Rb | apply Rc); exact HO774.out))) (below_size (by repeat (first | (with_reducible first | exact HB.out | apply ba | apply bn | apply bd) | exact HB.out)))); have n2_ := As (below_step (by repeat (first | (with_reducible first | exact HB.out | apply ba | apply bn | apply bd) | exact HB.out)) hb); clear HO774; clear HB; have HO774 := n0_; have HO778 := n1_; have HB := n2_; clear n0_ n1_ n2_; (try clear hb); (try clear ho0)))
       (try simp only [Act.put, List.setIfInBounds_toArray, List.set_cons_zero, List.set_cons_succ])
       go_cut [74] (fun v74 wc => ∃ (kq : Nat) (x74_20 : Bool), v74 = .bool x74_20 ∧ Aside0 (koinelaw01_NaturalMatchesReference.j2 kq l0 l1 a2 t761 x74_20 = some r) ∧ Aside0 (kq ≤ kj10) ∧ Aside0 (Below w.heap.size w wc))
       case first =>
        have H := HC21.out
        clear HC21
        by_cases c24 : t772 = t776
        ·rw [if_pos c24] at H
         have c24b0 : (t772 == t776) = true := beq_iff_eq.mpr c24
         have c24b1 : (t772 != t776) = false := bne_eq_false_iff_eq.mpr c24
         clear c24
         (first | rw [c24b0] | (simp only [i64_w, i32_w]; rw [c24b0]) | skip)
         replace H := Option.bind_eq_some_iff.mp H
         obtain ⟨t779, A250, H⟩ := H
         replace H : (koinelaw01_NaturalMatchesReference.j2 kj10 l0 l1 a2 t761 (!t779)) = some r := H
         have A25 := Aside0.mk A250
         clear A250
         have H' := Aside0.mk H
         clear H
         obtain ⟨Ao26, co26, eo26⟩ := Kd.R_slice HO774.out
         subst eo26
         obtain ⟨Ao27, co27, eo27⟩ := Kd.R_slice HO778.out
         subst eo27
         go_wp2_with (first | (go_at_call 19; (with_reducible refine (koineref01_Same.calls kj10 _ _ t771 _ _ t775 t779 _ ?side1 ?side2 ?side3 ?side4 A25.out).mono ?_); (case side1 => repeat (first | exact (Kd.R_reads' HO774.out).2.2 | (with_reducible first | apply Ca | apply Cb | apply Cc))); (case side2 => exact (Kd.R_reads' HO774.out).2.1); (case side3 => repeat (first | exact (Kd.R_reads' HO778.out).2.2 | (with_reducible first | apply Ca | apply Cb | apply Cc))); (case side4 => exact (Kd.R_reads' HO778.out).2.1); rintro e w' ⟨rfl, ⟨nd, rfl⟩⟩))
         go_meet
         case rel => exact ⟨_, (!t779), (by first | rfl | (simp; done) | (simp [*]; done)), H', ⟨by have := HJ4.out; have := HJ10.out; first | omega | exact Nat.le_refl _⟩, ⟨by repeat (first | (with_reducible first | exact HB.out | apply ba | apply bn | apply bd) | exact HB.out)⟩⟩
        ·rw [if_neg c24] at H
         have c24b0 : (t772 == t776) = false := beq_eq_false_iff_ne.mpr c24
         have c24b1 : (t772 != t776) = true := bne_iff_ne.mpr c24
         (first | rw [c24b0] | (simp only [i64_w, i32_w]; rw [c24b0]) | skip)
         have H' := Aside0.mk H
         clear H
         go_wp2
         go_meet
         case rel => exact ⟨_, (true), (by first | rfl | (simp; done) | (simp [*]; done)), H', ⟨by have := HJ4.out; have := HJ10.out; first | omega | exact Nat.le_refl _⟩, ⟨by repeat (first | (with_reducible first | exact HB.out | apply ba | apply bn | apply bd) | exact HB.out)⟩⟩
       case rest =>
        clear HC21
        try clear c1
        try clear c2
        try clear p2
        try clear c3
        try clear c7
        try clear c7b0
        try clear c7b1
        try clear c8
        try clear c12
        try clear c14
        try clear c14b0
        try clear c14b1
        try clear c18
        try clear c24
        try clear c24b0
        try clear c24b1
        try clear c25
        try clear p2
        obtain ⟨kq, x74_20, rfl, HA, HJ20, HB⟩ := hcut
        cases kq with
        | zero => exact absurd HA.out (by simp [koinelaw01_NaturalMatchesReference.j2])
        | succ kj20 =>
         have H := HA.out
         clear HA
         simp only [koinelaw01_NaturalMatchesReference.j2] at H
         by_cases c28 : x74_20 = true
         ·subst c28
          have H1 : (some false) = some r := by rw [if_pos rfl] at H; exact H
          clear H
          have H := H1
          clear H1
          obtain rfl := Option.some.inj H
          go_wp2
          go_ret
          exact ⟨by first | rfl | (simp [errW_none, errW_some] <;> rfl) | (simp [*, errW_none, errW_some] <;> rfl), by repeat (first | (with_reducible first | exact HB.out | apply ba | apply bn | apply bd) | exact HB.out)⟩
         ·replace c28 := Bool.eq_false_iff.mpr c28
          subst c28
          have H1 : ((natural_Mul.f kj20 l0 l1).bind fun bt780 => ((koineref01_Mul.f kj20 l0 l1).bind fun bt784 => (if bt780.2 = bt784.2 then ((koineref01_Same.f kj20 bt780.1 bt784.1).bind fun t788 => (koinelaw01_NaturalMatchesReference.j3 kj20 l0 l1 a2 t761 (!t788))) else (koinelaw01_NaturalMatchesReference.j3 kj20 l0 l1 a2 t761 true)))) = some r := by rw [if_neg (show ¬ (false = true) by decide)] at H; exact H
          clear H
          have H := H1
          clear H1
          replace H := Option.bind_eq_some_iff.mp H
          obtain ⟨⟨t780, t781⟩, A290, H⟩ := H
          replace H : ((koineref01_Mul.f kj20 l0 l1).bind fun bt784 => (if t781 = bt784.2 then ((koineref01_Same.f kj20 t780 bt784.1).bind fun t788 => (koinelaw01_NaturalMatchesReference.j3 kj20 l0 l1 a2 t761 (!t788))) else (koinelaw01_NaturalMatchesReference.j3 kj20 l0 l1 a2 t761 true))) = some r := H
          have A29 := Aside0.mk A290
          clear A290
          replace H := Option.bind_eq_some_iff.mp H
          obtain ⟨⟨t784, t785⟩, A300, H⟩ := H
          replace H : (if t781 = t785 then ((koineref01_Same.f kj20 t780 t784).bind fun t788 => (koinelaw01_NaturalMatchesReference.j3 kj20 l0 l1 a2 t761 (!t788))) else (koinelaw01_NaturalMatchesReference.j3 kj20 l0 l1 a2 t761 true)) = some r := H
          have A30 := Aside0.mk A300
          clear A300
          have HC31 := Aside0.mk H
          clear H
          go_upto_region 14 with (first | ((with_reducible refine gate_callee (f := 31) rfl ?_); refine goesL_ (some 78) rfl rfl Try.func31 (by kernel_rfl) rfl #[.slice A0 l0.length c0, .slice A1 l1.length c1] rfl (by (try simp only [List.map_toArray, List.map_cons, List.map_nil]); first | done | rfl | (simp only [List.length_drop, List.length_take]; rfl)) ?_; (with_reducible refine (natural_Mul.calls kj20 _ _ l0 _ _ l1 t780 t781 _ ?side1 ?side2 ?side3 ?side4 A29.out).mono ?_); (case side1 => repeat (first | exact (Kd.C_below HR0.out HB.out) | (with_reducible first | apply Ca | apply Cb | apply Cc))); (case side2 => exact HC0.out); (case side3 => repeat (first | exact (Kd.C_below HR1.out HB.out) | (with_reducible first | apply Ca | apply Cb | apply Cc))); (case side4 => exact HC1.out); rintro e w32 ⟨v782, rfl, ho0, hb⟩; refine ⟨_, rfl, ?_⟩; have n0_ := As (Kd.R_lower ho0 (below_size (by repeat (first | (with_reducible first | exact HB.out | apply ba | apply bn | apply bd) | exact HB.out)))); have n1_ := As (below_step (by repeat (first | (with_reducible first | exact HB.out | apply ba | apply bn | apply bd) | exact HB.out)) hb); clear HB; have HO783 := n0_; have HB := n1_; clear n0_ n1_; (try clear hb); (try clear ho0)) | ((with_reducible refine gate_callee (f := 32) rfl ?_); refine goesL_ (some 84) rfl rfl Try.func32 (by kernel_rfl) rfl #[.slice A0 l0.length c0, .slice A1 l1.length c1] rfl (by (try simp only [List.map_toArray, List.map_cons, List.map_nil]); first | done | rfl | (simp only [List.length_drop, List.length_take]; rfl)) ?_; (with_reducible refine (koineref01_Mul.calls kj20 _ _ l0 _ _ l1 t784 t785 _ ?side1 ?side2 ?side3 ?side4 A30.out).mono ?_); (case side1 => repeat (first | exact (Kd.C_below HR0.out HB.out) | (with_reducible first | apply Ca | apply Cb | apply Cc))); (case side2 => exact HC0.out); (case side3 => repeat (first | exact (Kd.C_below HR1.out HB.out) | (with_reducible first | apply Ca | apply Cb | apply Cc))); (case side4 => exact HC1.out); rintro e w33 ⟨v786, rfl, ho0, hb⟩; refine ⟨_, rfl, ?_⟩; have n0_ := As (Kd.R_elder' (by (with_reducible repeat first | apply Ra | apply Rb | apply Rc); exact HO783.out) (Kd.R_base ho0) hb); have n1_ := As (Kd.R_lower (Kd.R_new' ho0 (Kd.R_lt (by (with_reducible repeat first | apply Ra | apply Rb | apply Rc); exact HO783.out))) (below_size (by repeat (first | (with_reducible first | exact HB.out | apply ba | apply bn | apply bd) | exact HB.out)))); have n2_ := As (below_step (by repeat (first | (with_reducible first | exact HB.out | apply ba | apply bn | apply bd) | exact HB.out)) hb); clear HO783; clear HB; have HO783 := n0_; have HO787 := n1_; have HB := n2_; clear n0_ n1_ n2_; (try clear hb); (try clear ho0)))
          (try simp only [Act.put, List.setIfInBounds_toArray, List.set_cons_zero, List.set_cons_succ])
          go_cut [95] (fun v95 wc => ∃ (kq : Nat) (x95_30 : Bool), v95 = .bool x95_30 ∧ Aside0 (koinelaw01_NaturalMatchesReference.j3 kq l0 l1 a2 t761 x95_30 = some r) ∧ Aside0 (kq ≤ kj20) ∧ Aside0 (Below w.heap.size w wc))
          case first =>
           have H := HC31.out
           clear HC31
           by_cases c34 : t781 = t785
           ·rw [if_pos c34] at H
            have c34b0 : (t781 == t785) = true := beq_iff_eq.mpr c34
            have c34b1 : (t781 != t785) = false := bne_eq_false_iff_eq.mpr c34
            clear c34
            (first | rw [c34b0] | (simp only [i64_w, i32_w]; rw [c34b0]) | skip)
            replace H := Option.bind_eq_some_iff.mp H
            obtain ⟨t788, A350, H⟩ := H
            replace H : (koinelaw01_NaturalMatchesReference.j3 kj20 l0 l1 a2 t761 (!t788)) = some r := H
            have A35 := Aside0.mk A350
            clear A350
            have H' := Aside0.mk H
            clear H
            obtain ⟨Ao36, co36, eo36⟩ := Kd.R_slice HO783.out
            subst eo36
            obtain ⟨Ao37, co37, eo37⟩ := Kd.R_slice HO787.out
            subst eo37
            go_wp2_with (first | (go_at_call 19; (with_reducible refine (koineref01_Same.calls kj20 _ _ t780 _ _ t784 t788 _ ?side1 ?side2 ?side3 ?side4 A35.out).mono ?_); (case side1 => repeat (first | exact (Kd.R_reads' HO783.out).2.2 | (with_reducible first | apply Ca | apply Cb | apply Cc))); (case side2 => exact (Kd.R_reads' HO783.out).2.1); (case side3 => repeat (first | exact (Kd.R_reads' HO787.out).2.2 | (with_reducible first | apply Ca | apply Cb | apply Cc))); (case side4 => exact (Kd.R_reads' HO787.out).2.1); rintro e w' ⟨rfl, ⟨nd, rfl⟩⟩))
            go_meet
            case rel => exact ⟨_, (!t788), (by first | rfl | (simp; done) | (simp [*]; done)), H', ⟨by have := HJ4.out; have := HJ10.out; have := HJ20.out; first | omega | exact Nat.le_refl _⟩, ⟨by repeat (first | (with_reducible first | exact HB.out | apply ba | apply bn | apply bd) | exact HB.out)⟩⟩
           ·rw [if_neg c34] at H
            have c34b0 : (t781 == t785) = false := beq_eq_false_iff_ne.mpr c34
            have c34b1 : (t781 != t785) = true := bne_iff_ne.mpr c34
            (first | rw [c34b0] | (simp only [i64_w, i32_w]; rw [c34b0]) | skip)
            have H' := Aside0.mk H
            clear H
            go_wp2
            go_meet
            case rel => exact ⟨_, (true), (by first | rfl | (simp; done) | (simp [*]; done)), H', ⟨by have := HJ4.out; have := HJ10.out; have := HJ20.out; first | omega | exact Nat.le_refl _⟩, ⟨by repeat (first | (with_reducible first | exact HB.out | apply ba | apply bn | apply bd) | exact HB.out)⟩⟩
          case rest =>
           clear HC31
           try clear c1
           try clear c2
           try clear p2
           try clear c3
           try clear c7
           try clear c7b0
           try clear c7b1
           try clear c8
           try clear c12
           try clear c14
           try clear c14b0
           try clear c14b1
           try clear c18
           try clear c24
           try clear c24b0
           try clear c24b1
           try clear c25
           try clear c28
           try clear c29
           try clear c30
           try clear c31
           try clear c32
           try clear c33
           try clear c34
           try clear c34b0
           try clear c34b1
           try clear p2
           obtain ⟨kq, x95_30, rfl, HA, HJ30, HB⟩ := hcut
           cases kq with
           | zero => exact absurd HA.out (by simp [koinelaw01_NaturalMatchesReference.j3])
           | succ kj30 =>
            have H := HA.out
            clear HA
            simp only [koinelaw01_NaturalMatchesReference.j3] at H
            by_cases c38 : x95_30 = true
            ·subst c38
             have H1 : (some false) = some r := by rw [if_pos rfl] at H; exact H
             clear H
             have H := H1
             clear H1
             obtain rfl := Option.some.inj H
             go_wp2
             go_ret
             exact ⟨by first | rfl | (simp [errW_none, errW_some] <;> rfl) | (simp [*, errW_none, errW_some] <;> rfl), by repeat (first | (with_reducible first | exact HB.out | apply ba | apply bn | apply bd) | exact HB.out)⟩
            ·replace c38 := Bool.eq_false_iff.mpr c38
             subst c38
             have H1 : ((natural_Div.f kj30 l0 l1).bind fun bt789 => ((koineref01_Div.f kj30 l0 l1).bind fun bt796 => ((natural_Uint64.f kj30 l0).bind fun bt803 => ((koineref01_Uint64.f kj30 l0).bind fun bt805 => ((natural_Valid.f l0).bind fun t807 => ((koineref01_Valid.f l0).bind fun t808 => (if (t807 == t808) = true then ((natural_Compare.f kj30 l0 l1).bind fun t809 => ((koineref01_Compare.f kj30 l0 l1).bind fun t810 => (if t809 = t810 then (if bt803.1 = bt805.1 then (if (bt803.2 == bt805.2) = true then ((natural_Of.f kj30 a2).bind fun t811 => ((koineref01_Of.f kj30 a2).bind fun t814 => ((koineref01_Same.f kj30 t811 t814).bind fun t817 => (if bt789.2.2 = bt796.2.2 then ((koineref01_Same.f kj30 bt789.1 bt796.1).bind fun t818 => (if t818 = true then ((koineref01_Same.f kj30 bt789.2.1 bt796.2.1).bind fun t819 => (if t819 = true then (if t817 = true then (some t761) else (some false)) else (some false))) else (some false))) else (some false))))) else (none)) else (none)) else (none)))) else (none)))))))) = some r := by rw [if_neg (show ¬ (false = true) by decide)] at H; exact H
             clear H
             have H := H1
             clear H1
             replace H := Option.bind_eq_some_iff.mp H
             obtain ⟨⟨t789, t790, t791⟩, A390, H⟩ := H
             replace H : ((koineref01_Div.f kj30 l0 l1).bind fun bt796 => ((natural_Uint64.f kj30 l0).bind fun bt803 => ((koineref01_Uint64.f kj30 l0).bind fun bt805 => ((natural_Valid.f l0).bind fun t807 => ((koineref01_Valid.f l0).bind fun t808 => (if (t807 == t808) = true then ((natural_Compare.f kj30 l0 l1).bind fun t809 => ((koineref01_Compare.f kj30 l0 l1).bind fun t810 => (if t809 = t810 then (if bt803.1 = bt805.1 then (if (bt803.2 == bt805.2) = true then ((natural_Of.f kj30 a2).bind fun t811 => ((koineref01_Of.f kj30 a2).bind fun t814 => ((koineref01_Same.f kj30 t811 t814).bind fun t817 => (if t791 = bt796.2.2 then ((koineref01_Same.f kj30 t789 bt796.1).bind fun t818 => (if t818 = true then ((koineref01_Same.f kj30 t790 bt796.2.1).bind fun t819 => (if t819 = true then (if t817 = true then (some t761) else (some false)) else (some false))) else (some false))) else (some false))))) else (none)) else (none)) else (none)))) else (none))))))) = some r := H
             have A39 := Aside0.mk A390
             clear A390
             replace H := Option.bind_eq_some_iff.mp H
             obtain ⟨⟨t796, t797, t798⟩, A400, H⟩ := H
             replace H : ((natural_Uint64.f kj30 l0).bind fun bt803 => ((koineref01_Uint64.f kj30 l0).bind fun bt805 => ((natural_Valid.f l0).bind fun t807 => ((koineref01_Valid.f l0).bind fun t808 => (if (t807 == t808) = true then ((natural_Compare.f kj30 l0 l1).bind fun t809 => ((koineref01_Compare.f kj30 l0 l1).bind fun t810 => (if t809 = t810 then (if bt803.1 = bt805.1 then (if (bt803.2 == bt805.2) = true then ((natural_Of.f kj30 a2).bind fun t811 => ((koineref01_Of.f kj30 a2).bind fun t814 => ((koineref01_Same.f kj30 t811 t814).bind fun t817 => (if t791 = t798 then ((koineref01_Same.f kj30 t789 t796).bind fun t818 => (if t818 = true then ((koineref01_Same.f kj30 t790 t797).bind fun t819 => (if t819 = true then (if t817 = true then (some t761) else (some false)) else (some false))) else (some false))) else (some false))))) else (none)) else (none)) else (none)))) else (none)))))) = some r := H
             have A40 := Aside0.mk A400
             clear A400
             replace H := Option.bind_eq_some_iff.mp H
             obtain ⟨⟨t803, t804⟩, A410, H⟩ := H
             replace H : ((koineref01_Uint64.f kj30 l0).bind fun bt805 => ((natural_Valid.f l0).bind fun t807 => ((koineref01_Valid.f l0).bind fun t808 => (if (t807 == t808) = true then ((natural_Compare.f kj30 l0 l1).bind fun t809 => ((koineref01_Compare.f kj30 l0 l1).bind fun t810 => (if t809 = t810 then (if t803 = bt805.1 then (if (t804 == bt805.2) = true then ((natural_Of.f kj30 a2).bind fun t811 => ((koineref01_Of.f kj30 a2).bind fun t814 => ((koineref01_Same.f kj30 t811 t814).bind fun t817 => (if t791 = t798 then ((koineref01_Same.f kj30 t789 t796).bind fun t818 => (if t818 = true then ((koineref01_Same.f kj30 t790 t797).bind fun t819 => (if t819 = true then (if t817 = true then (some t761) else (some false)) else (some false))) else (some false))) else (some false))))) else (none)) else (none)) else (none)))) else (none))))) = some r := H
             have A41 := Aside0.mk A410
             clear A410
             replace H := Option.bind_eq_some_iff.mp H
             obtain ⟨⟨t805, t806⟩, A420, H⟩ := H
             replace H : ((natural_Valid.f l0).bind fun t807 => ((koineref01_Valid.f l0).bind fun t808 => (if (t807 == t808) = true then ((natural_Compare.f kj30 l0 l1).bind fun t809 => ((koineref01_Compare.f kj30 l0 l1).bind fun t810 => (if t809 = t810 then (if t803 = t805 then (if (t804 == t806) = true then ((natural_Of.f kj30 a2).bind fun t811 => ((koineref01_Of.f kj30 a2).bind fun t814 => ((koineref01_Same.f kj30 t811 t814).bind fun t817 => (if t791 = t798 then ((koineref01_Same.f kj30 t789 t796).bind fun t818 => (if t818 = true then ((koineref01_Same.f kj30 t790 t797).bind fun t819 => (if t819 = true then (if t817 = true then (some t761) else (some false)) else (some false))) else (some false))) else (some false))))) else (none)) else (none)) else (none)))) else (none)))) = some r := H
             have A42 := Aside0.mk A420
             clear A420
             replace H := Option.bind_eq_some_iff.mp H
             obtain ⟨t807, A430, H⟩ := H
             replace H : ((koineref01_Valid.f l0).bind fun t808 => (if (t807 == t808) = true then ((natural_Compare.f kj30 l0 l1).bind fun t809 => ((koineref01_Compare.f kj30 l0 l1).bind fun t810 => (if t809 = t810 then (if t803 = t805 then (if (t804 == t806) = true then ((natural_Of.f kj30 a2).bind fun t811 => ((koineref01_Of.f kj30 a2).bind fun t814 => ((koineref01_Same.f kj30 t811 t814).bind fun t817 => (if t791 = t798 then ((koineref01_Same.f kj30 t789 t796).bind fun t818 => (if t818 = true then ((koineref01_Same.f kj30 t790 t797).bind fun t819 => (if t819 = true then (if t817 = true then (some t761) else (some false)) else (some false))) else (some false))) else (some false))))) else (none)) else (none)) else (none)))) else (none))) = some r := H
             have A43 := Aside0.mk A430
             clear A430
             replace H := Option.bind_eq_some_iff.mp H
             obtain ⟨t808, A440, H⟩ := H
             replace H : (if (t807 == t808) = true then ((natural_Compare.f kj30 l0 l1).bind fun t809 => ((koineref01_Compare.f kj30 l0 l1).bind fun t810 => (if t809 = t810 then (if t803 = t805 then (if (t804 == t806) = true then ((natural_Of.f kj30 a2).bind fun t811 => ((koineref01_Of.f kj30 a2).bind fun t814 => ((koineref01_Same.f kj30 t811 t814).bind fun t817 => (if t791 = t798 then ((koineref01_Same.f kj30 t789 t796).bind fun t818 => (if t818 = true then ((koineref01_Same.f kj30 t790 t797).bind fun t819 => (if t819 = true then (if t817 = true then (some t761) else (some false)) else (some false))) else (some false))) else (some false))))) else (none)) else (none)) else (none)))) else (none)) = some r := H
             have A44 := Aside0.mk A440
             clear A440
             by_cases c45 : (t807 == t808) = true
             ·rw [if_pos c45] at H
              have c45b0 : (t807 == t808) = true := c45
              (try (have c45b1 : decide (t807 = t808) = true := by simpa using c45))
              (try (have c45b2 : (t807 == t808) = true := by simpa using c45))
              clear c45
              replace H := Option.bind_eq_some_iff.mp H
              obtain ⟨t809, A460, H⟩ := H
              replace H : ((koineref01_Compare.f kj30 l0 l1).bind fun t810 => (if t809 = t810 then (if t803 = t805 then (if (t804 == t806) = true then ((natural_Of.f kj30 a2).bind fun t811 => ((koineref01_Of.f kj30 a2).bind fun t814 => ((koineref01_Same.f kj30 t811 t814).bind fun t817 => (if t791 = t798 then ((koineref01_Same.f kj30 t789 t796).bind fun t818 => (if t818 = true then ((koineref01_Same.f kj30 t790 t797).bind fun t819 => (if t819 = true then (if t817 = true then (some t761) else (some false)) else (some false))) else (some false))) else (some false))))) else (none)) else (none)) else (none))) = some r := H
              have A46 := Aside0.mk A460
              clear A460
              replace H := Option.bind_eq_some_iff.mp H
              obtain ⟨t810, A470, H⟩ := H
              replace H : (if t809 = t810 then (if t803 = t805 then (if (t804 == t806) = true then ((natural_Of.f kj30 a2).bind fun t811 => ((koineref01_Of.f kj30 a2).bind fun t814 => ((koineref01_Same.f kj30 t811 t814).bind fun t817 => (if t791 = t798 then ((koineref01_Same.f kj30 t789 t796).bind fun t818 => (if t818 = true then ((koineref01_Same.f kj30 t790 t797).bind fun t819 => (if t819 = true then (if t817 = true then (some t761) else (some false)) else (some false))) else (some false))) else (some false))))) else (none)) else (none)) else (none)) = some r := H
              have A47 := Aside0.mk A470
              clear A470
              by_cases c48 : t809 = t810
              ·rw [if_pos c48] at H
               have c48b0 : (t809 == t810) = true := beq_iff_eq.mpr c48
               have c48b1 : (t809 != t810) = false := bne_eq_false_iff_eq.mpr c48
               clear c48
               by_cases c49 : t803 = t805
               ·rw [if_pos c49] at H
                have c49b0 : (t803 == t805) = true := beq_iff_eq.mpr c49
                have c49b1 : (t803 != t805) = false := bne_eq_false_iff_eq.mpr c49
                clear c49
                by_cases c50 : (t804 == t806) = true
                ·rw [if_pos c50] at H
                 have c50b0 : (t804 == t806) = true := c50
                 (try (have c50b1 : decide (t804 = t806) = true := by simpa using c50))
                 (try (have c50b2 : (t804 == t806) = true := by simpa using c50))
                 clear c50
                 replace H := Option.bind_eq_some_iff.mp H
                 obtain ⟨t811, A510, H⟩ := H
                 replace H : ((koineref01_Of.f kj30 a2).bind fun t814 => ((koineref01_Same.f kj30 t811 t814).bind fun t817 => (if t791 = t798 then ((koineref01_Same.f kj30 t789 t796).bind fun t818 => (if t818 = true then ((koineref01_Same.f kj30 t790 t797).bind fun t819 => (if t819 = true then (if t817 = true then (some t761) else (some false)) else (some false))) else (some false))) else (some false)))) = some r := H
                 have A51 := Aside0.mk A510
                 clear A510
                 replace H := Option.bind_eq_some_iff.mp H
                 obtain ⟨t814, A520, H⟩ := H
                 replace H : ((koineref01_Same.f kj30 t811 t814).bind fun t817 => (if t791 = t798 then ((koineref01_Same.f kj30 t789 t796).bind fun t818 => (if t818 = true then ((koineref01_Same.f kj30 t790 t797).bind fun t819 => (if t819 = true then (if t817 = true then (some t761) else (some false)) else (some false))) else (some false))) else (some false))) = some r := H
                 have A52 := Aside0.mk A520
                 clear A520
                 replace H := Option.bind_eq_some_iff.mp H
                 obtain ⟨t817, A530, H⟩ := H
                 replace H : (if t791 = t798 then ((koineref01_Same.f kj30 t789 t796).bind fun t818 => (if t818 = true then ((koineref01_Same.f kj30 t790 t797).bind fun t819 => (if t819 = true then (if t817 = true then (some t761) else (some false)) else (some false))) else (some false))) else (some false)) = some r := H
                 have A53 := Aside0.mk A530
                 clear A530
                 by_cases c54 : t791 = t798
                 ·rw [if_pos c54] at H
                  have c54b0 : (t791 == t798) = true := beq_iff_eq.mpr c54
                  have c54b1 : (t791 != t798) = false := bne_eq_false_iff_eq.mpr c54
                  clear c54
                  replace H := Option.bind_eq_some_iff.mp H
                  obtain ⟨t818, A550, H⟩ := H
                  replace H : (if t818 = true then ((koineref01_Same.f kj30 t790 t797).bind fun t819 => (if t819 = true then (if t817 = true then (some t761) else (some false)) else (some false))) else (some false)) = some r := H
                  have A55 := Aside0.mk A550
                  clear A550
                  by_cases c56 : t818 = true
                  ·subst c56
                   have H1 : ((koineref01_Same.f kj30 t790 t797).bind fun t819 => (if t819 = true then (if t817 = true then (some t761) else (some false)) else (some false))) = some r := by rw [if_pos rfl] at H; exact H
                   clear H
                   have H := H1
                   clear H1
                   replace H := Option.bind_eq_some_iff.mp H
                   obtain ⟨t819, A570, H⟩ := H
                   replace H : (if t819 = true then (if t817 = true then (some t761) else (some false)) else (some false)) = some r := H
                   have A57 := Aside0.mk A570
                   clear A570
                   by_cases c58 : t819 = true
                   ·subst c58
                    have H1 : (if t817 = true then (some t761) else (some false)) = some r := by rw [if_pos rfl] at H; exact H
                    clear H
                    have H := H1
                    clear H1
                    by_cases c59 : t817 = true
                    ·subst c59
                     have H1 : (some t761) = some r := by rw [if_pos rfl] at H; exact H
                     clear H
                     have H := H1
                     clear H1
                     obtain rfl := Option.some.inj H
                     go_wp2_with (first | ((with_reducible refine gate_callee (f := 27) rfl ?_); refine goesL_ (some 99) rfl rfl Try.func27 (by kernel_rfl) rfl #[.slice A0 l0.length c0, .slice A1 l1.length c1] rfl (by (try simp only [List.map_toArray, List.map_cons, List.map_nil]); first | done | rfl | (simp only [List.length_drop, List.length_take]; rfl)) ?_; (with_reducible refine (natural_Div.calls kj30 _ _ l0 _ _ l1 t789 t790 t791 _ ?side1 ?side2 ?side3 ?side4 A39.out).mono ?_); (case side1 => repeat (first | exact (Kd.C_below HR0.out HB.out) | (with_reducible first | apply Ca | apply Cb | apply Cc))); (case side2 => exact HC0.out); (case side3 => repeat (first | exact (Kd.C_below HR1.out HB.out) | (with_reducible first | apply Ca | apply Cb | apply Cc))); (case side4 => exact HC1.out); rintro e w60 ⟨v792, v794, rfl, ho0, ho1, hb⟩; refine ⟨_, rfl, ?_⟩; have n0_ := As (Kd.R_lower ho0 (below_size (by repeat (first | (with_reducible first | exact HB.out | apply ba | apply bn | apply bd) | exact HB.out)))); have n1_ := As (Kd.R_lower ho1 (below_size (by repeat (first | (with_reducible first | exact HB.out | apply ba | apply bn | apply bd) | exact HB.out)))); have n2_ := As (below_step (by repeat (first | (with_reducible first | exact HB.out | apply ba | apply bn | apply bd) | exact HB.out)) hb); clear HB; have HO793 := n0_; have HO795 := n1_; have HB := n2_; clear n0_ n1_ n2_; (try clear hb); (try clear ho0); (try clear ho1)) | ((with_reducible refine gate_callee (f := 36) rfl ?_); refine goesL_ (some 106) rfl rfl Try.func36 (by kernel_rfl) rfl #[.slice A0 l0.length c0, .slice A1 l1.length c1] rfl (by (try simp only [List.map_toArray, List.map_cons, List.map_nil]); first | done | rfl | (simp only [List.length_drop, List.length_take]; rfl)) ?_; (with_reducible refine (koineref01_Div.calls kj30 _ _ l0 _ _ l1 t796 t797 t798 _ ?side1 ?side2 ?side3 ?side4 A40.out).mono ?_); (case side1 => repeat (first | exact (Kd.C_below HR0.out HB.out) | (with_reducible first | apply Ca | apply Cb | apply Cc))); (case side2 => exact HC0.out); (case side3 => repeat (first | exact (Kd.C_below HR1.out HB.out) | (with_reducible first | apply Ca | apply Cb | apply Cc))); (case side4 => exact HC1.out); rintro e w61 ⟨v799, v801, rfl, ho0, ho1, hb⟩; refine ⟨_, rfl, ?_⟩; have n0_ := As (Kd.R_mono (Kd.R_told (Kd.R_told (Kd.R_old (by (with_reducible repeat first | apply Ra | apply Rb | apply Rc); exact HO793.out) hb) (Kd.R_base ho0)) (Kd.R_base ho1)) (fun _ h_ => h_.1)); have n1_ := As (Kd.R_mono (Kd.R_told (Kd.R_told (Kd.R_old (by (with_reducible repeat first | apply Ra | apply Rb | apply Rc); exact HO795.out) hb) (Kd.R_base ho0)) (Kd.R_base ho1)) (fun _ h_ => h_.1)); have n2_ := As (Kd.R_lower (Kd.R_new' (Kd.R_new' ho0 (Kd.R_lt (by (with_reducible repeat first | apply Ra | apply Rb | apply Rc); exact HO793.out))) (Kd.R_lt (by (with_reducible repeat first | apply Ra | apply Rb | apply Rc); exact HO795.out))) (below_size (by repeat (first | (with_reducible first | exact HB.out | apply ba | apply bn | apply bd) | exact HB.out)))); have n3_ := As (Kd.R_lower (Kd.R_new' (Kd.R_new' ho1 (Kd.R_lt (by (with_reducible repeat first | apply Ra | apply Rb | apply Rc); exact HO793.out))) (Kd.R_lt (by (with_reducible repeat first | apply Ra | apply Rb | apply Rc); exact HO795.out))) (below_size (by repeat (first | (with_reducible first | exact HB.out | apply ba | apply bn | apply bd) | exact HB.out)))); have n4_ := As (below_step (by repeat (first | (with_reducible first | exact HB.out | apply ba | apply bn | apply bd) | exact HB.out)) hb); clear HO793; clear HO795; clear HB; have HO793 := n0_; have HO795 := n1_; have HO800 := n2_; have HO802 := n3_; have HB := n4_; clear n0_ n1_ n2_ n3_ n4_; (try clear hb); (try clear ho0); (try clear ho1)) | ((with_reducible refine gate_callee (f := 37) rfl ?_); refine goesL_ (some 112) rfl rfl Try.func37 (by kernel_rfl) rfl #[.slice A0 l0.length c0] rfl (by (try simp only [List.map_toArray, List.map_cons, List.map_nil]); first | done | rfl | (simp only [List.length_drop, List.length_take]; rfl)) ?_; (with_reducible refine (natural_Uint64.calls kj30 _ _ l0 t803 t804 _ ?side1 ?side2 A41.out).mono ?_); (case side1 => repeat (first | exact (Kd.C_below HR0.out HB.out) | (with_reducible first | apply Ca | apply Cb | apply Cc))); (case side2 => exact HC0.out); rintro e w' ⟨rfl, ⟨nd, rfl⟩⟩; refine ⟨_, rfl, ?_⟩) | ((with_reducible refine gate_callee (f := 38) rfl ?_); refine goesL_ (some 117) rfl rfl Try.func38 (by kernel_rfl) rfl #[.slice A0 l0.length c0] rfl (by (try simp only [List.map_toArray, List.map_cons, List.map_nil]); first | done | rfl | (simp only [List.length_drop, List.length_take]; rfl)) ?_; (with_reducible refine (koineref01_Uint64.calls kj30 _ _ l0 t805 t806 _ ?side1 ?side2 A42.out).mono ?_); (case side1 => repeat (first | exact (Kd.C_below HR0.out (by repeat (first | (with_reducible first | exact HB.out | apply ba | apply bn | apply bd) | exact HB.out))) | (with_reducible first | apply Ca | apply Cb | apply Cc))); (case side2 => exact HC0.out); rintro e w' ⟨rfl, ⟨nd, rfl⟩⟩; refine ⟨_, rfl, ?_⟩) | ((with_reducible refine gate_callee (f := 20) rfl ?_); refine goesL_ (some 121) rfl rfl Try.func20 (by kernel_rfl) rfl #[.slice A0 l0.length c0] rfl (by (try simp only [List.map_toArray, List.map_cons, List.map_nil]); first | done | rfl | (simp only [List.length_drop, List.length_take]; rfl)) ?_; (with_reducible refine (natural_Valid.calls _ _ l0 t807 _ ?side1 ?side2 A43.out).mono ?_); (case side1 => repeat (first | exact (Kd.C_below HR0.out (by repeat (first | (with_reducible first | exact HB.out | apply ba | apply bn | apply bd) | exact HB.out))) | (with_reducible first | apply Ca | apply Cb | apply Cc))); (case side2 => exact HC0.out); rintro e w' ⟨rfl, ⟨nd, rfl⟩⟩; refine ⟨_, rfl, ?_⟩) | ((with_reducible refine gate_callee (f := 34) rfl ?_); refine goesL_ (some 123) rfl rfl Try.func34 (by kernel_rfl) rfl #[.slice A0 l0.length c0] rfl (by (try simp only [List.map_toArray, List.map_cons, List.map_nil]); first | done | rfl | (simp only [List.length_drop, List.length_take]; rfl)) ?_; (with_reducible refine (koineref01_Valid.calls _ _ l0 t808 _ ?side1 ?side2 A44.out).mono ?_); (case side1 => repeat (first | exact (Kd.C_below HR0.out (by repeat (first | (with_reducible first | exact HB.out | apply ba | apply bn | apply bd) | exact HB.out))) | (with_reducible first | apply Ca | apply Cb | apply Cc))); (case side2 => exact HC0.out); rintro e w' ⟨rfl, ⟨nd, rfl⟩⟩; refine ⟨_, rfl, ?_⟩) | (go_at_call 26; (with_reducible refine (natural_Compare.calls kj30 _ _ l0 _ _ l1 t809 _ ?side1 ?side2 ?side3 ?side4 A46.out).mono ?_); (case side1 => repeat (first | exact (Kd.C_below HR0.out (by repeat (first | (with_reducible first | exact HB.out | apply ba | apply bn | apply bd) | exact HB.out))) | (with_reducible first | apply Ca | apply Cb | apply Cc))); (case side2 => exact HC0.out); (case side3 => repeat (first | exact (Kd.C_below HR1.out (by repeat (first | (with_reducible first | exact HB.out | apply ba | apply bn | apply bd) | exact HB.out))) | (with_reducible first | apply Ca | apply Cb | apply Cc))); (case side4 => exact HC1.out); rintro e w' ⟨rfl, ⟨nd, rfl⟩⟩) | (go_at_call 35; (with_reducible refine (koineref01_Compare.calls kj30 _ _ l0 _ _ l1 t810 _ ?side1 ?side2 ?side3 ?side4 A47.out).mono ?_); (case side1 => repeat (first | exact (Kd.C_below HR0.out (by repeat (first | (with_reducible first | exact HB.out | apply ba | apply bn | apply bd) | exact HB.out))) | (with_reducible first | apply Ca | apply Cb | apply Cc))); (case side2 => exact HC0.out); (case side3 => repeat (first | exact (Kd.C_below HR1.out (by repeat (first | (with_reducible first | exact HB.out | apply ba | apply bn | apply bd) | exact HB.out))) | (with_reducible first | apply Ca | apply Cb | apply Cc))); (case side4 => exact HC1.out); rintro e w62 ⟨rfl, hb⟩; have n0_ := As (Kd.R_below (by (with_reducible repeat first | apply Ra | apply Rb | apply Rc); exact HO793.out) hb); have n1_ := As (Kd.R_below (by (with_reducible repeat first | apply Ra | apply Rb | apply Rc); exact HO795.out) hb); have n2_ := As (Kd.R_below (by (with_reducible repeat first | apply Ra | apply Rb | apply Rc); exact HO800.out) hb); have n3_ := As (Kd.R_below (by (with_reducible repeat first | apply Ra | apply Rb | apply Rc); exact HO802.out) hb); have n4_ := As (below_step (by repeat (first | (with_reducible first | exact HB.out | apply ba | apply bn | apply bd) | exact HB.out)) hb); clear HO793; clear HO795; clear HO800; clear HO802; clear HB; have HO793 := n0_; have HO795 := n1_; have HO800 := n2_; have HO802 := n3_; have HB := n4_; clear n0_ n1_ n2_ n3_ n4_; (try clear hb)) | (go_at_call 24; (with_reducible refine (natural_Of.calls kj30 a2 t811 _ A51.out).mono ?_); rintro e w63 ⟨v812, rfl, ho0, hb⟩; have n0_ := As (Kd.R_elder' (by (with_reducible repeat first | apply Ra | apply Rb | apply Rc); exact HO793.out) (Kd.R_base ho0) hb); have n1_ := As (Kd.R_elder' (by (with_reducible repeat first | apply Ra | apply Rb | apply Rc); exact HO795.out) (Kd.R_base ho0) hb); have n2_ := As (Kd.R_elder' (by (with_reducible repeat first | apply Ra | apply Rb | apply Rc); exact HO800.out) (Kd.R_base ho0) hb); have n3_ := As (Kd.R_elder' (by (with_reducible repeat first | apply Ra | apply Rb | apply Rc); exact HO802.out) (Kd.R_base ho0) hb); have n4_ := As (Kd.R_lower (Kd.R_new' (Kd.R_new' (Kd.R_new' (Kd.R_new' ho0 (Kd.R_lt (by (with_reducible repeat first | apply Ra | apply Rb | apply Rc); exact HO793.out))) (Kd.R_lt (by (with_reducible repeat first | apply Ra | apply Rb | apply Rc); exact HO795.out))) (Kd.R_lt (by (with_reducible repeat first | apply Ra | apply Rb | apply Rc); exact HO800.out))) (Kd.R_lt (by (with_reducible repeat first | apply Ra | apply Rb | apply Rc); exact HO802.out))) (below_size (by repeat (first | (with_reducible first | exact HB.out | apply ba | apply bn | apply bd) | exact HB.out)))); have n5_ := As (below_step (by repeat (first | (with_reducible first | exact HB.out | apply ba | apply bn | apply bd) | exact HB.out)) hb); clear HO793; clear HO795; clear HO800; clear HO802; clear HB; have HO793 := n0_; have HO795 := n1_; have HO800 := n2_; have HO802 := n3_; have HO813 := n4_; have HB := n5_; clear n0_ n1_ n2_ n3_ n4_ n5_; (try clear hb); (try clear ho0)) | (go_at_call 39; (with_reducible refine (koineref01_Of.calls kj30 a2 t814 _ A52.out).mono ?_); rintro e w64 ⟨v815, rfl, ho0, hb⟩; have n0_ := As (Kd.R_elder' (by (with_reducible repeat first | apply Ra | apply Rb | apply Rc); exact HO793.out) (Kd.R_base ho0) hb); have n1_ := As (Kd.R_elder' (by (with_reducible repeat first | apply Ra | apply Rb | apply Rc); exact HO795.out) (Kd.R_base ho0) hb); have n2_ := As (Kd.R_elder' (by (with_reducible repeat first | apply Ra | apply Rb | apply Rc); exact HO800.out) (Kd.R_base ho0) hb); have n3_ := As (Kd.R_elder' (by (with_reducible repeat first | apply Ra | apply Rb | apply Rc); exact HO802.out) (Kd.R_base ho0) hb); have n4_ := As (Kd.R_elder' (by (with_reducible repeat first | apply Ra | apply Rb | apply Rc); exact HO813.out) (Kd.R_base ho0) hb); have n5_ := As (Kd.R_lower (Kd.R_new' (Kd.R_new' (Kd.R_new' (Kd.R_new' (Kd.R_new' ho0 (Kd.R_lt (by (with_reducible repeat first | apply Ra | apply Rb | apply Rc); exact HO793.out))) (Kd.R_lt (by (with_reducible repeat first | apply Ra | apply Rb | apply Rc); exact HO795.out))) (Kd.R_lt (by (with_reducible repeat first | apply Ra | apply Rb | apply Rc); exact HO800.out))) (Kd.R_lt (by (with_reducible repeat first | apply Ra | apply Rb | apply Rc); exact HO802.out))) (Kd.R_lt (by (with_reducible repeat first | apply Ra | apply Rb | apply Rc); exact HO813.out))) (below_size (by repeat (first | (with_reducible first | exact HB.out | apply ba | apply bn | apply bd) | exact HB.out)))); have n6_ := As (below_step (by repeat (first | (with_reducible first | exact HB.out | apply ba | apply bn | apply bd) | exact HB.out)) hb); clear HO793; clear HO795; clear HO800; clear HO802; clear HO813; clear HB; have HO793 := n0_; have HO795 := n1_; have HO800 := n2_; have HO802 := n3_; have HO813 := n4_; have HO816 := n5_; have HB := n6_; clear n0_ n1_ n2_ n3_ n4_ n5_ n6_; (try clear hb); (try clear ho0); obtain ⟨Ao65, co65, eo65⟩ := Kd.R_slice HO813.out; subst eo65; obtain ⟨Ao66, co66, eo66⟩ := Kd.R_slice HO816.out; subst eo66) | (go_at_call 19; (with_reducible refine (koineref01_Same.calls kj30 _ _ t811 _ _ t814 true _ ?side1 ?side2 ?side3 ?side4 A53.out).mono ?_); (case side1 => repeat (first | exact (Kd.R_reads' HO813.out).2.2 | (with_reducible first | apply Ca | apply Cb | apply Cc))); (case side2 => exact (Kd.R_reads' HO813.out).2.1); (case side3 => repeat (first | exact (Kd.R_reads' HO816.out).2.2 | (with_reducible first | apply Ca | apply Cb | apply Cc))); (case side4 => exact (Kd.R_reads' HO816.out).2.1); rintro e w' ⟨rfl, ⟨nd, rfl⟩⟩; obtain ⟨Ao67, co67, eo67⟩ := Kd.R_slice HO793.out; subst eo67; obtain ⟨Ao68, co68, eo68⟩ := Kd.R_slice HO800.out; subst eo68) | (go_at_call 19; (with_reducible refine (koineref01_Same.calls kj30 _ _ t789 _ _ t796 true _ ?side1 ?side2 ?side3 ?side4 A55.out).mono ?_); (case side1 => repeat (first | exact (Kd.R_reads' HO793.out).2.2 | (with_reducible first | apply Ca | apply Cb | apply Cc))); (case side2 => exact (Kd.R_reads' HO793.out).2.1); (case side3 => repeat (first | exact (Kd.R_reads' HO800.out).2.2 | (with_reducible first | apply Ca | apply Cb | apply Cc))); (case side4 => exact (Kd.R_reads' HO800.out).2.1); rintro e w' ⟨rfl, ⟨nd, rfl⟩⟩; obtain ⟨Ao69, co69, eo69⟩ := Kd.R_slice HO795.out; subst eo69; obtain ⟨Ao70, co70, eo70⟩ := Kd.R_slice HO802.out; subst eo70) | (go_at_call 19; (with_reducible refine (koineref01_Same.calls kj30 _ _ t790 _ _ t797 true _ ?side1 ?side2 ?side3 ?side4 A57.out).mono ?_); (case side1 => repeat (first | exact (Kd.R_reads' HO795.out).2.2 | (with_reducible first | apply Ca | apply Cb | apply Cc))); (case side2 => exact (Kd.R_reads' HO795.out).2.1); (case side3 => repeat (first | exact (Kd.R_reads' HO802.out).2.2 | (with_reducible first | apply Ca | apply Cb | apply Cc))); (case side4 => exact (Kd.R_reads' HO802.out).2.1); rintro e w' ⟨rfl, ⟨nd, rfl⟩⟩))
                     go_ret
                     exact ⟨by first | rfl | (simp [errW_none, errW_some] <;> rfl) | (simp [*, errW_none, errW_some] <;> rfl), by repeat (first | (with_reducible first | exact HB.out | apply ba | apply bn | apply bd) | exact HB.out)⟩
                    ·replace c59 := Bool.eq_false_iff.mpr c59
                     subst c59
                     have H1 : (some false) = some r := by rw [if_neg (show ¬ (false = true) by decide)] at H; exact H
                     clear H
                     have H := H1
                     clear H1
                     obtain rfl := Option.some.inj H
                     go_wp2_with (first | ((with_reducible refine gate_callee (f := 27) rfl ?_); refine goesL_ (some 99) rfl rfl Try.func27 (by kernel_rfl) rfl #[.slice A0 l0.length c0, .slice A1 l1.length c1] rfl (by (try simp only [List.map_toArray, List.map_cons, List.map_nil]); first | done | rfl | (simp only [List.length_drop, List.length_take]; rfl)) ?_; (with_reducible refine (natural_Div.calls kj30 _ _ l0 _ _ l1 t789 t790 t791 _ ?side1 ?side2 ?side3 ?side4 A39.out).mono ?_); (case side1 => repeat (first | exact (Kd.C_below HR0.out HB.out) | (with_reducible first | apply Ca | apply Cb | apply Cc))); (case side2 => exact HC0.out); (case side3 => repeat (first | exact (Kd.C_below HR1.out HB.out) | (with_reducible first | apply Ca | apply Cb | apply Cc))); (case side4 => exact HC1.out); rintro e w71 ⟨v792, v794, rfl, ho0, ho1, hb⟩; refine ⟨_, rfl, ?_⟩; have n0_ := As (Kd.R_lower ho0 (below_size (by repeat (first | (with_reducible first | exact HB.out | apply ba | apply bn | apply bd) | exact HB.out)))); have n1_ := As (Kd.R_lower ho1 (below_size (by repeat (first | (with_reducible first | exact HB.out | apply ba | apply bn | apply bd) | exact HB.out)))); have n2_ := As (below_step (by repeat (first | (with_reducible first | exact HB.out | apply ba | apply bn | apply bd) | exact HB.out)) hb); clear HB; have HO793 := n0_; have HO795 := n1_; have HB := n2_; clear n0_ n1_ n2_; (try clear hb); (try clear ho0); (try clear ho1)) | ((with_reducible refine gate_callee (f := 36) rfl ?_); refine goesL_ (some 106) rfl rfl Try.func36 (by kernel_rfl) rfl #[.slice A0 l0.length c0, .slice A1 l1.length c1] rfl (by (try simp only [List.map_toArray, List.map_cons, List.map_nil]); first | done | rfl | (simp only [List.length_drop, List.length_take]; rfl)) ?_; (with_reducible refine (koineref01_Div.calls kj30 _ _ l0 _ _ l1 t796 t797 t798 _ ?side1 ?side2 ?side3 ?side4 A40.out).mono ?_); (case side1 => repeat (first | exact (Kd.C_below HR0.out HB.out) | (with_reducible first | apply Ca | apply Cb | apply Cc))); (case side2 => exact HC0.out); (case side3 => repeat (first | exact (Kd.C_below HR1.out HB.out) | (with_reducible first | apply Ca | apply Cb | apply Cc))); (case side4 => exact HC1.out); rintro e w72 ⟨v799, v801, rfl, ho0, ho1, hb⟩; refine ⟨_, rfl, ?_⟩; have n0_ := As (Kd.R_mono (Kd.R_told (Kd.R_told (Kd.R_old (by (with_reducible repeat first | apply Ra | apply Rb | apply Rc); exact HO793.out) hb) (Kd.R_base ho0)) (Kd.R_base ho1)) (fun _ h_ => h_.1)); have n1_ := As (Kd.R_mono (Kd.R_told (Kd.R_told (Kd.R_old (by (with_reducible repeat first | apply Ra | apply Rb | apply Rc); exact HO795.out) hb) (Kd.R_base ho0)) (Kd.R_base ho1)) (fun _ h_ => h_.1)); have n2_ := As (Kd.R_lower (Kd.R_new' (Kd.R_new' ho0 (Kd.R_lt (by (with_reducible repeat first | apply Ra | apply Rb | apply Rc); exact HO793.out))) (Kd.R_lt (by (with_reducible repeat first | apply Ra | apply Rb | apply Rc); exact HO795.out))) (below_size (by repeat (first | (with_reducible first | exact HB.out | apply ba | apply bn | apply bd) | exact HB.out)))); have n3_ := As (Kd.R_lower (Kd.R_new' (Kd.R_new' ho1 (Kd.R_lt (by (with_reducible repeat first | apply Ra | apply Rb | apply Rc); exact HO793.out))) (Kd.R_lt (by (with_reducible repeat first | apply Ra | apply Rb | apply Rc); exact HO795.out))) (below_size (by repeat (first | (with_reducible first | exact HB.out | apply ba | apply bn | apply bd) | exact HB.out)))); have n4_ := As (below_step (by repeat (first | (with_reducible first | exact HB.out | apply ba | apply bn | apply bd) | exact HB.out)) hb); clear HO793; clear HO795; clear HB; have HO793 := n0_; have HO795 := n1_; have HO800 := n2_; have HO802 := n3_; have HB := n4_; clear n0_ n1_ n2_ n3_ n4_; (try clear hb); (try clear ho0); (try clear ho1)) | ((with_reducible refine gate_callee (f := 37) rfl ?_); refine goesL_ (some 112) rfl rfl Try.func37 (by kernel_rfl) rfl #[.slice A0 l0.length c0] rfl (by (try simp only [List.map_toArray, List.map_cons, List.map_nil]); first | done | rfl | (simp only [List.length_drop, List.length_take]; rfl)) ?_; (with_reducible refine (natural_Uint64.calls kj30 _ _ l0 t803 t804 _ ?side1 ?side2 A41.out).mono ?_); (case side1 => repeat (first | exact (Kd.C_below HR0.out HB.out) | (with_reducible first | apply Ca | apply Cb | apply Cc))); (case side2 => exact HC0.out); rintro e w' ⟨rfl, ⟨nd, rfl⟩⟩; refine ⟨_, rfl, ?_⟩) | ((with_reducible refine gate_callee (f := 38) rfl ?_); refine goesL_ (some 117) rfl rfl Try.func38 (by kernel_rfl) rfl #[.slice A0 l0.length c0] rfl (by (try simp only [List.map_toArray, List.map_cons, List.map_nil]); first | done | rfl | (simp only [List.length_drop, List.length_take]; rfl)) ?_; (with_reducible refine (koineref01_Uint64.calls kj30 _ _ l0 t805 t806 _ ?side1 ?side2 A42.out).mono ?_); (case side1 => repeat (first | exact (Kd.C_below HR0.out (by repeat (first | (with_reducible first | exact HB.out | apply ba | apply bn | apply bd) | exact HB.out))) | (with_reducible first | apply Ca | apply Cb | apply Cc))); (case side2 => exact HC0.out); rintro e w' ⟨rfl, ⟨nd, rfl⟩⟩; refine ⟨_, rfl, ?_⟩) | ((with_reducible refine gate_callee (f := 20) rfl ?_); refine goesL_ (some 121) rfl rfl Try.func20 (by kernel_rfl) rfl #[.slice A0 l0.length c0] rfl (by (try simp only [List.map_toArray, List.map_cons, List.map_nil]); first | done | rfl | (simp only [List.length_drop, List.length_take]; rfl)) ?_; (with_reducible refine (natural_Valid.calls _ _ l0 t807 _ ?side1 ?side2 A43.out).mono ?_); (case side1 => repeat (first | exact (Kd.C_below HR0.out (by repeat (first | (with_reducible first | exact HB.out | apply ba | apply bn | apply bd) | exact HB.out))) | (with_reducible first | apply Ca | apply Cb | apply Cc))); (case side2 => exact HC0.out); rintro e w' ⟨rfl, ⟨nd, rfl⟩⟩; refine ⟨_, rfl, ?_⟩) | ((with_reducible refine gate_callee (f := 34) rfl ?_); refine goesL_ (some 123) rfl rfl Try.func34 (by kernel_rfl) rfl #[.slice A0 l0.length c0] rfl (by (try simp only [List.map_toArray, List.map_cons, List.map_nil]); first | done | rfl | (simp only [List.length_drop, List.length_take]; rfl)) ?_; (with_reducible refine (koineref01_Valid.calls _ _ l0 t808 _ ?side1 ?side2 A44.out).mono ?_); (case side1 => repeat (first | exact (Kd.C_below HR0.out (by repeat (first | (with_reducible first | exact HB.out | apply ba | apply bn | apply bd) | exact HB.out))) | (with_reducible first | apply Ca | apply Cb | apply Cc))); (case side2 => exact HC0.out); rintro e w' ⟨rfl, ⟨nd, rfl⟩⟩; refine ⟨_, rfl, ?_⟩) | (go_at_call 26; (with_reducible refine (natural_Compare.calls kj30 _ _ l0 _ _ l1 t809 _ ?side1 ?side2 ?side3 ?side4 A46.out).mono ?_); (case side1 => repeat (first | exact (Kd.C_below HR0.out (by repeat (first | (with_reducible first | exact HB.out | apply ba | apply bn | apply bd) | exact HB.out))) | (with_reducible first | apply Ca | apply Cb | apply Cc))); (case side2 => exact HC0.out); (case side3 => repeat (first | exact (Kd.C_below HR1.out (by repeat (first | (with_reducible first | exact HB.out | apply ba | apply bn | apply bd) | exact HB.out))) | (with_reducible first | apply Ca | apply Cb | apply Cc))); (case side4 => exact HC1.out); rintro e w' ⟨rfl, ⟨nd, rfl⟩⟩) | (go_at_call 35; (with_reducible refine (koineref01_Compare.calls kj30 _ _ l0 _ _ l1 t810 _ ?side1 ?side2 ?side3 ?side4 A47.out).mono ?_); (case side1 => repeat (first | exact (Kd.C_below HR0.out (by repeat (first | (with_reducible first | exact HB.out | apply ba | apply bn | apply bd) | exact HB.out))) | (with_reducible first | apply Ca | apply Cb | apply Cc))); (case side2 => exact HC0.out); (case side3 => repeat (first | exact (Kd.C_below HR1.out (by repeat (first | (with_reducible first | exact HB.out | apply ba | apply bn | apply bd) | exact HB.out))) | (with_reducible first | apply Ca | apply Cb | apply Cc))); (case side4 => exact HC1.out); rintro e w73 ⟨rfl, hb⟩; have n0_ := As (Kd.R_below (by (with_reducible repeat first | apply Ra | apply Rb | apply Rc); exact HO793.out) hb); have n1_ := As (Kd.R_below (by (with_reducible repeat first | apply Ra | apply Rb | apply Rc); exact HO795.out) hb); have n2_ := As (Kd.R_below (by (with_reducible repeat first | apply Ra | apply Rb | apply Rc); exact HO800.out) hb); have n3_ := As (Kd.R_below (by (with_reducible repeat first | apply Ra | apply Rb | apply Rc); exact HO802.out) hb); have n4_ := As (below_step (by repeat (first | (with_reducible first | exact HB.out | apply ba | apply bn | apply bd) | exact HB.out)) hb); clear HO793; clear HO795; clear HO800; clear HO802; clear HB; have HO793 := n0_; have HO795 := n1_; have HO800 := n2_; have HO802 := n3_; have HB := n4_; clear n0_ n1_ n2_ n3_ n4_; (try clear hb)) | (go_at_call 24; (with_reducible refine (natural_Of.calls kj30 a2 t811 _ A51.out).mono ?_); rintro e w74 ⟨v812, rfl, ho0, hb⟩; have n0_ := As (Kd.R_elder' (by (with_reducible repeat first | apply Ra | apply Rb | apply Rc); exact HO793.out) (Kd.R_base ho0) hb); have n1_ := As (Kd.R_elder' (by (with_reducible repeat first | apply Ra | apply Rb | apply Rc); exact HO795.out) (Kd.R_base ho0) hb); have n2_ := As (Kd.R_elder' (by (with_reducible repeat first | apply Ra | apply Rb | apply Rc); exact HO800.out) (Kd.R_base ho0) hb); have n3_ := As (Kd.R_elder' (by (with_reducible repeat first | apply Ra | apply Rb | apply Rc); exact HO802.out) (Kd.R_base ho0) hb); have n4_ := As (Kd.R_lower (Kd.R_new' (Kd.R_new' (Kd.R_new' (Kd.R_new' ho0 (Kd.R_lt (by (with_reducible repeat first | apply Ra | apply Rb | apply Rc); exact HO793.out))) (Kd.R_lt (by (with_reducible repeat first | apply Ra | apply Rb | apply Rc); exact HO795.out))) (Kd.R_lt (by (with_reducible repeat first | apply Ra | apply Rb | apply Rc); exact HO800.out))) (Kd.R_lt (by (with_reducible repeat first | apply Ra | apply Rb | apply Rc); exact HO802.out))) (below_size (by repeat (first | (with_reducible first | exact HB.out | apply ba | apply bn | apply bd) | exact HB.out)))); have n5_ := As (below_step (by repeat (first | (with_reducible first | exact HB.out | apply ba | apply bn | apply bd) | exact HB.out)) hb); clear HO793; clear HO795; clear HO800; clear HO802; clear HB; have HO793 := n0_; have HO795 := n1_; have HO800 := n2_; have HO802 := n3_; have HO813 := n4_; have HB := n5_; clear n0_ n1_ n2_ n3_ n4_ n5_; (try clear hb); (try clear ho0)) | (go_at_call 39; (with_reducible refine (koineref01_Of.calls kj30 a2 t814 _ A52.out).mono ?_); rintro e w75 ⟨v815, rfl, ho0, hb⟩; have n0_ := As (Kd.R_elder' (by (with_reducible repeat first | apply Ra | apply Rb | apply Rc); exact HO793.out) (Kd.R_base ho0) hb); have n1_ := As (Kd.R_elder' (by (with_reducible repeat first | apply Ra | apply Rb | apply Rc); exact HO795.out) (Kd.R_base ho0) hb); have n2_ := As (Kd.R_elder' (by (with_reducible repeat first | apply Ra | apply Rb | apply Rc); exact HO800.out) (Kd.R_base ho0) hb); have n3_ := As (Kd.R_elder' (by (with_reducible repeat first | apply Ra | apply Rb | apply Rc); exact HO802.out) (Kd.R_base ho0) hb); have n4_ := As (Kd.R_elder' (by (with_reducible repeat first | apply Ra | apply Rb | apply Rc); exact HO813.out) (Kd.R_base ho0) hb); have n5_ := As (Kd.R_lower (Kd.R_new' (Kd.R_new' (Kd.R_new' (Kd.R_new' (Kd.R_new' ho0 (Kd.R_lt (by (with_reducible repeat first | apply Ra | apply Rb | apply Rc); exact HO793.out))) (Kd.R_lt (by (with_reducible repeat first | apply Ra | apply Rb | apply Rc); exact HO795.out))) (Kd.R_lt (by (with_reducible repeat first | apply Ra | apply Rb | apply Rc); exact HO800.out))) (Kd.R_lt (by (with_reducible repeat first | apply Ra | apply Rb | apply Rc); exact HO802.out))) (Kd.R_lt (by (with_reducible repeat first | apply Ra | apply Rb | apply Rc); exact HO813.out))) (below_size (by repeat (first | (with_reducible first | exact HB.out | apply ba | apply bn | apply bd) | exact HB.out)))); have n6_ := As (below_step (by repeat (first | (with_reducible first | exact HB.out | apply ba | apply bn | apply bd) | exact HB.out)) hb); clear HO793; clear HO795; clear HO800; clear HO802; clear HO813; clear HB; have HO793 := n0_; have HO795 := n1_; have HO800 := n2_; have HO802 := n3_; have HO813 := n4_; have HO816 := n5_; have HB := n6_; clear n0_ n1_ n2_ n3_ n4_ n5_ n6_; (try clear hb); (try clear ho0); obtain ⟨Ao76, co76, eo76⟩ := Kd.R_slice HO813.out; subst eo76; obtain ⟨Ao77, co77, eo77⟩ := Kd.R_slice HO816.out; subst eo77) | (go_at_call 19; (with_reducible refine (koineref01_Same.calls kj30 _ _ t811 _ _ t814 false _ ?side1 ?side2 ?side3 ?side4 A53.out).mono ?_); (case side1 => repeat (first | exact (Kd.R_reads' HO813.out).2.2 | (with_reducible first | apply Ca | apply Cb | apply Cc))); (case side2 => exact (Kd.R_reads' HO813.out).2.1); (case side3 => repeat (first | exact (Kd.R_reads' HO816.out).2.2 | (with_reducible first | apply Ca | apply Cb | apply Cc))); (case side4 => exact (Kd.R_reads' HO816.out).2.1); rintro e w' ⟨rfl, ⟨nd, rfl⟩⟩; obtain ⟨Ao78, co78, eo78⟩ := Kd.R_slice HO793.out; subst eo78; obtain ⟨Ao79, co79, eo79⟩ := Kd.R_slice HO800.out; subst eo79) | (go_at_call 19; (with_reducible refine (koineref01_Same.calls kj30 _ _ t789 _ _ t796 true _ ?side1 ?side2 ?side3 ?side4 A55.out).mono ?_); (case side1 => repeat (first | exact (Kd.R_reads' HO793.out).2.2 | (with_reducible first | apply Ca | apply Cb | apply Cc))); (case side2 => exact (Kd.R_reads' HO793.out).2.1); (case side3 => repeat (first | exact (Kd.R_reads' HO800.out).2.2 | (with_reducible first | apply Ca | apply Cb | apply Cc))); (case side4 => exact (Kd.R_reads' HO800.out).2.1); rintro e w' ⟨rfl, ⟨nd, rfl⟩⟩; obtain ⟨Ao80, co80, eo80⟩ := Kd.R_slice HO795.out; subst eo80; obtain ⟨Ao81, co81, eo81⟩ := Kd.R_slice HO802.out; subst eo81) | (go_at_call 19; (with_reducible refine (koineref01_Same.calls kj30 _ _ t790 _ _ t797 true _ ?side1 ?side2 ?side3 ?side4 A57.out).mono ?_); (case side1 => repeat (first | exact (Kd.R_reads' HO795.out).2.2 | (with_reducible first | apply Ca | apply Cb | apply Cc))); (case side2 => exact (Kd.R_reads' HO795.out).2.1); (case side3 => repeat (first | exact (Kd.R_reads' HO802.out).2.2 | (with_reducible first | apply Ca | apply Cb | apply Cc))); (case side4 => exact (Kd.R_reads' HO802.out).2.1); rintro e w' ⟨rfl, ⟨nd, rfl⟩⟩))
                     go_ret
                     exact ⟨by first | rfl | (simp [errW_none, errW_some] <;> rfl) | (simp [*, errW_none, errW_some] <;> rfl), by repeat (first | (with_reducible first | exact HB.out | apply ba | apply bn | apply bd) | exact HB.out)⟩
                   ·replace c58 := Bool.eq_false_iff.mpr c58
                    subst c58
                    have H1 : (some false) = some r := by rw [if_neg (show ¬ (false = true) by decide)] at H; exact H
                    clear H
                    have H := H1
                    clear H1
                    obtain rfl := Option.some.inj H
                    go_wp2_with (first | ((with_reducible refine gate_callee (f := 27) rfl ?_); refine goesL_ (some 99) rfl rfl Try.func27 (by kernel_rfl) rfl #[.slice A0 l0.length c0, .slice A1 l1.length c1] rfl (by (try simp only [List.map_toArray, List.map_cons, List.map_nil]); first | done | rfl | (simp only [List.length_drop, List.length_take]; rfl)) ?_; (with_reducible refine (natural_Div.calls kj30 _ _ l0 _ _ l1 t789 t790 t791 _ ?side1 ?side2 ?side3 ?side4 A39.out).mono ?_); (case side1 => repeat (first | exact (Kd.C_below HR0.out HB.out) | (with_reducible first | apply Ca | apply Cb | apply Cc))); (case side2 => exact HC0.out); (case side3 => repeat (first | exact (Kd.C_below HR1.out HB.out) | (with_reducible first | apply Ca | apply Cb | apply Cc))); (case side4 => exact HC1.out); rintro e w82 ⟨v792, v794, rfl, ho0, ho1, hb⟩; refine ⟨_, rfl, ?_⟩; have n0_ := As (Kd.R_lower ho0 (below_size (by repeat (first | (with_reducible first | exact HB.out | apply ba | apply bn | apply bd) | exact HB.out)))); have n1_ := As (Kd.R_lower ho1 (below_size (by repeat (first | (with_reducible first | exact HB.out | apply ba | apply bn | apply bd) | exact HB.out)))); have n2_ := As (below_step (by repeat (first | (with_reducible first | exact HB.out | apply ba | apply bn | apply bd) | exact HB.out)) hb); clear HB; have HO793 := n0_; have HO795 := n1_; have HB := n2_; clear n0_ n1_ n2_; (try clear hb); (try clear ho0); (try clear ho1)) | ((with_reducible refine gate_callee (f := 36) rfl ?_); refine goesL_ (some 106) rfl rfl Try.func36 (by kernel_rfl) rfl #[.slice A0 l0.length c0, .slice A1 l1.length c1] rfl (by (try simp only [List.map_toArray, List.map_cons, List.map_nil]); first | done | rfl | (simp only [List.length_drop, List.length_take]; rfl)) ?_; (with_reducible refine (koineref01_Div.calls kj30 _ _ l0 _ _ l1 t796 t797 t798 _ ?side1 ?side2 ?side3 ?side4 A40.out).mono ?_); (case side1 => repeat (first | exact (Kd.C_below HR0.out HB.out) | (with_reducible first | apply Ca | apply Cb | apply Cc))); (case side2 => exact HC0.out); (case side3 => repeat (first | exact (Kd.C_below HR1.out HB.out) | (with_reducible first | apply Ca | apply Cb | apply Cc))); (case side4 => exact HC1.out); rintro e w83 ⟨v799, v801, rfl, ho0, ho1, hb⟩; refine ⟨_, rfl, ?_⟩; have n0_ := As (Kd.R_mono (Kd.R_told (Kd.R_told (Kd.R_old (by (with_reducible repeat first | apply Ra | apply Rb | apply Rc); exact HO793.out) hb) (Kd.R_base ho0)) (Kd.R_base ho1)) (fun _ h_ => h_.1)); have n1_ := As (Kd.R_mono (Kd.R_told (Kd.R_told (Kd.R_old (by (with_reducible repeat first | apply Ra | apply Rb | apply Rc); exact HO795.out) hb) (Kd.R_base ho0)) (Kd.R_base ho1)) (fun _ h_ => h_.1)); have n2_ := As (Kd.R_lower (Kd.R_new' (Kd.R_new' ho0 (Kd.R_lt (by (with_reducible repeat first | apply Ra | apply Rb | apply Rc); exact HO793.out))) (Kd.R_lt (by (with_reducible repeat first | apply Ra | apply Rb | apply Rc); exact HO795.out))) (below_size (by repeat (first | (with_reducible first | exact HB.out | apply ba | apply bn | apply bd) | exact HB.out)))); have n3_ := As (Kd.R_lower (Kd.R_new' (Kd.R_new' ho1 (Kd.R_lt (by (with_reducible repeat first | apply Ra | apply Rb | apply Rc); exact HO793.out))) (Kd.R_lt (by (with_reducible repeat first | apply Ra | apply Rb | apply Rc); exact HO795.out))) (below_size (by repeat (first | (with_reducible first | exact HB.out | apply ba | apply bn | apply bd) | exact HB.out)))); have n4_ := As (below_step (by repeat (first | (with_reducible first | exact HB.out | apply ba | apply bn | apply bd) | exact HB.out)) hb); clear HO793; clear HO795; clear HB; have HO793 := n0_; have HO795 := n1_; have HO800 := n2_; have HO802 := n3_; have HB := n4_; clear n0_ n1_ n2_ n3_ n4_; (try clear hb); (try clear ho0); (try clear ho1)) | ((with_reducible refine gate_callee (f := 37) rfl ?_); refine goesL_ (some 112) rfl rfl Try.func37 (by kernel_rfl) rfl #[.slice A0 l0.length c0] rfl (by (try simp only [List.map_toArray, List.map_cons, List.map_nil]); first | done | rfl | (simp only [List.length_drop, List.length_take]; rfl)) ?_; (with_reducible refine (natural_Uint64.calls kj30 _ _ l0 t803 t804 _ ?side1 ?side2 A41.out).mono ?_); (case side1 => repeat (first | exact (Kd.C_below HR0.out HB.out) | (with_reducible first | apply Ca | apply Cb | apply Cc))); (case side2 => exact HC0.out); rintro e w' ⟨rfl, ⟨nd, rfl⟩⟩; refine ⟨_, rfl, ?_⟩) | ((with_reducible refine gate_callee (f := 38) rfl ?_); refine goesL_ (some 117) rfl rfl Try.func38 (by kernel_rfl) rfl #[.slice A0 l0.length c0] rfl (by (try simp only [List.map_toArray, List.map_cons, List.map_nil]); first | done | rfl | (simp only [List.length_drop, List.length_take]; rfl)) ?_; (with_reducible refine (koineref01_Uint64.calls kj30 _ _ l0 t805 t806 _ ?side1 ?side2 A42.out).mono ?_); (case side1 => repeat (first | exact (Kd.C_below HR0.out (by repeat (first | (with_reducible first | exact HB.out | apply ba | apply bn | apply bd) | exact HB.out))) | (with_reducible first | apply Ca | apply Cb | apply Cc))); (case side2 => exact HC0.out); rintro e w' ⟨rfl, ⟨nd, rfl⟩⟩; refine ⟨_, rfl, ?_⟩) | ((with_reducible refine gate_callee (f := 20) rfl ?_); refine goesL_ (some 121) rfl rfl Try.func20 (by kernel_rfl) rfl #[.slice A0 l0.length c0] rfl (by (try simp only [List.map_toArray, List.map_cons, List.map_nil]); first | done | rfl | (simp only [List.length_drop, List.length_take]; rfl)) ?_; (with_reducible refine (natural_Valid.calls _ _ l0 t807 _ ?side1 ?side2 A43.out).mono ?_); (case side1 => repeat (first | exact (Kd.C_below HR0.out (by repeat (first | (with_reducible first | exact HB.out | apply ba | apply bn | apply bd) | exact HB.out))) | (with_reducible first | apply Ca | apply Cb | apply Cc))); (case side2 => exact HC0.out); rintro e w' ⟨rfl, ⟨nd, rfl⟩⟩; refine ⟨_, rfl, ?_⟩) | ((with_reducible refine gate_callee (f := 34) rfl ?_); refine goesL_ (some 123) rfl rfl Try.func34 (by kernel_rfl) rfl #[.slice A0 l0.length c0] rfl (by (try simp only [List.map_toArray, List.map_cons, List.map_nil]); first | done | rfl | (simp only [List.length_drop, List.length_take]; rfl)) ?_; (with_reducible refine (koineref01_Valid.calls _ _ l0 t808 _ ?side1 ?side2 A44.out).mono ?_); (case side1 => repeat (first | exact (Kd.C_below HR0.out (by repeat (first | (with_reducible first | exact HB.out | apply ba | apply bn | apply bd) | exact HB.out))) | (with_reducible first | apply Ca | apply Cb | apply Cc))); (case side2 => exact HC0.out); rintro e w' ⟨rfl, ⟨nd, rfl⟩⟩; refine ⟨_, rfl, ?_⟩) | (go_at_call 26; (with_reducible refine (natural_Compare.calls kj30 _ _ l0 _ _ l1 t809 _ ?side1 ?side2 ?side3 ?side4 A46.out).mono ?_); (case side1 => repeat (first | exact (Kd.C_below HR0.out (by repeat (first | (with_reducible first | exact HB.out | apply ba | apply bn | apply bd) | exact HB.out))) | (with_reducible first | apply Ca | apply Cb | apply Cc))); (case side2 => exact HC0.out); (case side3 => repeat (first | exact (Kd.C_below HR1.out (by repeat (first | (with_reducible first | exact HB.out | apply ba | apply bn | apply bd) | exact HB.out))) | (with_reducible first | apply Ca | apply Cb | apply Cc))); (case side4 => exact HC1.out); rintro e w' ⟨rfl, ⟨nd, rfl⟩⟩) | (go_at_call 35; (with_reducible refine (koineref01_Compare.calls kj30 _ _ l0 _ _ l1 t810 _ ?side1 ?side2 ?side3 ?side4 A47.out).mono ?_); (case side1 => repeat (first | exact (Kd.C_below HR0.out (by repeat (first | (with_reducible first | exact HB.out | apply ba | apply bn | apply bd) | exact HB.out))) | (with_reducible first | apply Ca | apply Cb | apply Cc))); (case side2 => exact HC0.out); (case side3 => repeat (first | exact (Kd.C_below HR1.out (by repeat (first | (with_reducible first | exact HB.out | apply ba | apply bn | apply bd) | exact HB.out))) | (with_reducible first | apply Ca | apply Cb | apply Cc))); (case side4 => exact HC1.out); rintro e w84 ⟨rfl, hb⟩; have n0_ := As (Kd.R_below (by (with_reducible repeat first | apply Ra | apply Rb | apply Rc); exact HO793.out) hb); have n1_ := As (Kd.R_below (by (with_reducible repeat first | apply Ra | apply Rb | apply Rc); exact HO795.out) hb); have n2_ := As (Kd.R_below (by (with_reducible repeat first | apply Ra | apply Rb | apply Rc); exact HO800.out) hb); have n3_ := As (Kd.R_below (by (with_reducible repeat first | apply Ra | apply Rb | apply Rc); exact HO802.out) hb); have n4_ := As (below_step (by repeat (first | (with_reducible first | exact HB.out | apply ba | apply bn | apply bd) | exact HB.out)) hb); clear HO793; clear HO795; clear HO800; clear HO802; clear HB; have HO793 := n0_; have HO795 := n1_; have HO800 := n2_; have HO802 := n3_; have HB := n4_; clear n0_ n1_ n2_ n3_ n4_; (try clear hb)) | (go_at_call 24; (with_reducible refine (natural_Of.calls kj30 a2 t811 _ A51.out).mono ?_); rintro e w85 ⟨v812, rfl, ho0, hb⟩; have n0_ := As (Kd.R_elder' (by (with_reducible repeat first | apply Ra | apply Rb | apply Rc); exact HO793.out) (Kd.R_base ho0) hb); have n1_ := As (Kd.R_elder' (by (with_reducible repeat first | apply Ra | apply Rb | apply Rc); exact HO795.out) (Kd.R_base ho0) hb); have n2_ := As (Kd.R_elder' (by (with_reducible repeat first | apply Ra | apply Rb | apply Rc); exact HO800.out) (Kd.R_base ho0) hb); have n3_ := As (Kd.R_elder' (by (with_reducible repeat first | apply Ra | apply Rb | apply Rc); exact HO802.out) (Kd.R_base ho0) hb); have n4_ := As (Kd.R_lower (Kd.R_new' (Kd.R_new' (Kd.R_new' (Kd.R_new' ho0 (Kd.R_lt (by (with_reducible repeat first | apply Ra | apply Rb | apply Rc); exact HO793.out))) (Kd.R_lt (by (with_reducible repeat first | apply Ra | apply Rb | apply Rc); exact HO795.out))) (Kd.R_lt (by (with_reducible repeat first | apply Ra | apply Rb | apply Rc); exact HO800.out))) (Kd.R_lt (by (with_reducible repeat first | apply Ra | apply Rb | apply Rc); exact HO802.out))) (below_size (by repeat (first | (with_reducible first | exact HB.out | apply ba | apply bn | apply bd) | exact HB.out)))); have n5_ := As (below_step (by repeat (first | (with_reducible first | exact HB.out | apply ba | apply bn | apply bd) | exact HB.out)) hb); clear HO793; clear HO795; clear HO800; clear HO802; clear HB; have HO793 := n0_; have HO795 := n1_; have HO800 := n2_; have HO802 := n3_; have HO813 := n4_; have HB := n5_; clear n0_ n1_ n2_ n3_ n4_ n5_; (try clear hb); (try clear ho0)) | (go_at_call 39; (with_reducible refine (koineref01_Of.calls kj30 a2 t814 _ A52.out).mono ?_); rintro e w86 ⟨v815, rfl, ho0, hb⟩; have n0_ := As (Kd.R_elder' (by (with_reducible repeat first | apply Ra | apply Rb | apply Rc); exact HO793.out) (Kd.R_base ho0) hb); have n1_ := As (Kd.R_elder' (by (with_reducible repeat first | apply Ra | apply Rb | apply Rc); exact HO795.out) (Kd.R_base ho0) hb); have n2_ := As (Kd.R_elder' (by (with_reducible repeat first | apply Ra | apply Rb | apply Rc); exact HO800.out) (Kd.R_base ho0) hb); have n3_ := As (Kd.R_elder' (by (with_reducible repeat first | apply Ra | apply Rb | apply Rc); exact HO802.out) (Kd.R_base ho0) hb); have n4_ := As (Kd.R_elder' (by (with_reducible repeat first | apply Ra | apply Rb | apply Rc); exact HO813.out) (Kd.R_base ho0) hb); have n5_ := As (Kd.R_lower (Kd.R_new' (Kd.R_new' (Kd.R_new' (Kd.R_new' (Kd.R_new' ho0 (Kd.R_lt (by (with_reducible repeat first | apply Ra | apply Rb | apply Rc); exact HO793.out))) (Kd.R_lt (by (with_reducible repeat first | apply Ra | apply Rb | apply Rc); exact HO795.out))) (Kd.R_lt (by (with_reducible repeat first | apply Ra | apply Rb | apply Rc); exact HO800.out))) (Kd.R_lt (by (with_reducible repeat first | apply Ra | apply Rb | apply Rc); exact HO802.out))) (Kd.R_lt (by (with_reducible repeat first | apply Ra | apply Rb | apply Rc); exact HO813.out))) (below_size (by repeat (first | (with_reducible first | exact HB.out | apply ba | apply bn | apply bd) | exact HB.out)))); have n6_ := As (below_step (by repeat (first | (with_reducible first | exact HB.out | apply ba | apply bn | apply bd) | exact HB.out)) hb); clear HO793; clear HO795; clear HO800; clear HO802; clear HO813; clear HB; have HO793 := n0_; have HO795 := n1_; have HO800 := n2_; have HO802 := n3_; have HO813 := n4_; have HO816 := n5_; have HB := n6_; clear n0_ n1_ n2_ n3_ n4_ n5_ n6_; (try clear hb); (try clear ho0); obtain ⟨Ao87, co87, eo87⟩ := Kd.R_slice HO813.out; subst eo87; obtain ⟨Ao88, co88, eo88⟩ := Kd.R_slice HO816.out; subst eo88) | (go_at_call 19; (with_reducible refine (koineref01_Same.calls kj30 _ _ t811 _ _ t814 t817 _ ?side1 ?side2 ?side3 ?side4 A53.out).mono ?_); (case side1 => repeat (first | exact (Kd.R_reads' HO813.out).2.2 | (with_reducible first | apply Ca | apply Cb | apply Cc))); (case side2 => exact (Kd.R_reads' HO813.out).2.1); (case side3 => repeat (first | exact (Kd.R_reads' HO816.out).2.2 | (with_reducible first | apply Ca | apply Cb | apply Cc))); (case side4 => exact (Kd.R_reads' HO816.out).2.1); rintro e w' ⟨rfl, ⟨nd, rfl⟩⟩; obtain ⟨Ao89, co89, eo89⟩ := Kd.R_slice HO793.out; subst eo89; obtain ⟨Ao90, co90, eo90⟩ := Kd.R_slice HO800.out; subst eo90) | (go_at_call 19; (with_reducible refine (koineref01_Same.calls kj30 _ _ t789 _ _ t796 true _ ?side1 ?side2 ?side3 ?side4 A55.out).mono ?_); (case side1 => repeat (first | exact (Kd.R_reads' HO793.out).2.2 | (with_reducible first | apply Ca | apply Cb | apply Cc))); (case side2 => exact (Kd.R_reads' HO793.out).2.1); (case side3 => repeat (first | exact (Kd.R_reads' HO800.out).2.2 | (with_reducible first | apply Ca | apply Cb | apply Cc))); (case side4 => exact (Kd.R_reads' HO800.out).2.1); rintro e w' ⟨rfl, ⟨nd, rfl⟩⟩; obtain ⟨Ao91, co91, eo91⟩ := Kd.R_slice HO795.out; subst eo91; obtain ⟨Ao92, co92, eo92⟩ := Kd.R_slice HO802.out; subst eo92) | (go_at_call 19; (with_reducible refine (koineref01_Same.calls kj30 _ _ t790 _ _ t797 false _ ?side1 ?side2 ?side3 ?side4 A57.out).mono ?_); (case side1 => repeat (first | exact (Kd.R_reads' HO795.out).2.2 | (with_reducible first | apply Ca | apply Cb | apply Cc))); (case side2 => exact (Kd.R_reads' HO795.out).2.1); (case side3 => repeat (first | exact (Kd.R_reads' HO802.out).2.2 | (with_reducible first | apply Ca | apply Cb | apply Cc))); (case side4 => exact (Kd.R_reads' HO802.out).2.1); rintro e w' ⟨rfl, ⟨nd, rfl⟩⟩))
                    go_ret
                    exact ⟨by first | rfl | (simp [errW_none, errW_some] <;> rfl) | (simp [*, errW_none, errW_some] <;> rfl), by repeat (first | (with_reducible first | exact HB.out | apply ba | apply bn | apply bd) | exact HB.out)⟩
                  ·replace c56 := Bool.eq_false_iff.mpr c56
                   subst c56
                   have H1 : (some false) = some r := by rw [if_neg (show ¬ (false = true) by decide)] at H; exact H
                   clear H
                   have H := H1
                   clear H1
                   obtain rfl := Option.some.inj H
                   go_wp2_with (first | ((with_reducible refine gate_callee (f := 27) rfl ?_); refine goesL_ (some 99) rfl rfl Try.func27 (by kernel_rfl) rfl #[.slice A0 l0.length c0, .slice A1 l1.length c1] rfl (by (try simp only [List.map_toArray, List.map_cons, List.map_nil]); first | done | rfl | (simp only [List.length_drop, List.length_take]; rfl)) ?_; (with_reducible refine (natural_Div.calls kj30 _ _ l0 _ _ l1 t789 t790 t791 _ ?side1 ?side2 ?side3 ?side4 A39.out).mono ?_); (case side1 => repeat (first | exact (Kd.C_below HR0.out HB.out) | (with_reducible first | apply Ca | apply Cb | apply Cc))); (case side2 => exact HC0.out); (case side3 => repeat (first | exact (Kd.C_below HR1.out HB.out) | (with_reducible first | apply Ca | apply Cb | apply Cc))); (case side4 => exact HC1.out); rintro e w93 ⟨v792, v794, rfl, ho0, ho1, hb⟩; refine ⟨_, rfl, ?_⟩; have n0_ := As (Kd.R_lower ho0 (below_size (by repeat (first | (with_reducible first | exact HB.out | apply ba | apply bn | apply bd) | exact HB.out)))); have n1_ := As (Kd.R_lower ho1 (below_size (by repeat (first | (with_reducible first | exact HB.out | apply ba | apply bn | apply bd) | exact HB.out)))); have n2_ := As (below_step (by repeat (first | (with_reducible first | exact HB.out | apply ba | apply bn | apply bd) | exact HB.out)) hb); clear HB; have HO793 := n0_; have HO795 := n1_; have HB := n2_; clear n0_ n1_ n2_; (try clear hb); (try clear ho0); (try clear ho1)) | ((with_reducible refine gate_callee (f := 36) rfl ?_); refine goesL_ (some 106) rfl rfl Try.func36 (by kernel_rfl) rfl #[.slice A0 l0.length c0, .slice A1 l1.length c1] rfl (by (try simp only [List.map_toArray, List.map_cons, List.map_nil]); first | done | rfl | (simp only [List.length_drop, List.length_take]; rfl)) ?_; (with_reducible refine (koineref01_Div.calls kj30 _ _ l0 _ _ l1 t796 t797 t798 _ ?side1 ?side2 ?side3 ?side4 A40.out).mono ?_); (case side1 => repeat (first | exact (Kd.C_below HR0.out HB.out) | (with_reducible first | apply Ca | apply Cb | apply Cc))); (case side2 => exact HC0.out); (case side3 => repeat (first | exact (Kd.C_below HR1.out HB.out) | (with_reducible first | apply Ca | apply Cb | apply Cc))); (case side4 => exact HC1.out); rintro e w94 ⟨v799, v801, rfl, ho0, ho1, hb⟩; refine ⟨_, rfl, ?_⟩; have n0_ := As (Kd.R_mono (Kd.R_told (Kd.R_told (Kd.R_old (by (with_reducible repeat first | apply Ra | apply Rb | apply Rc); exact HO793.out) hb) (Kd.R_base ho0)) (Kd.R_base ho1)) (fun _ h_ => h_.1)); have n1_ := As (Kd.R_mono (Kd.R_told (Kd.R_told (Kd.R_old (by (with_reducible repeat first | apply Ra | apply Rb | apply Rc); exact HO795.out) hb) (Kd.R_base ho0)) (Kd.R_base ho1)) (fun _ h_ => h_.1)); have n2_ := As (Kd.R_lower (Kd.R_new' (Kd.R_new' ho0 (Kd.R_lt (by (with_reducible repeat first | apply Ra | apply Rb | apply Rc); exact HO793.out))) (Kd.R_lt (by (with_reducible repeat first | apply Ra | apply Rb | apply Rc); exact HO795.out))) (below_size (by repeat (first | (with_reducible first | exact HB.out | apply ba | apply bn | apply bd) | exact HB.out)))); have n3_ := As (Kd.R_lower (Kd.R_new' (Kd.R_new' ho1 (Kd.R_lt (by (with_reducible repeat first | apply Ra | apply Rb | apply Rc); exact HO793.out))) (Kd.R_lt (by (with_reducible repeat first | apply Ra | apply Rb | apply Rc); exact HO795.out))) (below_size (by repeat (first | (with_reducible first | exact HB.out | apply ba | apply bn | apply bd) | exact HB.out)))); have n4_ := As (below_step (by repeat (first | (with_reducible first | exact HB.out | apply ba | apply bn | apply bd) | exact HB.out)) hb); clear HO793; clear HO795; clear HB; have HO793 := n0_; have HO795 := n1_; have HO800 := n2_; have HO802 := n3_; have HB := n4_; clear n0_ n1_ n2_ n3_ n4_; (try clear hb); (try clear ho0); (try clear ho1)) | ((with_reducible refine gate_callee (f := 37) rfl ?_); refine goesL_ (some 112) rfl rfl Try.func37 (by kernel_rfl) rfl #[.slice A0 l0.length c0] rfl (by (try simp only [List.map_toArray, List.map_cons, List.map_nil]); first | done | rfl | (simp only [List.length_drop, List.length_take]; rfl)) ?_; (with_reducible refine (natural_Uint64.calls kj30 _ _ l0 t803 t804 _ ?side1 ?side2 A41.out).mono ?_); (case side1 => repeat (first | exact (Kd.C_below HR0.out HB.out) | (with_reducible first | apply Ca | apply Cb | apply Cc))); (case side2 => exact HC0.out); rintro e w' ⟨rfl, ⟨nd, rfl⟩⟩; refine ⟨_, rfl, ?_⟩) | ((with_reducible refine gate_callee (f := 38) rfl ?_); refine goesL_ (some 117) rfl rfl Try.func38 (by kernel_rfl) rfl #[.slice A0 l0.length c0] rfl (by (try simp only [List.map_toArray, List.map_cons, List.map_nil]); first | done | rfl | (simp only [List.length_drop, List.length_take]; rfl)) ?_; (with_reducible refine (koineref01_Uint64.calls kj30 _ _ l0 t805 t806 _ ?side1 ?side2 A42.out).mono ?_); (case side1 => repeat (first | exact (Kd.C_below HR0.out (by repeat (first | (with_reducible first | exact HB.out | apply ba | apply bn | apply bd) | exact HB.out))) | (with_reducible first | apply Ca | apply Cb | apply Cc))); (case side2 => exact HC0.out); rintro e w' ⟨rfl, ⟨nd, rfl⟩⟩; refine ⟨_, rfl, ?_⟩) | ((with_reducible refine gate_callee (f := 20) rfl ?_); refine goesL_ (some 121) rfl rfl Try.func20 (by kernel_rfl) rfl #[.slice A0 l0.length c0] rfl (by (try simp only [List.map_toArray, List.map_cons, List.map_nil]); first | done | rfl | (simp only [List.length_drop, List.length_take]; rfl)) ?_; (with_reducible refine (natural_Valid.calls _ _ l0 t807 _ ?side1 ?side2 A43.out).mono ?_); (case side1 => repeat (first | exact (Kd.C_below HR0.out (by repeat (first | (with_reducible first | exact HB.out | apply ba | apply bn | apply bd) | exact HB.out))) | (with_reducible first | apply Ca | apply Cb | apply Cc))); (case side2 => exact HC0.out); rintro e w' ⟨rfl, ⟨nd, rfl⟩⟩; refine ⟨_, rfl, ?_⟩) | ((with_reducible refine gate_callee (f := 34) rfl ?_); refine goesL_ (some 123) rfl rfl Try.func34 (by kernel_rfl) rfl #[.slice A0 l0.length c0] rfl (by (try simp only [List.map_toArray, List.map_cons, List.map_nil]); first | done | rfl | (simp only [List.length_drop, List.length_take]; rfl)) ?_; (with_reducible refine (koineref01_Valid.calls _ _ l0 t808 _ ?side1 ?side2 A44.out).mono ?_); (case side1 => repeat (first | exact (Kd.C_below HR0.out (by repeat (first | (with_reducible first | exact HB.out | apply ba | apply bn | apply bd) | exact HB.out))) | (with_reducible first | apply Ca | apply Cb | apply Cc))); (case side2 => exact HC0.out); rintro e w' ⟨rfl, ⟨nd, rfl⟩⟩; refine ⟨_, rfl, ?_⟩) | (go_at_call 26; (with_reducible refine (natural_Compare.calls kj30 _ _ l0 _ _ l1 t809 _ ?side1 ?side2 ?side3 ?side4 A46.out).mono ?_); (case side1 => repeat (first | exact (Kd.C_below HR0.out (by repeat (first | (with_reducible first | exact HB.out | apply ba | apply bn | apply bd) | exact HB.out))) | (with_reducible first | apply Ca | apply Cb | apply Cc))); (case side2 => exact HC0.out); (case side3 => repeat (first | exact (Kd.C_below HR1.out (by repeat (first | (with_reducible first | exact HB.out | apply ba | apply bn | apply bd) | exact HB.out))) | (with_reducible first | apply Ca | apply Cb | apply Cc))); (case side4 => exact HC1.out); rintro e w' ⟨rfl, ⟨nd, rfl⟩⟩) | (go_at_call 35; (with_reducible refine (koineref01_Compare.calls kj30 _ _ l0 _ _ l1 t810 _ ?side1 ?side2 ?side3 ?side4 A47.out).mono ?_); (case side1 => repeat (first | exact (Kd.C_below HR0.out (by repeat (first | (with_reducible first | exact HB.out | apply ba | apply bn | apply bd) | exact HB.out))) | (with_reducible first | apply Ca | apply Cb | apply Cc))); (case side2 => exact HC0.out); (case side3 => repeat (first | exact (Kd.C_below HR1.out (by repeat (first | (with_reducible first | exact HB.out | apply ba | apply bn | apply bd) | exact HB.out))) | (with_reducible first | apply Ca | apply Cb | apply Cc))); (case side4 => exact HC1.out); rintro e w95 ⟨rfl, hb⟩; have n0_ := As (Kd.R_below (by (with_reducible repeat first | apply Ra | apply Rb | apply Rc); exact HO793.out) hb); have n1_ := As (Kd.R_below (by (with_reducible repeat first | apply Ra | apply Rb | apply Rc); exact HO795.out) hb); have n2_ := As (Kd.R_below (by (with_reducible repeat first | apply Ra | apply Rb | apply Rc); exact HO800.out) hb); have n3_ := As (Kd.R_below (by (with_reducible repeat first | apply Ra | apply Rb | apply Rc); exact HO802.out) hb); have n4_ := As (below_step (by repeat (first | (with_reducible first | exact HB.out | apply ba | apply bn | apply bd) | exact HB.out)) hb); clear HO793; clear HO795; clear HO800; clear HO802; clear HB; have HO793 := n0_; have HO795 := n1_; have HO800 := n2_; have HO802 := n3_; have HB := n4_; clear n0_ n1_ n2_ n3_ n4_; (try clear hb)) | (go_at_call 24; (with_reducible refine (natural_Of.calls kj30 a2 t811 _ A51.out).mono ?_); rintro e w96 ⟨v812, rfl, ho0, hb⟩; have n0_ := As (Kd.R_elder' (by (with_reducible repeat first | apply Ra | apply Rb | apply Rc); exact HO793.out) (Kd.R_base ho0) hb); have n1_ := As (Kd.R_elder' (by (with_reducible repeat first | apply Ra | apply Rb | apply Rc); exact HO795.out) (Kd.R_base ho0) hb); have n2_ := As (Kd.R_elder' (by (with_reducible repeat first | apply Ra | apply Rb | apply Rc); exact HO800.out) (Kd.R_base ho0) hb); have n3_ := As (Kd.R_elder' (by (with_reducible repeat first | apply Ra | apply Rb | apply Rc); exact HO802.out) (Kd.R_base ho0) hb); have n4_ := As (Kd.R_lower (Kd.R_new' (Kd.R_new' (Kd.R_new' (Kd.R_new' ho0 (Kd.R_lt (by (with_reducible repeat first | apply Ra | apply Rb | apply Rc); exact HO793.out))) (Kd.R_lt (by (with_reducible repeat first | apply Ra | apply Rb | apply Rc); exact HO795.out))) (Kd.R_lt (by (with_reducible repeat first | apply Ra | apply Rb | apply Rc); exact HO800.out))) (Kd.R_lt (by (with_reducible repeat first | apply Ra | apply Rb | apply Rc); exact HO802.out))) (below_size (by repeat (first | (with_reducible first | exact HB.out | apply ba | apply bn | apply bd) | exact HB.out)))); have n5_ := As (below_step (by repeat (first | (with_reducible first | exact HB.out | apply ba | apply bn | apply bd) | exact HB.out)) hb); clear HO793; clear HO795; clear HO800; clear HO802; clear HB; have HO793 := n0_; have HO795 := n1_; have HO800 := n2_; have HO802 := n3_; have HO813 := n4_; have HB := n5_; clear n0_ n1_ n2_ n3_ n4_ n5_; (try clear hb); (try clear ho0)) | (go_at_call 39; (with_reducible refine (koineref01_Of.calls kj30 a2 t814 _ A52.out).mono ?_); rintro e w97 ⟨v815, rfl, ho0, hb⟩; have n0_ := As (Kd.R_elder' (by (with_reducible repeat first | apply Ra | apply Rb | apply Rc); exact HO793.out) (Kd.R_base ho0) hb); have n1_ := As (Kd.R_elder' (by (with_reducible repeat first | apply Ra | apply Rb | apply Rc); exact HO795.out) (Kd.R_base ho0) hb); have n2_ := As (Kd.R_elder' (by (with_reducible repeat first | apply Ra | apply Rb | apply Rc); exact HO800.out) (Kd.R_base ho0) hb); have n3_ := As (Kd.R_elder' (by (with_reducible repeat first | apply Ra | apply Rb | apply Rc); exact HO802.out) (Kd.R_base ho0) hb); have n4_ := As (Kd.R_elder' (by (with_reducible repeat first | apply Ra | apply Rb | apply Rc); exact HO813.out) (Kd.R_base ho0) hb); have n5_ := As (Kd.R_lower (Kd.R_new' (Kd.R_new' (Kd.R_new' (Kd.R_new' (Kd.R_new' ho0 (Kd.R_lt (by (with_reducible repeat first | apply Ra | apply Rb | apply Rc); exact HO793.out))) (Kd.R_lt (by (with_reducible repeat first | apply Ra | apply Rb | apply Rc); exact HO795.out))) (Kd.R_lt (by (with_reducible repeat first | apply Ra | apply Rb | apply Rc); exact HO800.out))) (Kd.R_lt (by (with_reducible repeat first | apply Ra | apply Rb | apply Rc); exact HO802.out))) (Kd.R_lt (by (with_reducible repeat first | apply Ra | apply Rb | apply Rc); exact HO813.out))) (below_size (by repeat (first | (with_reducible first | exact HB.out | apply ba | apply bn | apply bd) | exact HB.out)))); have n6_ := As (below_step (by repeat (first | (with_reducible first | exact HB.out | apply ba | apply bn | apply bd) | exact HB.out)) hb); clear HO793; clear HO795; clear HO800; clear HO802; clear HO813; clear HB; have HO793 := n0_; have HO795 := n1_; have HO800 := n2_; have HO802 := n3_; have HO813 := n4_; have HO816 := n5_; have HB := n6_; clear n0_ n1_ n2_ n3_ n4_ n5_ n6_; (try clear hb); (try clear ho0); obtain ⟨Ao98, co98, eo98⟩ := Kd.R_slice HO813.out; subst eo98; obtain ⟨Ao99, co99, eo99⟩ := Kd.R_slice HO816.out; subst eo99) | (go_at_call 19; (with_reducible refine (koineref01_Same.calls kj30 _ _ t811 _ _ t814 t817 _ ?side1 ?side2 ?side3 ?side4 A53.out).mono ?_); (case side1 => repeat (first | exact (Kd.R_reads' HO813.out).2.2 | (with_reducible first | apply Ca | apply Cb | apply Cc))); (case side2 => exact (Kd.R_reads' HO813.out).2.1); (case side3 => repeat (first | exact (Kd.R_reads' HO816.out).2.2 | (with_reducible first | apply Ca | apply Cb | apply Cc))); (case side4 => exact (Kd.R_reads' HO816.out).2.1); rintro e w' ⟨rfl, ⟨nd, rfl⟩⟩; obtain ⟨Ao100, co100, eo100⟩ := Kd.R_slice HO793.out; subst eo100; obtain ⟨Ao101, co101, eo101⟩ := Kd.R_slice HO800.out; subst eo101) | (go_at_call 19; (with_reducible refine (koineref01_Same.calls kj30 _ _ t789 _ _ t796 false _ ?side1 ?side2 ?side3 ?side4 A55.out).mono ?_); (case side1 => repeat (first | exact (Kd.R_reads' HO793.out).2.2 | (with_reducible first | apply Ca | apply Cb | apply Cc))); (case side2 => exact (Kd.R_reads' HO793.out).2.1); (case side3 => repeat (first | exact (Kd.R_reads' HO800.out).2.2 | (with_reducible first | apply Ca | apply Cb | apply Cc))); (case side4 => exact (Kd.R_reads' HO800.out).2.1); rintro e w' ⟨rfl, ⟨nd, rfl⟩⟩))
                   go_ret
                   exact ⟨by first | rfl | (simp [errW_none, errW_some] <;> rfl) | (simp [*, errW_none, errW_some] <;> rfl), by repeat (first | (with_reducible first | exact HB.out | apply ba | apply bn | apply bd) | exact HB.out)⟩
                 ·rw [if_neg c54] at H
                  have c54b0 : (t791 == t798) = false := beq_eq_false_iff_ne.mpr c54
                  have c54b1 : (t791 != t798) = true := bne_iff_ne.mpr c54
                  obtain rfl := Option.some.inj H
                  go_wp2_with (first | ((with_reducible refine gate_callee (f := 27) rfl ?_); refine goesL_ (some 99) rfl rfl Try.func27 (by kernel_rfl) rfl #[.slice A0 l0.length c0, .slice A1 l1.length c1] rfl (by (try simp only [List.map_toArray, List.map_cons, List.map_nil]); first | done | rfl | (simp only [List.length_drop, List.length_take]; rfl)) ?_; (with_reducible refine (natural_Div.calls kj30 _ _ l0 _ _ l1 t789 t790 t791 _ ?side1 ?side2 ?side3 ?side4 A39.out).mono ?_); (case side1 => repeat (first | exact (Kd.C_below HR0.out HB.out) | (with_reducible first | apply Ca | apply Cb | apply Cc))); (case side2 => exact HC0.out); (case side3 => repeat (first | exact (Kd.C_below HR1.out HB.out) | (with_reducible first | apply Ca | apply Cb | apply Cc))); (case side4 => exact HC1.out); rintro e w102 ⟨v792, v794, rfl, ho0, ho1, hb⟩; refine ⟨_, rfl, ?_⟩; have n0_ := As (Kd.R_lower ho0 (below_size (by repeat (first | (with_reducible first | exact HB.out | apply ba | apply bn | apply bd) | exact HB.out)))); have n1_ := As (Kd.R_lower ho1 (below_size (by repeat (first | (with_reducible first | exact HB.out | apply ba | apply bn | apply bd) | exact HB.out)))); have n2_ := As (below_step (by repeat (first | (with_reducible first | exact HB.out | apply ba | apply bn | apply bd) | exact HB.out)) hb); clear HB; have HO793 := n0_; have HO795 := n1_; have HB := n2_; clear n0_ n1_ n2_; (try clear hb); (try clear ho0); (try clear ho1)) | ((with_reducible refine gate_callee (f := 36) rfl ?_); refine goesL_ (some 106) rfl rfl Try.func36 (by kernel_rfl) rfl #[.slice A0 l0.length c0, .slice A1 l1.length c1] rfl (by (try simp only [List.map_toArray, List.map_cons, List.map_nil]); first | done | rfl | (simp only [List.length_drop, List.length_take]; rfl)) ?_; (with_reducible refine (koineref01_Div.calls kj30 _ _ l0 _ _ l1 t796 t797 t798 _ ?side1 ?side2 ?side3 ?side4 A40.out).mono ?_); (case side1 => repeat (first | exact (Kd.C_below HR0.out HB.out) | (with_reducible first | apply Ca | apply Cb | apply Cc))); (case side2 => exact HC0.out); (case side3 => repeat (first | exact (Kd.C_below HR1.out HB.out) | (with_reducible first | apply Ca | apply Cb | apply Cc))); (case side4 => exact HC1.out); rintro e w103 ⟨v799, v801, rfl, ho0, ho1, hb⟩; refine ⟨_, rfl, ?_⟩; have n0_ := As (Kd.R_mono (Kd.R_told (Kd.R_told (Kd.R_old (by (with_reducible repeat first | apply Ra | apply Rb | apply Rc); exact HO793.out) hb) (Kd.R_base ho0)) (Kd.R_base ho1)) (fun _ h_ => h_.1)); have n1_ := As (Kd.R_mono (Kd.R_told (Kd.R_told (Kd.R_old (by (with_reducible repeat first | apply Ra | apply Rb | apply Rc); exact HO795.out) hb) (Kd.R_base ho0)) (Kd.R_base ho1)) (fun _ h_ => h_.1)); have n2_ := As (Kd.R_lower (Kd.R_new' (Kd.R_new' ho0 (Kd.R_lt (by (with_reducible repeat first | apply Ra | apply Rb | apply Rc); exact HO793.out))) (Kd.R_lt (by (with_reducible repeat first | apply Ra | apply Rb | apply Rc); exact HO795.out))) (below_size (by repeat (first | (with_reducible first | exact HB.out | apply ba | apply bn | apply bd) | exact HB.out)))); have n3_ := As (Kd.R_lower (Kd.R_new' (Kd.R_new' ho1 (Kd.R_lt (by (with_reducible repeat first | apply Ra | apply Rb | apply Rc); exact HO793.out))) (Kd.R_lt (by (with_reducible repeat first | apply Ra | apply Rb | apply Rc); exact HO795.out))) (below_size (by repeat (first | (with_reducible first | exact HB.out | apply ba | apply bn | apply bd) | exact HB.out)))); have n4_ := As (below_step (by repeat (first | (with_reducible first | exact HB.out | apply ba | apply bn | apply bd) | exact HB.out)) hb); clear HO793; clear HO795; clear HB; have HO793 := n0_; have HO795 := n1_; have HO800 := n2_; have HO802 := n3_; have HB := n4_; clear n0_ n1_ n2_ n3_ n4_; (try clear hb); (try clear ho0); (try clear ho1)) | ((with_reducible refine gate_callee (f := 37) rfl ?_); refine goesL_ (some 112) rfl rfl Try.func37 (by kernel_rfl) rfl #[.slice A0 l0.length c0] rfl (by (try simp only [List.map_toArray, List.map_cons, List.map_nil]); first | done | rfl | (simp only [List.length_drop, List.length_take]; rfl)) ?_; (with_reducible refine (natural_Uint64.calls kj30 _ _ l0 t803 t804 _ ?side1 ?side2 A41.out).mono ?_); (case side1 => repeat (first | exact (Kd.C_below HR0.out HB.out) | (with_reducible first | apply Ca | apply Cb | apply Cc))); (case side2 => exact HC0.out); rintro e w' ⟨rfl, ⟨nd, rfl⟩⟩; refine ⟨_, rfl, ?_⟩) | ((with_reducible refine gate_callee (f := 38) rfl ?_); refine goesL_ (some 117) rfl rfl Try.func38 (by kernel_rfl) rfl #[.slice A0 l0.length c0] rfl (by (try simp only [List.map_toArray, List.map_cons, List.map_nil]); first | done | rfl | (simp only [List.length_drop, List.length_take]; rfl)) ?_; (with_reducible refine (koineref01_Uint64.calls kj30 _ _ l0 t805 t806 _ ?side1 ?side2 A42.out).mono ?_); (case side1 => repeat (first | exact (Kd.C_below HR0.out (by repeat (first | (with_reducible first | exact HB.out | apply ba | apply bn | apply bd) | exact HB.out))) | (with_reducible first | apply Ca | apply Cb | apply Cc))); (case side2 => exact HC0.out); rintro e w' ⟨rfl, ⟨nd, rfl⟩⟩; refine ⟨_, rfl, ?_⟩) | ((with_reducible refine gate_callee (f := 20) rfl ?_); refine goesL_ (some 121) rfl rfl Try.func20 (by kernel_rfl) rfl #[.slice A0 l0.length c0] rfl (by (try simp only [List.map_toArray, List.map_cons, List.map_nil]); first | done | rfl | (simp only [List.length_drop, List.length_take]; rfl)) ?_; (with_reducible refine (natural_Valid.calls _ _ l0 t807 _ ?side1 ?side2 A43.out).mono ?_); (case side1 => repeat (first | exact (Kd.C_below HR0.out (by repeat (first | (with_reducible first | exact HB.out | apply ba | apply bn | apply bd) | exact HB.out))) | (with_reducible first | apply Ca | apply Cb | apply Cc))); (case side2 => exact HC0.out); rintro e w' ⟨rfl, ⟨nd, rfl⟩⟩; refine ⟨_, rfl, ?_⟩) | ((with_reducible refine gate_callee (f := 34) rfl ?_); refine goesL_ (some 123) rfl rfl Try.func34 (by kernel_rfl) rfl #[.slice A0 l0.length c0] rfl (by (try simp only [List.map_toArray, List.map_cons, List.map_nil]); first | done | rfl | (simp only [List.length_drop, List.length_take]; rfl)) ?_; (with_reducible refine (koineref01_Valid.calls _ _ l0 t808 _ ?side1 ?side2 A44.out).mono ?_); (case side1 => repeat (first | exact (Kd.C_below HR0.out (by repeat (first | (with_reducible first | exact HB.out | apply ba | apply bn | apply bd) | exact HB.out))) | (with_reducible first | apply Ca | apply Cb | apply Cc))); (case side2 => exact HC0.out); rintro e w' ⟨rfl, ⟨nd, rfl⟩⟩; refine ⟨_, rfl, ?_⟩) | (go_at_call 26; (with_reducible refine (natural_Compare.calls kj30 _ _ l0 _ _ l1 t809 _ ?side1 ?side2 ?side3 ?side4 A46.out).mono ?_); (case side1 => repeat (first | exact (Kd.C_below HR0.out (by repeat (first | (with_reducible first | exact HB.out | apply ba | apply bn | apply bd) | exact HB.out))) | (with_reducible first | apply Ca | apply Cb | apply Cc))); (case side2 => exact HC0.out); (case side3 => repeat (first | exact (Kd.C_below HR1.out (by repeat (first | (with_reducible first | exact HB.out | apply ba | apply bn | apply bd) | exact HB.out))) | (with_reducible first | apply Ca | apply Cb | apply Cc))); (case side4 => exact HC1.out); rintro e w' ⟨rfl, ⟨nd, rfl⟩⟩) | (go_at_call 35; (with_reducible refine (koineref01_Compare.calls kj30 _ _ l0 _ _ l1 t810 _ ?side1 ?side2 ?side3 ?side4 A47.out).mono ?_); (case side1 => repeat (first | exact (Kd.C_below HR0.out (by repeat (first | (with_reducible first | exact HB.out | apply ba | apply bn | apply bd) | exact HB.out))) | (with_reducible first | apply Ca | apply Cb | apply Cc))); (case side2 => exact HC0.out); (case side3 => repeat (first | exact (Kd.C_below HR1.out (by repeat (first | (with_reducible first | exact HB.out | apply ba | apply bn | apply bd) | exact HB.out))) | (with_reducible first | apply Ca | apply Cb | apply Cc))); (case side4 => exact HC1.out); rintro e w104 ⟨rfl, hb⟩; have n0_ := As (Kd.R_below (by (with_reducible repeat first | apply Ra | apply Rb | apply Rc); exact HO793.out) hb); have n1_ := As (Kd.R_below (by (with_reducible repeat first | apply Ra | apply Rb | apply Rc); exact HO795.out) hb); have n2_ := As (Kd.R_below (by (with_reducible repeat first | apply Ra | apply Rb | apply Rc); exact HO800.out) hb); have n3_ := As (Kd.R_below (by (with_reducible repeat first | apply Ra | apply Rb | apply Rc); exact HO802.out) hb); have n4_ := As (below_step (by repeat (first | (with_reducible first | exact HB.out | apply ba | apply bn | apply bd) | exact HB.out)) hb); clear HO793; clear HO795; clear HO800; clear HO802; clear HB; have HO793 := n0_; have HO795 := n1_; have HO800 := n2_; have HO802 := n3_; have HB := n4_; clear n0_ n1_ n2_ n3_ n4_; (try clear hb)) | (go_at_call 24; (with_reducible refine (natural_Of.calls kj30 a2 t811 _ A51.out).mono ?_); rintro e w105 ⟨v812, rfl, ho0, hb⟩; have n0_ := As (Kd.R_elder' (by (with_reducible repeat first | apply Ra | apply Rb | apply Rc); exact HO793.out) (Kd.R_base ho0) hb); have n1_ := As (Kd.R_elder' (by (with_reducible repeat first | apply Ra | apply Rb | apply Rc); exact HO795.out) (Kd.R_base ho0) hb); have n2_ := As (Kd.R_elder' (by (with_reducible repeat first | apply Ra | apply Rb | apply Rc); exact HO800.out) (Kd.R_base ho0) hb); have n3_ := As (Kd.R_elder' (by (with_reducible repeat first | apply Ra | apply Rb | apply Rc); exact HO802.out) (Kd.R_base ho0) hb); have n4_ := As (Kd.R_lower (Kd.R_new' (Kd.R_new' (Kd.R_new' (Kd.R_new' ho0 (Kd.R_lt (by (with_reducible repeat first | apply Ra | apply Rb | apply Rc); exact HO793.out))) (Kd.R_lt (by (with_reducible repeat first | apply Ra | apply Rb | apply Rc); exact HO795.out))) (Kd.R_lt (by (with_reducible repeat first | apply Ra | apply Rb | apply Rc); exact HO800.out))) (Kd.R_lt (by (with_reducible repeat first | apply Ra | apply Rb | apply Rc); exact HO802.out))) (below_size (by repeat (first | (with_reducible first | exact HB.out | apply ba | apply bn | apply bd) | exact HB.out)))); have n5_ := As (below_step (by repeat (first | (with_reducible first | exact HB.out | apply ba | apply bn | apply bd) | exact HB.out)) hb); clear HO793; clear HO795; clear HO800; clear HO802; clear HB; have HO793 := n0_; have HO795 := n1_; have HO800 := n2_; have HO802 := n3_; have HO813 := n4_; have HB := n5_; clear n0_ n1_ n2_ n3_ n4_ n5_; (try clear hb); (try clear ho0)) | (go_at_call 39; (with_reducible refine (koineref01_Of.calls kj30 a2 t814 _ A52.out).mono ?_); rintro e w106 ⟨v815, rfl, ho0, hb⟩; have n0_ := As (Kd.R_elder' (by (with_reducible repeat first | apply Ra | apply Rb | apply Rc); exact HO793.out) (Kd.R_base ho0) hb); have n1_ := As (Kd.R_elder' (by (with_reducible repeat first | apply Ra | apply Rb | apply Rc); exact HO795.out) (Kd.R_base ho0) hb); have n2_ := As (Kd.R_elder' (by (with_reducible repeat first | apply Ra | apply Rb | apply Rc); exact HO800.out) (Kd.R_base ho0) hb); have n3_ := As (Kd.R_elder' (by (with_reducible repeat first | apply Ra | apply Rb | apply Rc); exact HO802.out) (Kd.R_base ho0) hb); have n4_ := As (Kd.R_elder' (by (with_reducible repeat first | apply Ra | apply Rb | apply Rc); exact HO813.out) (Kd.R_base ho0) hb); have n5_ := As (Kd.R_lower (Kd.R_new' (Kd.R_new' (Kd.R_new' (Kd.R_new' (Kd.R_new' ho0 (Kd.R_lt (by (with_reducible repeat first | apply Ra | apply Rb | apply Rc); exact HO793.out))) (Kd.R_lt (by (with_reducible repeat first | apply Ra | apply Rb | apply Rc); exact HO795.out))) (Kd.R_lt (by (with_reducible repeat first | apply Ra | apply Rb | apply Rc); exact HO800.out))) (Kd.R_lt (by (with_reducible repeat first | apply Ra | apply Rb | apply Rc); exact HO802.out))) (Kd.R_lt (by (with_reducible repeat first | apply Ra | apply Rb | apply Rc); exact HO813.out))) (below_size (by repeat (first | (with_reducible first | exact HB.out | apply ba | apply bn | apply bd) | exact HB.out)))); have n6_ := As (below_step (by repeat (first | (with_reducible first | exact HB.out | apply ba | apply bn | apply bd) | exact HB.out)) hb); clear HO793; clear HO795; clear HO800; clear HO802; clear HO813; clear HB; have HO793 := n0_; have HO795 := n1_; have HO800 := n2_; have HO802 := n3_; have HO813 := n4_; have HO816 := n5_; have HB := n6_; clear n0_ n1_ n2_ n3_ n4_ n5_ n6_; (try clear hb); (try clear ho0); obtain ⟨Ao107, co107, eo107⟩ := Kd.R_slice HO813.out; subst eo107; obtain ⟨Ao108, co108, eo108⟩ := Kd.R_slice HO816.out; subst eo108) | (go_at_call 19; (with_reducible refine (koineref01_Same.calls kj30 _ _ t811 _ _ t814 t817 _ ?side1 ?side2 ?side3 ?side4 A53.out).mono ?_); (case side1 => repeat (first | exact (Kd.R_reads' HO813.out).2.2 | (with_reducible first | apply Ca | apply Cb | apply Cc))); (case side2 => exact (Kd.R_reads' HO813.out).2.1); (case side3 => repeat (first | exact (Kd.R_reads' HO816.out).2.2 | (with_reducible first | apply Ca | apply Cb | apply Cc))); (case side4 => exact (Kd.R_reads' HO816.out).2.1); rintro e w' ⟨rfl, ⟨nd, rfl⟩⟩))
                  go_ret
                  exact ⟨by first | rfl | (simp [errW_none, errW_some] <;> rfl) | (simp [*, errW_none, errW_some] <;> rfl), by repeat (first | (with_reducible first | exact HB.out | apply ba | apply bn | apply bd) | exact HB.out)⟩
                ·rw [if_neg c50] at H
                 cases H
               ·rw [if_neg c49] at H
                cases H
              ·rw [if_neg c48] at H
               cases H
             ·rw [if_neg c45] at H
              cases H
/-- THE ONE PURE STATEMENT of koinelaw01_NaturalMatchesReference: yours. -/
def koinelaw01_NaturalMatchesReference.Pure : Prop := ∀ (l0 : List Int) (l1 : List Int) (a2 : Int), l0.length ≤ maxLen → l0.length * 4 ≤ 140737488351232 → (∀ x ∈ l0, (Lit.int .u32 x).wf = true) → l1.length ≤ maxLen → l1.length * 4 ≤ 140737488351232 → (∀ x ∈ l1, (Lit.int .u32 x).wf = true) → (Lit.int .u64 a2).wf = true → ∃ k, koinelaw01_NaturalMatchesReference.f k l0 l1 a2 = some true
theorem koinelaw01_NaturalMatchesReference.walk (P : koinelaw01_NaturalMatchesReference.Pure) (a0 : Option Addr) (len0 cap0 : Nat) (z0 : List Int) (a1 : Option Addr) (len1 cap1 : Nat) (z1 : List Int) (a2 : Int) (w : World) (w0 : (a0 = none ∧ len0 = 0 ∧ cap0 = 0 ∧ z0 = []) ∨ ∃ x, a0 = some x ∧ len0 ≤ cap0 ∧ cap0 ≤ maxLen ∧ z0.length = cap0 ∧ (∀ i, i < z0.length → w.cell? (x.add i) = some (.int .u32 (z0.getD i 0))) ∧ ∀ n ∈ z0, (Lit.int .u32 n).wf = true) (y0 : len0 * 4 ≤ 140737488351232) (w1 : (a1 = none ∧ len1 = 0 ∧ cap1 = 0 ∧ z1 = []) ∨ ∃ x, a1 = some x ∧ len1 ≤ cap1 ∧ cap1 ≤ maxLen ∧ z1.length = cap1 ∧ (∀ i, i < z1.length → w.cell? (x.add i) = some (.int .u32 (z1.getD i 0))) ∧ ∀ n ∈ z1, (Lit.int .u32 n).wf = true) (y1 : len1 * 4 ≤ 140737488351232) (w2 : (Lit.int .u64 a2).wf = true) :
  Calls Try.prog 12 #[.slice a0 len0 cap0, .slice a1 len1 cap1, .int .u64 a2] w fun e w' => e = .returned (.bool true) ∧ Below w.heap.size w w' := by
 obtain ⟨l0, rfl, hr0, hm0, hw0, hc0⟩ := ReadsInt.ofRowC w0
 obtain ⟨l1, rfl, hr1, hm1, hw1, hc1⟩ := ReadsInt.ofRowC w1
 obtain ⟨k, h⟩ := P l0 l1 a2 hm0 y0 hw0 hm1 y1 hw1 w2
 refine (koinelaw01_NaturalMatchesReference.calls k _ _ l0 _ _ l1 a2 true w (Kd.C_of_reads (d := (0 : Int)) (h1 := fun _ => rfl) hr0) hc0 (Kd.C_of_reads (d := (0 : Int)) (h1 := fun _ => rfl) hr1) hc1 h).mono ?_
 rintro e w' ⟨rfl, hd⟩
 exact ⟨rfl, hd⟩


end Go.Proofs.Ytpalpikenkkhlaa.Nt
