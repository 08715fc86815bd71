/- The machine side of the laws on natural numbers: for each Go function a Lean function with the same answers, and the walk that shows it. It began as the print of print.sh (turned to one namespace, copy told as a law of our own, mended); Lean checks it. -/
import Derived.Test.YtpalpikenkkhlaaNtF
import Derived.Test.YtpalpikenkkhlaaNtJ
import Derived.Test.YtpalpikenkkhlaaNtG
namespace Go.Proofs.Ytpalpikenkkhlaa.Nt
open Go.RowKit Go.Proofs.YtpalpikenkkhlaaW.PrintWords Go.Proofs.YtpalpikenkkhlaaW.PrintLast Go.Proofs.YtpalpikenkkhlaaW.PrintMore
attribute [local go_sem] max2_int min2_int max_two min_two max_three min_three max_four min_four   -- for this text's walks alone
set_option linter.unusedVariables false
set_option linter.unusedSimpArgs false

/-! ### koinelaw01_NaturalDecimal: function 9 -/
mutual
def koinelaw01_NaturalDecimal.j0 : Nat → Bool → List Int → List Int → ByteArray → ByteArray → Bool → Option (Bool)
  | 0, _, _, _, _, _, _ => none
  | k + 1, x5, x6, x7, x8, x9, x50 => if x50 = true then (some false) else (koinelaw01_NaturalDecimal.l0 k x5 x6 x7 x8 x9 (([] : List Int)) 0)
def koinelaw01_NaturalDecimal.l0 : Nat → Bool → List Int → List Int → ByteArray → ByteArray → List Int → Int → Option (Bool)
  | 0, _, _, _, _, _, _, _ => none
  | k + 1, x5, x6, x7, x8, x9, x12, x13 => if x13 < (x8.size : Int) then (if 0 ≤ x13 then (if (bt x8 x13) < 48 then (koinelaw01_NaturalDecimal.j2 k x5 x6 x7 x8 x9 x12 x13 true) else (koinelaw01_NaturalDecimal.j2 k x5 x6 x7 x8 x9 x12 x13 (decide ((bt x8 x13) > 57)))) else (none)) else (if (x8.size : Int) < (x9.size : Int) then (koinelaw01_NaturalDecimal.j3 k x5 x6 x7 x8 x9 x12 0 true) else (if (x8.size : Int) = (x9.size : Int) then (koinelaw01_NaturalDecimal.j3 k x5 x6 x7 x8 x9 x12 0 (Op.bytesLess x8.toList x9.toList)) else (koinelaw01_NaturalDecimal.j3 k x5 x6 x7 x8 x9 x12 0 false)))
def koinelaw01_NaturalDecimal.j2 : Nat → Bool → List Int → List Int → ByteArray → ByteArray → List Int → Int → Bool → Option (Bool)
  | 0, _, _, _, _, _, _, _, _ => none
  | k + 1, x5, x6, x7, x8, x9, x12, x13, x67 => if x67 = true then (some false) else ((natural_Of.f k 10).bind fun t593 => ((koinelaw01_mul.f k x12 t593).bind fun t596 => (if 0 ≤ x13 then (if x13 < (x8.size : Int) then ((natural_Of.f k (((bt x8 x13) - 48) % 256)).bind fun t599 => ((koinelaw01_add.f k t596 t599).bind fun t602 => (koinelaw01_NaturalDecimal.l0 k x5 x6 x7 x8 x9 t602 (wrap64 (x13 + 1))))) else (none)) else (none))))
def koinelaw01_NaturalDecimal.j3 : Nat → Bool → List Int → List Int → ByteArray → ByteArray → List Int → Int → Bool → Option (Bool)
  | 0, _, _, _, _, _, _, _, _ => none
  | k + 1, x5, x6, x7, x8, x9, x12, x14, x94 => if x94 = true then ((koineref01_Same.f k x12 x6).bind fun t605 => (if t605 = true then ((natural_Compare.f k x6 x7).bind fun t606 => (if t606 = (-1) then (some x5) else (some false))) else (some false))) else (if x8.toList = x9.toList then ((koineref01_Same.f k x12 x6).bind fun t607 => (if t607 = true then ((natural_Compare.f k x6 x7).bind fun t608 => (if t608 = x14 then (some x5) else (some false))) else (some false))) else ((koineref01_Same.f k x12 x6).bind fun t609 => (if t609 = true then ((natural_Compare.f k x6 x7).bind fun t610 => (if t610 = 1 then (some x5) else (some false))) else (some false))))
end
def koinelaw01_NaturalDecimal.f (k : Nat) (l0 : List Int) (l1 : List Int) : Option (Bool) := (koinelaw01_sanity.f k).bind fun t576 => ((koineref01_Made.f k l0 20).bind fun t577 => ((koineref01_Made.f k l1 20).bind fun t580 => ((natural_Text.f k t577).bind fun t583 => ((natural_Text.f k t580).bind fun t584 => ((natural_Parse.f k t583).bind fun bt585 => (if bt585.2 = 0 then ((koineref01_Same.f k bt585.1 t577).bind fun t589 => (if t589 = true then (if t583.toList = ([] : List UInt8) then (koinelaw01_NaturalDecimal.j0 k t576 t577 t580 t583 t584 true) else (if (t583.size : Int) > 1 then (if 0 < (t583.size : Int) then (koinelaw01_NaturalDecimal.j0 k t576 t577 t580 t583 t584 ((bt t583 0) == 48)) else (none)) else (koinelaw01_NaturalDecimal.j0 k t576 t577 t580 t583 t584 false))) else (koinelaw01_NaturalDecimal.j0 k t576 t577 t580 t583 t584 true))) else (koinelaw01_NaturalDecimal.j0 k t576 t577 t580 t583 t584 true)))))))
theorem koinelaw01_NaturalDecimal.mono_l : ∀ k, (∀ y0 y1 y2 y3 y4 y5, LeO (koinelaw01_NaturalDecimal.j0 k y0 y1 y2 y3 y4 y5) (koinelaw01_NaturalDecimal.j0 (k + 1) y0 y1 y2 y3 y4 y5)) ∧ (∀ y0 y1 y2 y3 y4 y5 y6, LeO (koinelaw01_NaturalDecimal.l0 k y0 y1 y2 y3 y4 y5 y6) (koinelaw01_NaturalDecimal.l0 (k + 1) y0 y1 y2 y3 y4 y5 y6)) ∧ (∀ y0 y1 y2 y3 y4 y5 y6 y7, LeO (koinelaw01_NaturalDecimal.j2 k y0 y1 y2 y3 y4 y5 y6 y7) (koinelaw01_NaturalDecimal.j2 (k + 1) y0 y1 y2 y3 y4 y5 y6 y7)) ∧ (∀ y0 y1 y2 y3 y4 y5 y6 y7, LeO (koinelaw01_NaturalDecimal.j3 k y0 y1 y2 y3 y4 y5 y6 y7) (koinelaw01_NaturalDecimal.j3 (k + 1) y0 y1 y2 y3 y4 y5 y6 y7))
  | 0 => ⟨fun _ _ _ _ _ _ r h => by simp [koinelaw01_NaturalDecimal.j0] at h, fun _ _ _ _ _ _ _ r h => by simp [koinelaw01_NaturalDecimal.l0] at h, fun _ _ _ _ _ _ _ _ r h => by simp [koinelaw01_NaturalDecimal.j2] at h, fun _ _ _ _ _ _ _ _ r h => by simp [koinelaw01_NaturalDecimal.j3] at h⟩
  | k + 1 => by
    obtain ⟨ih0, ih1, ih2, ih3⟩ := koinelaw01_NaturalDecimal.mono_l k
    refine ⟨?_, ?_, ?_, ?_⟩
    · intro y0 y1 y2 y3 y4 y5
      unfold koinelaw01_NaturalDecimal.j0
      repeat' first
      | (with_reducible exact ih0 _ _ _ _ _ _)
      | (with_reducible exact ih1 _ _ _ _ _ _ _)
      | (with_reducible exact ih2 _ _ _ _ _ _ _ _)
      | (with_reducible exact ih3 _ _ _ _ _ _ _ _)
      | (with_reducible exact koinelaw01_add.mono _ _ _)
      | (with_reducible exact koinelaw01_mul.mono _ _ _)
      | (with_reducible exact koinelaw01_sanity.mono _)
      | (with_reducible exact koineref01_Made.mono _ _ _)
      | (with_reducible exact koineref01_Same.mono _ _ _)
      | (with_reducible exact natural_Compare.mono _ _ _)
      | (with_reducible exact natural_Of.mono _ _)
      | (with_reducible exact natural_Parse.mono _ _)
      | (with_reducible exact natural_Text.mono _ _)
      | (with_reducible exact LeO.refl _)
      | (with_reducible exact LeO.none _)
      | (with_reducible refine LeO.ite ?_ ?_)
      | (with_reducible refine LeO.bind ?_ (fun _ => ?_))
      | exact ih0 _ _ _ _ _ _
      | exact ih1 _ _ _ _ _ _ _
      | exact ih2 _ _ _ _ _ _ _ _
      | exact ih3 _ _ _ _ _ _ _ _
      | exact koinelaw01_add.mono _ _ _
      | exact koinelaw01_mul.mono _ _ _
      | exact koinelaw01_sanity.mono _
      | exact koineref01_Made.mono _ _ _
      | exact koineref01_Same.mono _ _ _
      | exact natural_Compare.mono _ _ _
      | exact natural_Of.mono _ _
      | exact natural_Parse.mono _ _
      | exact natural_Text.mono _ _
      | exact LeO.none _
      | refine LeO.ite ?_ ?_
      | refine LeO.bind ?_ (fun _ => ?_)
    · intro y0 y1 y2 y3 y4 y5 y6
      unfold koinelaw01_NaturalDecimal.l0
      repeat' first
      | (with_reducible exact ih0 _ _ _ _ _ _)
      | (with_reducible exact ih1 _ _ _ _ _ _ _)
      | (with_reducible exact ih2 _ _ _ _ _ _ _ _)
      | (with_reducible exact ih3 _ _ _ _ _ _ _ _)
      | (with_reducible exact koinelaw01_add.mono _ _ _)
      | (with_reducible exact koinelaw01_mul.mono _ _ _)
      | (with_reducible exact koinelaw01_sanity.mono _)
      | (with_reducible exact koineref01_Made.mono _ _ _)
      | (with_reducible exact koineref01_Same.mono _ _ _)
      | (with_reducible exact natural_Compare.mono _ _ _)
      | (with_reducible exact natural_Of.mono _ _)
      | (with_reducible exact natural_Parse.mono _ _)
      | (with_reducible exact natural_Text.mono _ _)
      | (with_reducible exact LeO.refl _)
      | (with_reducible exact LeO.none _)
      | (with_reducible refine LeO.ite ?_ ?_)
      | (with_reducible refine LeO.bind ?_ (fun _ => ?_))
      | exact ih0 _ _ _ _ _ _
      | exact ih1 _ _ _ _ _ _ _
      | exact ih2 _ _ _ _ _ _ _ _
      | exact ih3 _ _ _ _ _ _ _ _
      | exact koinelaw01_add.mono _ _ _
      | exact koinelaw01_mul.mono _ _ _
      | exact koinelaw01_sanity.mono _
      | exact koineref01_Made.mono _ _ _
      | exact koineref01_Same.mono _ _ _
      | exact natural_Compare.mono _ _ _
      | exact natural_Of.mono _ _
      | exact natural_Parse.mono _ _
      | exact natural_Text.mono _ _
      | exact LeO.none _
      | refine LeO.ite ?_ ?_
      | refine LeO.bind ?_ (fun _ => ?_)
    · intro y0 y1 y2 y3 y4 y5 y6 y7
      unfold koinelaw01_NaturalDecimal.j2
      repeat' first
      | (with_reducible exact ih0 _ _ _ _ _ _)
      | (with_reducible exact ih1 _ _ _ _ _ _ _)
      | (with_reducible exact ih2 _ _ _ _ _ _ _ _)
      | (with_reducible exact ih3 _ _ _ _ _ _ _ _)
      | (with_reducible exact koinelaw01_add.mono _ _ _)
      | (with_reducible exact koinelaw01_mul.mono _ _ _)
      | (with_reducible exact koinelaw01_sanity.mono _)
      | (with_reducible exact koineref01_Made.mono _ _ _)
      | (with_reducible exact koineref01_Same.mono _ _ _)
      | (with_reducible exact natural_Compare.mono _ _ _)
      | (with_reducible exact natural_Of.mono _ _)
      | (with_reducible exact natural_Parse.mono _ _)
      | (with_reducible exact natural_Text.mono _ _)
      | (with_reducible exact LeO.refl _)
      | (with_reducible exact LeO.none _)
      | (with_reducible refine LeO.ite ?_ ?_)
      | (with_reducible refine LeO.bind ?_ (fun _ => ?_))
      | exact ih0 _ _ _ _ _ _
      | exact ih1 _ _ _ _ _ _ _
      | exact ih2 _ _ _ _ _ _ _ _
      | exact ih3 _ _ _ _ _ _ _ _
      | exact koinelaw01_add.mono _ _ _
      | exact koinelaw01_mul.mono _ _ _
      | exact koinelaw01_sanity.mono _
      | exact koineref01_Made.mono _ _ _
      | exact koineref01_Same.mono _ _ _
      | exact natural_Compare.mono _ _ _
      | exact natural_Of.mono _ _
      | exact natural_Parse.mono _ _
      | exact natural_Text.mono _ _
      | exact LeO.none _
      | refine LeO.ite ?_ ?_
      | refine LeO.bind ?_ (fun _ => ?_)
    · intro y0 y1 y2 y3 y4 y5 y6 y7
      unfold koinelaw01_NaturalDecimal.j3
      repeat' first
      | (with_reducible exact ih0 _ _ _ _ _ _)
      | (with_reducible exact ih1 _ _ _ _ _ _ _)
      | (with_reducible exact ih2 _ _ _ _ _ _ _ _)
      | (with_reducible exact ih3 _ _ _ _ _ _ _ _)
      | (with_reducible exact koinelaw01_add.mono _ _ _)
      | (with_reducible exact koinelaw01_mul.mono _ _ _)
      | (with_reducible exact koinelaw01_sanity.mono _)
      | (with_reducible exact koineref01_Made.mono _ _ _)
      | (with_reducible exact koineref01_Same.mono _ _ _)
      | (with_reducible exact natural_Compare.mono _ _ _)
      | (with_reducible exact natural_Of.mono _ _)
      | (with_reducible exact natural_Parse.mono _ _)
      | (with_reducible exact natural_Text.mono _ _)
      | (with_reducible exact LeO.refl _)
      | (with_reducible exact LeO.none _)
      | (with_reducible refine LeO.ite ?_ ?_)
      | (with_reducible refine LeO.bind ?_ (fun _ => ?_))
      | exact ih0 _ _ _ _ _ _
      | exact ih1 _ _ _ _ _ _ _
      | exact ih2 _ _ _ _ _ _ _ _
      | exact ih3 _ _ _ _ _ _ _ _
      | exact koinelaw01_add.mono _ _ _
      | exact koinelaw01_mul.mono _ _ _
      | exact koinelaw01_sanity.mono _
      | exact koineref01_Made.mono _ _ _
      | exact koineref01_Same.mono _ _ _
      | exact natural_Compare.mono _ _ _
      | exact natural_Of.mono _ _
      | exact natural_Parse.mono _ _
      | exact natural_Text.mono _ _
      | exact LeO.none _
      | refine LeO.ite ?_ ?_
      | refine LeO.bind ?_ (fun _ => ?_)
theorem koinelaw01_NaturalDecimal.mono : ∀ a0 a1 k, LeO (koinelaw01_NaturalDecimal.f k a0 a1) (koinelaw01_NaturalDecimal.f (k + 1) a0 a1) := by
  intro a0 a1 k
  obtain ⟨ih0, ih1, ih2, ih3⟩ := koinelaw01_NaturalDecimal.mono_l k
  unfold koinelaw01_NaturalDecimal.f
  repeat' first
      | (with_reducible exact ih0 _ _ _ _ _ _)
      | (with_reducible exact ih1 _ _ _ _ _ _ _)
      | (with_reducible exact ih2 _ _ _ _ _ _ _ _)
      | (with_reducible exact ih3 _ _ _ _ _ _ _ _)
      | (with_reducible exact koinelaw01_add.mono _ _ _)
      | (with_reducible exact koinelaw01_mul.mono _ _ _)
      | (with_reducible exact koinelaw01_sanity.mono _)
      | (with_reducible exact koineref01_Made.mono _ _ _)
      | (with_reducible exact koineref01_Same.mono _ _ _)
      | (with_reducible exact natural_Compare.mono _ _ _)
      | (with_reducible exact natural_Of.mono _ _)
      | (with_reducible exact natural_Parse.mono _ _)
      | (with_reducible exact natural_Text.mono _ _)
      | (with_reducible exact LeO.refl _)
      | (with_reducible exact LeO.none _)
      | (with_reducible refine LeO.ite ?_ ?_)
      | (with_reducible refine LeO.bind ?_ (fun _ => ?_))
      | exact ih0 _ _ _ _ _ _
      | exact ih1 _ _ _ _ _ _ _
      | exact ih2 _ _ _ _ _ _ _ _
      | exact ih3 _ _ _ _ _ _ _ _
      | exact koinelaw01_add.mono _ _ _
      | exact koinelaw01_mul.mono _ _ _
      | exact koinelaw01_sanity.mono _
      | exact koineref01_Made.mono _ _ _
      | exact koineref01_Same.mono _ _ _
      | exact natural_Compare.mono _ _ _
      | exact natural_Of.mono _ _
      | exact natural_Parse.mono _ _
      | exact natural_Text.mono _ _
      | exact LeO.none _
      | refine LeO.ite ?_ ?_
      | refine LeO.bind ?_ (fun _ => ?_)
def koinelaw01_NaturalDecimal.T15 : Bool × List (List Nat × List Nat) := (true, [([], []), ([], []), ([0, 1, 1], [0, 1]), ([], []), ([], []), ([3, 4], [3, 4]), ([5], [5]), ([6], [6]), ([7, 2], [7]), ([2, 8, 8], [2, 8]), ([9, 9, 0, 1, 2, 3, 4, 5, 6, 7, 8, 9], [0, 9])])
def koinelaw01_NaturalDecimal.B15 : List Nat := [0, 0, 3, 0, 0, 24, 56, 120, 255, 511, 1023]
theorem koinelaw01_NaturalDecimal.tab15 : rtab .any (opsOf Try.f9 15) = koinelaw01_NaturalDecimal.T15 := by kernel_rfl
theorem koinelaw01_NaturalDecimal.bits15 : waitsOk koinelaw01_NaturalDecimal.T15.2 koinelaw01_NaturalDecimal.B15 = true := by kernel_rfl
set_option maxHeartbeats 8000000 in
set_option maxRecDepth 100000 in
theorem koinelaw01_NaturalDecimal.calls (k : Nat) (A0 : Option Addr) (c0 : Nat) (l0 : List Int) (A1 : Option Addr) (c1 : Nat) (l1 : List Int) (r : Bool) (w : World) (hr0 : Kd.C (Kd.int .u32) w A0 l0.length l0) (hc0 : l0.length ≤ c0) (hr1 : Kd.C (Kd.int .u32) w A1 l1.length l1) (hc1 : l1.length ≤ c1) (h : koinelaw01_NaturalDecimal.f k l0 l1 = some r) :
    Calls Try.prog 9 #[.slice A0 l0.length c0, .slice A1 l1.length c1] w fun e w' => e = .returned (.bool r) ∧ Below w.heap.size w w' := by
  have HR0 := Aside0.mk hr0
  have HC0 := Aside0.mk hc0
  clear hr0 hc0
  have HR1 := Aside0.mk hr1
  have HC1 := Aside0.mk hc1
  clear hr1 hc1
  have HB := Aside0.mk (Below.refl w.heap.size w)
  have H : ((koinelaw01_sanity.f k).bind fun t576 => ((koineref01_Made.f k l0 20).bind fun t577 => ((koineref01_Made.f k l1 20).bind fun t580 => ((natural_Text.f k t577).bind fun t583 => ((natural_Text.f k t580).bind fun t584 => ((natural_Parse.f k t583).bind fun bt585 => (if bt585.2 = 0 then ((koineref01_Same.f k bt585.1 t577).bind fun t589 => (if t589 = true then (if t583.toList = ([] : List UInt8) then (koinelaw01_NaturalDecimal.j0 k t576 t577 t580 t583 t584 true) else (if (t583.size : Int) > 1 then (if 0 < (t583.size : Int) then (koinelaw01_NaturalDecimal.j0 k t576 t577 t580 t583 t584 ((bt t583 0) == 48)) else (none)) else (koinelaw01_NaturalDecimal.j0 k t576 t577 t580 t583 t584 false))) else (koinelaw01_NaturalDecimal.j0 k t576 t577 t580 t583 t584 true))) else (koinelaw01_NaturalDecimal.j0 k t576 t577 t580 t583 t584 true)))))))) = some r := h
  clear h
  replace H := Option.bind_eq_some_iff.mp H
  obtain ⟨t576, A30, H⟩ := H
  replace H : ((koineref01_Made.f k l0 20).bind fun t577 => ((koineref01_Made.f k l1 20).bind fun t580 => ((natural_Text.f k t577).bind fun t583 => ((natural_Text.f k t580).bind fun t584 => ((natural_Parse.f k t583).bind fun bt585 => (if bt585.2 = 0 then ((koineref01_Same.f k bt585.1 t577).bind fun t589 => (if t589 = true then (if t583.toList = ([] : List UInt8) then (koinelaw01_NaturalDecimal.j0 k t576 t577 t580 t583 t584 true) else (if (t583.size : Int) > 1 then (if 0 < (t583.size : Int) then (koinelaw01_NaturalDecimal.j0 k t576 t577 t580 t583 t584 ((bt t583 0) == 48)) else (none)) else (koinelaw01_NaturalDecimal.j0 k t576 t577 t580 t583 t584 false))) else (koinelaw01_NaturalDecimal.j0 k t576 t577 t580 t583 t584 true))) else (koinelaw01_NaturalDecimal.j0 k t576 t577 t580 t583 t584 true))))))) = some r := H
  have A3 := Aside0.mk A30
  clear A30
  replace H := Option.bind_eq_some_iff.mp H
  obtain ⟨t577, A40, H⟩ := H
  replace H : ((koineref01_Made.f k l1 20).bind fun t580 => ((natural_Text.f k t577).bind fun t583 => ((natural_Text.f k t580).bind fun t584 => ((natural_Parse.f k t583).bind fun bt585 => (if bt585.2 = 0 then ((koineref01_Same.f k bt585.1 t577).bind fun t589 => (if t589 = true then (if t583.toList = ([] : List UInt8) then (koinelaw01_NaturalDecimal.j0 k t576 t577 t580 t583 t584 true) else (if (t583.size : Int) > 1 then (if 0 < (t583.size : Int) then (koinelaw01_NaturalDecimal.j0 k t576 t577 t580 t583 t584 ((bt t583 0) == 48)) else (none)) else (koinelaw01_NaturalDecimal.j0 k t576 t577 t580 t583 t584 false))) else (koinelaw01_NaturalDecimal.j0 k t576 t577 t580 t583 t584 true))) else (koinelaw01_NaturalDecimal.j0 k t576 t577 t580 t583 t584 true)))))) = some r := H
  have A4 := Aside0.mk A40
  clear A40
  replace H := Option.bind_eq_some_iff.mp H
  obtain ⟨t580, A50, H⟩ := H
  replace H : ((natural_Text.f k t577).bind fun t583 => ((natural_Text.f k t580).bind fun t584 => ((natural_Parse.f k t583).bind fun bt585 => (if bt585.2 = 0 then ((koineref01_Same.f k bt585.1 t577).bind fun t589 => (if t589 = true then (if t583.toList = ([] : List UInt8) then (koinelaw01_NaturalDecimal.j0 k t576 t577 t580 t583 t584 true) else (if (t583.size : Int) > 1 then (if 0 < (t583.size : Int) then (koinelaw01_NaturalDecimal.j0 k t576 t577 t580 t583 t584 ((bt t583 0) == 48)) else (none)) else (koinelaw01_NaturalDecimal.j0 k t576 t577 t580 t583 t584 false))) else (koinelaw01_NaturalDecimal.j0 k t576 t577 t580 t583 t584 true))) else (koinelaw01_NaturalDecimal.j0 k t576 t577 t580 t583 t584 true))))) = some r := H
  have A5 := Aside0.mk A50
  clear A50
  replace H := Option.bind_eq_some_iff.mp H
  obtain ⟨t583, A60, H⟩ := H
  replace H : ((natural_Text.f k t580).bind fun t584 => ((natural_Parse.f k t583).bind fun bt585 => (if bt585.2 = 0 then ((koineref01_Same.f k bt585.1 t577).bind fun t589 => (if t589 = true then (if t583.toList = ([] : List UInt8) then (koinelaw01_NaturalDecimal.j0 k t576 t577 t580 t583 t584 true) else (if (t583.size : Int) > 1 then (if 0 < (t583.size : Int) then (koinelaw01_NaturalDecimal.j0 k t576 t577 t580 t583 t584 ((bt t583 0) == 48)) else (none)) else (koinelaw01_NaturalDecimal.j0 k t576 t577 t580 t583 t584 false))) else (koinelaw01_NaturalDecimal.j0 k t576 t577 t580 t583 t584 true))) else (koinelaw01_NaturalDecimal.j0 k t576 t577 t580 t583 t584 true)))) = some r := H
  have A6 := Aside0.mk A60
  clear A60
  replace H := Option.bind_eq_some_iff.mp H
  obtain ⟨t584, A70, H⟩ := H
  replace H : ((natural_Parse.f k t583).bind fun bt585 => (if bt585.2 = 0 then ((koineref01_Same.f k bt585.1 t577).bind fun t589 => (if t589 = true then (if t583.toList = ([] : List UInt8) then (koinelaw01_NaturalDecimal.j0 k t576 t577 t580 t583 t584 true) else (if (t583.size : Int) > 1 then (if 0 < (t583.size : Int) then (koinelaw01_NaturalDecimal.j0 k t576 t577 t580 t583 t584 ((bt t583 0) == 48)) else (none)) else (koinelaw01_NaturalDecimal.j0 k t576 t577 t580 t583 t584 false))) else (koinelaw01_NaturalDecimal.j0 k t576 t577 t580 t583 t584 true))) else (koinelaw01_NaturalDecimal.j0 k t576 t577 t580 t583 t584 true))) = some r := H
  have A7 := Aside0.mk A70
  clear A70
  replace H := Option.bind_eq_some_iff.mp H
  obtain ⟨⟨t585, t586⟩, A80, H⟩ := H
  replace H : (if t586 = 0 then ((koineref01_Same.f k t585 t577).bind fun t589 => (if t589 = true then (if t583.toList = ([] : List UInt8) then (koinelaw01_NaturalDecimal.j0 k t576 t577 t580 t583 t584 true) else (if (t583.size : Int) > 1 then (if 0 < (t583.size : Int) then (koinelaw01_NaturalDecimal.j0 k t576 t577 t580 t583 t584 ((bt t583 0) == 48)) else (none)) else (koinelaw01_NaturalDecimal.j0 k t576 t577 t580 t583 t584 false))) else (koinelaw01_NaturalDecimal.j0 k t576 t577 t580 t583 t584 true))) else (koinelaw01_NaturalDecimal.j0 k t576 t577 t580 t583 t584 true)) = some r := H
  have A8 := Aside0.mk A80
  clear A80
  have HC9 := Aside0.mk H
  clear H
  go_enter Try.func9, Try.ntmps9
  go_upto_region 7 with (first | ((with_reducible refine gate_callee (f := 14) rfl ?_); refine goesL_ (some 15) rfl rfl Try.func14 (by kernel_rfl) rfl #[] rfl (by (try simp only [List.map_toArray, List.map_cons, List.map_nil]); first | done | rfl | (simp only [List.length_drop, List.length_take]; rfl)) ?_; (with_reducible refine (koinelaw01_sanity.calls k  t576 _ A3.out).mono ?_); rintro e w10 ⟨rfl, hb⟩; refine ⟨_, rfl, ?_⟩; have n0_ := Aside0.mk (below_step (by repeat (first | (with_reducible first | exact HB.out | apply below_alloc | apply pw_below_drewN | apply below_drew1) | exact HB.out)) hb); clear HB; have HB := n0_; clear n0_; (try clear hb); (try clear hb2); (try clear hk); (try clear hi)) | ((with_reducible refine gate_callee (f := 21) rfl ?_); refine goesL_ (some 17) rfl rfl Try.func21 (by kernel_rfl) rfl #[.slice A0 l0.length c0, .int .i64 20] rfl (by (try simp only [List.map_toArray, List.map_cons, List.map_nil]); first | done | rfl | (simp only [List.length_drop, List.length_take]; rfl)) ?_; (with_reducible refine (koineref01_Made.calls k _ _ l0 20 t577 _ ?side1 ?side2 A4.out).mono ?_); (case side1 => repeat (first | exact (Kd.C_below HR0.out HB.out) | (with_reducible refine Kd.C_alloc ?_ _) | (with_reducible refine Kd.C_drewN ?_ _) | (with_reducible refine Kd.C_drew ?_))); (case side2 => exact HC0.out); rintro e w11 ⟨v578, rfl, ho0, hb⟩; refine ⟨_, rfl, ?_⟩; have n0_ := Aside0.mk (Kd.R_lower ho0 (below_size (by repeat (first | (with_reducible first | exact HB.out | apply below_alloc | apply pw_below_drewN | apply below_drew1) | exact HB.out)))); have n1_ := Aside0.mk (below_step (by repeat (first | (with_reducible first | exact HB.out | apply below_alloc | apply pw_below_drewN | apply below_drew1) | exact HB.out)) hb); clear HB; have HO579 := n0_; have HB := n1_; clear n0_ n1_; (try clear hb); (try clear hb2); (try clear hk); (try clear hi); (try clear ho0)) | ((with_reducible refine gate_callee (f := 21) rfl ?_); refine goesL_ (some 19) rfl rfl Try.func21 (by kernel_rfl) rfl #[.slice A1 l1.length c1, .int .i64 20] rfl (by (try simp only [List.map_toArray, List.map_cons, List.map_nil]); first | done | rfl | (simp only [List.length_drop, List.length_take]; rfl)) ?_; (with_reducible refine (koineref01_Made.calls k _ _ l1 20 t580 _ ?side1 ?side2 A5.out).mono ?_); (case side1 => repeat (first | exact (Kd.C_below HR1.out HB.out) | (with_reducible refine Kd.C_alloc ?_ _) | (with_reducible refine Kd.C_drewN ?_ _) | (with_reducible refine Kd.C_drew ?_))); (case side2 => exact HC1.out); rintro e w12 ⟨v581, rfl, ho0, hb⟩; refine ⟨_, rfl, ?_⟩; have n0_ := Aside0.mk (Kd.R_elder' (by (with_reducible repeat (first | apply Kd.R_alloc | apply Kd.R_drewN | apply Kd.R_drew)); exact HO579.out) (Kd.R_base ho0) hb); have n1_ := Aside0.mk (Kd.R_lower (Kd.R_new' ho0 (Kd.R_lt (by (with_reducible repeat (first | apply Kd.R_alloc | apply Kd.R_drewN | apply Kd.R_drew)); exact HO579.out))) (below_size (by repeat (first | (with_reducible first | exact HB.out | apply below_alloc | apply pw_below_drewN | apply below_drew1) | exact HB.out)))); have n2_ := Aside0.mk (below_step (by repeat (first | (with_reducible first | exact HB.out | apply below_alloc | apply pw_below_drewN | apply below_drew1) | exact HB.out)) hb); clear HO579; clear HB; have HO579 := n0_; have HO582 := n1_; have HB := n2_; clear n0_ n1_ n2_; (try clear hb); (try clear hb2); (try clear hk); (try clear hi); (try clear ho0); obtain ⟨Ao13, co13, eo13⟩ := Kd.R_slice HO579.out; subst eo13) | ((with_reducible refine gate_callee (f := 17) rfl ?_); refine goesL_ (some 21) rfl rfl Try.func17 (by kernel_rfl) rfl #[.slice Ao13 t577.length co13] rfl (by (try simp only [List.map_toArray, List.map_cons, List.map_nil]); first | done | rfl | (simp only [List.length_drop, List.length_take]; rfl)) ?_; (with_reducible refine (natural_Text.calls k (fun k_ => some k_ = (.slice Ao13 t577.length co13 : Value).ownBlock) _ _ t577 t583 _ ?side1 A6.out).mono ?_); (case side1 => exact Kd.R_V (Kd.R_tight rfl (HO579.out))); rintro e w14 ⟨rfl, hb⟩; refine ⟨_, rfl, ?_⟩; have n0_ := Aside0.mk (Kd.R_below (by (with_reducible repeat (first | apply Kd.R_alloc | apply Kd.R_drewN | apply Kd.R_drew)); exact HO579.out) hb); have n1_ := Aside0.mk (Kd.R_below (by (with_reducible repeat (first | apply Kd.R_alloc | apply Kd.R_drewN | apply Kd.R_drew)); exact HO582.out) hb); have n2_ := Aside0.mk (below_step (by repeat (first | (with_reducible first | exact HB.out | apply below_alloc | apply pw_below_drewN | apply below_drew1) | exact HB.out)) hb); clear HO579; clear HO582; clear HB; have HO579 := n0_; have HO582 := n1_; have HB := n2_; clear n0_ n1_ n2_; (try clear hb); (try clear hb2); (try clear hk); (try clear hi); obtain ⟨Ao15, co15, eo15⟩ := Kd.R_slice HO582.out; subst eo15) | ((with_reducible refine gate_callee (f := 17) rfl ?_); refine goesL_ (some 23) rfl rfl Try.func17 (by kernel_rfl) rfl #[.slice Ao15 t580.length co15] rfl (by (try simp only [List.map_toArray, List.map_cons, List.map_nil]); first | done | rfl | (simp only [List.length_drop, List.length_take]; rfl)) ?_; (with_reducible refine (natural_Text.calls k (fun k_ => some k_ = (.slice Ao15 t580.length co15 : Value).ownBlock) _ _ t580 t584 _ ?side1 A7.out).mono ?_); (case side1 => exact Kd.R_V (Kd.R_tight rfl (HO582.out))); rintro e w16 ⟨rfl, hb⟩; refine ⟨_, rfl, ?_⟩; have n0_ := Aside0.mk (Kd.R_below (by (with_reducible repeat (first | apply Kd.R_alloc | apply Kd.R_drewN | apply Kd.R_drew)); exact HO579.out) hb); have n1_ := Aside0.mk (Kd.R_below (by (with_reducible repeat (first | apply Kd.R_alloc | apply Kd.R_drewN | apply Kd.R_drew)); exact HO582.out) hb); have n2_ := Aside0.mk (below_step (by repeat (first | (with_reducible first | exact HB.out | apply below_alloc | apply pw_below_drewN | apply below_drew1) | exact HB.out)) hb); clear HO579; clear HO582; clear HB; have HO579 := n0_; have HO582 := n1_; have HB := n2_; clear n0_ n1_ n2_; (try clear hb); (try clear hb2); (try clear hk); (try clear hi)) | ((with_reducible refine gate_callee (f := 15) rfl ?_); refine goesL_ (some 26) rfl rfl Try.func15 (by kernel_rfl) rfl #[.string t583] rfl (by (try simp only [List.map_toArray, List.map_cons, List.map_nil]); first | done | rfl | (simp only [List.length_drop, List.length_take]; rfl)) ?_; (with_reducible refine (natural_Parse.calls k t583 t585 t586 _ A8.out).mono ?_); rintro e w17 ⟨v587, rfl, ho0, hb⟩; refine ⟨_, rfl, ?_⟩; have n0_ := Aside0.mk (Kd.R_elder' (by (with_reducible repeat (first | apply Kd.R_alloc | apply Kd.R_drewN | apply Kd.R_drew)); exact HO579.out) (Kd.R_base ho0) hb); have n1_ := Aside0.mk (Kd.R_elder' (by (with_reducible repeat (first | apply Kd.R_alloc | apply Kd.R_drewN | apply Kd.R_drew)); exact HO582.out) (Kd.R_base ho0) hb); have n2_ := Aside0.mk (Kd.R_lower (Kd.R_new' (Kd.R_new' ho0 (Kd.R_lt (by (with_reducible repeat (first | apply Kd.R_alloc | apply Kd.R_drewN | apply Kd.R_drew)); exact HO579.out))) (Kd.R_lt (by (with_reducible repeat (first | apply Kd.R_alloc | apply Kd.R_drewN | apply Kd.R_drew)); exact HO582.out))) (below_size (by repeat (first | (with_reducible first | exact HB.out | apply below_alloc | apply pw_below_drewN | apply below_drew1) | exact HB.out)))); have n3_ := Aside0.mk (below_step (by repeat (first | (with_reducible first | exact HB.out | apply below_alloc | apply pw_below_drewN | apply below_drew1) | exact HB.out)) hb); clear HO579; clear HO582; clear HB; have HO579 := n0_; have HO582 := n1_; have HO588 := n2_; have HB := n3_; clear n0_ n1_ n2_ n3_; (try clear hb); (try clear hb2); (try clear hk); (try clear hi); (try clear ho0)))
  (try simp only [Act.put, List.setIfInBounds_toArray, List.set_cons_zero, List.set_cons_succ])
  go_cut [50] (fun v50 wc => ∃ (kq : Nat) (x50_8 : Bool), v50 = .bool x50_8 ∧ Aside0 (koinelaw01_NaturalDecimal.j0 kq t576 t577 t580 t583 t584 x50_8 = some r) ∧ Aside0 (kq ≤ k) ∧ Aside0 (Kd.R (Kd.int .u32) 35 wc w.heap.size (fun k_ => some k_ ≠ ((.slice Ao15 t580.length co15) : Value).ownBlock) (.slice Ao13 t577.length co13) t577) ∧ Aside0 (Kd.R (Kd.int .u32) 35 wc w.heap.size (fun k_ => some k_ ≠ ((.slice Ao13 t577.length co13) : Value).ownBlock) (.slice Ao15 t580.length co15) t580) ∧ Aside0 (Below w.heap.size w wc))
  case first =>
    have H := HC9.out
    clear HC9
    by_cases c18 : t586 = 0
    · rw [if_pos c18] at H
      have c18b0 : (t586 == 0) = true := beq_iff_eq.mpr c18
      have c18b1 : (t586 != 0) = false := bne_eq_false_iff_eq.mpr c18
      clear c18
      (first | rw [c18b0] | (simp only [i64_w, i32_w]; rw [c18b0]) | skip)
      replace H := Option.bind_eq_some_iff.mp H
      obtain ⟨t589, A190, H⟩ := H
      replace H : (if t589 = true then (if t583.toList = ([] : List UInt8) then (koinelaw01_NaturalDecimal.j0 k t576 t577 t580 t583 t584 true) else (if (t583.size : Int) > 1 then (if 0 < (t583.size : Int) then (koinelaw01_NaturalDecimal.j0 k t576 t577 t580 t583 t584 ((bt t583 0) == 48)) else (none)) else (koinelaw01_NaturalDecimal.j0 k t576 t577 t580 t583 t584 false))) else (koinelaw01_NaturalDecimal.j0 k t576 t577 t580 t583 t584 true)) = some r := H
      have A19 := Aside0.mk A190
      clear A190
      by_cases c20 : t589 = true
      · subst c20
        have H1 : (if t583.toList = ([] : List UInt8) then (koinelaw01_NaturalDecimal.j0 k t576 t577 t580 t583 t584 true) else (if (t583.size : Int) > 1 then (if 0 < (t583.size : Int) then (koinelaw01_NaturalDecimal.j0 k t576 t577 t580 t583 t584 ((bt t583 0) == 48)) else (none)) else (koinelaw01_NaturalDecimal.j0 k t576 t577 t580 t583 t584 false))) = some r := by rw [if_pos rfl] at H; exact H
        clear H
        have H := H1
        clear H1
        by_cases c21 : t583.toList = ([] : List UInt8)
        · rw [if_pos c21] at H
          have c21b0 : (t583.toList == ([] : List UInt8)) = true := beq_iff_eq.mpr c21
          have c21b1 : (t583.toList != ([] : List UInt8)) = false := bne_eq_false_iff_eq.mpr c21
          clear c21
          have H' := Aside0.mk H
          clear H
          obtain ⟨Ao22, co22, eo22⟩ := Kd.R_slice HO588.out
          subst eo22
          go_wp2_with (first | (go_at_call 19; (with_reducible refine (koineref01_Same.calls k _ _ t585 _ _ t577 true _ ?side1 ?side2 ?side3 ?side4 A19.out).mono ?_); (case side1 => repeat (first | exact (Kd.R_reads' HO588.out).2.2 | (with_reducible refine Kd.C_alloc ?_ _) | (with_reducible refine Kd.C_drewN ?_ _) | (with_reducible refine Kd.C_drew ?_))); (case side2 => exact (Kd.R_reads' HO588.out).2.1); (case side3 => repeat (first | exact (Kd.R_reads' HO579.out).2.2 | (with_reducible refine Kd.C_alloc ?_ _) | (with_reducible refine Kd.C_drewN ?_ _) | (with_reducible refine Kd.C_drew ?_))); (case side4 => exact (Kd.R_reads' HO579.out).2.1); rintro e w' ⟨rfl, ⟨nd, rfl⟩⟩))
          go_meet
          case rel => exact ⟨_, (true), (by first | rfl | (simp; done) | (simp [*]; done)), H', ⟨by first | omega | exact Nat.le_refl _⟩, ⟨by (with_reducible repeat (first | apply Kd.R_alloc | apply Kd.R_drewN | apply Kd.R_drew)); exact Kd.R_mono HO579.out (fun _ hk => hk.1.2)⟩, ⟨by (with_reducible repeat (first | apply Kd.R_alloc | apply Kd.R_drewN | apply Kd.R_drew)); exact Kd.R_mono HO582.out (fun _ hk => hk.1.2)⟩, ⟨by repeat (first | (with_reducible first | exact HB.out | apply below_alloc | apply pw_below_drewN | apply below_drew1) | exact HB.out)⟩⟩
        · rw [if_neg c21] at H
          have c21b0 : (t583.toList == ([] : List UInt8)) = false := beq_eq_false_iff_ne.mpr c21
          have c21b1 : (t583.toList != ([] : List UInt8)) = true := bne_iff_ne.mpr c21
          by_cases c23 : (t583.size : Int) > 1
          · rw [if_pos c23] at H
            have c23b0 : decide (1 < (t583.size : Int)) = true := decide_eq_true c23
            have c23b1 : decide (1 < t583.size) = true := decide_eq_true (by omega)
            clear c23
            by_cases c24 : 0 < (t583.size : Int)
            · rw [if_pos c24] at H
              have c24b0 : decide (0 < (t583.size : Int)) = true := decide_eq_true c24
              have c24b1 : decide (0 < t583.size) = true := decide_eq_true (by omega)
              clear c24
              have H' := Aside0.mk H
              clear H
              obtain ⟨Ao26, co26, eo26⟩ := Kd.R_slice HO588.out
              subst eo26
              go_wp2_with (first | (go_at_call 19; (with_reducible refine (koineref01_Same.calls k _ _ t585 _ _ t577 true _ ?side1 ?side2 ?side3 ?side4 A19.out).mono ?_); (case side1 => repeat (first | exact (Kd.R_reads' HO588.out).2.2 | (with_reducible refine Kd.C_alloc ?_ _) | (with_reducible refine Kd.C_drewN ?_ _) | (with_reducible refine Kd.C_drew ?_))); (case side2 => exact (Kd.R_reads' HO588.out).2.1); (case side3 => repeat (first | exact (Kd.R_reads' HO579.out).2.2 | (with_reducible refine Kd.C_alloc ?_ _) | (with_reducible refine Kd.C_drewN ?_ _) | (with_reducible refine Kd.C_drew ?_))); (case side4 => exact (Kd.R_reads' HO579.out).2.1); rintro e w' ⟨rfl, ⟨nd, rfl⟩⟩; have p25 : 0 ≤ (0 : Int) := (by omega); have q25 : 0 < t583.size := (by have : (0 : Int) < (t583.size : Int) := of_decide_eq_true (by first | (with_reducible assumption) | assumption); omega); have hx25 : ∀ h : 0 < t583.size, ((t583[0]'h).toNat : Int) = bt t583 0 := bt_at t583 0; clear p25; have qi25 : (0 < (t583.size : Int)) = True := eq_true (of_decide_eq_true (by first | (with_reducible assumption) | assumption)); replace q25 := eq_true q25))
              go_meet
              case rel => exact ⟨_, (((bt t583 0) == 48)), (by first | rfl | (simp; done) | (simp [*]; done)), H', ⟨by first | omega | exact Nat.le_refl _⟩, ⟨by (with_reducible repeat (first | apply Kd.R_alloc | apply Kd.R_drewN | apply Kd.R_drew)); exact Kd.R_mono HO579.out (fun _ hk => hk.1.2)⟩, ⟨by (with_reducible repeat (first | apply Kd.R_alloc | apply Kd.R_drewN | apply Kd.R_drew)); exact Kd.R_mono HO582.out (fun _ hk => hk.1.2)⟩, ⟨by repeat (first | (with_reducible first | exact HB.out | apply below_alloc | apply pw_below_drewN | apply below_drew1) | exact HB.out)⟩⟩
            · rw [if_neg c24] at H
              exact absurd H (by simp)
          · rw [if_neg c23] at H
            have c23b0 : decide (1 < (t583.size : Int)) = false := decide_eq_false c23
            have c23b1 : decide (1 < t583.size) = false := decide_eq_false (by omega)
            clear c23
            have H' := Aside0.mk H
            clear H
            obtain ⟨Ao27, co27, eo27⟩ := Kd.R_slice HO588.out
            subst eo27
            go_wp2_with (first | (go_at_call 19; (with_reducible refine (koineref01_Same.calls k _ _ t585 _ _ t577 true _ ?side1 ?side2 ?side3 ?side4 A19.out).mono ?_); (case side1 => repeat (first | exact (Kd.R_reads' HO588.out).2.2 | (with_reducible refine Kd.C_alloc ?_ _) | (with_reducible refine Kd.C_drewN ?_ _) | (with_reducible refine Kd.C_drew ?_))); (case side2 => exact (Kd.R_reads' HO588.out).2.1); (case side3 => repeat (first | exact (Kd.R_reads' HO579.out).2.2 | (with_reducible refine Kd.C_alloc ?_ _) | (with_reducible refine Kd.C_drewN ?_ _) | (with_reducible refine Kd.C_drew ?_))); (case side4 => exact (Kd.R_reads' HO579.out).2.1); rintro e w' ⟨rfl, ⟨nd, rfl⟩⟩))
            go_meet
            case rel => exact ⟨_, (false), (by first | rfl | (simp; done) | (simp [*]; done)), H', ⟨by first | omega | exact Nat.le_refl _⟩, ⟨by (with_reducible repeat (first | apply Kd.R_alloc | apply Kd.R_drewN | apply Kd.R_drew)); exact Kd.R_mono HO579.out (fun _ hk => hk.1.2)⟩, ⟨by (with_reducible repeat (first | apply Kd.R_alloc | apply Kd.R_drewN | apply Kd.R_drew)); exact Kd.R_mono HO582.out (fun _ hk => hk.1.2)⟩, ⟨by repeat (first | (with_reducible first | exact HB.out | apply below_alloc | apply pw_below_drewN | apply below_drew1) | exact HB.out)⟩⟩
      · replace c20 := Bool.eq_false_iff.mpr c20
        subst c20
        have H1 : (koinelaw01_NaturalDecimal.j0 k t576 t577 t580 t583 t584 true) = some r := by rw [if_neg (show ¬ (false = true) by decide)] at H; exact H
        clear H
        have H := H1
        clear H1
        have H' := Aside0.mk H
        clear H
        obtain ⟨Ao28, co28, eo28⟩ := Kd.R_slice HO588.out
        subst eo28
        go_wp2_with (first | (go_at_call 19; (with_reducible refine (koineref01_Same.calls k _ _ t585 _ _ t577 false _ ?side1 ?side2 ?side3 ?side4 A19.out).mono ?_); (case side1 => repeat (first | exact (Kd.R_reads' HO588.out).2.2 | (with_reducible refine Kd.C_alloc ?_ _) | (with_reducible refine Kd.C_drewN ?_ _) | (with_reducible refine Kd.C_drew ?_))); (case side2 => exact (Kd.R_reads' HO588.out).2.1); (case side3 => repeat (first | exact (Kd.R_reads' HO579.out).2.2 | (with_reducible refine Kd.C_alloc ?_ _) | (with_reducible refine Kd.C_drewN ?_ _) | (with_reducible refine Kd.C_drew ?_))); (case side4 => exact (Kd.R_reads' HO579.out).2.1); rintro e w' ⟨rfl, ⟨nd, rfl⟩⟩))
        go_meet
        case rel => exact ⟨_, (true), (by first | rfl | (simp; done) | (simp [*]; done)), H', ⟨by first | omega | exact Nat.le_refl _⟩, ⟨by (with_reducible repeat (first | apply Kd.R_alloc | apply Kd.R_drewN | apply Kd.R_drew)); exact Kd.R_mono HO579.out (fun _ hk => hk.1.2)⟩, ⟨by (with_reducible repeat (first | apply Kd.R_alloc | apply Kd.R_drewN | apply Kd.R_drew)); exact Kd.R_mono HO582.out (fun _ hk => hk.1.2)⟩, ⟨by repeat (first | (with_reducible first | exact HB.out | apply below_alloc | apply pw_below_drewN | apply below_drew1) | exact HB.out)⟩⟩
    · rw [if_neg c18] at H
      have c18b0 : (t586 == 0) = false := beq_eq_false_iff_ne.mpr c18
      have c18b1 : (t586 != 0) = true := bne_iff_ne.mpr c18
      (first | rw [c18b0] | (simp only [i64_w, i32_w]; rw [c18b0]) | skip)
      have H' := Aside0.mk H
      clear H
      go_wp2
      go_meet
      case rel => exact ⟨_, (true), (by first | rfl | (simp; done) | (simp [*]; done)), H', ⟨by first | omega | exact Nat.le_refl _⟩, ⟨by (with_reducible repeat (first | apply Kd.R_alloc | apply Kd.R_drewN | apply Kd.R_drew)); exact Kd.R_mono HO579.out (fun _ hk => hk.1.2)⟩, ⟨by (with_reducible repeat (first | apply Kd.R_alloc | apply Kd.R_drewN | apply Kd.R_drew)); exact Kd.R_mono HO582.out (fun _ hk => hk.1.2)⟩, ⟨by repeat (first | (with_reducible first | exact HB.out | apply below_alloc | apply pw_below_drewN | apply below_drew1) | exact HB.out)⟩⟩
  case rest =>
    clear HC9
    try clear c1
    try clear c2
    try clear p2
    try clear q2
    try clear hx2
    try clear qi2
    try clear c9
    try clear c14
    try clear c15
    try clear c17
    try clear c18
    try clear c18b0
    try clear c18b1
    try clear c20
    try clear c21
    try clear c21b0
    try clear c21b1
    try clear c23
    try clear c23b0
    try clear c23b1
    try clear c24
    try clear c24b0
    try clear c24b1
    try clear p25
    try clear q25
    try clear hx25
    try clear qi25
    try clear p25
    try clear q25
    obtain ⟨kq, x50_8, rfl, HA, HJ8, HO_6, HO_7, HB⟩ := hcut
    cases kq with
    | zero => exact absurd HA.out (by simp [koinelaw01_NaturalDecimal.j0])
    | succ kj8 =>
      have H := HA.out
      clear HA
      simp only [koinelaw01_NaturalDecimal.j0] at H
      by_cases c29 : x50_8 = true
      · subst c29
        have H1 : (some false) = some r := by rw [if_pos rfl] at H; exact H
        clear H
        have H := H1
        clear H1
        obtain rfl := Option.some.inj H
        go_wp2
        go_ret
        exact ⟨by first | rfl | (simp [errW_none, errW_some] <;> rfl) | (simp [*, errW_none, errW_some] <;> rfl), by repeat (first | (with_reducible first | exact HB.out | apply below_alloc | apply pw_below_drewN | apply below_drew1) | exact HB.out)⟩
      · replace c29 := Bool.eq_false_iff.mpr c29
        subst c29
        have H1 : (koinelaw01_NaturalDecimal.l0 kj8 t576 t577 t580 t583 t584 (([] : List Int)) 0) = some r := by rw [if_neg (show ¬ (false = true) by decide)] at H; exact H
        clear H
        have H := H1
        clear H1
        obtain ⟨y590, hy590⟩ : ∃ y_ : List Int, y_ = (([] : List Int)) := ⟨_, rfl⟩
        replace H : (koinelaw01_NaturalDecimal.l0 kj8 t576 t577 t580 t583 t584 y590 0) = some r := by first | (rw [hy590]; with_reducible exact H) | (have H2_ := (Option.bind_some _ _).symm.trans H; rw [hy590]; with_reducible exact H2_) | (have H2_ := (Option.bind_some _ _).symm.trans H; with_reducible exact H2_) | with_reducible exact H | (rw [hy590]; exact H) | exact H
        have Ny590 := Aside0.mk hy590
        clear hy590
        have H' := Aside0.mk H
        clear H
        go_wp2_with (first | ((with_reducible refine gate_dst (N := 51) rfl ?_); (try (refine gate_guard (by rfl) ?_; dsimp only)); refine Kd.R_lit (Kd.int .u32) _ 35 ?hg (N := 51) ?hd (xs := ([] : List Int)) (inner := []) (ok := fun _ => True) (okp := fun _ => True) ?hr ?hp (fun _ hk => hk) trivial (Below.refl _ _) (Nat.le_refl _) (by simp) ?_; (case hd => rfl); (case hg => rfl); (case hr => first | (go_simp; done) | (go_simp; rfl)); (case hp => exact (Reps.none _ _)); intro v591 w30 ho31 hb hg_ hnew_; clear hg_ hnew_; (first | rw [← Ny590.out] at ho31 | (simp only [Int.reduceToNat] at ho31; rw [← Ny590.out] at ho31)); have n0_ := Aside0.mk (Kd.R_elder' (by (with_reducible repeat (first | apply Kd.R_alloc | apply Kd.R_drewN | apply Kd.R_drew)); exact HO_6.out) (Kd.R_base ho31) hb); have n1_ := Aside0.mk (Kd.R_elder' (by (with_reducible repeat (first | apply Kd.R_alloc | apply Kd.R_drewN | apply Kd.R_drew)); exact HO_7.out) (Kd.R_base ho31) hb); have n2_ := Aside0.mk (Kd.R_lower (Kd.R_new' (Kd.R_new' ho31 (Kd.R_lt (by (with_reducible repeat (first | apply Kd.R_alloc | apply Kd.R_drewN | apply Kd.R_drew)); exact HO_6.out))) (Kd.R_lt (by (with_reducible repeat (first | apply Kd.R_alloc | apply Kd.R_drewN | apply Kd.R_drew)); exact HO_7.out))) (below_size (by repeat (first | (with_reducible first | exact HB.out | apply below_alloc | apply pw_below_drewN | apply below_drew1) | exact HB.out)))); have n3_ := Aside0.mk (below_step (by repeat (first | (with_reducible first | exact HB.out | apply below_alloc | apply pw_below_drewN | apply below_drew1) | exact HB.out)) hb); clear HO_6; clear HO_7; clear HB; have HO_6 := n0_; have HO_7 := n1_; have HO592 := n2_; have HB := n3_; clear n0_ n1_ n2_ n3_; clear hb ho31))
        go_loopg [12, 13] kj8 (fun kq v12 v13 w' => ∃ (x12_2 : List Int) (x13_2 : Int), v13 = .int .i64 x13_2 ∧ Aside0 (koinelaw01_NaturalDecimal.l0 kq t576 t577 t580 t583 t584 x12_2 x13_2 = some r) ∧ Aside0 (kq ≤ kj8) ∧ Aside0 (Kd.R (Kd.int .u32) 35 w' w.heap.size (fun k_ => some k_ ≠ ((.slice Ao15 t580.length co15) : Value).ownBlock ∧ some k_ ≠ (v12 : Value).ownBlock) (.slice Ao13 t577.length co13) t577) ∧ Aside0 (Kd.R (Kd.int .u32) 35 w' w.heap.size (fun k_ => some k_ ≠ ((.slice Ao13 t577.length co13) : Value).ownBlock ∧ some k_ ≠ (v12 : Value).ownBlock) (.slice Ao15 t580.length co15) t580) ∧ Aside0 (Kd.R (Kd.int .u32) 35 w' w.heap.size (fun k_ => some k_ ≠ ((.slice Ao13 t577.length co13) : Value).ownBlock ∧ some k_ ≠ ((.slice Ao15 t580.length co15) : Value).ownBlock) v12 x12_2) ∧ Aside0 (Below w.heap.size w w'))
        case atStart => exact ⟨(y590), (0), (by first | rfl | (simp; done) | (simp [*]; done)), H', ⟨Nat.le_refl _⟩, ⟨by (with_reducible repeat (first | apply Kd.R_alloc | apply Kd.R_drewN | apply Kd.R_drew)); exact HO_6.out⟩, ⟨by (with_reducible repeat (first | apply Kd.R_alloc | apply Kd.R_drewN | apply Kd.R_drew)); exact HO_7.out⟩, ⟨by (with_reducible repeat (first | apply Kd.R_alloc | apply Kd.R_drewN | apply Kd.R_drew)); exact Kd.R_mono HO592.out (fun _ hk => ⟨hk.1.2, hk.2⟩)⟩, ⟨by repeat (first | (with_reducible first | exact HB.out | apply below_alloc | apply pw_below_drewN | apply below_drew1) | exact HB.out)⟩⟩
        case round =>
          clear H'
          try clear c1
          try clear c2
          try clear p2
          try clear q2
          try clear hx2
          try clear qi2
          try clear c9
          try clear c14
          try clear c15
          try clear c17
          try clear c18
          try clear c18b0
          try clear c18b1
          try clear c20
          try clear c21
          try clear c21b0
          try clear c21b1
          try clear c23
          try clear c23b0
          try clear c23b1
          try clear c24
          try clear c24b0
          try clear c24b1
          try clear p25
          try clear q25
          try clear hx25
          try clear qi25
          try clear c29
          try clear p2
          try clear p25
          try clear q2
          try clear q25
          obtain ⟨x12_2, x13_2, rfl, HA, HK2, HO_6, HO_7, HO_12, HB⟩ := hrel
          cases gk with
          | zero => exact absurd HA.out (by simp [koinelaw01_NaturalDecimal.l0])
          | succ k2 =>
            have H := HA.out
            clear HA
            simp only [koinelaw01_NaturalDecimal.l0] at H
            by_cases c32 : x13_2 < (t583.size : Int)
            · rw [if_pos c32] at H
              have c32b0 : decide (x13_2 < (t583.size : Int)) = true := decide_eq_true c32
              clear c32
              have HC33 := Aside0.mk H
              clear H
              go_upto_region 13 with (fail)
              go_cut [67] (fun v67 wc => ∃ (kq : Nat) (x67_32 : Bool), v67 = .bool x67_32 ∧ Aside0 (koinelaw01_NaturalDecimal.j2 kq t576 t577 t580 t583 t584 x12_2 x13_2 x67_32 = some r) ∧ Aside0 (kq ≤ k2) ∧ Aside0 (Kd.R (Kd.int .u32) 35 wc w.heap.size (fun k_ => some k_ ≠ ((.slice Ao15 t580.length co15) : Value).ownBlock ∧ some k_ ≠ (u12 : Value).ownBlock) (.slice Ao13 t577.length co13) t577) ∧ Aside0 (Kd.R (Kd.int .u32) 35 wc w.heap.size (fun k_ => some k_ ≠ ((.slice Ao13 t577.length co13) : Value).ownBlock ∧ some k_ ≠ (u12 : Value).ownBlock) (.slice Ao15 t580.length co15) t580) ∧ Aside0 (Kd.R (Kd.int .u32) 35 wc w.heap.size (fun k_ => some k_ ≠ ((.slice Ao13 t577.length co13) : Value).ownBlock ∧ some k_ ≠ ((.slice Ao15 t580.length co15) : Value).ownBlock) u12 x12_2) ∧ Aside0 (Below w.heap.size w wc))
              case first =>
                have H := HC33.out
                clear HC33
                by_cases c34 : 0 ≤ x13_2
                · rw [if_pos c34] at H
                  have c34b0 : decide (0 ≤ x13_2) = true := decide_eq_true c34
                  clear c34
                  (first | rw [c34b0] | (simp only [i64_w, i32_w]; rw [c34b0]) | skip)
                  by_cases c36 : (bt t583 x13_2) < 48
                  · rw [if_pos c36] at H
                    have c36b0 : decide ((bt t583 x13_2) < 48) = true := decide_eq_true c36
                    clear c36
                    have H' := Aside0.mk H
                    clear H
                    have p35 : 0 ≤ (x13_2 : Int) := of_decide_eq_true (by first | (with_reducible assumption) | assumption)
                    have q35 : x13_2 < (t583.size : Int) := of_decide_eq_true (by first | (with_reducible assumption) | assumption)
                    have hx35 := bt_at t583 x13_2
                    replace p35 := eq_true p35
                    replace q35 := eq_true q35
                    go_wp2
                    go_meet
                    case rel => exact ⟨_, (true), (by first | rfl | (simp; done) | (simp [*]; done)), H', ⟨by have := HJ8.out; have := HK2.out; first | omega | exact Nat.le_refl _⟩, ⟨by (with_reducible repeat (first | apply Kd.R_alloc | apply Kd.R_drewN | apply Kd.R_drew)); exact HO_6.out⟩, ⟨by (with_reducible repeat (first | apply Kd.R_alloc | apply Kd.R_drewN | apply Kd.R_drew)); exact HO_7.out⟩, ⟨by (with_reducible repeat (first | apply Kd.R_alloc | apply Kd.R_drewN | apply Kd.R_drew)); exact HO_12.out⟩, ⟨by repeat (first | (with_reducible first | exact HB.out | apply below_alloc | apply pw_below_drewN | apply below_drew1) | exact HB.out)⟩⟩
                  · rw [if_neg c36] at H
                    have c36b0 : decide ((bt t583 x13_2) < 48) = false := decide_eq_false c36
                    clear c36
                    have H' := Aside0.mk H
                    clear H
                    have p35 : 0 ≤ (x13_2 : Int) := of_decide_eq_true (by first | (with_reducible assumption) | assumption)
                    have q35 : x13_2 < (t583.size : Int) := of_decide_eq_true (by first | (with_reducible assumption) | assumption)
                    have hx35 := bt_at t583 x13_2
                    replace p35 := eq_true p35
                    replace q35 := eq_true q35
                    have p37 : 0 ≤ (x13_2 : Int) := of_decide_eq_true (by first | (with_reducible assumption) | assumption)
                    have q37 : x13_2 < (t583.size : Int) := of_decide_eq_true (by first | (with_reducible assumption) | assumption)
                    have hx37 := bt_at t583 x13_2
                    replace p37 := eq_true p37
                    replace q37 := eq_true q37
                    go_wp2
                    go_meet
                    case rel => exact ⟨_, (decide ((bt t583 x13_2) > 57)), (by first | rfl | (simp; done) | (simp [*]; done)), H', ⟨by have := HJ8.out; have := HK2.out; first | omega | exact Nat.le_refl _⟩, ⟨by (with_reducible repeat (first | apply Kd.R_alloc | apply Kd.R_drewN | apply Kd.R_drew)); exact HO_6.out⟩, ⟨by (with_reducible repeat (first | apply Kd.R_alloc | apply Kd.R_drewN | apply Kd.R_drew)); exact HO_7.out⟩, ⟨by (with_reducible repeat (first | apply Kd.R_alloc | apply Kd.R_drewN | apply Kd.R_drew)); exact HO_12.out⟩, ⟨by repeat (first | (with_reducible first | exact HB.out | apply below_alloc | apply pw_below_drewN | apply below_drew1) | exact HB.out)⟩⟩
                · rw [if_neg c34] at H
                  exact absurd H (by simp)
              case rest =>
                clear HC33
                try clear c1
                try clear c2
                try clear p2
                try clear q2
                try clear hx2
                try clear qi2
                try clear c3
                try clear p3
                try clear q3
                try clear hx3
                try clear c9
                try clear c14
                try clear c15
                try clear c17
                try clear c18
                try clear c18b0
                try clear c18b1
                try clear c20
                try clear c21
                try clear c21b0
                try clear c21b1
                try clear c23
                try clear c23b0
                try clear c23b1
                try clear c24
                try clear c24b0
                try clear c24b1
                try clear p25
                try clear q25
                try clear hx25
                try clear qi25
                try clear c29
                try clear c32
                try clear c32b0
                try clear c34
                try clear c34b0
                try clear p35
                try clear q35
                try clear hx35
                try clear c36
                try clear c36b0
                try clear p37
                try clear q37
                try clear hx37
                try clear p2
                try clear p25
                try clear p35
                try clear p37
                try clear q2
                try clear q25
                try clear q35
                try clear q37
                obtain ⟨kq, x67_32, rfl, HA, HJ32, HO_6, HO_7, HO_12, HB⟩ := hcut
                cases kq with
                | zero => exact absurd HA.out (by simp [koinelaw01_NaturalDecimal.j2])
                | succ kj32 =>
                  have H := HA.out
                  clear HA
                  simp only [koinelaw01_NaturalDecimal.j2] at H
                  by_cases c38 : x67_32 = true
                  · subst c38
                    have H1 : (some false) = some r := by rw [if_pos rfl] at H; exact H
                    clear H
                    have H := H1
                    clear H1
                    obtain rfl := Option.some.inj H
                    go_wp2
                    go_ret
                    exact ⟨by first | rfl | (simp [errW_none, errW_some] <;> rfl) | (simp [*, errW_none, errW_some] <;> rfl), by repeat (first | (with_reducible first | exact HB.out | apply below_alloc | apply pw_below_drewN | apply below_drew1) | exact HB.out)⟩
                  · replace c38 := Bool.eq_false_iff.mpr c38
                    subst c38
                    have H1 : ((natural_Of.f kj32 10).bind fun t593 => ((koinelaw01_mul.f kj32 x12_2 t593).bind fun t596 => (if 0 ≤ x13_2 then (if x13_2 < (t583.size : Int) then ((natural_Of.f kj32 (((bt t583 x13_2) - 48) % 256)).bind fun t599 => ((koinelaw01_add.f kj32 t596 t599).bind fun t602 => (koinelaw01_NaturalDecimal.l0 kj32 t576 t577 t580 t583 t584 t602 (wrap64 (x13_2 + 1))))) else (none)) else (none)))) = some r := by rw [if_neg (show ¬ (false = true) by decide)] at H; exact H
                    clear H
                    have H := H1
                    clear H1
                    replace H := Option.bind_eq_some_iff.mp H
                    obtain ⟨t593, A390, H⟩ := H
                    replace H : ((koinelaw01_mul.f kj32 x12_2 t593).bind fun t596 => (if 0 ≤ x13_2 then (if x13_2 < (t583.size : Int) then ((natural_Of.f kj32 (((bt t583 x13_2) - 48) % 256)).bind fun t599 => ((koinelaw01_add.f kj32 t596 t599).bind fun t602 => (koinelaw01_NaturalDecimal.l0 kj32 t576 t577 t580 t583 t584 t602 (wrap64 (x13_2 + 1))))) else (none)) else (none))) = some r := H
                    have A39 := Aside0.mk A390
                    clear A390
                    replace H := Option.bind_eq_some_iff.mp H
                    obtain ⟨t596, A400, H⟩ := H
                    replace H : (if 0 ≤ x13_2 then (if x13_2 < (t583.size : Int) then ((natural_Of.f kj32 (((bt t583 x13_2) - 48) % 256)).bind fun t599 => ((koinelaw01_add.f kj32 t596 t599).bind fun t602 => (koinelaw01_NaturalDecimal.l0 kj32 t576 t577 t580 t583 t584 t602 (wrap64 (x13_2 + 1))))) else (none)) else (none)) = some r := H
                    have A40 := Aside0.mk A400
                    clear A400
                    by_cases c41 : 0 ≤ x13_2
                    · rw [if_pos c41] at H
                      have c41b0 : decide (0 ≤ x13_2) = true := decide_eq_true c41
                      clear c41
                      by_cases c42 : x13_2 < (t583.size : Int)
                      · rw [if_pos c42] at H
                        have c42b0 : decide (x13_2 < (t583.size : Int)) = true := decide_eq_true c42
                        clear c42
                        replace H := Option.bind_eq_some_iff.mp H
                        obtain ⟨t599, A440, H⟩ := H
                        replace H : ((koinelaw01_add.f kj32 t596 t599).bind fun t602 => (koinelaw01_NaturalDecimal.l0 kj32 t576 t577 t580 t583 t584 t602 (wrap64 (x13_2 + 1)))) = some r := H
                        have A44 := Aside0.mk A440
                        clear A440
                        replace H := Option.bind_eq_some_iff.mp H
                        obtain ⟨t602, A450, H⟩ := H
                        replace H : (koinelaw01_NaturalDecimal.l0 kj32 t576 t577 t580 t583 t584 t602 (wrap64 (x13_2 + 1))) = some r := H
                        have A45 := Aside0.mk A450
                        clear A450
                        have H' := Aside0.mk H
                        clear H
                        try go_wp2
                        have n0_ := Aside0.mk (Kd.R_drew HO_6.out)
                        have n1_ := Aside0.mk (Kd.R_drew HO_7.out)
                        have n2_ := Aside0.mk (Kd.R_drew HO_12.out)
                        have n3_ := Aside0.mk (below_drew1 HB.out)
                        clear HO_6
                        clear HO_7
                        clear HO_12
                        clear HB
                        have HO_6 := n0_
                        have HO_7 := n1_
                        have HO_12 := n2_
                        have HB := n3_
                        clear n0_ n1_ n2_ n3_
                        have p43 : 0 ≤ (x13_2 : Int) := of_decide_eq_true (by first | (with_reducible assumption) | assumption)
                        have q43 : x13_2 < (t583.size : Int) := of_decide_eq_true (by first | (with_reducible assumption) | assumption)
                        have hx43 := bt_at t583 x13_2
                        replace p43 := eq_true p43
                        replace q43 := eq_true q43
                        refine start_ (n := 11) (S := fun w' => True) (ds := []) #[false, false, false, false, false, false, false, false, false, false, false] (by kernel_rfl) rfl rfl trivial (fun hHeld => ?_); refine with_tabW koinelaw01_NaturalDecimal.tab15 koinelaw01_NaturalDecimal.bits15 (fun HT_ HW_ => ?_)
                        generalize wc.drew = w46 at HO_6 HO_7 HO_12 HB hHeld ⊢
                        refine pure_ (i := 0) (N := some 68) (v := ?_) (a' := ?_) #[true, false, false, false, false, false, false, false, false, false, false] rfl rfl (any_of HT_.out (by kernel_rfl)) (fun _ _ _ h => h) (Or.inl ⟨by rfl, ?_⟩) ?_ ?_
                        rotate_left
                        · intro w'
                          go_simp
                          with_reducible rfl
                        rotate_left
                        · simp only [Act.put, List.setIfInBounds_toArray, List.set_cons_zero, List.set_cons_succ, i64_w, i32_w]
                          rfl
                        refine pure_ (i := 3) (N := some 71) (v := ?_) (a' := ?_) #[true, false, false, true, false, false, false, false, false, false, false] rfl rfl (any_of HT_.out (by kernel_rfl)) (fun _ _ _ h => h) (Or.inl ⟨by rfl, ?_⟩) ?_ ?_
                        rotate_left
                        · intro w'
                          go_simp
                          with_reducible rfl
                        rotate_left
                        · simp only [Act.put, List.setIfInBounds_toArray, List.set_cons_zero, List.set_cons_succ, i64_w, i32_w]
                          rfl
                        refine pure_ (i := 4) (N := some 72) (v := ?_) (a' := ?_) #[true, false, false, true, true, false, false, false, false, false, false] rfl rfl (any_of HT_.out (by kernel_rfl)) (fun _ _ _ h => h) (Or.inl ⟨by rfl, ?_⟩) ?_ ?_
                        rotate_left
                        · intro w'
                          go_simp
                          with_reducible rfl
                        rotate_left
                        · simp only [Act.put, List.setIfInBounds_toArray, List.set_cons_zero, List.set_cons_succ, i64_w, i32_w]
                          rfl
                        refine take_ (i := 5) (N := some 73) (v := ?_) (a' := ?_) #[true, false, false, true, true, true, false, false, false, false, false] rfl rfl (take_ofW HT_.out HW_.out (by kernel_rfl)) (fun _ _ _ h => h) (Or.inl ⟨by rfl, ?_⟩) hHeld ?_ ?_
                        rotate_left
                        · intro w' _
                          go_simp
                          with_reducible rfl
                        rotate_left
                        · simp only [Act.put, List.setIfInBounds_toArray, List.set_cons_zero, List.set_cons_succ, i64_w, i32_w]
                          rfl
                        refine pure_ (i := 6) (N := some 74) (v := ?_) (a' := ?_) #[true, false, false, true, true, true, true, false, false, false, false] rfl rfl (any_of HT_.out (by kernel_rfl)) (fun _ _ _ h => h) (Or.inl ⟨by rfl, ?_⟩) ?_ ?_
                        rotate_left
                        · intro w'
                          go_simp
                          with_reducible rfl
                        rotate_left
                        · simp only [Act.put, List.setIfInBounds_toArray, List.set_cons_zero, List.set_cons_succ, i64_w, i32_w]
                          rfl
                        refine pure_ (i := 7) (N := some 75) (v := ?_) (a' := ?_) #[true, false, false, true, true, true, true, true, false, false, false] rfl rfl (any_of HT_.out (by kernel_rfl)) (fun _ _ _ h => h) (Or.inl ⟨by rfl, ?_⟩) ?_ ?_
                        rotate_left
                        · intro w'
                          go_simp
                          with_reducible rfl
                        rotate_left
                        · simp only [Act.put, List.setIfInBounds_toArray, List.set_cons_zero, List.set_cons_succ, i64_w, i32_w]
                          rfl
                        refine one_ (i := 1) (N := some 69) #[true, true, false, true, true, true, true, true, false, false, false] rfl rfl (one_of HT_.out (by kernel_rfl)) (by decide) (fun K hK => ?_)
                        refine goes_ Try.func24 (by kernel_rfl) rfl #[.int .u64 10] (by rfl) rfl rfl (by (try simp only [List.map_toArray, List.map_cons, List.map_nil]); first | done | rfl | (simp only [List.length_drop, List.length_take]; rfl)) ?_
                        with_reducible refine (natural_Of.calls kj32 10 t593 _ A39.out).mono ?_
                        rintro e w47 ⟨v594, rfl, ho0, hb⟩
                        refine ⟨_, rfl, ?_⟩
                        have n0_ := Aside0.mk (Kd.R_elder' (by (with_reducible repeat (first | apply Kd.R_alloc | apply Kd.R_drewN | apply Kd.R_drew)); exact HO_6.out) (Kd.R_base ho0) hb)
                        have n1_ := Aside0.mk (Kd.R_elder' (by (with_reducible repeat (first | apply Kd.R_alloc | apply Kd.R_drewN | apply Kd.R_drew)); exact HO_7.out) (Kd.R_base ho0) hb)
                        have n2_ := Aside0.mk (Kd.R_elder' (by (with_reducible repeat (first | apply Kd.R_alloc | apply Kd.R_drewN | apply Kd.R_drew)); exact HO_12.out) (Kd.R_base ho0) hb)
                        have n3_ := Aside0.mk (Kd.R_lower (Kd.R_new' (Kd.R_new' (Kd.R_new' ho0 (Kd.R_lt (by (with_reducible repeat (first | apply Kd.R_alloc | apply Kd.R_drewN | apply Kd.R_drew)); exact HO_6.out))) (Kd.R_lt (by (with_reducible repeat (first | apply Kd.R_alloc | apply Kd.R_drewN | apply Kd.R_drew)); exact HO_7.out))) (Kd.R_lt (by (with_reducible repeat (first | apply Kd.R_alloc | apply Kd.R_drewN | apply Kd.R_drew)); exact HO_12.out))) (below_size (by repeat (first | (with_reducible first | exact HB.out | apply below_alloc | apply pw_below_drewN | apply below_drew1) | exact HB.out))))
                        have n4_ := Aside0.mk (below_step (by repeat (first | (with_reducible first | exact HB.out | apply below_alloc | apply pw_below_drewN | apply below_drew1) | exact HB.out)) hb)
                        clear HO_6
                        clear HO_7
                        clear HO_12
                        clear HB
                        have HO_6 := n0_
                        have HO_7 := n1_
                        have HO_12 := n2_
                        have HO595 := n3_
                        have HB := n4_
                        clear n0_ n1_ n2_ n3_ n4_
                        (try clear hb)
                        (try clear hb2)
                        (try clear hk)
                        (try clear hi)
                        (try clear ho0)
                        obtain ⟨Ao48, co48, eo48⟩ := Kd.R_slice HO_12.out
                        (first | subst eo48 | (injection eo48 with f1_ f2_ f3_; have f4_ := f1_.symm; have f5_ := f3_.symm; clear f1_ f2_ f3_; subst f4_; subst f5_))
                        obtain ⟨Ao49, co49, eo49⟩ := Kd.R_slice HO595.out
                        (first | subst eo49 | (injection eo49 with f1_ f2_ f3_; have f4_ := f1_.symm; have f5_ := f3_.symm; clear f1_ f2_ f3_; subst f4_; subst f5_))
                        refine hK.out _ _ trivial (fun hHeld => ?_)
                        clear hK K
                        refine norm_ (a' := ?_) ?_ ?_
                        rotate_left
                        · show Act.put _ (some 69) _ = _
                          simp only [Act.put, List.setIfInBounds_toArray, List.set_cons_zero, List.set_cons_succ, i64_w, i32_w]
                          rfl
                        refine one_ (i := 2) (N := some 70) #[true, true, true, true, true, true, true, true, false, false, false] rfl rfl (one_of HT_.out (by kernel_rfl)) (by decide) (fun K hK => ?_)
                        refine goes_ Try.func23 (by kernel_rfl) rfl #[.slice Ao48 x12_2.length co48, .slice Ao49 t593.length co49] (by rfl) rfl rfl (by (try simp only [List.map_toArray, List.map_cons, List.map_nil]); first | done | rfl | (simp only [List.length_drop, List.length_take]; rfl)) ?_
                        with_reducible refine (koinelaw01_mul.calls kj32 _ _ x12_2 _ _ t593 t596 _ ?side1 ?side2 ?side3 ?side4 A40.out).mono ?_
                        (case side1 => repeat (first | exact (Kd.R_reads' HO_12.out).2.2 | (with_reducible refine Kd.C_alloc ?_ _) | (with_reducible refine Kd.C_drewN ?_ _) | (with_reducible refine Kd.C_drew ?_)))
                        (case side2 => exact (Kd.R_reads' HO_12.out).2.1)
                        (case side3 => repeat (first | exact (Kd.R_reads' HO595.out).2.2 | (with_reducible refine Kd.C_alloc ?_ _) | (with_reducible refine Kd.C_drewN ?_ _) | (with_reducible refine Kd.C_drew ?_)))
                        (case side4 => exact (Kd.R_reads' HO595.out).2.1)
                        rintro e w50 ⟨v597, rfl, ho0, hb⟩
                        refine ⟨_, rfl, ?_⟩
                        have n0_ := Aside0.mk (Kd.R_elder' (by (with_reducible repeat (first | apply Kd.R_alloc | apply Kd.R_drewN | apply Kd.R_drew)); exact HO_6.out) (Kd.R_base ho0) hb)
                        have n1_ := Aside0.mk (Kd.R_elder' (by (with_reducible repeat (first | apply Kd.R_alloc | apply Kd.R_drewN | apply Kd.R_drew)); exact HO_7.out) (Kd.R_base ho0) hb)
                        have n2_ := Aside0.mk (Kd.R_elder' (by (with_reducible repeat (first | apply Kd.R_alloc | apply Kd.R_drewN | apply Kd.R_drew)); exact HO_12.out) (Kd.R_base ho0) hb)
                        have n3_ := Aside0.mk (Kd.R_elder' (by (with_reducible repeat (first | apply Kd.R_alloc | apply Kd.R_drewN | apply Kd.R_drew)); exact HO595.out) (Kd.R_base ho0) hb)
                        have n4_ := Aside0.mk (Kd.R_lower (Kd.R_new' (Kd.R_new' (Kd.R_new' (Kd.R_new' ho0 (Kd.R_lt (by (with_reducible repeat (first | apply Kd.R_alloc | apply Kd.R_drewN | apply Kd.R_drew)); exact HO_6.out))) (Kd.R_lt (by (with_reducible repeat (first | apply Kd.R_alloc | apply Kd.R_drewN | apply Kd.R_drew)); exact HO_7.out))) (Kd.R_lt (by (with_reducible repeat (first | apply Kd.R_alloc | apply Kd.R_drewN | apply Kd.R_drew)); exact HO_12.out))) (Kd.R_lt (by (with_reducible repeat (first | apply Kd.R_alloc | apply Kd.R_drewN | apply Kd.R_drew)); exact HO595.out))) (below_size (by repeat (first | (with_reducible first | exact HB.out | apply below_alloc | apply pw_below_drewN | apply below_drew1) | exact HB.out))))
                        have n5_ := Aside0.mk (below_step (by repeat (first | (with_reducible first | exact HB.out | apply below_alloc | apply pw_below_drewN | apply below_drew1) | exact HB.out)) hb)
                        clear HO_6
                        clear HO_7
                        clear HO_12
                        clear HO595
                        clear HB
                        have HO_6 := n0_
                        have HO_7 := n1_
                        have HO_12 := n2_
                        have HO595 := n3_
                        have HO598 := n4_
                        have HB := n5_
                        clear n0_ n1_ n2_ n3_ n4_ n5_
                        (try clear hb)
                        (try clear hb2)
                        (try clear hk)
                        (try clear hi)
                        (try clear ho0)
                        refine hK.out _ _ trivial (fun hHeld => ?_)
                        clear hK K
                        refine norm_ (a' := ?_) ?_ ?_
                        rotate_left
                        · show Act.put _ (some 70) _ = _
                          simp only [Act.put, List.setIfInBounds_toArray, List.set_cons_zero, List.set_cons_succ, i64_w, i32_w]
                          rfl
                        refine one_ (i := 8) (N := some 76) #[true, true, true, true, true, true, true, true, true, false, false] rfl rfl (one_of HT_.out (by kernel_rfl)) (by decide) (fun K hK => ?_)
                        refine goes_ Try.func24 (by kernel_rfl) rfl #[.int .u64 (((bt t583 x13_2) - 48) % 256)] (by rfl) rfl rfl (by (try simp only [List.map_toArray, List.map_cons, List.map_nil]); first | done | rfl | exact congrArg (fun z => #[Value.int IntKind.u64 z]) (u64_of_u8 _) | (simp only [List.length_drop, List.length_take]; rfl)) ?_
                        with_reducible refine (natural_Of.calls kj32 (((bt t583 x13_2) - 48) % 256) t599 _ A44.out).mono ?_
                        rintro e w51 ⟨v600, rfl, ho0, hb⟩
                        refine ⟨_, rfl, ?_⟩
                        have n0_ := Aside0.mk (Kd.R_elder' (by (with_reducible repeat (first | apply Kd.R_alloc | apply Kd.R_drewN | apply Kd.R_drew)); exact HO_6.out) (Kd.R_base ho0) hb)
                        have n1_ := Aside0.mk (Kd.R_elder' (by (with_reducible repeat (first | apply Kd.R_alloc | apply Kd.R_drewN | apply Kd.R_drew)); exact HO_7.out) (Kd.R_base ho0) hb)
                        have n2_ := Aside0.mk (Kd.R_elder' (by (with_reducible repeat (first | apply Kd.R_alloc | apply Kd.R_drewN | apply Kd.R_drew)); exact HO_12.out) (Kd.R_base ho0) hb)
                        have n3_ := Aside0.mk (Kd.R_elder' (by (with_reducible repeat (first | apply Kd.R_alloc | apply Kd.R_drewN | apply Kd.R_drew)); exact HO595.out) (Kd.R_base ho0) hb)
                        have n4_ := Aside0.mk (Kd.R_elder' (by (with_reducible repeat (first | apply Kd.R_alloc | apply Kd.R_drewN | apply Kd.R_drew)); exact HO598.out) (Kd.R_base ho0) hb)
                        have n5_ := Aside0.mk (Kd.R_lower (Kd.R_new' (Kd.R_new' (Kd.R_new' (Kd.R_new' (Kd.R_new' ho0 (Kd.R_lt (by (with_reducible repeat (first | apply Kd.R_alloc | apply Kd.R_drewN | apply Kd.R_drew)); exact HO_6.out))) (Kd.R_lt (by (with_reducible repeat (first | apply Kd.R_alloc | apply Kd.R_drewN | apply Kd.R_drew)); exact HO_7.out))) (Kd.R_lt (by (with_reducible repeat (first | apply Kd.R_alloc | apply Kd.R_drewN | apply Kd.R_drew)); exact HO_12.out))) (Kd.R_lt (by (with_reducible repeat (first | apply Kd.R_alloc | apply Kd.R_drewN | apply Kd.R_drew)); exact HO595.out))) (Kd.R_lt (by (with_reducible repeat (first | apply Kd.R_alloc | apply Kd.R_drewN | apply Kd.R_drew)); exact HO598.out))) (below_size (by repeat (first | (with_reducible first | exact HB.out | apply below_alloc | apply pw_below_drewN | apply below_drew1) | exact HB.out))))
                        have n6_ := Aside0.mk (below_step (by repeat (first | (with_reducible first | exact HB.out | apply below_alloc | apply pw_below_drewN | apply below_drew1) | exact HB.out)) hb)
                        clear HO_6
                        clear HO_7
                        clear HO_12
                        clear HO595
                        clear HO598
                        clear HB
                        have HO_6 := n0_
                        have HO_7 := n1_
                        have HO_12 := n2_
                        have HO595 := n3_
                        have HO598 := n4_
                        have HO601 := n5_
                        have HB := n6_
                        clear n0_ n1_ n2_ n3_ n4_ n5_ n6_
                        (try clear hb)
                        (try clear hb2)
                        (try clear hk)
                        (try clear hi)
                        (try clear ho0)
                        obtain ⟨Ao52, co52, eo52⟩ := Kd.R_slice HO598.out
                        (first | subst eo52 | (injection eo52 with f1_ f2_ f3_; have f4_ := f1_.symm; have f5_ := f3_.symm; clear f1_ f2_ f3_; subst f4_; subst f5_))
                        obtain ⟨Ao53, co53, eo53⟩ := Kd.R_slice HO601.out
                        (first | subst eo53 | (injection eo53 with f1_ f2_ f3_; have f4_ := f1_.symm; have f5_ := f3_.symm; clear f1_ f2_ f3_; subst f4_; subst f5_))
                        refine hK.out _ _ trivial (fun hHeld => ?_)
                        clear hK K
                        refine norm_ (a' := ?_) ?_ ?_
                        rotate_left
                        · show Act.put _ (some 76) _ = _
                          simp only [Act.put, List.setIfInBounds_toArray, List.set_cons_zero, List.set_cons_succ, i64_w, i32_w]
                          rfl
                        refine one_ (i := 9) (N := some 77) #[true, true, true, true, true, true, true, true, true, true, false] rfl rfl (one_of HT_.out (by kernel_rfl)) (by decide) (fun K hK => ?_)
                        refine goes_ Try.func22 (by kernel_rfl) rfl #[.slice Ao52 t596.length co52, .slice Ao53 t599.length co53] (by rfl) rfl rfl (by (try simp only [List.map_toArray, List.map_cons, List.map_nil]); first | done | rfl | (simp only [List.length_drop, List.length_take]; rfl)) ?_
                        with_reducible refine (koinelaw01_add.calls kj32 _ _ t596 _ _ t599 t602 _ ?side1 ?side2 ?side3 ?side4 A45.out).mono ?_
                        (case side1 => repeat (first | exact (Kd.R_reads' HO598.out).2.2 | (with_reducible refine Kd.C_alloc ?_ _) | (with_reducible refine Kd.C_drewN ?_ _) | (with_reducible refine Kd.C_drew ?_)))
                        (case side2 => exact (Kd.R_reads' HO598.out).2.1)
                        (case side3 => repeat (first | exact (Kd.R_reads' HO601.out).2.2 | (with_reducible refine Kd.C_alloc ?_ _) | (with_reducible refine Kd.C_drewN ?_ _) | (with_reducible refine Kd.C_drew ?_)))
                        (case side4 => exact (Kd.R_reads' HO601.out).2.1)
                        rintro e w54 ⟨v603, rfl, ho0, hb⟩
                        refine ⟨_, rfl, ?_⟩
                        have n0_ := Aside0.mk (Kd.R_elder' (by (with_reducible repeat (first | apply Kd.R_alloc | apply Kd.R_drewN | apply Kd.R_drew)); exact HO_6.out) (Kd.R_base ho0) hb)
                        have n1_ := Aside0.mk (Kd.R_elder' (by (with_reducible repeat (first | apply Kd.R_alloc | apply Kd.R_drewN | apply Kd.R_drew)); exact HO_7.out) (Kd.R_base ho0) hb)
                        have n2_ := Aside0.mk (Kd.R_elder' (by (with_reducible repeat (first | apply Kd.R_alloc | apply Kd.R_drewN | apply Kd.R_drew)); exact HO_12.out) (Kd.R_base ho0) hb)
                        have n3_ := Aside0.mk (Kd.R_elder' (by (with_reducible repeat (first | apply Kd.R_alloc | apply Kd.R_drewN | apply Kd.R_drew)); exact HO595.out) (Kd.R_base ho0) hb)
                        have n4_ := Aside0.mk (Kd.R_elder' (by (with_reducible repeat (first | apply Kd.R_alloc | apply Kd.R_drewN | apply Kd.R_drew)); exact HO598.out) (Kd.R_base ho0) hb)
                        have n5_ := Aside0.mk (Kd.R_elder' (by (with_reducible repeat (first | apply Kd.R_alloc | apply Kd.R_drewN | apply Kd.R_drew)); exact HO601.out) (Kd.R_base ho0) hb)
                        have n6_ := Aside0.mk (Kd.R_lower (Kd.R_new' (Kd.R_new' (Kd.R_new' (Kd.R_new' (Kd.R_new' (Kd.R_new' ho0 (Kd.R_lt (by (with_reducible repeat (first | apply Kd.R_alloc | apply Kd.R_drewN | apply Kd.R_drew)); exact HO_6.out))) (Kd.R_lt (by (with_reducible repeat (first | apply Kd.R_alloc | apply Kd.R_drewN | apply Kd.R_drew)); exact HO_7.out))) (Kd.R_lt (by (with_reducible repeat (first | apply Kd.R_alloc | apply Kd.R_drewN | apply Kd.R_drew)); exact HO_12.out))) (Kd.R_lt (by (with_reducible repeat (first | apply Kd.R_alloc | apply Kd.R_drewN | apply Kd.R_drew)); exact HO595.out))) (Kd.R_lt (by (with_reducible repeat (first | apply Kd.R_alloc | apply Kd.R_drewN | apply Kd.R_drew)); exact HO598.out))) (Kd.R_lt (by (with_reducible repeat (first | apply Kd.R_alloc | apply Kd.R_drewN | apply Kd.R_drew)); exact HO601.out))) (below_size (by repeat (first | (with_reducible first | exact HB.out | apply below_alloc | apply pw_below_drewN | apply below_drew1) | exact HB.out))))
                        have n7_ := Aside0.mk (below_step (by repeat (first | (with_reducible first | exact HB.out | apply below_alloc | apply pw_below_drewN | apply below_drew1) | exact HB.out)) hb)
                        clear HO_6
                        clear HO_7
                        clear HO_12
                        clear HO595
                        clear HO598
                        clear HO601
                        clear HB
                        have HO_6 := n0_
                        have HO_7 := n1_
                        have HO_12 := n2_
                        have HO595 := n3_
                        have HO598 := n4_
                        have HO601 := n5_
                        have HO604 := n6_
                        have HB := n7_
                        clear n0_ n1_ n2_ n3_ n4_ n5_ n6_ n7_
                        (try clear hb)
                        (try clear hb2)
                        (try clear hk)
                        (try clear hi)
                        (try clear ho0)
                        refine hK.out _ _ trivial (fun hHeld => ?_)
                        clear hK K
                        refine norm_ (a' := ?_) ?_ ?_
                        rotate_left
                        · show Act.put _ (some 77) _ = _
                          simp only [Act.put, List.setIfInBounds_toArray, List.set_cons_zero, List.set_cons_succ, i64_w, i32_w]
                          rfl
                        refine pure_ (i := 10) (N := some 12) (v := ?_) (a' := ?_) #[true, true, true, true, true, true, true, true, true, true, true] rfl rfl (any_of HT_.out (by kernel_rfl)) (fun _ _ _ h => h) (Or.inl ⟨by rfl, ?_⟩) ?_ ?_
                        rotate_left
                        · intro w'
                          go_simp
                          with_reducible rfl
                        rotate_left
                        · simp only [Act.put, List.setIfInBounds_toArray, List.set_cons_zero, List.set_cons_succ, i64_w, i32_w]
                          rfl
                        refine done_ (done_of HT_.out (by kernel_rfl)) ?_
                        try go_wp2
                        go_roundg kj32
                        case measure => have := HJ8.out; have := HK2.out; have := HJ32.out; omega
                        case rel => exact ⟨(t602), (wrap64 (x13_2 + 1)), (by first | rfl | (simp; done) | (simp [*]; done)), H', ⟨by have := HJ8.out; have := HK2.out; have := HJ32.out; omega⟩, ⟨by (with_reducible repeat (first | apply Kd.R_alloc | apply Kd.R_drewN | apply Kd.R_drew)); exact Kd.R_mono HO_6.out (fun _ hk => ⟨hk.1.1.1.1.1, hk.2⟩)⟩, ⟨by (with_reducible repeat (first | apply Kd.R_alloc | apply Kd.R_drewN | apply Kd.R_drew)); exact Kd.R_mono HO_7.out (fun _ hk => ⟨hk.1.1.1.1.1, hk.2⟩)⟩, ⟨by (with_reducible repeat (first | apply Kd.R_alloc | apply Kd.R_drewN | apply Kd.R_drew)); exact Kd.R_mono HO604.out (fun _ hk => ⟨hk.1.1.1.1.1.2, hk.1.1.1.1.2⟩)⟩, ⟨by repeat (first | (with_reducible first | exact HB.out | apply below_alloc | apply pw_below_drewN | apply below_drew1) | exact HB.out)⟩⟩
                      · rw [if_neg c42] at H
                        exact absurd H (by simp)
                    · rw [if_neg c41] at H
                      exact absurd H (by simp)
            · rw [if_neg c32] at H
              have c32b0 : decide (x13_2 < (t583.size : Int)) = false := decide_eq_false c32
              clear c32
              have HC55 := Aside0.mk H
              clear H
              go_upto_region 17 with (fail)
              go_cut [94] (fun v94 wc => ∃ (kq : Nat) (x94_54 : Bool), v94 = .bool x94_54 ∧ Aside0 (koinelaw01_NaturalDecimal.j3 kq t576 t577 t580 t583 t584 x12_2 0 x94_54 = some r) ∧ Aside0 (kq ≤ k2) ∧ Aside0 (Kd.R (Kd.int .u32) 35 wc w.heap.size (fun k_ => some k_ ≠ ((.slice Ao15 t580.length co15) : Value).ownBlock ∧ some k_ ≠ (u12 : Value).ownBlock) (.slice Ao13 t577.length co13) t577) ∧ Aside0 (Kd.R (Kd.int .u32) 35 wc w.heap.size (fun k_ => some k_ ≠ ((.slice Ao13 t577.length co13) : Value).ownBlock ∧ some k_ ≠ (u12 : Value).ownBlock) (.slice Ao15 t580.length co15) t580) ∧ Aside0 (Kd.R (Kd.int .u32) 35 wc w.heap.size (fun k_ => some k_ ≠ ((.slice Ao13 t577.length co13) : Value).ownBlock ∧ some k_ ≠ ((.slice Ao15 t580.length co15) : Value).ownBlock) u12 x12_2) ∧ Aside0 (Below w.heap.size w wc))
              case first =>
                have H := HC55.out
                clear HC55
                by_cases c56 : (t583.size : Int) < (t584.size : Int)
                · rw [if_pos c56] at H
                  have c56b0 : decide ((t583.size : Int) < (t584.size : Int)) = true := decide_eq_true c56
                  have c56b1 : decide (t583.size < t584.size) = true := decide_eq_true (Int.ofNat_lt.mp c56)
                  clear c56
                  (first | rw [c56b0] | (simp only [i64_w, i32_w]; rw [c56b0]) | skip)
                  have H' := Aside0.mk H
                  clear H
                  go_wp2
                  go_meet
                  case rel => exact ⟨_, (true), (by first | rfl | (simp; done) | (simp [*]; done)), H', ⟨by have := HJ8.out; have := HK2.out; first | omega | exact Nat.le_refl _⟩, ⟨by (with_reducible repeat (first | apply Kd.R_alloc | apply Kd.R_drewN | apply Kd.R_drew)); exact HO_6.out⟩, ⟨by (with_reducible repeat (first | apply Kd.R_alloc | apply Kd.R_drewN | apply Kd.R_drew)); exact HO_7.out⟩, ⟨by (with_reducible repeat (first | apply Kd.R_alloc | apply Kd.R_drewN | apply Kd.R_drew)); exact HO_12.out⟩, ⟨by repeat (first | (with_reducible first | exact HB.out | apply below_alloc | apply pw_below_drewN | apply below_drew1) | exact HB.out)⟩⟩
                · rw [if_neg c56] at H
                  have c56b0 : decide ((t583.size : Int) < (t584.size : Int)) = false := decide_eq_false c56
                  have c56b1 : decide (t583.size < t584.size) = false := decide_eq_false (fun h => c56 (Int.ofNat_lt.mpr h))
                  clear c56
                  (first | rw [c56b0] | (simp only [i64_w, i32_w]; rw [c56b0]) | skip)
                  by_cases c57 : (t583.size : Int) = (t584.size : Int)
                  · rw [if_pos c57] at H
                    have c57b0 : ((t583.size : Int) == (t584.size : Int)) = true := beq_iff_eq.mpr c57
                    have c57b1 : ((t583.size : Int) != (t584.size : Int)) = false := bne_eq_false_iff_eq.mpr c57
                    have c57b2 : (t583.size == t584.size) = true := by first | simpa using c57 | (simp at c57 ⊢; omega)
                    clear c57
                    have H' := Aside0.mk H
                    clear H
                    go_wp2
                    go_meet
                    case rel => exact ⟨_, ((Op.bytesLess t583.toList t584.toList)), (by first | rfl | (simp; done) | (simp [*]; done)), H', ⟨by have := HJ8.out; have := HK2.out; first | omega | exact Nat.le_refl _⟩, ⟨by (with_reducible repeat (first | apply Kd.R_alloc | apply Kd.R_drewN | apply Kd.R_drew)); exact HO_6.out⟩, ⟨by (with_reducible repeat (first | apply Kd.R_alloc | apply Kd.R_drewN | apply Kd.R_drew)); exact HO_7.out⟩, ⟨by (with_reducible repeat (first | apply Kd.R_alloc | apply Kd.R_drewN | apply Kd.R_drew)); exact HO_12.out⟩, ⟨by repeat (first | (with_reducible first | exact HB.out | apply below_alloc | apply pw_below_drewN | apply below_drew1) | exact HB.out)⟩⟩
                  · rw [if_neg c57] at H
                    have c57b0 : ((t583.size : Int) == (t584.size : Int)) = false := beq_eq_false_iff_ne.mpr c57
                    have c57b1 : ((t583.size : Int) != (t584.size : Int)) = true := bne_iff_ne.mpr c57
                    have c57b2 : (t583.size == t584.size) = false := by first | simpa using c57 | (simp at c57 ⊢; omega)
                    have H' := Aside0.mk H
                    clear H
                    go_wp2
                    go_meet
                    case rel => exact ⟨_, (false), (by first | rfl | (simp; done) | (simp [*]; done)), H', ⟨by have := HJ8.out; have := HK2.out; first | omega | exact Nat.le_refl _⟩, ⟨by (with_reducible repeat (first | apply Kd.R_alloc | apply Kd.R_drewN | apply Kd.R_drew)); exact HO_6.out⟩, ⟨by (with_reducible repeat (first | apply Kd.R_alloc | apply Kd.R_drewN | apply Kd.R_drew)); exact HO_7.out⟩, ⟨by (with_reducible repeat (first | apply Kd.R_alloc | apply Kd.R_drewN | apply Kd.R_drew)); exact HO_12.out⟩, ⟨by repeat (first | (with_reducible first | exact HB.out | apply below_alloc | apply pw_below_drewN | apply below_drew1) | exact HB.out)⟩⟩
              case rest =>
                clear HC55
                try clear c1
                try clear c2
                try clear p2
                try clear q2
                try clear hx2
                try clear qi2
                try clear c3
                try clear p3
                try clear q3
                try clear hx3
                try clear c4
                try clear p4
                try clear q4
                try clear hx4
                try clear c5
                try clear p6
                try clear c9
                try clear c14
                try clear c15
                try clear c17
                try clear c18
                try clear c18b0
                try clear c18b1
                try clear c20
                try clear c21
                try clear c21b0
                try clear c21b1
                try clear c22
                try clear c23
                try clear c23b0
                try clear c23b1
                try clear c24
                try clear c24b0
                try clear c24b1
                try clear p25
                try clear q25
                try clear hx25
                try clear qi25
                try clear c29
                try clear c32
                try clear c32b0
                try clear c34
                try clear c34b0
                try clear p35
                try clear q35
                try clear hx35
                try clear c36
                try clear c36b0
                try clear p37
                try clear q37
                try clear hx37
                try clear c38
                try clear c41
                try clear c41b0
                try clear c42
                try clear c42b0
                try clear p43
                try clear q43
                try clear hx43
                try clear c56
                try clear c56b0
                try clear c56b1
                try clear c57
                try clear c57b0
                try clear c57b1
                try clear c57b2
                try clear p2
                try clear p25
                try clear p3
                try clear p35
                try clear p37
                try clear p43
                try clear q2
                try clear q25
                try clear q3
                try clear q35
                try clear q37
                try clear q43
                obtain ⟨kq, x94_54, rfl, HA, HJ54, HO_6, HO_7, HO_12, HB⟩ := hcut
                cases kq with
                | zero => exact absurd HA.out (by simp [koinelaw01_NaturalDecimal.j3])
                | succ kj54 =>
                  have H := HA.out
                  clear HA
                  simp only [koinelaw01_NaturalDecimal.j3] at H
                  by_cases c58 : x94_54 = true
                  · subst c58
                    have H1 : ((koineref01_Same.f kj54 x12_2 t577).bind fun t605 => (if t605 = true then ((natural_Compare.f kj54 t577 t580).bind fun t606 => (if t606 = (-1) then (some t576) else (some false))) else (some false))) = some r := by rw [if_pos rfl] at H; exact H
                    clear H
                    have H := H1
                    clear H1
                    replace H := Option.bind_eq_some_iff.mp H
                    obtain ⟨t605, A590, H⟩ := H
                    replace H : (if t605 = true then ((natural_Compare.f kj54 t577 t580).bind fun t606 => (if t606 = (-1) then (some t576) else (some false))) else (some false)) = some r := H
                    have A59 := Aside0.mk A590
                    clear A590
                    by_cases c60 : t605 = true
                    · subst c60
                      have H1 : ((natural_Compare.f kj54 t577 t580).bind fun t606 => (if t606 = (-1) then (some t576) else (some false))) = some r := by rw [if_pos rfl] at H; exact H
                      clear H
                      have H := H1
                      clear H1
                      replace H := Option.bind_eq_some_iff.mp H
                      obtain ⟨t606, A610, H⟩ := H
                      replace H : (if t606 = (-1) then (some t576) else (some false)) = some r := H
                      have A61 := Aside0.mk A610
                      clear A610
                      by_cases c62 : t606 = (-1)
                      · rw [if_pos c62] at H
                        have c62b0 : (t606 == (-1)) = true := beq_iff_eq.mpr c62
                        have c62b1 : (t606 != (-1)) = false := bne_eq_false_iff_eq.mpr c62
                        clear c62
                        obtain rfl := Option.some.inj H
                        obtain ⟨Ao63, co63, eo63⟩ := Kd.R_slice HO_12.out
                        subst eo63
                        go_wp2_with (first | ((with_reducible refine gate_callee (f := 19) rfl ?_); refine goesL_ (some 100) rfl rfl Try.func19 (by kernel_rfl) rfl #[.slice Ao63 x12_2.length co63, .slice Ao13 t577.length co13] rfl (by (try simp only [List.map_toArray, List.map_cons, List.map_nil]); first | done | rfl | (simp only [List.length_drop, List.length_take]; rfl)) ?_; (with_reducible refine (koineref01_Same.calls kj54 _ _ x12_2 _ _ t577 true _ ?side1 ?side2 ?side3 ?side4 A59.out).mono ?_); (case side1 => repeat (first | exact (Kd.R_reads' HO_12.out).2.2 | (with_reducible refine Kd.C_alloc ?_ _) | (with_reducible refine Kd.C_drewN ?_ _) | (with_reducible refine Kd.C_drew ?_))); (case side2 => exact (Kd.R_reads' HO_12.out).2.1); (case side3 => repeat (first | exact (Kd.R_reads' HO_6.out).2.2 | (with_reducible refine Kd.C_alloc ?_ _) | (with_reducible refine Kd.C_drewN ?_ _) | (with_reducible refine Kd.C_drew ?_))); (case side4 => exact (Kd.R_reads' HO_6.out).2.1); rintro e w' ⟨rfl, ⟨nd, rfl⟩⟩; refine ⟨_, rfl, ?_⟩) | (go_at_call 26; (with_reducible refine (natural_Compare.calls kj54 _ _ t577 _ _ t580 t606 _ ?side1 ?side2 ?side3 ?side4 A61.out).mono ?_); (case side1 => repeat (first | exact (Kd.R_reads' HO_6.out).2.2 | (with_reducible refine Kd.C_alloc ?_ _) | (with_reducible refine Kd.C_drewN ?_ _) | (with_reducible refine Kd.C_drew ?_))); (case side2 => exact (Kd.R_reads' HO_6.out).2.1); (case side3 => repeat (first | exact (Kd.R_reads' HO_7.out).2.2 | (with_reducible refine Kd.C_alloc ?_ _) | (with_reducible refine Kd.C_drewN ?_ _) | (with_reducible refine Kd.C_drew ?_))); (case side4 => exact (Kd.R_reads' HO_7.out).2.1); rintro e w' ⟨rfl, ⟨nd, rfl⟩⟩))
                        go_ret
                        exact ⟨by first | rfl | (simp [errW_none, errW_some] <;> rfl) | (simp [*, errW_none, errW_some] <;> rfl), by repeat (first | (with_reducible first | exact HB.out | apply below_alloc | apply pw_below_drewN | apply below_drew1) | exact HB.out)⟩
                      · rw [if_neg c62] at H
                        have c62b0 : (t606 == (-1)) = false := beq_eq_false_iff_ne.mpr c62
                        have c62b1 : (t606 != (-1)) = true := bne_iff_ne.mpr c62
                        obtain rfl := Option.some.inj H
                        obtain ⟨Ao64, co64, eo64⟩ := Kd.R_slice HO_12.out
                        subst eo64
                        go_wp2_with (first | ((with_reducible refine gate_callee (f := 19) rfl ?_); refine goesL_ (some 100) rfl rfl Try.func19 (by kernel_rfl) rfl #[.slice Ao64 x12_2.length co64, .slice Ao13 t577.length co13] rfl (by (try simp only [List.map_toArray, List.map_cons, List.map_nil]); first | done | rfl | (simp only [List.length_drop, List.length_take]; rfl)) ?_; (with_reducible refine (koineref01_Same.calls kj54 _ _ x12_2 _ _ t577 true _ ?side1 ?side2 ?side3 ?side4 A59.out).mono ?_); (case side1 => repeat (first | exact (Kd.R_reads' HO_12.out).2.2 | (with_reducible refine Kd.C_alloc ?_ _) | (with_reducible refine Kd.C_drewN ?_ _) | (with_reducible refine Kd.C_drew ?_))); (case side2 => exact (Kd.R_reads' HO_12.out).2.1); (case side3 => repeat (first | exact (Kd.R_reads' HO_6.out).2.2 | (with_reducible refine Kd.C_alloc ?_ _) | (with_reducible refine Kd.C_drewN ?_ _) | (with_reducible refine Kd.C_drew ?_))); (case side4 => exact (Kd.R_reads' HO_6.out).2.1); rintro e w' ⟨rfl, ⟨nd, rfl⟩⟩; refine ⟨_, rfl, ?_⟩) | (go_at_call 26; (with_reducible refine (natural_Compare.calls kj54 _ _ t577 _ _ t580 t606 _ ?side1 ?side2 ?side3 ?side4 A61.out).mono ?_); (case side1 => repeat (first | exact (Kd.R_reads' HO_6.out).2.2 | (with_reducible refine Kd.C_alloc ?_ _) | (with_reducible refine Kd.C_drewN ?_ _) | (with_reducible refine Kd.C_drew ?_))); (case side2 => exact (Kd.R_reads' HO_6.out).2.1); (case side3 => repeat (first | exact (Kd.R_reads' HO_7.out).2.2 | (with_reducible refine Kd.C_alloc ?_ _) | (with_reducible refine Kd.C_drewN ?_ _) | (with_reducible refine Kd.C_drew ?_))); (case side4 => exact (Kd.R_reads' HO_7.out).2.1); rintro e w' ⟨rfl, ⟨nd, rfl⟩⟩))
                        go_ret
                        exact ⟨by first | rfl | (simp [errW_none, errW_some] <;> rfl) | (simp [*, errW_none, errW_some] <;> rfl), by repeat (first | (with_reducible first | exact HB.out | apply below_alloc | apply pw_below_drewN | apply below_drew1) | exact HB.out)⟩
                    · replace c60 := Bool.eq_false_iff.mpr c60
                      subst c60
                      have H1 : (some false) = some r := by rw [if_neg (show ¬ (false = true) by decide)] at H; exact H
                      clear H
                      have H := H1
                      clear H1
                      obtain rfl := Option.some.inj H
                      obtain ⟨Ao65, co65, eo65⟩ := Kd.R_slice HO_12.out
                      subst eo65
                      go_wp2_with (first | ((with_reducible refine gate_callee (f := 19) rfl ?_); refine goesL_ (some 100) rfl rfl Try.func19 (by kernel_rfl) rfl #[.slice Ao65 x12_2.length co65, .slice Ao13 t577.length co13] rfl (by (try simp only [List.map_toArray, List.map_cons, List.map_nil]); first | done | rfl | (simp only [List.length_drop, List.length_take]; rfl)) ?_; (with_reducible refine (koineref01_Same.calls kj54 _ _ x12_2 _ _ t577 false _ ?side1 ?side2 ?side3 ?side4 A59.out).mono ?_); (case side1 => repeat (first | exact (Kd.R_reads' HO_12.out).2.2 | (with_reducible refine Kd.C_alloc ?_ _) | (with_reducible refine Kd.C_drewN ?_ _) | (with_reducible refine Kd.C_drew ?_))); (case side2 => exact (Kd.R_reads' HO_12.out).2.1); (case side3 => repeat (first | exact (Kd.R_reads' HO_6.out).2.2 | (with_reducible refine Kd.C_alloc ?_ _) | (with_reducible refine Kd.C_drewN ?_ _) | (with_reducible refine Kd.C_drew ?_))); (case side4 => exact (Kd.R_reads' HO_6.out).2.1); rintro e w' ⟨rfl, ⟨nd, rfl⟩⟩; refine ⟨_, rfl, ?_⟩))
                      go_ret
                      exact ⟨by first | rfl | (simp [errW_none, errW_some] <;> rfl) | (simp [*, errW_none, errW_some] <;> rfl), by repeat (first | (with_reducible first | exact HB.out | apply below_alloc | apply pw_below_drewN | apply below_drew1) | exact HB.out)⟩
                  · replace c58 := Bool.eq_false_iff.mpr c58
                    subst c58
                    have H1 : (if t583.toList = t584.toList then ((koineref01_Same.f kj54 x12_2 t577).bind fun t607 => (if t607 = true then ((natural_Compare.f kj54 t577 t580).bind fun t608 => (if t608 = 0 then (some t576) else (some false))) else (some false))) else ((koineref01_Same.f kj54 x12_2 t577).bind fun t609 => (if t609 = true then ((natural_Compare.f kj54 t577 t580).bind fun t610 => (if t610 = 1 then (some t576) else (some false))) else (some false)))) = some r := by rw [if_neg (show ¬ (false = true) by decide)] at H; exact H
                    clear H
                    have H := H1
                    clear H1
                    by_cases c66 : t583.toList = t584.toList
                    · rw [if_pos c66] at H
                      have c66b0 : (t583.toList == t584.toList) = true := beq_iff_eq.mpr c66
                      have c66b1 : (t583.toList != t584.toList) = false := bne_eq_false_iff_eq.mpr c66
                      clear c66
                      replace H := Option.bind_eq_some_iff.mp H
                      obtain ⟨t607, A670, H⟩ := H
                      replace H : (if t607 = true then ((natural_Compare.f kj54 t577 t580).bind fun t608 => (if t608 = 0 then (some t576) else (some false))) else (some false)) = some r := H
                      have A67 := Aside0.mk A670
                      clear A670
                      by_cases c68 : t607 = true
                      · subst c68
                        have H1 : ((natural_Compare.f kj54 t577 t580).bind fun t608 => (if t608 = 0 then (some t576) else (some false))) = some r := by rw [if_pos rfl] at H; exact H
                        clear H
                        have H := H1
                        clear H1
                        replace H := Option.bind_eq_some_iff.mp H
                        obtain ⟨t608, A690, H⟩ := H
                        replace H : (if t608 = 0 then (some t576) else (some false)) = some r := H
                        have A69 := Aside0.mk A690
                        clear A690
                        by_cases c70 : t608 = 0
                        · rw [if_pos c70] at H
                          have c70b0 : (t608 == 0) = true := beq_iff_eq.mpr c70
                          have c70b1 : (t608 != 0) = false := bne_eq_false_iff_eq.mpr c70
                          clear c70
                          obtain rfl := Option.some.inj H
                          obtain ⟨Ao71, co71, eo71⟩ := Kd.R_slice HO_12.out
                          subst eo71
                          go_wp2_with (first | ((with_reducible refine gate_callee (f := 19) rfl ?_); refine goesL_ (some 100) rfl rfl Try.func19 (by kernel_rfl) rfl #[.slice Ao71 x12_2.length co71, .slice Ao13 t577.length co13] rfl (by (try simp only [List.map_toArray, List.map_cons, List.map_nil]); first | done | rfl | (simp only [List.length_drop, List.length_take]; rfl)) ?_; (with_reducible refine (koineref01_Same.calls kj54 _ _ x12_2 _ _ t577 true _ ?side1 ?side2 ?side3 ?side4 A67.out).mono ?_); (case side1 => repeat (first | exact (Kd.R_reads' HO_12.out).2.2 | (with_reducible refine Kd.C_alloc ?_ _) | (with_reducible refine Kd.C_drewN ?_ _) | (with_reducible refine Kd.C_drew ?_))); (case side2 => exact (Kd.R_reads' HO_12.out).2.1); (case side3 => repeat (first | exact (Kd.R_reads' HO_6.out).2.2 | (with_reducible refine Kd.C_alloc ?_ _) | (with_reducible refine Kd.C_drewN ?_ _) | (with_reducible refine Kd.C_drew ?_))); (case side4 => exact (Kd.R_reads' HO_6.out).2.1); rintro e w' ⟨rfl, ⟨nd, rfl⟩⟩; refine ⟨_, rfl, ?_⟩) | (go_at_call 26; (with_reducible refine (natural_Compare.calls kj54 _ _ t577 _ _ t580 t608 _ ?side1 ?side2 ?side3 ?side4 A69.out).mono ?_); (case side1 => repeat (first | exact (Kd.R_reads' HO_6.out).2.2 | (with_reducible refine Kd.C_alloc ?_ _) | (with_reducible refine Kd.C_drewN ?_ _) | (with_reducible refine Kd.C_drew ?_))); (case side2 => exact (Kd.R_reads' HO_6.out).2.1); (case side3 => repeat (first | exact (Kd.R_reads' HO_7.out).2.2 | (with_reducible refine Kd.C_alloc ?_ _) | (with_reducible refine Kd.C_drewN ?_ _) | (with_reducible refine Kd.C_drew ?_))); (case side4 => exact (Kd.R_reads' HO_7.out).2.1); rintro e w' ⟨rfl, ⟨nd, rfl⟩⟩))
                          go_ret
                          exact ⟨by first | rfl | (simp [errW_none, errW_some] <;> rfl) | (simp [*, errW_none, errW_some] <;> rfl), by repeat (first | (with_reducible first | exact HB.out | apply below_alloc | apply pw_below_drewN | apply below_drew1) | exact HB.out)⟩
                        · rw [if_neg c70] at H
                          have c70b0 : (t608 == 0) = false := beq_eq_false_iff_ne.mpr c70
                          have c70b1 : (t608 != 0) = true := bne_iff_ne.mpr c70
                          obtain rfl := Option.some.inj H
                          obtain ⟨Ao72, co72, eo72⟩ := Kd.R_slice HO_12.out
                          subst eo72
                          go_wp2_with (first | ((with_reducible refine gate_callee (f := 19) rfl ?_); refine goesL_ (some 100) rfl rfl Try.func19 (by kernel_rfl) rfl #[.slice Ao72 x12_2.length co72, .slice Ao13 t577.length co13] rfl (by (try simp only [List.map_toArray, List.map_cons, List.map_nil]); first | done | rfl | (simp only [List.length_drop, List.length_take]; rfl)) ?_; (with_reducible refine (koineref01_Same.calls kj54 _ _ x12_2 _ _ t577 true _ ?side1 ?side2 ?side3 ?side4 A67.out).mono ?_); (case side1 => repeat (first | exact (Kd.R_reads' HO_12.out).2.2 | (with_reducible refine Kd.C_alloc ?_ _) | (with_reducible refine Kd.C_drewN ?_ _) | (with_reducible refine Kd.C_drew ?_))); (case side2 => exact (Kd.R_reads' HO_12.out).2.1); (case side3 => repeat (first | exact (Kd.R_reads' HO_6.out).2.2 | (with_reducible refine Kd.C_alloc ?_ _) | (with_reducible refine Kd.C_drewN ?_ _) | (with_reducible refine Kd.C_drew ?_))); (case side4 => exact (Kd.R_reads' HO_6.out).2.1); rintro e w' ⟨rfl, ⟨nd, rfl⟩⟩; refine ⟨_, rfl, ?_⟩) | (go_at_call 26; (with_reducible refine (natural_Compare.calls kj54 _ _ t577 _ _ t580 t608 _ ?side1 ?side2 ?side3 ?side4 A69.out).mono ?_); (case side1 => repeat (first | exact (Kd.R_reads' HO_6.out).2.2 | (with_reducible refine Kd.C_alloc ?_ _) | (with_reducible refine Kd.C_drewN ?_ _) | (with_reducible refine Kd.C_drew ?_))); (case side2 => exact (Kd.R_reads' HO_6.out).2.1); (case side3 => repeat (first | exact (Kd.R_reads' HO_7.out).2.2 | (with_reducible refine Kd.C_alloc ?_ _) | (with_reducible refine Kd.C_drewN ?_ _) | (with_reducible refine Kd.C_drew ?_))); (case side4 => exact (Kd.R_reads' HO_7.out).2.1); rintro e w' ⟨rfl, ⟨nd, rfl⟩⟩))
                          go_ret
                          exact ⟨by first | rfl | (simp [errW_none, errW_some] <;> rfl) | (simp [*, errW_none, errW_some] <;> rfl), by repeat (first | (with_reducible first | exact HB.out | apply below_alloc | apply pw_below_drewN | apply below_drew1) | exact HB.out)⟩
                      · replace c68 := Bool.eq_false_iff.mpr c68
                        subst c68
                        have H1 : (some false) = some r := by rw [if_neg (show ¬ (false = true) by decide)] at H; exact H
                        clear H
                        have H := H1
                        clear H1
                        obtain rfl := Option.some.inj H
                        obtain ⟨Ao73, co73, eo73⟩ := Kd.R_slice HO_12.out
                        subst eo73
                        go_wp2_with (first | ((with_reducible refine gate_callee (f := 19) rfl ?_); refine goesL_ (some 100) rfl rfl Try.func19 (by kernel_rfl) rfl #[.slice Ao73 x12_2.length co73, .slice Ao13 t577.length co13] rfl (by (try simp only [List.map_toArray, List.map_cons, List.map_nil]); first | done | rfl | (simp only [List.length_drop, List.length_take]; rfl)) ?_; (with_reducible refine (koineref01_Same.calls kj54 _ _ x12_2 _ _ t577 false _ ?side1 ?side2 ?side3 ?side4 A67.out).mono ?_); (case side1 => repeat (first | exact (Kd.R_reads' HO_12.out).2.2 | (with_reducible refine Kd.C_alloc ?_ _) | (with_reducible refine Kd.C_drewN ?_ _) | (with_reducible refine Kd.C_drew ?_))); (case side2 => exact (Kd.R_reads' HO_12.out).2.1); (case side3 => repeat (first | exact (Kd.R_reads' HO_6.out).2.2 | (with_reducible refine Kd.C_alloc ?_ _) | (with_reducible refine Kd.C_drewN ?_ _) | (with_reducible refine Kd.C_drew ?_))); (case side4 => exact (Kd.R_reads' HO_6.out).2.1); rintro e w' ⟨rfl, ⟨nd, rfl⟩⟩; refine ⟨_, rfl, ?_⟩))
                        go_ret
                        exact ⟨by first | rfl | (simp [errW_none, errW_some] <;> rfl) | (simp [*, errW_none, errW_some] <;> rfl), by repeat (first | (with_reducible first | exact HB.out | apply below_alloc | apply pw_below_drewN | apply below_drew1) | exact HB.out)⟩
                    · rw [if_neg c66] at H
                      have c66b0 : (t583.toList == t584.toList) = false := beq_eq_false_iff_ne.mpr c66
                      have c66b1 : (t583.toList != t584.toList) = true := bne_iff_ne.mpr c66
                      replace H := Option.bind_eq_some_iff.mp H
                      obtain ⟨t609, A740, H⟩ := H
                      replace H : (if t609 = true then ((natural_Compare.f kj54 t577 t580).bind fun t610 => (if t610 = 1 then (some t576) else (some false))) else (some false)) = some r := H
                      have A74 := Aside0.mk A740
                      clear A740
                      by_cases c75 : t609 = true
                      · subst c75
                        have H1 : ((natural_Compare.f kj54 t577 t580).bind fun t610 => (if t610 = 1 then (some t576) else (some false))) = some r := by rw [if_pos rfl] at H; exact H
                        clear H
                        have H := H1
                        clear H1
                        replace H := Option.bind_eq_some_iff.mp H
                        obtain ⟨t610, A760, H⟩ := H
                        replace H : (if t610 = 1 then (some t576) else (some false)) = some r := H
                        have A76 := Aside0.mk A760
                        clear A760
                        by_cases c77 : t610 = 1
                        · rw [if_pos c77] at H
                          have c77b0 : (t610 == 1) = true := beq_iff_eq.mpr c77
                          have c77b1 : (t610 != 1) = false := bne_eq_false_iff_eq.mpr c77
                          clear c77
                          obtain rfl := Option.some.inj H
                          obtain ⟨Ao78, co78, eo78⟩ := Kd.R_slice HO_12.out
                          subst eo78
                          go_wp2_with (first | ((with_reducible refine gate_callee (f := 19) rfl ?_); refine goesL_ (some 100) rfl rfl Try.func19 (by kernel_rfl) rfl #[.slice Ao78 x12_2.length co78, .slice Ao13 t577.length co13] rfl (by (try simp only [List.map_toArray, List.map_cons, List.map_nil]); first | done | rfl | (simp only [List.length_drop, List.length_take]; rfl)) ?_; (with_reducible refine (koineref01_Same.calls kj54 _ _ x12_2 _ _ t577 true _ ?side1 ?side2 ?side3 ?side4 A74.out).mono ?_); (case side1 => repeat (first | exact (Kd.R_reads' HO_12.out).2.2 | (with_reducible refine Kd.C_alloc ?_ _) | (with_reducible refine Kd.C_drewN ?_ _) | (with_reducible refine Kd.C_drew ?_))); (case side2 => exact (Kd.R_reads' HO_12.out).2.1); (case side3 => repeat (first | exact (Kd.R_reads' HO_6.out).2.2 | (with_reducible refine Kd.C_alloc ?_ _) | (with_reducible refine Kd.C_drewN ?_ _) | (with_reducible refine Kd.C_drew ?_))); (case side4 => exact (Kd.R_reads' HO_6.out).2.1); rintro e w' ⟨rfl, ⟨nd, rfl⟩⟩; refine ⟨_, rfl, ?_⟩) | (go_at_call 26; (with_reducible refine (natural_Compare.calls kj54 _ _ t577 _ _ t580 t610 _ ?side1 ?side2 ?side3 ?side4 A76.out).mono ?_); (case side1 => repeat (first | exact (Kd.R_reads' HO_6.out).2.2 | (with_reducible refine Kd.C_alloc ?_ _) | (with_reducible refine Kd.C_drewN ?_ _) | (with_reducible refine Kd.C_drew ?_))); (case side2 => exact (Kd.R_reads' HO_6.out).2.1); (case side3 => repeat (first | exact (Kd.R_reads' HO_7.out).2.2 | (with_reducible refine Kd.C_alloc ?_ _) | (with_reducible refine Kd.C_drewN ?_ _) | (with_reducible refine Kd.C_drew ?_))); (case side4 => exact (Kd.R_reads' HO_7.out).2.1); rintro e w' ⟨rfl, ⟨nd, rfl⟩⟩))
                          go_ret
                          exact ⟨by first | rfl | (simp [errW_none, errW_some] <;> rfl) | (simp [*, errW_none, errW_some] <;> rfl), by repeat (first | (with_reducible first | exact HB.out | apply below_alloc | apply pw_below_drewN | apply below_drew1) | exact HB.out)⟩
                        · rw [if_neg c77] at H
                          have c77b0 : (t610 == 1) = false := beq_eq_false_iff_ne.mpr c77
                          have c77b1 : (t610 != 1) = true := bne_iff_ne.mpr c77
                          obtain rfl := Option.some.inj H
                          obtain ⟨Ao79, co79, eo79⟩ := Kd.R_slice HO_12.out
                          subst eo79
                          go_wp2_with (first | ((with_reducible refine gate_callee (f := 19) rfl ?_); refine goesL_ (some 100) rfl rfl Try.func19 (by kernel_rfl) rfl #[.slice Ao79 x12_2.length co79, .slice Ao13 t577.length co13] rfl (by (try simp only [List.map_toArray, List.map_cons, List.map_nil]); first | done | rfl | (simp only [List.length_drop, List.length_take]; rfl)) ?_; (with_reducible refine (koineref01_Same.calls kj54 _ _ x12_2 _ _ t577 true _ ?side1 ?side2 ?side3 ?side4 A74.out).mono ?_); (case side1 => repeat (first | exact (Kd.R_reads' HO_12.out).2.2 | (with_reducible refine Kd.C_alloc ?_ _) | (with_reducible refine Kd.C_drewN ?_ _) | (with_reducible refine Kd.C_drew ?_))); (case side2 => exact (Kd.R_reads' HO_12.out).2.1); (case side3 => repeat (first | exact (Kd.R_reads' HO_6.out).2.2 | (with_reducible refine Kd.C_alloc ?_ _) | (with_reducible refine Kd.C_drewN ?_ _) | (with_reducible refine Kd.C_drew ?_))); (case side4 => exact (Kd.R_reads' HO_6.out).2.1); rintro e w' ⟨rfl, ⟨nd, rfl⟩⟩; refine ⟨_, rfl, ?_⟩) | (go_at_call 26; (with_reducible refine (natural_Compare.calls kj54 _ _ t577 _ _ t580 t610 _ ?side1 ?side2 ?side3 ?side4 A76.out).mono ?_); (case side1 => repeat (first | exact (Kd.R_reads' HO_6.out).2.2 | (with_reducible refine Kd.C_alloc ?_ _) | (with_reducible refine Kd.C_drewN ?_ _) | (with_reducible refine Kd.C_drew ?_))); (case side2 => exact (Kd.R_reads' HO_6.out).2.1); (case side3 => repeat (first | exact (Kd.R_reads' HO_7.out).2.2 | (with_reducible refine Kd.C_alloc ?_ _) | (with_reducible refine Kd.C_drewN ?_ _) | (with_reducible refine Kd.C_drew ?_))); (case side4 => exact (Kd.R_reads' HO_7.out).2.1); rintro e w' ⟨rfl, ⟨nd, rfl⟩⟩))
                          go_ret
                          exact ⟨by first | rfl | (simp [errW_none, errW_some] <;> rfl) | (simp [*, errW_none, errW_some] <;> rfl), by repeat (first | (with_reducible first | exact HB.out | apply below_alloc | apply pw_below_drewN | apply below_drew1) | exact HB.out)⟩
                      · replace c75 := Bool.eq_false_iff.mpr c75
                        subst c75
                        have H1 : (some false) = some r := by rw [if_neg (show ¬ (false = true) by decide)] at H; exact H
                        clear H
                        have H := H1
                        clear H1
                        obtain rfl := Option.some.inj H
                        obtain ⟨Ao80, co80, eo80⟩ := Kd.R_slice HO_12.out
                        subst eo80
                        go_wp2_with (first | ((with_reducible refine gate_callee (f := 19) rfl ?_); refine goesL_ (some 100) rfl rfl Try.func19 (by kernel_rfl) rfl #[.slice Ao80 x12_2.length co80, .slice Ao13 t577.length co13] rfl (by (try simp only [List.map_toArray, List.map_cons, List.map_nil]); first | done | rfl | (simp only [List.length_drop, List.length_take]; rfl)) ?_; (with_reducible refine (koineref01_Same.calls kj54 _ _ x12_2 _ _ t577 false _ ?side1 ?side2 ?side3 ?side4 A74.out).mono ?_); (case side1 => repeat (first | exact (Kd.R_reads' HO_12.out).2.2 | (with_reducible refine Kd.C_alloc ?_ _) | (with_reducible refine Kd.C_drewN ?_ _) | (with_reducible refine Kd.C_drew ?_))); (case side2 => exact (Kd.R_reads' HO_12.out).2.1); (case side3 => repeat (first | exact (Kd.R_reads' HO_6.out).2.2 | (with_reducible refine Kd.C_alloc ?_ _) | (with_reducible refine Kd.C_drewN ?_ _) | (with_reducible refine Kd.C_drew ?_))); (case side4 => exact (Kd.R_reads' HO_6.out).2.1); rintro e w' ⟨rfl, ⟨nd, rfl⟩⟩; refine ⟨_, rfl, ?_⟩))
                        go_ret
                        exact ⟨by first | rfl | (simp [errW_none, errW_some] <;> rfl) | (simp [*, errW_none, errW_some] <;> rfl), by repeat (first | (with_reducible first | exact HB.out | apply below_alloc | apply pw_below_drewN | apply below_drew1) | exact HB.out)⟩

/-- THE ONE PURE STATEMENT of koinelaw01_NaturalDecimal: yours. -/
def koinelaw01_NaturalDecimal.Pure : Prop := ∀ (l0 : List Int) (l1 : List Int), l0.length ≤ maxLen → l0.length * 4 ≤ 140737488351232 → (∀ x ∈ l0, (Lit.int .u32 x).wf = true) → l1.length ≤ maxLen → l1.length * 4 ≤ 140737488351232 → (∀ x ∈ l1, (Lit.int .u32 x).wf = true) → ∃ k, koinelaw01_NaturalDecimal.f k l0 l1 = some true
theorem koinelaw01_NaturalDecimal.walk (P : koinelaw01_NaturalDecimal.Pure) (a0 : Option Addr) (len0 cap0 : Nat) (z0 : List Int) (a1 : Option Addr) (len1 cap1 : Nat) (z1 : List Int) (w : World) (w0 : (a0 = none ∧ len0 = 0 ∧ cap0 = 0 ∧ z0 = []) ∨ ∃ x, a0 = some x ∧ len0 ≤ cap0 ∧ cap0 ≤ maxLen ∧ z0.length = cap0 ∧ (∀ i, i < z0.length → w.cell? (x.add i) = some (.int .u32 (z0.getD i 0))) ∧ ∀ n ∈ z0, (Lit.int .u32 n).wf = true) (y0 : len0 * 4 ≤ 140737488351232) (w1 : (a1 = none ∧ len1 = 0 ∧ cap1 = 0 ∧ z1 = []) ∨ ∃ x, a1 = some x ∧ len1 ≤ cap1 ∧ cap1 ≤ maxLen ∧ z1.length = cap1 ∧ (∀ i, i < z1.length → w.cell? (x.add i) = some (.int .u32 (z1.getD i 0))) ∧ ∀ n ∈ z1, (Lit.int .u32 n).wf = true) (y1 : len1 * 4 ≤ 140737488351232) :
    Calls Try.prog 9 #[.slice a0 len0 cap0, .slice a1 len1 cap1] w fun e w' => e = .returned (.bool true) ∧ Below w.heap.size w w' := by
  obtain ⟨l0, rfl, hr0, hm0, hw0, hc0⟩ := ReadsInt.ofRowC w0
  obtain ⟨l1, rfl, hr1, hm1, hw1, hc1⟩ := ReadsInt.ofRowC w1
  obtain ⟨k, h⟩ := P l0 l1 hm0 y0 hw0 hm1 y1 hw1
  refine (koinelaw01_NaturalDecimal.calls k _ _ l0 _ _ l1 true w (Kd.C_of_reads (d := (0 : Int)) (h1 := fun _ => rfl) hr0) hc0 (Kd.C_of_reads (d := (0 : Int)) (h1 := fun _ => rfl) hr1) hc1 h).mono ?_
  rintro e w' ⟨rfl, hd⟩
  exact ⟨rfl, hd⟩


end Go.Proofs.Ytpalpikenkkhlaa.Nt
