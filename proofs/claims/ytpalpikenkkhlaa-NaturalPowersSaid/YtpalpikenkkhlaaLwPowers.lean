/- The machine side of the laws on natural numbers: for each Go function a Lean function with the same answers, and the walk that shows it. It began as the print of print.sh (turned to one namespace, copy told as a law of our own, mended); Lean checks it. -/
import Derived.Test.YtpalpikenkkhlaaNtF
import Derived.Test.YtpalpikenkkhlaaNtJ
namespace Go.Proofs.Ytpalpikenkkhlaa.Nt
open Go.RowKit Go.Proofs.YtpalpikenkkhlaaW.PrintWords Go.Proofs.YtpalpikenkkhlaaW.PrintLast Go.Proofs.YtpalpikenkkhlaaW.PrintMore
attribute [local go_sem] max2_int min2_int max_two min_two max_three min_three max_four min_four   -- for this text's walks alone
set_option linter.unusedVariables false
set_option linter.unusedSimpArgs false

/-! ### koinelaw01_NaturalPowers: function 6 -/
mutual
def koinelaw01_NaturalPowers.l0 : Nat → Bool → Int → List Int → Int → Option (Bool)
  | 0, _, _, _, _ => none
  | k + 1, x3, x4, x5, x6 => if x6 < x4 then ((natural_Of.f k 10).bind fun t495 => ((koinelaw01_mul.f k x5 t495).bind fun t498 => (koinelaw01_NaturalPowers.l0 k x3 x4 t498 (wrap64 (x6 + 1))))) else ((natural_Text.f k x5).bind fun t501 => ((natural_Of.f k 1).bind fun t502 => ((natural_Sub.f k x5 t502).bind fun bt505 => ((natural_Text.f k bt505.1).bind fun t509 => (if (t501.size : Int) = (wrap64 (x4 + 1)) then (if 0 < (t501.size : Int) then (if (bt t501 0) = 49 then (if bt505.2 = 0 then (if x4 = 0 then (if t509.toList = ([48] : List UInt8) then (if x4 > 0 then (koinelaw01_NaturalPowers.j1 k x3 x4 t501 t509 ((t509.size : Int) != x4)) else (koinelaw01_NaturalPowers.j1 k x3 x4 t501 t509 false)) else (koinelaw01_NaturalPowers.j1 k x3 x4 t501 t509 true)) else (if x4 > 0 then (koinelaw01_NaturalPowers.j1 k x3 x4 t501 t509 ((t509.size : Int) != x4)) else (koinelaw01_NaturalPowers.j1 k x3 x4 t501 t509 false))) else (koinelaw01_NaturalPowers.j1 k x3 x4 t501 t509 true)) else (koinelaw01_NaturalPowers.j1 k x3 x4 t501 t509 true)) else (none)) else (koinelaw01_NaturalPowers.j1 k x3 x4 t501 t509 true))))))
def koinelaw01_NaturalPowers.j1 : Nat → Bool → Int → ByteArray → ByteArray → Bool → Option (Bool)
  | 0, _, _, _, _, _ => none
  | k + 1, x3, x4, x7, x10, x66 => if x66 = true then (some false) else (koinelaw01_NaturalPowers.l1 k x3 x4 x7 x10 0)
def koinelaw01_NaturalPowers.l1 : Nat → Bool → Int → ByteArray → ByteArray → Int → Option (Bool)
  | 0, _, _, _, _, _ => none
  | k + 1, x3, x4, x7, x10, x11 => if x11 < x4 then (if 0 ≤ (wrap64 (x11 + 1)) then (if (wrap64 (x11 + 1)) < (x7.size : Int) then (if (bt x7 (wrap64 (x11 + 1))) = 48 then (if 0 ≤ x11 then (if x11 < (x10.size : Int) then (if (bt x10 x11) = 57 then (koinelaw01_NaturalPowers.l1 k x3 x4 x7 x10 (wrap64 (x11 + 1))) else (some false)) else (none)) else (none)) else (some false)) else (none)) else (none)) else (some x3)
end
def koinelaw01_NaturalPowers.f (k : Nat) (a0 : Int) : Option (Bool) := (koinelaw01_sanity.f k).bind fun t491 => ((natural_Of.f k 1).bind fun t492 => (koinelaw01_NaturalPowers.l0 k t491 (Int.tmod (wrap64 (a0)) 201) t492 0))
theorem koinelaw01_NaturalPowers.mono_l : ∀ k, (∀ y0 y1 y2 y3, LeO (koinelaw01_NaturalPowers.l0 k y0 y1 y2 y3) (koinelaw01_NaturalPowers.l0 (k + 1) y0 y1 y2 y3)) ∧ (∀ y0 y1 y2 y3 y4, LeO (koinelaw01_NaturalPowers.j1 k y0 y1 y2 y3 y4) (koinelaw01_NaturalPowers.j1 (k + 1) y0 y1 y2 y3 y4)) ∧ (∀ y0 y1 y2 y3 y4, LeO (koinelaw01_NaturalPowers.l1 k y0 y1 y2 y3 y4) (koinelaw01_NaturalPowers.l1 (k + 1) y0 y1 y2 y3 y4))
  | 0 => ⟨fun _ _ _ _ r h => by simp [koinelaw01_NaturalPowers.l0] at h, fun _ _ _ _ _ r h => by simp [koinelaw01_NaturalPowers.j1] at h, fun _ _ _ _ _ r h => by simp [koinelaw01_NaturalPowers.l1] at h⟩
  | k + 1 => by
    obtain ⟨ih0, ih1, ih2⟩ := koinelaw01_NaturalPowers.mono_l k
    refine ⟨?_, ?_, ?_⟩
    · intro y0 y1 y2 y3
      unfold koinelaw01_NaturalPowers.l0
      repeat' first
      | (with_reducible exact ih0 _ _ _ _)
      | (with_reducible exact ih1 _ _ _ _ _)
      | (with_reducible exact ih2 _ _ _ _ _)
      | (with_reducible exact koinelaw01_mul.mono _ _ _)
      | (with_reducible exact koinelaw01_sanity.mono _)
      | (with_reducible exact natural_Of.mono _ _)
      | (with_reducible exact natural_Sub.mono _ _ _)
      | (with_reducible exact natural_Text.mono _ _)
      | (with_reducible exact LeO.refl _)
      | (with_reducible exact LeO.none _)
      | (with_reducible refine LeO.ite ?_ ?_)
      | (with_reducible refine LeO.bind ?_ (fun _ => ?_))
      | exact ih0 _ _ _ _
      | exact ih1 _ _ _ _ _
      | exact ih2 _ _ _ _ _
      | exact koinelaw01_mul.mono _ _ _
      | exact koinelaw01_sanity.mono _
      | exact natural_Of.mono _ _
      | exact natural_Sub.mono _ _ _
      | exact natural_Text.mono _ _
      | exact LeO.none _
      | refine LeO.ite ?_ ?_
      | refine LeO.bind ?_ (fun _ => ?_)
    · intro y0 y1 y2 y3 y4
      unfold koinelaw01_NaturalPowers.j1
      repeat' first
      | (with_reducible exact ih0 _ _ _ _)
      | (with_reducible exact ih1 _ _ _ _ _)
      | (with_reducible exact ih2 _ _ _ _ _)
      | (with_reducible exact koinelaw01_mul.mono _ _ _)
      | (with_reducible exact koinelaw01_sanity.mono _)
      | (with_reducible exact natural_Of.mono _ _)
      | (with_reducible exact natural_Sub.mono _ _ _)
      | (with_reducible exact natural_Text.mono _ _)
      | (with_reducible exact LeO.refl _)
      | (with_reducible exact LeO.none _)
      | (with_reducible refine LeO.ite ?_ ?_)
      | (with_reducible refine LeO.bind ?_ (fun _ => ?_))
      | exact ih0 _ _ _ _
      | exact ih1 _ _ _ _ _
      | exact ih2 _ _ _ _ _
      | exact koinelaw01_mul.mono _ _ _
      | exact koinelaw01_sanity.mono _
      | exact natural_Of.mono _ _
      | exact natural_Sub.mono _ _ _
      | exact natural_Text.mono _ _
      | exact LeO.none _
      | refine LeO.ite ?_ ?_
      | refine LeO.bind ?_ (fun _ => ?_)
    · intro y0 y1 y2 y3 y4
      unfold koinelaw01_NaturalPowers.l1
      repeat' first
      | (with_reducible exact ih0 _ _ _ _)
      | (with_reducible exact ih1 _ _ _ _ _)
      | (with_reducible exact ih2 _ _ _ _ _)
      | (with_reducible exact koinelaw01_mul.mono _ _ _)
      | (with_reducible exact koinelaw01_sanity.mono _)
      | (with_reducible exact natural_Of.mono _ _)
      | (with_reducible exact natural_Sub.mono _ _ _)
      | (with_reducible exact natural_Text.mono _ _)
      | (with_reducible exact LeO.refl _)
      | (with_reducible exact LeO.none _)
      | (with_reducible refine LeO.ite ?_ ?_)
      | (with_reducible refine LeO.bind ?_ (fun _ => ?_))
      | exact ih0 _ _ _ _
      | exact ih1 _ _ _ _ _
      | exact ih2 _ _ _ _ _
      | exact koinelaw01_mul.mono _ _ _
      | exact koinelaw01_sanity.mono _
      | exact natural_Of.mono _ _
      | exact natural_Sub.mono _ _ _
      | exact natural_Text.mono _ _
      | exact LeO.none _
      | refine LeO.ite ?_ ?_
      | refine LeO.bind ?_ (fun _ => ?_)
theorem koinelaw01_NaturalPowers.mono : ∀ a0 k, LeO (koinelaw01_NaturalPowers.f k a0) (koinelaw01_NaturalPowers.f (k + 1) a0) := by
  intro a0 k
  obtain ⟨ih0, ih1, ih2⟩ := koinelaw01_NaturalPowers.mono_l k
  unfold koinelaw01_NaturalPowers.f
  repeat' first
      | (with_reducible exact ih0 _ _ _ _)
      | (with_reducible exact ih1 _ _ _ _ _)
      | (with_reducible exact ih2 _ _ _ _ _)
      | (with_reducible exact koinelaw01_mul.mono _ _ _)
      | (with_reducible exact koinelaw01_sanity.mono _)
      | (with_reducible exact natural_Of.mono _ _)
      | (with_reducible exact natural_Sub.mono _ _ _)
      | (with_reducible exact natural_Text.mono _ _)
      | (with_reducible exact LeO.refl _)
      | (with_reducible exact LeO.none _)
      | (with_reducible refine LeO.ite ?_ ?_)
      | (with_reducible refine LeO.bind ?_ (fun _ => ?_))
      | exact ih0 _ _ _ _
      | exact ih1 _ _ _ _ _
      | exact ih2 _ _ _ _ _
      | exact koinelaw01_mul.mono _ _ _
      | exact koinelaw01_sanity.mono _
      | exact natural_Of.mono _ _
      | exact natural_Sub.mono _ _ _
      | exact natural_Text.mono _ _
      | exact LeO.none _
      | refine LeO.ite ?_ ?_
      | refine LeO.bind ?_ (fun _ => ?_)
set_option maxHeartbeats 8000000 in
set_option maxRecDepth 100000 in
theorem koinelaw01_NaturalPowers.calls (k : Nat) (a0 : Int) (r : Bool) (w : World) (h : koinelaw01_NaturalPowers.f k a0 = some r) :
    Calls Try.prog 6 #[.int .u8 a0] w fun e w' => e = .returned (.bool r) ∧ Below w.heap.size w w' := by
  have HB := Aside0.mk (Below.refl w.heap.size w)
  have H : ((koinelaw01_sanity.f k).bind fun t491 => ((natural_Of.f k 1).bind fun t492 => (koinelaw01_NaturalPowers.l0 k t491 (Int.tmod (wrap64 (a0)) 201) t492 0))) = some r := h
  clear h
  replace H := Option.bind_eq_some_iff.mp H
  obtain ⟨t491, A20, H⟩ := H
  replace H : ((natural_Of.f k 1).bind fun t492 => (koinelaw01_NaturalPowers.l0 k t491 (Int.tmod (wrap64 (a0)) 201) t492 0)) = some r := H
  have A2 := Aside0.mk A20
  clear A20
  replace H := Option.bind_eq_some_iff.mp H
  obtain ⟨t492, A30, H⟩ := H
  replace H : (koinelaw01_NaturalPowers.l0 k t491 (Int.tmod (wrap64 (a0)) 201) t492 0) = some r := H
  have A3 := Aside0.mk A30
  clear A30
  have H' := Aside0.mk H
  clear H
  go_enter Try.func6, Try.ntmps6
  go_wp2_with (first | ((with_reducible refine gate_callee (f := 14) rfl ?_); refine goesL_ (some 12) rfl rfl Try.func14 (by kernel_rfl) rfl #[] rfl (by (try simp only [List.map_toArray, List.map_cons, List.map_nil]); first | done | rfl | (simp only [List.length_drop, List.length_take]; rfl)) ?_; (with_reducible refine (koinelaw01_sanity.calls k  t491 _ A2.out).mono ?_); rintro e w4 ⟨rfl, hb⟩; refine ⟨_, rfl, ?_⟩; have n0_ := Aside0.mk (below_step (by repeat (first | (with_reducible first | exact HB.out | apply below_alloc | apply pw_below_drewN | apply below_drew1) | exact HB.out)) hb); clear HB; have HB := n0_; clear n0_; (try clear hb); (try clear hb2); (try clear hk); (try clear hi)) | ((with_reducible refine gate_callee (f := 24) rfl ?_); refine goesL_ (some 16) rfl rfl Try.func24 (by kernel_rfl) rfl #[.int .u64 1] rfl (by (try simp only [List.map_toArray, List.map_cons, List.map_nil]); first | done | rfl | (simp only [List.length_drop, List.length_take]; rfl)) ?_; (with_reducible refine (natural_Of.calls k 1 t492 _ A3.out).mono ?_); rintro e w5 ⟨v493, rfl, ho0, hb⟩; refine ⟨_, rfl, ?_⟩; have n0_ := Aside0.mk (Kd.R_lower ho0 (below_size (by repeat (first | (with_reducible first | exact HB.out | apply below_alloc | apply pw_below_drewN | apply below_drew1) | exact HB.out)))); have n1_ := Aside0.mk (below_step (by repeat (first | (with_reducible first | exact HB.out | apply below_alloc | apply pw_below_drewN | apply below_drew1) | exact HB.out)) hb); clear HB; have HO494 := n0_; have HB := n1_; clear n0_ n1_; (try clear hb); (try clear hb2); (try clear hk); (try clear hi); (try clear ho0)))
  go_loopg [5, 6] k (fun kq v5 v6 w' => ∃ (x5_1 : List Int) (x6_1 : Int), v6 = .int .i64 x6_1 ∧ Aside0 (koinelaw01_NaturalPowers.l0 kq t491 (Int.tmod (wrap64 (a0)) 201) x5_1 x6_1 = some r) ∧ Aside0 (kq ≤ k) ∧ Aside0 (Kd.R (Kd.int .u32) 35 w' w.heap.size (fun _ => True) v5 x5_1) ∧ Aside0 (Below w.heap.size w w'))
  case atStart => exact ⟨(t492), (0), (by first | rfl | (simp; done) | (simp [*]; done)), H', ⟨Nat.le_refl _⟩, ⟨by (with_reducible repeat (first | apply Kd.R_alloc | apply Kd.R_drewN | apply Kd.R_drew)); exact HO494.out⟩, ⟨by repeat (first | (with_reducible first | exact HB.out | apply below_alloc | apply pw_below_drewN | apply below_drew1) | exact HB.out)⟩⟩
  case round =>
    clear H'
    try clear c1
    try clear c2
    try clear p2
    obtain ⟨x5_1, x6_1, rfl, HA, HK1, HO_5, HB⟩ := hrel
    cases gk with
    | zero => exact absurd HA.out (by simp [koinelaw01_NaturalPowers.l0])
    | succ k1 =>
      have H := HA.out
      clear HA
      simp only [koinelaw01_NaturalPowers.l0] at H
      by_cases c6 : x6_1 < (Int.tmod (wrap64 (a0)) 201)
      · rw [if_pos c6] at H
        have c6b0 : decide (x6_1 < (Int.tmod (wrap64 (a0)) 201)) = true := decide_eq_true c6
        clear c6
        replace H := Option.bind_eq_some_iff.mp H
        obtain ⟨t495, A70, H⟩ := H
        replace H : ((koinelaw01_mul.f k1 x5_1 t495).bind fun t498 => (koinelaw01_NaturalPowers.l0 k1 t491 (Int.tmod (wrap64 (a0)) 201) t498 (wrap64 (x6_1 + 1)))) = some r := H
        have A7 := Aside0.mk A70
        clear A70
        replace H := Option.bind_eq_some_iff.mp H
        obtain ⟨t498, A80, H⟩ := H
        replace H : (koinelaw01_NaturalPowers.l0 k1 t491 (Int.tmod (wrap64 (a0)) 201) t498 (wrap64 (x6_1 + 1))) = some r := H
        have A8 := Aside0.mk A80
        clear A80
        have H' := Aside0.mk H
        clear H
        go_wp2_with (first | ((with_reducible refine gate_callee (f := 24) rfl ?_); refine goesL_ (some 23) rfl rfl Try.func24 (by kernel_rfl) rfl #[.int .u64 10] rfl (by (try simp only [List.map_toArray, List.map_cons, List.map_nil]); first | done | rfl | (simp only [List.length_drop, List.length_take]; rfl)) ?_; (with_reducible refine (natural_Of.calls k1 10 t495 _ A7.out).mono ?_); rintro e w9 ⟨v496, rfl, ho0, hb⟩; refine ⟨_, rfl, ?_⟩; have n0_ := Aside0.mk (Kd.R_elder' (by (with_reducible repeat (first | apply Kd.R_alloc | apply Kd.R_drewN | apply Kd.R_drew)); exact HO_5.out) (Kd.R_base ho0) hb); have n1_ := Aside0.mk (Kd.R_lower (Kd.R_new' ho0 (Kd.R_lt (by (with_reducible repeat (first | apply Kd.R_alloc | apply Kd.R_drewN | apply Kd.R_drew)); exact HO_5.out))) (below_size (by repeat (first | (with_reducible first | exact HB.out | apply below_alloc | apply pw_below_drewN | apply below_drew1) | exact HB.out)))); have n2_ := Aside0.mk (below_step (by repeat (first | (with_reducible first | exact HB.out | apply below_alloc | apply pw_below_drewN | apply below_drew1) | exact HB.out)) hb); clear HO_5; clear HB; have HO_5 := n0_; have HO497 := n1_; have HB := n2_; clear n0_ n1_ n2_; (try clear hb); (try clear hb2); (try clear hk); (try clear hi); (try clear ho0); obtain ⟨Ao10, co10, eo10⟩ := Kd.R_slice HO_5.out; subst eo10; obtain ⟨Ao11, co11, eo11⟩ := Kd.R_slice HO497.out; subst eo11) | ((with_reducible refine gate_callee (f := 23) rfl ?_); refine goesL_ (some 24) rfl rfl Try.func23 (by kernel_rfl) rfl #[.slice Ao10 x5_1.length co10, .slice Ao11 t495.length co11] rfl (by (try simp only [List.map_toArray, List.map_cons, List.map_nil]); first | done | rfl | (simp only [List.length_drop, List.length_take]; rfl)) ?_; (with_reducible refine (koinelaw01_mul.calls k1 _ _ x5_1 _ _ t495 t498 _ ?side1 ?side2 ?side3 ?side4 A8.out).mono ?_); (case side1 => repeat (first | exact (Kd.R_reads' HO_5.out).2.2 | (with_reducible refine Kd.C_alloc ?_ _) | (with_reducible refine Kd.C_drewN ?_ _) | (with_reducible refine Kd.C_drew ?_))); (case side2 => exact (Kd.R_reads' HO_5.out).2.1); (case side3 => repeat (first | exact (Kd.R_reads' HO497.out).2.2 | (with_reducible refine Kd.C_alloc ?_ _) | (with_reducible refine Kd.C_drewN ?_ _) | (with_reducible refine Kd.C_drew ?_))); (case side4 => exact (Kd.R_reads' HO497.out).2.1); rintro e w12 ⟨v499, rfl, ho0, hb⟩; refine ⟨_, rfl, ?_⟩; have n0_ := Aside0.mk (Kd.R_elder' (by (with_reducible repeat (first | apply Kd.R_alloc | apply Kd.R_drewN | apply Kd.R_drew)); exact HO_5.out) (Kd.R_base ho0) hb); have n1_ := Aside0.mk (Kd.R_elder' (by (with_reducible repeat (first | apply Kd.R_alloc | apply Kd.R_drewN | apply Kd.R_drew)); exact HO497.out) (Kd.R_base ho0) hb); have n2_ := Aside0.mk (Kd.R_lower (Kd.R_new' (Kd.R_new' ho0 (Kd.R_lt (by (with_reducible repeat (first | apply Kd.R_alloc | apply Kd.R_drewN | apply Kd.R_drew)); exact HO_5.out))) (Kd.R_lt (by (with_reducible repeat (first | apply Kd.R_alloc | apply Kd.R_drewN | apply Kd.R_drew)); exact HO497.out))) (below_size (by repeat (first | (with_reducible first | exact HB.out | apply below_alloc | apply pw_below_drewN | apply below_drew1) | exact HB.out)))); have n3_ := Aside0.mk (below_step (by repeat (first | (with_reducible first | exact HB.out | apply below_alloc | apply pw_below_drewN | apply below_drew1) | exact HB.out)) hb); clear HO_5; clear HO497; clear HB; have HO_5 := n0_; have HO497 := n1_; have HO500 := n2_; have HB := n3_; clear n0_ n1_ n2_ n3_; (try clear hb); (try clear hb2); (try clear hk); (try clear hi); (try clear ho0)))
        go_roundg k1
        case measure => have := HK1.out; omega
        case rel => exact ⟨(t498), (wrap64 (x6_1 + 1)), (by first | rfl | (simp; done) | (simp [*]; done)), H', ⟨by have := HK1.out; omega⟩, ⟨by (with_reducible repeat (first | apply Kd.R_alloc | apply Kd.R_drewN | apply Kd.R_drew)); exact Kd.R_mono HO500.out (fun _ hk => trivial)⟩, ⟨by repeat (first | (with_reducible first | exact HB.out | apply below_alloc | apply pw_below_drewN | apply below_drew1) | exact HB.out)⟩⟩
      · rw [if_neg c6] at H
        have c6b0 : decide (x6_1 < (Int.tmod (wrap64 (a0)) 201)) = false := decide_eq_false c6
        clear c6
        replace H := Option.bind_eq_some_iff.mp H
        obtain ⟨t501, A130, H⟩ := H
        replace H : ((natural_Of.f k1 1).bind fun t502 => ((natural_Sub.f k1 x5_1 t502).bind fun bt505 => ((natural_Text.f k1 bt505.1).bind fun t509 => (if (t501.size : Int) = (wrap64 ((Int.tmod (wrap64 (a0)) 201) + 1)) then (if 0 < (t501.size : Int) then (if (bt t501 0) = 49 then (if bt505.2 = 0 then (if (Int.tmod (wrap64 (a0)) 201) = 0 then (if t509.toList = ([48] : List UInt8) then (if (Int.tmod (wrap64 (a0)) 201) > 0 then (koinelaw01_NaturalPowers.j1 k1 t491 (Int.tmod (wrap64 (a0)) 201) t501 t509 ((t509.size : Int) != (Int.tmod (wrap64 (a0)) 201))) else (koinelaw01_NaturalPowers.j1 k1 t491 (Int.tmod (wrap64 (a0)) 201) t501 t509 false)) else (koinelaw01_NaturalPowers.j1 k1 t491 (Int.tmod (wrap64 (a0)) 201) t501 t509 true)) else (if (Int.tmod (wrap64 (a0)) 201) > 0 then (koinelaw01_NaturalPowers.j1 k1 t491 (Int.tmod (wrap64 (a0)) 201) t501 t509 ((t509.size : Int) != (Int.tmod (wrap64 (a0)) 201))) else (koinelaw01_NaturalPowers.j1 k1 t491 (Int.tmod (wrap64 (a0)) 201) t501 t509 false))) else (koinelaw01_NaturalPowers.j1 k1 t491 (Int.tmod (wrap64 (a0)) 201) t501 t509 true)) else (koinelaw01_NaturalPowers.j1 k1 t491 (Int.tmod (wrap64 (a0)) 201) t501 t509 true)) else (none)) else (koinelaw01_NaturalPowers.j1 k1 t491 (Int.tmod (wrap64 (a0)) 201) t501 t509 true))))) = some r := H
        have A13 := Aside0.mk A130
        clear A130
        replace H := Option.bind_eq_some_iff.mp H
        obtain ⟨t502, A140, H⟩ := H
        replace H : ((natural_Sub.f k1 x5_1 t502).bind fun bt505 => ((natural_Text.f k1 bt505.1).bind fun t509 => (if (t501.size : Int) = (wrap64 ((Int.tmod (wrap64 (a0)) 201) + 1)) then (if 0 < (t501.size : Int) then (if (bt t501 0) = 49 then (if bt505.2 = 0 then (if (Int.tmod (wrap64 (a0)) 201) = 0 then (if t509.toList = ([48] : List UInt8) then (if (Int.tmod (wrap64 (a0)) 201) > 0 then (koinelaw01_NaturalPowers.j1 k1 t491 (Int.tmod (wrap64 (a0)) 201) t501 t509 ((t509.size : Int) != (Int.tmod (wrap64 (a0)) 201))) else (koinelaw01_NaturalPowers.j1 k1 t491 (Int.tmod (wrap64 (a0)) 201) t501 t509 false)) else (koinelaw01_NaturalPowers.j1 k1 t491 (Int.tmod (wrap64 (a0)) 201) t501 t509 true)) else (if (Int.tmod (wrap64 (a0)) 201) > 0 then (koinelaw01_NaturalPowers.j1 k1 t491 (Int.tmod (wrap64 (a0)) 201) t501 t509 ((t509.size : Int) != (Int.tmod (wrap64 (a0)) 201))) else (koinelaw01_NaturalPowers.j1 k1 t491 (Int.tmod (wrap64 (a0)) 201) t501 t509 false))) else (koinelaw01_NaturalPowers.j1 k1 t491 (Int.tmod (wrap64 (a0)) 201) t501 t509 true)) else (koinelaw01_NaturalPowers.j1 k1 t491 (Int.tmod (wrap64 (a0)) 201) t501 t509 true)) else (none)) else (koinelaw01_NaturalPowers.j1 k1 t491 (Int.tmod (wrap64 (a0)) 201) t501 t509 true)))) = some r := H
        have A14 := Aside0.mk A140
        clear A140
        replace H := Option.bind_eq_some_iff.mp H
        obtain ⟨⟨t505, t506⟩, A150, H⟩ := H
        replace H : ((natural_Text.f k1 t505).bind fun t509 => (if (t501.size : Int) = (wrap64 ((Int.tmod (wrap64 (a0)) 201) + 1)) then (if 0 < (t501.size : Int) then (if (bt t501 0) = 49 then (if t506 = 0 then (if (Int.tmod (wrap64 (a0)) 201) = 0 then (if t509.toList = ([48] : List UInt8) then (if (Int.tmod (wrap64 (a0)) 201) > 0 then (koinelaw01_NaturalPowers.j1 k1 t491 (Int.tmod (wrap64 (a0)) 201) t501 t509 ((t509.size : Int) != (Int.tmod (wrap64 (a0)) 201))) else (koinelaw01_NaturalPowers.j1 k1 t491 (Int.tmod (wrap64 (a0)) 201) t501 t509 false)) else (koinelaw01_NaturalPowers.j1 k1 t491 (Int.tmod (wrap64 (a0)) 201) t501 t509 true)) else (if (Int.tmod (wrap64 (a0)) 201) > 0 then (koinelaw01_NaturalPowers.j1 k1 t491 (Int.tmod (wrap64 (a0)) 201) t501 t509 ((t509.size : Int) != (Int.tmod (wrap64 (a0)) 201))) else (koinelaw01_NaturalPowers.j1 k1 t491 (Int.tmod (wrap64 (a0)) 201) t501 t509 false))) else (koinelaw01_NaturalPowers.j1 k1 t491 (Int.tmod (wrap64 (a0)) 201) t501 t509 true)) else (koinelaw01_NaturalPowers.j1 k1 t491 (Int.tmod (wrap64 (a0)) 201) t501 t509 true)) else (none)) else (koinelaw01_NaturalPowers.j1 k1 t491 (Int.tmod (wrap64 (a0)) 201) t501 t509 true))) = some r := H
        have A15 := Aside0.mk A150
        clear A150
        replace H := Option.bind_eq_some_iff.mp H
        obtain ⟨t509, A160, H⟩ := H
        replace H : (if (t501.size : Int) = (wrap64 ((Int.tmod (wrap64 (a0)) 201) + 1)) then (if 0 < (t501.size : Int) then (if (bt t501 0) = 49 then (if t506 = 0 then (if (Int.tmod (wrap64 (a0)) 201) = 0 then (if t509.toList = ([48] : List UInt8) then (if (Int.tmod (wrap64 (a0)) 201) > 0 then (koinelaw01_NaturalPowers.j1 k1 t491 (Int.tmod (wrap64 (a0)) 201) t501 t509 ((t509.size : Int) != (Int.tmod (wrap64 (a0)) 201))) else (koinelaw01_NaturalPowers.j1 k1 t491 (Int.tmod (wrap64 (a0)) 201) t501 t509 false)) else (koinelaw01_NaturalPowers.j1 k1 t491 (Int.tmod (wrap64 (a0)) 201) t501 t509 true)) else (if (Int.tmod (wrap64 (a0)) 201) > 0 then (koinelaw01_NaturalPowers.j1 k1 t491 (Int.tmod (wrap64 (a0)) 201) t501 t509 ((t509.size : Int) != (Int.tmod (wrap64 (a0)) 201))) else (koinelaw01_NaturalPowers.j1 k1 t491 (Int.tmod (wrap64 (a0)) 201) t501 t509 false))) else (koinelaw01_NaturalPowers.j1 k1 t491 (Int.tmod (wrap64 (a0)) 201) t501 t509 true)) else (koinelaw01_NaturalPowers.j1 k1 t491 (Int.tmod (wrap64 (a0)) 201) t501 t509 true)) else (none)) else (koinelaw01_NaturalPowers.j1 k1 t491 (Int.tmod (wrap64 (a0)) 201) t501 t509 true)) = some r := H
        have A16 := Aside0.mk A160
        clear A160
        have HC17 := Aside0.mk H
        clear H
        obtain ⟨Ao18, co18, eo18⟩ := Kd.R_slice HO_5.out
        subst eo18
        go_upto_region 11 with (first | ((with_reducible refine gate_callee (f := 17) rfl ?_); refine goesL_ (some 26) rfl rfl Try.func17 (by kernel_rfl) rfl #[.slice Ao18 x5_1.length co18] rfl (by (try simp only [List.map_toArray, List.map_cons, List.map_nil]); first | done | rfl | (simp only [List.length_drop, List.length_take]; rfl)) ?_; (with_reducible refine (natural_Text.calls k1 (fun k_ => some k_ = (.slice Ao18 x5_1.length co18 : Value).ownBlock) _ _ x5_1 t501 _ ?side1 A13.out).mono ?_); (case side1 => exact Kd.R_V (Kd.R_tight rfl (HO_5.out))); rintro e w19 ⟨rfl, hb⟩; refine ⟨_, rfl, ?_⟩; have n0_ := Aside0.mk (Kd.R_below (by (with_reducible repeat (first | apply Kd.R_alloc | apply Kd.R_drewN | apply Kd.R_drew)); exact HO_5.out) hb); have n1_ := Aside0.mk (below_step (by repeat (first | (with_reducible first | exact HB.out | apply below_alloc | apply pw_below_drewN | apply below_drew1) | exact HB.out)) hb); clear HO_5; clear HB; have HO_5 := n0_; have HB := n1_; clear n0_ n1_; (try clear hb); (try clear hb2); (try clear hk); (try clear hi)) | ((with_reducible refine gate_callee (f := 24) rfl ?_); refine goesL_ (some 29) rfl rfl Try.func24 (by kernel_rfl) rfl #[.int .u64 1] rfl (by (try simp only [List.map_toArray, List.map_cons, List.map_nil]); first | done | rfl | (simp only [List.length_drop, List.length_take]; rfl)) ?_; (with_reducible refine (natural_Of.calls k1 1 t502 _ A14.out).mono ?_); rintro e w20 ⟨v503, rfl, ho0, hb⟩; refine ⟨_, rfl, ?_⟩; have n0_ := Aside0.mk (Kd.R_elder' (by (with_reducible repeat (first | apply Kd.R_alloc | apply Kd.R_drewN | apply Kd.R_drew)); exact HO_5.out) (Kd.R_base ho0) hb); have n1_ := Aside0.mk (Kd.R_lower (Kd.R_new' ho0 (Kd.R_lt (by (with_reducible repeat (first | apply Kd.R_alloc | apply Kd.R_drewN | apply Kd.R_drew)); exact HO_5.out))) (below_size (by repeat (first | (with_reducible first | exact HB.out | apply below_alloc | apply pw_below_drewN | apply below_drew1) | exact HB.out)))); have n2_ := Aside0.mk (below_step (by repeat (first | (with_reducible first | exact HB.out | apply below_alloc | apply pw_below_drewN | apply below_drew1) | exact HB.out)) hb); clear HO_5; clear HB; have HO_5 := n0_; have HO504 := n1_; have HB := n2_; clear n0_ n1_ n2_; (try clear hb); (try clear hb2); (try clear hk); (try clear hi); (try clear ho0); obtain ⟨Ao21, co21, eo21⟩ := Kd.R_slice HO504.out; subst eo21) | ((with_reducible refine gate_callee (f := 25) rfl ?_); refine goesL_ (some 30) rfl rfl Try.func25 (by kernel_rfl) rfl #[.slice Ao18 x5_1.length co18, .slice Ao21 t502.length co21] rfl (by (try simp only [List.map_toArray, List.map_cons, List.map_nil]); first | done | rfl | (simp only [List.length_drop, List.length_take]; rfl)) ?_; (with_reducible refine (natural_Sub.calls k1 _ _ x5_1 _ _ t502 t505 t506 _ ?side1 ?side2 ?side3 ?side4 A15.out).mono ?_); (case side1 => repeat (first | exact (Kd.R_reads' HO_5.out).2.2 | (with_reducible refine Kd.C_alloc ?_ _) | (with_reducible refine Kd.C_drewN ?_ _) | (with_reducible refine Kd.C_drew ?_))); (case side2 => exact (Kd.R_reads' HO_5.out).2.1); (case side3 => repeat (first | exact (Kd.R_reads' HO504.out).2.2 | (with_reducible refine Kd.C_alloc ?_ _) | (with_reducible refine Kd.C_drewN ?_ _) | (with_reducible refine Kd.C_drew ?_))); (case side4 => exact (Kd.R_reads' HO504.out).2.1); rintro e w22 ⟨v507, rfl, ho0, hb⟩; refine ⟨_, rfl, ?_⟩; have n0_ := Aside0.mk (Kd.R_elder' (by (with_reducible repeat (first | apply Kd.R_alloc | apply Kd.R_drewN | apply Kd.R_drew)); exact HO_5.out) (Kd.R_base ho0) hb); have n1_ := Aside0.mk (Kd.R_elder' (by (with_reducible repeat (first | apply Kd.R_alloc | apply Kd.R_drewN | apply Kd.R_drew)); exact HO504.out) (Kd.R_base ho0) hb); have n2_ := Aside0.mk (Kd.R_lower (Kd.R_new' (Kd.R_new' ho0 (Kd.R_lt (by (with_reducible repeat (first | apply Kd.R_alloc | apply Kd.R_drewN | apply Kd.R_drew)); exact HO_5.out))) (Kd.R_lt (by (with_reducible repeat (first | apply Kd.R_alloc | apply Kd.R_drewN | apply Kd.R_drew)); exact HO504.out))) (below_size (by repeat (first | (with_reducible first | exact HB.out | apply below_alloc | apply pw_below_drewN | apply below_drew1) | exact HB.out)))); have n3_ := Aside0.mk (below_step (by repeat (first | (with_reducible first | exact HB.out | apply below_alloc | apply pw_below_drewN | apply below_drew1) | exact HB.out)) hb); clear HO_5; clear HO504; clear HB; have HO_5 := n0_; have HO504 := n1_; have HO508 := n2_; have HB := n3_; clear n0_ n1_ n2_ n3_; (try clear hb); (try clear hb2); (try clear hk); (try clear hi); (try clear ho0); obtain ⟨Ao23, co23, eo23⟩ := Kd.R_slice HO508.out; subst eo23) | ((with_reducible refine gate_callee (f := 17) rfl ?_); refine goesL_ (some 34) rfl rfl Try.func17 (by kernel_rfl) rfl #[.slice Ao23 t505.length co23] rfl (by (try simp only [List.map_toArray, List.map_cons, List.map_nil]); first | done | rfl | (simp only [List.length_drop, List.length_take]; rfl)) ?_; (with_reducible refine (natural_Text.calls k1 (fun k_ => some k_ = (.slice Ao23 t505.length co23 : Value).ownBlock) _ _ t505 t509 _ ?side1 A16.out).mono ?_); (case side1 => exact Kd.R_V (Kd.R_tight rfl (HO508.out))); rintro e w24 ⟨rfl, hb⟩; refine ⟨_, rfl, ?_⟩; have n0_ := Aside0.mk (Kd.R_below (by (with_reducible repeat (first | apply Kd.R_alloc | apply Kd.R_drewN | apply Kd.R_drew)); exact HO_5.out) hb); have n1_ := Aside0.mk (Kd.R_below (by (with_reducible repeat (first | apply Kd.R_alloc | apply Kd.R_drewN | apply Kd.R_drew)); exact HO504.out) hb); have n2_ := Aside0.mk (Kd.R_below (by (with_reducible repeat (first | apply Kd.R_alloc | apply Kd.R_drewN | apply Kd.R_drew)); exact HO508.out) hb); have n3_ := Aside0.mk (below_step (by repeat (first | (with_reducible first | exact HB.out | apply below_alloc | apply pw_below_drewN | apply below_drew1) | exact HB.out)) hb); clear HO_5; clear HO504; clear HO508; clear HB; have HO_5 := n0_; have HO504 := n1_; have HO508 := n2_; have HB := n3_; clear n0_ n1_ n2_ n3_; (try clear hb); (try clear hb2); (try clear hk); (try clear hi)))
        (try simp only [Act.put, List.setIfInBounds_toArray, List.set_cons_zero, List.set_cons_succ])
        go_cut [66] (fun v66 wc => ∃ (kq : Nat) (x66_16 : Bool), v66 = .bool x66_16 ∧ Aside0 (koinelaw01_NaturalPowers.j1 kq t491 (Int.tmod (wrap64 (a0)) 201) t501 t509 x66_16 = some r) ∧ Aside0 (kq ≤ k1) ∧ Aside0 (Below w.heap.size w wc))
        case first =>
          have H := HC17.out
          clear HC17
          by_cases c25 : (t501.size : Int) = (wrap64 ((Int.tmod (wrap64 (a0)) 201) + 1))
          · rw [if_pos c25] at H
            have c25b0 : ((t501.size : Int) == (wrap64 ((Int.tmod (wrap64 (a0)) 201) + 1))) = true := beq_iff_eq.mpr c25
            have c25b1 : ((t501.size : Int) != (wrap64 ((Int.tmod (wrap64 (a0)) 201) + 1))) = false := bne_eq_false_iff_eq.mpr c25
            clear c25
            (first | rw [c25b0] | (simp only [i64_w, i32_w]; rw [c25b0]) | skip)
            by_cases c26 : 0 < (t501.size : Int)
            · rw [if_pos c26] at H
              have c26b0 : decide (0 < (t501.size : Int)) = true := decide_eq_true c26
              have c26b1 : decide (0 < t501.size) = true := decide_eq_true (by omega)
              clear c26
              by_cases c28 : (bt t501 0) = 49
              · rw [if_pos c28] at H
                have c28b0 : ((bt t501 0) == 49) = true := beq_iff_eq.mpr c28
                have c28b1 : ((bt t501 0) != 49) = false := bne_eq_false_iff_eq.mpr c28
                clear c28
                by_cases c29 : t506 = 0
                · rw [if_pos c29] at H
                  have c29b0 : (t506 == 0) = true := beq_iff_eq.mpr c29
                  have c29b1 : (t506 != 0) = false := bne_eq_false_iff_eq.mpr c29
                  clear c29
                  by_cases c30 : (Int.tmod (wrap64 (a0)) 201) = 0
                  · rw [if_pos c30] at H
                    have c30b0 : ((Int.tmod (wrap64 (a0)) 201) == 0) = true := beq_iff_eq.mpr c30
                    have c30b1 : ((Int.tmod (wrap64 (a0)) 201) != 0) = false := bne_eq_false_iff_eq.mpr c30
                    clear c30
                    by_cases c31 : t509.toList = ([48] : List UInt8)
                    · rw [if_pos c31] at H
                      have c31b0 : (t509.toList == ([48] : List UInt8)) = true := beq_iff_eq.mpr c31
                      have c31b1 : (t509.toList != ([48] : List UInt8)) = false := bne_eq_false_iff_eq.mpr c31
                      clear c31
                      by_cases c32 : (Int.tmod (wrap64 (a0)) 201) > 0
                      · rw [if_pos c32] at H
                        have c32b0 : decide (0 < (Int.tmod (wrap64 (a0)) 201)) = true := decide_eq_true c32
                        clear c32
                        have H' := Aside0.mk H
                        clear H
                        have p27 : 0 ≤ (0 : Int) := (by omega)
                        have q27 : 0 < t501.size := (by have : (0 : Int) < (t501.size : Int) := of_decide_eq_true (by first | (with_reducible assumption) | assumption); omega)
                        have hx27 : ∀ h : 0 < t501.size, ((t501[0]'h).toNat : Int) = bt t501 0 := bt_at t501 0
                        clear p27
                        have qi27 : (0 < (t501.size : Int)) = True := eq_true (of_decide_eq_true (by first | (with_reducible assumption) | assumption))
                        replace q27 := eq_true q27
                        go_wp2
                        go_meet
                        case rel => exact ⟨_, (((t509.size : Int) != (Int.tmod (wrap64 (a0)) 201))), (by first | rfl | (simp; done) | (simp [*]; done)), H', ⟨by have := HK1.out; first | omega | exact Nat.le_refl _⟩, ⟨by repeat (first | (with_reducible first | exact HB.out | apply below_alloc | apply pw_below_drewN | apply below_drew1) | exact HB.out)⟩⟩
                      · rw [if_neg c32] at H
                        have c32b0 : decide (0 < (Int.tmod (wrap64 (a0)) 201)) = false := decide_eq_false c32
                        clear c32
                        have H' := Aside0.mk H
                        clear H
                        have p27 : 0 ≤ (0 : Int) := (by omega)
                        have q27 : 0 < t501.size := (by have : (0 : Int) < (t501.size : Int) := of_decide_eq_true (by first | (with_reducible assumption) | assumption); omega)
                        have hx27 : ∀ h : 0 < t501.size, ((t501[0]'h).toNat : Int) = bt t501 0 := bt_at t501 0
                        clear p27
                        have qi27 : (0 < (t501.size : Int)) = True := eq_true (of_decide_eq_true (by first | (with_reducible assumption) | assumption))
                        replace q27 := eq_true q27
                        go_wp2
                        go_meet
                        case rel => exact ⟨_, (false), (by first | rfl | (simp; done) | (simp [*]; done)), H', ⟨by have := HK1.out; first | omega | exact Nat.le_refl _⟩, ⟨by repeat (first | (with_reducible first | exact HB.out | apply below_alloc | apply pw_below_drewN | apply below_drew1) | exact HB.out)⟩⟩
                    · rw [if_neg c31] at H
                      have c31b0 : (t509.toList == ([48] : List UInt8)) = false := beq_eq_false_iff_ne.mpr c31
                      have c31b1 : (t509.toList != ([48] : List UInt8)) = true := bne_iff_ne.mpr c31
                      have H' := Aside0.mk H
                      clear H
                      have p27 : 0 ≤ (0 : Int) := (by omega)
                      have q27 : 0 < t501.size := (by have : (0 : Int) < (t501.size : Int) := of_decide_eq_true (by first | (with_reducible assumption) | assumption); omega)
                      have hx27 : ∀ h : 0 < t501.size, ((t501[0]'h).toNat : Int) = bt t501 0 := bt_at t501 0
                      clear p27
                      have qi27 : (0 < (t501.size : Int)) = True := eq_true (of_decide_eq_true (by first | (with_reducible assumption) | assumption))
                      replace q27 := eq_true q27
                      go_wp2
                      go_meet
                      case rel => exact ⟨_, (true), (by first | rfl | (simp; done) | (simp [*]; done)), H', ⟨by have := HK1.out; first | omega | exact Nat.le_refl _⟩, ⟨by repeat (first | (with_reducible first | exact HB.out | apply below_alloc | apply pw_below_drewN | apply below_drew1) | exact HB.out)⟩⟩
                  · rw [if_neg c30] at H
                    have c30b0 : ((Int.tmod (wrap64 (a0)) 201) == 0) = false := beq_eq_false_iff_ne.mpr c30
                    have c30b1 : ((Int.tmod (wrap64 (a0)) 201) != 0) = true := bne_iff_ne.mpr c30
                    by_cases c33 : (Int.tmod (wrap64 (a0)) 201) > 0
                    · rw [if_pos c33] at H
                      have c33b0 : decide (0 < (Int.tmod (wrap64 (a0)) 201)) = true := decide_eq_true c33
                      clear c33
                      have H' := Aside0.mk H
                      clear H
                      have p27 : 0 ≤ (0 : Int) := (by omega)
                      have q27 : 0 < t501.size := (by have : (0 : Int) < (t501.size : Int) := of_decide_eq_true (by first | (with_reducible assumption) | assumption); omega)
                      have hx27 : ∀ h : 0 < t501.size, ((t501[0]'h).toNat : Int) = bt t501 0 := bt_at t501 0
                      clear p27
                      have qi27 : (0 < (t501.size : Int)) = True := eq_true (of_decide_eq_true (by first | (with_reducible assumption) | assumption))
                      replace q27 := eq_true q27
                      go_wp2
                      go_meet
                      case rel => exact ⟨_, (((t509.size : Int) != (Int.tmod (wrap64 (a0)) 201))), (by first | rfl | (simp; done) | (simp [*]; done)), H', ⟨by have := HK1.out; first | omega | exact Nat.le_refl _⟩, ⟨by repeat (first | (with_reducible first | exact HB.out | apply below_alloc | apply pw_below_drewN | apply below_drew1) | exact HB.out)⟩⟩
                    · rw [if_neg c33] at H
                      have c33b0 : decide (0 < (Int.tmod (wrap64 (a0)) 201)) = false := decide_eq_false c33
                      clear c33
                      have H' := Aside0.mk H
                      clear H
                      have p27 : 0 ≤ (0 : Int) := (by omega)
                      have q27 : 0 < t501.size := (by have : (0 : Int) < (t501.size : Int) := of_decide_eq_true (by first | (with_reducible assumption) | assumption); omega)
                      have hx27 : ∀ h : 0 < t501.size, ((t501[0]'h).toNat : Int) = bt t501 0 := bt_at t501 0
                      clear p27
                      have qi27 : (0 < (t501.size : Int)) = True := eq_true (of_decide_eq_true (by first | (with_reducible assumption) | assumption))
                      replace q27 := eq_true q27
                      go_wp2
                      go_meet
                      case rel => exact ⟨_, (false), (by first | rfl | (simp; done) | (simp [*]; done)), H', ⟨by have := HK1.out; first | omega | exact Nat.le_refl _⟩, ⟨by repeat (first | (with_reducible first | exact HB.out | apply below_alloc | apply pw_below_drewN | apply below_drew1) | exact HB.out)⟩⟩
                · rw [if_neg c29] at H
                  have c29b0 : (t506 == 0) = false := beq_eq_false_iff_ne.mpr c29
                  have c29b1 : (t506 != 0) = true := bne_iff_ne.mpr c29
                  have H' := Aside0.mk H
                  clear H
                  have p27 : 0 ≤ (0 : Int) := (by omega)
                  have q27 : 0 < t501.size := (by have : (0 : Int) < (t501.size : Int) := of_decide_eq_true (by first | (with_reducible assumption) | assumption); omega)
                  have hx27 : ∀ h : 0 < t501.size, ((t501[0]'h).toNat : Int) = bt t501 0 := bt_at t501 0
                  clear p27
                  have qi27 : (0 < (t501.size : Int)) = True := eq_true (of_decide_eq_true (by first | (with_reducible assumption) | assumption))
                  replace q27 := eq_true q27
                  go_wp2
                  go_meet
                  case rel => exact ⟨_, (true), (by first | rfl | (simp; done) | (simp [*]; done)), H', ⟨by have := HK1.out; first | omega | exact Nat.le_refl _⟩, ⟨by repeat (first | (with_reducible first | exact HB.out | apply below_alloc | apply pw_below_drewN | apply below_drew1) | exact HB.out)⟩⟩
              · rw [if_neg c28] at H
                have c28b0 : ((bt t501 0) == 49) = false := beq_eq_false_iff_ne.mpr c28
                have c28b1 : ((bt t501 0) != 49) = true := bne_iff_ne.mpr c28
                have H' := Aside0.mk H
                clear H
                have p27 : 0 ≤ (0 : Int) := (by omega)
                have q27 : 0 < t501.size := (by have : (0 : Int) < (t501.size : Int) := of_decide_eq_true (by first | (with_reducible assumption) | assumption); omega)
                have hx27 : ∀ h : 0 < t501.size, ((t501[0]'h).toNat : Int) = bt t501 0 := bt_at t501 0
                clear p27
                have qi27 : (0 < (t501.size : Int)) = True := eq_true (of_decide_eq_true (by first | (with_reducible assumption) | assumption))
                replace q27 := eq_true q27
                go_wp2
                go_meet
                case rel => exact ⟨_, (true), (by first | rfl | (simp; done) | (simp [*]; done)), H', ⟨by have := HK1.out; first | omega | exact Nat.le_refl _⟩, ⟨by repeat (first | (with_reducible first | exact HB.out | apply below_alloc | apply pw_below_drewN | apply below_drew1) | exact HB.out)⟩⟩
            · rw [if_neg c26] at H
              exact absurd H (by simp)
          · rw [if_neg c25] at H
            have c25b0 : ((t501.size : Int) == (wrap64 ((Int.tmod (wrap64 (a0)) 201) + 1))) = false := beq_eq_false_iff_ne.mpr c25
            have c25b1 : ((t501.size : Int) != (wrap64 ((Int.tmod (wrap64 (a0)) 201) + 1))) = true := bne_iff_ne.mpr c25
            (first | rw [c25b0] | (simp only [i64_w, i32_w]; rw [c25b0]) | skip)
            have H' := Aside0.mk H
            clear H
            go_wp2
            go_meet
            case rel => exact ⟨_, (true), (by first | rfl | (simp; done) | (simp [*]; done)), H', ⟨by have := HK1.out; first | omega | exact Nat.le_refl _⟩, ⟨by repeat (first | (with_reducible first | exact HB.out | apply below_alloc | apply pw_below_drewN | apply below_drew1) | exact HB.out)⟩⟩
        case rest =>
          clear HC17
          try clear c1
          try clear c2
          try clear p2
          try clear q2
          try clear hx2
          try clear qi2
          try clear c3
          try clear c6
          try clear c6b0
          try clear p6
          try clear c14
          try clear c17
          try clear c23
          try clear c24
          try clear c25
          try clear c25b0
          try clear c25b1
          try clear c26
          try clear c26b0
          try clear c26b1
          try clear p27
          try clear q27
          try clear hx27
          try clear qi27
          try clear c28
          try clear c28b0
          try clear c28b1
          try clear c29
          try clear c29b0
          try clear c29b1
          try clear c30
          try clear c30b0
          try clear c30b1
          try clear c31
          try clear c31b0
          try clear c31b1
          try clear c32
          try clear c32b0
          try clear c33
          try clear c33b0
          try clear p2
          try clear p27
          try clear q27
          obtain ⟨kq, x66_16, rfl, HA, HJ16, HB⟩ := hcut
          cases kq with
          | zero => exact absurd HA.out (by simp [koinelaw01_NaturalPowers.j1])
          | succ kj16 =>
            have H := HA.out
            clear HA
            simp only [koinelaw01_NaturalPowers.j1] at H
            by_cases c34 : x66_16 = true
            · subst c34
              have H1 : (some false) = some r := by rw [if_pos rfl] at H; exact H
              clear H
              have H := H1
              clear H1
              obtain rfl := Option.some.inj H
              go_wp2
              go_ret
              exact ⟨by first | rfl | (simp [errW_none, errW_some] <;> rfl) | (simp [*, errW_none, errW_some] <;> rfl), by repeat (first | (with_reducible first | exact HB.out | apply below_alloc | apply pw_below_drewN | apply below_drew1) | exact HB.out)⟩
            · replace c34 := Bool.eq_false_iff.mpr c34
              subst c34
              have H1 : (koinelaw01_NaturalPowers.l1 kj16 t491 (Int.tmod (wrap64 (a0)) 201) t501 t509 0) = some r := by rw [if_neg (show ¬ (false = true) by decide)] at H; exact H
              clear H
              have H := H1
              clear H1
              have H' := Aside0.mk H
              clear H
              go_wp2
              go_loopg [11] kj16 (fun kq v11 w' => ∃ (x11_3 : Int), v11 = .int .i64 x11_3 ∧ Aside0 (koinelaw01_NaturalPowers.l1 kq t491 (Int.tmod (wrap64 (a0)) 201) t501 t509 x11_3 = some r) ∧ Aside0 (kq ≤ kj16) ∧ Aside0 (Below w.heap.size w w'))
              case atStart => exact ⟨(0), (by first | rfl | (simp; done) | (simp [*]; done)), H', ⟨Nat.le_refl _⟩, ⟨by repeat (first | (with_reducible first | exact HB.out | apply below_alloc | apply pw_below_drewN | apply below_drew1) | exact HB.out)⟩⟩
              case round =>
                clear H'
                try clear c1
                try clear c2
                try clear p2
                try clear q2
                try clear hx2
                try clear qi2
                try clear c3
                try clear c6
                try clear c6b0
                try clear p6
                try clear c14
                try clear c17
                try clear c23
                try clear c24
                try clear c25
                try clear c25b0
                try clear c25b1
                try clear c26
                try clear c26b0
                try clear c26b1
                try clear p27
                try clear q27
                try clear hx27
                try clear qi27
                try clear c28
                try clear c28b0
                try clear c28b1
                try clear c29
                try clear c29b0
                try clear c29b1
                try clear c30
                try clear c30b0
                try clear c30b1
                try clear c31
                try clear c31b0
                try clear c31b1
                try clear c32
                try clear c32b0
                try clear c33
                try clear c33b0
                try clear c34
                try clear p2
                try clear p27
                try clear p6
                try clear q2
                try clear q27
                obtain ⟨x11_3, rfl, HA, HK3, HB⟩ := hrel
                cases gk with
                | zero => exact absurd HA.out (by simp [koinelaw01_NaturalPowers.l1])
                | succ k3 =>
                  have H := HA.out
                  clear HA
                  simp only [koinelaw01_NaturalPowers.l1] at H
                  by_cases c35 : x11_3 < (Int.tmod (wrap64 (a0)) 201)
                  · rw [if_pos c35] at H
                    have c35b0 : decide (x11_3 < (Int.tmod (wrap64 (a0)) 201)) = true := decide_eq_true c35
                    clear c35
                    obtain ⟨ji36, hji36⟩ : ∃ j_ : Int, (wrap64 (x11_3 + 1)) = j_ := ⟨_, rfl⟩
                    replace H : (if 0 ≤ (ji36) then (if (ji36) < (t501.size : Int) then (if (bt t501 (ji36)) = 48 then (if 0 ≤ x11_3 then (if x11_3 < (t509.size : Int) then (if (bt t509 x11_3) = 57 then (koinelaw01_NaturalPowers.l1 k3 t491 (Int.tmod (wrap64 (a0)) 201) t501 t509 ji36) else (some false)) else (none)) else (none)) else (some false)) else (none)) else (none)) = some r := by first | (rw [hji36] at H; exact H) | (simp only [hji36] at H ⊢; exact H)
                    have hji36w : (IntKind.i64.wrap (x11_3 + 1)) = ji36 := (i64_w _).trans hji36
                    by_cases c37 : 0 ≤ (ji36)
                    · rw [if_pos c37] at H
                      have c37b0 : decide (0 ≤ (ji36)) = true := decide_eq_true c37
                      clear c37
                      by_cases c38 : (ji36) < (t501.size : Int)
                      · rw [if_pos c38] at H
                        have c38b0 : decide ((ji36) < (t501.size : Int)) = true := decide_eq_true c38
                        clear c38
                        by_cases c40 : (bt t501 (ji36)) = 48
                        · rw [if_pos c40] at H
                          have c40b0 : ((bt t501 (ji36)) == 48) = true := beq_iff_eq.mpr c40
                          have c40b1 : ((bt t501 (ji36)) != 48) = false := bne_eq_false_iff_eq.mpr c40
                          clear c40
                          by_cases c41 : 0 ≤ x11_3
                          · rw [if_pos c41] at H
                            have c41b0 : decide (0 ≤ x11_3) = true := decide_eq_true c41
                            clear c41
                            by_cases c42 : x11_3 < (t509.size : Int)
                            · rw [if_pos c42] at H
                              have c42b0 : decide (x11_3 < (t509.size : Int)) = true := decide_eq_true c42
                              clear c42
                              by_cases c44 : (bt t509 x11_3) = 57
                              · rw [if_pos c44] at H
                                have c44b0 : ((bt t509 x11_3) == 57) = true := beq_iff_eq.mpr c44
                                have c44b1 : ((bt t509 x11_3) != 57) = false := bne_eq_false_iff_eq.mpr c44
                                clear c44
                                have H' := Aside0.mk H
                                clear H
                                have p39 : 0 ≤ ((ji36) : Int) := of_decide_eq_true (by first | (with_reducible assumption) | assumption)
                                have q39 : (ji36) < (t501.size : Int) := of_decide_eq_true (by first | (with_reducible assumption) | assumption)
                                have hx39 := bt_at t501 (ji36)
                                replace p39 := eq_true p39
                                replace q39 := eq_true q39
                                have p43 : 0 ≤ (x11_3 : Int) := of_decide_eq_true (by first | (with_reducible assumption) | assumption)
                                have q43 : x11_3 < (t509.size : Int) := of_decide_eq_true (by first | (with_reducible assumption) | assumption)
                                have hx43 := bt_at t509 x11_3
                                replace p43 := eq_true p43
                                replace q43 := eq_true q43
                                go_wp2
                                go_roundg k3
                                case measure => have := HK1.out; have := HJ16.out; have := HK3.out; omega
                                case rel => exact ⟨(ji36), (by first | rfl | (simp; done) | (simp only [← hji36] <;> (first | rfl | simp)) | (simp [*]; done)), H', ⟨by have := HK1.out; have := HJ16.out; have := HK3.out; omega⟩, ⟨by repeat (first | (with_reducible first | exact HB.out | apply below_alloc | apply pw_below_drewN | apply below_drew1) | exact HB.out)⟩⟩
                              · rw [if_neg c44] at H
                                have c44b0 : ((bt t509 x11_3) == 57) = false := beq_eq_false_iff_ne.mpr c44
                                have c44b1 : ((bt t509 x11_3) != 57) = true := bne_iff_ne.mpr c44
                                obtain rfl := Option.some.inj H
                                have p39 : 0 ≤ ((ji36) : Int) := of_decide_eq_true (by first | (with_reducible assumption) | assumption)
                                have q39 : (ji36) < (t501.size : Int) := of_decide_eq_true (by first | (with_reducible assumption) | assumption)
                                have hx39 := bt_at t501 (ji36)
                                replace p39 := eq_true p39
                                replace q39 := eq_true q39
                                have p43 : 0 ≤ (x11_3 : Int) := of_decide_eq_true (by first | (with_reducible assumption) | assumption)
                                have q43 : x11_3 < (t509.size : Int) := of_decide_eq_true (by first | (with_reducible assumption) | assumption)
                                have hx43 := bt_at t509 x11_3
                                replace p43 := eq_true p43
                                replace q43 := eq_true q43
                                go_wp2
                                go_ret
                                exact ⟨by first | rfl | (simp [errW_none, errW_some] <;> rfl) | (simp only [← hji36]; first | rfl | (simp [errW_none, errW_some] <;> rfl)) | (simp [*, errW_none, errW_some] <;> rfl), by repeat (first | (with_reducible first | exact HB.out | apply below_alloc | apply pw_below_drewN | apply below_drew1) | exact HB.out)⟩
                            · rw [if_neg c42] at H
                              exact absurd H (by simp)
                          · rw [if_neg c41] at H
                            exact absurd H (by simp)
                        · rw [if_neg c40] at H
                          have c40b0 : ((bt t501 (ji36)) == 48) = false := beq_eq_false_iff_ne.mpr c40
                          have c40b1 : ((bt t501 (ji36)) != 48) = true := bne_iff_ne.mpr c40
                          obtain rfl := Option.some.inj H
                          have p39 : 0 ≤ ((ji36) : Int) := of_decide_eq_true (by first | (with_reducible assumption) | assumption)
                          have q39 : (ji36) < (t501.size : Int) := of_decide_eq_true (by first | (with_reducible assumption) | assumption)
                          have hx39 := bt_at t501 (ji36)
                          replace p39 := eq_true p39
                          replace q39 := eq_true q39
                          go_wp2
                          go_ret
                          exact ⟨by first | rfl | (simp [errW_none, errW_some] <;> rfl) | (simp only [← hji36]; first | rfl | (simp [errW_none, errW_some] <;> rfl)) | (simp [*, errW_none, errW_some] <;> rfl), by repeat (first | (with_reducible first | exact HB.out | apply below_alloc | apply pw_below_drewN | apply below_drew1) | exact HB.out)⟩
                      · rw [if_neg c38] at H
                        exact absurd H (by simp)
                    · rw [if_neg c37] at H
                      exact absurd H (by simp)
                  · rw [if_neg c35] at H
                    have c35b0 : decide (x11_3 < (Int.tmod (wrap64 (a0)) 201)) = false := decide_eq_false c35
                    clear c35
                    obtain rfl := Option.some.inj H
                    go_wp2
                    go_ret
                    exact ⟨by first | rfl | (simp [errW_none, errW_some] <;> rfl) | (simp [*, errW_none, errW_some] <;> rfl), by repeat (first | (with_reducible first | exact HB.out | apply below_alloc | apply pw_below_drewN | apply below_drew1) | exact HB.out)⟩

/-- THE ONE PURE STATEMENT of koinelaw01_NaturalPowers: yours. -/
def koinelaw01_NaturalPowers.Pure : Prop := ∀ (a0 : Int), (Lit.int .u8 a0).wf = true → ∃ k, koinelaw01_NaturalPowers.f k a0 = some true
theorem koinelaw01_NaturalPowers.walk (P : koinelaw01_NaturalPowers.Pure) (a0 : Int) (w : World) (w0 : (Lit.int .u8 a0).wf = true) :
    Calls Try.prog 6 #[.int .u8 a0] w fun e w' => e = .returned (.bool true) ∧ Below w.heap.size w w' := by
  obtain ⟨k, h⟩ := P a0 w0
  refine (koinelaw01_NaturalPowers.calls k a0 true w h).mono ?_
  rintro e w' ⟨rfl, hd⟩
  exact ⟨rfl, hd⟩


end Go.Proofs.Ytpalpikenkkhlaa.Nt
