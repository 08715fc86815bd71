/- The machine side of the laws on natural numbers: for each Go function a Lean function with the same answers, and the walk that shows it. It began as the print of print.sh (turned to one namespace, copy told as a law of our own, mended); Lean checks it. -/
import Derived.Test.YtpalpikenkkhlaaNtC
namespace Go.Proofs.Ytpalpikenkkhlaa.Nt
open Go.RowKit Go.Proofs.YtpalpikenkkhlaaW.PrintWords Go.Proofs.YtpalpikenkkhlaaW.PrintLast Go.Proofs.YtpalpikenkkhlaaW.PrintMore
attribute [local go_sem] max2_int min2_int max_two min_two max_three min_three max_four min_four   -- for this text's walks alone
set_option linter.unusedVariables false
set_option linter.unusedSimpArgs false

/-! ### natural_Div: function 27 -/
mutual
def natural_Div.j0 : Nat → List Int → List Int → Bool → Option (List Int × List Int × Int)
 | 0, _, _, _ => none
 | k + 1, x0, x1, x13 => if x13 = true then (some (([] : List Int), ([] : List Int), 1)) else (if (x1.length : Int) = 0 then (some (([] : List Int), ([] : List Int), 11)) else (if (x1.length : Int) = 1 then (if 0 < (x1.length : Int) then ((natural_short.f k x0 (rd x1 0)).bind fun bt174 => ((natural_Of.f k (IntKind.u64.wrap (bt174.2))).bind fun t178 => (some (bt174.1, t178, 0)))) else (none)) else (if 0 ≤ (x0.length : Int) then (if ((x0.length : Int) : Int).toNat ≤ 70368744177664 then (if 0 ≤ (wrap64 ((x1.length : Int) + 1)) then (if (wrap64 ((x1.length : Int) + 1) : Int).toNat ≤ 70368744177664 then (natural_Div.l0 k x0 x1 (List.replicate ((x0.length : Int) : Int).toNat 0) (List.replicate (wrap64 ((x1.length : Int) + 1) : Int).toNat 0) (wrap64 (32 * (x0.length : Int))) 0) else (none)) else (none)) else (none)) else (none))))
def natural_Div.l0 : Nat → List Int → List Int → List Int → List Int → Int → Int → Option (List Int × List Int × Int)
 | 0, _, _, _, _, _, _ => none
 | k + 1, x0, x1, x9, x10, x51, x52 => if x52 < x51 then (if 0 ≤ (wrap64 (Int.tdiv (wrap64 ((wrap64 ((wrap64 (32 * (x0.length : Int))) - 1)) - x52)) 32)) then (if (wrap64 (Int.tdiv (wrap64 ((wrap64 ((wrap64 (32 * (x0.length : Int))) - 1)) - x52)) 32)) < (x0.length : Int) then (if 0 ≤ (Int.tmod (wrap64 ((wrap64 ((wrap64 (32 * (x0.length : Int))) - 1)) - x52)) 32) then ((natural_shift.f k x10 (Go.bits .and .u32 (shr .u32 (rd x0 (wrap64 (Int.tdiv (wrap64 ((wrap64 ((wrap64 (32 * (x0.length : Int))) - 1)) - x52)) 32))) (Int.tmod (wrap64 ((wrap64 ((wrap64 (32 * (x0.length : Int))) - 1)) - x52)) 32)) 1)).bind fun t196 => ((natural_less.f k t196 x1).bind fun t197 => (if t197 = true then (natural_Div.l0 k x0 x1 x9 t196 x51 (wrap64 (x52 + 1))) else ((natural_subtract.f k t196 x1).bind fun t198 => (if (wrap64 (Int.tdiv (wrap64 ((wrap64 ((wrap64 (32 * (x0.length : Int))) - 1)) - x52)) 32)) < (x9.length : Int) then (natural_Div.l0 k x0 x1 (x9.set ((wrap64 (Int.tdiv (wrap64 ((wrap64 ((wrap64 (32 * (x0.length : Int))) - 1)) - x52)) 32)) : Int).toNat (Go.bits .or .u32 (rd x9 (wrap64 (Int.tdiv (wrap64 ((wrap64 ((wrap64 (32 * (x0.length : Int))) - 1)) - x52)) 32))) (shl .u32 1 (Int.tmod (wrap64 ((wrap64 ((wrap64 (32 * (x0.length : Int))) - 1)) - x52)) 32)))) t198 x51 (wrap64 (x52 + 1))) else (none)))))) else (none)) else (none)) else (none)) else ((natural_trim.f k x9).bind fun bt187 => ((natural_trim.f k x10).bind fun bt191 => (some (bt187.1, bt191.1, 0))))
end
def natural_Div.f (k : Nat) (l0 : List Int) (l1 : List Int) : Option (List Int × List Int × Int) := (natural_Valid.f l0).bind fun t171 => (if t171 = true then ((natural_Valid.f l1).bind fun t172 => (natural_Div.j0 k l0 l1 (!t172))) else (natural_Div.j0 k l0 l1 true))
theorem natural_Div.mono_l : ∀ k, (∀ y0 y1 y2, LeO (natural_Div.j0 k y0 y1 y2) (natural_Div.j0 (k + 1) y0 y1 y2)) ∧ (∀ y0 y1 y2 y3 y4 y5, LeO (natural_Div.l0 k y0 y1 y2 y3 y4 y5) (natural_Div.l0 (k + 1) y0 y1 y2 y3 y4 y5))
 | 0 => ⟨fun _ _ _ r h => by simp [natural_Div.j0] at h, fun _ _ _ _ _ _ r h => by simp [natural_Div.l0] at h⟩
 | k + 1 => by
  obtain ⟨ih0, ih1⟩ := natural_Div.mono_l k
  refine ⟨?_, ?_⟩
  ·intro y0 y1 y2
   unfold natural_Div.j0
   repeat' first
   | (with_reducible exact ih0 _ _ _)
   | (with_reducible exact ih1 _ _ _ _ _ _)
   | (with_reducible exact natural_Of.mono _ _)
   | (with_reducible exact natural_less.mono _ _ _)
   | (with_reducible exact natural_shift.mono _ _ _)
   | (with_reducible exact natural_short.mono _ _ _)
   | (with_reducible exact natural_subtract.mono _ _ _)
   | (with_reducible exact natural_trim.mono _ _)
   | (with_reducible exact LeO.refl _)
   | (with_reducible exact LeO.none _)
   | (with_reducible refine LeO.ite ?_ ?_)
   | (with_reducible refine LeO.bind ?_ (fun _ => ?_))
   | exact ih0 _ _ _
   | exact ih1 _ _ _ _ _ _
   | exact natural_Of.mono _ _
   | exact natural_less.mono _ _ _
   | exact natural_shift.mono _ _ _
   | exact natural_short.mono _ _ _
   | exact natural_subtract.mono _ _ _
   | exact natural_trim.mono _ _
   | exact LeO.none _
   | refine LeO.ite ?_ ?_
   | refine LeO.bind ?_ (fun _ => ?_)
  ·intro y0 y1 y2 y3 y4 y5
   unfold natural_Div.l0
   repeat' first
   | (with_reducible exact ih0 _ _ _)
   | (with_reducible exact ih1 _ _ _ _ _ _)
   | (with_reducible exact natural_Of.mono _ _)
   | (with_reducible exact natural_less.mono _ _ _)
   | (with_reducible exact natural_shift.mono _ _ _)
   | (with_reducible exact natural_short.mono _ _ _)
   | (with_reducible exact natural_subtract.mono _ _ _)
   | (with_reducible exact natural_trim.mono _ _)
   | (with_reducible exact LeO.refl _)
   | (with_reducible exact LeO.none _)
   | (with_reducible refine LeO.ite ?_ ?_)
   | (with_reducible refine LeO.bind ?_ (fun _ => ?_))
   | exact ih0 _ _ _
   | exact ih1 _ _ _ _ _ _
   | exact natural_Of.mono _ _
   | exact natural_less.mono _ _ _
   | exact natural_shift.mono _ _ _
   | exact natural_short.mono _ _ _
   | exact natural_subtract.mono _ _ _
   | exact natural_trim.mono _ _
   | exact LeO.none _
   | refine LeO.ite ?_ ?_
   | refine LeO.bind ?_ (fun _ => ?_)
theorem natural_Div.mono : ∀ a0 a1 k, LeO (natural_Div.f k a0 a1) (natural_Div.f (k + 1) a0 a1) := by
 intro a0 a1 k
 obtain ⟨ih0, ih1⟩ := natural_Div.mono_l k
 unfold natural_Div.f
 repeat' first
   | (with_reducible exact ih0 _ _ _)
   | (with_reducible exact ih1 _ _ _ _ _ _)
   | (with_reducible exact natural_Of.mono _ _)
   | (with_reducible exact natural_less.mono _ _ _)
   | (with_reducible exact natural_shift.mono _ _ _)
   | (with_reducible exact natural_short.mono _ _ _)
   | (with_reducible exact natural_subtract.mono _ _ _)
   | (with_reducible exact natural_trim.mono _ _)
   | (with_reducible exact LeO.refl _)
   | (with_reducible exact LeO.none _)
   | (with_reducible refine LeO.ite ?_ ?_)
   | (with_reducible refine LeO.bind ?_ (fun _ => ?_))
   | exact ih0 _ _ _
   | exact ih1 _ _ _ _ _ _
   | exact natural_Of.mono _ _
   | exact natural_less.mono _ _ _
   | exact natural_shift.mono _ _ _
   | exact natural_short.mono _ _ _
   | exact natural_subtract.mono _ _ _
   | exact natural_trim.mono _ _
   | exact LeO.none _
   | refine LeO.ite ?_ ?_
   | refine LeO.bind ?_ (fun _ => ?_)
def natural_Div.T17 : Bool × List (List Nat × List Nat) := (true, [([], []), ([], []), ([1], [1]), ([0, 2], [0, 2]), ([3], [3]), ([], []), ([5], [5]), ([6], [6]), ([4, 7], [4, 7]), ([0, 2, 0, 1, 2, 3, 4, 5, 6, 7, 8], [0, 2]), ([9, 8, 0, 1, 2, 3, 4, 5, 6, 7, 8], [8, 9])])
def natural_Div.B17 : List Nat := [0, 0, 2, 7, 15, 0, 32, 96, 255, 511, 1023]
theorem natural_Div.tab17 : rtab .any (opsOf Try.f27 17) = natural_Div.T17 := by kernel_rfl
theorem natural_Div.bits17 : waitsOk natural_Div.T17.2 natural_Div.B17 = true := by kernel_rfl
set_option maxHeartbeats 8000000 in
set_option maxRecDepth 100000 in
theorem natural_Div.calls (k : Nat) (A0 : Option Addr) (c0 : Nat) (l0 : List Int) (A1 : Option Addr) (c1 : Nat) (l1 : List Int) (r1 : List Int) (r2 : List Int) (r3 : Int) (w : World) (hr0 : Kd.C (Kd.int .u32) w A0 l0.length l0) (hc0 : l0.length ≤ c0) (hr1 : Kd.C (Kd.int .u32) w A1 l1.length l1) (hc1 : l1.length ≤ c1) (h : natural_Div.f k l0 l1 = some (r1, r2, r3)) :
  Calls Try.prog 27 #[.slice A0 l0.length c0, .slice A1 l1.length c1] w fun e w' => ∃ v0_ v1_ : Value, e = .returned (.tuple #[v0_, v1_, .int .i64 r3]) ∧ Kd.R (Kd.int .u32) 35 w' w.heap.size (fun k_ => some k_ ≠ (v1_ : Value).ownBlock) v0_ r1 ∧ Kd.R (Kd.int .u32) 35 w' w.heap.size (fun k_ => some k_ ≠ (v0_ : Value).ownBlock) v1_ r2 ∧ Below w.heap.size w w' := by
 have HR0 := Aside0.mk hr0
 have HC0 := Aside0.mk hc0
 clear hr0 hc0
 have HR1 := Aside0.mk hr1
 have HC1 := Aside0.mk hc1
 clear hr1 hc1
 have HB := As (Below.refl w.heap.size w)
 have H : ((natural_Valid.f l0).bind fun t171 => (if t171 = true then ((natural_Valid.f l1).bind fun t172 => (natural_Div.j0 k l0 l1 (!t172))) else (natural_Div.j0 k l0 l1 true))) = some (r1, r2, r3) := h
 clear h
 have HC3 := Aside0.mk H
 clear H
 go_enter Try.func27, Try.ntmps27
 go_upto_region 1 with (fail)
 go_cut [13] (fun v13 wc => ∃ (kq : Nat) (x13_2 : Bool), v13 = .bool x13_2 ∧ Aside0 (natural_Div.j0 kq l0 l1 x13_2 = some (r1, r2, r3)) ∧ Aside0 (kq ≤ k) ∧ Aside0 (Below w.heap.size w wc))
 case first =>
  have H := HC3.out
  clear HC3
  replace H := Option.bind_eq_some_iff.mp H
  obtain ⟨t171, A40, H⟩ := H
  replace H : (if t171 = true then ((natural_Valid.f l1).bind fun t172 => (natural_Div.j0 k l0 l1 (!t172))) else (natural_Div.j0 k l0 l1 true)) = some (r1, r2, r3) := H
  have A4 := Aside0.mk A40
  clear A40
  by_cases c5 : t171 = true
  ·subst c5
   have H1 : ((natural_Valid.f l1).bind fun t172 => (natural_Div.j0 k l0 l1 (!t172))) = some (r1, r2, r3) := by rw [if_pos rfl] at H; exact H
   clear H
   have H := H1
   clear H1
   replace H := Option.bind_eq_some_iff.mp H
   obtain ⟨t172, A60, H⟩ := H
   replace H : (natural_Div.j0 k l0 l1 (!t172)) = some (r1, r2, r3) := H
   have A6 := Aside0.mk A60
   clear A60
   have H' := Aside0.mk H
   clear H
   go_wp2_with (first | ((with_reducible refine gate_callee (f := 20) rfl ?_); refine goesL_ (some 15) rfl rfl Try.func20 (by kernel_rfl) rfl #[.slice A0 l0.length c0] rfl (by (try simp only [List.map_toArray, List.map_cons, List.map_nil]); first | done | rfl | (simp only [List.length_drop, List.length_take]; rfl)) ?_; (with_reducible refine (natural_Valid.calls _ _ l0 true _ ?side1 ?side2 A4.out).mono ?_); (case side1 => repeat (first | exact (Kd.C_below HR0.out HB.out) | (with_reducible first | apply Ca | apply Cb | apply Cc))); (case side2 => exact HC0.out); rintro e w' ⟨rfl, ⟨nd, rfl⟩⟩; refine ⟨_, rfl, ?_⟩) | (go_at_call 20; (with_reducible refine (natural_Valid.calls _ _ l1 t172 _ ?side1 ?side2 A6.out).mono ?_); (case side1 => repeat (first | exact (Kd.C_below HR1.out (by repeat (first | (with_reducible first | exact HB.out | apply ba | apply bn | apply bd) | exact HB.out))) | (with_reducible first | apply Ca | apply Cb | apply Cc))); (case side2 => exact HC1.out); rintro e w' ⟨rfl, ⟨nd, rfl⟩⟩))
   go_meet
   case rel => exact ⟨_, (!t172), (by first | rfl | (simp; done) | (simp [*]; done)), H', ⟨by first | omega | exact Nat.le_refl _⟩, ⟨by repeat (first | (with_reducible first | exact HB.out | apply ba | apply bn | apply bd) | exact HB.out)⟩⟩
  ·replace c5 := Bool.eq_false_iff.mpr c5
   subst c5
   have H1 : (natural_Div.j0 k l0 l1 true) = some (r1, r2, r3) := by rw [if_neg (show ¬ (false = true) by decide)] at H; exact H
   clear H
   have H := H1
   clear H1
   have H' := Aside0.mk H
   clear H
   go_wp2_with (first | ((with_reducible refine gate_callee (f := 20) rfl ?_); refine goesL_ (some 15) rfl rfl Try.func20 (by kernel_rfl) rfl #[.slice A0 l0.length c0] rfl (by (try simp only [List.map_toArray, List.map_cons, List.map_nil]); first | done | rfl | (simp only [List.length_drop, List.length_take]; rfl)) ?_; (with_reducible refine (natural_Valid.calls _ _ l0 false _ ?side1 ?side2 A4.out).mono ?_); (case side1 => repeat (first | exact (Kd.C_below HR0.out HB.out) | (with_reducible first | apply Ca | apply Cb | apply Cc))); (case side2 => exact HC0.out); rintro e w' ⟨rfl, ⟨nd, rfl⟩⟩; refine ⟨_, rfl, ?_⟩))
   go_meet
   case rel => exact ⟨_, (true), (by first | rfl | (simp; done) | (simp [*]; done)), H', ⟨by first | omega | exact Nat.le_refl _⟩, ⟨by repeat (first | (with_reducible first | exact HB.out | apply ba | apply bn | apply bd) | exact HB.out)⟩⟩
 case rest =>
  clear HC3
  try clear c1
  try clear c2
  try clear p2
  try clear c5
  obtain ⟨kq, x13_2, rfl, HA, HJ2, HB⟩ := hcut
  cases kq with
  | zero => exact absurd HA.out (by simp [natural_Div.j0])
  | succ kj2 =>
   have H := HA.out
   clear HA
   simp only [natural_Div.j0] at H
   by_cases c7 : x13_2 = true
   ·subst c7
    have H1 : (some (([] : List Int), ([] : List Int), 1)) = some (r1, r2, r3) := by rw [if_pos rfl] at H; exact H
    clear H
    have H := H1
    clear H1
    simp only [Option.some.injEq, Prod.mk.injEq] at H
    obtain ⟨rfl, rfl, rfl⟩ := H
    go_wp2
    go_ret3
    exact ⟨_, _, by first | rfl | (simp [errW_none, errW_some] <;> rfl) | (simp [*, errW_none, errW_some] <;> rfl), by first | exact Kd.R_nil _ _ _ _ _ | exact Kd.N_nil _ _ _ _ _ | exact Kd.V_nil _ _ _ _ _ | exact Kd.Q_nil _ _ _ _ _ | exact Kd.S_nil _ _ _ _ _, by first | exact Kd.R_nil _ _ _ _ _ | exact Kd.N_nil _ _ _ _ _ | exact Kd.V_nil _ _ _ _ _ | exact Kd.Q_nil _ _ _ _ _ | exact Kd.S_nil _ _ _ _ _, by repeat (first | (with_reducible first | exact HB.out | apply ba | apply bn | apply bd) | exact HB.out)⟩
   ·replace c7 := Bool.eq_false_iff.mpr c7
    subst c7
    have H1 : (if (l1.length : Int) = 0 then (some (([] : List Int), ([] : List Int), 11)) else (if (l1.length : Int) = 1 then (if 0 < (l1.length : Int) then ((natural_short.f kj2 l0 (rd l1 0)).bind fun bt174 => ((natural_Of.f kj2 (IntKind.u64.wrap (bt174.2))).bind fun t178 => (some (bt174.1, t178, 0)))) else (none)) else (if 0 ≤ (l0.length : Int) then (if ((l0.length : Int) : Int).toNat ≤ 70368744177664 then (if 0 ≤ (wrap64 ((l1.length : Int) + 1)) then (if (wrap64 ((l1.length : Int) + 1) : Int).toNat ≤ 70368744177664 then (natural_Div.l0 kj2 l0 l1 (List.replicate ((l0.length : Int) : Int).toNat 0) (List.replicate (wrap64 ((l1.length : Int) + 1) : Int).toNat 0) (wrap64 (32 * (l0.length : Int))) 0) else (none)) else (none)) else (none)) else (none)))) = some (r1, r2, r3) := by rw [if_neg (show ¬ (false = true) by decide)] at H; exact H
    clear H
    have H := H1
    clear H1
    by_cases c8 : (l1.length : Int) = 0
    ·rw [if_pos c8] at H
     have c8b0 : ((l1.length : Int) == 0) = true := beq_iff_eq.mpr c8
     have c8b1 : ((l1.length : Int) != 0) = false := bne_eq_false_iff_eq.mpr c8
     clear c8
     simp only [Option.some.injEq, Prod.mk.injEq] at H
     obtain ⟨rfl, rfl, rfl⟩ := H
     go_wp2
     go_ret3
     exact ⟨_, _, by first | rfl | (simp [errW_none, errW_some] <;> rfl) | (simp [*, errW_none, errW_some] <;> rfl), by first | exact Kd.R_nil _ _ _ _ _ | exact Kd.N_nil _ _ _ _ _ | exact Kd.V_nil _ _ _ _ _ | exact Kd.Q_nil _ _ _ _ _ | exact Kd.S_nil _ _ _ _ _, by first | exact Kd.R_nil _ _ _ _ _ | exact Kd.N_nil _ _ _ _ _ | exact Kd.V_nil _ _ _ _ _ | exact Kd.Q_nil _ _ _ _ _ | exact Kd.S_nil _ _ _ _ _, by repeat (first | (with_reducible first | exact HB.out | apply ba | apply bn | apply bd) | exact HB.out)⟩
    ·rw [if_neg c8] at H
     have c8b0 : ((l1.length : Int) == 0) = false := beq_eq_false_iff_ne.mpr c8
     have c8b1 : ((l1.length : Int) != 0) = true := bne_iff_ne.mpr c8
     have c8b2 : ¬ (l1 = []) := fun h_ => c8 (by rw [h_]; rfl)
     by_cases c9 : (l1.length : Int) = 1
     ·rw [if_pos c9] at H
      have c9b0 : ((l1.length : Int) == 1) = true := beq_iff_eq.mpr c9
      have c9b1 : ((l1.length : Int) != 1) = false := bne_eq_false_iff_eq.mpr c9
      clear c9
      by_cases c10 : 0 < (l1.length : Int)
      ·rw [if_pos c10] at H
       have c10b0 : decide (0 < (l1.length : Int)) = true := decide_eq_true c10
       have c10b1 : decide (0 < l1.length) = true := decide_eq_true (by omega)
       clear c10
       replace H := Option.bind_eq_some_iff.mp H
       obtain ⟨⟨t174, t175⟩, A110, H⟩ := H
       replace H : ((natural_Of.f kj2 (IntKind.u64.wrap (t175))).bind fun t178 => (some (t174, t178, 0))) = some (r1, r2, r3) := H
       have A11 := Aside0.mk A110
       clear A110
       replace H := Option.bind_eq_some_iff.mp H
       obtain ⟨t178, A120, H⟩ := H
       replace H : (some (t174, t178, 0)) = some (r1, r2, r3) := H
       have A12 := Aside0.mk A120
       clear A120
       simp only [Option.some.injEq, Prod.mk.injEq] at H
       obtain ⟨rfl, rfl, rfl⟩ := H
       have p173 : 0 ≤ (0 : Int) := (by omega)
       have q173 : 0 < (l1.length : Int) := of_decide_eq_true (by first | (with_reducible assumption) | assumption)
       obtain ⟨ad173, e173, hx173_0⟩ := Kd.at_int HR1.out 0 p173 q173
       cases e173
       have qi173 : (0 < l1.length) = True := eq_true (by omega)
       (try rw [show ((0 : Int)).toNat = 0 from rfl] at hx173_0)
       (try rw [Addr.add_zero'] at hx173_0)
       replace hx173_0 := (HB.out.cell (World.block_lt_of_cell? w _ hx173_0)).trans hx173_0
       replace p173 := eq_true p173
       replace q173 := eq_true q173
       go_wp2_with (first | ((with_reducible refine gate_callee (f := 40) rfl ?_); refine goesL_ (some 35) rfl rfl Try.func40 (by kernel_rfl) rfl #[.slice A0 l0.length c0, .int .u32 (rd l1 0)] rfl (by (try simp only [List.map_toArray, List.map_cons, List.map_nil]); first | done | rfl | (simp only [List.length_drop, List.length_take]; rfl)) ?_; (with_reducible refine (natural_short.calls kj2 _ _ l0 (rd l1 0) t174 t175 _ ?side1 ?side2 A11.out).mono ?_); (case side1 => repeat (first | exact (Kd.C_below HR0.out HB.out) | (with_reducible first | apply Ca | apply Cb | apply Cc))); (case side2 => exact HC0.out); rintro e w13 ⟨v176, rfl, ho0, hb⟩; refine ⟨_, rfl, ?_⟩; have n0_ := As (Kd.R_lower ho0 (below_size (by repeat (first | (with_reducible first | exact HB.out | apply ba | apply bn | apply bd) | exact HB.out)))); have n1_ := As (below_step (by repeat (first | (with_reducible first | exact HB.out | apply ba | apply bn | apply bd) | exact HB.out)) hb); clear HB; have HO177 := n0_; have HB := n1_; clear n0_ n1_; (try clear hb); (try clear ho0)) | ((with_reducible refine gate_callee (f := 24) rfl ?_); refine goesL_ (some 41) rfl rfl Try.func24 (by kernel_rfl) rfl #[.int .u64 (IntKind.u64.wrap (t175))] rfl (by (try simp only [List.map_toArray, List.map_cons, List.map_nil]); first | done | rfl | (simp only [List.length_drop, List.length_take]; rfl)) ?_; (with_reducible refine (natural_Of.calls kj2 (IntKind.u64.wrap (t175)) t178 _ A12.out).mono ?_); rintro e w14 ⟨v179, rfl, ho0, hb⟩; refine ⟨_, rfl, ?_⟩; have n0_ := As (Kd.R_elder' (by (with_reducible repeat first | apply Ra | apply Rb | apply Rc); exact HO177.out) (Kd.R_base ho0) hb); have n1_ := As (Kd.R_lower (Kd.R_new' ho0 (Kd.R_lt (by (with_reducible repeat first | apply Ra | apply Rb | apply Rc); exact HO177.out))) (below_size (by repeat (first | (with_reducible first | exact HB.out | apply ba | apply bn | apply bd) | exact HB.out)))); have n2_ := As (below_step (by repeat (first | (with_reducible first | exact HB.out | apply ba | apply bn | apply bd) | exact HB.out)) hb); clear HO177; clear HB; have HO177 := n0_; have HO180 := n1_; have HB := n2_; clear n0_ n1_ n2_; (try clear hb); (try clear ho0)))
       go_ret3
       exact ⟨_, _, by first | rfl | (simp [errW_none, errW_some] <;> rfl) | (simp [*, errW_none, errW_some] <;> rfl), by (with_reducible repeat first | apply Ra | apply Rb | apply Rc); exact Kd.R_mono HO177.out (fun _ hk => hk.2), by (with_reducible repeat first | apply Ra | apply Rb | apply Rc); exact Kd.R_mono HO180.out (fun _ hk => hk.2), by repeat (first | (with_reducible first | exact HB.out | apply ba | apply bn | apply bd) | exact HB.out)⟩
      ·rw [if_neg c10] at H
       exact absurd H (by simp)
     ·rw [if_neg c9] at H
      have c9b0 : ((l1.length : Int) == 1) = false := beq_eq_false_iff_ne.mpr c9
      have c9b1 : ((l1.length : Int) != 1) = true := bne_iff_ne.mpr c9
      by_cases c15 : 0 ≤ (l0.length : Int)
      ·rw [if_pos c15] at H
       have c15b0 := eq_true c15
       have c15b1 : decide (0 ≤ (l0.length : Int)) = true := decide_eq_true c15
       clear c15
       by_cases c16 : ((l0.length : Int) : Int).toNat ≤ 70368744177664
       ·rw [if_pos c16] at H
        have c16b0 := eq_true c16
        have c16b1 : decide (((l0.length : Int) : Int).toNat ≤ 70368744177664) = true := decide_eq_true c16
        clear c16
        obtain ⟨y181, hy181⟩ : ∃ y_ : List Int, y_ = (List.replicate ((l0.length : Int) : Int).toNat 0) := ⟨_, rfl⟩
        replace H : (if 0 ≤ (wrap64 ((l1.length : Int) + 1)) then (if (wrap64 ((l1.length : Int) + 1) : Int).toNat ≤ 70368744177664 then (natural_Div.l0 kj2 l0 l1 y181 (List.replicate (wrap64 ((l1.length : Int) + 1) : Int).toNat 0) (wrap64 (32 * (l0.length : Int))) 0) else (none)) else (none)) = some (r1, r2, r3) := by first | (rw [hy181]; with_reducible exact H) | (have H2_ := (Option.bind_some _ _).symm.trans H; rw [hy181]; with_reducible exact H2_) | (have H2_ := (Option.bind_some _ _).symm.trans H; with_reducible exact H2_) | with_reducible exact H | (rw [hy181]; exact H) | exact H
        have Ny181 := Aside0.mk hy181
        clear hy181
        obtain ⟨ji17, hji17⟩ : ∃ j_ : Int, (wrap64 ((l1.length : Int) + 1)) = j_ := ⟨_, rfl⟩
        replace H : (if 0 ≤ (ji17) then (if (ji17 : Int).toNat ≤ 70368744177664 then (natural_Div.l0 kj2 l0 l1 y181 (List.replicate (ji17 : Int).toNat 0) (wrap64 (32 * (l0.length : Int))) 0) else (none)) else (none)) = some (r1, r2, r3) := by first | (rw [hji17] at H; exact H) | (simp only [hji17] at H ⊢; exact H)
        have hji17w : (IntKind.i64.wrap ((l1.length : Int) + 1)) = ji17 := (i64_w _).trans hji17
        by_cases c18 : 0 ≤ (ji17)
        ·rw [if_pos c18] at H
         have c18b0 := eq_true c18
         have c18b1 : decide (0 ≤ (ji17)) = true := decide_eq_true c18
         clear c18
         by_cases c19 : (ji17 : Int).toNat ≤ 70368744177664
         ·rw [if_pos c19] at H
          have c19b0 := eq_true c19
          have c19b1 : decide ((ji17 : Int).toNat ≤ 70368744177664) = true := decide_eq_true c19
          clear c19
          obtain ⟨y184, hy184⟩ : ∃ y_ : List Int, y_ = (List.replicate (ji17 : Int).toNat 0) := ⟨_, rfl⟩
          replace H : (natural_Div.l0 kj2 l0 l1 y181 y184 (wrap64 (32 * (l0.length : Int))) 0) = some (r1, r2, r3) := by first | (rw [hy184]; with_reducible exact H) | (have H2_ := (Option.bind_some _ _).symm.trans H; rw [hy184]; with_reducible exact H2_) | (have H2_ := (Option.bind_some _ _).symm.trans H; with_reducible exact H2_) | with_reducible exact H | (rw [hy184]; exact H) | exact H
          have Ny184 := Aside0.mk hy184
          clear hy184
          have H' := Aside0.mk H
          clear H
          go_wp2_with (first | ((with_reducible refine gate_dst (N := 44) rfl ?_); refine Kd.R_make (Kd.int .u32) _ 35 rfl (N := 44) rfl 23 _ _ rfl (l0.length : Int) rfl rfl Try.underlying23 (.int .u32 0) 4 info35 rfl (by decide) (by omega) 0 (ok := fun _ => True) (okp := fun _ => True) rfl (fun _ hk => hk) trivial (of_decide_eq_true (by first | (with_reducible assumption) | assumption)) (Nat.le_trans (Nat.mul_le_mul_right _ (of_decide_eq_true (by first | (with_reducible assumption) | assumption) : (l0.length : Int).toNat ≤ 70368744177664)) (by omega)) (Below.refl _ _) (Nat.le_refl _) ?_; intro v182 w20 ho21 hb hg_ hnew_; clear hg_ hnew_; (first | rw [← Ny181.out] at ho21 | (simp only [Int.reduceToNat] at ho21; rw [← Ny181.out] at ho21)); have n0_ := As (Kd.R_lower ho21 (below_size (by repeat (first | (with_reducible first | exact HB.out | apply ba | apply bn | apply bd) | exact HB.out)))); have n1_ := As (below_step (by repeat (first | (with_reducible first | exact HB.out | apply ba | apply bn | apply bd) | exact HB.out)) hb); clear HB; have HO183 := n0_; have HB := n1_; clear n0_ n1_; clear hb ho21) | ((with_reducible refine gate_dst (N := 48) rfl ?_); refine Kd.R_make (Kd.int .u32) _ 35 rfl (N := 48) rfl 23 _ _ rfl ji17 rfl rfl Try.underlying23 (.int .u32 0) 4 info35 rfl (by decide) (by omega) 0 (ok := fun _ => True) (okp := fun _ => True) rfl (fun _ hk => hk) trivial (of_decide_eq_true (by first | (with_reducible assumption) | assumption)) (Nat.le_trans (Nat.mul_le_mul_right _ (of_decide_eq_true (by first | (with_reducible assumption) | assumption) : ji17.toNat ≤ 70368744177664)) (by omega)) (Below.refl _ _) (Nat.le_refl _) ?_; intro v185 w22 ho23 hb hg_ hnew_; clear hg_ hnew_; (first | rw [← Ny184.out] at ho23 | (simp only [Int.reduceToNat] at ho23; rw [← Ny184.out] at ho23)); have n0_ := As (Kd.R_elder' (by (with_reducible repeat first | apply Ra | apply Rb | apply Rc); exact HO183.out) (Kd.R_base ho23) hb); have n1_ := As (Kd.R_lower (Kd.R_new' ho23 (Kd.R_lt (by (with_reducible repeat first | apply Ra | apply Rb | apply Rc); exact HO183.out))) (below_size (by repeat (first | (with_reducible first | exact HB.out | apply ba | apply bn | apply bd) | exact HB.out)))); have n2_ := As (below_step (by repeat (first | (with_reducible first | exact HB.out | apply ba | apply bn | apply bd) | exact HB.out)) hb); clear HO183; clear HB; have HO183 := n0_; have HO186 := n1_; have HB := n2_; clear n0_ n1_ n2_; clear hb ho23))
          go_loopg [52] kj2 (fun kq v52 w' => ∃ (x9_2 : List Int) (x10_2 : List Int) (x52_2 : Int), v52 = .int .i64 x52_2 ∧ Aside0 (natural_Div.l0 kq l0 l1 x9_2 x10_2 (wrap64 (32 * (l0.length : Int))) x52_2 = some (r1, r2, r3)) ∧ Aside0 (kq ≤ kj2) ∧ Aside0 (Kd.R (Kd.int .u32) 35 w' w.heap.size (fun k_ => some k_ ≠ (v185 : Value).ownBlock) v182 x9_2) ∧ Aside0 (Kd.R (Kd.int .u32) 35 w' w.heap.size (fun k_ => some k_ ≠ (v182 : Value).ownBlock) v185 x10_2) ∧ Aside0 (Below w.heap.size w w'))
          case atStart => exact ⟨(y181), (y184), (0), (by first | rfl | (simp; done) | (simp [*]; done)), H', ⟨Nat.le_refl _⟩, ⟨by (with_reducible repeat first | apply Ra | apply Rb | apply Rc); exact Kd.R_mono HO183.out (fun _ hk => hk.2)⟩, ⟨by (with_reducible repeat first | apply Ra | apply Rb | apply Rc); exact Kd.R_mono HO186.out (fun _ hk => hk.2)⟩, ⟨by repeat (first | (with_reducible first | exact HB.out | apply ba | apply bn | apply bd) | exact HB.out)⟩⟩
          case round =>
           clear H'
           try clear c1
           try clear p1
           try clear q1
           try clear hx1
           try clear qi1
           try clear c2
           try clear p2
           try clear c4
           try clear c5
           try clear p6
           try clear c7
           try clear c8
           try clear c8b0
           try clear c8b1
           try clear c8b2
           try clear c9
           try clear c9b0
           try clear c9b1
           try clear c10
           try clear c10b0
           try clear c10b1
           try clear c15
           try clear c15b0
           try clear c15b1
           try clear c16
           try clear c16b0
           try clear c16b1
           try clear p17
           try clear q17
           try clear hx17
           try clear qi17
           try clear c18
           try clear c18b0
           try clear c18b1
           try clear c19
           try clear c19b0
           try clear c19b1
           try clear c20
           try clear hx173_0
           try clear p173
           try clear p2
           try clear q173
           obtain ⟨x9_2, x10_2, x52_2, rfl, HA, HK2, HO_9, HO_10, HB⟩ := hrel
           cases gk with
           | zero => exact absurd HA.out (by simp [natural_Div.l0])
           | succ k2 =>
            have H := HA.out
            clear HA
            simp only [natural_Div.l0] at H
            by_cases c24 : x52_2 < (wrap64 (32 * (l0.length : Int)))
            ·rw [if_pos c24] at H
             have c24b0 : decide (x52_2 < (wrap64 (32 * (l0.length : Int)))) = true := decide_eq_true c24
             clear c24
             obtain ⟨ji25, hji25⟩ : ∃ j_ : Int, (wrap64 (Int.tdiv (wrap64 ((wrap64 ((wrap64 (32 * (l0.length : Int))) - 1)) - x52_2)) 32)) = j_ := ⟨_, rfl⟩
             replace H : (if 0 ≤ (ji25) then (if (ji25) < (l0.length : Int) then (if 0 ≤ (Int.tmod (wrap64 ((wrap64 ((wrap64 (32 * (l0.length : Int))) - 1)) - x52_2)) 32) then ((natural_shift.f k2 x10_2 (Go.bits .and .u32 (shr .u32 (rd l0 (ji25)) (Int.tmod (wrap64 ((wrap64 ((wrap64 (32 * (l0.length : Int))) - 1)) - x52_2)) 32)) 1)).bind fun t196 => ((natural_less.f k2 t196 l1).bind fun t197 => (if t197 = true then (natural_Div.l0 k2 l0 l1 x9_2 t196 (wrap64 (32 * (l0.length : Int))) (wrap64 (x52_2 + 1))) else ((natural_subtract.f k2 t196 l1).bind fun t198 => (if (ji25) < (x9_2.length : Int) then (natural_Div.l0 k2 l0 l1 (x9_2.set ((ji25) : Int).toNat (Go.bits .or .u32 (rd x9_2 (ji25)) (shl .u32 1 (Int.tmod (wrap64 ((wrap64 ((wrap64 (32 * (l0.length : Int))) - 1)) - x52_2)) 32)))) t198 (wrap64 (32 * (l0.length : Int))) (wrap64 (x52_2 + 1))) else (none)))))) else (none)) else (none)) else (none)) = some (r1, r2, r3) := by first | (rw [hji25] at H; exact H) | (simp only [hji25] at H ⊢; exact H)
             have hji25w : (IntKind.i64.wrap (Int.tdiv (wrap64 ((wrap64 ((wrap64 (32 * (l0.length : Int))) - 1)) - x52_2)) 32)) = ji25 := (i64_w _).trans hji25
             by_cases c26 : 0 ≤ (ji25)
             ·rw [if_pos c26] at H
              have c26b0 : decide (0 ≤ (ji25)) = true := decide_eq_true c26
              clear c26
              by_cases c27 : (ji25) < (l0.length : Int)
              ·rw [if_pos c27] at H
               have c27b0 : decide ((ji25) < (l0.length : Int)) = true := decide_eq_true c27
               clear c27
               obtain ⟨ji28, hji28⟩ : ∃ j_ : Int, (Int.tmod (wrap64 ((wrap64 ((wrap64 (32 * (l0.length : Int))) - 1)) - x52_2)) 32) = j_ := ⟨_, rfl⟩
               replace H : (if 0 ≤ (ji28) then ((natural_shift.f k2 x10_2 (Go.bits .and .u32 (shr .u32 (rd l0 (ji25)) (ji28)) 1)).bind fun t196 => ((natural_less.f k2 t196 l1).bind fun t197 => (if t197 = true then (natural_Div.l0 k2 l0 l1 x9_2 t196 (wrap64 (32 * (l0.length : Int))) (wrap64 (x52_2 + 1))) else ((natural_subtract.f k2 t196 l1).bind fun t198 => (if (ji25) < (x9_2.length : Int) then (natural_Div.l0 k2 l0 l1 (x9_2.set ((ji25) : Int).toNat (Go.bits .or .u32 (rd x9_2 (ji25)) (shl .u32 1 (ji28)))) t198 (wrap64 (32 * (l0.length : Int))) (wrap64 (x52_2 + 1))) else (none)))))) else (none)) = some (r1, r2, r3) := by first | (rw [hji28] at H; exact H) | (simp only [hji28] at H ⊢; exact H)
               by_cases c29 : 0 ≤ (ji28)
               ·rw [if_pos c29] at H
                have c29b0 := eq_true c29
                have c29b1 : decide (0 ≤ (ji28)) = true := decide_eq_true c29
                clear c29
                obtain ⟨ji30, hji30⟩ : ∃ j_ : Int, (shr .u32 (rd l0 (ji25)) (ji28)) = j_ := ⟨_, rfl⟩
                replace H : ((natural_shift.f k2 x10_2 (Go.bits .and .u32 (ji30) 1)).bind fun t196 => ((natural_less.f k2 t196 l1).bind fun t197 => (if t197 = true then (natural_Div.l0 k2 l0 l1 x9_2 t196 (wrap64 (32 * (l0.length : Int))) (wrap64 (x52_2 + 1))) else ((natural_subtract.f k2 t196 l1).bind fun t198 => (if (ji25) < (x9_2.length : Int) then (natural_Div.l0 k2 l0 l1 (x9_2.set ((ji25) : Int).toNat (Go.bits .or .u32 (rd x9_2 (ji25)) (shl .u32 1 (ji28)))) t198 (wrap64 (32 * (l0.length : Int))) (wrap64 (x52_2 + 1))) else (none)))))) = some (r1, r2, r3) := by first | (rw [hji30] at H; exact H) | (simp only [hji30] at H ⊢; exact H)
                have hji30_ : ((rd l0 (ji25)) / 2 ^ min (ji28).toNat 32) = ji30 := hji30
                have hji30z : (ji28) ≤ 32 → ((rd l0 (ji25)) / 2 ^ (ji28).toNat) = ji30 := shr_small hji30
                replace H := Option.bind_eq_some_iff.mp H
                obtain ⟨t196, A310, H⟩ := H
                replace H : ((natural_less.f k2 t196 l1).bind fun t197 => (if t197 = true then (natural_Div.l0 k2 l0 l1 x9_2 t196 (wrap64 (32 * (l0.length : Int))) (wrap64 (x52_2 + 1))) else ((natural_subtract.f k2 t196 l1).bind fun t198 => (if (ji25) < (x9_2.length : Int) then (natural_Div.l0 k2 l0 l1 (x9_2.set ((ji25) : Int).toNat (Go.bits .or .u32 (rd x9_2 (ji25)) (shl .u32 1 (ji28)))) t198 (wrap64 (32 * (l0.length : Int))) (wrap64 (x52_2 + 1))) else (none))))) = some (r1, r2, r3) := H
                have A31 := Aside0.mk A310
                clear A310
                replace H := Option.bind_eq_some_iff.mp H
                obtain ⟨t197, A320, H⟩ := H
                replace H : (if t197 = true then (natural_Div.l0 k2 l0 l1 x9_2 t196 (wrap64 (32 * (l0.length : Int))) (wrap64 (x52_2 + 1))) else ((natural_subtract.f k2 t196 l1).bind fun t198 => (if (ji25) < (x9_2.length : Int) then (natural_Div.l0 k2 l0 l1 (x9_2.set ((ji25) : Int).toNat (Go.bits .or .u32 (rd x9_2 (ji25)) (shl .u32 1 (ji28)))) t198 (wrap64 (32 * (l0.length : Int))) (wrap64 (x52_2 + 1))) else (none)))) = some (r1, r2, r3) := H
                have A32 := Aside0.mk A320
                clear A320
                by_cases c33 : t197 = true
                ·subst c33
                 have H1 : (natural_Div.l0 k2 l0 l1 x9_2 t196 (wrap64 (32 * (l0.length : Int))) (wrap64 (x52_2 + 1))) = some (r1, r2, r3) := by rw [if_pos rfl] at H; exact H
                 clear H
                 have H := H1
                 clear H1
                 have H' := Aside0.mk H
                 clear H
                 have p195 : 0 ≤ ((ji25) : Int) := of_decide_eq_true (by first | (with_reducible assumption) | assumption)
                 have q195 : (ji25) < (l0.length : Int) := of_decide_eq_true (by first | (with_reducible assumption) | assumption)
                 obtain ⟨ad195, e195, hx195_0⟩ := Kd.at_int HR0.out (ji25) p195 q195
                 cases e195
                 replace hx195_0 := (HB.out.cell (World.block_lt_of_cell? w _ hx195_0)).trans hx195_0
                 replace p195 := eq_true p195
                 replace q195 := eq_true q195
                 obtain ⟨Ao34, co34, eo34⟩ := Kd.R_slice HO_10.out
                 subst eo34
                 go_wp2_with (first | ((with_reducible refine gate_callee (f := 45) rfl ?_); refine goesL_ (some 71) rfl rfl Try.func45 (by kernel_rfl) rfl #[.slice Ao34 x10_2.length co34, .int .u32 (Go.bits .and .u32 (ji30) 1)] rfl (by (try simp only [List.map_toArray, List.map_cons, List.map_nil]); first | done | (simp only [hji30]; rfl) | rfl | (simp only [List.length_drop, List.length_take]; rfl)) ?_; (with_reducible refine (natural_shift.calls k2 (fun k_ => some k_ = (.slice Ao34 x10_2.length co34 : Value).ownBlock) (.slice Ao34 x10_2.length co34) x10_2 (Go.bits .and .u32 (ji30) 1) t196 w _ ?side1 ?side2 A31.out).mono ?_); (case side1 => repeat (first | (with_reducible first | exact HB.out | apply ba | apply bn | apply bd) | exact HB.out)); (case side2 => exact Kd.R_tight rfl HO_10.out); rintro e w35 ⟨rfl, hy0, hb, hkp⟩; refine ⟨_, rfl, ?_⟩; have n0_ := As (Kd.R_mono (ok' := fun k_ => some k_ ≠ (.slice Ao34 x10_2.length co34 : Value).ownBlock) (Kd.R_keptB (HO_9.out) hkp (fun k_ hk_ hs_ => (hk_) hs_)) (fun k_ hk_ => hk_.1)); have n1_ := As (Kd.R_reok rfl hy0 (fun k_ e_ => HO_10.out.1 k_ e_)); have n2_ := As (hb); clear HO_9; clear HO_10; clear HB; have HO_9 := n0_; have HO_10 := n1_; have HB := n2_; clear n0_ n1_ n2_; (try clear hb); (try clear hkp); (try clear hy0)) | ((with_reducible refine gate_callee (f := 46) rfl ?_); refine goesL_ (some 74) rfl rfl Try.func46 (by kernel_rfl) rfl #[.slice Ao34 t196.length co34, .slice A1 l1.length c1] rfl (by (try simp only [List.map_toArray, List.map_cons, List.map_nil]); first | done | (rw [show t196.length = x10_2.length from (Kd.R_reads' HO_10.out).1.symm] <;> rfl) | rfl | (simp only [List.length_drop, List.length_take]; rfl)) ?_; (with_reducible refine (natural_less.calls k2 _ _ t196 _ _ l1 true _ ?side1 ?side2 ?side3 ?side4 A32.out).mono ?_); (case side1 => repeat (first | exact (Kd.R_reads' HO_10.out).2.2 | (with_reducible first | apply Ca | apply Cb | apply Cc))); (case side2 => rw [show t196.length = x10_2.length from (Kd.R_reads' HO_10.out).1.symm]; exact (Kd.R_reads' HO_10.out).2.1); (case side3 => repeat (first | exact (Kd.C_below HR1.out HB.out) | (with_reducible first | apply Ca | apply Cb | apply Cc))); (case side4 => exact HC1.out); rintro e w' ⟨rfl, ⟨nd, rfl⟩⟩; refine ⟨_, rfl, ?_⟩))
                 go_roundg k2
                 case measure => have := HJ2.out; have := HK2.out; omega
                 case rel => exact ⟨(x9_2), (t196), (wrap64 (x52_2 + 1)), (by first | rfl | (simp; done) | (simp [*]; done)), H', ⟨by have := HJ2.out; have := HK2.out; omega⟩, ⟨by (with_reducible repeat first | apply Ra | apply Rb | apply Rc); exact HO_9.out⟩, ⟨by (with_reducible repeat first | apply Ra | apply Rb | apply Rc); exact HO_10.out⟩, ⟨by repeat (first | (with_reducible first | exact HB.out | apply ba | apply bn | apply bd) | exact HB.out)⟩⟩
                ·replace c33 := Bool.eq_false_iff.mpr c33
                 subst c33
                 have H1 : ((natural_subtract.f k2 t196 l1).bind fun t198 => (if (ji25) < (x9_2.length : Int) then (natural_Div.l0 k2 l0 l1 (x9_2.set ((ji25) : Int).toNat (Go.bits .or .u32 (rd x9_2 (ji25)) (shl .u32 1 (ji28)))) t198 (wrap64 (32 * (l0.length : Int))) (wrap64 (x52_2 + 1))) else (none))) = some (r1, r2, r3) := by rw [if_neg (show ¬ (false = true) by decide)] at H; exact H
                 clear H
                 have H := H1
                 clear H1
                 replace H := Option.bind_eq_some_iff.mp H
                 obtain ⟨t198, A360, H⟩ := H
                 replace H : (if (ji25) < (x9_2.length : Int) then (natural_Div.l0 k2 l0 l1 (x9_2.set ((ji25) : Int).toNat (Go.bits .or .u32 (rd x9_2 (ji25)) (shl .u32 1 (ji28)))) t198 (wrap64 (32 * (l0.length : Int))) (wrap64 (x52_2 + 1))) else (none)) = some (r1, r2, r3) := H
                 have A36 := Aside0.mk A360
                 clear A360
                 by_cases c37 : (ji25) < (x9_2.length : Int)
                 ·rw [if_pos c37] at H
                  have c37b0 : decide ((ji25) < (x9_2.length : Int)) = true := decide_eq_true c37
                  clear c37
                  have c38b0 := eq_true (of_decide_eq_true (by first | (with_reducible assumption) | assumption) : 0 ≤ (ji28))
                  obtain ⟨ji39, hji39⟩ : ∃ j_ : Int, (shl .u32 1 (ji28)) = j_ := ⟨_, rfl⟩
                  replace H : (natural_Div.l0 k2 l0 l1 (x9_2.set ((ji25) : Int).toNat (Go.bits .or .u32 (rd x9_2 (ji25)) (ji39))) t198 (wrap64 (32 * (l0.length : Int))) (wrap64 (x52_2 + 1))) = some (r1, r2, r3) := by first | (rw [hji39] at H; exact H) | (simp only [hji39] at H ⊢; exact H)
                  (try rw [hji39] at A31)
                  (try rw [hji39] at A32)
                  (try rw [hji39] at A36)
                  have hji39_ : (IntKind.u32.wrap (1 * 2 ^ min (ji28).toNat 32)) = ji39 := hji39
                  have hji39z : (ji28) ≤ 32 → (IntKind.u32.wrap (1 * 2 ^ (ji28).toNat)) = ji39 := shl_small hji39
                  have hji39u : (IntKind.u32.wrap (2 ^ min (ji28).toNat 32)) = ji39 := by have h_ := hji39_; rw [Int.one_mul] at h_; exact h_
                  have hji39v : (ji28) ≤ 32 → (IntKind.u32.wrap (2 ^ (ji28).toNat)) = ji39 := fun hle_ => by have h_ := hji39z hle_; rw [Int.one_mul] at h_; exact h_
                  obtain ⟨y200, hy200⟩ : ∃ y_ : List Int, y_ = (x9_2.set ((ji25) : Int).toNat (Go.bits .or .u32 (rd x9_2 (ji25)) (ji39))) := ⟨_, rfl⟩
                  replace H : (natural_Div.l0 k2 l0 l1 y200 t198 (wrap64 (32 * (l0.length : Int))) (wrap64 (x52_2 + 1))) = some (r1, r2, r3) := by first | (rw [hy200]; with_reducible exact H) | (have H2_ := (Option.bind_some _ _).symm.trans H; rw [hy200]; with_reducible exact H2_) | (have H2_ := (Option.bind_some _ _).symm.trans H; with_reducible exact H2_) | with_reducible exact H | (rw [hy200]; exact H) | exact H
                  have Ny200 := Aside0.mk hy200
                  clear hy200
                  have H' := Aside0.mk H
                  clear H
                  have p195 : 0 ≤ ((ji25) : Int) := of_decide_eq_true (by first | (with_reducible assumption) | assumption)
                  have q195 : (ji25) < (l0.length : Int) := of_decide_eq_true (by first | (with_reducible assumption) | assumption)
                  obtain ⟨ad195, e195, hx195_0⟩ := Kd.at_int HR0.out (ji25) p195 q195
                  cases e195
                  replace hx195_0 := (HB.out.cell (World.block_lt_of_cell? w _ hx195_0)).trans hx195_0
                  replace p195 := eq_true p195
                  replace q195 := eq_true q195
                  obtain ⟨Ao41, co41, eo41⟩ := Kd.R_slice HO_10.out
                  subst eo41
                  try go_wp2_with (first | ((with_reducible refine gate_callee (f := 45) rfl ?_); refine goesL_ (some 71) rfl rfl Try.func45 (by kernel_rfl) rfl #[.slice Ao41 x10_2.length co41, .int .u32 (Go.bits .and .u32 (ji30) 1)] rfl (by (try simp only [List.map_toArray, List.map_cons, List.map_nil]); first | done | (simp only [hji30]; rfl) | rfl | (simp only [List.length_drop, List.length_take]; rfl)) ?_; (with_reducible refine (natural_shift.calls k2 (fun k_ => some k_ = (.slice Ao41 x10_2.length co41 : Value).ownBlock) (.slice Ao41 x10_2.length co41) x10_2 (Go.bits .and .u32 (ji30) 1) t196 w _ ?side1 ?side2 A31.out).mono ?_); (case side1 => repeat (first | (with_reducible first | exact HB.out | apply ba | apply bn | apply bd) | exact HB.out)); (case side2 => exact Kd.R_tight rfl HO_10.out); rintro e w42 ⟨rfl, hy0, hb, hkp⟩; refine ⟨_, rfl, ?_⟩; have n0_ := As (Kd.R_mono (ok' := fun k_ => some k_ ≠ (.slice Ao41 x10_2.length co41 : Value).ownBlock) (Kd.R_keptB (HO_9.out) hkp (fun k_ hk_ hs_ => (hk_) hs_)) (fun k_ hk_ => hk_.1)); have n1_ := As (Kd.R_reok rfl hy0 (fun k_ e_ => HO_10.out.1 k_ e_)); have n2_ := As (hb); clear HO_9; clear HO_10; clear HB; have HO_9 := n0_; have HO_10 := n1_; have HB := n2_; clear n0_ n1_ n2_; (try clear hb); (try clear hkp); (try clear hy0)) | ((with_reducible refine gate_callee (f := 46) rfl ?_); refine goesL_ (some 74) rfl rfl Try.func46 (by kernel_rfl) rfl #[.slice Ao41 t196.length co41, .slice A1 l1.length c1] rfl (by (try simp only [List.map_toArray, List.map_cons, List.map_nil]); first | done | (rw [show t196.length = x10_2.length from (Kd.R_reads' HO_10.out).1.symm] <;> rfl) | rfl | (simp only [List.length_drop, List.length_take]; rfl)) ?_; (with_reducible refine (natural_less.calls k2 _ _ t196 _ _ l1 false _ ?side1 ?side2 ?side3 ?side4 A32.out).mono ?_); (case side1 => repeat (first | exact (Kd.R_reads' HO_10.out).2.2 | (with_reducible first | apply Ca | apply Cb | apply Cc))); (case side2 => rw [show t196.length = x10_2.length from (Kd.R_reads' HO_10.out).1.symm]; exact (Kd.R_reads' HO_10.out).2.1); (case side3 => repeat (first | exact (Kd.C_below HR1.out HB.out) | (with_reducible first | apply Ca | apply Cb | apply Cc))); (case side4 => exact HC1.out); rintro e w' ⟨rfl, ⟨nd, rfl⟩⟩; refine ⟨_, rfl, ?_⟩; (try (rw [drewN_self w42]; generalize hq_ : World.drewN w42 _ = w42; have n0_ : Aside0 (Kd.R (Kd.int .u32) 35 w42 w.heap.size (fun k_ => some k_ ≠ (v182 : Value).ownBlock) (.slice Ao41 x10_2.length co41) t196) := ⟨by rw [← hq_]; exact (by (with_reducible repeat first | apply Ra | apply Rb | apply Rc); exact HO_10.out)⟩; have n1_ : Aside0 (Kd.R (Kd.int .u32) 35 w42 w.heap.size (fun k_ => some k_ ≠ (.slice Ao41 x10_2.length co41 : Value).ownBlock) v182 x9_2) := ⟨by rw [← hq_]; exact (by (with_reducible repeat first | apply Ra | apply Rb | apply Rc); exact HO_9.out)⟩; have n2_ : Aside0 (Below w.heap.size w w42) := ⟨by rw [← hq_]; exact (by repeat (first | (with_reducible first | exact HB.out | apply ba | apply bn | apply bd) | exact HB.out))⟩; clear HO_10 HO_9 HB hq_; have HO_10 := n0_; have HO_9 := n1_; have HB := n2_; clear n0_ n1_ n2_))) | ((with_reducible refine gate_callee (f := 44) rfl ?_); refine goesL_ (some 78) rfl rfl Try.func44 (by kernel_rfl) rfl #[.slice Ao41 x10_2.length co41, .slice A1 l1.length c1] rfl (by (try simp only [List.map_toArray, List.map_cons, List.map_nil]); first | done | rfl | (simp only [List.length_drop, List.length_take]; rfl)) ?_; (with_reducible refine (natural_subtract.calls k2 (fun k_ => some k_ = (.slice Ao41 x10_2.length co41 : Value).ownBlock) (.slice Ao41 x10_2.length co41) t196 _ _ l1 t198 w _ ?side1 ?side2 ?side3 ?side4 A36.out).mono ?_); (case side1 => repeat (first | (with_reducible first | exact HB.out | apply ba | apply bn | apply bd) | exact HB.out)); (case side2 => exact Kd.R_tight rfl HO_10.out); (case side3 => exact Kd.C_kept_came (Kd.heap_int .u32) HR1.out (by repeat (first | (with_reducible first | exact HB.out | apply ba | apply bn | apply bd) | exact HB.out)) (fun k_ hs_ => (fun e_ => Kd.R_base HO_10.out k_ e_.symm) hs_)); (case side4 => exact HC1.out); rintro e w43 ⟨rfl, hy0, hb, hkp⟩; refine ⟨_, rfl, ?_⟩; have n0_ := As (Kd.R_mono (ok' := fun k_ => some k_ ≠ (.slice Ao41 x10_2.length co41 : Value).ownBlock) (Kd.R_keptB (HO_9.out) hkp (fun k_ hk_ hs_ => (hk_) hs_)) (fun k_ hk_ => hk_.1)); have n1_ := As (Kd.R_reok rfl hy0 (fun k_ e_ => HO_10.out.1 k_ e_)); have n2_ := As (hb); clear HO_9; clear HO_10; clear HB; have HO_9 := n0_; have HO_10 := n1_; have HB := n2_; clear n0_ n1_ n2_; (try clear hb); (try clear hkp); (try clear hy0)))
                  have n0_ := As (Kd.R_drew HO_9.out)
                  have n1_ := As (Kd.R_drew HO_10.out)
                  have n2_ := As (below_drew1 HB.out)
                  clear HO_9
                  clear HO_10
                  clear HB
                  have HO_9 := n0_
                  have HO_10 := n1_
                  have HB := n2_
                  clear n0_ n1_ n2_
                  obtain ⟨Ao45, co45, eo45⟩ := Kd.R_slice HO_9.out
                  (first | subst eo45 | (injection eo45 with f1_ f2_ f3_; have f4_ := f1_.symm; have f5_ := f3_.symm; clear f1_ f2_ f3_; subst f4_; subst f5_))
                  have p199 : 0 ≤ ((ji25) : Int) := of_decide_eq_true (by first | (with_reducible assumption) | assumption)
                  have q199 : (ji25) < (x9_2.length : Int) := of_decide_eq_true (by first | (with_reducible assumption) | assumption)
                  obtain ⟨ad199, e199, hx199_0⟩ := Kd.at_int (Kd.R_reads' HO_9.out).2.2 (ji25) p199 q199
                  cases e199
                  replace p199 := eq_true p199
                  replace q199 := eq_true q199
                  have p40 : 0 ≤ ((ji25) : Int) := of_decide_eq_true (by first | (with_reducible assumption) | assumption)
                  have q40 : ((ji25) : Int) < ((x9_2.length : Int) : Int) := of_decide_eq_true (by first | (with_reducible assumption) | assumption)
                  obtain ⟨go40, co40, eo40, gb40, gl40, cl40, HG40⟩ := Kd.R_form HO_9.out (by omega)
                  (first | cases eo40 | (injection eo40 with ea_ en_ ec_; (first | subst ea_ | (injection ea_ with ea_; subst ea_)); subst ec_; clear en_))
                  have GB40 := Aside0.mk gb40
                  have GG40 := Aside0.mk HG40
                  clear gb40 gl40 HG40
                  (first | simp only [add_plain] at hx199_0 | skip)
                  obtain ⟨hx40_0, hf40_0⟩ := Kd.R_celln 0 HO_9.out ((ji25) : Int) p40 q40
                  replace p40 := eq_true p40
                  replace q40 := eq_true q40
                  have HP46 := Kd.R_putn HO_9.out ((ji25) : Int) (Go.bits .or .u32 (rd x9_2 (ji25)) (ji39))
                  rw [← Ny200.out] at HP46
                  have HQ46 := Aside0.mk HP46
                  clear HP46
                  refine start_ (n := 11) (S := fun w' => w'.cell? ⟨go40, ((ji25)).toNat, none⟩ = some (.int .u32 (rd x9_2 (ji25)))) (ds := [10]) #[false, false, false, false, false, false, false, false, false, false, false] (by kernel_rfl) rfl rfl (hx199_0) (fun hHeld => ?_); refine with_tabW natural_Div.tab17 natural_Div.bits17 (fun HT_ HW_ => ?_)
                  generalize w43.drew = w44 at HO_9 HO_10 HB GG40 HQ46 hf40_0 hx199_0 hx40_0 hHeld ⊢
                  refine pure_ (i := 0) (N := some 79) (v := ?_) (a' := ?_) #[true, false, false, false, false, false, false, false, false, false, false] rfl rfl (any_of HT_.out (by kernel_rfl)) (fun _ _ _ h => h) (Or.inl ⟨by rfl, ?_⟩) ?_ ?_
                  rotate_left
                  ·intro w'
                   go_simp
                   with_reducible rfl
                  rotate_left
                  ·simp only [Act.put, List.setIfInBounds_toArray, List.set_cons_zero, List.set_cons_succ, i64_w, i32_w]
                   rfl
                  refine pure_ (i := 1) (N := some 80) (v := ?_) (a' := ?_) #[true, true, false, false, false, false, false, false, false, false, false] rfl rfl (any_of HT_.out (by kernel_rfl)) (fun _ _ _ h => h) (Or.inl ⟨by rfl, ?_⟩) ?_ ?_
                  rotate_left
                  ·intro w'
                   go_simp
                   with_reducible rfl
                  rotate_left
                  ·simp only [Act.put, List.setIfInBounds_toArray, List.set_cons_zero, List.set_cons_succ, i64_w, i32_w]
                   rfl
                  refine pure_ (i := 2) (N := some 81) (v := ?_) (a' := ?_) #[true, true, true, false, false, false, false, false, false, false, false] rfl rfl (any_of HT_.out (by kernel_rfl)) (fun _ _ _ h => h) (Or.inl ⟨by rfl, ?_⟩) ?_ ?_
                  rotate_left
                  ·intro w'
                   go_simp
                   with_reducible rfl
                  rotate_left
                  ·simp only [Act.put, List.setIfInBounds_toArray, List.set_cons_zero, List.set_cons_succ, i64_w, i32_w]
                   rfl
                  refine pure_ (i := 3) (N := some 82) (v := ?_) (a' := ?_) #[true, true, true, true, false, false, false, false, false, false, false] rfl rfl (any_of HT_.out (by kernel_rfl)) (fun _ _ _ h => h) (Or.inl ⟨by rfl, ?_⟩) ?_ ?_
                  rotate_left
                  ·intro w'
                   go_simp
                   with_reducible rfl
                  rotate_left
                  ·simp only [Act.put, List.setIfInBounds_toArray, List.set_cons_zero, List.set_cons_succ, i64_w, i32_w]
                   rfl
                  refine pure_ (i := 5) (N := some 84) (v := ?_) (a' := ?_) #[true, true, true, true, false, true, false, false, false, false, false] rfl rfl (any_of HT_.out (by kernel_rfl)) (fun _ _ _ h => h) (Or.inl ⟨by rfl, ?_⟩) ?_ ?_
                  rotate_left
                  ·intro w'
                   go_simp
                   with_reducible rfl
                  rotate_left
                  ·simp only [Act.put, List.setIfInBounds_toArray, List.set_cons_zero, List.set_cons_succ, i64_w, i32_w]
                   rfl
                  refine pure_ (i := 6) (N := some 85) (v := ?_) (a' := ?_) #[true, true, true, true, false, true, true, false, false, false, false] rfl rfl (any_of HT_.out (by kernel_rfl)) (fun _ _ _ h => h) (Or.inl ⟨by rfl, ?_⟩) ?_ ?_
                  rotate_left
                  ·intro w'
                   go_simp
                   with_reducible rfl
                  rotate_left
                  ·simp only [Act.put, List.setIfInBounds_toArray, List.set_cons_zero, List.set_cons_succ, i64_w, i32_w]
                   rfl
                  refine pure_ (i := 7) (N := some 86) (v := ?_) (a' := ?_) #[true, true, true, true, false, true, true, true, false, false, false] rfl rfl (any_of HT_.out (by kernel_rfl)) (fun _ _ _ h => h) (Or.inl ⟨by rfl, ?_⟩) ?_ ?_
                  rotate_left
                  ·intro w'
                   go_simp
                   with_reducible rfl
                  rotate_left
                  ·simp only [Act.put, List.setIfInBounds_toArray, List.set_cons_zero, List.set_cons_succ, i64_w, i32_w]
                   rfl
                  refine take_ (i := 4) (N := some 83) (v := ?_) (a' := ?_) #[true, true, true, true, true, true, true, true, false, false, false] rfl rfl (take_ofW HT_.out HW_.out (by kernel_rfl)) (fun _ _ _ h => h) (Or.inl ⟨by rfl, ?_⟩) hHeld ?_ ?_
                  rotate_left
                  ·intro w' s0
                   go_simp
                   with_reducible rfl
                  rotate_left
                  ·simp only [Act.put, List.setIfInBounds_toArray, List.set_cons_zero, List.set_cons_succ, i64_w, i32_w]
                   rfl
                  refine pure_ (i := 8) (N := some 87) (v := ?_) (a' := ?_) #[true, true, true, true, true, true, true, true, true, false, false] rfl rfl (any_of HT_.out (by kernel_rfl)) (fun _ _ _ h => h) (Or.inl ⟨by rfl, ?_⟩) ?_ ?_
                  rotate_left
                  ·intro w'
                   go_simp
                   with_reducible rfl
                  rotate_left
                  ·simp only [Act.put, List.setIfInBounds_toArray, List.set_cons_zero, List.set_cons_succ, i64_w, i32_w]
                   rfl
                  refine pure_ (i := 9) (N := some 88) (v := ?_) (a' := ?_) #[true, true, true, true, true, true, true, true, true, true, false] rfl rfl (any_of HT_.out (by kernel_rfl)) (fun _ _ _ h => h) (Or.inl ⟨by rfl, ?_⟩) ?_ ?_
                  rotate_left
                  ·intro w'
                   go_simp
                   with_reducible rfl
                  rotate_left
                  ·simp only [Act.put, List.setIfInBounds_toArray, List.set_cons_zero, List.set_cons_succ, i64_w, i32_w]
                   rfl
                  refine last_ (i := 10) (N := none) #[true, true, true, true, true, true, true, true, true, true, true] rfl rfl (one_of HT_.out (by kernel_rfl)) (by decide) (fun K hK => ?_)
                  refine skip_ (w1 := ?_) (by rfl) rfl ?_ ?_
                  rotate_left
                  ·go_simp
                   rfl
                  refine hK.out _ _ ?_
                  clear hK K
                  refine done_ (done_of HT_.out (by kernel_rfl)) ?_
                  try go_wp2
                  go_roundg k2
                  case measure => have := HJ2.out; have := HK2.out; omega
                  case rel => exact ⟨(y200), (t198), (wrap64 (x52_2 + 1)), (by first | rfl | (simp; done) | (simp [*]; done)), H', ⟨by have := HJ2.out; have := HK2.out; omega⟩, ⟨by (with_reducible repeat first | apply Ra | apply Rb | apply Rc); exact HQ46.out⟩, ⟨by (with_reducible repeat first | apply Ra | apply Rb | apply Rc); exact Kd.R_mono (Kd.R_far (p := ⟨go40, ((ji25) : Int).toNat, none⟩) (Kd.R_mono HO_10.out (fun k_ hk => (⟨hk, fun e_ => hk (by rw [e_]; rfl)⟩ : _ ∧ k_ ≠ go40))) (fun _ hk => hk.2) (.int .u32 (Go.bits .or .u32 (rd x9_2 (ji25)) (ji39)))) (fun _ hk => hk.1)⟩, ⟨by repeat (first | (with_reducible first | exact HB.out | apply below_alloc | apply pw_below_drewN | apply below_drew1 | refine below_set ?_ GB40.out) | exact HB.out)⟩⟩
                 ·rw [if_neg c37] at H
                  exact absurd H (by simp)
               ·rw [if_neg c29] at H
                exact absurd H (by simp)
              ·rw [if_neg c27] at H
               exact absurd H (by simp)
             ·rw [if_neg c26] at H
              exact absurd H (by simp)
            ·rw [if_neg c24] at H
             have c24b0 : decide (x52_2 < (wrap64 (32 * (l0.length : Int)))) = false := decide_eq_false c24
             clear c24
             replace H := Option.bind_eq_some_iff.mp H
             obtain ⟨⟨t187, t190⟩, A470, H⟩ := H
             replace H : ((natural_trim.f k2 x10_2).bind fun bt191 => (some (t187, bt191.1, 0))) = some (r1, r2, r3) := H
             have A47 := Aside0.mk A470
             clear A470
             replace H := Option.bind_eq_some_iff.mp H
             obtain ⟨⟨t191, t194⟩, A480, H⟩ := H
             replace H : (some (t187, t191, 0)) = some (r1, r2, r3) := H
             have A48 := Aside0.mk A480
             clear A480
             simp only [Option.some.injEq, Prod.mk.injEq] at H
             obtain ⟨rfl, rfl, rfl⟩ := H
             obtain ⟨Ao49, co49, eo49⟩ := Kd.R_slice HO_9.out
             subst eo49
             go_wp2_with (first | ((with_reducible refine gate_callee (f := 43) rfl ?_); refine goesL_ (some 92) rfl rfl Try.func43 (by kernel_rfl) rfl #[.slice Ao49 x9_2.length co49] rfl (by (try simp only [List.map_toArray, List.map_cons, List.map_nil]); first | done | rfl | (simp only [List.length_drop, List.length_take]; rfl)) ?_; (with_reducible refine (natural_trim.calls k2 (fun k_ => some k_ = (.slice Ao49 x9_2.length co49 : Value).ownBlock) (.slice Ao49 x9_2.length co49) x9_2 t187 t190 w _ ?side1 ?side2 A47.out).mono ?_); (case side1 => repeat (first | (with_reducible first | exact HB.out | apply ba | apply bn | apply bd) | exact HB.out)); (case side2 => exact Kd.R_tight rfl HO_9.out); rintro e w50 ⟨v188, rfl, ho0, hb, hkp⟩; refine ⟨_, rfl, ?_⟩; have n0_ := As (Kd.R_mono (ok' := fun k_ => some k_ ≠ (v188 : Value).ownBlock) (Kd.R_keptB (HO_10.out) hkp (fun k_ hk_ hs_ => (hk_) hs_)) (fun k_ hk_ => fun e_ => Or.elim (ho0.1 k_ e_.symm) (fun hs_ => hk_.2.1 hs_) (fun hn_ => Nat.not_le.2 hk_.2.2 hn_))); have n1_ := As (Kd.R_mono (ok' := fun k_ => some k_ ≠ (v185 : Value).ownBlock) ho0 (fun k_ hk_ => Or.elim hk_ (fun hs_ => fun e_ => (((HO_10.out).1 k_ e_.symm)) hs_) (fun hn_ => (Kd.fresh' (Kd.R_lt (by (with_reducible repeat first | apply Ra | apply Rb | apply Rc); exact HO_10.out)) k_ hn_)))); have n2_ := As (hb); clear HO_10; clear HB; clear HO_9; have HO_10 := n0_; have HO189 := n1_; have HB := n2_; clear n0_ n1_ n2_; (try clear hb); (try clear hkp); (try clear ho0); obtain ⟨Ao51, co51, eo51⟩ := Kd.R_slice HO_10.out; subst eo51) | ((with_reducible refine gate_callee (f := 43) rfl ?_); refine goesL_ (some 97) rfl rfl Try.func43 (by kernel_rfl) rfl #[.slice Ao51 x10_2.length co51] rfl (by (try simp only [List.map_toArray, List.map_cons, List.map_nil]); first | done | rfl | (simp only [List.length_drop, List.length_take]; rfl)) ?_; (with_reducible refine (natural_trim.calls k2 (fun k_ => some k_ = (.slice Ao51 x10_2.length co51 : Value).ownBlock) (.slice Ao51 x10_2.length co51) x10_2 t191 t194 w _ ?side1 ?side2 A48.out).mono ?_); (case side1 => repeat (first | (with_reducible first | exact HB.out | apply ba | apply bn | apply bd) | exact HB.out)); (case side2 => exact Kd.R_tight rfl HO_10.out); rintro e w52 ⟨v192, rfl, ho0, hb, hkp⟩; refine ⟨_, rfl, ?_⟩; have n0_ := As (Kd.R_mono (ok' := fun k_ => some k_ ≠ (v192 : Value).ownBlock) (Kd.R_keptB (HO189.out) hkp (fun k_ hk_ hs_ => (hk_) hs_)) (fun k_ hk_ => fun e_ => Or.elim (ho0.1 k_ e_.symm) (fun hs_ => hk_.2.1 hs_) (fun hn_ => Nat.not_le.2 hk_.2.2 hn_))); have n1_ := As (Kd.R_mono (ok' := fun k_ => some k_ ≠ (v188 : Value).ownBlock) ho0 (fun k_ hk_ => Or.elim hk_ (fun hs_ => fun e_ => (((HO189.out).1 k_ e_.symm)) hs_) (fun hn_ => (Kd.fresh' (Kd.R_lt (by (with_reducible repeat first | apply Ra | apply Rb | apply Rc); exact HO189.out)) k_ hn_)))); have n2_ := As (hb); clear HO189; clear HB; clear HO_10; have HO189 := n0_; have HO193 := n1_; have HB := n2_; clear n0_ n1_ n2_; (try clear hb); (try clear hkp); (try clear ho0)))
             go_ret3
             exact ⟨_, _, by first | rfl | (simp [errW_none, errW_some] <;> rfl) | (simp only [← hji17]; first | rfl | (simp [errW_none, errW_some] <;> rfl)) | (simp [*, errW_none, errW_some] <;> rfl), by (with_reducible repeat first | apply Ra | apply Rb | apply Rc); exact HO189.out, by (with_reducible repeat first | apply Ra | apply Rb | apply Rc); exact HO193.out, by repeat (first | (with_reducible first | exact HB.out | apply ba | apply bn | apply bd) | exact HB.out)⟩
         ·rw [if_neg c19] at H
          exact absurd H (by simp)
        ·rw [if_neg c18] at H
         exact absurd H (by simp)
       ·rw [if_neg c16] at H
        exact absurd H (by simp)
      ·rw [if_neg c15] at H
       exact absurd H (by simp)


end Go.Proofs.Ytpalpikenkkhlaa.Nt
