/- The machine side of the laws on natural numbers: for each Go function a Lean function with the same answers, and the walk that shows it. It began as the print of print.sh (turned to one namespace, copy told as a law of our own, mended); Lean checks it. -/
import Derived.Test.YtpalpikenkkhlaaNtK
namespace Go.Proofs.Ytpalpikenkkhlaa.Nt
open Go.RowKit Go.Proofs.YtpalpikenkkhlaaW.PrintWords Go.Proofs.YtpalpikenkkhlaaW.PrintLast Go.Proofs.YtpalpikenkkhlaaW.PrintMore
attribute [local go_sem] max2_int min2_int max_two min_two max_three min_three max_four min_four   -- for this text's walks alone
set_option linter.unusedVariables false
set_option linter.unusedSimpArgs false

/-! ### koineref01_Bits: function 49 -/
mutual
def koineref01_Bits.l0 : Nat → List Int → List Int → Int → Option (List Int)
 | 0, _, _, _ => none
 | k + 1, x0, x3, x4 => if x4 < (x0.length : Int) then (if 0 ≤ x4 then (koineref01_Bits.l1 k x0 x3 x4 (rd x0 x4) 0) else (none)) else (some x3)
def koineref01_Bits.l1 : Nat → List Int → List Int → Int → Int → Int → Option (List Int)
 | 0, _, _, _, _, _ => none
 | k + 1, x0, x3, x4, x5, x6 => if x6 < 32 then (if x3.length < 17592186044416 then (koineref01_Bits.l1 k x0 (x3 ++ [wrap64 (Int.tmod x5 2)]) x4 ((Int.tdiv x5 2) % 4294967296) (wrap64 (x6 + 1))) else (none)) else (koineref01_Bits.l0 k x0 x3 (wrap64 (x4 + 1)))
end
def koineref01_Bits.f (k : Nat) (l0 : List Int) : Option (List Int) := koineref01_Bits.l0 k l0 (([] : List Int)) 0
theorem koineref01_Bits.mono_l : ∀ k, (∀ y0 y1 y2, LeO (koineref01_Bits.l0 k y0 y1 y2) (koineref01_Bits.l0 (k + 1) y0 y1 y2)) ∧ (∀ y0 y1 y2 y3 y4, LeO (koineref01_Bits.l1 k y0 y1 y2 y3 y4) (koineref01_Bits.l1 (k + 1) y0 y1 y2 y3 y4))
 | 0 => ⟨fun _ _ _ r h => by simp [koineref01_Bits.l0] at h, fun _ _ _ _ _ r h => by simp [koineref01_Bits.l1] at h⟩
 | k + 1 => by
  obtain ⟨ih0, ih1⟩ := koineref01_Bits.mono_l k
  refine ⟨?_, ?_⟩
  ·intro y0 y1 y2
   unfold koineref01_Bits.l0
   repeat' first
   | (with_reducible exact ih0 _ _ _)
   | (with_reducible exact ih1 _ _ _ _ _)
   | (with_reducible exact LeO.refl _)
   | (with_reducible exact LeO.none _)
   | (with_reducible refine LeO.ite ?_ ?_)
   | (with_reducible refine LeO.bind ?_ (fun _ => ?_))
   | exact ih0 _ _ _
   | exact ih1 _ _ _ _ _
   | exact LeO.none _
   | refine LeO.ite ?_ ?_
   | refine LeO.bind ?_ (fun _ => ?_)
  ·intro y0 y1 y2 y3 y4
   unfold koineref01_Bits.l1
   repeat' first
   | (with_reducible exact ih0 _ _ _)
   | (with_reducible exact ih1 _ _ _ _ _)
   | (with_reducible exact LeO.refl _)
   | (with_reducible exact LeO.none _)
   | (with_reducible refine LeO.ite ?_ ?_)
   | (with_reducible refine LeO.bind ?_ (fun _ => ?_))
   | exact ih0 _ _ _
   | exact ih1 _ _ _ _ _
   | exact LeO.none _
   | refine LeO.ite ?_ ?_
   | refine LeO.bind ?_ (fun _ => ?_)
theorem koineref01_Bits.mono : ∀ a0 k, LeO (koineref01_Bits.f k a0) (koineref01_Bits.f (k + 1) a0) := by
 intro a0 k
 obtain ⟨ih0, ih1⟩ := koineref01_Bits.mono_l k
 unfold koineref01_Bits.f
 repeat' first
   | (with_reducible exact ih0 _ _ _)
   | (with_reducible exact ih1 _ _ _ _ _)
   | (with_reducible exact LeO.refl _)
   | (with_reducible exact LeO.none _)
   | (with_reducible refine LeO.ite ?_ ?_)
   | (with_reducible refine LeO.bind ?_ (fun _ => ?_))
   | exact ih0 _ _ _
   | exact ih1 _ _ _ _ _
   | exact LeO.none _
   | refine LeO.ite ?_ ?_
   | refine LeO.bind ?_ (fun _ => ?_)
set_option maxHeartbeats 8000000 in
set_option maxRecDepth 100000 in
theorem koineref01_Bits.calls (k : Nat) (A0 : Option Addr) (c0 : Nat) (l0 : List Int) (r : List Int) (w : World) (hr0 : Kd.C (Kd.int .u32) w A0 l0.length l0) (hc0 : l0.length ≤ c0) (h : koineref01_Bits.f k l0 = some r) :
  Calls Try.prog 49 #[.slice A0 l0.length c0] w fun e w' => ∃ v0_ : Value, e = .returned (v0_) ∧ Kd.R (Kd.int .i64) 3 w' w.heap.size (fun _ => True) v0_ r ∧ Below w.heap.size w w' := by
 have HR0 := Aside0.mk hr0
 have HC0 := Aside0.mk hc0
 clear hr0 hc0
 have HB := As (Below.refl w.heap.size w)
 have H : (koineref01_Bits.l0 k l0 (([] : List Int)) 0) = some r := h
 clear h
 obtain ⟨y703, hy703⟩ : ∃ y_ : List Int, y_ = (([] : List Int)) := ⟨_, rfl⟩
 replace H : (koineref01_Bits.l0 k l0 y703 0) = some r := by first | (rw [hy703]; with_reducible exact H) | (have H2_ := (Option.bind_some _ _).symm.trans H; rw [hy703]; with_reducible exact H2_) | (have H2_ := (Option.bind_some _ _).symm.trans H; with_reducible exact H2_) | with_reducible exact H | (rw [hy703]; exact H) | exact H
 have Ny703 := Aside0.mk hy703
 clear hy703
 have H' := Aside0.mk H
 clear H
 go_enter Try.func49, Try.ntmps49
 go_wp2_with (first | ((with_reducible refine gate_dst (N := 7) rfl ?_); refine Kd.R_lit (Kd.int .i64) _ 3 ?hg (N := 7) ?hd (xs := ([] : List Int)) (inner := []) (ok := fun _ => True) (okp := fun _ => True) ?hr ?hp (fun _ hk => hk) trivial (Below.refl _ _) (Nat.le_refl _) (by simp) ?_; (case hd => rfl); (case hg => rfl); (case hr => first | (go_simp; done) | (go_simp; rfl)); (case hp => exact (Reps.none _ _)); intro v704 w2 ho3 hb hg_ hnew_; clear hg_ hnew_; (first | rw [← Ny703.out] at ho3 | (simp only [Int.reduceToNat] at ho3; rw [← Ny703.out] at ho3)); have n0_ := As (Kd.R_lower ho3 (below_size (by repeat (first | (with_reducible first | exact HB.out | apply ba | apply bn | apply bd) | exact HB.out)))); have n1_ := As (below_step (by repeat (first | (with_reducible first | exact HB.out | apply ba | apply bn | apply bd) | exact HB.out)) hb); clear HB; have HO705 := n0_; have HB := n1_; clear n0_ n1_; clear hb ho3))
 go_loopg [3, 4] k (fun kq v3 v4 w' => ∃ (x3_1 : List Int) (x4_1 : Int), v4 = .int .i64 x4_1 ∧ Aside0 (koineref01_Bits.l0 kq l0 x3_1 x4_1 = some r) ∧ Aside0 (kq ≤ k) ∧ Aside0 (Kd.R (Kd.int .i64) 3 w' w.heap.size (fun _ => True) v3 x3_1) ∧ Aside0 (Below w.heap.size w w'))
 case atStart => exact ⟨(y703), (0), (by first | rfl | (simp; done) | (simp [*]; done)), H', ⟨Nat.le_refl _⟩, ⟨by (with_reducible repeat first | apply Ra | apply Rb | apply Rc); exact HO705.out⟩, ⟨by repeat (first | (with_reducible first | exact HB.out | apply ba | apply bn | apply bd) | exact HB.out)⟩⟩
 case round =>
  clear H'
  try clear p2
  obtain ⟨x3_1, x4_1, rfl, HA, HK1, HO_3, HB⟩ := hrel
  cases gk with
  | zero => exact absurd HA.out (by simp [koineref01_Bits.l0])
  | succ k1 =>
   have H := HA.out
   clear HA
   simp only [koineref01_Bits.l0] at H
   by_cases c4 : x4_1 < (l0.length : Int)
   ·rw [if_pos c4] at H
    have c4b0 : decide (x4_1 < (l0.length : Int)) = true := decide_eq_true c4
    clear c4
    by_cases c5 : 0 ≤ x4_1
    ·rw [if_pos c5] at H
     have c5b0 : decide (0 ≤ x4_1) = true := decide_eq_true c5
     clear c5
     have H' := Aside0.mk H
     clear H
     have p706 : 0 ≤ (x4_1 : Int) := of_decide_eq_true (by first | (with_reducible assumption) | assumption)
     have q706 : x4_1 < (l0.length : Int) := of_decide_eq_true (by first | (with_reducible assumption) | assumption)
     obtain ⟨ad706, e706, hx706_0⟩ := Kd.at_int HR0.out x4_1 p706 q706
     cases e706
     replace hx706_0 := (HB.out.cell (World.block_lt_of_cell? w _ hx706_0)).trans hx706_0
     replace p706 := eq_true p706
     replace q706 := eq_true q706
     go_wp2
     go_loopg [3, 5, 6] k1 (fun kq v3 v5 v6 w' => ∃ (x3_2 : List Int) (x5_2 : Int) (x6_2 : Int), v5 = .int .u32 x5_2 ∧ v6 = .int .i64 x6_2 ∧ Aside0 (koineref01_Bits.l1 kq l0 x3_2 x4_1 x5_2 x6_2 = some r) ∧ Aside0 (kq ≤ k1) ∧ Aside0 (Kd.R (Kd.int .i64) 3 w' w.heap.size (fun _ => True) v3 x3_2) ∧ Aside0 (Below w.heap.size w w'))
     case atStart => exact ⟨(x3_1), (rd l0 x4_1), (0), (by first | rfl | (simp; done) | (simp [*]; done)), (by first | rfl | (simp; done) | (simp [*]; done)), H', ⟨Nat.le_refl _⟩, ⟨by (with_reducible repeat first | apply Ra | apply Rb | apply Rc); exact HO_3.out⟩, ⟨by repeat (first | (with_reducible first | exact HB.out | apply ba | apply bn | apply bd) | exact HB.out)⟩⟩
     case round =>
      clear H'
      try clear p2
      try clear c4
      try clear c4b0
      try clear c5
      try clear c5b0
      try clear hx706_0
      try clear p2
      try clear p706
      try clear q706
      obtain ⟨x3_2, x5_2, x6_2, rfl, rfl, HA, HK2, HO_3, HB⟩ := hrel
      cases gk with
      | zero => exact absurd HA.out (by simp [koineref01_Bits.l1])
      | succ k2 =>
       have H := HA.out
       clear HA
       simp only [koineref01_Bits.l1] at H
       by_cases c6 : x6_2 < 32
       ·rw [if_pos c6] at H
        have c6b0 : decide (x6_2 < 32) = true := decide_eq_true c6
        clear c6
        by_cases c7 : x3_2.length < 17592186044416
        ·rw [if_pos c7] at H
         have LMc7 := Aside0.mk c7
         clear c7
         obtain ⟨y707, hy707⟩ : ∃ y_ : List Int, y_ = (x3_2 ++ [wrap64 (Int.tmod x5_2 2)]) := ⟨_, rfl⟩
         replace H : (koineref01_Bits.l1 k2 l0 y707 x4_1 ((Int.tdiv x5_2 2) % 4294967296) (wrap64 (x6_2 + 1))) = some r := by first | (rw [hy707]; with_reducible exact H) | (have H2_ := (Option.bind_some _ _).symm.trans H; rw [hy707]; with_reducible exact H2_) | (have H2_ := (Option.bind_some _ _).symm.trans H; with_reducible exact H2_) | with_reducible exact H | (rw [hy707]; exact H) | exact H
         have Ny707 := Aside0.mk hy707
         clear hy707
         have H' := Aside0.mk H
         clear H
         go_wp2_with (first | ((with_reducible refine gate_builtin (b := .append) (xs := #[.tmp 22, .tmp 26]) rfl ?_); at_builtin; refine Kd.R_append (Kd.int .i64) (w0 := w) w.heap.size rfl (.tmp 22) (.tmp 26) 62 3 (.int .i64 0) 8 rfl Try.underlying62 info3 rfl (by decide) (by omega) u3 x3_2 (wrap64 (Int.tmod x5_2 2)) [.int .i64 (wrap64 (Int.tmod x5_2 2))] (fun _ => True) (fun _ => False) rfl rfl ?aP (fun _ hk => hk.elim) ?aF ?aO ?aB ?aS ?aL ?_; (case aP => exact rfl); (case aB => exact (by repeat (first | (with_reducible first | exact HB.out | apply ba | apply bn | apply bd) | exact HB.out))); (case aF => exact (fun _ _ => trivial)); (case aO => exact (by (with_reducible repeat first | apply Ra | apply Rb | apply Rc); exact HO_3.out)); (case aS => exact (below_size (by repeat (first | (with_reducible first | exact HB.out | apply ba | apply bn | apply bd) | exact HB.out)))); (case aL => have := LMc7.out; omega); intro v708 w8 ho hb hg hat; rw [← Ny707.out] at ho; have n0_ := As (hb); have n1_ := As (ho); clear HB; clear HO_3; have HB := n0_; have HO709 := n1_; clear n0_ n1_; clear ho hb hg hat))
         go_roundg k2
         case measure => have := HK1.out; have := HK2.out; omega
         case rel => exact ⟨(y707), ((Int.tdiv x5_2 2) % 4294967296), (wrap64 (x6_2 + 1)), (by first | rfl | (simp; done) | (simp [*]; done)), (by first | rfl | (simp; done) | (simp [*]; done)), H', ⟨by have := HK1.out; have := HK2.out; omega⟩, ⟨by (with_reducible repeat first | apply Ra | apply Rb | apply Rc); exact HO709.out⟩, ⟨by repeat (first | (with_reducible first | exact HB.out | apply ba | apply bn | apply bd) | exact HB.out)⟩⟩
        ·rw [if_neg c7] at H
         exact absurd H (by simp)
       ·rw [if_neg c6] at H
        have c6b0 : decide (x6_2 < 32) = false := decide_eq_false c6
        clear c6
        have H' := Aside0.mk H
        clear H
        go_wp2
        go_roundg k2
        case measure => have := HK1.out; have := HK2.out; omega
        case rel => exact ⟨(x3_2), (wrap64 (x4_1 + 1)), (by first | rfl | (simp; done) | (simp [*]; done)), H', ⟨by have := HK1.out; have := HK2.out; omega⟩, ⟨by (with_reducible repeat first | apply Ra | apply Rb | apply Rc); exact HO_3.out⟩, ⟨by repeat (first | (with_reducible first | exact HB.out | apply ba | apply bn | apply bd) | exact HB.out)⟩⟩
    ·rw [if_neg c5] at H
     exact absurd H (by simp)
   ·rw [if_neg c4] at H
    have c4b0 : decide (x4_1 < (l0.length : Int)) = false := decide_eq_false c4
    clear c4
    obtain rfl := Option.some.inj H
    go_wp2
    go_ret
    exact ⟨_, by first | rfl | (simp [errW_none, errW_some] <;> rfl) | (simp [*, errW_none, errW_some] <;> rfl), by (with_reducible repeat first | apply Ra | apply Rb | apply Rc); exact HO_3.out, by repeat (first | (with_reducible first | exact HB.out | apply ba | apply bn | apply bd) | exact HB.out)⟩


/-! ### koineref01_binary: function 50 -/
mutual
def koineref01_binary.l0 : Nat → List Int → List Int → Int → Option (List Int)
 | 0, _, _, _ => none
 | k + 1, x0, x3, x4 => if x4 < (x0.length : Int) then (koineref01_binary.l1 k x0 x3 x4 0 (wrap64 ((mn (x0.length : Int) (wrap64 (x4 + 32))) - 1))) else ((koineref01_trim.f k x3).bind fun t713 => (some t713))
def koineref01_binary.l1 : Nat → List Int → List Int → Int → Int → Int → Option (List Int)
 | 0, _, _, _, _, _ => none
 | k + 1, x0, x3, x4, x5, x6 => if x6 ≥ x4 then (if 0 ≤ x6 then (if x6 < (x0.length : Int) then (koineref01_binary.l1 k x0 x3 x4 ((((2 * x5) % 4294967296) + ((rd x0 x6) % 4294967296)) % 4294967296) (wrap64 (x6 - 1))) else (none)) else (none)) else (if x3.length < 35184372088832 then (koineref01_binary.l0 k x0 (x3 ++ [x5]) (wrap64 (x4 + 32))) else (none))
end
def koineref01_binary.f (k : Nat) (l0 : List Int) : Option (List Int) := koineref01_binary.l0 k l0 (([] : List Int)) 0
theorem koineref01_binary.mono_l : ∀ k, (∀ y0 y1 y2, LeO (koineref01_binary.l0 k y0 y1 y2) (koineref01_binary.l0 (k + 1) y0 y1 y2)) ∧ (∀ y0 y1 y2 y3 y4, LeO (koineref01_binary.l1 k y0 y1 y2 y3 y4) (koineref01_binary.l1 (k + 1) y0 y1 y2 y3 y4))
 | 0 => ⟨fun _ _ _ r h => by simp [koineref01_binary.l0] at h, fun _ _ _ _ _ r h => by simp [koineref01_binary.l1] at h⟩
 | k + 1 => by
  obtain ⟨ih0, ih1⟩ := koineref01_binary.mono_l k
  refine ⟨?_, ?_⟩
  ·intro y0 y1 y2
   unfold koineref01_binary.l0
   repeat' first
   | (with_reducible exact ih0 _ _ _)
   | (with_reducible exact ih1 _ _ _ _ _)
   | (with_reducible exact koineref01_trim.mono _ _)
   | (with_reducible exact LeO.refl _)
   | (with_reducible exact LeO.none _)
   | (with_reducible refine LeO.ite ?_ ?_)
   | (with_reducible refine LeO.bind ?_ (fun _ => ?_))
   | exact ih0 _ _ _
   | exact ih1 _ _ _ _ _
   | exact koineref01_trim.mono _ _
   | exact LeO.none _
   | refine LeO.ite ?_ ?_
   | refine LeO.bind ?_ (fun _ => ?_)
  ·intro y0 y1 y2 y3 y4
   unfold koineref01_binary.l1
   repeat' first
   | (with_reducible exact ih0 _ _ _)
   | (with_reducible exact ih1 _ _ _ _ _)
   | (with_reducible exact koineref01_trim.mono _ _)
   | (with_reducible exact LeO.refl _)
   | (with_reducible exact LeO.none _)
   | (with_reducible refine LeO.ite ?_ ?_)
   | (with_reducible refine LeO.bind ?_ (fun _ => ?_))
   | exact ih0 _ _ _
   | exact ih1 _ _ _ _ _
   | exact koineref01_trim.mono _ _
   | exact LeO.none _
   | refine LeO.ite ?_ ?_
   | refine LeO.bind ?_ (fun _ => ?_)
theorem koineref01_binary.mono : ∀ a0 k, LeO (koineref01_binary.f k a0) (koineref01_binary.f (k + 1) a0) := by
 intro a0 k
 obtain ⟨ih0, ih1⟩ := koineref01_binary.mono_l k
 unfold koineref01_binary.f
 repeat' first
   | (with_reducible exact ih0 _ _ _)
   | (with_reducible exact ih1 _ _ _ _ _)
   | (with_reducible exact koineref01_trim.mono _ _)
   | (with_reducible exact LeO.refl _)
   | (with_reducible exact LeO.none _)
   | (with_reducible refine LeO.ite ?_ ?_)
   | (with_reducible refine LeO.bind ?_ (fun _ => ?_))
   | exact ih0 _ _ _
   | exact ih1 _ _ _ _ _
   | exact koineref01_trim.mono _ _
   | exact LeO.none _
   | refine LeO.ite ?_ ?_
   | refine LeO.bind ?_ (fun _ => ?_)
set_option maxHeartbeats 8000000 in
set_option maxRecDepth 100000 in
theorem koineref01_binary.calls (k : Nat) (A0 : Option Addr) (c0 : Nat) (l0 : List Int) (r : List Int) (w : World) (hr0 : Kd.C (Kd.int .i64) w A0 l0.length l0) (hc0 : l0.length ≤ c0) (h : koineref01_binary.f k l0 = some r) :
  Calls Try.prog 50 #[.slice A0 l0.length c0] w fun e w' => ∃ v0_ : Value, e = .returned (v0_) ∧ Kd.R (Kd.int .u32) 35 w' w.heap.size (fun _ => True) v0_ r ∧ Below w.heap.size w w' := by
 have HR0 := Aside0.mk hr0
 have HC0 := Aside0.mk hc0
 clear hr0 hc0
 have HB := As (Below.refl w.heap.size w)
 have H : (koineref01_binary.l0 k l0 (([] : List Int)) 0) = some r := h
 clear h
 obtain ⟨y710, hy710⟩ : ∃ y_ : List Int, y_ = (([] : List Int)) := ⟨_, rfl⟩
 replace H : (koineref01_binary.l0 k l0 y710 0) = some r := by first | (rw [hy710]; with_reducible exact H) | (have H2_ := (Option.bind_some _ _).symm.trans H; rw [hy710]; with_reducible exact H2_) | (have H2_ := (Option.bind_some _ _).symm.trans H; with_reducible exact H2_) | with_reducible exact H | (rw [hy710]; exact H) | exact H
 have Ny710 := Aside0.mk hy710
 clear hy710
 have H' := Aside0.mk H
 clear H
 go_enter Try.func50, Try.ntmps50
 go_wp2_with (first | ((with_reducible refine gate_dst (N := 7) rfl ?_); refine Kd.R_lit (Kd.int .u32) _ 35 ?hg (N := 7) ?hd (xs := ([] : List Int)) (inner := []) (ok := fun _ => True) (okp := fun _ => True) ?hr ?hp (fun _ hk => hk) trivial (Below.refl _ _) (Nat.le_refl _) (by simp) ?_; (case hd => rfl); (case hg => rfl); (case hr => first | (go_simp; done) | (go_simp; rfl)); (case hp => exact (Reps.none _ _)); intro v711 w2 ho3 hb hg_ hnew_; clear hg_ hnew_; (first | rw [← Ny710.out] at ho3 | (simp only [Int.reduceToNat] at ho3; rw [← Ny710.out] at ho3)); have n0_ := As (Kd.R_lower ho3 (below_size (by repeat (first | (with_reducible first | exact HB.out | apply ba | apply bn | apply bd) | exact HB.out)))); have n1_ := As (below_step (by repeat (first | (with_reducible first | exact HB.out | apply ba | apply bn | apply bd) | exact HB.out)) hb); clear HB; have HO712 := n0_; have HB := n1_; clear n0_ n1_; clear hb ho3))
 go_loopg [3, 4] k (fun kq v3 v4 w' => ∃ (x3_1 : List Int) (x4_1 : Int), v4 = .int .i64 x4_1 ∧ Aside0 (koineref01_binary.l0 kq l0 x3_1 x4_1 = some r) ∧ Aside0 (kq ≤ k) ∧ Aside0 (Kd.R (Kd.int .u32) 35 w' w.heap.size (fun _ => True) v3 x3_1) ∧ Aside0 (Below w.heap.size w w'))
 case atStart => exact ⟨(y710), (0), (by first | rfl | (simp; done) | (simp [*]; done)), H', ⟨Nat.le_refl _⟩, ⟨by (with_reducible repeat first | apply Ra | apply Rb | apply Rc); exact HO712.out⟩, ⟨by repeat (first | (with_reducible first | exact HB.out | apply ba | apply bn | apply bd) | exact HB.out)⟩⟩
 case round =>
  clear H'
  try clear p2
  obtain ⟨x3_1, x4_1, rfl, HA, HK1, HO_3, HB⟩ := hrel
  cases gk with
  | zero => exact absurd HA.out (by simp [koineref01_binary.l0])
  | succ k1 =>
   have H := HA.out
   clear HA
   simp only [koineref01_binary.l0] at H
   by_cases c4 : x4_1 < (l0.length : Int)
   ·rw [if_pos c4] at H
    have c4b0 : decide (x4_1 < (l0.length : Int)) = true := decide_eq_true c4
    clear c4
    obtain ⟨ji5, hji5⟩ : ∃ j_ : Int, (mn (l0.length : Int) (wrap64 (x4_1 + 32))) = j_ := ⟨_, rfl⟩
    replace H : (koineref01_binary.l1 k1 l0 x3_1 x4_1 0 (wrap64 ((ji5) - 1))) = some r := by first | (rw [hji5] at H; exact H) | (simp only [hji5] at H ⊢; exact H)
    have hji5_ : (if (wrap64 (x4_1 + 32)) < (l0.length : Int) then (wrap64 (x4_1 + 32)) else (l0.length : Int)) = ji5 := hji5
    have H' := Aside0.mk H
    clear H
    go_wp2
    go_loopg [5, 6] k1 (fun kq v5 v6 w' => ∃ (x5_2 : Int) (x6_2 : Int), v5 = .int .u32 x5_2 ∧ v6 = .int .i64 x6_2 ∧ Aside0 (koineref01_binary.l1 kq l0 x3_1 x4_1 x5_2 x6_2 = some r) ∧ Aside0 (kq ≤ k1) ∧ Aside0 (Kd.R (Kd.int .u32) 35 w' w.heap.size (fun _ => True) u3 x3_1) ∧ Aside0 (Below w.heap.size w w'))
    case atStart => exact ⟨(0), (wrap64 ((ji5) - 1)), (by first | rfl | (simp; done) | (simp [*]; done)), (by first | rfl | (simp; done) | (simp only [← hji5] <;> (first | rfl | simp)) | (simp [*]; done)), H', ⟨Nat.le_refl _⟩, ⟨by (with_reducible repeat first | apply Ra | apply Rb | apply Rc); exact HO_3.out⟩, ⟨by repeat (first | (with_reducible first | exact HB.out | apply ba | apply bn | apply bd) | exact HB.out)⟩⟩
    case round =>
     clear H'
     try clear p2
     try clear c4
     try clear c4b0
     try clear c5
     try clear p2
     obtain ⟨x5_2, x6_2, rfl, rfl, HA, HK2, HO_3, HB⟩ := hrel
     cases gk with
     | zero => exact absurd HA.out (by simp [koineref01_binary.l1])
     | succ k2 =>
      have H := HA.out
      clear HA
      simp only [koineref01_binary.l1] at H
      by_cases c6 : x6_2 ≥ x4_1
      ·rw [if_pos c6] at H
       have c6b0 : decide (x4_1 ≤ x6_2) = true := decide_eq_true c6
       clear c6
       by_cases c7 : 0 ≤ x6_2
       ·rw [if_pos c7] at H
        have c7b0 : decide (0 ≤ x6_2) = true := decide_eq_true c7
        clear c7
        by_cases c8 : x6_2 < (l0.length : Int)
        ·rw [if_pos c8] at H
         have c8b0 : decide (x6_2 < (l0.length : Int)) = true := decide_eq_true c8
         clear c8
         have H' := Aside0.mk H
         clear H
         have p716 : 0 ≤ (x6_2 : Int) := of_decide_eq_true (by first | (with_reducible assumption) | assumption)
         have q716 : x6_2 < (l0.length : Int) := of_decide_eq_true (by first | (with_reducible assumption) | assumption)
         obtain ⟨ad716, e716, hx716_0⟩ := Kd.at_int HR0.out x6_2 p716 q716
         cases e716
         replace hx716_0 := (HB.out.cell (World.block_lt_of_cell? w _ hx716_0)).trans hx716_0
         replace p716 := eq_true p716
         replace q716 := eq_true q716
         go_wp2
         go_roundg k2
         case measure => have := HK1.out; have := HK2.out; omega
         case rel => exact ⟨((((2 * x5_2) % 4294967296) + ((rd l0 x6_2) % 4294967296)) % 4294967296), (wrap64 (x6_2 - 1)), (by first | rfl | (simp; done) | (simp [*]; done)), (by first | rfl | (simp; done) | (simp [*]; done)), H', ⟨by have := HK1.out; have := HK2.out; omega⟩, ⟨by (with_reducible repeat first | apply Ra | apply Rb | apply Rc); exact HO_3.out⟩, ⟨by repeat (first | (with_reducible first | exact HB.out | apply ba | apply bn | apply bd) | exact HB.out)⟩⟩
        ·rw [if_neg c8] at H
         exact absurd H (by simp)
       ·rw [if_neg c7] at H
        exact absurd H (by simp)
      ·rw [if_neg c6] at H
       have c6b0 : decide (x4_1 ≤ x6_2) = false := decide_eq_false c6
       clear c6
       by_cases c9 : x3_1.length < 35184372088832
       ·rw [if_pos c9] at H
        have LMc9 := Aside0.mk c9
        clear c9
        obtain ⟨y717, hy717⟩ : ∃ y_ : List Int, y_ = (x3_1 ++ [x5_2]) := ⟨_, rfl⟩
        replace H : (koineref01_binary.l0 k2 l0 y717 (wrap64 (x4_1 + 32))) = some r := by first | (rw [hy717]; with_reducible exact H) | (have H2_ := (Option.bind_some _ _).symm.trans H; rw [hy717]; with_reducible exact H2_) | (have H2_ := (Option.bind_some _ _).symm.trans H; with_reducible exact H2_) | with_reducible exact H | (rw [hy717]; exact H) | exact H
        have Ny717 := Aside0.mk hy717
        clear hy717
        have H' := Aside0.mk H
        clear H
        go_wp2_with (first | ((with_reducible refine gate_builtin (b := .append) (xs := #[.tmp 33, .tmp 35]) rfl ?_); at_builtin; refine Kd.R_append (Kd.int .u32) (w0 := w) w.heap.size rfl (.tmp 33) (.tmp 35) 23 35 (.int .u32 0) 4 rfl Try.underlying23 info35 rfl (by decide) (by omega) u3 x3_1 x5_2 [.int .u32 x5_2] (fun _ => True) (fun _ => False) rfl rfl ?aP (fun _ hk => hk.elim) ?aF ?aO ?aB ?aS ?aL ?_; (case aP => exact rfl); (case aB => exact (by repeat (first | (with_reducible first | exact HB.out | apply ba | apply bn | apply bd) | exact HB.out))); (case aF => exact (fun _ _ => trivial)); (case aO => exact (by (with_reducible repeat first | apply Ra | apply Rb | apply Rc); exact HO_3.out)); (case aS => exact (below_size (by repeat (first | (with_reducible first | exact HB.out | apply ba | apply bn | apply bd) | exact HB.out)))); (case aL => have := LMc9.out; omega); intro v718 w10 ho hb hg hat; rw [← Ny717.out] at ho; have n0_ := As (hb); have n1_ := As (ho); clear HB; clear HO_3; have HB := n0_; have HO719 := n1_; clear n0_ n1_; clear ho hb hg hat))
        go_roundg k2
        case measure => have := HK1.out; have := HK2.out; omega
        case rel => exact ⟨(y717), (wrap64 (x4_1 + 32)), (by first | rfl | (simp; done) | (simp [*]; done)), H', ⟨by have := HK1.out; have := HK2.out; omega⟩, ⟨by (with_reducible repeat first | apply Ra | apply Rb | apply Rc); exact HO719.out⟩, ⟨by repeat (first | (with_reducible first | exact HB.out | apply ba | apply bn | apply bd) | exact HB.out)⟩⟩
       ·rw [if_neg c9] at H
        exact absurd H (by simp)
   ·rw [if_neg c4] at H
    have c4b0 : decide (x4_1 < (l0.length : Int)) = false := decide_eq_false c4
    clear c4
    replace H := Option.bind_eq_some_iff.mp H
    obtain ⟨t713, A110, H⟩ := H
    replace H : (some t713) = some r := H
    have A11 := Aside0.mk A110
    clear A110
    obtain rfl := Option.some.inj H
    obtain ⟨Ao12, co12, eo12⟩ := Kd.R_slice HO_3.out
    subst eo12
    go_wp2_with (first | ((with_reducible refine gate_callee (f := 42) rfl ?_); refine goesL_ (some 38) rfl rfl Try.func42 (by kernel_rfl) rfl #[.slice Ao12 x3_1.length co12] rfl (by (try simp only [List.map_toArray, List.map_cons, List.map_nil]); first | done | rfl | (simp only [List.length_drop, List.length_take]; rfl)) ?_; (with_reducible refine (koineref01_trim.calls k1 (fun k_ => some k_ = (.slice Ao12 x3_1.length co12 : Value).ownBlock) (.slice Ao12 x3_1.length co12) x3_1 t713 w _ ?side1 ?side2 A11.out).mono ?_); (case side1 => repeat (first | (with_reducible first | exact HB.out | apply ba | apply bn | apply bd) | exact HB.out)); (case side2 => exact Kd.R_tight rfl HO_3.out); rintro e w13 ⟨v714, rfl, ho0, hb, hkp⟩; refine ⟨_, rfl, ?_⟩; have n0_ := As (Kd.R_mono (ok' := fun k_ => True) ho0 (fun k_ hk_ => trivial)); have n1_ := As (hb); clear HB; clear HO_3; have HO715 := n0_; have HB := n1_; clear n0_ n1_; (try clear hb); (try clear hkp); (try clear ho0)))
    go_ret
    exact ⟨_, by first | rfl | (simp [errW_none, errW_some] <;> rfl) | (simp [*, errW_none, errW_some] <;> rfl), by (with_reducible repeat first | apply Ra | apply Rb | apply Rc); exact HO715.out, by repeat (first | (with_reducible first | exact HB.out | apply ba | apply bn | apply bd) | exact HB.out)⟩


/-! ### koineref01_Div: function 36 -/
mutual
def koineref01_Div.j0 : Nat → List Int → List Int → Bool → Option (List Int × List Int × Int)
 | 0, _, _, _ => none
 | k + 1, x0, x1, x19 => if x19 = true then (some (([] : List Int), ([] : List Int), 1)) else (if (x1.length : Int) = 0 then (some (([] : List Int), ([] : List Int), 11)) else ((koineref01_Bits.f k x0).bind fun t722 => (if 0 ≤ (t722.length : Int) then (if ((t722.length : Int) : Int).toNat ≤ 35184372088832 then (koineref01_Div.l0 k x1 t722 (List.replicate ((t722.length : Int) : Int).toNat 0) (([] : List Int)) (wrap64 ((t722.length : Int) - 1))) else (none)) else (none))))
def koineref01_Div.l0 : Nat → List Int → List Int → List Int → List Int → Int → Option (List Int × List Int × Int)
 | 0, _, _, _, _, _ => none
 | k + 1, x1, x7, x8, x9, x10 => if x10 ≥ 0 then (if 0 ≤ x10 then (if x10 < (x7.length : Int) then ((some (([rd x7 x10] : List Int) : List Int)).bind fun y738 => (if y738.length + x9.length < 17592186044416 then ((some (y738 ++ x9 : List Int)).bind fun y741 => ((koineref01_binary.f k y741).bind fun t744 => ((koineref01_Compare.f k t744 x1).bind fun t747 => (if t747 ≥ 0 then ((koineref01_Sub.f k t744 x1).bind fun bt748 => ((koineref01_Bits.f k bt748.1).bind fun t752 => (if x10 < (x8.length : Int) then (koineref01_Div.l0 k x1 x7 (x8.set (x10 : Int).toNat 1) t752 (wrap64 (x10 - 1))) else (none)))) else (koineref01_Div.l0 k x1 x7 x8 y741 (wrap64 (x10 - 1))))))) else (none))) else (none)) else (none)) else ((koineref01_binary.f k x8).bind fun t731 => ((koineref01_binary.f k x9).bind fun t734 => (some (t731, t734, 0))))
end
def koineref01_Div.f (k : Nat) (l0 : List Int) (l1 : List Int) : Option (List Int × List Int × Int) := (koineref01_Valid.f l0).bind fun t720 => (if t720 = true then ((koineref01_Valid.f l1).bind fun t721 => (koineref01_Div.j0 k l0 l1 (!t721))) else (koineref01_Div.j0 k l0 l1 true))
theorem koineref01_Div.mono_l : ∀ k, (∀ y0 y1 y2, LeO (koineref01_Div.j0 k y0 y1 y2) (koineref01_Div.j0 (k + 1) y0 y1 y2)) ∧ (∀ y0 y1 y2 y3 y4, LeO (koineref01_Div.l0 k y0 y1 y2 y3 y4) (koineref01_Div.l0 (k + 1) y0 y1 y2 y3 y4))
 | 0 => ⟨fun _ _ _ r h => by simp [koineref01_Div.j0] at h, fun _ _ _ _ _ r h => by simp [koineref01_Div.l0] at h⟩
 | k + 1 => by
  obtain ⟨ih0, ih1⟩ := koineref01_Div.mono_l k
  refine ⟨?_, ?_⟩
  ·intro y0 y1 y2
   unfold koineref01_Div.j0
   repeat' first
   | (with_reducible exact ih0 _ _ _)
   | (with_reducible exact ih1 _ _ _ _ _)
   | (with_reducible exact koineref01_Bits.mono _ _)
   | (with_reducible exact koineref01_Compare.mono _ _ _)
   | (with_reducible exact koineref01_Sub.mono _ _ _)
   | (with_reducible exact koineref01_binary.mono _ _)
   | (with_reducible exact LeO.refl _)
   | (with_reducible exact LeO.none _)
   | (with_reducible refine LeO.ite ?_ ?_)
   | (with_reducible refine LeO.bind ?_ (fun _ => ?_))
   | exact ih0 _ _ _
   | exact ih1 _ _ _ _ _
   | exact koineref01_Bits.mono _ _
   | exact koineref01_Compare.mono _ _ _
   | exact koineref01_Sub.mono _ _ _
   | exact koineref01_binary.mono _ _
   | exact LeO.none _
   | refine LeO.ite ?_ ?_
   | refine LeO.bind ?_ (fun _ => ?_)
  ·intro y0 y1 y2 y3 y4
   unfold koineref01_Div.l0
   repeat' first
   | (with_reducible exact ih0 _ _ _)
   | (with_reducible exact ih1 _ _ _ _ _)
   | (with_reducible exact koineref01_Bits.mono _ _)
   | (with_reducible exact koineref01_Compare.mono _ _ _)
   | (with_reducible exact koineref01_Sub.mono _ _ _)
   | (with_reducible exact koineref01_binary.mono _ _)
   | (with_reducible exact LeO.refl _)
   | (with_reducible exact LeO.none _)
   | (with_reducible refine LeO.ite ?_ ?_)
   | (with_reducible refine LeO.bind ?_ (fun _ => ?_))
   | exact ih0 _ _ _
   | exact ih1 _ _ _ _ _
   | exact koineref01_Bits.mono _ _
   | exact koineref01_Compare.mono _ _ _
   | exact koineref01_Sub.mono _ _ _
   | exact koineref01_binary.mono _ _
   | exact LeO.none _
   | refine LeO.ite ?_ ?_
   | refine LeO.bind ?_ (fun _ => ?_)
theorem koineref01_Div.mono : ∀ a0 a1 k, LeO (koineref01_Div.f k a0 a1) (koineref01_Div.f (k + 1) a0 a1) := by
 intro a0 a1 k
 obtain ⟨ih0, ih1⟩ := koineref01_Div.mono_l k
 unfold koineref01_Div.f
 repeat' first
   | (with_reducible exact ih0 _ _ _)
   | (with_reducible exact ih1 _ _ _ _ _)
   | (with_reducible exact koineref01_Bits.mono _ _)
   | (with_reducible exact koineref01_Compare.mono _ _ _)
   | (with_reducible exact koineref01_Sub.mono _ _ _)
   | (with_reducible exact koineref01_binary.mono _ _)
   | (with_reducible exact LeO.refl _)
   | (with_reducible exact LeO.none _)
   | (with_reducible refine LeO.ite ?_ ?_)
   | (with_reducible refine LeO.bind ?_ (fun _ => ?_))
   | exact ih0 _ _ _
   | exact ih1 _ _ _ _ _
   | exact koineref01_Bits.mono _ _
   | exact koineref01_Compare.mono _ _ _
   | exact koineref01_Sub.mono _ _ _
   | exact koineref01_binary.mono _ _
   | exact LeO.none _
   | refine LeO.ite ?_ ?_
   | refine LeO.bind ?_ (fun _ => ?_)
set_option maxHeartbeats 8000000 in
set_option maxRecDepth 100000 in
theorem koineref01_Div.calls (k : Nat) (A0 : Option Addr) (c0 : Nat) (l0 : List Int) (A1 : Option Addr) (c1 : Nat) (l1 : List Int) (r1 : List Int) (r2 : List Int) (r3 : Int) (w : World) (hr0 : Kd.C (Kd.int .u32) w A0 l0.length l0) (hc0 : l0.length ≤ c0) (hr1 : Kd.C (Kd.int .u32) w A1 l1.length l1) (hc1 : l1.length ≤ c1) (h : koineref01_Div.f k l0 l1 = some (r1, r2, r3)) :
  Calls Try.prog 36 #[.slice A0 l0.length c0, .slice A1 l1.length c1] w fun e w' => ∃ v0_ v1_ : Value, e = .returned (.tuple #[v0_, v1_, .int .i64 r3]) ∧ Kd.R (Kd.int .u32) 35 w' w.heap.size (fun k_ => some k_ ≠ (v1_ : Value).ownBlock) v0_ r1 ∧ Kd.R (Kd.int .u32) 35 w' w.heap.size (fun k_ => some k_ ≠ (v0_ : Value).ownBlock) v1_ r2 ∧ Below w.heap.size w w' := by
 have HR0 := Aside0.mk hr0
 have HC0 := Aside0.mk hc0
 clear hr0 hc0
 have HR1 := Aside0.mk hr1
 have HC1 := Aside0.mk hc1
 clear hr1 hc1
 have HB := As (Below.refl w.heap.size w)
 have H : ((koineref01_Valid.f l0).bind fun t720 => (if t720 = true then ((koineref01_Valid.f l1).bind fun t721 => (koineref01_Div.j0 k l0 l1 (!t721))) else (koineref01_Div.j0 k l0 l1 true))) = some (r1, r2, r3) := h
 clear h
 have HC3 := Aside0.mk H
 clear H
 go_enter Try.func36, Try.ntmps36
 go_upto_region 1 with (fail)
 go_cut [19] (fun v19 wc => ∃ (kq : Nat) (x19_2 : Bool), v19 = .bool x19_2 ∧ Aside0 (koineref01_Div.j0 kq l0 l1 x19_2 = some (r1, r2, r3)) ∧ Aside0 (kq ≤ k) ∧ Aside0 (Below w.heap.size w wc))
 case first =>
  have H := HC3.out
  clear HC3
  replace H := Option.bind_eq_some_iff.mp H
  obtain ⟨t720, A40, H⟩ := H
  replace H : (if t720 = true then ((koineref01_Valid.f l1).bind fun t721 => (koineref01_Div.j0 k l0 l1 (!t721))) else (koineref01_Div.j0 k l0 l1 true)) = some (r1, r2, r3) := H
  have A4 := Aside0.mk A40
  clear A40
  by_cases c5 : t720 = true
  ·subst c5
   have H1 : ((koineref01_Valid.f l1).bind fun t721 => (koineref01_Div.j0 k l0 l1 (!t721))) = some (r1, r2, r3) := by rw [if_pos rfl] at H; exact H
   clear H
   have H := H1
   clear H1
   replace H := Option.bind_eq_some_iff.mp H
   obtain ⟨t721, A60, H⟩ := H
   replace H : (koineref01_Div.j0 k l0 l1 (!t721)) = some (r1, r2, r3) := H
   have A6 := Aside0.mk A60
   clear A60
   have H' := Aside0.mk H
   clear H
   go_wp2_with (first | ((with_reducible refine gate_callee (f := 34) rfl ?_); refine goesL_ (some 13) rfl rfl Try.func34 (by kernel_rfl) rfl #[.slice A0 l0.length c0] rfl (by (try simp only [List.map_toArray, List.map_cons, List.map_nil]); first | done | rfl | (simp only [List.length_drop, List.length_take]; rfl)) ?_; (with_reducible refine (koineref01_Valid.calls _ _ l0 true _ ?side1 ?side2 A4.out).mono ?_); (case side1 => repeat (first | exact (Kd.C_below HR0.out HB.out) | (with_reducible first | apply Ca | apply Cb | apply Cc))); (case side2 => exact HC0.out); rintro e w' ⟨rfl, ⟨nd, rfl⟩⟩; refine ⟨_, rfl, ?_⟩) | (go_at_call 34; (with_reducible refine (koineref01_Valid.calls _ _ l1 t721 _ ?side1 ?side2 A6.out).mono ?_); (case side1 => repeat (first | exact (Kd.C_below HR1.out (by repeat (first | (with_reducible first | exact HB.out | apply ba | apply bn | apply bd) | exact HB.out))) | (with_reducible first | apply Ca | apply Cb | apply Cc))); (case side2 => exact HC1.out); rintro e w' ⟨rfl, ⟨nd, rfl⟩⟩))
   go_meet
   case rel => exact ⟨_, (!t721), (by first | rfl | (simp; done) | (simp [*]; done)), H', ⟨by first | omega | exact Nat.le_refl _⟩, ⟨by repeat (first | (with_reducible first | exact HB.out | apply ba | apply bn | apply bd) | exact HB.out)⟩⟩
  ·replace c5 := Bool.eq_false_iff.mpr c5
   subst c5
   have H1 : (koineref01_Div.j0 k l0 l1 true) = some (r1, r2, r3) := by rw [if_neg (show ¬ (false = true) by decide)] at H; exact H
   clear H
   have H := H1
   clear H1
   have H' := Aside0.mk H
   clear H
   go_wp2_with (first | ((with_reducible refine gate_callee (f := 34) rfl ?_); refine goesL_ (some 13) rfl rfl Try.func34 (by kernel_rfl) rfl #[.slice A0 l0.length c0] rfl (by (try simp only [List.map_toArray, List.map_cons, List.map_nil]); first | done | rfl | (simp only [List.length_drop, List.length_take]; rfl)) ?_; (with_reducible refine (koineref01_Valid.calls _ _ l0 false _ ?side1 ?side2 A4.out).mono ?_); (case side1 => repeat (first | exact (Kd.C_below HR0.out HB.out) | (with_reducible first | apply Ca | apply Cb | apply Cc))); (case side2 => exact HC0.out); rintro e w' ⟨rfl, ⟨nd, rfl⟩⟩; refine ⟨_, rfl, ?_⟩))
   go_meet
   case rel => exact ⟨_, (true), (by first | rfl | (simp; done) | (simp [*]; done)), H', ⟨by first | omega | exact Nat.le_refl _⟩, ⟨by repeat (first | (with_reducible first | exact HB.out | apply ba | apply bn | apply bd) | exact HB.out)⟩⟩
 case rest =>
  clear HC3
  try clear c1
  try clear p2
  try clear c3
  try clear c5
  obtain ⟨kq, x19_2, rfl, HA, HJ2, HB⟩ := hcut
  cases kq with
  | zero => exact absurd HA.out (by simp [koineref01_Div.j0])
  | succ kj2 =>
   have H := HA.out
   clear HA
   simp only [koineref01_Div.j0] at H
   by_cases c7 : x19_2 = true
   ·subst c7
    have H1 : (some (([] : List Int), ([] : List Int), 1)) = some (r1, r2, r3) := by rw [if_pos rfl] at H; exact H
    clear H
    have H := H1
    clear H1
    simp only [Option.some.injEq, Prod.mk.injEq] at H
    obtain ⟨rfl, rfl, rfl⟩ := H
    go_wp2
    go_ret3
    exact ⟨_, _, by first | rfl | (simp [errW_none, errW_some] <;> rfl) | (simp [*, errW_none, errW_some] <;> rfl), by first | exact Kd.R_nil _ _ _ _ _ | exact Kd.N_nil _ _ _ _ _ | exact Kd.V_nil _ _ _ _ _ | exact Kd.Q_nil _ _ _ _ _ | exact Kd.S_nil _ _ _ _ _, by first | exact Kd.R_nil _ _ _ _ _ | exact Kd.N_nil _ _ _ _ _ | exact Kd.V_nil _ _ _ _ _ | exact Kd.Q_nil _ _ _ _ _ | exact Kd.S_nil _ _ _ _ _, by repeat (first | (with_reducible first | exact HB.out | apply ba | apply bn | apply bd) | exact HB.out)⟩
   ·replace c7 := Bool.eq_false_iff.mpr c7
    subst c7
    have H1 : (if (l1.length : Int) = 0 then (some (([] : List Int), ([] : List Int), 11)) else ((koineref01_Bits.f kj2 l0).bind fun t722 => (if 0 ≤ (t722.length : Int) then (if ((t722.length : Int) : Int).toNat ≤ 35184372088832 then (koineref01_Div.l0 kj2 l1 t722 (List.replicate ((t722.length : Int) : Int).toNat 0) (([] : List Int)) (wrap64 ((t722.length : Int) - 1))) else (none)) else (none)))) = some (r1, r2, r3) := by rw [if_neg (show ¬ (false = true) by decide)] at H; exact H
    clear H
    have H := H1
    clear H1
    by_cases c8 : (l1.length : Int) = 0
    ·rw [if_pos c8] at H
     have c8b0 : ((l1.length : Int) == 0) = true := beq_iff_eq.mpr c8
     have c8b1 : ((l1.length : Int) != 0) = false := bne_eq_false_iff_eq.mpr c8
     clear c8
     simp only [Option.some.injEq, Prod.mk.injEq] at H
     obtain ⟨rfl, rfl, rfl⟩ := H
     go_wp2
     go_ret3
     exact ⟨_, _, by first | rfl | (simp [errW_none, errW_some] <;> rfl) | (simp [*, errW_none, errW_some] <;> rfl), by first | exact Kd.R_nil _ _ _ _ _ | exact Kd.N_nil _ _ _ _ _ | exact Kd.V_nil _ _ _ _ _ | exact Kd.Q_nil _ _ _ _ _ | exact Kd.S_nil _ _ _ _ _, by first | exact Kd.R_nil _ _ _ _ _ | exact Kd.N_nil _ _ _ _ _ | exact Kd.V_nil _ _ _ _ _ | exact Kd.Q_nil _ _ _ _ _ | exact Kd.S_nil _ _ _ _ _, by repeat (first | (with_reducible first | exact HB.out | apply ba | apply bn | apply bd) | exact HB.out)⟩
    ·rw [if_neg c8] at H
     have c8b0 : ((l1.length : Int) == 0) = false := beq_eq_false_iff_ne.mpr c8
     have c8b1 : ((l1.length : Int) != 0) = true := bne_iff_ne.mpr c8
     have c8b2 : ¬ (l1 = []) := fun h_ => c8 (by rw [h_]; rfl)
     replace H := Option.bind_eq_some_iff.mp H
     obtain ⟨t722, A90, H⟩ := H
     replace H : (if 0 ≤ (t722.length : Int) then (if ((t722.length : Int) : Int).toNat ≤ 35184372088832 then (koineref01_Div.l0 kj2 l1 t722 (List.replicate ((t722.length : Int) : Int).toNat 0) (([] : List Int)) (wrap64 ((t722.length : Int) - 1))) else (none)) else (none)) = some (r1, r2, r3) := H
     have A9 := Aside0.mk A90
     clear A90
     by_cases c10 : 0 ≤ (t722.length : Int)
     ·rw [if_pos c10] at H
      have c10b0 := eq_true c10
      have c10b1 : decide (0 ≤ (t722.length : Int)) = true := decide_eq_true c10
      clear c10
      by_cases c11 : ((t722.length : Int) : Int).toNat ≤ 35184372088832
      ·rw [if_pos c11] at H
       have c11b0 := eq_true c11
       have c11b1 : decide (((t722.length : Int) : Int).toNat ≤ 35184372088832) = true := decide_eq_true c11
       clear c11
       obtain ⟨y725, hy725⟩ : ∃ y_ : List Int, y_ = (List.replicate ((t722.length : Int) : Int).toNat 0) := ⟨_, rfl⟩
       replace H : (koineref01_Div.l0 kj2 l1 t722 y725 (([] : List Int)) (wrap64 ((t722.length : Int) - 1))) = some (r1, r2, r3) := by first | (rw [hy725]; with_reducible exact H) | (have H2_ := (Option.bind_some _ _).symm.trans H; rw [hy725]; with_reducible exact H2_) | (have H2_ := (Option.bind_some _ _).symm.trans H; with_reducible exact H2_) | with_reducible exact H | (rw [hy725]; exact H) | exact H
       have Ny725 := Aside0.mk hy725
       clear hy725
       obtain ⟨y728, hy728⟩ : ∃ y_ : List Int, y_ = (([] : List Int)) := ⟨_, rfl⟩
       replace H : (koineref01_Div.l0 kj2 l1 t722 y725 y728 (wrap64 ((t722.length : Int) - 1))) = some (r1, r2, r3) := by first | (rw [hy728]; with_reducible exact H) | (have H2_ := (Option.bind_some _ _).symm.trans H; rw [hy728]; with_reducible exact H2_) | (have H2_ := (Option.bind_some _ _).symm.trans H; with_reducible exact H2_) | with_reducible exact H | (rw [hy728]; exact H) | exact H
       have Ny728 := Aside0.mk hy728
       clear hy728
       have H' := Aside0.mk H
       clear H
       go_wp2_with (first | ((with_reducible refine gate_callee (f := 49) rfl ?_); refine goesL_ (some 24) rfl rfl Try.func49 (by kernel_rfl) rfl #[.slice A0 l0.length c0] rfl (by (try simp only [List.map_toArray, List.map_cons, List.map_nil]); first | done | rfl | (simp only [List.length_drop, List.length_take]; rfl)) ?_; (with_reducible refine (koineref01_Bits.calls kj2 _ _ l0 t722 _ ?side1 ?side2 A9.out).mono ?_); (case side1 => repeat (first | exact (Kd.C_below HR0.out HB.out) | (with_reducible first | apply Ca | apply Cb | apply Cc))); (case side2 => exact HC0.out); rintro e w12 ⟨v723, rfl, ho0, hb⟩; refine ⟨_, rfl, ?_⟩; have n0_ := As (Kd.R_lower ho0 (below_size (by repeat (first | (with_reducible first | exact HB.out | apply ba | apply bn | apply bd) | exact HB.out)))); have n1_ := As (below_step (by repeat (first | (with_reducible first | exact HB.out | apply ba | apply bn | apply bd) | exact HB.out)) hb); clear HB; have HO724 := n0_; have HB := n1_; clear n0_ n1_; (try clear hb); (try clear ho0); obtain ⟨Ao13, co13, eo13⟩ := Kd.R_slice HO724.out; subst eo13) | ((with_reducible refine gate_dst (N := 27) rfl ?_); refine Kd.R_make (Kd.int .i64) _ 3 rfl (N := 27) rfl 62 _ _ rfl (t722.length : Int) rfl rfl Try.underlying62 (.int .i64 0) 8 info3 rfl (by decide) (by omega) 0 (ok := fun _ => True) (okp := fun _ => True) rfl (fun _ hk => hk) trivial (of_decide_eq_true (by first | (with_reducible assumption) | assumption)) (Nat.le_trans (Nat.mul_le_mul_right _ (of_decide_eq_true (by first | (with_reducible assumption) | assumption) : (t722.length : Int).toNat ≤ 35184372088832)) (by omega)) (Below.refl _ _) (Nat.le_refl _) ?_; intro v726 w14 ho15 hb hg_ hnew_; clear hg_ hnew_; (first | rw [← Ny725.out] at ho15 | (simp only [Int.reduceToNat] at ho15; rw [← Ny725.out] at ho15)); have n0_ := As (Kd.R_elder' (by (with_reducible repeat first | apply Ra | apply Rb | apply Rc); exact HO724.out) (Kd.R_base ho15) hb); have n1_ := As (Kd.R_lower (Kd.R_new' ho15 (Kd.R_lt (by (with_reducible repeat first | apply Ra | apply Rb | apply Rc); exact HO724.out))) (below_size (by repeat (first | (with_reducible first | exact HB.out | apply ba | apply bn | apply bd) | exact HB.out)))); have n2_ := As (below_step (by repeat (first | (with_reducible first | exact HB.out | apply ba | apply bn | apply bd) | exact HB.out)) hb); clear HO724; clear HB; have HO724 := n0_; have HO727 := n1_; have HB := n2_; clear n0_ n1_ n2_; clear hb ho15) | ((with_reducible refine gate_dst (N := 28) rfl ?_); refine Kd.R_lit (Kd.int .i64) _ 3 ?hg (N := 28) ?hd (xs := ([] : List Int)) (inner := []) (ok := fun _ => True) (okp := fun _ => True) ?hr ?hp (fun _ hk => hk) trivial (Below.refl _ _) (Nat.le_refl _) (by simp) ?_; (case hd => rfl); (case hg => rfl); (case hr => first | (go_simp; done) | (go_simp; rfl)); (case hp => exact (Reps.none _ _)); intro v729 w16 ho17 hb hg_ hnew_; clear hg_ hnew_; (first | rw [← Ny728.out] at ho17 | (simp only [Int.reduceToNat] at ho17; rw [← Ny728.out] at ho17)); have n0_ := As (Kd.R_elder' (by (with_reducible repeat first | apply Ra | apply Rb | apply Rc); exact HO724.out) (Kd.R_base ho17) hb); have n1_ := As (Kd.R_elder' (by (with_reducible repeat first | apply Ra | apply Rb | apply Rc); exact HO727.out) (Kd.R_base ho17) hb); have n2_ := As (Kd.R_lower (Kd.R_new' (Kd.R_new' ho17 (Kd.R_lt (by (with_reducible repeat first | apply Ra | apply Rb | apply Rc); exact HO724.out))) (Kd.R_lt (by (with_reducible repeat first | apply Ra | apply Rb | apply Rc); exact HO727.out))) (below_size (by repeat (first | (with_reducible first | exact HB.out | apply ba | apply bn | apply bd) | exact HB.out)))); have n3_ := As (below_step (by repeat (first | (with_reducible first | exact HB.out | apply ba | apply bn | apply bd) | exact HB.out)) hb); clear HO724; clear HO727; clear HB; have HO724 := n0_; have HO727 := n1_; have HO730 := n2_; have HB := n3_; clear n0_ n1_ n2_ n3_; clear hb ho17))
       go_loopg [9, 10] kj2 (fun kq v9 v10 w' => ∃ (x8_2 : List Int) (x9_2 : List Int) (x10_2 : Int), v10 = .int .i64 x10_2 ∧ Aside0 (koineref01_Div.l0 kq l1 t722 x8_2 x9_2 x10_2 = some (r1, r2, r3)) ∧ Aside0 (kq ≤ kj2) ∧ Aside0 (Kd.R (Kd.int .i64) 3 w' w.heap.size (fun k_ => some k_ ≠ (v726 : Value).ownBlock ∧ some k_ ≠ (v9 : Value).ownBlock) (.slice Ao13 t722.length co13) t722) ∧ Aside0 (Kd.R (Kd.int .i64) 3 w' w.heap.size (fun k_ => some k_ ≠ ((.slice Ao13 t722.length co13) : Value).ownBlock ∧ some k_ ≠ (v9 : Value).ownBlock) v726 x8_2) ∧ Aside0 (Kd.R (Kd.int .i64) 3 w' w.heap.size (fun k_ => some k_ ≠ ((.slice Ao13 t722.length co13) : Value).ownBlock ∧ some k_ ≠ (v726 : Value).ownBlock) v9 x9_2) ∧ Aside0 (Below w.heap.size w w'))
       case atStart => exact ⟨(y725), (y728), (wrap64 ((t722.length : Int) - 1)), (by first | rfl | (simp; done) | (simp [*]; done)), H', ⟨Nat.le_refl _⟩, ⟨by (with_reducible repeat first | apply Ra | apply Rb | apply Rc); exact Kd.R_mono HO724.out (fun _ hk => ⟨hk.1.2, hk.2⟩)⟩, ⟨by (with_reducible repeat first | apply Ra | apply Rb | apply Rc); exact Kd.R_mono HO727.out (fun _ hk => ⟨hk.1.2, hk.2⟩)⟩, ⟨by (with_reducible repeat first | apply Ra | apply Rb | apply Rc); exact Kd.R_mono HO730.out (fun _ hk => ⟨hk.1.2, hk.2⟩)⟩, ⟨by repeat (first | (with_reducible first | exact HB.out | apply ba | apply bn | apply bd) | exact HB.out)⟩⟩
       case round =>
        clear H'
        try clear c1
        try clear p2
        try clear c3
        try clear c4
        try clear c5
        try clear p6
        try clear c7
        try clear c8
        try clear c8b0
        try clear c8b1
        try clear c8b2
        try clear c10
        try clear c10b0
        try clear c10b1
        try clear c11
        try clear c11b0
        try clear c11b1
        try clear p2
        obtain ⟨x8_2, x9_2, x10_2, rfl, HA, HK2, HO_7, HO_8, HO_9, HB⟩ := hrel
        cases gk with
        | zero => exact absurd HA.out (by simp [koineref01_Div.l0])
        | succ k2 =>
         have H := HA.out
         clear HA
         simp only [koineref01_Div.l0] at H
         by_cases c18 : x10_2 ≥ 0
         ·rw [if_pos c18] at H
          have c18b0 : decide (0 ≤ x10_2) = true := decide_eq_true c18
          clear c18
          by_cases c19 : 0 ≤ x10_2
          ·rw [if_pos c19] at H
           have c19b0 : decide (0 ≤ x10_2) = true := decide_eq_true c19
           clear c19
           by_cases c20 : x10_2 < (t722.length : Int)
           ·rw [if_pos c20] at H
            have c20b0 : decide (x10_2 < (t722.length : Int)) = true := decide_eq_true c20
            clear c20
            obtain ⟨y738, hy738⟩ : ∃ y_ : List Int, y_ = (([rd t722 x10_2] : List Int)) := ⟨_, rfl⟩
            replace H : (if y738.length + x9_2.length < 17592186044416 then ((some (y738 ++ x9_2 : List Int)).bind fun y741 => ((koineref01_binary.f k2 y741).bind fun t744 => ((koineref01_Compare.f k2 t744 l1).bind fun t747 => (if t747 ≥ 0 then ((koineref01_Sub.f k2 t744 l1).bind fun bt748 => ((koineref01_Bits.f k2 bt748.1).bind fun t752 => (if x10_2 < (x8_2.length : Int) then (koineref01_Div.l0 k2 l1 t722 (x8_2.set (x10_2 : Int).toNat 1) t752 (wrap64 (x10_2 - 1))) else (none)))) else (koineref01_Div.l0 k2 l1 t722 x8_2 y741 (wrap64 (x10_2 - 1))))))) else (none)) = some (r1, r2, r3) := by first | (rw [hy738]; with_reducible exact H) | (have H2_ := (Option.bind_some _ _).symm.trans H; rw [hy738]; with_reducible exact H2_) | (have H2_ := (Option.bind_some _ _).symm.trans H; with_reducible exact H2_) | with_reducible exact H | (rw [hy738]; exact H) | exact H
            have Ny738 := Aside0.mk hy738
            clear hy738
            by_cases c21 : y738.length + x9_2.length < 17592186044416
            ·rw [if_pos c21] at H
             have LMc21 := Aside0.mk c21
             clear c21
             obtain ⟨y741, hy741⟩ : ∃ y_ : List Int, y_ = (y738 ++ x9_2) := ⟨_, rfl⟩
             replace H : ((koineref01_binary.f k2 y741).bind fun t744 => ((koineref01_Compare.f k2 t744 l1).bind fun t747 => (if t747 ≥ 0 then ((koineref01_Sub.f k2 t744 l1).bind fun bt748 => ((koineref01_Bits.f k2 bt748.1).bind fun t752 => (if x10_2 < (x8_2.length : Int) then (koineref01_Div.l0 k2 l1 t722 (x8_2.set (x10_2 : Int).toNat 1) t752 (wrap64 (x10_2 - 1))) else (none)))) else (koineref01_Div.l0 k2 l1 t722 x8_2 y741 (wrap64 (x10_2 - 1)))))) = some (r1, r2, r3) := by first | (rw [hy741]; with_reducible exact H) | (have H2_ := (Option.bind_some _ _).symm.trans H; rw [hy741]; with_reducible exact H2_) | (have H2_ := (Option.bind_some _ _).symm.trans H; with_reducible exact H2_) | with_reducible exact H | (rw [hy741]; exact H) | exact H
             have Ny741 := Aside0.mk hy741
             clear hy741
             replace H := Option.bind_eq_some_iff.mp H
             obtain ⟨t744, A220, H⟩ := H
             replace H : ((koineref01_Compare.f k2 t744 l1).bind fun t747 => (if t747 ≥ 0 then ((koineref01_Sub.f k2 t744 l1).bind fun bt748 => ((koineref01_Bits.f k2 bt748.1).bind fun t752 => (if x10_2 < (x8_2.length : Int) then (koineref01_Div.l0 k2 l1 t722 (x8_2.set (x10_2 : Int).toNat 1) t752 (wrap64 (x10_2 - 1))) else (none)))) else (koineref01_Div.l0 k2 l1 t722 x8_2 y741 (wrap64 (x10_2 - 1))))) = some (r1, r2, r3) := H
             have A22 := Aside0.mk A220
             clear A220
             replace H := Option.bind_eq_some_iff.mp H
             obtain ⟨t747, A230, H⟩ := H
             replace H : (if t747 ≥ 0 then ((koineref01_Sub.f k2 t744 l1).bind fun bt748 => ((koineref01_Bits.f k2 bt748.1).bind fun t752 => (if x10_2 < (x8_2.length : Int) then (koineref01_Div.l0 k2 l1 t722 (x8_2.set (x10_2 : Int).toNat 1) t752 (wrap64 (x10_2 - 1))) else (none)))) else (koineref01_Div.l0 k2 l1 t722 x8_2 y741 (wrap64 (x10_2 - 1)))) = some (r1, r2, r3) := H
             have A23 := Aside0.mk A230
             clear A230
             by_cases c24 : t747 ≥ 0
             ·rw [if_pos c24] at H
              have c24b0 : decide (0 ≤ t747) = true := decide_eq_true c24
              clear c24
              replace H := Option.bind_eq_some_iff.mp H
              obtain ⟨⟨t748, t749⟩, A250, H⟩ := H
              replace H : ((koineref01_Bits.f k2 t748).bind fun t752 => (if x10_2 < (x8_2.length : Int) then (koineref01_Div.l0 k2 l1 t722 (x8_2.set (x10_2 : Int).toNat 1) t752 (wrap64 (x10_2 - 1))) else (none))) = some (r1, r2, r3) := H
              have A25 := Aside0.mk A250
              clear A250
              replace H := Option.bind_eq_some_iff.mp H
              obtain ⟨t752, A260, H⟩ := H
              replace H : (if x10_2 < (x8_2.length : Int) then (koineref01_Div.l0 k2 l1 t722 (x8_2.set (x10_2 : Int).toNat 1) t752 (wrap64 (x10_2 - 1))) else (none)) = some (r1, r2, r3) := H
              have A26 := Aside0.mk A260
              clear A260
              by_cases c27 : x10_2 < (x8_2.length : Int)
              ·rw [if_pos c27] at H
               have c27b0 : decide (x10_2 < (x8_2.length : Int)) = true := decide_eq_true c27
               clear c27
               obtain ⟨y755, hy755⟩ : ∃ y_ : List Int, y_ = (x8_2.set (x10_2 : Int).toNat 1) := ⟨_, rfl⟩
               replace H : (koineref01_Div.l0 k2 l1 t722 y755 t752 (wrap64 (x10_2 - 1))) = some (r1, r2, r3) := by first | (rw [hy755]; with_reducible exact H) | (have H2_ := (Option.bind_some _ _).symm.trans H; rw [hy755]; with_reducible exact H2_) | (have H2_ := (Option.bind_some _ _).symm.trans H; with_reducible exact H2_) | with_reducible exact H | (rw [hy755]; exact H) | exact H
               have Ny755 := Aside0.mk hy755
               clear hy755
               have H' := Aside0.mk H
               clear H
               have p737 : 0 ≤ (x10_2 : Int) := of_decide_eq_true (by first | (with_reducible assumption) | assumption)
               have q737 : x10_2 < (t722.length : Int) := of_decide_eq_true (by first | (with_reducible assumption) | assumption)
               obtain ⟨ad737, e737, hx737_0⟩ := Kd.at_int (Kd.R_reads' HO_7.out).2.2 x10_2 p737 q737
               cases e737
               replace p737 := eq_true p737
               replace q737 := eq_true q737
               go_wp2_with (first | ((with_reducible refine gate_dst (N := 40) rfl ?_); refine Kd.R_lit (Kd.int .i64) _ 3 ?hg (N := 40) ?hd (xs := ([rd t722 x10_2] : List Int)) (inner := [.int .i64 (rd t722 x10_2)]) (ok := fun _ => True) (okp := fun _ => True) ?hr ?hp (fun _ hk => hk) trivial (Below.refl _ _) (Nat.le_refl _) (by simp) ?_; (case hd => rfl); (case hg => rfl); (case hr => first | (go_simp; done) | (go_simp; rfl)); (case hp => exact (Reps.one (show Kd.M (Kd.int .i64) _ _ _ (rd t722 x10_2) [.int .i64 (rd t722 x10_2)] from rfl) (Reps.none _ _))); intro v739 w29 ho30 hb hg_ hnew_; clear hg_ hnew_; (first | rw [← Ny738.out] at ho30 | (simp only [Int.reduceToNat] at ho30; rw [← Ny738.out] at ho30)); have n0_ := As (Kd.R_elder' (by (with_reducible repeat first | apply Ra | apply Rb | apply Rc); exact HO_7.out) (Kd.R_base ho30) hb); have n1_ := As (Kd.R_elder' (by (with_reducible repeat first | apply Ra | apply Rb | apply Rc); exact HO_8.out) (Kd.R_base ho30) hb); have n2_ := As (Kd.R_elder' (by (with_reducible repeat first | apply Ra | apply Rb | apply Rc); exact HO_9.out) (Kd.R_base ho30) hb); have n3_ := As (Kd.R_lower (Kd.R_new' (Kd.R_new' (Kd.R_new' ho30 (Kd.R_lt (by (with_reducible repeat first | apply Ra | apply Rb | apply Rc); exact HO_7.out))) (Kd.R_lt (by (with_reducible repeat first | apply Ra | apply Rb | apply Rc); exact HO_8.out))) (Kd.R_lt (by (with_reducible repeat first | apply Ra | apply Rb | apply Rc); exact HO_9.out))) (below_size (by repeat (first | (with_reducible first | exact HB.out | apply ba | apply bn | apply bd) | exact HB.out)))); have n4_ := As (below_step (by repeat (first | (with_reducible first | exact HB.out | apply ba | apply bn | apply bd) | exact HB.out)) hb); clear HO_7; clear HO_8; clear HO_9; clear HB; have HO_7 := n0_; have HO_8 := n1_; have HO_9 := n2_; have HO740 := n3_; have HB := n4_; clear n0_ n1_ n2_ n3_ n4_; clear hb ho30; obtain ⟨Ao32, co32, eo32⟩ := Kd.R_slice HO_9.out; subst eo32) | ((with_reducible refine gate_builtin (b := .append) (xs := #[.tmp 40, .tmp 41]) rfl ?_); at_builtin; refine Kd.R_append_rows (Kd.int .i64) (w0 := w) w.heap.size rfl (.tmp 40) (.tmp 41) 62 3 (.int .i64 0) 8 rfl Try.underlying62 info3 rfl (by decide) (by omega) v739 y738 x9_2 _ _ _ (fun k_ => some k_ ≠ (.slice (some ad737) t722.length co13 : Value).ownBlock ∧ some k_ ≠ (v726 : Value).ownBlock ∧ some k_ ≠ (.slice Ao32 x9_2.length co32 : Value).ownBlock) (fun _ => False) rfl rfl ?aO ?aR (fun _ _ h => h) (fun _ h => h.elim) ?aF ?aB ?aS ?aL ?_; (case aR => repeat (first | exact (Kd.R_reads' HO_9.out).2.2 | (with_reducible first | apply Ca | apply Cb | apply Cc))); (case aB => exact (by repeat (first | (with_reducible first | exact HB.out | apply ba | apply bn | apply bd) | exact HB.out))); (case aF => exact (fun k_ hk => ⟨Kd.fresh' (Kd.R_lt (by (with_reducible repeat first | apply Ra | apply Rb | apply Rc); exact HO_7.out)) k_ hk, Kd.fresh' (Kd.R_lt (by (with_reducible repeat first | apply Ra | apply Rb | apply Rc); exact HO_8.out)) k_ hk, Kd.fresh' (Kd.R_lt (by (with_reducible repeat first | apply Ra | apply Rb | apply Rc); exact HO_9.out)) k_ hk⟩)); (case aO => exact (by (with_reducible repeat first | apply Ra | apply Rb | apply Rc); exact Kd.R_mono HO740.out (fun _ hk => ⟨hk.1.1.2, ⟨hk.1.2, hk.2⟩⟩))); (case aS => exact (below_size (by repeat (first | (with_reducible first | exact HB.out | apply ba | apply bn | apply bd) | exact HB.out)))); (case aL => have := LMc21.out; omega); intro v742 w31 ho hb hg hat; rw [← Ny741.out] at ho; have n0_ := As (Kd.R_after (ok := (fun k_ => some k_ ≠ (v726 : Value).ownBlock ∧ some k_ ≠ (.slice Ao32 x9_2.length co32 : Value).ownBlock)) (by (with_reducible repeat first | apply Ra | apply Rb | apply Rc); exact HO_7.out) hg hat); have n1_ := As (Kd.R_after (ok := (fun k_ => some k_ ≠ (.slice (some ad737) t722.length co13 : Value).ownBlock ∧ some k_ ≠ (.slice Ao32 x9_2.length co32 : Value).ownBlock)) (by (with_reducible repeat first | apply Ra | apply Rb | apply Rc); exact HO_8.out) hg hat); have n2_ := As (Kd.R_after (ok := (fun k_ => some k_ ≠ (.slice (some ad737) t722.length co13 : Value).ownBlock ∧ some k_ ≠ (v726 : Value).ownBlock)) (by (with_reducible repeat first | apply Ra | apply Rb | apply Rc); exact HO_9.out) hg hat); have n3_ := As (hb); have n4_ := As (ho); clear HO_7; clear HO_8; clear HO_9; clear HB; clear HO740; have HO_7 := n0_; have HO_8 := n1_; have HO_9 := n2_; have HB := n3_; have HO743 := n4_; clear n0_ n1_ n2_ n3_ n4_; clear ho hb hg hat; obtain ⟨Ao33, co33, eo33⟩ := Kd.R_slice HO743.out; subst eo33) | ((with_reducible refine gate_callee (f := 50) rfl ?_); refine goesL_ (some 44) rfl rfl Try.func50 (by kernel_rfl) rfl #[.slice Ao33 y741.length co33] rfl (by (try simp only [List.map_toArray, List.map_cons, List.map_nil]); first | done | rfl | (simp only [List.length_drop, List.length_take]; rfl)) ?_; (with_reducible refine (koineref01_binary.calls k2 _ _ y741 t744 _ ?side1 ?side2 A22.out).mono ?_); (case side1 => repeat (first | exact (Kd.R_reads' HO743.out).2.2 | (with_reducible first | apply Ca | apply Cb | apply Cc))); (case side2 => exact (Kd.R_reads' HO743.out).2.1); rintro e w34 ⟨v745, rfl, ho0, hb⟩; refine ⟨_, rfl, ?_⟩; have n0_ := As (Kd.R_below (by (with_reducible repeat first | apply Ra | apply Rb | apply Rc); exact HO_7.out) hb); have n1_ := As (Kd.R_below (by (with_reducible repeat first | apply Ra | apply Rb | apply Rc); exact HO_8.out) hb); have n2_ := As (Kd.R_below (by (with_reducible repeat first | apply Ra | apply Rb | apply Rc); exact HO_9.out) hb); have n3_ := As (Kd.R_below (by (with_reducible repeat first | apply Ra | apply Rb | apply Rc); exact HO743.out) hb); have n4_ := As (Kd.R_lower ho0 (below_size (by repeat (first | (with_reducible first | exact HB.out | apply ba | apply bn | apply bd) | exact HB.out)))); have n5_ := As (below_step (by repeat (first | (with_reducible first | exact HB.out | apply ba | apply bn | apply bd) | exact HB.out)) hb); clear HO_7; clear HO_8; clear HO_9; clear HO743; clear HB; have HO_7 := n0_; have HO_8 := n1_; have HO_9 := n2_; have HO743 := n3_; have HO746 := n4_; have HB := n5_; clear n0_ n1_ n2_ n3_ n4_ n5_; (try clear hb); (try clear ho0); obtain ⟨Ao35, co35, eo35⟩ := Kd.R_slice HO746.out; subst eo35) | ((with_reducible refine gate_callee (f := 35) rfl ?_); refine goesL_ (some 47) rfl rfl Try.func35 (by kernel_rfl) rfl #[.slice Ao35 t744.length co35, .slice A1 l1.length c1] rfl (by (try simp only [List.map_toArray, List.map_cons, List.map_nil]); first | done | rfl | (simp only [List.length_drop, List.length_take]; rfl)) ?_; (with_reducible refine (koineref01_Compare.calls k2 _ _ t744 _ _ l1 t747 _ ?side1 ?side2 ?side3 ?side4 A23.out).mono ?_); (case side1 => repeat (first | exact (Kd.R_reads' HO746.out).2.2 | (with_reducible first | apply Ca | apply Cb | apply Cc))); (case side2 => exact (Kd.R_reads' HO746.out).2.1); (case side3 => repeat (first | exact (Kd.C_below HR1.out HB.out) | (with_reducible first | apply Ca | apply Cb | apply Cc))); (case side4 => exact HC1.out); rintro e w36 ⟨rfl, hb⟩; refine ⟨_, rfl, ?_⟩; have n0_ := As (Kd.R_below (by (with_reducible repeat first | apply Ra | apply Rb | apply Rc); exact HO_7.out) hb); have n1_ := As (Kd.R_below (by (with_reducible repeat first | apply Ra | apply Rb | apply Rc); exact HO_8.out) hb); have n2_ := As (Kd.R_below (by (with_reducible repeat first | apply Ra | apply Rb | apply Rc); exact HO_9.out) hb); have n3_ := As (Kd.R_below (by (with_reducible repeat first | apply Ra | apply Rb | apply Rc); exact HO743.out) hb); have n4_ := As (Kd.R_below (by (with_reducible repeat first | apply Ra | apply Rb | apply Rc); exact HO746.out) hb); have n5_ := As (below_step (by repeat (first | (with_reducible first | exact HB.out | apply ba | apply bn | apply bd) | exact HB.out)) hb); clear HO_7; clear HO_8; clear HO_9; clear HO743; clear HO746; clear HB; have HO_7 := n0_; have HO_8 := n1_; have HO_9 := n2_; have HO743 := n3_; have HO746 := n4_; have HB := n5_; clear n0_ n1_ n2_ n3_ n4_ n5_; (try clear hb)) | ((with_reducible refine gate_callee (f := 33) rfl ?_); refine goesL_ (some 52) rfl rfl Try.func33 (by kernel_rfl) rfl #[.slice Ao35 t744.length co35, .slice A1 l1.length c1] rfl (by (try simp only [List.map_toArray, List.map_cons, List.map_nil]); first | done | rfl | (simp only [List.length_drop, List.length_take]; rfl)) ?_; (with_reducible refine (koineref01_Sub.calls k2 _ _ t744 _ _ l1 t748 t749 _ ?side1 ?side2 ?side3 ?side4 A25.out).mono ?_); (case side1 => repeat (first | exact (Kd.R_reads' HO746.out).2.2 | (with_reducible first | apply Ca | apply Cb | apply Cc))); (case side2 => exact (Kd.R_reads' HO746.out).2.1); (case side3 => repeat (first | exact (Kd.C_below HR1.out HB.out) | (with_reducible first | apply Ca | apply Cb | apply Cc))); (case side4 => exact HC1.out); rintro e w37 ⟨v750, rfl, ho0, hb⟩; refine ⟨_, rfl, ?_⟩; have n0_ := As (Kd.R_below (by (with_reducible repeat first | apply Ra | apply Rb | apply Rc); exact HO_7.out) hb); have n1_ := As (Kd.R_below (by (with_reducible repeat first | apply Ra | apply Rb | apply Rc); exact HO_8.out) hb); have n2_ := As (Kd.R_below (by (with_reducible repeat first | apply Ra | apply Rb | apply Rc); exact HO_9.out) hb); have n3_ := As (Kd.R_below (by (with_reducible repeat first | apply Ra | apply Rb | apply Rc); exact HO743.out) hb); have n4_ := As (Kd.R_elder' (by (with_reducible repeat first | apply Ra | apply Rb | apply Rc); exact HO746.out) (Kd.R_base ho0) hb); have n5_ := As (Kd.R_lower (Kd.R_new' ho0 (Kd.R_lt (by (with_reducible repeat first | apply Ra | apply Rb | apply Rc); exact HO746.out))) (below_size (by repeat (first | (with_reducible first | exact HB.out | apply ba | apply bn | apply bd) | exact HB.out)))); have n6_ := As (below_step (by repeat (first | (with_reducible first | exact HB.out | apply ba | apply bn | apply bd) | exact HB.out)) hb); clear HO_7; clear HO_8; clear HO_9; clear HO743; clear HO746; clear HB; have HO_7 := n0_; have HO_8 := n1_; have HO_9 := n2_; have HO743 := n3_; have HO746 := n4_; have HO751 := n5_; have HB := n6_; clear n0_ n1_ n2_ n3_ n4_ n5_ n6_; (try clear hb); (try clear ho0); obtain ⟨Ao38, co38, eo38⟩ := Kd.R_slice HO751.out; subst eo38) | ((with_reducible refine gate_callee (f := 49) rfl ?_); refine goesL_ (some 56) rfl rfl Try.func49 (by kernel_rfl) rfl #[.slice Ao38 t748.length co38] rfl (by (try simp only [List.map_toArray, List.map_cons, List.map_nil]); first | done | rfl | (simp only [List.length_drop, List.length_take]; rfl)) ?_; (with_reducible refine (koineref01_Bits.calls k2 _ _ t748 t752 _ ?side1 ?side2 A26.out).mono ?_); (case side1 => repeat (first | exact (Kd.R_reads' HO751.out).2.2 | (with_reducible first | apply Ca | apply Cb | apply Cc))); (case side2 => exact (Kd.R_reads' HO751.out).2.1); rintro e w39 ⟨v753, rfl, ho0, hb⟩; refine ⟨_, rfl, ?_⟩; have n0_ := As (Kd.R_elder' (by (with_reducible repeat first | apply Ra | apply Rb | apply Rc); exact HO_7.out) (Kd.R_base ho0) hb); have n1_ := As (Kd.R_elder' (by (with_reducible repeat first | apply Ra | apply Rb | apply Rc); exact HO_8.out) (Kd.R_base ho0) hb); have n2_ := As (Kd.R_elder' (by (with_reducible repeat first | apply Ra | apply Rb | apply Rc); exact HO_9.out) (Kd.R_base ho0) hb); have n3_ := As (Kd.R_elder' (by (with_reducible repeat first | apply Ra | apply Rb | apply Rc); exact HO743.out) (Kd.R_base ho0) hb); have n4_ := As (Kd.R_below (by (with_reducible repeat first | apply Ra | apply Rb | apply Rc); exact HO746.out) hb); have n5_ := As (Kd.R_below (by (with_reducible repeat first | apply Ra | apply Rb | apply Rc); exact HO751.out) hb); have n6_ := As (Kd.R_lower (Kd.R_new' (Kd.R_new' (Kd.R_new' (Kd.R_new' ho0 (Kd.R_lt (by (with_reducible repeat first | apply Ra | apply Rb | apply Rc); exact HO_7.out))) (Kd.R_lt (by (with_reducible repeat first | apply Ra | apply Rb | apply Rc); exact HO_8.out))) (Kd.R_lt (by (with_reducible repeat first | apply Ra | apply Rb | apply Rc); exact HO_9.out))) (Kd.R_lt (by (with_reducible repeat first | apply Ra | apply Rb | apply Rc); exact HO743.out))) (below_size (by repeat (first | (with_reducible first | exact HB.out | apply ba | apply bn | apply bd) | exact HB.out)))); have n7_ := As (below_step (by repeat (first | (with_reducible first | exact HB.out | apply ba | apply bn | apply bd) | exact HB.out)) hb); clear HO_7; clear HO_8; clear HO_9; clear HO743; clear HO746; clear HO751; clear HB; have HO_7 := n0_; have HO_8 := n1_; have HO_9 := n2_; have HO743 := n3_; have HO746 := n4_; have HO751 := n5_; have HO754 := n6_; have HB := n7_; clear n0_ n1_ n2_ n3_ n4_ n5_ n6_ n7_; (try clear hb); (try clear ho0); have p28 : 0 ≤ (x10_2 : Int) := of_decide_eq_true (by first | (with_reducible assumption) | assumption); have q28 : (x10_2 : Int) < ((x8_2.length : Int) : Int) := of_decide_eq_true (by first | (with_reducible assumption) | assumption); obtain ⟨go28, co28, eo28, gb28, gl28, cl28, HG28⟩ := Kd.R_form HO_8.out (by omega); (first | cases eo28 | (injection eo28 with ea_ en_ ec_; (first | subst ea_ | (injection ea_ with ea_; subst ea_)); subst ec_; clear en_)); have GB28 := Aside0.mk gb28; have GG28 := Aside0.mk HG28; clear gb28 gl28 HG28; obtain ⟨hx28_0, hf28_0⟩ := Kd.R_celln 0 HO_8.out (x10_2 : Int) p28 q28; replace p28 := eq_true p28; replace q28 := eq_true q28; have n_ := As (Kd.R_mono (ok' := (fun k_ => some k_ ≠ (.slice (some ad737) t722.length co13 : Value).ownBlock ∧ some k_ ≠ (.slice Ao32 x9_2.length co32 : Value).ownBlock ∧ some k_ ≠ (.slice Ao33 y741.length co33 : Value).ownBlock ∧ some k_ ≠ (v753 : Value).ownBlock)) HO_8.out (fun k_ hk => ⟨hk.1.1.1, ⟨hk.1.1.2, ⟨hk.1.2, hk.2⟩⟩⟩)); clear HO_8; have HO_8 := n_; clear n_; obtain ⟨hy40_, hz40_⟩ := Kd.R_celln 0 HO_8.out (x10_2 : Int) (of_decide_eq_true (by first | (with_reducible assumption) | assumption)) (of_decide_eq_true (by first | (with_reducible assumption) | assumption)); have HP40 := Kd.R_putg HO_8.out (x10_2 : Int) 1) | ((with_reducible refine gate_store (t := 3) (p := 59) rfl ?_); refine store_event (t := 3) (p := 59) (v := ?vo_w41) (w1 := (w39.setCell ⟨go28, (x10_2 : Int).toNat, none⟩ (.int .i64 1))) ?hg ?ho ?hn ?hr ?_; (case ho => rfl); (case hg => rfl); (case hn => rfl); (case hr => first | (go_simp; done) | (go_simp; rfl)); intro w41 hw; have hg : w39.grownBy w41 (some go28) := (by rw [hw]; exact HP40.2); have hp_ : Kd.R (Kd.int .i64) 3 w41 w.heap.size (fun k_ => some k_ ≠ (.slice (some ad737) t722.length co13 : Value).ownBlock ∧ some k_ ≠ (.slice Ao32 x9_2.length co32 : Value).ownBlock ∧ some k_ ≠ (.slice Ao33 y741.length co33 : Value).ownBlock ∧ some k_ ≠ (v753 : Value).ownBlock) (.slice (some ⟨go28, 0, none⟩) x8_2.length co28) y755 := (by rw [hw, Ny755.out]; exact HP40.1); clear HP40; have n0_ := As (Kd.R_after (v := (.slice (some ⟨go28, 0, none⟩) x8_2.length co28)) (v1 := (.slice (some ⟨go28, 0, none⟩) x8_2.length co28)) (ok := (fun k_ => some k_ ≠ (.slice Ao32 x9_2.length co32 : Value).ownBlock ∧ some k_ ≠ (.slice Ao33 y741.length co33 : Value).ownBlock ∧ some k_ ≠ (v753 : Value).ownBlock)) (by (with_reducible repeat first | apply Ra | apply Rb | apply Rc); exact Kd.R_mono HO_7.out (fun _ hk => ⟨⟨hk.1.1.2, ⟨hk.1.2, hk.2⟩⟩, hk.1.1.1⟩)) hg (.inl rfl)); have n1_ := As (hp_); have n2_ := As (Kd.R_after (v := (.slice (some ⟨go28, 0, none⟩) x8_2.length co28)) (v1 := (.slice (some ⟨go28, 0, none⟩) x8_2.length co28)) (ok := (fun k_ => some k_ ≠ (.slice (some ad737) t722.length co13 : Value).ownBlock ∧ some k_ ≠ (.slice Ao33 y741.length co33 : Value).ownBlock ∧ some k_ ≠ (v753 : Value).ownBlock)) (by (with_reducible repeat first | apply Ra | apply Rb | apply Rc); exact Kd.R_mono HO_9.out (fun _ hk => ⟨⟨hk.1.1.1, ⟨hk.1.2, hk.2⟩⟩, hk.1.1.2⟩)) hg (.inl rfl)); have n3_ := As (Kd.R_after (v := (.slice (some ⟨go28, 0, none⟩) x8_2.length co28)) (v1 := (.slice (some ⟨go28, 0, none⟩) x8_2.length co28)) (ok := (fun k_ => some k_ ≠ (.slice (some ad737) t722.length co13 : Value).ownBlock ∧ some k_ ≠ (.slice Ao32 x9_2.length co32 : Value).ownBlock ∧ some k_ ≠ (v753 : Value).ownBlock)) (by (with_reducible repeat first | apply Ra | apply Rb | apply Rc); exact Kd.R_mono HO743.out (fun _ hk => ⟨⟨hk.1.1, ⟨hk.1.2.2, hk.2⟩⟩, hk.1.2.1⟩)) hg (.inl rfl)); have n4_ := As (Kd.R_over' (v := (.slice (some ⟨go28, 0, none⟩) x8_2.length co28)) (by (with_reducible repeat first | apply Ra | apply Rb | apply Rc); exact HO746.out) (Kd.R_typed HO_8.out) (by decide) hg); have n5_ := As (Kd.R_over' (v := (.slice (some ⟨go28, 0, none⟩) x8_2.length co28)) (by (with_reducible repeat first | apply Ra | apply Rb | apply Rc); exact HO751.out) (Kd.R_typed HO_8.out) (by decide) hg); have n6_ := As (Kd.R_after (v := (.slice (some ⟨go28, 0, none⟩) x8_2.length co28)) (v1 := (.slice (some ⟨go28, 0, none⟩) x8_2.length co28)) (ok := (fun k_ => some k_ ≠ (.slice (some ad737) t722.length co13 : Value).ownBlock ∧ some k_ ≠ (.slice Ao32 x9_2.length co32 : Value).ownBlock ∧ some k_ ≠ (.slice Ao33 y741.length co33 : Value).ownBlock)) (by (with_reducible repeat first | apply Ra | apply Rb | apply Rc); exact Kd.R_mono HO754.out (fun _ hk => ⟨⟨hk.1.1.1.2, ⟨hk.1.2, hk.2⟩⟩, hk.1.1.2⟩)) hg (.inl rfl)); have n7_ := As ((by rw [hw]; exact below_set (HB.out) GB28.out : Below w.heap.size w w41)); clear HO_7; clear HO_8; clear HO_9; clear HO743; clear HO746; clear HO751; clear HO754; clear HB; have HO_7 := n0_; have HO_8 := n1_; have HO_9 := n2_; have HO743 := n3_; have HO746 := n4_; have HO751 := n5_; have HO754 := n6_; have HB := n7_; clear n0_ n1_ n2_ n3_ n4_ n5_ n6_ n7_; clear hg hw hp_))
               go_roundg k2
               case measure => have := HJ2.out; have := HK2.out; omega
               case rel => exact ⟨(y755), (t752), (wrap64 (x10_2 - 1)), (by first | rfl | (simp; done) | (simp [*]; done)), H', ⟨by have := HJ2.out; have := HK2.out; omega⟩, ⟨by (with_reducible repeat first | apply Ra | apply Rb | apply Rc); exact Kd.R_mono HO_7.out (fun _ hk => ⟨hk.2, hk.1.2.2⟩)⟩, ⟨by (with_reducible repeat first | apply Ra | apply Rb | apply Rc); exact Kd.R_mono HO_8.out (fun _ hk => ⟨hk.1, hk.2.2.2⟩)⟩, ⟨by (with_reducible repeat first | apply Ra | apply Rb | apply Rc); exact Kd.R_mono HO754.out (fun _ hk => ⟨hk.1.1, hk.2⟩)⟩, ⟨by repeat (first | (with_reducible first | exact HB.out | apply ba | apply bn | apply bd) | exact HB.out)⟩⟩
              ·rw [if_neg c27] at H
               exact absurd H (by simp)
             ·rw [if_neg c24] at H
              have c24b0 : decide (0 ≤ t747) = false := decide_eq_false c24
              clear c24
              have H' := Aside0.mk H
              clear H
              have p737 : 0 ≤ (x10_2 : Int) := of_decide_eq_true (by first | (with_reducible assumption) | assumption)
              have q737 : x10_2 < (t722.length : Int) := of_decide_eq_true (by first | (with_reducible assumption) | assumption)
              obtain ⟨ad737, e737, hx737_0⟩ := Kd.at_int (Kd.R_reads' HO_7.out).2.2 x10_2 p737 q737
              cases e737
              replace p737 := eq_true p737
              replace q737 := eq_true q737
              go_wp2_with (first | ((with_reducible refine gate_dst (N := 40) rfl ?_); refine Kd.R_lit (Kd.int .i64) _ 3 ?hg (N := 40) ?hd (xs := ([rd t722 x10_2] : List Int)) (inner := [.int .i64 (rd t722 x10_2)]) (ok := fun _ => True) (okp := fun _ => True) ?hr ?hp (fun _ hk => hk) trivial (Below.refl _ _) (Nat.le_refl _) (by simp) ?_; (case hd => rfl); (case hg => rfl); (case hr => first | (go_simp; done) | (go_simp; rfl)); (case hp => exact (Reps.one (show Kd.M (Kd.int .i64) _ _ _ (rd t722 x10_2) [.int .i64 (rd t722 x10_2)] from rfl) (Reps.none _ _))); intro v739 w42 ho43 hb hg_ hnew_; clear hg_ hnew_; (first | rw [← Ny738.out] at ho43 | (simp only [Int.reduceToNat] at ho43; rw [← Ny738.out] at ho43)); have n0_ := As (Kd.R_elder' (by (with_reducible repeat first | apply Ra | apply Rb | apply Rc); exact HO_7.out) (Kd.R_base ho43) hb); have n1_ := As (Kd.R_elder' (by (with_reducible repeat first | apply Ra | apply Rb | apply Rc); exact HO_8.out) (Kd.R_base ho43) hb); have n2_ := As (Kd.R_elder' (by (with_reducible repeat first | apply Ra | apply Rb | apply Rc); exact HO_9.out) (Kd.R_base ho43) hb); have n3_ := As (Kd.R_lower (Kd.R_new' (Kd.R_new' (Kd.R_new' ho43 (Kd.R_lt (by (with_reducible repeat first | apply Ra | apply Rb | apply Rc); exact HO_7.out))) (Kd.R_lt (by (with_reducible repeat first | apply Ra | apply Rb | apply Rc); exact HO_8.out))) (Kd.R_lt (by (with_reducible repeat first | apply Ra | apply Rb | apply Rc); exact HO_9.out))) (below_size (by repeat (first | (with_reducible first | exact HB.out | apply ba | apply bn | apply bd) | exact HB.out)))); have n4_ := As (below_step (by repeat (first | (with_reducible first | exact HB.out | apply ba | apply bn | apply bd) | exact HB.out)) hb); clear HO_7; clear HO_8; clear HO_9; clear HB; have HO_7 := n0_; have HO_8 := n1_; have HO_9 := n2_; have HO740 := n3_; have HB := n4_; clear n0_ n1_ n2_ n3_ n4_; clear hb ho43; obtain ⟨Ao45, co45, eo45⟩ := Kd.R_slice HO_9.out; subst eo45) | ((with_reducible refine gate_builtin (b := .append) (xs := #[.tmp 40, .tmp 41]) rfl ?_); at_builtin; refine Kd.R_append_rows (Kd.int .i64) (w0 := w) w.heap.size rfl (.tmp 40) (.tmp 41) 62 3 (.int .i64 0) 8 rfl Try.underlying62 info3 rfl (by decide) (by omega) v739 y738 x9_2 _ _ _ (fun k_ => some k_ ≠ (.slice (some ad737) t722.length co13 : Value).ownBlock ∧ some k_ ≠ (v726 : Value).ownBlock ∧ some k_ ≠ (.slice Ao45 x9_2.length co45 : Value).ownBlock) (fun _ => False) rfl rfl ?aO ?aR (fun _ _ h => h) (fun _ h => h.elim) ?aF ?aB ?aS ?aL ?_; (case aR => repeat (first | exact (Kd.R_reads' HO_9.out).2.2 | (with_reducible first | apply Ca | apply Cb | apply Cc))); (case aB => exact (by repeat (first | (with_reducible first | exact HB.out | apply ba | apply bn | apply bd) | exact HB.out))); (case aF => exact (fun k_ hk => ⟨Kd.fresh' (Kd.R_lt (by (with_reducible repeat first | apply Ra | apply Rb | apply Rc); exact HO_7.out)) k_ hk, Kd.fresh' (Kd.R_lt (by (with_reducible repeat first | apply Ra | apply Rb | apply Rc); exact HO_8.out)) k_ hk, Kd.fresh' (Kd.R_lt (by (with_reducible repeat first | apply Ra | apply Rb | apply Rc); exact HO_9.out)) k_ hk⟩)); (case aO => exact (by (with_reducible repeat first | apply Ra | apply Rb | apply Rc); exact Kd.R_mono HO740.out (fun _ hk => ⟨hk.1.1.2, ⟨hk.1.2, hk.2⟩⟩))); (case aS => exact (below_size (by repeat (first | (with_reducible first | exact HB.out | apply ba | apply bn | apply bd) | exact HB.out)))); (case aL => have := LMc21.out; omega); intro v742 w44 ho hb hg hat; rw [← Ny741.out] at ho; have n0_ := As (Kd.R_after (ok := (fun k_ => some k_ ≠ (v726 : Value).ownBlock ∧ some k_ ≠ (.slice Ao45 x9_2.length co45 : Value).ownBlock)) (by (with_reducible repeat first | apply Ra | apply Rb | apply Rc); exact HO_7.out) hg hat); have n1_ := As (Kd.R_after (ok := (fun k_ => some k_ ≠ (.slice (some ad737) t722.length co13 : Value).ownBlock ∧ some k_ ≠ (.slice Ao45 x9_2.length co45 : Value).ownBlock)) (by (with_reducible repeat first | apply Ra | apply Rb | apply Rc); exact HO_8.out) hg hat); have n2_ := As (Kd.R_after (ok := (fun k_ => some k_ ≠ (.slice (some ad737) t722.length co13 : Value).ownBlock ∧ some k_ ≠ (v726 : Value).ownBlock)) (by (with_reducible repeat first | apply Ra | apply Rb | apply Rc); exact HO_9.out) hg hat); have n3_ := As (hb); have n4_ := As (ho); clear HO_7; clear HO_8; clear HO_9; clear HB; clear HO740; have HO_7 := n0_; have HO_8 := n1_; have HO_9 := n2_; have HB := n3_; have HO743 := n4_; clear n0_ n1_ n2_ n3_ n4_; clear ho hb hg hat; obtain ⟨Ao46, co46, eo46⟩ := Kd.R_slice HO743.out; subst eo46) | ((with_reducible refine gate_callee (f := 50) rfl ?_); refine goesL_ (some 44) rfl rfl Try.func50 (by kernel_rfl) rfl #[.slice Ao46 y741.length co46] rfl (by (try simp only [List.map_toArray, List.map_cons, List.map_nil]); first | done | rfl | (simp only [List.length_drop, List.length_take]; rfl)) ?_; (with_reducible refine (koineref01_binary.calls k2 _ _ y741 t744 _ ?side1 ?side2 A22.out).mono ?_); (case side1 => repeat (first | exact (Kd.R_reads' HO743.out).2.2 | (with_reducible first | apply Ca | apply Cb | apply Cc))); (case side2 => exact (Kd.R_reads' HO743.out).2.1); rintro e w47 ⟨v745, rfl, ho0, hb⟩; refine ⟨_, rfl, ?_⟩; have n0_ := As (Kd.R_below (by (with_reducible repeat first | apply Ra | apply Rb | apply Rc); exact HO_7.out) hb); have n1_ := As (Kd.R_below (by (with_reducible repeat first | apply Ra | apply Rb | apply Rc); exact HO_8.out) hb); have n2_ := As (Kd.R_below (by (with_reducible repeat first | apply Ra | apply Rb | apply Rc); exact HO_9.out) hb); have n3_ := As (Kd.R_below (by (with_reducible repeat first | apply Ra | apply Rb | apply Rc); exact HO743.out) hb); have n4_ := As (Kd.R_lower ho0 (below_size (by repeat (first | (with_reducible first | exact HB.out | apply ba | apply bn | apply bd) | exact HB.out)))); have n5_ := As (below_step (by repeat (first | (with_reducible first | exact HB.out | apply ba | apply bn | apply bd) | exact HB.out)) hb); clear HO_7; clear HO_8; clear HO_9; clear HO743; clear HB; have HO_7 := n0_; have HO_8 := n1_; have HO_9 := n2_; have HO743 := n3_; have HO746 := n4_; have HB := n5_; clear n0_ n1_ n2_ n3_ n4_ n5_; (try clear hb); (try clear ho0); obtain ⟨Ao48, co48, eo48⟩ := Kd.R_slice HO746.out; subst eo48) | ((with_reducible refine gate_callee (f := 35) rfl ?_); refine goesL_ (some 47) rfl rfl Try.func35 (by kernel_rfl) rfl #[.slice Ao48 t744.length co48, .slice A1 l1.length c1] rfl (by (try simp only [List.map_toArray, List.map_cons, List.map_nil]); first | done | rfl | (simp only [List.length_drop, List.length_take]; rfl)) ?_; (with_reducible refine (koineref01_Compare.calls k2 _ _ t744 _ _ l1 t747 _ ?side1 ?side2 ?side3 ?side4 A23.out).mono ?_); (case side1 => repeat (first | exact (Kd.R_reads' HO746.out).2.2 | (with_reducible first | apply Ca | apply Cb | apply Cc))); (case side2 => exact (Kd.R_reads' HO746.out).2.1); (case side3 => repeat (first | exact (Kd.C_below HR1.out HB.out) | (with_reducible first | apply Ca | apply Cb | apply Cc))); (case side4 => exact HC1.out); rintro e w49 ⟨rfl, hb⟩; refine ⟨_, rfl, ?_⟩; have n0_ := As (Kd.R_below (by (with_reducible repeat first | apply Ra | apply Rb | apply Rc); exact HO_7.out) hb); have n1_ := As (Kd.R_below (by (with_reducible repeat first | apply Ra | apply Rb | apply Rc); exact HO_8.out) hb); have n2_ := As (Kd.R_below (by (with_reducible repeat first | apply Ra | apply Rb | apply Rc); exact HO_9.out) hb); have n3_ := As (Kd.R_below (by (with_reducible repeat first | apply Ra | apply Rb | apply Rc); exact HO743.out) hb); have n4_ := As (Kd.R_below (by (with_reducible repeat first | apply Ra | apply Rb | apply Rc); exact HO746.out) hb); have n5_ := As (below_step (by repeat (first | (with_reducible first | exact HB.out | apply ba | apply bn | apply bd) | exact HB.out)) hb); clear HO_7; clear HO_8; clear HO_9; clear HO743; clear HO746; clear HB; have HO_7 := n0_; have HO_8 := n1_; have HO_9 := n2_; have HO743 := n3_; have HO746 := n4_; have HB := n5_; clear n0_ n1_ n2_ n3_ n4_ n5_; (try clear hb)))
              go_roundg k2
              case measure => have := HJ2.out; have := HK2.out; omega
              case rel => exact ⟨(x8_2), (y741), (wrap64 (x10_2 - 1)), (by first | rfl | (simp; done) | (simp [*]; done)), H', ⟨by have := HJ2.out; have := HK2.out; omega⟩, ⟨by (with_reducible repeat first | apply Ra | apply Rb | apply Rc); exact Kd.R_mono HO_7.out (fun _ hk => ⟨hk.1.1, hk.2⟩)⟩, ⟨by (with_reducible repeat first | apply Ra | apply Rb | apply Rc); exact Kd.R_mono HO_8.out (fun _ hk => ⟨hk.1.1, hk.2⟩)⟩, ⟨by (with_reducible repeat first | apply Ra | apply Rb | apply Rc); exact Kd.R_mono HO743.out (fun _ hk => ⟨hk.1, hk.2.1⟩)⟩, ⟨by repeat (first | (with_reducible first | exact HB.out | apply ba | apply bn | apply bd) | exact HB.out)⟩⟩
            ·rw [if_neg c21] at H
             exact absurd H (by simp)
           ·rw [if_neg c20] at H
            exact absurd H (by simp)
          ·rw [if_neg c19] at H
           exact absurd H (by simp)
         ·rw [if_neg c18] at H
          have c18b0 : decide (0 ≤ x10_2) = false := decide_eq_false c18
          clear c18
          replace H := Option.bind_eq_some_iff.mp H
          obtain ⟨t731, A500, H⟩ := H
          replace H : ((koineref01_binary.f k2 x9_2).bind fun t734 => (some (t731, t734, 0))) = some (r1, r2, r3) := H
          have A50 := Aside0.mk A500
          clear A500
          replace H := Option.bind_eq_some_iff.mp H
          obtain ⟨t734, A510, H⟩ := H
          replace H : (some (t731, t734, 0)) = some (r1, r2, r3) := H
          have A51 := Aside0.mk A510
          clear A510
          simp only [Option.some.injEq, Prod.mk.injEq] at H
          obtain ⟨rfl, rfl, rfl⟩ := H
          obtain ⟨Ao52, co52, eo52⟩ := Kd.R_slice HO_8.out
          subst eo52
          go_wp2_with (first | ((with_reducible refine gate_callee (f := 50) rfl ?_); refine goesL_ (some 61) rfl rfl Try.func50 (by kernel_rfl) rfl #[.slice Ao52 x8_2.length co52] rfl (by (try simp only [List.map_toArray, List.map_cons, List.map_nil]); first | done | rfl | (simp only [List.length_drop, List.length_take]; rfl)) ?_; (with_reducible refine (koineref01_binary.calls k2 _ _ x8_2 t731 _ ?side1 ?side2 A50.out).mono ?_); (case side1 => repeat (first | exact (Kd.R_reads' HO_8.out).2.2 | (with_reducible first | apply Ca | apply Cb | apply Cc))); (case side2 => exact (Kd.R_reads' HO_8.out).2.1); rintro e w53 ⟨v732, rfl, ho0, hb⟩; refine ⟨_, rfl, ?_⟩; have n0_ := As (Kd.R_below (by (with_reducible repeat first | apply Ra | apply Rb | apply Rc); exact HO_7.out) hb); have n1_ := As (Kd.R_below (by (with_reducible repeat first | apply Ra | apply Rb | apply Rc); exact HO_8.out) hb); have n2_ := As (Kd.R_below (by (with_reducible repeat first | apply Ra | apply Rb | apply Rc); exact HO_9.out) hb); have n3_ := As (Kd.R_lower ho0 (below_size (by repeat (first | (with_reducible first | exact HB.out | apply ba | apply bn | apply bd) | exact HB.out)))); have n4_ := As (below_step (by repeat (first | (with_reducible first | exact HB.out | apply ba | apply bn | apply bd) | exact HB.out)) hb); clear HO_7; clear HO_8; clear HO_9; clear HB; have HO_7 := n0_; have HO_8 := n1_; have HO_9 := n2_; have HO733 := n3_; have HB := n4_; clear n0_ n1_ n2_ n3_ n4_; (try clear hb); (try clear ho0); obtain ⟨Ao54, co54, eo54⟩ := Kd.R_slice HO_9.out; subst eo54) | ((with_reducible refine gate_callee (f := 50) rfl ?_); refine goesL_ (some 63) rfl rfl Try.func50 (by kernel_rfl) rfl #[.slice Ao54 x9_2.length co54] rfl (by (try simp only [List.map_toArray, List.map_cons, List.map_nil]); first | done | rfl | (simp only [List.length_drop, List.length_take]; rfl)) ?_; (with_reducible refine (koineref01_binary.calls k2 _ _ x9_2 t734 _ ?side1 ?side2 A51.out).mono ?_); (case side1 => repeat (first | exact (Kd.R_reads' HO_9.out).2.2 | (with_reducible first | apply Ca | apply Cb | apply Cc))); (case side2 => exact (Kd.R_reads' HO_9.out).2.1); rintro e w55 ⟨v735, rfl, ho0, hb⟩; refine ⟨_, rfl, ?_⟩; have n0_ := As (Kd.R_below (by (with_reducible repeat first | apply Ra | apply Rb | apply Rc); exact HO_7.out) hb); have n1_ := As (Kd.R_below (by (with_reducible repeat first | apply Ra | apply Rb | apply Rc); exact HO_8.out) hb); have n2_ := As (Kd.R_below (by (with_reducible repeat first | apply Ra | apply Rb | apply Rc); exact HO_9.out) hb); have n3_ := As (Kd.R_elder' (by (with_reducible repeat first | apply Ra | apply Rb | apply Rc); exact HO733.out) (Kd.R_base ho0) hb); have n4_ := As (Kd.R_lower (Kd.R_new' ho0 (Kd.R_lt (by (with_reducible repeat first | apply Ra | apply Rb | apply Rc); exact HO733.out))) (below_size (by repeat (first | (with_reducible first | exact HB.out | apply ba | apply bn | apply bd) | exact HB.out)))); have n5_ := As (below_step (by repeat (first | (with_reducible first | exact HB.out | apply ba | apply bn | apply bd) | exact HB.out)) hb); clear HO_7; clear HO_8; clear HO_9; clear HO733; clear HB; have HO_7 := n0_; have HO_8 := n1_; have HO_9 := n2_; have HO733 := n3_; have HO736 := n4_; have HB := n5_; clear n0_ n1_ n2_ n3_ n4_ n5_; (try clear hb); (try clear ho0)))
          go_ret3
          exact ⟨_, _, by first | rfl | (simp [errW_none, errW_some] <;> rfl) | (simp [*, errW_none, errW_some] <;> rfl), by (with_reducible repeat first | apply Ra | apply Rb | apply Rc); exact Kd.R_mono HO733.out (fun _ hk => hk.2), by (with_reducible repeat first | apply Ra | apply Rb | apply Rc); exact Kd.R_mono HO736.out (fun _ hk => hk.2), by repeat (first | (with_reducible first | exact HB.out | apply ba | apply bn | apply bd) | exact HB.out)⟩
      ·rw [if_neg c11] at H
       exact absurd H (by simp)
     ·rw [if_neg c10] at H
      exact absurd H (by simp)


end Go.Proofs.Ytpalpikenkkhlaa.Nt
