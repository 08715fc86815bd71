/- The walks of the formulas that numbers make, of RoundTrip; what the rows share. -/
import Derived.Deep.RegionHeld3
import Derived.IntWalk
import Derived.Test.YtgpnpfjbkaehlaaDoorCards
import Derived.Test.YtgpnpfjbkaehlaaDoorTie
import Derived.Lib.LaidIn
import Derived.Lib.LaidU8T
import Derived.Deep.DeepHandedRow
import Derived.Deep.DeepWitnessRowRef
import Derived.WalkKit
import Derived.ProofKit
import Derived.OpenShut
import Derived.ShutString
import Derived.ChangeOld
import Derived.Below
import Derived.SizedLaws
import Derived.SevenTiedAt
import Derived.Test.YtgpnpfjbkaehlaaDoorKc
import Derived.Test.YtgpnpfjbkaehlaaDoorTa
import Derived.Test.YtgpnpfjbkaehlaaDoorNb
namespace Go.Proofs.YtgpnpfjbkaehlaaDoor.Wk
open Go.RowKit Go.Shelf Go.Lib Go.Maps Go.Proofs.YtgpnpfjbkaehlaaDoorW.PrintWords Go.Proofs.YtgpnpfjbkaehlaaDoorW.PrintLast Go.Proofs.YtgpnpfjbkaehlaaDoorW.PrintMore Go.Proofs.YtgpnpfjbkaehlaaDoor.Nt Go.Proofs.YtgpnpfjbkaehlaaDoor.Fm
set_option linter.unusedVariables false
set_option linter.unusedSimpArgs false

/-- The fixed names. -/
def letters : List ByteArray := [⟨#[65]⟩, ⟨#[66]⟩, ⟨#[67]⟩, ⟨#[68]⟩, ⟨#[108, 111, 110, 103, 95, 110, 97, 109, 101]⟩, ⟨#[95]⟩, ⟨#[120, 49]⟩, ⟨#[84, 82, 85, 69]⟩, ⟨#[116]⟩, ⟨#[102]⟩, ⟨#[116, 114, 117]⟩, ⟨#[102, 97, 108, 115, 101, 101]⟩]

/-- A list of names that was made. -/
def LtP (n : Nat) (w : World) (e : Ending) (w' : World) : Prop := Below w.heap.size w w' ∧ ∃ A, e = .returned (.slice A n 12) ∧ Kd.string.C w' A n (letters.take n)

set_option maxHeartbeats 1000000 in
set_option maxRecDepth 100000 in
theorem letters_any (n : Nat) (w : World) (hn : n ≤ 12) : Calls Tryd.prog 23 #[.int .i64 n] w (LtP n w) := by
  have hn' : (n : Int) ≤ 12 := by omega
  have hn0 : (0 : Int) ≤ n := by omega
  go_enter Tryd.func23, Tryd.ntmps23
  go_wp2_with fail
  go_ret
  refine ⟨below_alloc (Below.refl _ _) _, some ⟨w.heap.size, 0, none⟩, rfl, ?_⟩
  have h := C_strs (w := w.alloc (.cells (letters.flatMap stV).toArray 9)) letters (by decide) (blk_new w _)
  have h2 := Kd.C_take (m := n) h hn
  rw [List.length_take, show min n letters.length = n from Nat.min_eq_left hn] at h2
  exact h2

/-- The block that a row owns. -/
def RO (fv : Value) : Nat → Prop := fun k => some k = fv.ownBlock

theorem row_lt {d : Kd FN} {e : TypeId} {W : World} {B : Nat} {ok : Nat → Prop} {v : Value} {xs : List FN} (h : d.R e W B ok v xs) : ∀ k, some k = v.ownBlock → ok k ∧ k < W.heap.size := by
  intro k hk
  refine ⟨h.1 k hk.symm, ?_⟩
  obtain ⟨cells, hc⟩ := own_typed (Kd.R_own h).choose_spec k hk.symm
  exact blk_lt hc

/-- Behind an append to the row. -/
theorem ro_app {w wA w2 : World} {fv0 fv : Value} {g n cap : Nat} (h : TurnO (RO fv0) w (RO fv) wA) (hg : wA.grownBy w2 fv.ownBlock) (hat : fv.ownBlock = some g ∨ g = wA.heap.size) : TurnO (RO fv0) w (RO (.slice (some ⟨g, 0, none⟩) n cap)) w2 := by
  refine h.grown hg (fun i hi => h.2.1 i hi.symm) ?_
  intro i hi
  injection hi with hi
  subst hi
  rcases hat with h1 | h1
  · exact h.2.1 i h1.symm
  · exact .inr (by rw [h1]; exact h.size)

/-- What copied is called with, and what it comes to. -/
def CpC (f : List FN) (t : Tr) : Prop :=
  ∀ (Af : Option Addr) (cf i : Nat) (out : List FN) (fv : Value) (w0 w : World), Rep f t i → k62.C w0 Af f.length f → f.length ≤ cf → f.length < 4294967296 → Below w0.heap.size w0 w →
    k62.R 62 w 0 (fun k => w0.heap.size ≤ k) fv out → out.length + t.size < 4294967296 →
    Calls Tryd.prog 42 #[.slice Af f.length cf, .int .i64 i, fv] w fun e w' =>
      ∃ A c out', out' = out ++ t.nodes out.length ∧ e = .returned (.slice A out'.length c) ∧ k62.R 62 w' 0 (fun k => w0.heap.size ≤ k) (.slice A out'.length c) out' ∧ Below w0.heap.size w0 w' ∧ TurnO (RO fv) w (RO (.slice A out'.length c)) w'

theorem ops_0 : koineref03_operands.f 3 0 = some 0 := by decide
theorem ops_1 : koineref03_operands.f 3 1 = some 0 := by decide
theorem ops_2 : koineref03_operands.f 3 2 = some 0 := by decide
theorem ops_3 : koineref03_operands.f 3 3 = some 1 := by decide
theorem ops_4 : koineref03_operands.f 3 4 = some 2 := by decide
theorem ops_5 : koineref03_operands.f 3 5 = some 2 := by decide

set_option maxHeartbeats 4000000 in
set_option maxRecDepth 100000 in
/-- A node without operands. -/
theorem copied_leaf (f : List FN) (t : Tr) (x : FN) (hx : ∀ i, Rep f t i → f[i]? = some x) (ht : ∀ o, t.nodes o = [x]) (hop : koineref03_operands.f 3 x.f0 = some 0) : CpC f t := by
  intro Af cf i out fv w0 w hrep hC hc hfl hb hR hlen
  obtain ⟨ad, rfl, hif, h0, h1, h2, h3⟩ := at_node (Kd.C_below hC hb) (hx i hrep)
  obtain ⟨A, c, rfl⟩ := Kd.R_slice hR
  have HR := Lib.hid hR
  have HB := Lib.hid hb
  have hi0 : (0 : Int) ≤ (i : Int) := by omega
  have hi1 : (i : Int) < (f.length : Int) := by omega
  have htz : t.size = 1 := by rw [← Tr.nodes_length t 0, ht]; rfl
  rw [ht]
  clear hC hrep hR hb
  go_enter Tryd.func42, Tryd.ntmps42
  go_wp2_with fail
  refine (koineref03_operands.calls 3 x.f0 0 _ hop).mono ?_
  rintro e w1 ⟨rfl, hd⟩
  have hbd := drawn_below hd
  have hk := blk_below (blk_new w (.cells #[.int .i64 x.f0, .int .i64 x.f1, .int .i64 x.f2, .int .i64 x.f3] 62)) hbd
  have e0 : w1.cell? ⟨w.heap.size, 0, none⟩ = some (.int .i64 x.f0) := (blk_cell hk 0).trans rfl
  have e1 : w1.cell? ⟨w.heap.size, 1, none⟩ = some (.int .i64 x.f1) := (blk_cell hk 1).trans rfl
  have e2 : w1.cell? ⟨w.heap.size, 2, none⟩ = some (.int .i64 x.f2) := (blk_cell hk 2).trans rfl
  have e3 : w1.cell? ⟨w.heap.size, 3, none⟩ = some (.int .i64 x.f3) := (blk_cell hk 3).trans rfl
  have hb1 : Below w.heap.size w w1 := (below_alloc (Below.refl _ _) _).trans (hbd.mono (by simp))
  have HB1 := Lib.hid hb1
  have HBW := Lib.hid (HB.out.trans (hb1.mono HB.out.size))
  have HR1 := Lib.hid (Kd.R_alloc (Kd.R_below HR.out hb1) (.cells #[.int .i64 x.f0, .int .i64 x.f1, .int .i64 x.f2, .int .i64 x.f3] 62))
  have hsz := HBW.out.size
  clear hd hbd hk hb1 h0 h1 h2 h3
  go_wp2_with (first
    | (at_builtin; (refine list_append_R k62 rfl (.tmp 38) (.tmp 40) 26 62 _ 32 rfl Tryd.underlying26 info62 rfl (by decide) (.slice A out.length c) out x [.int .i64 x.f0, .int .i64 x.f1, .int .i64 x.f2, .int .i64 x.f3] (fun k => w0.heap.size ≤ k) (fun _ => False) rfl ⟨w1.heap.size, 0, none⟩ rfl (new_cells0 _ _ _ _ rfl) (k62_mkM _ _ _ x) (fun _ h => h.elim) (by intro k hk; simp at hk; omega) HR1.out (by omega) (by decide) ?_); intro g cap w7 hR hg hat hlt7
       have HR7 := Lib.hid hR
       have HG := Lib.hid hg
       have HAT := Lib.hid hat
       clear hR hg hat))
  go_ret
  refine ⟨some ⟨g, 0, none⟩, cap, out ++ [x], rfl, ret_v (by rw [List.length_append]; rfl), by rw [List.length_append]; exact HR7.out, pw_below_grown (below_alloc HBW.out _) _ (below_alloc HBW.out _).size HG.out (fun q hq => (row_lt HR.out q hq.symm).1), ?_⟩
  exact ro_app ((TurnO.refl (RO (.slice A out.length c)) w).below (below_alloc HB1.out _)) HG.out HAT.out

set_option maxHeartbeats 4000000 in
set_option maxRecDepth 100000 in
/-- A negation. -/
theorem copied_not (f : List FN) (t : Tr) (ih : CpC f t) : CpC f (.not t) := by
  intro Af cf i out fv w0 w hrep hC hc hfl hb hR hlen
  obtain ⟨a, hrep, hra⟩ := hrep
  obtain ⟨ad, rfl, hif, h0, h1, h2, h3⟩ := at_node (Kd.C_below hC hb) hrep
  have hal := rep_lt hra
  have HR := Lib.hid hR
  have HB := Lib.hid hb
  have HC := Lib.hid hC
  have HIH := Lib.hid ih
  have HRA := Lib.hid hra
  have hi0 : (0 : Int) ≤ (i : Int) := by omega
  have hi1 : (i : Int) < (f.length : Int) := by omega
  simp only [Tr.size] at hlen
  clear hC hrep hR hb ih hra
  go_enter Tryd.func42, Tryd.ntmps42
  go_wp2_with fail
  refine (koineref03_operands.calls 3 3 1 _ ops_3).mono ?_
  rintro e w1 ⟨rfl, hd⟩
  have hbd := drawn_below hd
  have hk := blk_below (blk_new w (.cells #[.int .i64 3, .int .i64 0, .int .i64 a, .int .i64 0] 62)) hbd
  have e2 : w1.cell? ⟨w.heap.size, 2, none⟩ = some (.int .i64 a) := (blk_cell hk 2).trans rfl
  have hb1 : Below w.heap.size w w1 := (below_alloc (Below.refl _ _) _).trans (hbd.mono (by simp))
  have HB1 := Lib.hid hb1
  have HK := Lib.hid hk
  clear hd hbd hk hb1 h0 h1 h2 h3
  go_wp2_with fail
  refine (HIH.out (some ad) cf a out fv w0 w1 HRA.out HC.out hc hfl (HB.out.trans (HB1.out.mono HB.out.size)) (Kd.R_below HR.out HB1.out) (by omega)).mono ?_
  rintro e w2 ⟨A1, c1, out2, hout, rfl, hR2, hb2, ht2⟩
  have hfl1 := row_lt HR.out
  have hk2 := ht2.blk HK.out (fun h => by have := (hfl1 _ h).2; omega)
  have hl2 : out2.length = out.length + t.size := by rw [hout, List.length_append, Tr.nodes_length]
  have hts := t.size_pos
  have hl2a : out.length + t.size ≤ out2.length := by omega
  have hl2b : out2.length ≤ out.length + t.size := by omega
  have e20 : w2.cell? ⟨w.heap.size, 0, none⟩ = some (.int .i64 3) := (blk_cell hk2 0).trans rfl
  have e21 : w2.cell? ⟨w.heap.size, 1, none⟩ = some (.int .i64 0) := (blk_cell hk2 1).trans rfl
  have e23 : w2.cell? ⟨w.heap.size, 3, none⟩ = some (.int .i64 0) := (blk_cell hk2 3).trans rfl
  have e22 : w2.cell? ⟨w.heap.size, 2, none⟩ = some (.int .i64 a) := (blk_cell hk2 2).trans rfl
  have z22 := blk_free hk2 2
  have hne : ∀ k, some k = (Value.slice A1 out2.length c1).ownBlock → w0.heap.size ≤ k ∧ k ≠ w.heap.size := fun k hk => by
    refine ⟨(row_lt hR2 k hk).1, ?_⟩
    intro he
    rcases ht2.2.1 k hk with h | h
    · have := (hfl1 k h).2; omega
    · have h1 := blk_lt HK.out; omega
  have HT2 := Lib.hid (((TurnO.refl (RO fv) w).below HB1.out).trans ht2)
  have HB2 := Lib.hid hb2
  have HR2 := Lib.hid (Kd.R_alloc (Kd.R_far (p := ⟨w.heap.size, 2, none⟩) (Kd.R_mono (Kd.R_tight2 rfl hR2) (ok' := fun k => w0.heap.size ≤ k ∧ k ≠ w.heap.size) (fun k hk => hne k hk.1)) (fun k hk => hk.2) (.int .i64 ((out2.length : Int) - 1))) (.cells #[.int .i64 3, .int .i64 0, .int .i64 ((out2.length : Int) - 1), .int .i64 0] 62))
  have HO := Lib.hid hout
  have HL := Lib.hid hl2
  have HNE := Lib.hid hne
  clear ht2 hb2 hne hR2 hk2 e2 hout hl2 hfl1
  have hsz := HB2.out.size
  have HW := Lib.hid HB1.out.size
  go_wp2_with (first
    | (at_builtin; (refine list_append_R k62 rfl (.tmp 38) (.tmp 40) 26 62 _ 32 rfl Tryd.underlying26 info62 rfl (by decide) (.slice A1 out2.length c1) out2 ⟨3, 0, (out2.length : Int) - 1, 0⟩ [.int .i64 3, .int .i64 0, .int .i64 ((out2.length : Int) - 1), .int .i64 0] (fun k => w0.heap.size ≤ k ∧ k ≠ w.heap.size) (fun _ => False) rfl ⟨w2.heap.size, 0, none⟩ rfl (new_cells0 _ _ _ _ (by simp)) (k62_mkM _ _ _ ⟨3, 0, (out2.length : Int) - 1, 0⟩) (fun _ h => h.elim) (by intro k hk; simp at hk; have := HT2.out.size; have := HW.out; exact ⟨by omega, by omega⟩) HR2.out (by omega) (by decide) ?_); intro g cap w7 hR hg hat hlt7
       have HR7 := Lib.hid hR
       have HG := Lib.hid hg
       have HAT := Lib.hid hat
       clear hR hg hat))
  go_ret
  have hz0 := HB.out.size
  have hb8 : Below w0.heap.size w0 ((w2.setCell ⟨w.heap.size, 2, none⟩ (.int .i64 ((out2.length : Int) - 1))).alloc (.cells #[.int .i64 3, .int .i64 0, .int .i64 ((out2.length : Int) - 1), .int .i64 0] 62)) := below_alloc (HB2.out.setCell (p := ⟨_, _, _⟩) hz0 _) _
  refine ⟨some ⟨g, 0, none⟩, cap, out2 ++ [⟨3, 0, (out2.length : Int) - 1, 0⟩], ?_, ret_v (by rw [List.length_append]; rfl), by rw [List.length_append]; exact Kd.R_mono HR7.out (fun k hk => hk.1), pw_below_grown hb8 _ hb8.size HG.out (fun q hq => (HNE.out q hq.symm).1), ?_⟩
  · rw [show (out2.length : Int) - 1 = ((out.length + t.size - 1 : Nat) : Int) by omega, HO.out, Tr.nodes, List.append_assoc]
  · exact ro_app ((HT2.out.set (p := ⟨w.heap.size, 2, none⟩) (.inr (Nat.le_refl _)) _).below (below_alloc (Below.refl _ _) _)) HG.out HAT.out

set_option maxHeartbeats 8000000 in
set_option maxRecDepth 100000 in
/-- A conjunction or a disjunction. -/
theorem copied_bin (f : List FN) (c0 : Bool) (l r : Tr) (ihl : CpC f l) (ihr : CpC f r) : CpC f (.bin c0 l r) := by
  intro Af cf i out fv w0 w hrep hC hc hfl hb hR hlen
  obtain ⟨a, b, hrep, hra, hrb⟩ := hrep
  obtain ⟨ad, rfl, hif, h0, h1, h2, h3⟩ := at_node (Kd.C_below hC hb) hrep
  have hal := rep_lt hra
  have hbl := rep_lt hrb
  have hop : koineref03_operands.f 3 (opOf c0) = some 2 := by cases c0 <;> decide
  obtain ⟨o, ho⟩ : ∃ o, o = opOf c0 := ⟨_, rfl⟩
  rw [← ho] at hop
  dsimp only at h0 h1 h2 h3
  rw [← ho] at h0
  have HO0 := Lib.hid ho
  have HR := Lib.hid hR
  have HB := Lib.hid hb
  have HC := Lib.hid hC
  have HIL := Lib.hid ihl
  have HIR := Lib.hid ihr
  have HRA := Lib.hid hra
  have HRB := Lib.hid hrb
  have HOP := Lib.hid hop
  have hi0 : (0 : Int) ≤ (i : Int) := by omega
  have hi1 : (i : Int) < (f.length : Int) := by omega
  simp only [Tr.size] at hlen
  clear hC hrep hR hb ihl ihr hra hrb ho hop
  go_enter Tryd.func42, Tryd.ntmps42
  go_wp2_with fail
  refine (koineref03_operands.calls 3 o 2 _ HOP.out).mono ?_
  rintro e w1 ⟨rfl, hd⟩
  have hbd := drawn_below hd
  have hk := blk_below (blk_new w (.cells #[.int .i64 o, .int .i64 0, .int .i64 a, .int .i64 b] 62)) hbd
  have e2 : w1.cell? ⟨w.heap.size, 2, none⟩ = some (.int .i64 a) := (blk_cell hk 2).trans rfl
  have hb1 : Below w.heap.size w w1 := (below_alloc (Below.refl _ _) _).trans (hbd.mono (by simp))
  have HB1 := Lib.hid hb1
  have HK := Lib.hid hk
  clear hd hbd hk hb1 h0 h1 h2 h3
  go_wp2_with fail
  refine (HIL.out (some ad) cf a out fv w0 w1 HRA.out HC.out hc hfl (HB.out.trans (HB1.out.mono HB.out.size)) (Kd.R_below HR.out HB1.out) (by omega)).mono ?_
  rintro e w2 ⟨A1, c1, out2, hout, rfl, hR2, hb2, ht2⟩
  have hfl1 := row_lt HR.out
  have hk2 := ht2.blk HK.out (fun h => by have := (hfl1 _ h).2; omega)
  have hl2 : out2.length = out.length + l.size := by rw [hout, List.length_append, Tr.nodes_length]
  have hts := l.size_pos
  have hl2a : out.length + l.size ≤ out2.length := by omega
  have hl2b : out2.length ≤ out.length + l.size := by omega
  have e22 : w2.cell? ⟨w.heap.size, 2, none⟩ = some (.int .i64 a) := (blk_cell hk2 2).trans rfl
  have z22 := blk_free hk2 2
  have hk3 := blk_set hk2 2 (.int .i64 ((out2.length : Int) - 1))
  have e23 : (w2.setCell ⟨w.heap.size, 2, none⟩ (.int .i64 ((out2.length : Int) - 1))).cell? ⟨w.heap.size, 3, none⟩ = some (.int .i64 b) := (blk_cell hk3 3).trans rfl
  have hne : ∀ k, some k = (Value.slice A1 out2.length c1).ownBlock → w0.heap.size ≤ k ∧ k ≠ w.heap.size := fun k hk => by
    refine ⟨(row_lt hR2 k hk).1, ?_⟩
    intro he
    rcases ht2.2.1 k hk with h | h
    · have := (hfl1 k h).2; omega
    · have h1 := blk_lt HK.out; omega
  have hz0 := HB.out.size
  have HT2 := Lib.hid ((((TurnO.refl (RO fv) w).below HB1.out).trans ht2).set (p := ⟨w.heap.size, 2, none⟩) (.inr (Nat.le_refl _)) (.int .i64 ((out2.length : Int) - 1)))
  have HB2 := Lib.hid (hb2.setCell (p := ⟨w.heap.size, 2, none⟩) hz0 (.int .i64 ((out2.length : Int) - 1)))
  have HR2 := Lib.hid (Kd.R_far (p := ⟨w.heap.size, 2, none⟩) (Kd.R_mono (Kd.R_tight2 rfl hR2) (ok' := fun k => w0.heap.size ≤ k ∧ k ≠ w.heap.size) (fun k hk => hne k hk.1)) (fun k hk => hk.2) (.int .i64 ((out2.length : Int) - 1)))
  have HO := Lib.hid hout
  have HNE := Lib.hid hne
  have HK2 := Lib.hid hk3
  have hwl := blk_lt hk2
  clear ht2 hb2 hne hR2 hk2 e2 hout hl2 hfl1 HK hk3
  go_wp2_with fail
  refine (HIR.out (some ad) cf b out2 _ w0 _ HRB.out HC.out hc hfl HB2.out (Kd.R_mono HR2.out (fun k hk => hk.1)) (by omega)).mono ?_
  rintro e w3 ⟨A2, c2, out3, hout3, rfl, hR3, hb3, ht3⟩
  have hk3 := ht3.blk HK2.out (fun h => (HNE.out _ h).2 rfl)
  have hl3 : out3.length = out2.length + r.size := by rw [hout3, List.length_append, Tr.nodes_length]
  have htr := r.size_pos
  have hl3a : out2.length + r.size ≤ out3.length := by omega
  have hl3b : out3.length ≤ out2.length + r.size := by omega
  have e30 : w3.cell? ⟨w.heap.size, 0, none⟩ = some (.int .i64 o) := (blk_cell hk3 0).trans rfl
  have e31 : w3.cell? ⟨w.heap.size, 1, none⟩ = some (.int .i64 0) := (blk_cell hk3 1).trans rfl
  have e32 : w3.cell? ⟨w.heap.size, 2, none⟩ = some (.int .i64 ((out2.length : Int) - 1)) := (blk_cell hk3 2).trans rfl
  have e33 : w3.cell? ⟨w.heap.size, 3, none⟩ = some (.int .i64 b) := (blk_cell hk3 3).trans rfl
  have z33 := blk_free hk3 3
  have hne3 : ∀ k, some k = (Value.slice A2 out3.length c2).ownBlock → w0.heap.size ≤ k ∧ k ≠ w.heap.size := fun k hk => by
    refine ⟨(row_lt hR3 k hk).1, ?_⟩
    intro he
    rcases ht3.2.1 k hk with h | h
    · exact (HNE.out k h).2 he
    · have h1 := blk_lt HK2.out; omega
  have HT3 := Lib.hid (HT2.out.trans ht3)
  have HB3 := Lib.hid hb3
  have HR3 := Lib.hid (Kd.R_alloc (Kd.R_far (p := ⟨w.heap.size, 3, none⟩) (Kd.R_mono (Kd.R_tight2 rfl hR3) (ok' := fun k => w0.heap.size ≤ k ∧ k ≠ w.heap.size) (fun k hk => hne3 k hk.1)) (fun k hk => hk.2) (.int .i64 ((out3.length : Int) - 1))) (.cells #[.int .i64 o, .int .i64 0, .int .i64 ((out2.length : Int) - 1), .int .i64 ((out3.length : Int) - 1)] 62))
  have HO3 := Lib.hid hout3
  have HNE3 := Lib.hid hne3
  clear ht3 hb3 hne3 hR3 hk3 hout3 hl3 e22 z22 e23
  have hsz := HB3.out.size
  have HW := Lib.hid HB1.out.size
  go_wp2_with (first
    | (at_builtin; (refine list_append_R k62 rfl (.tmp 38) (.tmp 40) 26 62 _ 32 rfl Tryd.underlying26 info62 rfl (by decide) (.slice A2 out3.length c2) out3 ⟨o, 0, (out2.length : Int) - 1, (out3.length : Int) - 1⟩ [.int .i64 o, .int .i64 0, .int .i64 ((out2.length : Int) - 1), .int .i64 ((out3.length : Int) - 1)] (fun k => w0.heap.size ≤ k ∧ k ≠ w.heap.size) (fun _ => False) rfl ⟨w3.heap.size, 0, none⟩ rfl (new_cells0 _ _ _ _ (by simp)) (k62_mkM _ _ _ ⟨o, 0, (out2.length : Int) - 1, (out3.length : Int) - 1⟩) (fun _ h => h.elim) (by intro k hk; simp at hk; have := HT3.out.size; have := HT2.out.size; exact ⟨by omega, by have h1 := HB3.out.size; have h2 := HK2.out; have h3 := blk_lt h2; have h4 : w.heap.size < w3.heap.size := World.block_lt_of_cell? w3 _ e30; omega⟩) HR3.out (by omega) (by decide) ?_); intro g cap w7 hR hg hat hlt7
       have HR7 := Lib.hid hR
       have HG := Lib.hid hg
       have HAT := Lib.hid hat
       clear hR hg hat))
  go_ret
  have hb8 : Below w0.heap.size w0 ((w3.setCell ⟨w.heap.size, 3, none⟩ (.int .i64 ((out3.length : Int) - 1))).alloc (.cells #[.int .i64 o, .int .i64 0, .int .i64 ((out2.length : Int) - 1), .int .i64 ((out3.length : Int) - 1)] 62)) := below_alloc (HB3.out.setCell (p := ⟨_, _, _⟩) hz0 _) _
  refine ⟨some ⟨g, 0, none⟩, cap, out3 ++ [⟨o, 0, (out2.length : Int) - 1, (out3.length : Int) - 1⟩], ?_, ret_v (by rw [List.length_append]; rfl), by rw [List.length_append]; exact Kd.R_mono HR7.out (fun k hk => hk.1), pw_below_grown hb8 _ hb8.size HG.out (fun q hq => (HNE3.out q hq.symm).1), ?_⟩
  · rw [show (out3.length : Int) - 1 = ((out.length + l.size + r.size - 1 : Nat) : Int) by omega, show (out2.length : Int) - 1 = ((out.length + l.size - 1 : Nat) : Int) by omega, HO3.out, show out2.length = out.length + l.size by omega, HO.out, HO0.out, Tr.nodes, List.append_assoc, List.append_assoc, List.append_assoc]
  · exact ro_app ((HT3.out.set (p := ⟨w.heap.size, 3, none⟩) (.inr (Nat.le_refl _)) _).below (below_alloc (Below.refl _ _) _)) HG.out HAT.out

theorem copied_any (f : List FN) : ∀ t : Tr, CpC f t := by
  intro t
  induction t with
  | con b => cases b <;> first | exact copied_leaf f _ ⟨0, 0, 0, 0⟩ (fun i h => h) (fun o => rfl) ops_0 | exact copied_leaf f _ ⟨1, 0, 0, 0⟩ (fun i h => h) (fun o => rfl) ops_1
  | var v => exact copied_leaf f _ ⟨2, (v : Int), 0, 0⟩ (fun i h => h) (fun o => rfl) ops_2
  | not t ih => exact copied_not f t ih
  | bin c l r ihl ihr => exact copied_bin f c l r ihl ihr

/-- A list of nodes that was made. -/
def FnP (g : List FN) (w : World) (e : Ending) (w' : World) : Prop := Below w.heap.size w w' ∧ ∃ A c, e = .returned (.slice A g.length c) ∧ g.length ≤ c ∧ k62.C w' A g.length g

set_option maxHeartbeats 1000000 in
set_option maxRecDepth 100000 in
theorem postorder_any (A : Option Addr) (c : Nat) (f : List FN) (t : Tr) (w : World) (hC : k62.C w A f.length f) (hc : f.length ≤ c) (hl : f.length < 4294967296) (hrep : Rep f t (f.length - 1)) (ht : t.size < 4294967296) :
    Calls Tryd.prog 17 #[.slice A f.length c] w (FnP (t.nodes 0) w) := by
  have hlt := rep_lt hrep
  have HI := Lib.hid (copied_any f t A c (f.length - 1) [] (.slice none 0 0) w w hrep hC hc hl (Below.refl _ _) (Kd.R_nil _ _ _ _ _) (by simpa using ht))
  clear hC hrep
  go_enter Tryd.func17, Tryd.ntmps17
  go_wp2_with fail
  rw [show ((f.length : Int) - 1) = ((f.length - 1 : Nat) : Int) by omega]
  refine HI.out.mono ?_
  rintro e w1 ⟨A1, c1, out, ho, rfl, hR, hb, _⟩
  obtain ⟨A2, c2, he, hc2, hC2⟩ := Kd.R_reads hR
  injection he with e1 e2 e3
  subst e1 e3
  have HO := Lib.hid ho
  have HC2 := Lib.hid hC2
  have HB := Lib.hid hb
  clear ho hC2 hb hR
  go_wp2_with fail
  go_ret
  refine ⟨HB.out, A1, c1, ?_, ?_, ?_⟩
  · rw [show t.nodes 0 = out from HO.out.symm]; rfl
  · rw [show t.nodes 0 = out from HO.out.symm]; exact hc2
  · rw [show t.nodes 0 = out from HO.out.symm]; exact HC2.out
end Go.Proofs.YtgpnpfjbkaehlaaDoor.Wk
namespace Go.Proofs.YtgpnpfjbkaehlaaDoor.Wk
open Go.RowKit Go.Shelf Go.Lib Go.Maps Go.Proofs.YtgpnpfjbkaehlaaDoorW.PrintWords Go.Proofs.YtgpnpfjbkaehlaaDoorW.PrintLast Go.Proofs.YtgpnpfjbkaehlaaDoorW.PrintMore Go.Proofs.YtgpnpfjbkaehlaaDoor.Nt Go.Proofs.YtgpnpfjbkaehlaaDoor.Fm
set_option linter.unusedVariables false
set_option linter.unusedSimpArgs false

/-- The nodes and the roots that have been made. -/
structure MS (w wr : World) (fv rv : Value) (f : List FN) (r : List Int) : Prop where
  bel : Below w.heap.size w wr
  rf : k62.R 62 wr 0 (fun k => w.heap.size ≤ k) fv f
  rr : (Kd.int .i64).R 3 wr 0 (fun k => w.heap.size ≤ k) rv r

theorem MS.ne {w wr : World} {fv rv : Value} {f : List FN} {r : List Int} (h : MS w wr fv rv f r) : ∀ k, some k = fv.ownBlock → some k ≠ rv.ownBlock := by
  intro k hk hs
  obtain ⟨c1, h1⟩ := own_typed (Kd.R_own h.rf).choose_spec k hk.symm
  obtain ⟨c2, h2⟩ := own_typed (Kd.R_own h.rr).choose_spec k hs.symm
  rw [h1] at h2
  injection h2 with h2
  injection h2 with _ h2 _
  all_goals exact absurd h2 (by decide)

theorem MS.alloc {w wr : World} {fv rv : Value} {f : List FN} {r : List Int} (h : MS w wr fv rv f r) (o : Obj) : MS w (wr.alloc o) fv rv f r := ⟨below_alloc h.bel _, Kd.R_alloc h.rf _, Kd.R_alloc h.rr _⟩
theorem MS.drew {w wr : World} {fv rv : Value} {f : List FN} {r : List Int} (h : MS w wr fv rv f r) : MS w wr.drew fv rv f r := ⟨below_drew h.bel, Kd.R_drew h.rf, Kd.R_drew h.rr⟩
theorem MS.below {w wr w1 : World} {fv rv : Value} {f : List FN} {r : List Int} (h : MS w wr fv rv f r) (hb : Below wr.heap.size wr w1) : MS w w1 fv rv f r := ⟨h.bel.trans (hb.mono h.bel.size), Kd.R_below h.rf hb, Kd.R_below h.rr hb⟩

/-- Behind an append to the nodes. -/
theorem MS.app_f {w wr w7 : World} {fv rv fv' : Value} {f f' : List FN} {r : List Int} (h : MS w wr fv rv f r) (hg : wr.grownBy w7 fv.ownBlock) (hR : k62.R 62 w7 0 (fun k => w.heap.size ≤ k) fv' f') : MS w w7 fv' rv f' r :=
  ⟨pw_below_grown h.bel _ h.bel.size hg (fun q hq => h.rf.1 q hq), hR, Kd.R_grown2 h.rr rfl hg (fun k hk hn => h.ne k hk.symm hn)⟩
/-- Behind an append to the roots. -/
theorem MS.app_r {w wr w7 : World} {fv rv rv' : Value} {f : List FN} {r r' : List Int} (h : MS w wr fv rv f r) (hg : wr.grownBy w7 rv.ownBlock) (hR : (Kd.int .i64).R 3 w7 0 (fun k => w.heap.size ≤ k) rv' r') : MS w w7 fv rv' f r' :=
  ⟨pw_below_grown h.bel _ h.bel.size hg (fun q hq => h.rr.1 q hq), Kd.R_grown2 h.rf rfl hg (fun k hk hn => h.ne k hn hk.symm), hR⟩
theorem MS.take {w wr : World} {fv : Value} {A : Option Addr} {n c m : Nat} {f : List FN} {r : List Int} (h : MS w wr fv (.slice A n c) f r) (hm : m ≤ r.length) : MS w wr fv (.slice A m c) f (r.take m) := ⟨h.bel, h.rf, Kd.R_take h.rr hm⟩

/-- A root that is written. -/
theorem MS.at {w wr : World} {fv : Value} {g c m : Nat} {f : List FN} {r : List Int} (h : MS w wr fv (.slice (some ⟨g, 0, none⟩) r.length c) f r) (hm : m < r.length) : wr.cell? ⟨g, m, none⟩ = some (.int .i64 (r.getD m 0)) ∧ wr.frozen? ⟨g, m, none⟩ = false := by
  obtain ⟨cs, hcl, hM, hcc, hfr⟩ := Kd.R_elem h.rr 0 (m : Int) (by omega) (by omega)
  have h0 := hcc 0 (.int .i64 (r.getD m 0)) (by rw [show cs = [.int .i64 (r.getD m 0)] from hM]; rfl)
  have h1 := hfr 0
  rw [show (m : Int).toNat * (Kd.int .i64).sz + 0 = m from Nat.mul_one _] at h0 h1
  exact ⟨h0, h1⟩
theorem MS.put {w wr : World} {fv : Value} {g c m : Nat} {f : List FN} {r : List Int} (h : MS w wr fv (.slice (some ⟨g, 0, none⟩) r.length c) f r) (x : Int) : MS w (wr.setCell ⟨g, m, none⟩ (.int .i64 x)) fv (.slice (some ⟨g, 0, none⟩) r.length c) f (r.set m x) := by
  obtain ⟨h1, h2⟩ := Kd.R_putg h.rr (m : Int) x
  refine ⟨h.bel.setCell (p := ⟨g, m, none⟩) (h.rr.1 g rfl) _, Kd.R_grown2 h.rf rfl h2 (fun k hk hn => ?_), h1⟩
  injection hk with hk
  subst hk
  exact h.ne _ hn rfl

theorem int_M (w : World) (base : Nat) (ok : Nat → Prop) (x : Int) : (Kd.int .i64).M w base ok x [.int .i64 x] := rfl

/-- The bytes as numbers. -/
def u8s (l : List UInt8) : List Int := l.map fun b => (b.toNat : Int)

theorem rd_at {r : List Int} {i : Int} {m : Nat} (h : i = (m : Int)) : rd r i = r.getD m 0 := by subst h; simp [rd]

/-- What the loop goes on. -/
def MdR (l : List UInt8) (n : Nat) (w : World) (kq : Nat) (v5 v6 v7 : Value) (wr : World) : Prop :=
  ∃ (Af Ar : Option Addr) (cf cr j : Nat) (f : List FN) (r : List Int), v5 = .slice Af f.length cf ∧ v6 = .slice Ar r.length cr ∧ v7 = .int .i64 j ∧
    Aside0 (j + kq = (l.take 40).length ∧ ((l.take 40).take j).foldl (mdStep n) ([], []) = (f, r) ∧ MS w wr (.slice Af f.length cf) (.slice Ar r.length cr) f r ∧ f.length ≤ j ∧ r.length ≤ j)

theorem md_a1 {n x : Int} {f : List FN} {r : List Int} {b : UInt8} (hx : x = (b.toNat : Int)) (h : x % 8 < 3) (h1 : 1 < r.length) (h3 : 7 < x % 16) : mdStep n (f, r) b = (f ++ [⟨4 + x % 2, 0, r.getD (r.length - 1) 0, r.getD (r.length - 2) 0⟩], r.take (r.length - 2) ++ [(f.length : Int)]) := by
  unfold mdStep
  dsimp only
  rw [← hx, if_pos ⟨h, h1⟩, if_pos h3, show x % 8 % 2 = x % 2 by omega]
theorem md_a2 {n x : Int} {f : List FN} {r : List Int} {b : UInt8} (hx : x = (b.toNat : Int)) (h : x % 8 < 3) (h1 : 1 < r.length) (h3 : ¬ 7 < x % 16) : mdStep n (f, r) b = (f ++ [⟨4 + x % 2, 0, r.getD (r.length - 2) 0, r.getD (r.length - 1) 0⟩], r.take (r.length - 2) ++ [(f.length : Int)]) := by
  unfold mdStep
  dsimp only
  rw [← hx, if_pos ⟨h, h1⟩, if_neg h3, show x % 8 % 2 = x % 2 by omega]
theorem md_b {n x : Int} {f : List FN} {r : List Int} {b : UInt8} (hx : x = (b.toNat : Int)) (h : x % 8 = 3) (h1 : 0 < r.length) : mdStep n (f, r) b = (f ++ [⟨3, 0, r.getD (r.length - 1) 0, 0⟩], r.take (r.length - 1) ++ [(f.length : Int)]) := by
  unfold mdStep
  dsimp only
  rw [← hx, if_neg (by omega), if_pos ⟨h, h1⟩]
theorem md_c {n x : Int} {f : List FN} {r : List Int} {b : UInt8} (hx : x = (b.toNat : Int)) (h1 : ¬ (x % 8 < 3 ∧ 1 < r.length)) (h2 : ¬ (x % 8 = 3 ∧ 0 < r.length)) (h : x % 8 = 4) (h3 : 200 < x) : mdStep n (f, r) b = (f ++ [⟨x % 2, 0, 0, 0⟩], r ++ [(f.length : Int)]) := by
  unfold mdStep
  dsimp only
  rw [← hx, if_neg h1, if_neg h2, if_pos ⟨h, h3⟩]
theorem md_d {n x : Int} {f : List FN} {r : List Int} {b : UInt8} (hx : x = (b.toNat : Int)) (h1 : ¬ (x % 8 < 3 ∧ 1 < r.length)) (h2 : ¬ (x % 8 = 3 ∧ 0 < r.length)) (h : ¬ (x % 8 = 4 ∧ 200 < x)) : mdStep n (f, r) b = (f ++ [⟨2, x / 8 % n, 0, 0⟩], r ++ [(f.length : Int)]) := by
  unfold mdStep
  dsimp only
  rw [← hx, if_neg h1, if_neg h2, if_neg h]

theorem slen1 {α : Type} (A : Option Addr) (c : Nat) (xs : List α) (x : α) : Value.slice A (xs.length + 1) c = .slice A (xs ++ [x]).length c := by rw [List.length_append]; rfl
theorem slent (A : Option Addr) (c : Nat) (xs : List Int) (x : Int) (m : Nat) (hm : m ≤ xs.length) : Value.slice A (m + 1) c = .slice A (xs.take m ++ [x]).length c := by rw [List.length_append, List.length_take, Nat.min_eq_left hm]; rfl
theorem msl {w wr : World} {A B : Option Addr} {c d : Nat} {f : List FN} {x : FN} {r : List Int} {y : Int} (h : MS w wr (.slice A (f.length + 1) c) (.slice B (r.length + 1) d) (f ++ [x]) (r ++ [y])) : MS w wr (.slice A (f ++ [x]).length c) (.slice B (r ++ [y]).length d) (f ++ [x]) (r ++ [y]) := by
  rw [List.length_append, List.length_append]; exact h

theorem set_last {r : List Int} {x : Int} (h : 0 < r.length) : r.set (r.length - 1) x = r.take (r.length - 1) ++ [x] := by
  obtain ⟨qs, p, rfl⟩ := last1 h
  simp
theorem msl2 {w wr : World} {A B : Option Addr} {c d : Nat} {f : List FN} {x : FN} {r : List Int} {y : Int} (h0 : 0 < r.length) (h : MS w wr (.slice A (f.length + 1) c) (.slice B r.length d) (f ++ [x]) (r.set (r.length - 1) y)) :
    MS w wr (.slice A (f ++ [x]).length c) (.slice B (r.take (r.length - 1) ++ [y]).length d) (f ++ [x]) (r.take (r.length - 1) ++ [y]) := by
  rw [set_last h0] at h
  rw [List.length_append, List.length_append, List.length_take, Nat.min_eq_left (by omega), List.length_singleton, List.length_singleton, show r.length - 1 + 1 = r.length by omega]
  exact h

/-- What the second loop goes on. -/
def MjR (s0 : List FN × List Int) (w : World) (q : Nat) (v5 v6 : Value) (wr : World) : Prop :=
  ∃ (Af Ar : Option Addr) (cf cr : Nat) (f : List FN) (r : List Int), v5 = .slice Af f.length cf ∧ v6 = .slice Ar r.length cr ∧
    Aside0 (mdJoins q (f, r) = mdJoins s0.2.length s0 ∧ r.length ≤ q + 1 ∧ 0 < r.length ∧ MS w wr (.slice Af f.length cf) (.slice Ar r.length cr) f r ∧ f.length + r.length ≤ 80)

theorem joins_stop {q : Nat} {s : List FN × List Int} (h : ¬ 1 < s.2.length) : mdJoins q s = s := by
  cases q with
  | zero => rfl
  | succ q => rw [mdJoins, if_neg h]
theorem joins_go {q : Nat} {f : List FN} {r : List Int} {g1 g2 : Int} (h : 1 < r.length) (h1 : g1 = r.getD (r.length - 1) 0) (h2 : g2 = r.getD (r.length - 2) 0) : mdJoins (q + 1) (f, r) = mdJoins q (f ++ [⟨5, 0, g2, g1⟩], r.take (r.length - 2) ++ [(f.length : Int)]) := by
  rw [mdJoins, if_pos h, h1, h2]
  rfl

theorem mdr_next {l : List UInt8} {n : Nat} {w w9 : World} {j gk : Nat} {f : List FN} {r : List Int} {b : UInt8} {v5 v6 v7 : Value} {Af Ar : Option Addr} {cf cr : Nat} {x : FN} {rt : List Int} {y : Int}
    (hs : ((l.take 40).take (j + 1)).foldl (mdStep n) ([], []) = mdStep n (f, r) b) (he : mdStep n (f, r) b = (f ++ [x], rt ++ [y])) (h5 : v5 = .slice Af (f ++ [x]).length cf) (h6 : v6 = .slice Ar (rt ++ [y]).length cr) (h7 : v7 = .int .i64 ((j + 1 : Nat) : Int))
    (hk : j + 1 + (gk - 1) = (l.take 40).length) (hl1 : f.length ≤ j) (hl2 : rt.length ≤ j) (hm : MS w w9 (.slice Af (f ++ [x]).length cf) (.slice Ar (rt ++ [y]).length cr) (f ++ [x]) (rt ++ [y])) : MdR l n w (gk - 1) v5 v6 v7 w9 :=
  ⟨Af, Ar, cf, cr, j + 1, _, _, h5, h6, h7, hk, hs.trans he, hm, by rw [List.length_append]; simp; omega, by rw [List.length_append]; simp; omega⟩

set_option maxHeartbeats 8000000 in
set_option maxRecDepth 100000 in
theorem made_any (A : Option Addr) (c n : Nat) (l : List UInt8) (w : World) (hC : (Kd.int .u8).C w A l.length (u8s l)) (hc : l.length ≤ c) (h0 : 0 < n) (hn : n ≤ 64) :
    Calls Tryd.prog 12 #[.slice A l.length c, .int .i64 n] w (FnP (madeP l n) w) := by
  have HC := Lib.hid hC
  have hll := HC.out.2.1
  have hn0 : (0 : Int) < n := by omega
  have hn1 : (n : Int) ≤ 64 := by omega
  clear hC
  go_enter Tryd.func12, Tryd.ntmps12
  go_wp2_with fail
  go_loopg [5, 6, 7] (l.take 40).length (fun kq v5 v6 v7 wr => MdR l n w kq v5 v6 v7 wr)
  case atStart => exact ⟨none, none, 0, 0, 0, [], [], rfl, rfl, rfl, ⟨by simp, rfl, ⟨Below.refl _ _, Kd.R_nil _ _ _ _ _, Kd.R_nil _ _ _ _ _⟩, by simp, by simp⟩⟩
  case round =>
    obtain ⟨Af, Ar, cf, cr, j, f, r, rfl, rfl, rfl, HA⟩ := hrel
    have hj := HA.out.1
    have hfl := HA.out.2.2.2.1
    have hrl := HA.out.2.2.2.2
    by_cases hjl : j < (l.take 40).length
    · have hj40 : j < 40 := by rw [List.length_take] at hjl; omega
      have hjn : j < l.length := by rw [List.length_take] at hjl; omega
      obtain ⟨b, hb⟩ : ∃ b, l[j]? = some b := ⟨_, List.getElem?_eq_getElem hjn⟩
      have hstep : ((l.take 40).take (j + 1)).foldl (mdStep n) ([], []) = mdStep n (f, r) b := by
        rw [List.take_add_one, List.getElem?_take, if_pos hj40, hb, List.foldl_append, HA.out.2.1]; rfl
      obtain ⟨ad, rfl, hcl⟩ := Kd.at_int (Kd.C_below HC.out HA.out.2.2.1.bel) (j : Int) (by omega) (by omega)
      obtain ⟨x, hx⟩ : ∃ x : Int, x = (b.toNat : Int) := ⟨_, rfl⟩
      have hrd : rd (u8s l) (j : Int) = x := by rw [rd_at rfl, u8s, List.getD_eq_getElem?_getD, List.getElem?_map, hb, hx]; rfl
      rw [hrd, Int.toNat_natCast] at hcl
      have hx0 : 0 ≤ x := by omega
      have hx1 : x < 256 := by have := b.toNat_lt; omega
      have hj0 : (0 : Int) ≤ (j : Int) := by omega
      have hj1 : (j : Int) < (l.length : Int) := by omega
      have hj4 : (j : Int) < 40 := by omega
      have HS := Lib.hid hstep
      have HX := Lib.hid hx
      have HMS := Lib.hid HA.out.2.2.1
      have hlt : (l.take 40).length ≤ 40 := by rw [List.length_take]; omega
      clear hstep hx hrd hb
      by_cases c1 : x % 8 < 3 ∧ 1 < r.length
      · obtain ⟨c1a, c1b⟩ := c1
        have c1c : (1 : Int) < (r.length : Int) := by omega
        obtain ⟨A2, c2, hrs, hcr, hCr⟩ := Kd.R_reads HMS.out.rr
        injection hrs with q1 q2 q3
        subst q1 q3
        obtain ⟨adr, q4, r2⟩ := Kd.at_int hCr ((r.length : Int) - 2) (by omega) (by omega)
        obtain ⟨adr', q5, r1⟩ := Kd.at_int hCr ((r.length : Int) - 1) (by omega) (by omega)
        subst q4
        injection q5 with q5
        subst q5
        rw [rd_at (m := r.length - 2) (by omega), show ((r.length : Int) - 2).toNat = r.length - 2 by omega] at r2
        rw [rd_at (m := r.length - 1) (by omega), show ((r.length : Int) - 1).toNat = r.length - 1 by omega] at r1
        obtain ⟨g1, hg1⟩ : ∃ g1, g1 = r.getD (r.length - 1) 0 := ⟨_, rfl⟩
        obtain ⟨g2, hg2⟩ : ∃ g2, g2 = r.getD (r.length - 2) 0 := ⟨_, rfl⟩
        rw [← hg1] at r1
        rw [← hg2] at r2
        have HG1 := Lib.hid hg1
        have HG2 := Lib.hid hg2
        have hz := HMS.out.bel.size
        clear hCr hg1 hg2 q2
        by_cases c3 : 7 < x % 16
        · go_wp2_with (first
            | (at_builtin; (refine list_append_R k62 rfl (.tmp 67) (.tmp 75) 26 62 _ 32 rfl Tryd.underlying26 info62 rfl (by decide) (.slice Af f.length cf) f ⟨4 + x % 2, 0, g1, g2⟩ [.int .i64 (4 + x % 2), .int .i64 0, .int .i64 g1, .int .i64 g2] (fun k => w.heap.size ≤ k) (fun _ => False) rfl ⟨wr.heap.size, 0, none⟩ rfl (new_cells0 _ _ _ _ rfl) (k62_mkM _ _ _ ⟨4 + x % 2, 0, g1, g2⟩) (fun _ h => h.elim) (by intro k hk; simp at hk; omega) (HMS.out.alloc _).rf (by omega) (by decide) ?_); intro g cap w7 hR hg hat hlt7; have HM7 := Lib.hid ((HMS.out.alloc _).app_f hg hR); have hz7 := HM7.out.bel.size; clear hR hg hat)
            | (at_builtin; (refine list_append_R (Kd.int .i64) rfl (.tmp 80) (.tmp 84) 65 3 _ 8 rfl Tryd.underlying65 infoInt rfl (by decide) (.slice (some adr) (r.length - 2) cr) (r.take (r.length - 2)) (f.length : Int) [.int .i64 (f.length : Int)] (fun k => w.heap.size ≤ k) (fun _ => False) rfl ⟨w7.heap.size, 0, none⟩ rfl (new_cells0 _ _ _ _ rfl) (int_M _ _ _ _) (fun _ h => h.elim) (by intro k hk; simp at hk; omega) ((HM7.out.take (by omega : r.length - 2 ≤ r.length)).alloc _).rr (by first | omega | (simp; omega)) (by decide) ?_); intro gr cap2 w9 hR hg hat hlt9; have HM9 := Lib.hid (((HM7.out.take (by omega : r.length - 2 ≤ r.length)).alloc _).app_r hg hR); clear hR hg hat))
          go_roundg (gk - 1)
          case measure => omega
          case rel => exact mdr_next HS.out ((md_a1 HX.out c1a c1b c3).trans (by rw [← HG1.out, ← HG2.out])) (slen1 _ _ _ _) (slent _ _ _ _ _ (by omega)) (by go_num) (by omega) hfl (by simp; omega) (msl HM9.out)
        · go_wp2_with (first
            | (at_builtin; (refine list_append_R k62 rfl (.tmp 67) (.tmp 75) 26 62 _ 32 rfl Tryd.underlying26 info62 rfl (by decide) (.slice Af f.length cf) f ⟨4 + x % 2, 0, g2, g1⟩ [.int .i64 (4 + x % 2), .int .i64 0, .int .i64 g2, .int .i64 g1] (fun k => w.heap.size ≤ k) (fun _ => False) rfl ⟨wr.heap.size, 0, none⟩ rfl (new_cells0 _ _ _ _ rfl) (k62_mkM _ _ _ ⟨4 + x % 2, 0, g2, g1⟩) (fun _ h => h.elim) (by intro k hk; simp at hk; omega) (HMS.out.alloc _).rf (by omega) (by decide) ?_); intro g cap w7 hR hg hat hlt7; have HM7 := Lib.hid ((HMS.out.alloc _).app_f hg hR); have hz7 := HM7.out.bel.size; clear hR hg hat)
            | (at_builtin; (refine list_append_R (Kd.int .i64) rfl (.tmp 80) (.tmp 84) 65 3 _ 8 rfl Tryd.underlying65 infoInt rfl (by decide) (.slice (some adr) (r.length - 2) cr) (r.take (r.length - 2)) (f.length : Int) [.int .i64 (f.length : Int)] (fun k => w.heap.size ≤ k) (fun _ => False) rfl ⟨w7.heap.size, 0, none⟩ rfl (new_cells0 _ _ _ _ rfl) (int_M _ _ _ _) (fun _ h => h.elim) (by intro k hk; simp at hk; omega) ((HM7.out.take (by omega : r.length - 2 ≤ r.length)).alloc _).rr (by first | omega | (simp; omega)) (by decide) ?_); intro gr cap2 w9 hR hg hat hlt9; have HM9 := Lib.hid (((HM7.out.take (by omega : r.length - 2 ≤ r.length)).alloc _).app_r hg hR); clear hR hg hat))
          go_roundg (gk - 1)
          case measure => omega
          case rel => exact mdr_next HS.out ((md_a2 HX.out c1a c1b (by omega)).trans (by rw [← HG1.out, ← HG2.out])) (slen1 _ _ _ _) (slent _ _ _ _ _ (by omega)) (by go_num) (by omega) hfl (by simp; omega) (msl HM9.out)
      · by_cases c2 : x % 8 = 3 ∧ 0 < r.length
        · obtain ⟨c2a, c2b⟩ := c2
          have q1 : ¬ x % 8 < 3 := by omega
          have q3 : (x % 8 == 3) = true := beq_iff_eq.2 c2a
          have c2c : (0 : Int) < (r.length : Int) := by omega
          obtain ⟨A2, c2, hrs, hcr, hCr⟩ := Kd.R_reads HMS.out.rr
          injection hrs with q5 q6 q7
          subst q5 q7
          have hmd := md_b (n := n) (f := f) HX.out c2a c2b
          have HMD := Lib.hid hmd
          have hz := HMS.out.bel.size
          obtain ⟨adr, q4, _⟩ := Kd.at_int hCr ((r.length : Int) - 1) (by omega) (by omega)
          subst q4
          obtain ⟨g0, hg0⟩ := Kd.R_head HMS.out.rr
          subst hg0
          have r1 := (HMS.out.at (m := r.length - 1) (by omega)).1
          obtain ⟨g1, hg1⟩ : ∃ g1, g1 = r.getD (r.length - 1) 0 := ⟨_, rfl⟩
          rw [← hg1] at r1
          have HG1 := Lib.hid hg1
          clear c1 c2a hCr hmd hg1 q6
          go_wp2_with (first
            | (at_builtin; (refine list_append_R k62 rfl (.tmp 94) (.tmp 101) 26 62 _ 32 rfl Tryd.underlying26 info62 rfl (by decide) (.slice Af f.length cf) f ⟨3, 0, g1, 0⟩ [.int .i64 3, .int .i64 0, .int .i64 g1, .int .i64 0] (fun k => w.heap.size ≤ k) (fun _ => False) rfl ⟨wr.heap.size, 0, none⟩ rfl (new_cells0 _ _ _ _ rfl) (k62_mkM _ _ _ ⟨3, 0, g1, 0⟩) (fun _ h => h.elim) (by intro k hk; simp at hk; omega) (HMS.out.alloc _).rf (by omega) (by decide) ?_); intro g cap w7 hR hg hat hlt7; have HM7 := Lib.hid ((HMS.out.alloc _).app_f hg hR); have hz7 := HM7.out.bel.size; clear hR hg hat; have r7 := (HM7.out.at (m := r.length - 1) (by omega)).1; have z7 := (HM7.out.at (m := r.length - 1) (by omega)).2))
          go_roundg (gk - 1)
          case measure => omega
          case rel => exact mdr_next HS.out (HMD.out.trans (by rw [← HG1.out])) (slen1 _ _ _ _) (by rw [List.length_append, List.length_take, Nat.min_eq_left (by omega), List.length_singleton, show r.length - 1 + 1 = r.length by omega]) (by go_num) (by omega) hfl (by rw [List.length_take]; omega) (msl2 (by omega) (HM7.out.put (m := r.length - 1) (f.length : Int)))
        · by_cases c4 : x % 8 = 4 ∧ 200 < x
          · obtain ⟨c4a, c4b⟩ := c4
            have q4 : (x % 8 == 4) = true := beq_iff_eq.2 c4a
            have q3 : (x % 8 == 3) = false := beq_eq_false_iff_ne.2 (by omega)
            have q1 : ¬ x % 8 < 3 := by omega
            have C4 := Lib.hid c4a
            have C1 := Lib.hid c1
            have C2 := Lib.hid c2
            have hz := HMS.out.bel.size
            clear c4a c1 c2
            go_wp2_with (first
              | (at_builtin; (refine list_append_R k62 rfl (.tmp 118) (.tmp 122) 26 62 _ 32 rfl Tryd.underlying26 info62 rfl (by decide) (.slice Af f.length cf) f ⟨x % 2, 0, 0, 0⟩ [.int .i64 (x % 2), .int .i64 0, .int .i64 0, .int .i64 0] (fun k => w.heap.size ≤ k) (fun _ => False) rfl ⟨wr.heap.size, 0, none⟩ rfl (new_cells0 _ _ _ _ rfl) (k62_mkM _ _ _ ⟨x % 2, 0, 0, 0⟩) (fun _ h => h.elim) (by intro k hk; simp at hk; omega) (HMS.out.alloc _).rf (by omega) (by decide) ?_); intro g cap w7 hR hg hat hlt7; have HM7 := Lib.hid ((HMS.out.alloc _).app_f hg hR); have hz7 := HM7.out.bel.size; clear hR hg hat)
              | (at_builtin; (refine list_append_R (Kd.int .i64) rfl (.tmp 124) (.tmp 128) 65 3 _ 8 rfl Tryd.underlying65 infoInt rfl (by decide) (.slice Ar (r.length) cr) (r) (f.length : Int) [.int .i64 (f.length : Int)] (fun k => w.heap.size ≤ k) (fun _ => False) rfl ⟨w7.heap.size, 0, none⟩ rfl (new_cells0 _ _ _ _ rfl) (int_M _ _ _ _) (fun _ h => h.elim) (by intro k hk; simp at hk; omega) ((HM7.out).alloc _).rr (by first | omega | (simp; omega)) (by decide) ?_); intro gr cap2 w9 hR hg hat hlt9; have HM9 := Lib.hid (((HM7.out).alloc _).app_r hg hR); clear hR hg hat))
            go_roundg (gk - 1)
            case measure => omega
            case rel => exact mdr_next HS.out (md_c HX.out C1.out C2.out C4.out c4b) (slen1 _ _ _ _) (slen1 _ _ _ _) (by go_num) (by omega) hfl hrl (msl HM9.out)
          · have hcase : (x % 8 < 3 ∧ ¬ 1 < (r.length : Int) ∧ (x % 8 == 3) = false ∧ (x % 8 == 4) = false) ∨ (¬ x % 8 < 3 ∧ (x % 8 == 3) = true ∧ ¬ 0 < (r.length : Int) ∧ (x % 8 == 4) = false) ∨ (¬ x % 8 < 3 ∧ (x % 8 == 3) = false ∧ (x % 8 == 4) = true ∧ ¬ 200 < x) ∨ (¬ x % 8 < 3 ∧ (x % 8 == 3) = false ∧ (x % 8 == 4) = false) := by
              simp only [beq_iff_eq, beq_eq_false_iff_ne, ne_eq]
              omega
            have hmd := md_d (n := n) (f := f) HX.out c1 c2 c4
            have hq : 0 ≤ x / 8 := by omega
            have HMD := Lib.hid hmd
            have hz := HMS.out.bel.size
            clear c1 c2 c4 hmd
            rcases hcase with ⟨d1, d2, d3, d4⟩ | ⟨d1, d2, d3, d4⟩ | ⟨d1, d2, d3, d4⟩ | ⟨d1, d2, d3⟩
            all_goals
              go_wp2_with (first
                | (at_builtin; (refine list_append_R k62 rfl (.tmp 30) (.tmp 36) 26 62 _ 32 rfl Tryd.underlying26 info62 rfl (by decide) (.slice Af f.length cf) f ⟨2, x / 8 % n, 0, 0⟩ [.int .i64 2, .int .i64 (x / 8 % n), .int .i64 0, .int .i64 0] (fun k => w.heap.size ≤ k) (fun _ => False) rfl ⟨wr.heap.size, 0, none⟩ rfl (new_cells0 _ _ _ _ rfl) (k62_mkM _ _ _ ⟨2, x / 8 % n, 0, 0⟩) (fun _ h => h.elim) (by intro k hk; simp at hk; omega) (HMS.out.alloc _).rf (by omega) (by decide) ?_); intro g cap w7 hR hg hat hlt7; have HM7 := Lib.hid ((HMS.out.alloc _).app_f hg hR); have hz7 := HM7.out.bel.size; clear hR hg hat)
                | (at_builtin; (refine list_append_R (Kd.int .i64) rfl (.tmp 38) (.tmp 42) 65 3 _ 8 rfl Tryd.underlying65 infoInt rfl (by decide) (.slice Ar (r.length) cr) (r) (f.length : Int) [.int .i64 (f.length : Int)] (fun k => w.heap.size ≤ k) (fun _ => False) rfl ⟨w7.heap.size, 0, none⟩ rfl (new_cells0 _ _ _ _ rfl) (int_M _ _ _ _) (fun _ h => h.elim) (by intro k hk; simp at hk; omega) ((HM7.out).alloc _).rr (by first | omega | (simp; omega)) (by decide) ?_); intro gr cap2 w9 hR hg hat hlt9; have HM9 := Lib.hid (((HM7.out).alloc _).app_r hg hR); clear hR hg hat))
              go_roundg (gk - 1)
              case measure => omega
              case rel => exact mdr_next HS.out HMD.out (slen1 _ _ _ _) (slen1 _ _ _ _) (by go_num) (by omega) hfl hrl (msl HM9.out)
    · have hend : (l.take 40).take j = l.take 40 := List.take_of_length_le (by omega)
      have hs0 : mdNums n l = (f, r) := by have := HA.out.2.1; rw [hend] at this; exact this
      have HS0 := Lib.hid hs0
      have HMS := Lib.hid HA.out.2.2.1
      have hz := HMS.out.bel.size
      have hll2 : (l.take 40).length ≤ 40 := by rw [List.length_take]; omega
      have hcase : (j : Int) < (l.length : Int) ∧ ¬ (j : Int) < 40 ∨ ¬ (j : Int) < (l.length : Int) := by rw [List.length_take] at hjl; omega
      clear hend hs0
      by_cases hr0 : r.length = 0
      · have hr0b : ((r.length : Int) == 0) = true := by rw [hr0]; rfl
        have hmp : madeP l n = [⟨1, 0, 0, 0⟩] := by unfold madeP; rw [HS0.out, if_pos hr0]
        have HMP := Lib.hid hmp
        have HR0 := Lib.hid hr0
        clear hmp hr0
        rcases hcase with ⟨d1, d2⟩ | d1
        all_goals
          go_wp2_with fail
          go_ret
          refine ⟨below_alloc HMS.out.bel _, some ⟨wr.heap.size, 0, none⟩, 1, ?_, ?_, ?_⟩
          · rw [HMP.out]; rfl
          · rw [HMP.out]; exact Nat.le_refl _
          · rw [HMP.out]
            exact C_fns [⟨1, 0, 0, 0⟩] (by decide) (blk_new wr _)
      · have hr0b : ((r.length : Int) == 0) = false := beq_eq_false_iff_ne.2 (by omega)
        have hmp : madeP l n = (mdJoins r.length (f, r)).1 := by unfold madeP; rw [HS0.out, if_neg hr0]
        have HMP := Lib.hid hmp
        clear hmp
        rcases hcase with ⟨d1, d2⟩ | d1
        all_goals
          go_wp2_with fail
          go_loopg [5, 6] r.length (fun kq v5 v6 wr => MjR (f, r) w kq v5 v6 wr)
          case atStart => exact ⟨Af, Ar, cf, cr, f, r, rfl, rfl, rfl, by omega, by omega, HMS.out, by omega⟩
          case round =>
            obtain ⟨Bf, Br, df, dr, f2, r2, rfl, rfl, HJ⟩ := hrel
            have hjr := HJ.out.2.1
            have hjp := HJ.out.2.2.1
            have hjm := HJ.out.2.2.2.2
            have HM := Lib.hid HJ.out.2.2.2.1
            have HE := Lib.hid HJ.out.1
            have hz2 := HM.out.bel.size
            clear HJ HMS HA
            by_cases h1 : 1 < r2.length
            · have h1c : (1 : Int) < (r2.length : Int) := by omega
              obtain ⟨A2, c2, hrs, hcr, hCr⟩ := Kd.R_reads HM.out.rr
              injection hrs with q5 q6 q7
              subst q5 q7
              obtain ⟨adr, q4, _⟩ := Kd.at_int hCr ((r2.length : Int) - 1) (by omega) (by omega)
              subst q4
              obtain ⟨g0, hg0⟩ := Kd.R_head HM.out.rr
              subst hg0
              have s1 := (HM.out.at (m := r2.length - 1) (by omega)).1
              have s2 := (HM.out.at (m := r2.length - 2) (by omega)).1
              obtain ⟨g1, hg1⟩ : ∃ g1, g1 = r2.getD (r2.length - 1) 0 := ⟨_, rfl⟩
              obtain ⟨g2, hg2⟩ : ∃ g2, g2 = r2.getD (r2.length - 2) 0 := ⟨_, rfl⟩
              rw [← hg1] at s1
              rw [← hg2] at s2
              have HG1 := Lib.hid hg1
              have HG2 := Lib.hid hg2
              have hlt0 := World.block_lt_of_cell? _ _ s1
              obtain ⟨gq, rfl⟩ : ∃ gq, gk = gq + 1 := ⟨gk - 1, by omega⟩
              clear hg1 hg2 hCr q6
              go_wp2_with fail
              have i1 : (0 : Int) ≤ (r2.length : Int) - 2 := by omega
              have i2 : (r2.length : Int) - 2 < (r2.length : Int) := by omega
              have i3 : (0 : Int) ≤ (r2.length : Int) - 1 := by omega
              have i4 : (r2.length : Int) - 1 < (r2.length : Int) := by omega
              have i5 : IntKind.i64.wrap ((r2.length : Int) - 2) = (r2.length : Int) - 2 := IntWalk.i64_in _ (by omega)
              have i6 : IntKind.i64.wrap ((r2.length : Int) - 1) = (r2.length : Int) - 1 := IntWalk.i64_in _ (by omega)
              have i9 : (2 : Int) ≤ (r2.length : Int) := by omega
              have i10 : (1 : Int) ≤ (r2.length : Int) := by omega
              have i7 : ((r2.length : Int) - 2).toNat = r2.length - 2 := by omega
              have i8 : ((r2.length : Int) - 1).toNat = r2.length - 1 := by omega
              go_region_held3 (fun w' => w'.cell? ⟨g0, r2.length - 1, none⟩ = some (.int .i64 g1) ∧ w'.cell? ⟨g0, r2.length - 2, none⟩ = some (.int .i64 g2))
                (first | go_keep | exact ⟨(HM7.out.at (m := r2.length - 1) (by omega)).1.trans (by rw [← HG1.out]), (HM7.out.at (m := r2.length - 2) (by omega)).1.trans (by rw [← HG2.out])⟩)
                ((refine step_append_R k62 (by rfl) (.tmp 140) (.tmp 152) 26 62 _ 32 (by rfl) Tryd.underlying26 info62 rfl (by decide) (.slice Bf f2.length df) f2 ⟨5, 0, g2, g1⟩ [.int .i64 5, .int .i64 0, .int .i64 g2, .int .i64 g1] (fun k => w.heap.size ≤ k) (fun _ => False) (by rfl) ⟨wr.heap.size, 0, none⟩ (by rfl) (new_cells _ _ _ _ rfl) (k62_mkM _ _ _ ⟨5, 0, g2, g1⟩) (fun _ h => h.elim) (by intro k hk; simp at hk; omega) ((HM.out.alloc _).drew).rf (by omega) (by decide) ?_; intro g cap w7 hR hg hat hlt7; have HM7 := Lib.hid (((HM.out.alloc _).drew).app_f hg hR); have hz7 := HM7.out.bel.size; clear hR hg hat))
              all_goals
                clear i5 i6
                go_wp2_with (first
                  | (at_builtin; (refine list_append_R (Kd.int .i64) rfl (.tmp 157) (.tmp 161) 65 3 _ 8 rfl Tryd.underlying65 infoInt rfl (by decide) (.slice (some ⟨g0, 0, none⟩) (r2.length - 2) dr) (r2.take (r2.length - 2)) (f2.length : Int) [.int .i64 (f2.length : Int)] (fun k => w.heap.size ≤ k) (fun _ => False) rfl ⟨w7.heap.size, 0, none⟩ rfl (new_cells0 _ _ _ _ rfl) (int_M _ _ _ _) (fun _ h => h.elim) (by intro k hk; simp at hk; omega) ((HM7.out.take (by omega : r2.length - 2 ≤ r2.length)).alloc _).rr (by first | omega | (simp; omega)) (by decide) ?_); intro gr cap2 w9 hR hg hat hlt9; have HM9 := Lib.hid (((HM7.out.take (by omega : r2.length - 2 ≤ r2.length)).alloc _).app_r hg hR); clear hR hg hat))
                go_roundg (gq + 1 - 1)
                case measure => omega
                case rel => exact ⟨some ⟨g, 0, none⟩, some ⟨gr, 0, none⟩, cap, cap2, _, _, slen1 _ _ _ _, slent _ _ _ _ _ (by omega), (joins_go h1 HG1.out HG2.out).symm.trans HE.out, by rw [List.length_append, List.length_take]; simp; omega, by simp, msl HM9.out, by rw [List.length_append, List.length_append, List.length_take]; simp; omega⟩
            · have h1c : ¬ (1 : Int) < (r2.length : Int) := by omega
              have HD := Lib.hid (HMP.out.trans (congrArg Prod.fst (HE.out.symm.trans (joins_stop (q := gk) (s := (f2, r2)) h1))))
              go_wp2_with fail
              go_ret
              obtain ⟨A3, c3, he, hc3, hC3⟩ := Kd.R_reads HM.out.rf
              injection he with e1 e2 e3
              subst e1 e3
              rw [show madeP l n = f2 from HD.out]
              exact ⟨HM.out.bel, Bf, df, rfl, hc3, hC3⟩
end Go.Proofs.YtgpnpfjbkaehlaaDoor.Wk
namespace Go.Proofs.YtgpnpfjbkaehlaaDoor.Wk
open Go.RowKit Go.Shelf Go.Lib Go.Maps Go.Proofs.YtgpnpfjbkaehlaaDoorW.PrintWords Go.Proofs.YtgpnpfjbkaehlaaDoorW.PrintLast Go.Proofs.YtgpnpfjbkaehlaaDoorW.PrintMore Go.Proofs.YtgpnpfjbkaehlaaDoor.Nt Go.Proofs.YtgpnpfjbkaehlaaDoor.Fm
set_option linter.unusedVariables false
set_option linter.unusedSimpArgs false

def nzL (m : Nat) : Nat → List UInt8 := nzOf (letters.take m)
def nmL (m : Nat) : List UInt8 → Option Nat := nmOf ((letters.take m).map fun s => s.data.toList)

def wordyB (w : List UInt8) : Bool := w.all idc && (match w with | [] => false | c :: _ => !dig c)
theorem wordy_of {w : List UInt8} (h : wordyB w = true) : wordy w := by
  unfold wordyB at h
  rw [Bool.and_eq_true, List.all_eq_true] at h
  refine ⟨h.1, ?_⟩
  cases w with
  | nil => exact absurd h.2 (by simp)
  | cons c r => exact ⟨c, r, rfl, by have := h.2; simpa using this⟩

/-- The first m of the fixed names serve. -/
structure LetOK (m : Nat) : Prop where
  le : m ≤ 12
  names : namesOK ((letters.take m).map fun s => s.data.toList) = true
  each : ∀ v, v < m → nmL m (nzL m v) = some v ∧ nzL m v ≠ trueW ∧ nzL m v ≠ falseW ∧ wordyB (nzL m v) = true ∧ (nzL m v).length ≤ 9

set_option maxRecDepth 10000 in
theorem let12 : LetOK 12 := ⟨by decide, by decide +kernel, by decide +kernel⟩
set_option maxRecDepth 10000 in
theorem let6 : LetOK 6 := ⟨by decide, by decide +kernel, by decide +kernel⟩

theorem LetOK.tree {m : Nat} (h : LetOK m) : ∀ {t : Tr}, VarsLt m t → Known (nzL m) (nmL m) t ∧ Wordy (nzL m) t ∧ ∀ n, (wr (nzL m) n t).length ≤ 20 * t.size := by
  intro t
  induction t with
  | con b => intro _; exact ⟨trivial, trivial, fun n => by cases b <;> simp [wr, Tr.size]⟩
  | var v =>
    intro hv
    obtain ⟨h1, h2, h3, h4, h5⟩ := h.each v hv
    exact ⟨⟨h1, h2, h3⟩, wordy_of h4, fun n => by simp only [wr, Tr.size]; omega⟩
  | not t ih =>
    intro hv
    obtain ⟨h1, h2, h3⟩ := ih hv
    exact ⟨h1, h2, fun n => by have := h3 2; simp only [wr, Tr.size, List.length_cons]; omega⟩
  | bin c l r ihl ihr =>
    intro hv
    obtain ⟨h1, h2, h3⟩ := ihl hv.1
    obtain ⟨k1, k2, k3⟩ := ihr hv.2
    refine ⟨⟨h1, k1⟩, ⟨h2, k2⟩, fun n => ?_⟩
    have a1 := h3 (lv c)
    have a2 := k3 (lv c + 1)
    simp only [wr, Tr.size]
    split <;> cases c <;> simp <;> omega

theorem let_sz {m : Nat} : ∀ s ∈ letters.take m, s.size ≤ 9223372036854775807 := by
  intro s hs
  have := List.mem_of_mem_take hs
  simp only [letters, List.mem_cons, List.not_mem_nil, or_false] at this
  rcases this with rfl | rfl | rfl | rfl | rfl | rfl | rfl | rfl | rfl | rfl | rfl | rfl <;> decide

theorem LetOK.len {m : Nat} (h : LetOK m) : (letters.take m).length = m := by rw [List.length_take]; exact Nat.min_eq_left h.le

/-- A valid formula, printed with the fixed names. -/
theorem print_let {A Af : Option Addr} {m cf : Nat} {f : List FN} {t : Tr} {w : World} (hL : LetOK m) (hC : Kd.string.C w A m (letters.take m)) (hCf : k62.C w Af f.length f) (hcf : f.length ≤ cf) (hck : checkB f = true) (hbv : badVar f m = false) (hrep : Rep f t (f.length - 1)) (hv : VarsLt m t) (ht : t.size ≤ 512) :
    Calls Tryd.prog 24 #[.slice A m 12, .slice Af f.length cf] w fun e w' => e = .returned (.tuple #[.string ⟨(wr (nzL m) 0 t).toArray⟩, .int .i64 0]) ∧ Below w.heap.size w w' := by
  have hlen := hL.len
  have hwl := (hL.tree hv).2.2 0
  have hp := print_any A Af 12 cf (letters.take m) f w (by rw [hlen]; exact hC) (by rw [hlen]; exact hL.le) hCf hcf (by rw [hlen]; have := hL.le; omega) let_sz (fun t' h _ => by rw [rep_inj h hrep]; show (wr (nzL m) 0 t).length ≤ _; omega)
  rw [hlen] at hp
  refine hp.mono ?_
  rintro e w' ⟨hb, ⟨h1, _⟩ | ⟨_, h1 | h1, _⟩ | ⟨_, _, _, t', h1, _, he⟩⟩
  · rw [hL.names] at h1; cases h1
  · rw [hck] at h1; cases h1
  · rw [hlen, hbv] at h1; cases h1
  · rw [rep_inj h1 hrep] at he; exact ⟨he, hb⟩

/-- A string of a tree's tokens, parsed with the fixed names. -/
theorem parse_let {A : Option Addr} {m : Nat} {t : Tr} {s : ByteArray} {w : World} (hL : LetOK m) (hC : Kd.string.C w A m (letters.take m)) (hv : VarsLt m t) (ht : t.size ≤ 512) (hs : s.size < 2147483648) (hr : Ren (tks (nzL m) 0 t) s.data.toList) :
    Calls Tryd.prog 18 #[.slice A m 12, .string s] w (ParP w (t.nodes 0, 0)) := by
  have hlen := hL.len
  obtain ⟨k, hk⟩ := run_tks (hL.tree hv).1 [] false
  have h1 := run_lex hr [] false hk
  have hp := parse_good A 12 (letters.take m) s w (by rw [hlen]; exact hC) (by rw [hlen]; exact hL.le) (by rw [hlen]; have := hL.le; omega) let_sz hL.names hs k _ h1
  rw [hlen] at hp
  have hf : fin (some (rt ([] : List FN).length t, ⟨[], [] ++ t.nodes ([] : List FN).length, false⟩)) = (t.nodes 0, 0) := by
    have hn := Tr.nodes_length t 0
    simp only [fin, List.nil_append, List.length_nil]
    rw [if_neg (by simp), if_neg (by simp), if_neg (by omega)]
  rwa [hf] at hp

theorem ren_print {m : Nat} {t : Tr} (hL : LetOK m) (hv : VarsLt m t) : Ren (tks (nzL m) 0 t) (wr (nzL m) 0 t) := by
  have := ren_wr t (hL.tree hv).2.1 0 [] [] (.done blank_nil) trivial
  simpa using this

/-- What a law comes to. -/
def LawP (w : World) (e : Ending) (w' : World) : Prop := e = .returned (.bool true) ∧ Below w.heap.size w w'

set_option maxHeartbeats 8000000 in
set_option maxRecDepth 100000 in
/-- RoundTrip, walked. -/
theorem roundtrip_any (A : Option Addr) (c n : Nat) (l : List UInt8) (w : World) (hC : (Kd.int .u8).C w A l.length (u8s l)) (hc : l.length ≤ c) (hn : n < 256) :
    Calls Tryd.prog 6 #[.slice A l.length c, .int .u8 n] w (LawP w) := by
  obtain ⟨hml, hck, hbv, t, hrep, hv, hts⟩ := made_ok l (n := 1 + n % 12) (by omega) (by omega)
  obtain ⟨f, hf⟩ : ∃ f, f = madeP l ((1 + n % 12 : Nat) : Int) := ⟨_, rfl⟩
  rw [← hf] at hml hck hbv hrep hts
  have hbv12 : badVar f 12 = false := bad_more (by omega) hbv
  have hv12 : VarsLt 12 t := vars_more (by omega) hv
  have hno := nodes_ok (n := 12) (by omega) hv12 (by omega)
  have HF := Lib.hid hf
  have HC := Lib.hid hC
  have HCK := Lib.hid hck
  have HBV := Lib.hid hbv12
  have HREP := Lib.hid hrep
  have HV := Lib.hid hv12
  have HNO := Lib.hid hno
  have hn0 : (0 : Int) ≤ (n : Int) := by omega
  have hn1 : (n : Int) < 256 := by omega
  have hsz : t.size ≤ 80 := by omega
  clear hf hC hck hbv hbv12 hrep hv hv12 hno hts
  go_enter Tryd.func6, Tryd.ntmps6
  go_wp2_with fail
  refine (sanity_any w).mono ?_
  rintro e w1 ⟨rfl, hb1⟩
  have HB1 := Lib.hid hb1
  clear hb1
  go_wp2_with fail
  refine (letters_any 12 w1 (by decide)).mono ?_
  rintro e w2 ⟨hb2, AN, rfl, hN⟩
  have HB2 := Lib.hid (bth HB1.out hb2)
  have HN := Lib.hid hN
  clear hb2 hN HB1
  go_wp2_with fail
  have hma := made_any A c (1 + n % 12) l w2 (Kd.C_below HC.out HB2.out) hc (by omega) (by omega)
  rw [← HF.out] at hma
  rw [show (1 + (n : Int) % 12) = ((1 + n % 12 : Nat) : Int) by omega]
  refine hma.mono ?_
  rintro e w3 ⟨hb3, Af, cf, rfl, hcf, hCf⟩
  have HB3 := Lib.hid (bth HB2.out hb3)
  have HN3 := Lib.hid (Kd.C_below HN.out hb3)
  have HCF := Lib.hid hCf
  clear hma hb3 hCf HN HB2
  go_wp2_with fail
  refine (print_let let12 HN3.out HCF.out hcf HCK.out HBV.out HREP.out HV.out (by omega)).mono ?_
  rintro e w4 ⟨rfl, hb4⟩
  have HB4 := Lib.hid (bth HB3.out hb4)
  have HN4 := Lib.hid (Kd.C_below HN3.out hb4)
  have HCF4 := Lib.hid (Kd.C_below HCF.out hb4)
  have hwl := (let12.tree HV.out).2.2 0
  have hss : (⟨(wr (nzL 12) 0 t).toArray⟩ : ByteArray).size < 2147483648 := by show (wr (nzL 12) 0 t).toArray.size < _; rw [List.size_toArray]; omega
  have HSS := Lib.hid hss
  clear hb4 HN3 HCF HB3 hss hwl
  go_wp2_with fail
  refine (parse_let (t := t) let12 HN4.out HV.out (by omega) HSS.out (ren_print let12 HV.out)).mono ?_
  rintro e w5 ⟨hb5, Ag, cg, rfl, hcg, hCg⟩
  dsimp only at hcg hCg
  have hgl := Tr.nodes_length t 0
  obtain ⟨g, hg⟩ : ∃ g, g = t.nodes 0 := ⟨_, rfl⟩
  have hno := HNO.out
  rw [← hg] at hcg hCg hgl hno
  dsimp only
  rw [← hg]
  have hgl2 : g.length ≤ 80 := by omega
  have HB5 := Lib.hid (bth HB4.out hb5)
  have HN5 := Lib.hid (Kd.C_below HN4.out hb5)
  have HCF5 := Lib.hid (Kd.C_below HCF4.out hb5)
  have HCG := Lib.hid hCg
  have HG := Lib.hid hg
  have HNG := Lib.hid hno
  clear hb5 HN4 HCF4 HB4 hCg hg hno hgl HNO
  go_wp2_with fail
  refine (print_let let12 HN5.out HCG.out hcg HNG.out.1 HNG.out.2.1 HNG.out.2.2 HV.out (by omega)).mono ?_
  rintro e w6 ⟨rfl, hb6⟩
  have HB6 := Lib.hid (bth HB5.out hb6)
  have HCF6 := Lib.hid (Kd.C_below HCF5.out hb6)
  have HCG6 := Lib.hid (Kd.C_below HCG.out hb6)
  clear hb6 HN5 HCF5 HCG HB5
  go_wp2_with fail
  have hpo := postorder_any Af cf f t w6 HCF6.out hcf (by omega) HREP.out (by omega)
  rw [← HG.out] at hpo
  refine hpo.mono ?_
  rintro e w7 ⟨hb7, Ap, cp, rfl, hcp, hCp⟩
  have HB7 := Lib.hid (bth HB6.out hb7)
  have HCG7 := Lib.hid (Kd.C_below HCG6.out hb7)
  have HCP := Lib.hid hCp
  clear hpo hb7 hCp HB6 HCG6 HCF6
  go_wp2_with fail
  refine (koineref03_Same.calls _ Ag cg g Ap cp g true w7 HCG7.out hcg HCP.out hcp ((fn_same g g (by omega)).trans (by rw [decide_eq_true rfl]))).mono ?_
  rintro e w8 ⟨rfl, hd8⟩
  have HB8 := Lib.hid (bth HB7.out (drawn_below hd8))
  clear hd8
  go_wp2_with fail
  go_ret
  exact ⟨rfl, HB8.out⟩
end Go.Proofs.YtgpnpfjbkaehlaaDoor.Wk
namespace Go.Proofs.YtgpnpfjbkaehlaaDoor.Rw
open Go.ChangeShapes Go.WideShapes Go.ChangeAt Go.RowKit Go.Proofs.YtgpnpfjbkaehlaaDoorW.PrintWords Go.Proofs.YtgpnpfjbkaehlaaDoor.Wk
open Go.ChangeMaps (open_string shut_string)
set_option linter.unusedVariables false
theorem own : ownKnob Tryd.prog.godebug = none := by kernel_rfl
theorem laidOut : laidOutB Tryd.prog = true := by kernel_rfl

def IsRow (k : IntKind) (w : World) (a : Option Addr) (len cap : Nat) (zs : List Int) : Prop :=
  (a = none ∧ len = 0 ∧ cap = 0 ∧ zs = []) ∨
  ∃ x, a = some x ∧ len ≤ cap ∧ cap ≤ maxLen ∧ zs.length = cap ∧ (∀ i, i < zs.length → w.cell? (x.add i) = some (.int k (zs.getD i 0))) ∧ ∀ n ∈ zs, (Lit.int k n).wf = true

/-- The bytes of a slice that came in. -/
theorem bytes_of {w : World} {a : Option Addr} {len cap : Nat} {zs : List Int} (h : IsRow .u8 w a len cap zs) : ∃ l : List UInt8, len = l.length ∧ l.length ≤ cap ∧ (Kd.int .u8).C w a l.length (u8s l) := by
  rcases h with ⟨rfl, rfl, rfl, rfl⟩ | ⟨x, rfl, h1, h2, h3, h4, h5⟩
  · exact ⟨[], rfl, Nat.le_refl _, Kd.C_nil _ _⟩
  · have hl : ((zs.take len).map fun z => UInt8.ofNat z.toNat).length = len := by rw [List.length_map, List.length_take]; omega
    have hu : u8s ((zs.take len).map fun z => UInt8.ofNat z.toNat) = zs.take len := by
      unfold u8s
      rw [List.map_map]
      refine (List.map_congr_left fun z hz => ?_).trans (List.map_id _)
      have hw := h5 z (List.mem_of_mem_take hz)
      simp only [Lit.wf, Bool.and_eq_true, decide_eq_true_eq] at hw
      have h0 : 0 ≤ z := hw.1
      have h9 : z ≤ 255 := hw.2
      show (((UInt8.ofNat z.toNat).toNat : Nat) : Int) = z
      rw [UInt8.toNat_ofNat']
      omega
    refine ⟨_, hl.symm, by rw [hl]; exact h1, ?_⟩
    rw [hu, hl]
    unfold maxLen at h2
    refine ⟨by rw [List.length_take]; omega, by omega, fun _ => ⟨x, rfl, fun j p hp => ⟨[.int .u8 p], rfl, rfl, fun i u hu => ?_⟩⟩⟩
    obtain ⟨hj1, hj2⟩ := List.getElem?_eq_some_iff.1 hp
    rw [List.length_take] at hj1
    have hi : i = 0 := by
      have := (List.getElem?_eq_some_iff.1 hu).1
      simp at this; exact this
    subst hi
    simp only [List.getElem?_cons_zero, Option.some.injEq] at hu
    subst hu
    have hc := h4 j (by omega)
    rw [show j * (Kd.int .u8).sz + 0 = j from Nat.mul_one _, hc, ← hj2, List.getElem_take, List.getD_eq_getElem?_getD, List.getElem?_eq_getElem (by omega)]
    rfl

/-- The witness: the settled world, the two tables holding what their initialisers lay. -/
noncomputable def laidWorld (os : Os) : World :=
  let w0 := World.holding Tryd.prog os ⟨#[], #[], []⟩
  let put (h : Array Obj) (g : Nat) (cs : Array Value) : Array Obj := h.modify g fun
    | .cells _ t frozen => .cells cs t frozen
    | o => o
  let h1 := put w0.heap 0 (Lib.firstTab.map fun z => Value.int .u8 z).toArray
  let h2 := put h1 1 ((List.range 16).flatMap fun i => [Value.int .u8 (Lib.accLo i), Value.int .u8 (Lib.accHi i)]).toArray
  { w0 with heap := h2 }
theorem laid_met (os : Os) (args : Array Value) : laidMet Tryd.prog [("unicode/utf8.acceptRanges", Rows.laid_unicode_utf8_acceptRanges), ("unicode/utf8.first", Rows.laid_unicode_utf8_first)] ((laidWorld os).forCall (fun _ _ => 0) ⟨#[], args, []⟩).memory :=
  (LaidIn.of_run (l := [("unicode/utf8.acceptRanges", Rows.laid_unicode_utf8_acceptRanges), ("unicode/utf8.first", Rows.laid_unicode_utf8_first)]) [1, 0] 8 (by kernel_rfl) (by kernel_rfl) (by kernel_rfl) (by kernel_rfl)).met
end Go.Proofs.YtgpnpfjbkaehlaaDoor.Rw
