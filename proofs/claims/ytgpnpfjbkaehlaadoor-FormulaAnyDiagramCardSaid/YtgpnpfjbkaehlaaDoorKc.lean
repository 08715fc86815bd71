/- The walks of Of, Text, of the chapter's examples. -/
import Derived.Test.YtgpnpfjbkaehlaaDoorKb
import Derived.Test.YtgpnpfjbkaehlaaDoorKa
import Derived.Test.YtgpnpfjbkaehlaaDoorTa
namespace Go.Proofs.YtgpnpfjbkaehlaaDoor.Wk
open Go.RowKit Go.Shelf Go.Lib Go.Maps Go.Proofs.YtgpnpfjbkaehlaaDoorW.PrintWords Go.Proofs.YtgpnpfjbkaehlaaDoorW.PrintLast Go.Proofs.YtgpnpfjbkaehlaaDoorW.PrintMore Go.Proofs.YtgpnpfjbkaehlaaDoor.Nt Go.Proofs.YtgpnpfjbkaehlaaDoor.Fm
set_option linter.unusedVariables false
set_option linter.unusedSimpArgs false

/-- The builder at block p of W: the diagram, the nodes. -/
structure Cn (w0 W : World) (p : Nat) (dv : Value) (root : Int) (fv : Value) (f : List FN) : Prop where
  bel : Below w0.heap.size w0 W
  le : w0.heap.size ≤ p
  obj : W.heap[p]? = some (.cells #[dv, .int .i64 root, fv] 70 (0, 0))
  row : k62.R 62 W 0 (fun k => w0.heap.size ≤ k ∧ k ≠ p) fv f

theorem Cn.lt {w0 W : World} {p : Nat} {dv fv : Value} {root : Int} {f : List FN} (h : Cn w0 W p dv root fv f) : p < W.heap.size := blk_lt h.obj
theorem Cn.below {w0 W W1 : World} {p : Nat} {dv fv : Value} {root : Int} {f : List FN} (h : Cn w0 W p dv root fv f) (hb : Below W.heap.size W W1) : Cn w0 W1 p dv root fv f :=
  ⟨h.bel.trans (hb.mono h.bel.size), h.le, blk_below h.obj hb, Kd.R_below h.row hb⟩
theorem Cn.fresh {w0 W : World} {p : Nat} {dv fv : Value} {root : Int} {f : List FN} (h : Cn w0 W p dv root fv f) : some p ≠ fv.ownBlock := by
  intro e
  exact (h.row.1 p e.symm).2 rfl

set_option maxHeartbeats 1000000 in
set_option maxRecDepth 100000 in
theorem cput_any (w0 : World) (p : Nat) (dv : Value) (root : Int) (fv : Value) (f : List FN) (n0 n1 n2 n3 : Int) (w : World) (h : Cn w0 w p dv root fv f) (hl : f.length ≤ 513) :
    Calls Tryd.prog 68 #[.pointer (some ⟨p, 0, none⟩), .agg #[.int .i64 n0, .int .i64 n1, .int .i64 n2, .int .i64 n3]] w fun e w' =>
      e = .returned (.int .i64 (cput f ⟨n0, n1, n2, n3⟩).1) ∧ ∃ fv', Cn w0 w' p dv root fv' (cput f ⟨n0, n1, n2, n3⟩).2 ∧ Turn p fv w fv' w' := by
  have hlt := h.lt
  obtain ⟨A, c, rfl⟩ := Kd.R_slice h.row
  have c2 : w.cell? ⟨p, 2, none⟩ = some (.slice A f.length c) := (blk_cell h.obj 2).trans rfl
  have z2 := blk_free h.obj 2
  have c2b : (w.alloc (.cells #[.int .i64 n0, .int .i64 n1, .int .i64 n2, .int .i64 n3] 62)).cell? ⟨p, 2, none⟩ = some (.slice A f.length c) := (blk_cell (blk_alloc h.obj _) 2).trans rfl
  have H := Lib.hid h
  clear h
  by_cases h5 : f.length ≤ 512
  · rw [cput, if_pos h5]
    go_enter Tryd.func68, Tryd.ntmps68
    go_wp2
    have HR := Lib.hid (Kd.R_drew (Kd.R_alloc (Kd.R_alloc H.out.row (.cells #[.int .i64 n0, .int .i64 n1, .int .i64 n2, .int .i64 n3] 62)) (.cells #[.int .i64 n0, .int .i64 n1, .int .i64 n2, .int .i64 n3] 62)))
    have HB := Lib.hid (blk_alloc (blk_alloc H.out.obj (.cells #[.int .i64 n0, .int .i64 n1, .int .i64 n2, .int .i64 n3] 62)) (.cells #[.int .i64 n0, .int .i64 n1, .int .i64 n2, .int .i64 n3] 62))
    have HF := Lib.hid H.out.fresh
    have hbl := H.out.bel.size
    go_region_law (refine step_append_R k62 rfl (.tmp 15) (.tmp 17) 26 62 _ 32 rfl Tryd.underlying26 info62 rfl (by decide) (.slice A f.length c) f ⟨n0, n1, n2, n3⟩ [.int .i64 n0, .int .i64 n1, .int .i64 n2, .int .i64 n3] (fun k => w0.heap.size ≤ k ∧ k ≠ p) (fun _ => False) rfl ⟨w.heap.size + 1, 0, none⟩ rfl (new_cells _ _ _ _ (by simp)) (k62_mkM _ _ _ ⟨n0, n1, n2, n3⟩) (fun _ h => h.elim) (by intro k hk; simp at hk; omega) HR.out (by omega) (by decide) ?_; intro g cap w1 hR hg hat hlt1; have hB1 := blk_grown (w := World.drew _) HB.out hg HF.out; have c2' : w1.cell? ⟨p, 2, none⟩ = some (.slice A f.length c) := (blk_cell hB1 2).trans rfl; have z2' := blk_free hB1 2; have HB1 := Lib.hid hB1; have HR1 := Lib.hid hR; have HG := Lib.hid hg; have HA := Lib.hid hat; clear hB1 hR hg hat)
    all_goals
      go_wp2
      go_ret
      have hW : Below w.heap.size w (World.drew ((w.alloc (.cells #[.int .i64 n0, .int .i64 n1, .int .i64 n2, .int .i64 n3] 62)).alloc (.cells #[.int .i64 n0, .int .i64 n1, .int .i64 n2, .int .i64 n3] 62))) := below_drew (below_alloc (below_alloc (Below.refl _ _) _) _)
      have hT := turn_append (p := p) (i := 2) (m := f.length + 1) (cap := cap) (u := .slice (some ⟨g, 0, none⟩) (f.length + 1) cap) hW HG.out HA.out
      refine ⟨ret_v (val_i (by omega)), .slice (some ⟨g, 0, none⟩) (f.length + 1) cap, ⟨?_, H.out.le, ?_, ?_⟩, hT⟩
      · exact H.out.bel.trans (hT.own H.out.bel.size H.out.le (fun k hk => (H.out.row.1 k hk.symm).1))
      · have := blk_set HB1.out 2 (.slice (some ⟨g, 0, none⟩) (f.length + 1) cap)
        simpa using this
      · exact Kd.R_far HR1.out (fun k hk => hk.2) _
  · rw [cput, if_neg h5]
    go_enter Tryd.func68, Tryd.ntmps68
    go_wp2
    go_ret
    exact ⟨by rw [show (((f.length - 1 : Nat) : Int)) = (f.length : Int) - 1 by omega]; rfl, _, H.out.below (below_alloc (Below.refl _ _) _), (Turn.refl _ _ _).below (below_alloc (Below.refl _ _) _)⟩
end Go.Proofs.YtgpnpfjbkaehlaaDoor.Wk
namespace Go.Proofs.YtgpnpfjbkaehlaaDoor.Wk
open Go.RowKit Go.Shelf Go.Lib Go.Maps Go.Proofs.YtgpnpfjbkaehlaaDoorW.PrintWords Go.Proofs.YtgpnpfjbkaehlaaDoorW.PrintLast Go.Proofs.YtgpnpfjbkaehlaaDoorW.PrintMore Go.Proofs.YtgpnpfjbkaehlaaDoor.Nt Go.Proofs.YtgpnpfjbkaehlaaDoor.Fm
set_option linter.unusedVariables false
set_option linter.unusedSimpArgs false

/-- What a call on the builder comes to. -/
def CnP (w0 : World) (p : Nat) (dv : Value) (root : Int) (fv : Value) (W : World) (r : Int × List FN) (e : Ending) (w' : World) : Prop :=
  e = .returned (.int .i64 r.1) ∧ ∃ fv', Cn w0 w' p dv root fv' r.2 ∧ Turn p fv W fv' w'

def BldC (w0 : World) (p : Nat) (dv : Value) (root : Int) (nodes : List Br) (k : Nat) : Prop :=
  ∀ (n : Int) (f : List FN) (fv : Value) (W : World), Cn w0 W p dv root fv f → f.length ≤ 513 → 0 ≤ n → n < k → n < nodes.length + 2 →
    Calls Tryd.prog 41 #[.pointer (some ⟨p, 0, none⟩), .int .i64 n] W (CnP w0 p dv root fv W (bldP nodes k n f))

def SideC (w0 : World) (p : Nat) (dv : Value) (root : Int) (nodes : List Br) (k : Nat) : Prop :=
  ∀ (op v : Int) (pos : Bool) (num : Int) (f : List FN) (fv : Value) (W : World), Cn w0 W p dv root fv f → f.length ≤ 513 → 0 ≤ num → num < k → num < nodes.length + 2 →
    Calls Tryd.prog 69 #[.pointer (some ⟨p, 0, none⟩), .int .i64 op, .int .i64 v, .bool pos, .int .i64 num] W (CnP w0 p dv root fv W (sideP (bldP nodes k) op v pos num f))

set_option maxHeartbeats 2000000 in
set_option maxRecDepth 100000 in
theorem side_any (w0 : World) (p : Nat) (dv : Value) (root : Int) (nodes : List Br) (k : Nat) (hB : BldC w0 p dv root nodes k) : SideC w0 p dv root nodes k := by
  intro op v pos num f fv W hC hl h0 h1 h2
  have HB := Lib.hid hB
  have hp1 := cput_any w0 p dv root fv f 2 v 0 0 W hC hl
  have l1 := cput_le hl ⟨2, v, 0, 0⟩
  have HP1 := Lib.hid hp1
  clear hB hp1
  obtain ⟨a1, f1, e1⟩ : ∃ a f1, cput f ⟨2, v, 0, 0⟩ = (a, f1) := ⟨_, _, rfl⟩
  have HE1 := Lib.hid e1
  rw [e1] at l1
  clear e1
  cases pos with
  | true =>
    by_cases hc : op = 4 ∧ num = 1
    · obtain ⟨rfl, rfl⟩ := hc
      go_enter Tryd.func69, Tryd.ntmps69
      go_wp2_with fail
      refine HP1.out.mono ?_
      rintro e w1 ⟨he, fv1, hC1, ht1⟩
      rw [HE1.out] at hC1 he
      obtain rfl : e = .returned (.int .i64 a1) := he
      go_wp2_with fail
      go_ret
      refine ⟨?_, fv1, ?_, ht1⟩
      · rw [side_t_stop, HE1.out]; rfl
      · rw [side_t_stop, HE1.out]; exact hC1
    · have hsp : op = 4 ∧ num ≠ 1 ∨ op ≠ 4 := by by_cases h : op = 4; exact .inl ⟨h, fun h' => hc ⟨h, h'⟩⟩; exact .inr h
      rcases hsp with ⟨hop, hnum⟩ | hop
      · subst hop
        have hnum' : (num == 1) = false := beq_eq_false_iff_ne.2 hnum
        go_enter Tryd.func69, Tryd.ntmps69
        go_wp2_with fail
        refine HP1.out.mono ?_
        rintro e w1 ⟨he, fv1, hC1, ht1⟩
        rw [HE1.out] at hC1 he
        obtain rfl : e = .returned (.int .i64 a1) := he
        have hb3 := HB.out num f1 fv1 w1 hC1 l1 h0 h1 h2
        have l3 := bld_le nodes k num f1 l1
        obtain ⟨b3, f3, e3⟩ : ∃ b f3, bldP nodes k num f1 = (b, f3) := ⟨_, _, rfl⟩
        rw [e3] at hb3 l3
        have HE3 := Lib.hid e3
        clear e3
        have HB3 := Lib.hid hb3
        have HT := Lib.hid ht1
        clear hb3 ht1 hC1
        go_wp2_with fail
        refine HB3.out.mono ?_
        rintro e w3 ⟨he, fv3, hC3, ht3⟩
        obtain rfl : e = .returned (.int .i64 b3) := he
        have hp4 := cput_any w0 p dv root fv3 f3 4 0 a1 b3 w3 hC3 l3
        have HP4 := Lib.hid hp4
        have HT3 := Lib.hid (HT.out.trans ht3)
        clear hp4 hC3 ht3
        go_wp2_with fail
        refine HP4.out.mono ?_
        rintro e w4 ⟨rfl, fv4, hC4, ht4⟩
        go_wp2_with fail
        go_ret
        refine ⟨?_, fv4, ?_, HT3.out.trans ht4⟩
        · rw [side_t_go _ (fun h => hnum h.2) HE1.out, HE3.out]; rfl
        · rw [side_t_go _ (fun h => hnum h.2) HE1.out, HE3.out]; exact hC4
      · have hop' : (op == 4) = false := beq_eq_false_iff_ne.2 hop
        go_enter Tryd.func69, Tryd.ntmps69
        go_wp2_with fail
        refine HP1.out.mono ?_
        rintro e w1 ⟨he, fv1, hC1, ht1⟩
        rw [HE1.out] at hC1 he
        obtain rfl : e = .returned (.int .i64 a1) := he
        have hb3 := HB.out num f1 fv1 w1 hC1 l1 h0 h1 h2
        have l3 := bld_le nodes k num f1 l1
        obtain ⟨b3, f3, e3⟩ : ∃ b f3, bldP nodes k num f1 = (b, f3) := ⟨_, _, rfl⟩
        rw [e3] at hb3 l3
        have HE3 := Lib.hid e3
        clear e3
        have HB3 := Lib.hid hb3
        have HT := Lib.hid ht1
        clear hb3 ht1 hC1
        go_wp2_with fail
        refine HB3.out.mono ?_
        rintro e w3 ⟨he, fv3, hC3, ht3⟩
        obtain rfl : e = .returned (.int .i64 b3) := he
        have hp4 := cput_any w0 p dv root fv3 f3 op 0 a1 b3 w3 hC3 l3
        have HP4 := Lib.hid hp4
        have HT3 := Lib.hid (HT.out.trans ht3)
        clear hp4 hC3 ht3
        go_wp2_with fail
        refine HP4.out.mono ?_
        rintro e w4 ⟨rfl, fv4, hC4, ht4⟩
        go_wp2_with fail
        go_ret
        refine ⟨?_, fv4, ?_, HT3.out.trans ht4⟩
        · rw [side_t_go _ hc HE1.out, HE3.out]; rfl
        · rw [side_t_go _ hc HE1.out, HE3.out]; exact hC4
  | false =>
    have l2 := cput_le l1 ⟨3, 0, a1, 0⟩
    obtain ⟨a2, f2, e2⟩ : ∃ a f2, cput f1 ⟨3, 0, a1, 0⟩ = (a, f2) := ⟨_, _, rfl⟩
    have HE2 := Lib.hid e2
    rw [e2] at l2
    clear e2
    by_cases hc : op = 4 ∧ num = 1
    · obtain ⟨rfl, rfl⟩ := hc
      go_enter Tryd.func69, Tryd.ntmps69
      go_wp2_with fail
      refine HP1.out.mono ?_
      rintro e w1 ⟨he, fv1, hC1, ht1⟩
      rw [HE1.out] at hC1 he
      obtain rfl : e = .returned (.int .i64 a1) := he
      have hp2 := cput_any w0 p dv root fv1 f1 3 0 a1 0 w1 hC1 l1
      have HP2 := Lib.hid hp2
      have HT1 := Lib.hid ht1
      clear hp2 ht1 hC1
      go_wp2_with fail
      refine HP2.out.mono ?_
      rintro e w2 ⟨he, fv2, hC2, ht2⟩
      rw [HE2.out] at hC2 he
      obtain rfl : e = .returned (.int .i64 a2) := he
      replace ht2 := HT1.out.trans ht2
      go_wp2_with fail
      go_ret
      refine ⟨?_, fv2, ?_, ht2⟩
      · rw [side_f_stop, HE1.out, HE2.out]; rfl
      · rw [side_f_stop, HE1.out, HE2.out]; exact hC2
    · have hsp : op = 4 ∧ num ≠ 1 ∨ op ≠ 4 := by by_cases h : op = 4; exact .inl ⟨h, fun h' => hc ⟨h, h'⟩⟩; exact .inr h
      rcases hsp with ⟨hop, hnum⟩ | hop
      · subst hop
        have hnum' : (num == 1) = false := beq_eq_false_iff_ne.2 hnum
        go_enter Tryd.func69, Tryd.ntmps69
        go_wp2_with fail
        refine HP1.out.mono ?_
        rintro e w1 ⟨he, fv1, hC1, ht1⟩
        rw [HE1.out] at hC1 he
        obtain rfl : e = .returned (.int .i64 a1) := he
        have hp2 := cput_any w0 p dv root fv1 f1 3 0 a1 0 w1 hC1 l1
        have HP2 := Lib.hid hp2
        have HT1 := Lib.hid ht1
        clear hp2 ht1 hC1
        go_wp2_with fail
        refine HP2.out.mono ?_
        rintro e w2 ⟨he, fv2, hC2, ht2⟩
        rw [HE2.out] at hC2 he
        obtain rfl : e = .returned (.int .i64 a2) := he
        replace ht2 := HT1.out.trans ht2
        have hb3 := HB.out num f2 fv2 w2 hC2 l2 h0 h1 h2
        have l3 := bld_le nodes k num f2 l2
        obtain ⟨b3, f3, e3⟩ : ∃ b f3, bldP nodes k num f2 = (b, f3) := ⟨_, _, rfl⟩
        rw [e3] at hb3 l3
        have HE3 := Lib.hid e3
        clear e3
        have HB3 := Lib.hid hb3
        have HT := Lib.hid ht2
        clear hb3 ht2 hC2
        go_wp2_with fail
        refine HB3.out.mono ?_
        rintro e w3 ⟨he, fv3, hC3, ht3⟩
        obtain rfl : e = .returned (.int .i64 b3) := he
        have hp4 := cput_any w0 p dv root fv3 f3 4 0 a2 b3 w3 hC3 l3
        have HP4 := Lib.hid hp4
        have HT3 := Lib.hid (HT.out.trans ht3)
        clear hp4 hC3 ht3
        go_wp2_with fail
        refine HP4.out.mono ?_
        rintro e w4 ⟨rfl, fv4, hC4, ht4⟩
        go_wp2_with fail
        go_ret
        refine ⟨?_, fv4, ?_, HT3.out.trans ht4⟩
        · rw [side_f_go _ (fun h => hnum h.2) HE1.out HE2.out, HE3.out]; rfl
        · rw [side_f_go _ (fun h => hnum h.2) HE1.out HE2.out, HE3.out]; exact hC4
      · have hop' : (op == 4) = false := beq_eq_false_iff_ne.2 hop
        go_enter Tryd.func69, Tryd.ntmps69
        go_wp2_with fail
        refine HP1.out.mono ?_
        rintro e w1 ⟨he, fv1, hC1, ht1⟩
        rw [HE1.out] at hC1 he
        obtain rfl : e = .returned (.int .i64 a1) := he
        have hp2 := cput_any w0 p dv root fv1 f1 3 0 a1 0 w1 hC1 l1
        have HP2 := Lib.hid hp2
        have HT1 := Lib.hid ht1
        clear hp2 ht1 hC1
        go_wp2_with fail
        refine HP2.out.mono ?_
        rintro e w2 ⟨he, fv2, hC2, ht2⟩
        rw [HE2.out] at hC2 he
        obtain rfl : e = .returned (.int .i64 a2) := he
        replace ht2 := HT1.out.trans ht2
        have hb3 := HB.out num f2 fv2 w2 hC2 l2 h0 h1 h2
        have l3 := bld_le nodes k num f2 l2
        obtain ⟨b3, f3, e3⟩ : ∃ b f3, bldP nodes k num f2 = (b, f3) := ⟨_, _, rfl⟩
        rw [e3] at hb3 l3
        have HE3 := Lib.hid e3
        clear e3
        have HB3 := Lib.hid hb3
        have HT := Lib.hid ht2
        clear hb3 ht2 hC2
        go_wp2_with fail
        refine HB3.out.mono ?_
        rintro e w3 ⟨he, fv3, hC3, ht3⟩
        obtain rfl : e = .returned (.int .i64 b3) := he
        have hp4 := cput_any w0 p dv root fv3 f3 op 0 a2 b3 w3 hC3 l3
        have HP4 := Lib.hid hp4
        have HT3 := Lib.hid (HT.out.trans ht3)
        clear hp4 hC3 ht3
        go_wp2_with fail
        refine HP4.out.mono ?_
        rintro e w4 ⟨rfl, fv4, hC4, ht4⟩
        go_wp2_with fail
        go_ret
        refine ⟨?_, fv4, ?_, HT3.out.trans ht4⟩
        · rw [side_f_go _ hc HE1.out HE2.out, HE3.out]; rfl
        · rw [side_f_go _ hc HE1.out HE2.out, HE3.out]; exact hC4
end Go.Proofs.YtgpnpfjbkaehlaaDoor.Wk
namespace Go.Proofs.YtgpnpfjbkaehlaaDoor.Wk
open Go.RowKit Go.Shelf Go.Lib Go.Maps Go.Proofs.YtgpnpfjbkaehlaaDoorW.PrintWords Go.Proofs.YtgpnpfjbkaehlaaDoorW.PrintLast Go.Proofs.YtgpnpfjbkaehlaaDoorW.PrintMore Go.Proofs.YtgpnpfjbkaehlaaDoor.Nt Go.Proofs.YtgpnpfjbkaehlaaDoor.Fm
set_option linter.unusedVariables false
set_option linter.unusedSimpArgs false

set_option maxHeartbeats 4000000 in
set_option maxRecDepth 100000 in
theorem build_step (w0 : World) (p : Nat) (A : Option Addr) (c : Nat) (root : Int) (nodes : List Br) (k : Nat) (hC0 : k74.C w0 A nodes.length nodes) (hc : nodes.length ≤ c) (hn : nodes.length < 4294967296) (hdn : Dn nodes)
    (ih : BldC w0 p (.slice A nodes.length c) root nodes k) : BldC w0 p (.slice A nodes.length c) root nodes (k + 1) := by
  intro n f fv W hC hl h0 h1 h2
  have hsd := side_any w0 p (.slice A nodes.length c) root nodes k ih
  have HSD := Lib.hid hsd
  have HDN := Lib.hid hdn
  have HC0 := Lib.hid hC0
  clear hsd ih hdn hC0
  obtain ⟨Af, cf, rfl⟩ := Kd.R_slice hC.row
  have c2 : W.cell? ⟨p, 2, none⟩ = some (.slice Af f.length cf) := (blk_cell hC.obj 2).trans rfl
  have c0 : W.cell? ⟨p, 0, none⟩ = some (.slice A nodes.length c) := (blk_cell hC.obj 0).trans rfl
  by_cases hs : n < 2 ∨ 512 < f.length
  · have hbp : bldP nodes (k + 1) n f = cput f ⟨min n 1, 0, 0, 0⟩ := by rw [bldP, if_pos hs]
    rw [hbp]
    have hp := cput_any w0 p (.slice A nodes.length c) root _ f (min n 1) 0 0 0 W hC hl
    have HP := Lib.hid hp
    clear hp hbp hC
    by_cases h3 : n < 2
    · go_enter Tryd.func41, Tryd.ntmps41
      go_wp2_with fail
      refine HP.out.mono ?_
      rintro e w1 ⟨rfl, fv1, hC1, ht1⟩
      go_wp2_with fail
      go_ret
      exact ⟨rfl, fv1, hC1, ht1⟩
    · have h4 : (512 : Int) < f.length := by omega
      go_enter Tryd.func41, Tryd.ntmps41
      go_wp2_with fail
      refine HP.out.mono ?_
      rintro e w1 ⟨rfl, fv1, hC1, ht1⟩
      go_wp2_with fail
      go_ret
      exact ⟨rfl, fv1, hC1, ht1⟩
  · have hn2 : 2 ≤ n := by omega
    have hl5 : f.length ≤ 512 := by omega
    have hl5' : (f.length : Int) ≤ 512 := by omega
    have hil : (n - 2).toNat < nodes.length := by omega
    obtain ⟨x, hx⟩ : ∃ x, nodes[(n - 2).toNat]? = some x := ⟨_, List.getElem?_eq_getElem hil⟩
    obtain ⟨d1, d2, d3, d4⟩ := HDN.out _ x hx
    have hbp : bldP nodes (k + 1) n f = (if x.f1 = 0 then sideP (bldP nodes k) 4 x.f0 true x.f2 f
      else if x.f2 = 0 then sideP (bldP nodes k) 4 x.f0 false x.f1 f
      else if x.f2 = 1 then sideP (bldP nodes k) 5 x.f0 true x.f1 f
      else if x.f1 = 1 then sideP (bldP nodes k) 5 x.f0 false x.f2 f
      else cput (sideP (bldP nodes k) 4 x.f0 false x.f1 (sideP (bldP nodes k) 4 x.f0 true x.f2 f).2).2 ⟨5, 0, (sideP (bldP nodes k) 4 x.f0 true x.f2 f).1, (sideP (bldP nodes k) 4 x.f0 false x.f1 (sideP (bldP nodes k) 4 x.f0 true x.f2 f).2).1⟩) := by
      rw [bldP, if_neg hs, hx]
    rw [hbp]
    obtain ⟨ad, rfl, _, x0, x1, x2⟩ := at_br (Kd.C_below HC0.out hC.bel) hx
    have HW := Lib.hid hC
    clear hbp hx hC hs
    have hst : ∀ (op v : Int) (pos : Bool) (num : Int), 0 ≤ num → num < n → Calls Tryd.prog 69 #[.pointer (some ⟨p, 0, none⟩), .int .i64 op, .int .i64 v, .bool pos, .int .i64 num] (W.alloc (.cells #[.int .i64 x.f0, .int .i64 x.f1, .int .i64 x.f2] 74)) (CnP w0 p (.slice (some ad) nodes.length c) root (.slice Af f.length cf) (W.alloc (.cells #[.int .i64 x.f0, .int .i64 x.f1, .int .i64 x.f2] 74)) (sideP (bldP nodes k) op v pos num f)) := fun op v pos num q0 q1 => HSD.out op v pos num f _ _ (HW.out.below (below_alloc (Below.refl _ _) _)) (by omega) q0 (by omega) (by omega)
    have HST := Lib.hid hst
    clear hst
    by_cases g1 : x.f1 = 0
    · rw [if_pos g1]
      have g1b : (x.f1 == 0) = true := beq_iff_eq.2 g1
      clear g1
      go_enter Tryd.func41, Tryd.ntmps41
      go_wp2_with fail
      refine (HST.out 4 x.f0 true x.f2 (by omega) (by omega)).mono ?_
      rintro e w1 ⟨rfl, fv1, hC1, ht1⟩
      go_wp2_with fail
      go_ret
      exact ⟨rfl, fv1, hC1, below_turn (below_alloc (Below.refl _ _) _) ht1⟩
    · rw [if_neg g1]
      by_cases g2 : x.f2 = 0
      · rw [if_pos g2]
        have g1b : (x.f1 == 0) = false := beq_eq_false_iff_ne.2 g1
        have g2b : (x.f2 == 0) = true := beq_iff_eq.2 g2
        clear g2
        go_enter Tryd.func41, Tryd.ntmps41
        go_wp2_with fail
        refine (HST.out 4 x.f0 false x.f1 (by omega) (by omega)).mono ?_
        rintro e w1 ⟨rfl, fv1, hC1, ht1⟩
        go_wp2_with fail
        go_ret
        exact ⟨rfl, fv1, hC1, below_turn (below_alloc (Below.refl _ _) _) ht1⟩
      · rw [if_neg g2]
        by_cases g3 : x.f2 = 1
        · rw [if_pos g3]
          have g1b : (x.f1 == 0) = false := beq_eq_false_iff_ne.2 g1
          have g2b : (x.f2 == 0) = false := beq_eq_false_iff_ne.2 g2
          have g3b : (x.f2 == 1) = true := beq_iff_eq.2 g3
          clear g3
          go_enter Tryd.func41, Tryd.ntmps41
          go_wp2_with fail
          refine (HST.out 5 x.f0 true x.f1 (by omega) (by omega)).mono ?_
          rintro e w1 ⟨rfl, fv1, hC1, ht1⟩
          go_wp2_with fail
          go_ret
          exact ⟨rfl, fv1, hC1, below_turn (below_alloc (Below.refl _ _) _) ht1⟩
        · rw [if_neg g3]
          by_cases g4 : x.f1 = 1
          · rw [if_pos g4]
            have g1b : (x.f1 == 0) = false := beq_eq_false_iff_ne.2 g1
            have g2b : (x.f2 == 0) = false := beq_eq_false_iff_ne.2 g2
            have g3b : (x.f2 == 1) = false := beq_eq_false_iff_ne.2 g3
            have g4b : (x.f1 == 1) = true := beq_iff_eq.2 g4
            clear g4
            go_enter Tryd.func41, Tryd.ntmps41
            go_wp2_with fail
            refine (HST.out 5 x.f0 false x.f2 (by omega) (by omega)).mono ?_
            rintro e w1 ⟨rfl, fv1, hC1, ht1⟩
            go_wp2_with fail
            go_ret
            exact ⟨rfl, fv1, hC1, below_turn (below_alloc (Below.refl _ _) _) ht1⟩
          · rw [if_neg g4]
            have g1b : (x.f1 == 0) = false := beq_eq_false_iff_ne.2 g1
            have g2b : (x.f2 == 0) = false := beq_eq_false_iff_ne.2 g2
            have g3b : (x.f2 == 1) = false := beq_eq_false_iff_ne.2 g3
            have g4b : (x.f1 == 1) = false := beq_eq_false_iff_ne.2 g4
            have ls1 := side_le (bld_le nodes k) 4 x.f0 true x.f2 (f := f) (by omega)
            obtain ⟨h1a, f1, e1⟩ : ∃ a f1, sideP (bldP nodes k) 4 x.f0 true x.f2 f = (a, f1) := ⟨_, _, rfl⟩
            rw [e1] at ls1 ⊢
            have ls2 := side_le (bld_le nodes k) 4 x.f0 false x.f1 ls1
            obtain ⟨h2a, f2, e2⟩ : ∃ a f2, sideP (bldP nodes k) 4 x.f0 false x.f1 f1 = (a, f2) := ⟨_, _, rfl⟩
            dsimp only at ls1 ls2 ⊢
            rw [e2] at ls2 ⊢
            dsimp only at ls2 ⊢
            have HE1 := Lib.hid e1
            have HE2 := Lib.hid e2
            clear e1 e2
            go_enter Tryd.func41, Tryd.ntmps41
            go_wp2_with fail
            refine (HST.out 4 x.f0 true x.f2 (by omega) (by omega)).mono ?_
            rintro e w1 ⟨he, fv1, hC1, ht1⟩
            rw [HE1.out] at hC1 he
            obtain rfl : e = .returned (.int .i64 h1a) := he
            have hbx := ht1.blk (blk_new W _) (by have := HW.out.lt; omega) (by intro h; have := Kd.R_own HW.out.row; obtain ⟨cells, hcl⟩ := own_typed this.choose_spec _ h.symm; have := blk_lt hcl; omega)
            have y0 : w1.cell? ⟨W.heap.size, 0, none⟩ = some (.int .i64 x.f0) := (blk_cell hbx 0).trans rfl
            have y1 : w1.cell? ⟨W.heap.size, 1, none⟩ = some (.int .i64 x.f1) := (blk_cell hbx 1).trans rfl
            have hb2 := HSD.out 4 x.f0 false x.f1 f1 fv1 w1 hC1 ls1 d1 (by omega) (by omega)
            have HB2 := Lib.hid hb2
            have HT1 := Lib.hid (below_turn (below_alloc (Below.refl _ _) _) ht1)
            clear hb2 ht1 hC1 hbx
            go_wp2_with fail
            refine HB2.out.mono ?_
            rintro e w2 ⟨he, fv2, hC2, ht2⟩
            rw [HE2.out] at hC2 he
            obtain rfl : e = .returned (.int .i64 h2a) := he
            have hp3 := cput_any w0 p _ root fv2 f2 5 0 h1a h2a w2 hC2 ls2
            have HP3 := Lib.hid hp3
            have HT2 := Lib.hid (HT1.out.trans ht2)
            clear hp3 hC2 ht2
            go_wp2_with fail
            refine HP3.out.mono ?_
            rintro e w3 ⟨rfl, fv3, hC3, ht3⟩
            go_wp2_with fail
            go_ret
            exact ⟨rfl, fv3, hC3, HT2.out.trans ht3⟩
end Go.Proofs.YtgpnpfjbkaehlaaDoor.Wk
namespace Go.Proofs.YtgpnpfjbkaehlaaDoor.Wk
open Go.RowKit Go.Shelf Go.Lib Go.Maps Go.Proofs.YtgpnpfjbkaehlaaDoorW.PrintWords Go.Proofs.YtgpnpfjbkaehlaaDoorW.PrintLast Go.Proofs.YtgpnpfjbkaehlaaDoorW.PrintMore Go.Proofs.YtgpnpfjbkaehlaaDoor.Nt Go.Proofs.YtgpnpfjbkaehlaaDoor.Fm
set_option linter.unusedVariables false
set_option linter.unusedSimpArgs false

theorem bld_any (w0 : World) (p : Nat) (A : Option Addr) (c : Nat) (root : Int) (nodes : List Br) (hC0 : k74.C w0 A nodes.length nodes) (hc : nodes.length ≤ c) (hn : nodes.length < 4294967296) (hdn : Dn nodes) : ∀ k, BldC w0 p (.slice A nodes.length c) root nodes k := by
  intro k
  induction k with
  | zero => intro n f fv W _ _ h0 h1; exact absurd h1 (by omega)
  | succ k ih => exact build_step w0 p A c root nodes k hC0 hc hn hdn ih

set_option maxHeartbeats 2000000 in
set_option maxRecDepth 100000 in
theorem of_any (A : Option Addr) (c : Nat) (nodes : List Br) (root : Int) (w : World) (hC : k74.C w A nodes.length nodes) (hc : nodes.length ≤ c) :
    Calls Tryd.prog 14 #[.agg #[.slice A nodes.length c, .int .i64 root]] w (ParP w (ofP nodes root)) := by
  have hck := dcheck_any A c nodes root _ (Kd.C_alloc hC (.cells #[.slice A nodes.length c, .int .i64 root] 30)) hc
  have HCK := Lib.hid hck
  have HC := Lib.hid hC
  clear hck hC
  by_cases h0 : dgC nodes root = 0
  · rw [ofP_yes h0]
    have h0b : (dgC nodes root == 0) = true := beq_iff_eq.2 h0
    obtain ⟨hl, hok, hr0, hr1, _, _⟩ := dgC_0 h0
    have hdn := okD_dn hok
    obtain ⟨g, hg⟩ : ∃ g, (bldP nodes (nodes.length + 2) root []).2 = g := ⟨_, rfl⟩
    rw [hg]
    have HG := Lib.hid hg
    clear hg
    by_cases h5 : 512 < g.length
    · rw [if_pos h5]
      have h5' : (512 : Int) < g.length := by omega
      go_enter Tryd.func14, Tryd.ntmps14
      go_wp2_with fail
      refine HCK.out.mono ?_
      rintro e w1 ⟨he, hb1⟩
      rw [h0] at he
      subst he
      have hb1' : Below w.heap.size w w1 := (below_alloc (Below.refl _ _) _).trans (hb1.mono (by simp))
      have hbk := blk_below (blk_new w (.cells #[.slice A nodes.length c, .int .i64 root] 30)) hb1
      have m0 : w1.cell? ⟨w.heap.size, 0, none⟩ = some (.slice A nodes.length c) := (blk_cell hbk 0).trans rfl
      have m1 : w1.cell? ⟨w.heap.size, 1, none⟩ = some (.int .i64 root) := (blk_cell hbk 1).trans rfl
      have m1' : (w1.alloc (.cells #[.slice A nodes.length c, .int .i64 root, .slice none 0 0] 70)).cell? ⟨w.heap.size, 1, none⟩ = some (.int .i64 root) := (blk_cell (blk_alloc hbk _) 1).trans rfl
      have hcn : Cn w1 (w1.alloc (.cells #[.slice A nodes.length c, .int .i64 root, .slice none 0 0] 70)) w1.heap.size (.slice A nodes.length c) root (.slice none 0 0) [] := ⟨below_alloc (Below.refl _ _) _, Nat.le_refl _, blk_new _ _, Kd.R_nil _ _ _ _ _⟩
      have hbd := bld_any w1 w1.heap.size A c root nodes (Kd.C_below HC.out hb1') hc (by omega) hdn (nodes.length + 2) root [] _ _ hcn (by simp) hr0 (by omega) (by omega)
      have HB1 := Lib.hid hb1'
      have HBD := Lib.hid hbd
      have HCN := Lib.hid hcn
      clear hb1 hb1' hbk hbd hcn h0 h0b
      go_wp2_with fail
      refine HBD.out.mono ?_
      rintro e w2 ⟨rfl, fv2, hC2, ht2⟩
      have hbw := HB1.out.trans (hC2.bel.mono HB1.out.size)
      obtain ⟨A2, c2, rfl, hc2, hC2'⟩ := Kd.R_reads hC2.row
      rw [HG.out] at hC2 hc2 hC2'
      have f2 : w2.cell? ⟨w1.heap.size, 2, none⟩ = some (.slice A2 g.length c2) := (blk_cell hC2.obj 2).trans rfl
      have HC2 := Lib.hid hC2'
      have HBW := Lib.hid hbw
      clear hC2 hC2' ht2 hbw
      go_wp2_with fail
      go_ret2
      exact ⟨HBW.out, none, 0, rfl, Nat.le_refl _, Kd.C_nil _ _⟩
    · rw [if_neg h5]
      have h5' : (g.length : Int) ≤ 512 := by omega
      go_enter Tryd.func14, Tryd.ntmps14
      go_wp2_with fail
      refine HCK.out.mono ?_
      rintro e w1 ⟨he, hb1⟩
      rw [h0] at he
      subst he
      have hb1' : Below w.heap.size w w1 := (below_alloc (Below.refl _ _) _).trans (hb1.mono (by simp))
      have hbk := blk_below (blk_new w (.cells #[.slice A nodes.length c, .int .i64 root] 30)) hb1
      have m0 : w1.cell? ⟨w.heap.size, 0, none⟩ = some (.slice A nodes.length c) := (blk_cell hbk 0).trans rfl
      have m1 : w1.cell? ⟨w.heap.size, 1, none⟩ = some (.int .i64 root) := (blk_cell hbk 1).trans rfl
      have m1' : (w1.alloc (.cells #[.slice A nodes.length c, .int .i64 root, .slice none 0 0] 70)).cell? ⟨w.heap.size, 1, none⟩ = some (.int .i64 root) := (blk_cell (blk_alloc hbk _) 1).trans rfl
      have hcn : Cn w1 (w1.alloc (.cells #[.slice A nodes.length c, .int .i64 root, .slice none 0 0] 70)) w1.heap.size (.slice A nodes.length c) root (.slice none 0 0) [] := ⟨below_alloc (Below.refl _ _) _, Nat.le_refl _, blk_new _ _, Kd.R_nil _ _ _ _ _⟩
      have hbd := bld_any w1 w1.heap.size A c root nodes (Kd.C_below HC.out hb1') hc (by omega) hdn (nodes.length + 2) root [] _ _ hcn (by simp) hr0 (by omega) (by omega)
      have HB1 := Lib.hid hb1'
      have HBD := Lib.hid hbd
      have HCN := Lib.hid hcn
      clear hb1 hb1' hbk hbd hcn h0 h0b
      go_wp2_with fail
      refine HBD.out.mono ?_
      rintro e w2 ⟨rfl, fv2, hC2, ht2⟩
      have hbw := HB1.out.trans (hC2.bel.mono HB1.out.size)
      obtain ⟨A2, c2, rfl, hc2, hC2'⟩ := Kd.R_reads hC2.row
      rw [HG.out] at hC2 hc2 hC2'
      have f2 : w2.cell? ⟨w1.heap.size, 2, none⟩ = some (.slice A2 g.length c2) := (blk_cell hC2.obj 2).trans rfl
      have HC2 := Lib.hid hC2'
      have HBW := Lib.hid hbw
      clear hC2 hC2' ht2 hbw
      go_wp2_with fail
      go_ret2
      exact ⟨HBW.out, A2, c2, rfl, hc2, HC2.out⟩
  · rw [ofP_no h0]
    have h0b : (dgC nodes root == 0) = false := beq_eq_false_iff_ne.2 h0
    go_enter Tryd.func14, Tryd.ntmps14
    go_wp2_with fail
    refine HCK.out.mono ?_
    rintro e w1 ⟨rfl, hb1⟩
    go_wp2_with fail
    go_ret2
    exact ⟨(below_alloc (Below.refl _ _) _).trans (hb1.mono (by simp)), none, 0, rfl, Nat.le_refl _, Kd.C_nil _ _⟩

/-- What Text comes to. -/
def TxP (ns : List ByteArray) (nodes : List Br) (root : Int) (w : World) (e : Ending) (w' : World) : Prop :=
  Below w.heap.size w w' ∧ (
    (namesOK (ns.map fun s => s.data.toList) = false ∧ e = .returned (.tuple #[.string ⟨#[]⟩, .int .i64 1])) ∨
    (namesOK (ns.map fun s => s.data.toList) = true ∧ (ofP nodes root).2 ≠ 0 ∧ e = .returned (.tuple #[.string ⟨#[]⟩, .int .i64 (ofP nodes root).2])) ∨
    (namesOK (ns.map fun s => s.data.toList) = true ∧ (ofP nodes root).2 = 0 ∧ ∃ w1, PrP ns (ofP nodes root).1 w1 e w'))

set_option maxHeartbeats 2000000 in
set_option maxRecDepth 100000 in
theorem text_any (An A : Option Addr) (cn c : Nat) (ns : List ByteArray) (nodes : List Br) (root : Int) (w : World) (hCn : Kd.string.C w An ns.length ns) (hcn : ns.length ≤ cn) (hC : k74.C w A nodes.length nodes) (hc : nodes.length ≤ c)
    (hn : ns.length < 4294967296) (hs : ∀ s ∈ ns, s.size ≤ 9223372036854775807) (hl : ∀ t, Rep (ofP nodes root).1 t ((ofP nodes root).1.length - 1) → VarsLt ns.length t → (wr (nzOf ns) 0 t).length ≤ 140737488355328) :
    Calls Tryd.prog 38 #[.slice An ns.length cn, .agg #[.slice A nodes.length c, .int .i64 root]] w (TxP ns nodes root w) := by
  have hnum := numbers_any An cn ns _ (Kd.C_alloc hCn (.cells #[.slice A nodes.length c, .int .i64 root] 30)) hcn hn hs
  have HNUM := Lib.hid hnum
  have HCN := Lib.hid hCn
  have HC := Lib.hid hC
  have HS := Lib.hid hs
  have HL := Lib.hid hl
  clear hnum hCn hC hs hl
  go_enter Tryd.func38, Tryd.ntmps38
  go_wp2_with fail
  refine HNUM.out.mono ?_
  rintro e w1 ⟨hb1, ⟨hok, mb, rfl, _, _⟩ | ⟨hok, mv, rfl⟩⟩
  · have hb1' : Below w.heap.size w w1 := (below_alloc (Below.refl _ _) _).trans (hb1.mono (by simp))
    have hbk := blk_below (blk_new w (.cells #[.slice A nodes.length c, .int .i64 root] 30)) hb1
    have m0 : w1.cell? ⟨w.heap.size, 0, none⟩ = some (.slice A nodes.length c) := (blk_cell hbk 0).trans rfl
    have m1 : w1.cell? ⟨w.heap.size, 1, none⟩ = some (.int .i64 root) := (blk_cell hbk 1).trans rfl
    have hof := of_any A c nodes root w1 (Kd.C_below HC.out hb1') hc
    have HOF := Lib.hid hof
    have HB1 := Lib.hid hb1'
    clear hof hb1 hb1' hbk
    go_wp2_with fail
    refine HOF.out.mono ?_
    rintro e w2 ⟨hb2, Af, cf, rfl, hcf, hCf⟩
    have HB2 := Lib.hid (HB1.out.trans (hb2.mono HB1.out.size))
    have HCF := Lib.hid hCf
    clear hb2 hCf
    by_cases h0 : (ofP nodes root).2 = 0
    · have h0b : ((ofP nodes root).2 == 0) = true := beq_iff_eq.2 h0
      have hpr := print_any An Af cn cf ns (ofP nodes root).1 w2 (Kd.C_below HCN.out HB2.out) hcn HCF.out hcf hn HS.out HL.out
      have HPR := Lib.hid hpr
      have H0 := Lib.hid h0
      clear hpr h0
      go_wp2_with fail
      refine HPR.out.mono ?_
      intro e w3 hp
      have hb3 := HB2.out.trans (hp.1.mono HB2.out.size)
      have hP : TxP ns nodes root w e w3 := ⟨hb3, .inr (.inr ⟨hok, H0.out, w2, hp⟩)⟩
      obtain ⟨hb, ⟨_, rfl⟩ | ⟨_, _, rfl⟩ | ⟨_, _, _, t, _, _, rfl⟩⟩ := hp
      all_goals
        go_wp2_with fail
        go_ret2
        exact hP
    · have h0b : ((ofP nodes root).2 == 0) = false := beq_eq_false_iff_ne.2 h0
      have H0 := Lib.hid h0
      clear h0
      go_wp2_with fail
      go_ret2
      exact ⟨HB2.out, .inr (.inl ⟨hok, H0.out, rfl⟩)⟩
  · go_wp2_with fail
    go_ret2
    exact ⟨(below_alloc (Below.refl _ _) _).trans (hb1.mono (by simp)), .inl ⟨hok, rfl⟩⟩
end Go.Proofs.YtgpnpfjbkaehlaaDoor.Wk
namespace Go.Proofs.YtgpnpfjbkaehlaaDoor.Wk
open Go.RowKit Go.Shelf Go.Lib Go.Maps Go.Proofs.YtgpnpfjbkaehlaaDoorW.PrintWords Go.Proofs.YtgpnpfjbkaehlaaDoorW.PrintLast Go.Proofs.YtgpnpfjbkaehlaaDoorW.PrintMore Go.Proofs.YtgpnpfjbkaehlaaDoor.Nt Go.Proofs.YtgpnpfjbkaehlaaDoor.Fm
set_option linter.unusedVariables false
set_option linter.unusedSimpArgs false

/-- The names of the examples. -/
def abc : List ByteArray := [⟨#[65]⟩, ⟨#[66]⟩, ⟨#[67]⟩]
def pEx (s : List UInt8) : Option (List FN × Int) := (run lex1 (nmOf (abc.map fun s => s.data.toList)) 60 (.ex false) 0 ⟨trim s, [], false⟩).map fin
def want1 : List FN := [⟨2, 0, 0, 0⟩, ⟨3, 0, 0, 0⟩, ⟨2, 1, 0, 0⟩, ⟨4, 0, 1, 2⟩]
def right1 : List FN := [⟨2, 0, 0, 0⟩, ⟨2, 1, 0, 0⟩, ⟨2, 2, 0, 0⟩, ⟨4, 0, 1, 2⟩, ⟨4, 0, 0, 3⟩]
def out1 : List Br := [⟨1, 0, 1⟩, ⟨1, 1, 0⟩, ⟨0, 2, 3⟩]
def text1 : List FN := [⟨2, 0, 0, 0⟩, ⟨2, 1, 0, 0⟩, ⟨3, 0, 1, 0⟩, ⟨4, 0, 0, 2⟩, ⟨2, 0, 0, 0⟩, ⟨3, 0, 4, 0⟩, ⟨2, 1, 0, 0⟩, ⟨4, 0, 5, 6⟩, ⟨5, 0, 3, 7⟩]

set_option maxRecDepth 10000 in
theorem abc_ok : namesOK (abc.map fun s => s.data.toList) = true := by decide +kernel
set_option maxRecDepth 10000 in
theorem ex1 : pEx [33, 65, 32, 38, 38, 32, 66] = some (want1, 0) := by decide +kernel
set_option maxRecDepth 10000 in
theorem ex2 : pEx [65, 32, 38, 38] = some ([], 31) := by decide +kernel
set_option maxRecDepth 10000 in
theorem ex3 : pEx [65, 32, 38, 38, 32, 68] = some ([], 3) := by decide +kernel
set_option maxRecDepth 10000 in
theorem want_ok : checkB want1 = true ∧ badVar want1 3 = false := by decide +kernel
set_option maxRecDepth 10000 in
theorem right_ok : checkB right1 = true ∧ badVar right1 3 = false := by decide +kernel
set_option maxRecDepth 10000 in
theorem text_ok : checkB text1 = true ∧ badVar text1 3 = false := by decide +kernel
theorem want_rep : Rep want1 (.bin true (.not (.var 0)) (.var 1)) (want1.length - 1) := ⟨1, 2, rfl, ⟨0, rfl, rfl⟩, rfl⟩
theorem right_rep : Rep right1 (.bin true (.var 0) (.bin true (.var 1) (.var 2))) (right1.length - 1) := ⟨0, 3, rfl, rfl, ⟨1, 2, rfl, rfl, rfl⟩⟩
theorem text_rep : Rep text1 (.bin false (.bin true (.var 0) (.not (.var 1))) (.bin true (.not (.var 0)) (.var 1))) (text1.length - 1) := ⟨3, 7, rfl, ⟨0, 2, rfl, rfl, ⟨1, rfl, rfl⟩⟩, ⟨5, 6, rfl, ⟨4, rfl, rfl⟩, rfl⟩⟩

theorem abc_sz : ∀ s ∈ abc, s.size ≤ 9223372036854775807 := by
  intro s hs
  simp only [abc, List.mem_cons, List.not_mem_nil, or_false] at hs
  rcases hs with rfl | rfl | rfl <;> decide

theorem parse_ex {A : Option Addr} {c : Nat} {w : World} (hC : Kd.string.C w A abc.length abc) (hc : abc.length ≤ c) (s : ByteArray) (hsz : s.size < 2147483648) {g : List FN × Int} (h : pEx s.data.toList = some g) :
    Calls Tryd.prog 18 #[.slice A abc.length c, .string s] w (ParP w g) := by
  unfold pEx at h
  obtain ⟨r, h1, h2⟩ := Option.map_eq_some_iff.1 h
  have := parse_good A c abc s w hC hc (by decide) abc_sz abc_ok hsz 60 r h1
  rwa [h2] at this

theorem print_ex {A Af : Option Addr} {c cf : Nat} {f : List FN} {t : Tr} {l : List UInt8} {w : World} (hC : Kd.string.C w A abc.length abc) (hc : abc.length ≤ c) (hCf : k62.C w Af f.length f) (hcf : f.length ≤ cf) (hok : checkB f = true ∧ badVar f 3 = false) (hrep : Rep f t (f.length - 1)) (hl : wr (nzOf abc) 0 t = l) (hll : l.length ≤ 1000) :
    Calls Tryd.prog 24 #[.slice A abc.length c, .slice Af f.length cf] w fun e w' => e = .returned (.tuple #[.string ⟨l.toArray⟩, .int .i64 0]) ∧ Below w.heap.size w w' := by
  refine (print_any A Af c cf abc f w hC hc hCf hcf (by decide) abc_sz (fun t' h _ => by rw [rep_inj h hrep, hl]; omega)).mono ?_
  rintro e w' ⟨hb, ⟨h1, _⟩ | ⟨_, h1 | h1, _⟩ | ⟨_, _, _, t', h1, _, he⟩⟩
  · rw [abc_ok] at h1; cases h1
  · rw [hok.1] at h1; cases h1
  · have h2 := hok.2; rw [show abc.length = 3 from rfl] at h1; rw [h1] at h2; cases h2
  · rw [rep_inj h1 hrep, hl] at he; exact ⟨he, hb⟩

theorem text_ex {A Ad : Option Addr} {c cd : Nat} {w : World} (hC : Kd.string.C w A abc.length abc) (hc : abc.length ≤ c) (hCd : k74.C w Ad out1.length out1) (hcd : out1.length ≤ cd) {l : List UInt8} (hl : wr (nzOf abc) 0 (.bin false (.bin true (.var 0) (.not (.var 1))) (.bin true (.not (.var 0)) (.var 1))) = l) (hll : l.length ≤ 1000) :
    Calls Tryd.prog 38 #[.slice A abc.length c, .agg #[.slice Ad out1.length cd, .int .i64 4]] w fun e w' => e = .returned (.tuple #[.string ⟨l.toArray⟩, .int .i64 0]) ∧ Below w.heap.size w w' := by
  have hof : ofP out1 4 = (text1, 0) := xor_of
  refine (text_any A Ad c cd abc out1 4 w hC hc hCd hcd (by decide) abc_sz ?_).mono ?_
  · rw [hof]; intro t' h _; rw [rep_inj h text_rep, hl]; omega
  rintro e w' ⟨hb, ⟨h1, _⟩ | ⟨_, h1, _⟩ | ⟨_, _, w1, hp⟩⟩
  · rw [abc_ok] at h1; cases h1
  · rw [hof] at h1; exact absurd rfl h1
  · rw [hof] at hp
    obtain ⟨_, ⟨h1, _⟩ | ⟨_, h1 | h1, _⟩ | ⟨_, _, _, t', h1, _, he⟩⟩ := hp
    · rw [abc_ok] at h1; cases h1
    · rw [text_ok.1] at h1; cases h1
    · have h2 := text_ok.2; rw [show abc.length = 3 from rfl] at h1; rw [h1] at h2; cases h2
    · rw [rep_inj h1 text_rep, hl] at he; exact ⟨he, hb⟩

/-- The diagram of one condition. -/
theorem vd_var {v : Int} (h0 : 0 ≤ v) (h1 : v ≤ 63) : Vd [⟨v, 0, 1⟩] 2 := by
  have hbd : BD [⟨v, 0, 1⟩] := by
    have := BD.nil.snoc (b := ⟨v, 0, 1⟩) (okA_mk (nodes := []) (x := ⟨v, 0, 1⟩) ⟨h0, h1⟩ ⟨by omega, by simp⟩ ⟨by omega, by simp⟩ (by omega)) (by simp) (by show v < 64; omega) (by show v < 64; omega)
    exact this
  exact ⟨hbd, by omega, by simp, rfl, rfl⟩
theorem evd_var (v : Int) (c : Int → Bool) : evd [⟨v, 0, 1⟩] 2 c = c v := by
  show (if c v then true else false) = c v
  cases c v <;> rfl
set_option maxRecDepth 10000 in
theorem out1_ok : dgC out1 4 = 0 := by decide +kernel
theorem out1_ev (c : Int → Bool) : evd out1 4 c = (c 0 != c 1) := by
  show (if c 0 then (if c 1 then false else true) else (if c 1 then true else false)) = (c 0 != c 1)
  cases c 0 <;> cases c 1 <;> rfl

theorem xor_ex {Aa Ab : Option Addr} {ca cb : Nat} {w : World} (hCa : k74.C w Aa 1 [⟨0, 0, 1⟩]) (hca : 1 ≤ ca) (hCb : k74.C w Ab 1 [⟨1, 0, 1⟩]) (hcb : 1 ≤ cb) :
    Calls Tryd.prog 37 #[.agg #[.slice Aa 1 ca, .int .i64 2], .agg #[.slice Ab 1 cb, .int .i64 2]] w fun e w' => Below w.heap.size w w' ∧ ∃ A c, e = .returned (.tuple #[.agg #[.slice A out1.length c, .int .i64 4], .int .i64 0]) ∧ out1.length ≤ c ∧ k74.C w' A out1.length out1 := by
  refine (xor_any Aa Ab ca cb [⟨0, 0, 1⟩] [⟨1, 0, 1⟩] 2 2 w hCa hca hCb hcb (vd_var (by omega) (by omega)) (vd_var (by omega) (by omega)) (by intro b hb; simp at hb; subst hb; decide) (by intro b hb; simp at hb; subst hb; decide)).mono ?_
  rintro e w' ⟨v, rfl, hb, A, c, out, r, rfl, hc, hC, hvd, _, hs⟩
  obtain ⟨rfl, rfl⟩ := hvd.ext (vd_C.1 out1_ok).1 (fun c => by rw [hs c]; dsimp only; rw [evd_var, evd_var, out1_ev])
  exact ⟨hb, A, c, rfl, hc, hC⟩

theorem bth {w a b : World} (h : Below w.heap.size w a) (k : Below a.heap.size a b) : Below w.heap.size w b := h.trans (k.mono h.size)
theorem drawn_below {w w' : World} (h : Drawn0 w w') : Below w.heap.size w w' := by obtain ⟨n, rfl⟩ := h; exact pw_below_drewN (Below.refl _ _) n

theorem flat_get {α : Type} (f : α → List Value) (n : Nat) (hn : ∀ x, (f x).length = n) : ∀ (xs : List α) (j : Nat) (p : α), xs[j]? = some p → ∀ i u, (f p)[i]? = some u → (xs.flatMap f)[j * n + i]? = some u := by
  intro xs
  induction xs with
  | nil => intro j p h; simp at h
  | cons x xs ih =>
    intro j p h i u hu
    rw [List.flatMap_cons]
    cases j with
    | zero =>
      simp only [List.getElem?_cons_zero, Option.some.injEq] at h
      subst h
      have hi := (List.getElem?_eq_some_iff.1 hu).1
      rw [Nat.zero_mul, Nat.zero_add, List.getElem?_append_left hi]; exact hu
    | succ j =>
      rw [List.getElem?_cons_succ] at h
      rw [List.getElem?_append_right (by rw [hn, Nat.succ_mul]; omega), hn, show (j + 1) * n + i - n = j * n + i by rw [Nat.succ_mul]; omega]
      exact ih j p h i u hu

/-- A row in a block that is known whole. -/
theorem C_block {α : Type} {d : Kd α} {f : α → List Value} (hf : ∀ x, (f x).length = d.sz) (hK : ∀ w x, d.K w x (f x)) {w : World} {g : Nat} {t : TypeId} (xs : List α) (hl : xs.length ≤ 9223372036854775807) (hb : w.heap[g]? = some (.cells (xs.flatMap f).toArray t (0, 0))) : d.C w (some ⟨g, 0, none⟩) xs.length xs := by
  refine ⟨rfl, hl, fun _ => ⟨_, rfl, fun j p hp => ⟨f p, hf p, hK w p, fun i u hu => ?_⟩⟩⟩
  rw [add_plain, blk_cell hb, List.getElem?_toArray]
  exact flat_get f d.sz hf xs j p hp i u hu

def fnV (x : FN) : List Value := [.int .i64 x.f0, .int .i64 x.f1, .int .i64 x.f2, .int .i64 x.f3]
def stV (x : ByteArray) : List Value := [.string x]
theorem C_fns {w : World} {g : Nat} {t : TypeId} (xs : List FN) (hl : xs.length ≤ 9223372036854775807) (hb : w.heap[g]? = some (.cells (xs.flatMap fnV).toArray t (0, 0))) : k62.C w (some ⟨g, 0, none⟩) xs.length xs := C_block (f := fnV) (fun _ => rfl) (fun w x => k62_mk w x) xs hl hb
theorem C_strs {w : World} {g : Nat} {t : TypeId} (xs : List ByteArray) (hl : xs.length ≤ 9223372036854775807) (hb : w.heap[g]? = some (.cells (xs.flatMap stV).toArray t (0, 0))) : Kd.string.C w (some ⟨g, 0, none⟩) xs.length xs := C_block (f := stV) (fun _ => rfl) (fun w x => rfl) xs hl hb

theorem nil_ck : checkB [] = false := by decide +kernel

set_option maxHeartbeats 8000000 in
set_option maxRecDepth 100000 in
theorem sanity_any (w : World) : Calls Tryd.prog 11 #[] w fun e w' => e = .returned (.bool true) ∧ Below w.heap.size w w' := by
  go_enter Tryd.func11, Tryd.ntmps11
  go_wp2_with fail
  have hN : Kd.string.C (w.alloc (.cells #[.string ⟨#[65]⟩, .string ⟨#[66]⟩, .string ⟨#[67]⟩] 9)) (some ⟨w.heap.size, 0, none⟩) abc.length abc := C_strs abc (by decide) (blk_new w _)
  have hb0 : Below w.heap.size w (w.alloc (.cells #[.string ⟨#[65]⟩, .string ⟨#[66]⟩, .string ⟨#[67]⟩] 9)) := below_alloc (Below.refl _ _) _
  generalize (w.alloc (.cells #[.string ⟨#[65]⟩, .string ⟨#[66]⟩, .string ⟨#[67]⟩] 9)) = w0 at hN hb0 ⊢
  generalize w.heap.size = gN at hN ⊢
  refine (parse_ex hN (by decide) ⟨#[33, 65, 32, 38, 38, 32, 66]⟩ (by decide) ex1).mono ?_
  rintro e w1 ⟨hb1, Af, cf, rfl, hcf, hCf⟩
  have HN := Lib.hid hN
  have HB := Lib.hid hb0
  have HB1 := Lib.hid hb1
  have HF := Lib.hid hCf
  clear hN hb0 hb1 hCf
  go_wp2_with fail
  refine (print_ex (Kd.C_below HN.out HB1.out) (by decide) HF.out hcf want_ok want_rep (l := [33, 65, 32, 38, 38, 32, 66]) rfl (by decide)).mono ?_
  rintro e w2 ⟨rfl, hb2⟩
  have HB2 := Lib.hid hb2
  clear hb2
  go_wp2_with fail
  have hW : k62.C (w2.alloc (.cells #[.int .i64 2, .int .i64 0, .int .i64 0, .int .i64 0, .int .i64 3, .int .i64 0, .int .i64 0, .int .i64 0, .int .i64 2, .int .i64 1, .int .i64 0, .int .i64 0, .int .i64 4, .int .i64 0, .int .i64 1, .int .i64 2] 62)) (some ⟨w2.heap.size, 0, none⟩) want1.length want1 := C_fns want1 (by decide) (blk_new w2 _)
  have hb3 : Below w2.heap.size w2 (w2.alloc (.cells #[.int .i64 2, .int .i64 0, .int .i64 0, .int .i64 0, .int .i64 3, .int .i64 0, .int .i64 0, .int .i64 0, .int .i64 2, .int .i64 1, .int .i64 0, .int .i64 0, .int .i64 4, .int .i64 0, .int .i64 1, .int .i64 2] 62)) := below_alloc (Below.refl _ _) _
  have HN2 := Lib.hid (Kd.C_below (Kd.C_below (Kd.C_below HN.out HB1.out) HB2.out) hb3)
  have HF2 := Lib.hid (Kd.C_below (Kd.C_below HF.out HB2.out) hb3)
  have HBB := Lib.hid (bth (bth (bth HB.out HB1.out) HB2.out) hb3)
  have HWA := Lib.hid hW
  clear hW hb3 HN HF HB HB1 HB2
  generalize w2.heap.size = gW at HN2 HF2 HBB HWA ⊢
  generalize w2.alloc (.cells #[.int .i64 2, .int .i64 0, .int .i64 0, .int .i64 0, .int .i64 3, .int .i64 0, .int .i64 0, .int .i64 0, .int .i64 2, .int .i64 1, .int .i64 0, .int .i64 0, .int .i64 4, .int .i64 0, .int .i64 1, .int .i64 2] 62) = w3 at HN2 HF2 HBB HWA ⊢
  refine (parse_ex HN2.out (by decide) ⟨#[65, 32, 38, 38]⟩ (by decide) ex2).mono ?_
  rintro e w4 ⟨hb4, A4, c4, rfl, _, _⟩
  have HN3 := Lib.hid (Kd.C_below HN2.out hb4)
  have HF3 := Lib.hid (Kd.C_below HF2.out hb4)
  have HW3 := Lib.hid (Kd.C_below HWA.out hb4)
  have HB3 := Lib.hid (bth HBB.out hb4)
  clear HN2 HF2 HWA HBB hb4
  go_wp2_with fail
  refine (parse_ex HN3.out (by decide) ⟨#[65, 32, 38, 38, 32, 68]⟩ (by decide) ex3).mono ?_
  rintro e w5 ⟨hb5, A5, c5, rfl, _, _⟩
  have HN4 := Lib.hid (Kd.C_below HN3.out hb5)
  have HF4 := Lib.hid (Kd.C_below HF3.out hb5)
  have HW4 := Lib.hid (Kd.C_below HW3.out hb5)
  have HB4 := Lib.hid (bth HB3.out hb5)
  clear HN3 HF3 HW3 HB3 hb5
  go_wp2_with fail
  have hR : k62.C (w5.alloc (.cells #[.int .i64 2, .int .i64 0, .int .i64 0, .int .i64 0, .int .i64 2, .int .i64 1, .int .i64 0, .int .i64 0, .int .i64 2, .int .i64 2, .int .i64 0, .int .i64 0, .int .i64 4, .int .i64 0, .int .i64 1, .int .i64 2, .int .i64 4, .int .i64 0, .int .i64 0, .int .i64 3] 62)) (some ⟨w5.heap.size, 0, none⟩) right1.length right1 := C_fns right1 (by decide) (blk_new w5 _)
  have hb6 : Below w5.heap.size w5 (w5.alloc (.cells #[.int .i64 2, .int .i64 0, .int .i64 0, .int .i64 0, .int .i64 2, .int .i64 1, .int .i64 0, .int .i64 0, .int .i64 2, .int .i64 2, .int .i64 0, .int .i64 0, .int .i64 4, .int .i64 0, .int .i64 1, .int .i64 2, .int .i64 4, .int .i64 0, .int .i64 0, .int .i64 3] 62)) := below_alloc (Below.refl _ _) _
  refine (print_ex (Kd.C_below HN4.out hb6) (by decide) hR (Nat.le_refl _) right_ok right_rep (l := [65, 32, 38, 38, 32, 40, 66, 32, 38, 38, 32, 67, 41]) rfl (by decide)).mono ?_
  rintro e w6 ⟨rfl, hb7⟩
  have HN5 := Lib.hid (Kd.C_below (Kd.C_below HN4.out hb6) hb7)
  have HF5 := Lib.hid (Kd.C_below (Kd.C_below HF4.out hb6) hb7)
  have HW5 := Lib.hid (Kd.C_below (Kd.C_below HW4.out hb6) hb7)
  have HB5 := Lib.hid (bth (bth HB4.out hb6) hb7)
  clear HN4 HF4 HW4 HB4 hb6 hb7 hR
  generalize w5.heap.size = gR
  go_wp2_with fail
  refine (koineref02_Var.calls 0 [⟨0, 0, 1⟩] 2 0 w6 rfl).mono ?_
  rintro e w7 ⟨v7, rfl, hR7, hb7⟩
  obtain ⟨A7, c7, rfl, hc7, hC7⟩ := Kd.R_reads hR7
  have HN6 := Lib.hid (Kd.C_below HN5.out hb7)
  have HF6 := Lib.hid (Kd.C_below HF5.out hb7)
  have HW6 := Lib.hid (Kd.C_below HW5.out hb7)
  have HB6 := Lib.hid (bth HB5.out hb7)
  have HV7 := Lib.hid hC7
  clear HN5 HF5 HW5 HB5 hb7 hR7 hC7
  go_wp2_with fail
  have ka := blk_new w7 (.cells #[.slice A7 1 c7, .int .i64 2] 30)
  have hb8 : Below w7.heap.size w7 (w7.alloc (.cells #[.slice A7 1 c7, .int .i64 2] 30)) := below_alloc (Below.refl _ _) _
  generalize w7.heap.size = gA at ka ⊢
  refine (koineref02_Var.calls 1 [⟨1, 0, 1⟩] 2 0 _ rfl).mono ?_
  rintro e w8 ⟨v8, rfl, hR8, hb9⟩
  obtain ⟨A8, c8, rfl, hc8, hC8⟩ := Kd.R_reads hR8
  have HN7 := Lib.hid (Kd.C_below (Kd.C_below HN6.out hb8) hb9)
  have HF7 := Lib.hid (Kd.C_below (Kd.C_below HF6.out hb8) hb9)
  have HW7 := Lib.hid (Kd.C_below (Kd.C_below HW6.out hb8) hb9)
  have HB7 := Lib.hid (bth (bth HB6.out hb8) hb9)
  have HV8 := Lib.hid (Kd.C_below (Kd.C_below HV7.out hb8) hb9)
  have HC8 := Lib.hid hC8
  have ka8 := blk_below ka hb9
  clear HN6 HF6 HW6 HB6 HV7 hb8 hb9 hR8 hC8 ka
  have hka0 : w8.cell? ⟨gA, 0, none⟩ = some (.slice A7 1 c7) := (blk_cell ka8 0).trans rfl
  have hka1 : w8.cell? ⟨gA, 1, none⟩ = some (.int .i64 2) := (blk_cell ka8 1).trans rfl
  have hal := blk_lt ka8
  clear ka8
  go_wp2_with fail
  have hb10 : Below w8.heap.size w8 (w8.alloc (.cells #[.slice A8 1 c8, .int .i64 2] 30)) := below_alloc (Below.refl _ _) _
  refine (xor_ex (Kd.C_below HV8.out hb10) hc7 (Kd.C_below HC8.out hb10) hc8).mono ?_
  rintro e w9 ⟨hb11, A9, c9, rfl, hc9, hC9⟩
  have HN8 := Lib.hid (Kd.C_below (Kd.C_below HN7.out hb10) hb11)
  have HF8 := Lib.hid (Kd.C_below (Kd.C_below HF7.out hb10) hb11)
  have HW8 := Lib.hid (Kd.C_below (Kd.C_below HW7.out hb10) hb11)
  have HB8 := Lib.hid (bth (bth HB7.out hb10) hb11)
  have HC9 := Lib.hid hC9
  clear HN7 HF7 HW7 HB7 HV8 HC8 hb10 hb11 hC9 hka0 hka1 hal
  generalize w8.heap.size = gB
  go_wp2_with fail
  have hb12 : Below w9.heap.size w9 (w9.alloc (.cells #[.slice A9 out1.length c9, .int .i64 4] 30)) := below_alloc (Below.refl _ _) _
  refine (text_ex (Kd.C_below HN8.out hb12) (by decide) (Kd.C_below HC9.out hb12) hc9 (l := [65, 32, 38, 38, 32, 33, 66, 32, 124, 124, 32, 33, 65, 32, 38, 38, 32, 66]) rfl (by decide)).mono ?_
  rintro e w10 ⟨rfl, hb13⟩
  have HF9 := Lib.hid (Kd.C_below (Kd.C_below HF8.out hb12) hb13)
  have HW9 := Lib.hid (Kd.C_below (Kd.C_below HW8.out hb12) hb13)
  have HB9 := Lib.hid (bth (bth HB8.out hb12) hb13)
  clear HN8 HF8 HW8 HB8 HC9 hb12 hb13
  generalize w9.heap.size = gX
  go_wp2_with fail
  refine (koineref03_Same.calls _ Af cf want1 (some ⟨gW, 0, none⟩) 4 want1 true w10 HF9.out hcf HW9.out (by decide) ((fn_same want1 want1 (by decide)).trans (by rw [decide_eq_true rfl]))).mono ?_
  rintro e w11 ⟨rfl, hd11⟩
  have hb14 := drawn_below hd11
  have HW10 := Lib.hid (Kd.C_below HW9.out hb14)
  have HB10 := Lib.hid (bth HB9.out hb14)
  clear HF9 HW9 HB9 hd11 hb14
  go_wp2_with fail
  refine (check_any (some ⟨gW, 0, none⟩) 4 want1 w11 HW10.out (by decide)).mono ?_
  rintro e w12 ⟨he, hb15⟩
  rw [want_ok.1] at he
  obtain rfl : e = .returned (.int .i64 0) := he
  have HB11 := Lib.hid (bth HB10.out hb15)
  clear HB10 HW10 hb15
  go_wp2_with fail
  refine (check_any none 0 [] w12 (Kd.C_nil _ _) (by decide)).mono ?_
  rintro e w13 ⟨he, hb16⟩
  rw [nil_ck] at he
  obtain rfl : e = .returned (.int .i64 30) := he
  have HB12 := Lib.hid (bth HB11.out hb16)
  clear HB11 hb16
  go_wp2_with fail
  go_ret
  exact ⟨rfl, HB12.out⟩

/-- What a law comes to. -/
def LawP (w : World) (e : Ending) (w' : World) : Prop := e = .returned (.bool true) ∧ Below w.heap.size w w'
end Go.Proofs.YtgpnpfjbkaehlaaDoor.Wk
