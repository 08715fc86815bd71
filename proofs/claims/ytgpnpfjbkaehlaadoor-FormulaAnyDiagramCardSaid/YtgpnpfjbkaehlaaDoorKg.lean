/- AnyDiagram: the sizes, the walks of the reference's Of and of the law; diagrams that come in. -/
import Derived.Deep.QuietTactic
import Derived.BigQuiet
import Derived.Deep.RegionWith
import Derived.Deep.Slices
import Derived.Lib.SmallJoins
import Derived.Test.YtgpnpfjbkaehlaaDoorTa
import Derived.Test.YtgpnpfjbkaehlaaDoorKc
import Derived.Test.YtgpnpfjbkaehlaaDoorKb
import Derived.Test.YtgpnpfjbkaehlaaDoorRc
namespace Go.Proofs.YtgpnpfjbkaehlaaDoor.Fm
set_option linter.unusedVariables false
set_option linter.unusedSimpArgs false

/-- The size of the formula of a branch. -/
def szN (g : Int → Int) (b : Br) : Int :=
  if b.f2 = 1 ∧ b.f1 = 0 then 1 else if b.f2 = 0 ∧ b.f1 = 1 then 2 else if b.f1 = 0 then 2 + g b.f2 else if b.f2 = 0 then 3 + g b.f1 else if b.f2 = 1 then 2 + g b.f1 else if b.f1 = 1 then 3 + g b.f2 else g b.f1 + g b.f2 + 6

/-- The size of the formula of a number. -/
def szS (nodes : List Br) : Nat → Int → Int
  | 0, _ => 0
  | k + 1, n => if n < 2 then 1 else match nodes[(n - 2).toNat]? with | none => 0 | some b => szN (szS nodes k) b

theorem szN_nn {g : Int → Int} (hg : ∀ n, 0 ≤ g n) (b : Br) : 0 ≤ szN g b := by
  have h1 := hg b.f1
  have h2 := hg b.f2
  unfold szN
  repeat' split
  all_goals omega

theorem szS_nn (nodes : List Br) : ∀ k n, 0 ≤ szS nodes k n := by
  intro k
  induction k with
  | zero => intro n; exact Int.le_refl _
  | succ k ih =>
    intro n
    rw [szS]
    split
    · omega
    · split
      · exact Int.le_refl _
      · exact szN_nn ih _

theorem cput_len {f : List FN} (h : f.length ≤ 513) (n : FN) : ((cput f n).2.length : Int) = min 513 ((f.length : Int) + 1) := by
  unfold cput
  split
  · rw [List.length_append]; simp; omega
  · show (f.length : Int) = _; omega

/-- The size of a side. -/
def sdS (g : Int → Int) (op : Int) (pos : Bool) (num : Int) : Int := (if pos then 1 else 2) + (if op = 4 ∧ num = 1 then 0 else g num + 1)

theorem sd_t (g : Int → Int) (op num : Int) : sdS g op true num = 1 + (if op = 4 ∧ num = 1 then 0 else g num + 1) := rfl
theorem sd_f (g : Int → Int) (op num : Int) : sdS g op false num = 2 + (if op = 4 ∧ num = 1 then 0 else g num + 1) := rfl
theorem side_len {bld : Int → List FN → Int × List FN} {g : Int → Int} (hg : ∀ n, 0 ≤ g n) (hb : ∀ n f, f.length ≤ 513 → ((bld n f).2.length : Int) = min 513 ((f.length : Int) + g n)) (op v : Int) (pos : Bool) (num : Int) {f : List FN} (h : f.length ≤ 513) :
    ((sideP bld op v pos num f).2.length : Int) = min 513 ((f.length : Int) + sdS g op pos num) := by
  have q := hg num
  unfold sideP sdS
  have h1 := cput_len h ⟨2, v, 0, 0⟩
  have l1 := cput_le h ⟨2, v, 0, 0⟩
  generalize cput f ⟨2, v, 0, 0⟩ = r at h1 l1
  have h2 : ((if pos then r else cput r.2 ⟨3, 0, r.1, 0⟩).2.length : Int) = min 513 ((f.length : Int) + (if pos then 1 else 2)) := by
    cases pos
    · have := cput_len l1 ⟨3, 0, r.1, 0⟩
      simp only [Bool.false_eq_true, if_false]
      omega
    · simp only [if_true]; exact h1
  have l2 : (if pos then r else cput r.2 ⟨3, 0, r.1, 0⟩).2.length ≤ 513 := by omega
  dsimp only
  generalize (if pos then r else cput r.2 ⟨3, 0, r.1, 0⟩) = s at h2 l2
  have hp : (0 : Int) ≤ if pos then (1 : Int) else 2 := by split <;> omega
  generalize (if pos then (1 : Int) else 2) = d at h2 hp
  split
  · rw [h2]; congr 1; omega
  · have h3 := hb num s.2 l2
    have l3 : (bld num s.2).2.length ≤ 513 := by omega
    rw [cput_len l3, h3, h2]
    omega

theorem bld_len (nodes : List Br) : ∀ (k : Nat) (n : Int) (f : List FN), f.length ≤ 513 → ((bldP nodes k n f).2.length : Int) = min 513 ((f.length : Int) + szS nodes k n) := by
  intro k
  induction k with
  | zero => intro n f h; show (f.length : Int) = min 513 ((f.length : Int) + 0); omega
  | succ k ih =>
    intro n f h
    have hn := szS_nn nodes (k + 1) n
    rw [bldP]
    split
    · rename_i hs
      rw [cput_len h]
      rcases hs with hs | hs
      · rw [szS, if_pos hs]
      · omega
    · rename_i hs
      rw [szS, if_neg (by omega)]
      cases nodes[(n - 2).toNat]? with
      | none => show (f.length : Int) = min 513 ((f.length : Int) + 0); omega
      | some b =>
        have sl := fun op v pos num => side_len (szS_nn nodes k) ih op v pos num h
        have n1 := szS_nn nodes k b.f1
        have n2 := szS_nn nodes k b.f2
        dsimp only
        unfold szN
        by_cases g1 : b.f1 = 0
        · rw [if_pos g1, sl, sd_t]; repeat' split
          all_goals omega
        · rw [if_neg g1]
          by_cases g2 : b.f2 = 0
          · rw [if_pos g2, sl, sd_f]; repeat' split
            all_goals omega
          · rw [if_neg g2]
            by_cases g3 : b.f2 = 1
            · rw [if_pos g3, sl, sd_t]; repeat' split
              all_goals omega
            · rw [if_neg g3]
              by_cases g4 : b.f1 = 1
              · rw [if_pos g4, sl, sd_f]; repeat' split
                all_goals omega
              · rw [if_neg g4]
                have s1 := sl 4 b.f0 true b.f2
                have l1 := side_le (bld_le nodes k) 4 b.f0 true b.f2 h
                generalize sideP (bldP nodes k) 4 b.f0 true b.f2 f = r1 at s1 l1
                have s2 := side_len (szS_nn nodes k) ih 4 b.f0 false b.f1 l1
                have l2 := side_le (bld_le nodes k) 4 b.f0 false b.f1 l1
                generalize sideP (bldP nodes k) 4 b.f0 false b.f1 r1.2 = r2 at s2 l2
                rw [cput_len l2, s2, s1, sd_t, sd_f]
                repeat' split
                all_goals omega

theorem szN_congr {g g' : Int → Int} {b : Br} (h1 : g b.f1 = g' b.f1) (h2 : g b.f2 = g' b.f2) : szN g b = szN g' b := by unfold szN; rw [h1, h2]

theorem szS_more {nodes : List Br} (hb : Dn nodes) : ∀ (k k' : Nat) (n : Int), n < k → n < k' → 0 ≤ n → szS nodes k n = szS nodes k' n := by
  intro k
  induction k with
  | zero => intro k' n h h' h0; exact absurd h (by omega)
  | succ k ih =>
    intro k' n h h' h0
    cases k' with
    | zero => exact absurd h' (by omega)
    | succ k' =>
      rw [szS, szS]
      split
      · rfl
      · rename_i hn
        cases hx : nodes[(n - 2).toNat]? with
        | none => rfl
        | some b =>
          obtain ⟨d1, d2, d3, d4⟩ := hb _ b hx
          exact szN_congr (ih k' _ (by omega) (by omega) d1) (ih k' _ (by omega) (by omega) d3)

/-- The list of the sizes, each 10000 at most. -/
def szL (nodes : List Br) : Nat → List Int
  | 0 => [1, 1]
  | m + 1 => match nodes[m]? with | none => szL nodes m | some b => szL nodes m ++ [min (szN (fun i => (szL nodes m).getD i.toNat 0) b) 10000]

theorem szL_len (nodes : List Br) : ∀ m, m ≤ nodes.length → (szL nodes m).length = m + 2 := by
  intro m
  induction m with
  | zero => intro _; rfl
  | succ m ih =>
    intro h
    rw [szL, List.getElem?_eq_getElem (show m < nodes.length by omega)]
    simp [ih (by omega)]

theorem szN_min {g g' : Int → Int} {b : Br} (p1 : 0 ≤ g b.f1) (p2 : 0 ≤ g b.f2) (h1 : g' b.f1 = min (g b.f1) 10000) (h2 : g' b.f2 = min (g b.f2) 10000) : min (szN g' b) 10000 = min (szN g b) 10000 := by
  unfold szN
  rw [h1, h2]
  repeat' split
  all_goals omega

theorem szL_get {nodes : List Br} (hb : Dn nodes) : ∀ m, m ≤ nodes.length → ∀ i : Nat, i < m + 2 → (szL nodes m).getD i 0 = min (szS nodes (i + 1) i) 10000 := by
  intro m
  induction m with
  | zero =>
    intro _ i hi
    have : i = 0 ∨ i = 1 := by omega
    rcases this with rfl | rfl <;> rfl
  | succ m ih =>
    intro h i hi
    have hm : m < nodes.length := by omega
    have hl := szL_len nodes m (by omega)
    rw [szL, List.getElem?_eq_getElem hm]
    dsimp only
    by_cases him : i < m + 2
    · rw [List.getD_eq_getElem?_getD, List.getElem?_append_left (by omega), ← List.getD_eq_getElem?_getD]
      exact ih (by omega) i him
    · obtain rfl : i = m + 2 := by omega
      rw [List.getD_eq_getElem?_getD, List.getElem?_append_right (by omega), hl, Nat.sub_self]
      show min (szN _ _) 10000 = _
      rw [szS, if_neg (by omega), show ((((m + 2 : Nat) : Int)) - 2).toNat = m by omega, List.getElem?_eq_getElem hm]
      dsimp only
      obtain ⟨d1, d2, d3, d4⟩ := hb m _ (List.getElem?_eq_getElem hm)
      refine szN_min (szS_nn _ _ _) (szS_nn _ _ _) ?_ ?_
      · rw [ih (by omega) _ (by omega), szS_more hb (nodes[m].f1.toNat + 1) (m + 2) _ (by omega) (by omega) (by omega), Int.toNat_of_nonneg d1]
      · rw [ih (by omega) _ (by omega), szS_more hb (nodes[m].f2.toNat + 1) (m + 2) _ (by omega) (by omega) (by omega), Int.toNat_of_nonneg d3]

/-- What Of comes to, told by the size. -/
theorem ofP_size {nodes : List Br} (hb : Dn nodes) {root : Int} (h : dgC nodes root = 0) : ofP nodes root = if 512 < (szL nodes nodes.length).getD root.toNat 0 then ([], 2) else ((bldP nodes (nodes.length + 2) root []).2, 0) := by
  obtain ⟨_, _, h0, h1, _⟩ := dgC_0 h
  rw [ofP_yes h]
  have hl := bld_len nodes (nodes.length + 2) root [] (by simp)
  rw [szL_get hb _ (Nat.le_refl _) _ (by omega), szS_more hb (root.toNat + 1) (nodes.length + 2) _ (by omega) (by omega) (by omega), Int.toNat_of_nonneg h0]
  have hn := szS_nn nodes (nodes.length + 2) root
  simp only [List.length_nil] at hl
  by_cases h5 : 512 < szS nodes (nodes.length + 2) root
  · rw [if_pos (by omega), if_pos (by omega)]
  · rw [if_neg (by omega), if_neg (by omega)]
theorem szS_root {nodes : List Br} (hb : Dn nodes) {root : Int} (h0 : 0 ≤ root) (h1 : root < nodes.length + 2) (h : ¬ 512 < (szL nodes nodes.length).getD root.toNat 0) : szS nodes (nodes.length + 2) root ≤ 512 := by
  rw [szL_get hb _ (Nat.le_refl _) _ (by omega), szS_more hb (root.toNat + 1) (nodes.length + 2) _ (by omega) (by omega) (by omega), Int.toNat_of_nonneg h0] at h
  omega
theorem szN_1 (g : Int → Int) {b : Br} (h1 : b.f1 = 0) (h2 : b.f2 = 1) : szN g b = 1 := by rw [szN, if_pos ⟨h2, h1⟩]
theorem szN_2 (g : Int → Int) {b : Br} (h1 : b.f1 = 1) (h2 : b.f2 = 0) : szN g b = 2 := by 
  unfold szN; repeat' split
  all_goals omega
theorem szN_3 (g : Int → Int) {b : Br} (h1 : b.f1 = 0) (h2 : ¬ b.f2 < 2) : szN g b = sdS g 4 true b.f2 := by
  unfold szN; rw [sd_t]; repeat' split
  all_goals omega
theorem szN_4 (g : Int → Int) {b : Br} (h1 : ¬ b.f1 < 2) (h2 : b.f2 = 0) : szN g b = sdS g 4 false b.f1 := by
  unfold szN; rw [sd_f]; repeat' split
  all_goals omega
theorem szN_5 (g : Int → Int) {b : Br} (h1 : ¬ b.f1 < 2) (h2 : b.f2 = 1) : szN g b = sdS g 5 true b.f1 := by
  unfold szN; rw [sd_t]; repeat' split
  all_goals omega
theorem szN_6 (g : Int → Int) {b : Br} (h1 : b.f1 = 1) (h2 : ¬ b.f2 < 2) : szN g b = sdS g 5 false b.f2 := by
  unfold szN; rw [sd_f]; repeat' split
  all_goals omega
theorem szN_7 (g : Int → Int) {b : Br} (h1 : ¬ b.f1 < 2) (h2 : ¬ b.f2 < 2) : szN g b = sdS g 4 true b.f2 + sdS g 4 false b.f1 + 1 := by
  unfold szN; rw [sd_f, sd_t]; repeat' split
  all_goals omega
end Go.Proofs.YtgpnpfjbkaehlaaDoor.Fm
namespace Go.Proofs.YtgpnpfjbkaehlaaDoor.Wk
open Go.RowKit Go.Shelf Go.Lib Go.Maps Go.Proofs.YtgpnpfjbkaehlaaDoorW.PrintWords Go.Proofs.YtgpnpfjbkaehlaaDoorW.PrintLast Go.Proofs.YtgpnpfjbkaehlaaDoorW.PrintMore Go.Proofs.YtgpnpfjbkaehlaaDoor.Nt Go.Proofs.YtgpnpfjbkaehlaaDoor.Fm
set_option linter.unusedVariables false
set_option linter.unusedSimpArgs false

/-- The writer at block p of W: the diagram, the nodes. -/
structure Wr (w0 W : World) (p : Nat) (dv : Value) (root : Int) (fv : Value) (f : List FN) : Prop where
  bel : Below w0.heap.size w0 W
  le : w0.heap.size ≤ p
  obj : W.heap[p]? = some (.cells #[dv, .int .i64 root, fv] 94 (0, 0))
  row : k62.R 62 W 0 (fun k => w0.heap.size ≤ k ∧ k ≠ p) fv f

theorem Wr.lt {w0 W : World} {p : Nat} {dv fv : Value} {root : Int} {f : List FN} (h : Wr w0 W p dv root fv f) : p < W.heap.size := blk_lt h.obj
theorem Wr.below {w0 W W1 : World} {p : Nat} {dv fv : Value} {root : Int} {f : List FN} (h : Wr w0 W p dv root fv f) (hb : Below W.heap.size W W1) : Wr w0 W1 p dv root fv f :=
  ⟨h.bel.trans (hb.mono h.bel.size), h.le, blk_below h.obj hb, Kd.R_below h.row hb⟩
theorem Wr.fresh {w0 W : World} {p : Nat} {dv fv : Value} {root : Int} {f : List FN} (h : Wr w0 W p dv root fv f) : some p ≠ fv.ownBlock := by
  intro e
  exact (h.row.1 p e.symm).2 rfl

/-- What a call on the writer comes to. -/
def WrP (w0 : World) (p : Nat) (dv : Value) (root : Int) (fv : Value) (W : World) (r : Int × List FN) (e : Ending) (w' : World) : Prop :=
  e = .returned (.int .i64 r.1) ∧ ∃ fv', Wr w0 w' p dv root fv' r.2 ∧ Turn p fv W fv' w'

set_option maxHeartbeats 1000000 in
set_option maxRecDepth 100000 in
theorem wput_any (w0 : World) (p : Nat) (dv : Value) (root : Int) (fv : Value) (f : List FN) (n0 n1 n2 n3 : Int) (w : World) (h : Wr w0 w p dv root fv f) (hl : f.length ≤ 512) :
    Calls Tryd.prog 83 #[.pointer (some ⟨p, 0, none⟩), .agg #[.int .i64 n0, .int .i64 n1, .int .i64 n2, .int .i64 n3]] w (WrP w0 p dv root fv w (cput f ⟨n0, n1, n2, n3⟩)) := by
  have hlt := h.lt
  obtain ⟨A, c, rfl⟩ := Kd.R_slice h.row
  have c2 : w.cell? ⟨p, 2, none⟩ = some (.slice A f.length c) := (blk_cell h.obj 2).trans rfl
  have z2 := blk_free h.obj 2
  have c2b : (w.alloc (.cells #[.int .i64 n0, .int .i64 n1, .int .i64 n2, .int .i64 n3] 62)).cell? ⟨p, 2, none⟩ = some (.slice A f.length c) := (blk_cell (blk_alloc h.obj _) 2).trans rfl
  have H := Lib.hid h
  clear h
  rw [cput, if_pos hl]
  go_enter Tryd.func83, Tryd.ntmps83
  go_wp2
  have HR := Lib.hid (Kd.R_drew (Kd.R_alloc (Kd.R_alloc H.out.row (.cells #[.int .i64 n0, .int .i64 n1, .int .i64 n2, .int .i64 n3] 62)) (.cells #[.int .i64 n0, .int .i64 n1, .int .i64 n2, .int .i64 n3] 62)))
  have HB := Lib.hid (blk_alloc (blk_alloc H.out.obj (.cells #[.int .i64 n0, .int .i64 n1, .int .i64 n2, .int .i64 n3] 62)) (.cells #[.int .i64 n0, .int .i64 n1, .int .i64 n2, .int .i64 n3] 62))
  have HF := Lib.hid H.out.fresh
  have hbl := H.out.bel.size
  go_region_law (refine step_append_R k62 rfl (.tmp 9) (.tmp 11) 26 62 _ 32 rfl Tryd.underlying26 info62 rfl (by decide) (.slice A f.length c) f ⟨n0, n1, n2, n3⟩ [.int .i64 n0, .int .i64 n1, .int .i64 n2, .int .i64 n3] (fun k => w0.heap.size ≤ k ∧ k ≠ p) (fun _ => False) rfl ⟨w.heap.size + 1, 0, none⟩ rfl (new_cells _ _ _ _ (by simp)) (k62_mkM _ _ _ ⟨n0, n1, n2, n3⟩) (fun _ h => h.elim) (by intro k hk; simp at hk; omega) HR.out (by omega) (by decide) ?_; intro g cap w1 hR hg hat hlt1; have hB1 := blk_grown (w := World.drew _) HB.out hg HF.out; have c2' : w1.cell? ⟨p, 2, none⟩ = some (.slice A f.length c) := (blk_cell hB1 2).trans rfl; have z2' := blk_free hB1 2; have HB1 := Lib.hid hB1; have HR1 := Lib.hid hR; have HG := Lib.hid hg; have HA := Lib.hid hat; clear hB1 hR hg hat)
  all_goals
    go_wp2
    go_ret
    have hW : Below w.heap.size w (World.drew ((w.alloc (.cells #[.int .i64 n0, .int .i64 n1, .int .i64 n2, .int .i64 n3] 62)).alloc (.cells #[.int .i64 n0, .int .i64 n1, .int .i64 n2, .int .i64 n3] 62))) := below_drew (below_alloc (below_alloc (Below.refl _ _) _) _)
    have hT := turn_append (p := p) (i := 2) (m := f.length + 1) (cap := cap) (u := .slice (some ⟨g, 0, none⟩) (f.length + 1) cap) hW HG.out HA.out
    refine ⟨ret_v (val_i (by omega)), .slice (some ⟨g, 0, none⟩) (f.length + 1) cap, ⟨?_, H.out.le, ?_, ?_⟩, hT⟩
    · exact H.out.bel.trans (hT.own H.out.bel.size H.out.le (fun k hk => (H.out.row.1 k hk.symm).1))
    · have := blk_set HB1.out 2 (.slice (some ⟨g, 0, none⟩) (f.length + 1) cap)
      simpa using this
    · exact Kd.R_far HR1.out (fun k hk => hk.2) _

/-- A condition, negated or not. -/
def varP (v : Int) (pos : Bool) (f : List FN) : Int × List FN :=
  let r := cput f ⟨2, v, 0, 0⟩
  if pos then r else cput r.2 ⟨3, 0, r.1, 0⟩

theorem varP_len {f : List FN} (h : f.length ≤ 513) (v : Int) (pos : Bool) : ((varP v pos f).2.length : Int) = min 513 ((f.length : Int) + (if pos then 1 else 2)) := by
  unfold varP
  have h1 := cput_len h ⟨2, v, 0, 0⟩
  have l1 := cput_le h ⟨2, v, 0, 0⟩
  generalize cput f ⟨2, v, 0, 0⟩ = r at h1 l1
  cases pos
  · have := cput_len l1 ⟨3, 0, r.1, 0⟩
    simp only [Bool.false_eq_true, if_false]
    omega
  · simp only [if_true]; exact h1

theorem side_var (bld : Int → List FN → Int × List FN) (op v : Int) (pos : Bool) (num : Int) (f : List FN) : sideP bld op v pos num f = if op = 4 ∧ num = 1 then varP v pos f else cput (bld num (varP v pos f).2).2 ⟨op, 0, (varP v pos f).1, (bld num (varP v pos f).2).1⟩ := rfl

set_option maxHeartbeats 1000000 in
set_option maxRecDepth 100000 in
theorem wvar_any (w0 : World) (p : Nat) (dv : Value) (root : Int) (fv : Value) (f : List FN) (v : Int) (pos : Bool) (w : World) (h : Wr w0 w p dv root fv f) (hl : (f.length : Int) + (if pos then 1 else 2) ≤ 512) :
    Calls Tryd.prog 84 #[.pointer (some ⟨p, 0, none⟩), .int .i64 v, .bool pos] w (WrP w0 p dv root fv w (varP v pos f)) := by
  have hl0 : f.length ≤ 511 := by split at hl <;> omega
  have hp1 := wput_any w0 p dv root fv f 2 v 0 0 w h (by omega)
  have l1 := cput_len (show f.length ≤ 513 by omega) ⟨2, v, 0, 0⟩
  have HP1 := Lib.hid hp1
  clear hp1 h
  unfold varP
  obtain ⟨a1, f1, e1⟩ : ∃ a f1, cput f ⟨2, v, 0, 0⟩ = (a, f1) := ⟨_, _, rfl⟩
  rw [e1] at l1 ⊢
  have HE1 := Lib.hid e1
  clear e1
  dsimp only at l1 ⊢
  cases pos with
  | true =>
    rw [if_pos rfl]
    clear hl l1
    go_enter Tryd.func84, Tryd.ntmps84
    go_wp2_with fail
    refine HP1.out.mono ?_
    rintro e w1 ⟨he, fv1, hC1, ht1⟩
    rw [HE1.out] at hC1 he
    obtain rfl : e = .returned (.int .i64 a1) := he
    go_wp2_with fail
    go_ret
    exact ⟨rfl, fv1, hC1, ht1⟩
  | false =>
    rw [if_neg (by simp)]
    have hl1 : f1.length ≤ 512 := by simp only [Bool.false_eq_true, if_false] at hl; omega
    clear hl l1
    go_enter Tryd.func84, Tryd.ntmps84
    go_wp2_with fail
    refine HP1.out.mono ?_
    rintro e w1 ⟨he, fv1, hC1, ht1⟩
    rw [HE1.out] at hC1 he
    obtain rfl : e = .returned (.int .i64 a1) := he
    have hp2 := wput_any w0 p dv root fv1 f1 3 0 a1 0 w1 hC1 hl1
    have HP2 := Lib.hid hp2
    have HT1 := Lib.hid ht1
    clear hp2 ht1 hC1
    go_wp2_with fail
    refine HP2.out.mono ?_
    rintro e w2 ⟨rfl, fv2, hC2, ht2⟩
    go_wp2_with fail
    go_ret
    exact ⟨rfl, fv2, hC2, HT1.out.trans ht2⟩
end Go.Proofs.YtgpnpfjbkaehlaaDoor.Wk
namespace Go.Proofs.YtgpnpfjbkaehlaaDoor.Wk
open Go.RowKit Go.Shelf Go.Lib Go.Maps Go.Proofs.YtgpnpfjbkaehlaaDoorW.PrintWords Go.Proofs.YtgpnpfjbkaehlaaDoorW.PrintLast Go.Proofs.YtgpnpfjbkaehlaaDoorW.PrintMore Go.Proofs.YtgpnpfjbkaehlaaDoor.Nt Go.Proofs.YtgpnpfjbkaehlaaDoor.Fm
set_option linter.unusedVariables false
set_option linter.unusedSimpArgs false

def NumC (w0 : World) (p : Nat) (dv : Value) (root : Int) (nodes : List Br) (k : Nat) : Prop :=
  ∀ (n : Int) (f : List FN) (fv : Value) (W : World), Wr w0 W p dv root fv f → (f.length : Int) + szS nodes k n ≤ 512 → 0 ≤ n → n < k → n < nodes.length + 2 →
    Calls Tryd.prog 52 #[.pointer (some ⟨p, 0, none⟩), .int .i64 n] W (WrP w0 p dv root fv W (bldP nodes k n f))

def JoinC (w0 : World) (p : Nat) (dv : Value) (root : Int) (nodes : List Br) (k : Nat) : Prop :=
  ∀ (op v : Int) (pos : Bool) (num : Int) (f : List FN) (fv : Value) (W : World), Wr w0 W p dv root fv f → (f.length : Int) + sdS (szS nodes k) op pos num ≤ 512 → ¬ num = 1 ∨ op = 5 → 0 ≤ num → num < k → num < nodes.length + 2 →
    Calls Tryd.prog 85 #[.pointer (some ⟨p, 0, none⟩), .int .i64 op, .int .i64 v, .bool pos, .int .i64 num] W (WrP w0 p dv root fv W (sideP (bldP nodes k) op v pos num f))

set_option maxHeartbeats 2000000 in
set_option maxRecDepth 100000 in
theorem join_any (w0 : World) (p : Nat) (dv : Value) (root : Int) (nodes : List Br) (k : Nat) (hB : NumC w0 p dv root nodes k) : JoinC w0 p dv root nodes k := by
  intro op v pos num f fv W hC hl hne h0 h1 h2
  have hcc : ¬ (op = 4 ∧ num = 1) := by omega
  rw [side_var, if_neg hcc]
  rw [sdS, if_neg hcc] at hl
  have hnn := szS_nn nodes k num
  have hd : (0 : Int) ≤ if pos then 1 else 2 := by split <;> omega
  have hfl : f.length ≤ 513 := by omega
  have hp1 := wvar_any w0 p dv root fv f v pos W hC (by omega)
  have l1 := varP_len hfl v pos
  obtain ⟨a1, f1, e1⟩ : ∃ a f1, varP v pos f = (a, f1) := ⟨_, _, rfl⟩
  rw [e1] at l1 hp1 ⊢
  dsimp only at l1 ⊢
  have l2 := bld_len nodes k num f1 (by omega)
  obtain ⟨b3, f3, e3⟩ : ∃ b f3, bldP nodes k num f1 = (b, f3) := ⟨_, _, rfl⟩
  have hb3 := fun fv1 w1 hC1 => hB num f1 fv1 w1 hC1 (by omega) h0 h1 h2
  rw [e3] at l2 hb3 ⊢
  dsimp only at l2 ⊢
  have l3 : f3.length ≤ 512 := by omega
  have HB := Lib.hid hb3
  have HP1 := Lib.hid hp1
  clear hb3 hp1 e1 e3 hcc hne hB hl hd hnn l1 l2
  go_enter Tryd.func85, Tryd.ntmps85
  go_wp2_with fail
  refine HP1.out.mono ?_
  rintro e w1 ⟨rfl, fv1, hC1, ht1⟩
  have hb := HB.out fv1 w1 hC1
  have HB1 := Lib.hid hb
  have HT := Lib.hid ht1
  clear hb ht1 hC1
  go_wp2_with fail
  refine HB1.out.mono ?_
  rintro e w3 ⟨rfl, fv3, hC3, ht3⟩
  have hp4 := wput_any w0 p dv root fv3 f3 op 0 a1 b3 w3 hC3 l3
  have HP4 := Lib.hid hp4
  have HT3 := Lib.hid (HT.out.trans ht3)
  clear hp4 hC3 ht3
  go_wp2_with fail
  refine HP4.out.mono ?_
  rintro e w4 ⟨rfl, fv4, hC4, ht4⟩
  go_wp2_with fail
  go_ret
  exact ⟨rfl, fv4, hC4, HT3.out.trans ht4⟩

/-- The two sides of a branch differ. -/
def Dif (nodes : List Br) : Prop := ∀ (i : Nat) (x : Br), nodes[i]? = some x → x.f1 ≠ x.f2

set_option maxHeartbeats 4000000 in
set_option maxRecDepth 100000 in
theorem num_step (w0 : World) (p : Nat) (A : Option Addr) (c : Nat) (root : Int) (nodes : List Br) (k : Nat) (hC0 : k74.C w0 A nodes.length nodes) (hc : nodes.length ≤ c) (hn : nodes.length < 4294967296) (hdn : Dn nodes) (hdf : Dif nodes)
    (ih : NumC w0 p (.slice A nodes.length c) root nodes k) : NumC w0 p (.slice A nodes.length c) root nodes (k + 1) := by
  intro n f fv W hC hl h0 h1 h2
  have hsd := join_any w0 p (.slice A nodes.length c) root nodes k ih
  have HSD := Lib.hid hsd
  have HDN := Lib.hid hdn
  have HC0 := Lib.hid hC0
  clear hsd ih hdn hC0
  have hsn := szS_nn nodes (k + 1) n
  obtain ⟨Af, cf, rfl⟩ := Kd.R_slice hC.row
  have c2 : W.cell? ⟨p, 2, none⟩ = some (.slice Af f.length cf) := (blk_cell hC.obj 2).trans rfl
  have c0 : W.cell? ⟨p, 0, none⟩ = some (.slice A nodes.length c) := (blk_cell hC.obj 0).trans rfl
  by_cases hs : n < 2
  · have hl5 : f.length ≤ 512 := by omega
    have hbp : bldP nodes (k + 1) n f = cput f ⟨n, 0, 0, 0⟩ := by rw [bldP, if_pos (.inl hs), show min n 1 = n by omega]
    rw [hbp]
    have hp := wput_any w0 p (.slice A nodes.length c) root _ f n 0 0 0 _ (hC.below (below_alloc (Below.refl _ _) (.cells #[.int .i64 0, .int .i64 1] 3))) hl5
    have hb := below_alloc (Below.refl W.heap.size W) (.cells #[.int .i64 0, .int .i64 1] 3)
    have HP := Lib.hid hp
    have HB := Lib.hid hb
    clear hp hbp hC hb hl hsn
    have hn01 : n = 0 ∨ n = 1 := by omega
    rcases hn01 with rfl | rfl
    all_goals
      go_enter Tryd.func52, Tryd.ntmps52
      go_wp2_with fail
      refine HP.out.mono ?_
      rintro e w1 ⟨rfl, fv1, hC1, ht1⟩
      go_wp2_with fail
      go_ret
      exact ⟨rfl, fv1, hC1, below_turn HB.out ht1⟩
  · have hn2 : 2 ≤ n := by omega
    have hil : (n - 2).toNat < nodes.length := by omega
    obtain ⟨x, hx⟩ : ∃ x, nodes[(n - 2).toNat]? = some x := ⟨_, List.getElem?_eq_getElem hil⟩
    obtain ⟨d1, d2, d3, d4⟩ := HDN.out _ x hx
    have hne := hdf _ x hx
    rw [szS, if_neg hs, hx] at hl
    dsimp only at hl
    have hnn := szN_nn (szS_nn nodes k) x
    have hl5 : f.length ≤ 512 := by omega
    have hbp : bldP nodes (k + 1) n f = (if x.f1 = 0 then sideP (bldP nodes k) 4 x.f0 true x.f2 f
      else if x.f2 = 0 then sideP (bldP nodes k) 4 x.f0 false x.f1 f
      else if x.f2 = 1 then sideP (bldP nodes k) 5 x.f0 true x.f1 f
      else if x.f1 = 1 then sideP (bldP nodes k) 5 x.f0 false x.f2 f
      else cput (sideP (bldP nodes k) 4 x.f0 false x.f1 (sideP (bldP nodes k) 4 x.f0 true x.f2 f).2).2 ⟨5, 0, (sideP (bldP nodes k) 4 x.f0 true x.f2 f).1, (sideP (bldP nodes k) 4 x.f0 false x.f1 (sideP (bldP nodes k) 4 x.f0 true x.f2 f).2).1⟩) := by
      rw [bldP, if_neg (by omega), hx]
    rw [hbp]
    obtain ⟨ad, rfl, _, x0, x1, x2⟩ := at_br (Kd.C_below HC0.out hC.bel) hx
    have HW := Lib.hid hC
    have HL := Lib.hid hl
    clear hbp hx hC hs hnn hl hsn
    have hlt := HW.out.lt
    have hbA := below_alloc (Below.refl W.heap.size W) (.cells #[.int .i64 x.f0, .int .i64 x.f1, .int .i64 x.f2] 74)
    have hwA := HW.out.below hbA
    have hst := fun (op v : Int) (pos : Bool) (num : Int) (q : (f.length : Int) + sdS (szS nodes k) op pos num ≤ 512) (q2 : ¬ num = 1 ∨ op = 5) (q0 : 0 ≤ num) (q1 : num < n) => HSD.out op v pos num f _ _ hwA q q2 q0 (by omega) (by omega)
    have hva := fun (pos : Bool) (q : (f.length : Int) + (if pos then 1 else 2) ≤ 512) => wvar_any w0 p _ root _ f x.f0 pos _ hwA q
    have HST := Lib.hid hst
    have HVA := Lib.hid hva
    have HBA := Lib.hid hbA
    clear hst hva hbA hwA
    by_cases a1 : x.f1 < 2
    · have q : x.f1 = 0 ∨ x.f1 = 1 := by omega
      by_cases a2 : x.f2 < 2
      · have q' : x.f1 = 0 ∧ x.f2 = 1 ∨ x.f1 = 1 ∧ x.f2 = 0 := by omega
        clear q
        rcases q' with ⟨g1, g2⟩ | ⟨g1, g2⟩
        · have hva := HVA.out true (by have := HL.out; rw [szN_1 _ g1 g2] at this; simpa using this)
          have hss : sideP (bldP nodes k) 4 x.f0 true x.f2 f = varP x.f0 true f := by rw [side_var, if_pos ⟨rfl, g2⟩]
          rw [if_pos g1, hss]
          have HV := Lib.hid hva
          have g2b : (x.f2 == 1) = true := beq_iff_eq.2 g2
          clear g1 g2 hva hss
          go_enter Tryd.func52, Tryd.ntmps52
          go_wp2_with fail
          refine HV.out.mono ?_
          rintro e w1 ⟨rfl, fv1, hC1, ht1⟩
          go_wp2_with fail
          go_ret
          exact ⟨rfl, fv1, hC1, below_turn HBA.out ht1⟩
        · have hva := HVA.out false (by have := HL.out; rw [szN_2 _ g1 g2] at this; simpa using this)
          have hss : sideP (bldP nodes k) 4 x.f0 false x.f1 f = varP x.f0 false f := by rw [side_var, if_pos ⟨rfl, g1⟩]
          rw [if_neg (by omega), if_pos g2, hss]
          have HV := Lib.hid hva
          have g2b : (x.f2 == 1) = false := beq_eq_false_iff_ne.2 (by omega)
          clear g1 g2 hva hss
          go_enter Tryd.func52, Tryd.ntmps52
          go_wp2_with fail
          refine HV.out.mono ?_
          rintro e w1 ⟨rfl, fv1, hC1, ht1⟩
          go_wp2_with fail
          go_ret
          exact ⟨rfl, fv1, hC1, below_turn HBA.out ht1⟩
      · rcases q with g1 | g1
        · have hj := HST.out 4 x.f0 true x.f2 (by have := HL.out; rwa [szN_3 _ g1 a2] at this) (.inl (by omega)) d3 (by omega)
          rw [if_pos g1]
          have g1b : (x.f1 == 0) = true := beq_iff_eq.2 g1
          have HJ := Lib.hid hj
          clear g1 hj hne
          go_enter Tryd.func52, Tryd.ntmps52
          go_wp2_with fail
          refine HJ.out.mono ?_
          rintro e w1 ⟨rfl, fv1, hC1, ht1⟩
          go_wp2_with fail
          go_ret
          exact ⟨rfl, fv1, hC1, below_turn HBA.out ht1⟩
        · have hj := HST.out 5 x.f0 false x.f2 (by have := HL.out; rwa [szN_6 _ g1 a2] at this) (.inr rfl) d3 (by omega)
          rw [if_neg (by omega), if_neg (by omega), if_neg (by omega), if_pos g1]
          have g1b : (x.f1 == 0) = false := beq_eq_false_iff_ne.2 (by omega)
          have g2b : (x.f2 == 0) = false := beq_eq_false_iff_ne.2 (by omega)
          have g3b : (x.f2 == 1) = false := beq_eq_false_iff_ne.2 (by omega)
          have g4b : (x.f1 == 1) = true := beq_iff_eq.2 g1
          have HJ := Lib.hid hj
          clear g1 hj hne
          go_enter Tryd.func52, Tryd.ntmps52
          go_wp2_with fail
          refine HJ.out.mono ?_
          rintro e w1 ⟨rfl, fv1, hC1, ht1⟩
          go_wp2_with fail
          go_ret
          exact ⟨rfl, fv1, hC1, below_turn HBA.out ht1⟩
    · have g1b : (x.f1 == 0) = false := beq_eq_false_iff_ne.2 (by omega)
      have g4b : (x.f1 == 1) = false := beq_eq_false_iff_ne.2 (by omega)
      rw [if_neg (show ¬ x.f1 = 0 by omega)]
      by_cases a2 : x.f2 < 2
      · have q' : x.f2 = 0 ∨ x.f2 = 1 := by omega
        rcases q' with g2 | g2
        · have hj := HST.out 4 x.f0 false x.f1 (by have := HL.out; rwa [szN_4 _ a1 g2] at this) (.inl (by omega)) d1 (by omega)
          rw [if_pos g2]
          have g2b : (x.f2 == 0) = true := beq_iff_eq.2 g2
          have HJ := Lib.hid hj
          clear g2 hj hne
          go_enter Tryd.func52, Tryd.ntmps52
          go_wp2_with fail
          refine HJ.out.mono ?_
          rintro e w1 ⟨rfl, fv1, hC1, ht1⟩
          go_wp2_with fail
          go_ret
          exact ⟨rfl, fv1, hC1, below_turn HBA.out ht1⟩
        · have hj := HST.out 5 x.f0 true x.f1 (by have := HL.out; rwa [szN_5 _ a1 g2] at this) (.inr rfl) d1 (by omega)
          rw [if_neg (by omega), if_pos g2]
          have g2b : (x.f2 == 0) = false := beq_eq_false_iff_ne.2 (by omega)
          have g3b : (x.f2 == 1) = true := beq_iff_eq.2 g2
          have HJ := Lib.hid hj
          clear g2 hj hne
          go_enter Tryd.func52, Tryd.ntmps52
          go_wp2_with fail
          refine HJ.out.mono ?_
          rintro e w1 ⟨rfl, fv1, hC1, ht1⟩
          go_wp2_with fail
          go_ret
          exact ⟨rfl, fv1, hC1, below_turn HBA.out ht1⟩
      · have g2b : (x.f2 == 0) = false := beq_eq_false_iff_ne.2 (by omega)
        have g3b : (x.f2 == 1) = false := beq_eq_false_iff_ne.2 (by omega)
        rw [if_neg (by omega), if_neg (by omega), if_neg (by omega)]
        have hL := HL.out
        rw [szN_7 _ a1 a2] at hL
        have n1 : 0 ≤ sdS (szS nodes k) 4 false x.f1 := by rw [sd_f]; have := szS_nn nodes k x.f1; split <;> omega
        have n2 : 0 ≤ sdS (szS nodes k) 4 true x.f2 := by rw [sd_t]; have := szS_nn nodes k x.f2; split <;> omega
        have ls1 := side_len (szS_nn nodes k) (bld_len nodes k) 4 x.f0 true x.f2 (f := f) (by omega)
        have hj := HST.out 4 x.f0 true x.f2 (by omega) (.inl (by omega)) d3 (by omega)
        obtain ⟨h1a, f1, e1⟩ : ∃ a f1, sideP (bldP nodes k) 4 x.f0 true x.f2 f = (a, f1) := ⟨_, _, rfl⟩
        rw [e1] at ls1 hj ⊢
        dsimp only at ls1 ⊢
        have ls2 := side_len (szS_nn nodes k) (bld_len nodes k) 4 x.f0 false x.f1 (f := f1) (by omega)
        obtain ⟨h2a, f2, e2⟩ : ∃ a f2, sideP (bldP nodes k) 4 x.f0 false x.f1 f1 = (a, f2) := ⟨_, _, rfl⟩
        have hj2 := fun fv1 w1 hC1 => HSD.out 4 x.f0 false x.f1 f1 fv1 w1 hC1 (by omega) (.inl (by omega)) d1 (by omega) (by omega)
        rw [e2] at ls2 hj2 ⊢
        dsimp only at ls2 ⊢
        have hf2 : f2.length ≤ 512 := by omega
        have HJ := Lib.hid hj
        have HJ2 := Lib.hid hj2
        clear hj hj2 e1 e2 ls1 ls2 n1 n2 hL hne
        go_enter Tryd.func52, Tryd.ntmps52
        go_wp2_with fail
        refine HJ.out.mono ?_
        rintro e w1 ⟨rfl, fv1, hC1, ht1⟩
        have hbx := ht1.blk (blk_new W _) (by have := HW.out.lt; omega) (by intro h; have := Kd.R_own HW.out.row; obtain ⟨cells, hcl⟩ := own_typed this.choose_spec _ h.symm; have := blk_lt hcl; omega)
        have y0 : w1.cell? ⟨W.heap.size, 0, none⟩ = some (.int .i64 x.f0) := (blk_cell hbx 0).trans rfl
        have y1 : w1.cell? ⟨W.heap.size, 1, none⟩ = some (.int .i64 x.f1) := (blk_cell hbx 1).trans rfl
        have hb2 := HJ2.out fv1 w1 hC1
        have HB2 := Lib.hid hb2
        have HT1 := Lib.hid (below_turn HBA.out ht1)
        clear hb2 ht1 hC1 hbx
        go_wp2_with fail
        refine HB2.out.mono ?_
        rintro e w2 ⟨rfl, fv2, hC2, ht2⟩
        have hp3 := wput_any w0 p _ root fv2 f2 5 0 h1a h2a w2 hC2 hf2
        have HP3 := Lib.hid hp3
        have HT2 := Lib.hid (HT1.out.trans ht2)
        clear hp3 hC2 ht2
        go_wp2_with fail
        refine HP3.out.mono ?_
        rintro e w3 ⟨rfl, fv3, hC3, ht3⟩
        go_wp2_with fail
        go_ret
        exact ⟨rfl, fv3, hC3, HT2.out.trans ht3⟩

theorem wnum_any (w0 : World) (p : Nat) (A : Option Addr) (c : Nat) (root : Int) (nodes : List Br) (hC0 : k74.C w0 A nodes.length nodes) (hc : nodes.length ≤ c) (hn : nodes.length < 4294967296) (hdn : Dn nodes) (hdf : Dif nodes) : ∀ k, NumC w0 p (.slice A nodes.length c) root nodes k := by
  intro k
  induction k with
  | zero => intro n f fv W _ _ h0 h1; exact absurd h1 (by omega)
  | succ k ih => exact num_step w0 p A c root nodes k hC0 hc hn hdn hdf ih
end Go.Proofs.YtgpnpfjbkaehlaaDoor.Wk
namespace Go.Proofs.YtgpnpfjbkaehlaaDoor.Wk
open Go.RowKit Go.Shelf Go.Lib Go.Maps Go.Proofs.YtgpnpfjbkaehlaaDoorW.PrintWords Go.Proofs.YtgpnpfjbkaehlaaDoorW.PrintLast Go.Proofs.YtgpnpfjbkaehlaaDoorW.PrintMore Go.Proofs.YtgpnpfjbkaehlaaDoor.Nt Go.Proofs.YtgpnpfjbkaehlaaDoor.Fm
set_option linter.unusedVariables false
set_option linter.unusedSimpArgs false

theorem lit_R (w : World) (ok : Nat → Prop) (hok : ok w.heap.size) : (Kd.int .i64).R 3 (w.alloc (.cells #[.int .i64 1, .int .i64 1] 3)) 0 ok (.slice (some ⟨w.heap.size, 0, none⟩) 2 2) [1, 1] := by
  refine ⟨fun k hk => ?_, [.int .i64 1, .int .i64 1], ?_, rfl, fun j p hj => ?_⟩
  · have : w.heap.size = k := by simpa [Value.ownBlock] using hk
    subst this
    exact hok
  · have h2 := World.ownsRow_lit (base := 0) (e := 3) (size := (Kd.int .i64).sz) w #[.int .i64 1, .int .i64 1] 2 (Nat.zero_le _) (by simp [maxLen]) (by rfl)
    simpa using h2
  · have hj2 : j < 2 := (List.getElem?_eq_some_iff.1 hj).1
    have : j = 0 ∨ j = 1 := by omega
    rcases this with rfl | rfl
    · injection hj with hj; subst hj; rfl
    · injection hj with hj; subst hj; rfl

theorem rd_is {r : List Int} {i : Int} {m : Nat} (h : i = (m : Int)) : rd r i = r.getD m 0 := by subst h; simp [rd]

/-- What the loop of sizes goes on. -/
def SzR (nodes : List Br) (w : World) (o : Obj) (kq : Nat) (v3 v4 : Value) (wr : World) : Prop :=
  ∃ (Ar : Option Addr) (cr j : Nat), v3 = .slice Ar (j + 2) cr ∧ v4 = .int .i64 j ∧
    Aside0 (j + kq = nodes.length ∧ Below w.heap.size w wr ∧ wr.heap[w.heap.size]? = some o ∧ (Kd.int .i64).R 3 wr 0 (fun k => w.heap.size < k) (.slice Ar (j + 2) cr) (szL nodes j))

/-- What sizes comes to. -/
def SzP (nodes : List Br) (w : World) (e : Ending) (w' : World) : Prop :=
  Below w.heap.size w w' ∧ ∃ A c, e = .returned (.slice A (nodes.length + 2) c) ∧ nodes.length + 2 ≤ c ∧ (Kd.int .i64).C w' A (nodes.length + 2) (szL nodes nodes.length)

theorem szL_hi {nodes : List Br} (hb : Dn nodes) {m : Nat} (hm : m ≤ nodes.length) {i : Nat} (hi : i < m + 2) : 0 ≤ (szL nodes m).getD i 0 ∧ (szL nodes m).getD i 0 ≤ 10000 := by
  rw [szL_get hb m hm i hi]
  have := szS_nn nodes (i + 1) i
  omega

theorem sz_next {nodes : List Br} {w wd w9 : World} {o o1 : Obj} {x : Br} {V : Int} {A : Option Addr} {g cap cr j gk : Nat} (hs : szL nodes (j + 1) = szL nodes j ++ [min (szN (fun i => (szL nodes j).getD i.toNat 0) x) 10000]) (hv : szN (fun i => (szL nodes j).getD i.toNat 0) x = V) (hll : (szL nodes j).length = j + 2)
    (hb : Below w.heap.size w wd) (ho : wd.heap[w.heap.size]? = some o) (hrd : (Kd.int .i64).R 3 wd 0 (fun k => w.heap.size < k) (.slice A (j + 2) cr) (szL nodes j)) (hg : (wd.alloc o1).grownBy w9 (Value.slice A (j + 2) cr).ownBlock) (hR : (Kd.int .i64).R 3 w9 0 (fun k => w.heap.size < k) (.slice (some ⟨g, 0, none⟩) ((szL nodes j).length + 1) cap) (szL nodes j ++ [min V 10000])) (hk : j + 1 + (gk - 1) = nodes.length) :
    SzR nodes w o (gk - 1) (.slice (some ⟨g, 0, none⟩) ((szL nodes j).length + 1) cap) (.int .i64 ((j : Int) + 1)) w9 := by
  refine ⟨some ⟨g, 0, none⟩, cap, j + 1, by rw [hll], rfl, ⟨hk, ?_, ?_, ?_⟩⟩
  · exact pw_below_grown (below_alloc hb _) _ (below_alloc hb _).size hg (fun q hq => Nat.le_of_lt (hrd.1 q hq))
  · exact blk_grown (blk_alloc ho _) hg (fun h => Nat.lt_irrefl _ (hrd.1 _ h.symm))
  · rw [hs, hv]; rw [hll] at hR; exact hR

set_option maxHeartbeats 4000000 in
set_option maxRecDepth 100000 in
theorem sizes_any (A : Option Addr) (c : Nat) (nodes : List Br) (root : Int) (w : World) (hC : k74.C w A nodes.length nodes) (hc : nodes.length ≤ c) (hl : nodes.length ≤ 4096) (hdn : Dn nodes) (hdf : Dif nodes) :
    Calls Tryd.prog 51 #[.agg #[.slice A nodes.length c, .int .i64 root]] w (SzP nodes w) := by
  have HC := Lib.hid hC
  have HDN := Lib.hid hdn
  clear hC hdn
  go_enter Tryd.func51, Tryd.ntmps51
  go_wp2_with fail
  go_loopg [3, 4] nodes.length (fun kq v3 v4 wr => SzR nodes w (.cells #[.slice A nodes.length c, .int .i64 root] 30 (0, 0)) kq v3 v4 wr)
  case atStart =>
    have hb := below_alloc (Below.refl w.heap.size w) (.cells #[.slice A nodes.length c, .int .i64 root] 30)
    refine ⟨some ⟨w.heap.size + 1, 0, none⟩, 2, 0, rfl, rfl, ⟨by omega, below_alloc hb _, blk_alloc (blk_new w _) _, ?_⟩⟩
    have := lit_R (w.alloc (.cells #[.slice A nodes.length c, .int .i64 root] 30)) (fun k => w.heap.size < k) (by simp)
    simpa [szL] using this
  case round =>
    obtain ⟨Ar, cr, j, rfl, rfl, HA⟩ := hrel
    have m0 : wr.cell? ⟨w.heap.size, 0, none⟩ = some (.slice A nodes.length c) := (blk_cell HA.out.2.2.1 0).trans rfl
    have hjk := HA.out.1
    by_cases hjl : j < nodes.length
    · have hji : (j : Int) < nodes.length := by omega
      obtain ⟨x, hx⟩ : ∃ x, nodes[j]? = some x := ⟨_, List.getElem?_eq_getElem hjl⟩
      obtain ⟨d1, d2, d3, d4⟩ := HDN.out j x hx
      have hsz : szL nodes (j + 1) = szL nodes j ++ [min (szN (fun i => (szL nodes j).getD i.toNat 0) x) 10000] := by rw [szL, hx]
      obtain ⟨ad, rfl, _, x0, x1, x2⟩ := at_br (Kd.C_below HC.out HA.out.2.1) hx
      have hll := szL_len nodes j (by omega)
      have hR := HA.out.2.2.2
      rw [← hll] at hR
      obtain ⟨A2, c2, hrs, hcr, hCr⟩ := Kd.R_reads hR
      injection hrs with q1 q2 q3
      subst q1 q3
      obtain ⟨adr, q4, r1⟩ := Kd.at_int hCr x.f1 d1 (by omega)
      obtain ⟨adr', q5, r2⟩ := Kd.at_int hCr x.f2 d3 (by omega)
      subst q4
      injection q5 with q5
      subst q5
      rw [rd_is (m := x.f1.toNat) (by omega)] at r1
      rw [rd_is (m := x.f2.toNat) (by omega)] at r2
      obtain ⟨b1, b1'⟩ := szL_hi HDN.out (show j ≤ nodes.length by omega) (show x.f1.toNat < j + 2 by omega)
      obtain ⟨b2, b2'⟩ := szL_hi HDN.out (show j ≤ nodes.length by omega) (show x.f2.toNat < j + 2 by omega)
      have hne := hdf _ x hx
      obtain ⟨y1, hy1⟩ : ∃ y, y = (szL nodes j).getD x.f1.toNat 0 := ⟨_, rfl⟩
      obtain ⟨y2, hy2⟩ : ∃ y, y = (szL nodes j).getD x.f2.toNat 0 := ⟨_, rfl⟩
      rw [← hy1] at r1 b1 b1'
      rw [← hy2] at r2 b2 b2'
      have HSZ := Lib.hid hsz
      have HY := Lib.hid (And.intro hy1 hy2)
      have HLL := Lib.hid hll
      have hlt := HA.out.2.1.size
      have hsp : (x.f1 = 0 ∧ x.f2 = 1) ∨ (x.f1 = 1 ∧ x.f2 = 0) ∨ (x.f1 = 0 ∧ 2 ≤ x.f2) ∨ (2 ≤ x.f1 ∧ x.f2 = 0) ∨ (2 ≤ x.f1 ∧ x.f2 = 1) ∨ (x.f1 = 1 ∧ 2 ≤ x.f2) ∨ (2 ≤ x.f1 ∧ 2 ≤ x.f2) := by omega
      have hbw := HA.out.2.1
      clear hCr hR hsz hy1 hy2 hll
      rcases hsp with ⟨g1, g2⟩ | ⟨g1, g2⟩ | ⟨g1, g2⟩ | ⟨g1, g2⟩ | ⟨g1, g2⟩ | ⟨g1, g2⟩ | ⟨g1, g2⟩
      · have hvl : szN (fun i => (szL nodes j).getD i.toNat 0) x = 1 := by
          unfold szN; dsimp only
          rw [← HY.out.1, ← HY.out.2]
          repeat' split
          all_goals omega
        have e10 : (x.f1 == 0) = true := beq_iff_eq.2 (by omega)
        have e21 : (x.f2 == 1) = true := beq_iff_eq.2 (by omega)
        have HVL := Lib.hid hvl
        clear g1 g2 hne hvl
        go_wp2_with fail
        go_quiet (fail)
        have hbd : Below wr.heap.size wr (wr.drewN nq) := pw_below_drewN (Below.refl _ _) _
        have hob := blk_below HA.out.2.2.1 (hbd.mono (Nat.le_refl _))
        have HRD := Lib.hid (Kd.R_below HA.out.2.2.2 hbd)
        have HBD := Lib.hid (HA.out.2.1.trans (hbd.mono hlt))
        have HOB := Lib.hid hob
        have r1d : (wr.drewN nq).cell? (adr.add x.f1.toNat) = some (.int .i64 y1) := by simpa using r1
        have r2d : (wr.drewN nq).cell? (adr.add x.f2.toNat) = some (.int .i64 y2) := by simpa using r2
        clear hbd hob
        generalize wr.drewN nq = wd at HRD HBD HOB r1d r2d ⊢
        have hltd := HBD.out.size
        have hlo := blk_lt HOB.out
        go_wp2_with (at_builtin; (refine list_append_R (Kd.int .i64) rfl (.tmp 84) (.tmp 87) 65 3 _ 8 rfl Tryd.underlying65 infoInt rfl (by decide) (.slice (some adr) (j + 2) cr) (szL nodes j) (min (1) 10000) [.int .i64 (min (1) 10000)] (fun k => w.heap.size < k) (fun _ => False) rfl ⟨wd.heap.size, 0, none⟩ rfl (new_cells0 _ _ _ _ rfl) rfl (fun _ h => h.elim) (by intro k hk; simp at hk; omega) (Kd.R_alloc HRD.out _) (by rw [HLL.out]; omega) (by decide) ?_); intro g cap w9 hR hg hat hlt9; have HR9 := Lib.hid hR; have HG9 := Lib.hid hg; clear hR hg hat)
        go_roundg (gk - 1)
        case measure => omega
        case rel => exact sz_next HSZ.out HVL.out HLL.out HBD.out HOB.out HRD.out HG9.out HR9.out (by omega)
      · have hvl : szN (fun i => (szL nodes j).getD i.toNat 0) x = 2 := by
          unfold szN; dsimp only
          rw [← HY.out.1, ← HY.out.2]
          repeat' split
          all_goals omega
        have e10 : (x.f1 == 0) = false := beq_eq_false_iff_ne.2 (by omega)
        have e11 : (x.f1 == 1) = true := beq_iff_eq.2 (by omega)
        have e20 : (x.f2 == 0) = true := beq_iff_eq.2 (by omega)
        have e21 : (x.f2 == 1) = false := beq_eq_false_iff_ne.2 (by omega)
        have HVL := Lib.hid hvl
        clear g1 g2 hne hvl
        go_wp2_with fail
        go_quiet (fail)
        have hbd : Below wr.heap.size wr (wr.drewN nq) := pw_below_drewN (Below.refl _ _) _
        have hob := blk_below HA.out.2.2.1 (hbd.mono (Nat.le_refl _))
        have HRD := Lib.hid (Kd.R_below HA.out.2.2.2 hbd)
        have HBD := Lib.hid (HA.out.2.1.trans (hbd.mono hlt))
        have HOB := Lib.hid hob
        have r1d : (wr.drewN nq).cell? (adr.add x.f1.toNat) = some (.int .i64 y1) := by simpa using r1
        have r2d : (wr.drewN nq).cell? (adr.add x.f2.toNat) = some (.int .i64 y2) := by simpa using r2
        clear hbd hob
        generalize wr.drewN nq = wd at HRD HBD HOB r1d r2d ⊢
        have hltd := HBD.out.size
        have hlo := blk_lt HOB.out
        go_wp2_with (at_builtin; (refine list_append_R (Kd.int .i64) rfl (.tmp 84) (.tmp 87) 65 3 _ 8 rfl Tryd.underlying65 infoInt rfl (by decide) (.slice (some adr) (j + 2) cr) (szL nodes j) (min (2) 10000) [.int .i64 (min (2) 10000)] (fun k => w.heap.size < k) (fun _ => False) rfl ⟨wd.heap.size, 0, none⟩ rfl (new_cells0 _ _ _ _ rfl) rfl (fun _ h => h.elim) (by intro k hk; simp at hk; omega) (Kd.R_alloc HRD.out _) (by rw [HLL.out]; omega) (by decide) ?_); intro g cap w9 hR hg hat hlt9; have HR9 := Lib.hid hR; have HG9 := Lib.hid hg; clear hR hg hat)
        go_roundg (gk - 1)
        case measure => omega
        case rel => exact sz_next HSZ.out HVL.out HLL.out HBD.out HOB.out HRD.out HG9.out HR9.out (by omega)
      · have hvl : szN (fun i => (szL nodes j).getD i.toNat 0) x = 2 + y2 := by
          unfold szN; dsimp only
          rw [← HY.out.1, ← HY.out.2]
          repeat' split
          all_goals omega
        have e10 : (x.f1 == 0) = true := beq_iff_eq.2 (by omega)
        have e11 : (x.f1 == 1) = false := beq_eq_false_iff_ne.2 (by omega)
        have e20 : (x.f2 == 0) = false := beq_eq_false_iff_ne.2 (by omega)
        have e21 : (x.f2 == 1) = false := beq_eq_false_iff_ne.2 (by omega)
        have HVL := Lib.hid hvl
        clear g1 g2 hne hvl
        go_wp2_with fail
        go_quiet (fail)
        have hbd : Below wr.heap.size wr (wr.drewN nq) := pw_below_drewN (Below.refl _ _) _
        have hob := blk_below HA.out.2.2.1 (hbd.mono (Nat.le_refl _))
        have HRD := Lib.hid (Kd.R_below HA.out.2.2.2 hbd)
        have HBD := Lib.hid (HA.out.2.1.trans (hbd.mono hlt))
        have HOB := Lib.hid hob
        have r1d : (wr.drewN nq).cell? (adr.add x.f1.toNat) = some (.int .i64 y1) := by simpa using r1
        have r2d : (wr.drewN nq).cell? (adr.add x.f2.toNat) = some (.int .i64 y2) := by simpa using r2
        clear hbd hob
        generalize wr.drewN nq = wd at HRD HBD HOB r1d r2d ⊢
        have hltd := HBD.out.size
        have hlo := blk_lt HOB.out
        go_wp2_with (at_builtin; (refine list_append_R (Kd.int .i64) rfl (.tmp 84) (.tmp 87) 65 3 _ 8 rfl Tryd.underlying65 infoInt rfl (by decide) (.slice (some adr) (j + 2) cr) (szL nodes j) (min (2 + y2) 10000) [.int .i64 (min (2 + y2) 10000)] (fun k => w.heap.size < k) (fun _ => False) rfl ⟨wd.heap.size, 0, none⟩ rfl (new_cells0 _ _ _ _ rfl) rfl (fun _ h => h.elim) (by intro k hk; simp at hk; omega) (Kd.R_alloc HRD.out _) (by rw [HLL.out]; omega) (by decide) ?_); intro g cap w9 hR hg hat hlt9; have HR9 := Lib.hid hR; have HG9 := Lib.hid hg; clear hR hg hat)
        go_roundg (gk - 1)
        case measure => omega
        case rel => exact sz_next HSZ.out HVL.out HLL.out HBD.out HOB.out HRD.out HG9.out HR9.out (by omega)
      · have hvl : szN (fun i => (szL nodes j).getD i.toNat 0) x = 3 + y1 := by
          unfold szN; dsimp only
          rw [← HY.out.1, ← HY.out.2]
          repeat' split
          all_goals omega
        have e10 : (x.f1 == 0) = false := beq_eq_false_iff_ne.2 (by omega)
        have e11 : (x.f1 == 1) = false := beq_eq_false_iff_ne.2 (by omega)
        have e20 : (x.f2 == 0) = true := beq_iff_eq.2 (by omega)
        have e21 : (x.f2 == 1) = false := beq_eq_false_iff_ne.2 (by omega)
        have HVL := Lib.hid hvl
        clear g1 g2 hne hvl
        go_wp2_with fail
        go_quiet (fail)
        have hbd : Below wr.heap.size wr (wr.drewN nq) := pw_below_drewN (Below.refl _ _) _
        have hob := blk_below HA.out.2.2.1 (hbd.mono (Nat.le_refl _))
        have HRD := Lib.hid (Kd.R_below HA.out.2.2.2 hbd)
        have HBD := Lib.hid (HA.out.2.1.trans (hbd.mono hlt))
        have HOB := Lib.hid hob
        have r1d : (wr.drewN nq).cell? (adr.add x.f1.toNat) = some (.int .i64 y1) := by simpa using r1
        have r2d : (wr.drewN nq).cell? (adr.add x.f2.toNat) = some (.int .i64 y2) := by simpa using r2
        clear hbd hob
        generalize wr.drewN nq = wd at HRD HBD HOB r1d r2d ⊢
        have hltd := HBD.out.size
        have hlo := blk_lt HOB.out
        go_wp2_with (at_builtin; (refine list_append_R (Kd.int .i64) rfl (.tmp 84) (.tmp 87) 65 3 _ 8 rfl Tryd.underlying65 infoInt rfl (by decide) (.slice (some adr) (j + 2) cr) (szL nodes j) (min (3 + y1) 10000) [.int .i64 (min (3 + y1) 10000)] (fun k => w.heap.size < k) (fun _ => False) rfl ⟨wd.heap.size, 0, none⟩ rfl (new_cells0 _ _ _ _ rfl) rfl (fun _ h => h.elim) (by intro k hk; simp at hk; omega) (Kd.R_alloc HRD.out _) (by rw [HLL.out]; omega) (by decide) ?_); intro g cap w9 hR hg hat hlt9; have HR9 := Lib.hid hR; have HG9 := Lib.hid hg; clear hR hg hat)
        go_roundg (gk - 1)
        case measure => omega
        case rel => exact sz_next HSZ.out HVL.out HLL.out HBD.out HOB.out HRD.out HG9.out HR9.out (by omega)
      · have hvl : szN (fun i => (szL nodes j).getD i.toNat 0) x = 2 + y1 := by
          unfold szN; dsimp only
          rw [← HY.out.1, ← HY.out.2]
          repeat' split
          all_goals omega
        have e10 : (x.f1 == 0) = false := beq_eq_false_iff_ne.2 (by omega)
        have e11 : (x.f1 == 1) = false := beq_eq_false_iff_ne.2 (by omega)
        have e20 : (x.f2 == 0) = false := beq_eq_false_iff_ne.2 (by omega)
        have e21 : (x.f2 == 1) = true := beq_iff_eq.2 (by omega)
        have HVL := Lib.hid hvl
        clear g1 g2 hne hvl
        go_wp2_with fail
        go_quiet (fail)
        have hbd : Below wr.heap.size wr (wr.drewN nq) := pw_below_drewN (Below.refl _ _) _
        have hob := blk_below HA.out.2.2.1 (hbd.mono (Nat.le_refl _))
        have HRD := Lib.hid (Kd.R_below HA.out.2.2.2 hbd)
        have HBD := Lib.hid (HA.out.2.1.trans (hbd.mono hlt))
        have HOB := Lib.hid hob
        have r1d : (wr.drewN nq).cell? (adr.add x.f1.toNat) = some (.int .i64 y1) := by simpa using r1
        have r2d : (wr.drewN nq).cell? (adr.add x.f2.toNat) = some (.int .i64 y2) := by simpa using r2
        clear hbd hob
        generalize wr.drewN nq = wd at HRD HBD HOB r1d r2d ⊢
        have hltd := HBD.out.size
        have hlo := blk_lt HOB.out
        go_wp2_with (at_builtin; (refine list_append_R (Kd.int .i64) rfl (.tmp 84) (.tmp 87) 65 3 _ 8 rfl Tryd.underlying65 infoInt rfl (by decide) (.slice (some adr) (j + 2) cr) (szL nodes j) (min (2 + y1) 10000) [.int .i64 (min (2 + y1) 10000)] (fun k => w.heap.size < k) (fun _ => False) rfl ⟨wd.heap.size, 0, none⟩ rfl (new_cells0 _ _ _ _ rfl) rfl (fun _ h => h.elim) (by intro k hk; simp at hk; omega) (Kd.R_alloc HRD.out _) (by rw [HLL.out]; omega) (by decide) ?_); intro g cap w9 hR hg hat hlt9; have HR9 := Lib.hid hR; have HG9 := Lib.hid hg; clear hR hg hat)
        go_roundg (gk - 1)
        case measure => omega
        case rel => exact sz_next HSZ.out HVL.out HLL.out HBD.out HOB.out HRD.out HG9.out HR9.out (by omega)
      · have hvl : szN (fun i => (szL nodes j).getD i.toNat 0) x = 3 + y2 := by
          unfold szN; dsimp only
          rw [← HY.out.1, ← HY.out.2]
          repeat' split
          all_goals omega
        have e10 : (x.f1 == 0) = false := beq_eq_false_iff_ne.2 (by omega)
        have e11 : (x.f1 == 1) = true := beq_iff_eq.2 (by omega)
        have e20 : (x.f2 == 0) = false := beq_eq_false_iff_ne.2 (by omega)
        have e21 : (x.f2 == 1) = false := beq_eq_false_iff_ne.2 (by omega)
        have HVL := Lib.hid hvl
        clear g1 g2 hne hvl
        go_wp2_with fail
        go_quiet (fail)
        have hbd : Below wr.heap.size wr (wr.drewN nq) := pw_below_drewN (Below.refl _ _) _
        have hob := blk_below HA.out.2.2.1 (hbd.mono (Nat.le_refl _))
        have HRD := Lib.hid (Kd.R_below HA.out.2.2.2 hbd)
        have HBD := Lib.hid (HA.out.2.1.trans (hbd.mono hlt))
        have HOB := Lib.hid hob
        have r1d : (wr.drewN nq).cell? (adr.add x.f1.toNat) = some (.int .i64 y1) := by simpa using r1
        have r2d : (wr.drewN nq).cell? (adr.add x.f2.toNat) = some (.int .i64 y2) := by simpa using r2
        clear hbd hob
        generalize wr.drewN nq = wd at HRD HBD HOB r1d r2d ⊢
        have hltd := HBD.out.size
        have hlo := blk_lt HOB.out
        go_wp2_with (at_builtin; (refine list_append_R (Kd.int .i64) rfl (.tmp 84) (.tmp 87) 65 3 _ 8 rfl Tryd.underlying65 infoInt rfl (by decide) (.slice (some adr) (j + 2) cr) (szL nodes j) (min (3 + y2) 10000) [.int .i64 (min (3 + y2) 10000)] (fun k => w.heap.size < k) (fun _ => False) rfl ⟨wd.heap.size, 0, none⟩ rfl (new_cells0 _ _ _ _ rfl) rfl (fun _ h => h.elim) (by intro k hk; simp at hk; omega) (Kd.R_alloc HRD.out _) (by rw [HLL.out]; omega) (by decide) ?_); intro g cap w9 hR hg hat hlt9; have HR9 := Lib.hid hR; have HG9 := Lib.hid hg; clear hR hg hat)
        go_roundg (gk - 1)
        case measure => omega
        case rel => exact sz_next HSZ.out HVL.out HLL.out HBD.out HOB.out HRD.out HG9.out HR9.out (by omega)
      · have hvl : szN (fun i => (szL nodes j).getD i.toNat 0) x = y1 + y2 + 6 := by
          unfold szN; dsimp only
          rw [← HY.out.1, ← HY.out.2]
          repeat' split
          all_goals omega
        have e10 : (x.f1 == 0) = false := beq_eq_false_iff_ne.2 (by omega)
        have e11 : (x.f1 == 1) = false := beq_eq_false_iff_ne.2 (by omega)
        have e20 : (x.f2 == 0) = false := beq_eq_false_iff_ne.2 (by omega)
        have e21 : (x.f2 == 1) = false := beq_eq_false_iff_ne.2 (by omega)
        have HVL := Lib.hid hvl
        clear g1 g2 hne hvl
        go_wp2_with fail
        go_quiet (fail)
        have hbd : Below wr.heap.size wr (wr.drewN nq) := pw_below_drewN (Below.refl _ _) _
        have hob := blk_below HA.out.2.2.1 (hbd.mono (Nat.le_refl _))
        have HRD := Lib.hid (Kd.R_below HA.out.2.2.2 hbd)
        have HBD := Lib.hid (HA.out.2.1.trans (hbd.mono hlt))
        have HOB := Lib.hid hob
        have r1d : (wr.drewN nq).cell? (adr.add x.f1.toNat) = some (.int .i64 y1) := by simpa using r1
        have r2d : (wr.drewN nq).cell? (adr.add x.f2.toNat) = some (.int .i64 y2) := by simpa using r2
        clear hbd hob
        generalize wr.drewN nq = wd at HRD HBD HOB r1d r2d ⊢
        have hltd := HBD.out.size
        have hlo := blk_lt HOB.out
        go_wp2_with (at_builtin; (refine list_append_R (Kd.int .i64) rfl (.tmp 84) (.tmp 87) 65 3 _ 8 rfl Tryd.underlying65 infoInt rfl (by decide) (.slice (some adr) (j + 2) cr) (szL nodes j) (min (y1 + y2 + 6) 10000) [.int .i64 (min (y1 + y2 + 6) 10000)] (fun k => w.heap.size < k) (fun _ => False) rfl ⟨wd.heap.size, 0, none⟩ rfl (new_cells0 _ _ _ _ rfl) rfl (fun _ h => h.elim) (by intro k hk; simp at hk; omega) (Kd.R_alloc HRD.out _) (by rw [HLL.out]; omega) (by decide) ?_); intro g cap w9 hR hg hat hlt9; have HR9 := Lib.hid hR; have HG9 := Lib.hid hg; clear hR hg hat)
        go_roundg (gk - 1)
        case measure => omega
        case rel => exact sz_next HSZ.out HVL.out HLL.out HBD.out HOB.out HRD.out HG9.out HR9.out (by omega)
    · have hje : j = nodes.length := by omega
      have hji : ¬ ((j : Int) < nodes.length) := by omega
      subst hje
      go_wp2_with fail
      go_ret
      have hR := HA.out.2.2.2
      rw [← szL_len nodes nodes.length (Nat.le_refl _)] at hR
      obtain ⟨A2, c2, hrs, hcr, hCr⟩ := Kd.R_reads hR
      injection hrs with q1 q2 q3
      subst q1 q3
      rw [szL_len nodes nodes.length (Nat.le_refl _)] at hcr hCr
      exact ⟨HA.out.2.1, _, _, rfl, hcr, hCr⟩
end Go.Proofs.YtgpnpfjbkaehlaaDoor.Wk
namespace Go.Proofs.YtgpnpfjbkaehlaaDoor.Wk
open Go.RowKit Go.Shelf Go.Lib Go.Maps Go.Proofs.YtgpnpfjbkaehlaaDoorW.PrintWords Go.Proofs.YtgpnpfjbkaehlaaDoorW.PrintLast Go.Proofs.YtgpnpfjbkaehlaaDoorW.PrintMore Go.Proofs.YtgpnpfjbkaehlaaDoor.Nt Go.Proofs.YtgpnpfjbkaehlaaDoor.Fm
set_option linter.unusedVariables false
set_option linter.unusedSimpArgs false

theorem okD_dif {nodes : List Br} (h : okD nodes nodes.length = true) : Dif nodes := by
  intro i x hx
  have := okD_at h i x (List.getElem?_eq_some_iff.1 hx).1 hx
  simp only [okBr, Bool.and_eq_true] at this
  have h1 : okA i x := of_decide_eq_true this.1.1.1
  exact h1.2.2.2.2.2.2

set_option maxHeartbeats 4000000 in
set_option maxRecDepth 100000 in
theorem rof_any (A : Option Addr) (c : Nat) (nodes : List Br) (root : Int) (w : World) (hC : k74.C w A nodes.length nodes) (hc : nodes.length ≤ c) (hl : nodes.length ≤ 4096) :
    Calls Tryd.prog 21 #[.agg #[.slice A nodes.length c, .int .i64 root]] w (ParP w (ofP nodes root)) := by
  have hck := rcheck_any A c nodes root _ (Kd.C_alloc hC (.cells #[.slice A nodes.length c, .int .i64 root] 30)) hc
  have HCK := Lib.hid hck
  have HC := Lib.hid hC
  clear hck hC
  by_cases h0 : dgC nodes root = 0
  · have h0b : (dgC nodes root == 0) = true := beq_iff_eq.2 h0
    obtain ⟨_, hok, hr0, hr1, _, _⟩ := dgC_0 h0
    have hdn := okD_dn hok
    have hdf := okD_dif hok
    rw [ofP_size hdn h0]
    have hzl := szL_len nodes nodes.length (Nat.le_refl _)
    obtain ⟨y, hy⟩ : ∃ y, y = (szL nodes nodes.length).getD root.toNat 0 := ⟨_, rfl⟩
    rw [← hy]
    obtain ⟨q, hq⟩ : ∃ q, q = if 512 < y then ([], 2) else ((bldP nodes (nodes.length + 2) root []).2, (0 : Int)) := ⟨_, rfl⟩
    rw [← hq]
    have HY := Lib.hid hy
    have HQ := Lib.hid hq
    clear hq
    have hr1' : root < ((nodes.length + 2 : Nat) : Int) := by omega
    have hr1'' : root < (nodes.length : Int) + 2 := by omega
    clear hy hok
    go_enter Tryd.func21, Tryd.ntmps21
    go_wp2_with fail
    refine HCK.out.mono ?_
    rintro e w1 ⟨he, hb1⟩
    rw [h0] at he
    subst he
    have hb1' : Below w.heap.size w w1 := (below_alloc (Below.refl _ _) _).trans (hb1.mono (by simp))
    have hbk := blk_below (blk_new w (.cells #[.slice A nodes.length c, .int .i64 root] 30)) hb1
    have hlt1 := blk_lt hbk
    have m0 : w1.cell? ⟨w.heap.size, 0, none⟩ = some (.slice A nodes.length c) := (blk_cell hbk 0).trans rfl
    have m1 : w1.cell? ⟨w.heap.size, 1, none⟩ = some (.int .i64 root) := (blk_cell hbk 1).trans rfl
    have HS : Hid (∀ w2, Below w1.heap.size w1 w2 → w2.cell? ⟨w.heap.size, 0, none⟩ = some (.slice A nodes.length c) ∧ w2.cell? ⟨w.heap.size, 1, none⟩ = some (.int .i64 root)) := Lib.hid (fun w2 hb => ⟨((bcell hb).1 _ 0 hlt1).trans m0, ((bcell hb).1 _ 1 hlt1).trans m1⟩)
    have HSZ := Lib.hid (fun W (hb : Below w1.heap.size w1 W) => sizes_any A c nodes root W (Kd.C_below HC.out (hb1'.trans (hb.mono hb1'.size))) hc hl hdn hdf)
    have HBL := Lib.hid (below_drew (Below.refl w1.heap.size w1))
    have HB1 := Lib.hid hb1'
    have HBK := Lib.hid hbk
    have HD := Lib.hid (And.intro hdn hdf)
    clear hb1 hb1' hbk h0 h0b hdn hdf m0 m1
    go_wp2_with fail
    have hcd : w1.drew.cell? ⟨w.heap.size, 0, none⟩ = some (.slice A nodes.length c) := (HS.out _ HBL.out).1
    have hcd1 : w1.drew.cell? ⟨w.heap.size, 1, none⟩ = some (.int .i64 root) := (HS.out _ HBL.out).2
    go_region_with (go_at_call 51; refine (HSZ.out _ HBL.out).mono ?_; rintro e w2 ⟨hb2, A2, c2, rfl, hc2, hC2⟩; obtain ⟨ad2, rfl, hcl⟩ := Kd.at_int hC2 root hr0 hr1'; rw [rd_is (m := root.toNat) (by omega), ← HY.out] at hcl; replace HBL := Lib.hid (HBL.out.trans (hb2.mono HBL.out.size)); have k2 := HS.out _ HBL.out; have k20 := k2.1; have k21 := k2.2; clear hb2 hC2 k2)
    all_goals
      have HB2 := Lib.hid (HB1.out.trans (HBL.out.mono HB1.out.size))
      have HK2 := Lib.hid (blk_below HBK.out HBL.out)
      by_cases h5 : 512 < y
      · have HQ2 := Lib.hid (HQ.out.trans (if_pos h5))
        clear k20 k21
        go_wp2_with fail
        go_ret2
        rw [HQ2.out]
        exact ⟨HB2.out, none, 0, rfl, Nat.le_refl _, Kd.C_nil _ _⟩
      · have HQ2 := Lib.hid (HQ.out.trans (if_neg h5))
        have hs := szS_root HD.out.1 hr0 hr1'' (by rw [← HY.out]; exact h5)
        have hwr : Wr w2 (w2.alloc (.cells #[.slice A nodes.length c, .int .i64 root, .slice none 0 0] 94)) w2.heap.size (.slice A nodes.length c) root (.slice none 0 0) [] := ⟨below_alloc (Below.refl _ _) _, Nat.le_refl _, blk_new _ _, Kd.R_nil _ _ _ _ _⟩
        have hnm := wnum_any w2 w2.heap.size A c root nodes (Kd.C_below HC.out HB2.out) hc (by omega) HD.out.1 HD.out.2 (nodes.length + 2) root [] _ _ hwr (by simpa using hs) hr0 (by omega) (by omega)
        have k22 : (w2.alloc (.cells #[.slice A nodes.length c, .int .i64 root, .slice none 0 0] 94)).cell? ⟨w.heap.size, 1, none⟩ = some (.int .i64 root) := (blk_cell (blk_alloc HK2.out _) 1).trans rfl
        have HNM := Lib.hid hnm
        clear hnm hwr hs
        go_wp2_with fail
        refine HNM.out.mono ?_
        rintro e w3 ⟨rfl, fv3, hC3, ht3⟩
        obtain ⟨A3, c3, rfl, hc3, hC3'⟩ := Kd.R_reads hC3.row
        have f2 : w3.cell? ⟨w2.heap.size, 2, none⟩ = some (.slice A3 (bldP nodes (nodes.length + 2) root []).2.length c3) := (blk_cell hC3.obj 2).trans rfl
        have HC3 := Lib.hid hC3'
        have HBW := Lib.hid (HB2.out.trans (hC3.bel.mono HB2.out.size))
        clear hC3 hC3' ht3
        go_wp2_with fail
        go_ret2
        rw [HQ2.out]
        exact ⟨HBW.out, A3, c3, rfl, hc3, HC3.out⟩
  · rw [ofP_no h0]
    have h0b : (dgC nodes root == 0) = false := beq_eq_false_iff_ne.2 h0
    go_enter Tryd.func21, Tryd.ntmps21
    go_wp2_with fail
    refine HCK.out.mono ?_
    rintro e w1 ⟨rfl, hb1⟩
    go_wp2_with fail
    go_ret2
    exact ⟨(below_alloc (Below.refl _ _) _).trans (hb1.mono (by simp)), none, 0, rfl, Nat.le_refl _, Kd.C_nil _ _⟩

set_option maxHeartbeats 4000000 in
set_option maxRecDepth 100000 in
/-- AnyDiagram, walked. -/
theorem anydiagram_any (A : Option Addr) (c : Nat) (nodes : List Br) (root : Int) (w : World) (hC : k74.C w A nodes.length nodes) (hc : nodes.length ≤ c) :
    Calls Tryd.prog 5 #[.agg #[.slice A nodes.length c, .int .i64 root]] w (LawP w) := by
  have HC := Lib.hid hC
  clear hC
  by_cases hl : nodes.length ≤ 12
  · have hli : ¬ ((12 : Int) < nodes.length) := by omega
    obtain ⟨q, hq⟩ : ∃ q, q = ofP nodes root := ⟨_, rfl⟩
    have HQ := Lib.hid hq
    have hgl : q.1.length ≤ 513 := by
      rw [hq, ofP]
      split
      · simp
      · dsimp only; split
        · simp
        · exact bld_le nodes _ root [] (by simp)
    have hd : (dgC nodes root = 0 ∧ (q.2 = 0 ∨ q.2 = 2)) ∨ (dgC nodes root = 20 ∧ q.2 = 20) := by
      rw [hq]
      rcases dgC_cases nodes root with h | h | h
      · left
        rw [ofP_yes h]
        split
        · exact ⟨h, .inr rfl⟩
        · exact ⟨h, .inl rfl⟩
      · unfold dgC at h
        rw [if_neg (by omega)] at h
        split at h <;> cases h
      · right
        rw [ofP_no (by rw [h]; decide)]
        exact ⟨h, h⟩
    obtain ⟨g, eq⟩ := q
    dsimp only at hgl hd
    clear hq
    go_enter Tryd.func5, Tryd.ntmps5
    go_wp2_with fail
    refine (sanity_any _).mono ?_
    rintro e w1 ⟨rfl, hb1⟩
    have hbk := blk_below (blk_new w (.cells #[.slice A nodes.length c, .int .i64 root] 30)) hb1
    have m0 : w1.cell? ⟨w.heap.size, 0, none⟩ = some (.slice A nodes.length c) := (blk_cell hbk 0).trans rfl
    have m1 : w1.cell? ⟨w.heap.size, 1, none⟩ = some (.int .i64 root) := (blk_cell hbk 1).trans rfl
    have HK1 := Lib.hid hbk
    have HB1 := Lib.hid ((below_alloc (Below.refl w.heap.size w) (.cells #[.slice A nodes.length c, .int .i64 root] 30)).trans (hb1.mono (by simp)))
    clear hb1 hbk
    go_wp2_with fail
    have hof := of_any A c nodes root w1 (Kd.C_below HC.out HB1.out) hc
    rw [← HQ.out] at hof
    refine hof.mono ?_
    rintro e w2 ⟨hb2, Af, cf, rfl, hcf, hCf⟩
    dsimp only at hcf hCf
    have hbk := blk_below HK1.out hb2
    have m0 : w2.cell? ⟨w.heap.size, 0, none⟩ = some (.slice A nodes.length c) := (blk_cell hbk 0).trans rfl
    have m1 : w2.cell? ⟨w.heap.size, 1, none⟩ = some (.int .i64 root) := (blk_cell hbk 1).trans rfl
    have HK2 := Lib.hid hbk
    have HB2 := Lib.hid (bth HB1.out hb2)
    have HCF := Lib.hid hCf
    clear hb2 hbk hof hCf HK1 HB1
    go_wp2_with fail
    have hrof := rof_any A c nodes root w2 (Kd.C_below HC.out HB2.out) hc (by omega)
    rw [← HQ.out] at hrof
    refine hrof.mono ?_
    rintro e w3 ⟨hb3, Ag, cg, rfl, hcg, hCg⟩
    dsimp only at hcg hCg
    have hbk := blk_below HK2.out hb3
    have m0 : w3.cell? ⟨w.heap.size, 0, none⟩ = some (.slice A nodes.length c) := (blk_cell hbk 0).trans rfl
    have m1 : w3.cell? ⟨w.heap.size, 1, none⟩ = some (.int .i64 root) := (blk_cell hbk 1).trans rfl
    have HK3 := Lib.hid hbk
    have HB3 := Lib.hid (bth HB2.out hb3)
    have HCF3 := Lib.hid (Kd.C_below HCF.out hb3)
    have HCG := Lib.hid hCg
    clear hb3 hbk hrof hCg HK2 HB2 HCF
    go_wp2_with fail
    refine (koineref03_Same.calls _ Af cf g Ag cg g true w3 HCF3.out hcf HCG.out hcg ((fn_same g g (by omega)).trans (by rw [decide_eq_true rfl]))).mono ?_
    rintro e w4 ⟨rfl, hd4⟩
    have hb4 := drawn_below hd4
    have hbk := blk_below HK3.out hb4
    have m0 : w4.cell? ⟨w.heap.size, 0, none⟩ = some (.slice A nodes.length c) := (blk_cell hbk 0).trans rfl
    have m1 : w4.cell? ⟨w.heap.size, 1, none⟩ = some (.int .i64 root) := (blk_cell hbk 1).trans rfl
    have HB4 := Lib.hid (bth HB3.out hb4)
    have hck := dcheck_any A c nodes root w4 (Kd.C_below HC.out HB4.out) hc
    have HCK := Lib.hid hck
    have HD := Lib.hid hd
    clear hck hb4 hbk hd4 hd HK3 HB3
    go_wp2_with fail
    refine HCK.out.mono ?_
    rintro e w5 ⟨rfl, hb5⟩
    have HB5 := Lib.hid (bth HB4.out hb5)
    clear hb5
    rcases HD.out with ⟨h1, h2 | h2⟩ | ⟨h1, h2⟩
    all_goals
      rw [h1]
      subst h2
      clear h1
      go_wp2_with fail
      go_ret
      exact ⟨rfl, HB5.out⟩
  · have hli : ((12 : Int) < nodes.length) := by omega
    go_enter Tryd.func5, Tryd.ntmps5
    go_wp2_with fail
    refine (sanity_any _).mono ?_
    rintro e w1 ⟨rfl, hb1⟩
    have hbk := blk_below (blk_new w (.cells #[.slice A nodes.length c, .int .i64 root] 30)) hb1
    have m0 : w1.cell? ⟨w.heap.size, 0, none⟩ = some (.slice A nodes.length c) := (blk_cell hbk 0).trans rfl
    have HB1 := Lib.hid ((below_alloc (Below.refl w.heap.size w) (.cells #[.slice A nodes.length c, .int .i64 root] 30)).trans (hb1.mono (by simp)))
    clear hb1 hbk
    go_wp2_with fail
    go_ret
    exact ⟨rfl, HB1.out⟩
end Go.Proofs.YtgpnpfjbkaehlaaDoor.Wk
namespace Go.Proofs.YtgpnpfjbkaehlaaDoor.Rw
open Go.ChangeShapes Go.WideShapes Go.ChangeAt Go.RowKit Go.Deep Go.Proofs.YtgpnpfjbkaehlaaDoorW.PrintWords Go.Proofs.YtgpnpfjbkaehlaaDoor.Wk Go.Proofs.YtgpnpfjbkaehlaaDoor.Nt Go.Proofs.YtgpnpfjbkaehlaaDoor.Fm
set_option linter.unusedVariables false

/-- The number in a cell. -/
def cellInt (w : World) (a : Addr) : Int := match w.cell? a with | some (.int .i64 n) => n | _ => 0

theorem row_ints {H : Type} {enc : TypeId × Value → H} {P : Program} {w : World} {base : Nat} {spare : Nat → Bool} {held : Bool} {t e : TypeId} {fs : Array Field} {fuel : Nat} {cs : List Value} {x : DataW H × List MemPlace}
    (ht : P.underlying t = some (.slice e)) (he : P.underlying e = some (.struct fs)) (hC : P.cellsOf e = fs.size)
    (hfs : ∀ j, j < fs.size → ∃ f, fs[j]? = some f ∧ f.offset = j ∧ P.underlying f.type = some (.int .i64) ∧ P.cellsOf f.type = 1)
    (h : DataW.trod enc P w base spare held fuel t cs = some x) :
    cs = [.slice none 0 0] ∨ ∃ a len cap, cs = [.slice (some a) len cap] ∧ len ≤ cap ∧ cap ≤ maxLen ∧ ∀ i, i < len → ∀ j, j < fs.size → w.cell? (a.add (i * fs.size + j)) = some (.int .i64 (cellInt w (a.add (i * fs.size + j)))) := by
  rcases open_slice ht h with ⟨h0, _⟩ | ⟨a, len, cap, m, n, D, Pl, hcs, _, hl, hm, hmm, _, hi⟩
  · exact .inl h0
  · refine .inr ⟨a, len, cap, hcs, hl, hm, fun i hil j hj => ?_⟩
    have him : i < m := by rw [hmm]; split <;> omega
    obtain ⟨cs', h1, h2⟩ := hi i him
    rw [hC] at h1
    obtain ⟨_, hlen, hcell⟩ := World.cells?_some h1
    obtain ⟨xs, k, _, _, _, hxl, hf⟩ := DataW.trod_struct he h2
    obtain ⟨f, hfj, ho, hu, hc⟩ := hfs j hj
    have h3 := hf j f hfj
    rw [ho, hc, List.getElem?_eq_getElem (show j < xs.length by omega)] at h3
    obtain ⟨q, hq, _⟩ := DataW.trod_int hu h3
    have h4 := hcell j hj
    rw [Go.Deep.add_add] at h4
    have h5 : cs'[j]? = some (.int .i64 q) := by
      have h6 : ((cs'.drop j).take 1)[0]? = some (.int .i64 q) := by rw [hq]; rfl
      rw [List.getElem?_take, if_pos (by omega), List.getElem?_drop] at h6
      exact h6
    rw [h5] at h4
    rw [h4, cellInt, h4]

/-- A slice of branches that came in. -/
theorem brs_of {H : Type} {enc : TypeId × Value → H} {w : World} {base : Nat} {spare : Nat → Bool} {held : Bool} {fuel : Nat} {v : Value} {x : DataW H × List MemPlace} (h : DataW.trod enc Tryd.prog w base spare held fuel 28 [v] = some x) :
    ∃ (A : Option Addr) (c : Nat) (l : List Br), v = .slice A l.length c ∧ l.length ≤ c ∧ k74.C w A l.length l := by
  rcases row_ints Tryd.underlying28 Tryd.underlying74 (by kernel_rfl) (by
    intro j hj
    match j, hj with
    | 0, _ => exact ⟨_, rfl, rfl, Tryd.underlying3, by kernel_rfl⟩
    | 1, _ => exact ⟨_, rfl, rfl, Tryd.underlying3, by kernel_rfl⟩
    | 2, _ => exact ⟨_, rfl, rfl, Tryd.underlying3, by kernel_rfl⟩) h with hv | ⟨a, len, cap, hv, hl, hm, hc⟩
  · injection hv with hv
    subst hv
    exact ⟨none, 0, [], rfl, Nat.le_refl _, Kd.C_nil _ _⟩
  · injection hv with hv
    subst hv
    refine ⟨some a, cap, (List.range len).map fun i => ⟨cellInt w (a.add (i * 3)), cellInt w (a.add (i * 3 + 1)), cellInt w (a.add (i * 3 + 2))⟩, by simp, by simpa using hl, ?_⟩
    unfold maxLen at hm
    refine ⟨rfl, by simp; omega, fun _ => ⟨a, rfl, fun j p hp => ?_⟩⟩
    obtain ⟨hj1, hj2⟩ := List.getElem?_eq_some_iff.1 hp
    have hj : j < len := by simpa using hj1
    simp only [List.getElem_map, List.getElem_range] at hj2
    subst hj2
    refine ⟨_, rfl, k74_mk _ _, fun i u hu => ?_⟩
    match i, hu with
    | 0, hu => simp only [List.getElem?_cons_zero, Option.some.injEq] at hu; subst hu; exact hc j hj 0 (by decide)
    | 1, hu => simp at hu; subst hu; exact hc j hj 1 (by decide)
    | 2, hu => simp at hu; subst hu; exact hc j hj 2 (by decide)
end Go.Proofs.YtgpnpfjbkaehlaaDoor.Rw
