/- The machine side of the laws on natural numbers: for each Go function a Lean function with the same answers, and the walk that shows it. It began as the print of print.sh (turned to one namespace, copy told as a law of our own, mended); Lean checks it. -/
import Derived.Test.YtpalpikenkkhlaaProg
import Derived.Below
import Derived.Deep.Draws
import Derived.Deep.AppendLies
import Derived.Maps.AppendAt
import Derived.OwnWalk
import Derived.Laws.BytesArg
import Derived.Laws.MakeOwn
import Derived.Laws.OwnMore
import Derived.Deep.OwnRows
import Derived.Tactics
import Derived.Lib.ConvBytes
import Derived.Laws.Slices
import Derived.WalkKit
import Derived.KernelRfl
import Derived.RowKit3
import Derived.Deep.LoopGhost
import Derived.Deep.QuietTactic
import Derived.BigQuiet
import Derived.WideLaws
import Derived.Deep.DeepCutAuto
import Derived.Deep.CutBlock
import Derived.Deep.RegionHeld3
import Derived.Laws.Rows
import Derived.Lib.AppendStr
import Derived.ArgAppend
import Derived.Laws.IdiomCopy
import Derived.OrdersHeld
import Derived.Laws.BitsLemmas
import Derived.RowKit
import Derived.Test.YtpalpikenkkhlaaNtW
import Derived.Laws.CopyOwn
namespace Go.Proofs.Ytpalpikenkkhlaa.Nt
open Go.RowKit Go.Proofs.YtpalpikenkkhlaaW.PrintWords Go.Proofs.YtpalpikenkkhlaaW.PrintLast Go.Proofs.YtpalpikenkkhlaaW.PrintMore
attribute [local go_sem] max2_int min2_int max_two min_two max_three min_three max_four min_four   -- for this text's walks alone
set_option linter.unusedVariables false
set_option linter.unusedSimpArgs false




def errW : Option Int → Value
  | none => .nilIface
  | some c => .iface 0 (.int .i64 c)
theorem errW_none : errW none = .nilIface := rfl
theorem errW_some (c : Int) : errW (some c) = .iface 0 (.int .i64 c) := rfl

theorem info3 : (Try.prog.info? 3).map (fun i => (i.zero, i.size, i.bytes)) = some (some (.int .i64 0), 1, 8) := by kernel_rfl
theorem info5 : (Try.prog.info? 5).map (fun i => (i.zero, i.size, i.bytes)) = some (some (.int .u8 0), 1, 1) := by kernel_rfl
theorem info35 : (Try.prog.info? 35).map (fun i => (i.zero, i.size, i.bytes)) = some (some (.int .u32 0), 1, 4) := by kernel_rfl
-- the values' own types
/-- What 'copy(dst, src)' leaves in dst. -/
def copy_in.f (_ : Nat) (dst src : List Int) : Option (List Int) := some (src.take dst.length ++ dst.drop src.length)
theorem copy_in.mono : ∀ (a0 a1 : List Int) k, LeO (copy_in.f k a0 a1) (copy_in.f (k + 1) a0 a1) := fun _ _ _ _ h => h

section
variable {P : Program} {ops : Array Oper} {rest : List Oper} {o : Oper} {a : Act} {Q : Exit → Act → World → Prop}
/-- The builtin copy into a row of the call's own, out of a slice that is read. -/
theorem copy_in.law {k : IntKind} {e t : TypeId} {w0 W : World} {base : Nat} (hgd : o.guard = none) (s x : Operand) (ho : o.op = .call { callee := .builtin .copy, args := #[s, x], argTypes := #[t, t] })
    (ht : P.underlying t = some (.slice e)) (hsz : (P.info? e).map (·.size) = some 1) (A0 : Option Addr) (n0 c0 : Nat) (A : Option Addr) (n c : Nat) (xs ys r : List Int) (kk : Nat) (ok : Nat → Prop)
    (hs : a.eval s = .slice A0 n0 c0) (hx : a.eval x = .slice A n c)
    (HO : (Kd.int k).R e W base ok (.slice A0 n0 c0) xs) (HC : (Kd.int k).C W A n ys) (hr : copy_in.f kk xs ys = some r) (HB : Below base w0 W)
    (h : ∀ w1 m, (Kd.int k).R e w1 base ok (.slice A0 n0 c0) r → Below base w0 w1 → Kept W w1 (fun k_ => some k_ = (.slice A0 n0 c0 : Value).ownBlock) → wpList P ops Q rest (a.put o.dst (goInt m)) w1) : wpList P ops Q (o :: rest) a W := by
  have hR : ReadsOf (Value.int k) 0 W A n ys := Kd.reads_of_C (d := (0 : Int)) HC
  have hown := Kd.own_of_R HO
  obtain ⟨hn0, _, _⟩ := Kd.R_reads' HO
  simp only [copy_in.f, Option.some.injEq] at hr
  obtain ⟨hyl, _, hcell⟩ := hR
  rcases hown.2 with ⟨hv, hx0⟩ | ⟨g, cap, cur, hv, hb, hh, hnc, hcm, hcs, htake⟩
  · injection hv with e1 e2 e3
    subst e1 e2 e3
    have hxs : xs = [] := List.eq_nil_of_length_eq_zero hx0
    subst hxs
    refine wpList_copy_nothing hgd s x t t ho e ht hsz none A 0 0 n c hs hx (by simp) ?_
    refine h W 0 ?_ HB (Kept.refl _ _)
    subst hr
    simpa using HO
  · injection hv with e1 e2 e3
    subst e1 e2 e3
    have hlen : (encs (Value.int k) xs).length = xs.length := encs_length xs
    obtain ⟨cs, hcs0⟩ : ∃ cs, cs = (encs (Value.int k) ys).take xs.length := ⟨_, rfl⟩
    have hcsl : cs.length = Nat.min n xs.length := by rw [hcs0, List.length_take, encs_length, hyl]; exact Nat.min_comm _ _
    have hfit : 0 + cs.length ≤ cur.toList.length := by
      have hct : cur.toList.length = cur.size := Array.length_toList
      rw [hcsl, hct, hcs]
      have := Nat.min_le_right n xs.length
      have : Nat.min n xs.length = min n xs.length := rfl
      omega
    have hfit' : 0 + cs.length ≤ cur.size := (show cur.toList.length = cur.size from Array.length_toList) ▸ hfit
    have h1 : ∀ v ∈ cs, v.oneCell' = true := by
      intro v hv
      rw [hcs0] at hv
      have := List.mem_of_mem_take hv
      simp only [encs, List.mem_map] at this
      obtain ⟨y, _, rfl⟩ := this
      rfl
    have fin : ∀ w1 : World, w1.heap[g]? = some (.cells (splice cur.toList 0 cs).toArray e (0, 0)) → (Kd.int k).R e w1 base ok (.slice (some ⟨g, 0, none⟩) xs.length c0) r := by
      intro w1 hw
      have hrl : r.length = xs.length := by rw [← hr]; simp; omega
      have hown1 : w1.ownsRow base e 1 (.slice (some ⟨g, 0, none⟩) xs.length c0) r.length (encs (Value.int k) r) := by
        rw [hrl]
        refine ⟨by rw [encs_length, hrl]; omega, .inr ⟨g, c0, _, rfl, hb, hw, hnc, hcm, ?_, ?_⟩⟩
        · rw [List.size_toArray, length_splice _ _ _ hfit, show cur.toList.length = cur.size from Array.length_toList, hcs]
        · have hx1 : cur.toList.take xs.length = encs (Value.int k) xs := by rw [← htake, Nat.mul_one]
          have hcl : cs.length ≤ xs.length := by rw [hcsl]; exact Nat.min_le_right _ _
          rw [Nat.mul_one, splice, List.take_zero, List.nil_append, Nat.zero_add, List.take_append, List.take_of_length_le hcl, List.take_drop, Nat.add_sub_cancel' hcl, hx1, ← hr, encs_append]
          congr 1
          · rw [hcs0]; simp [encs, List.map_take]
          · rw [hcsl, hyl.symm]
            simp only [encs, List.map_drop]
            rcases Nat.le_total ys.length xs.length with hle | hle
            · rw [show Nat.min ys.length xs.length = ys.length from Nat.min_eq_left hle]
            · rw [show Nat.min ys.length xs.length = xs.length from Nat.min_eq_right hle, List.drop_of_length_le (by simp), List.drop_of_length_le (by simpa using hle)]
      exact Kd.R_of_own hown1 (fun k' hk' => HO.1 k' hk')
    by_cases h0 : cs.length = 0
    · obtain rfl : cs = [] := List.eq_nil_of_length_eq_zero h0
      refine wpList_copy_nothing hgd s x t t ho e ht hsz _ A xs.length c0 n c hs hx (by simpa using hcsl.symm) ?_
      exact h W 0 (fin W (by simpa [splice] using hh)) HB (Kept.refl _ _)
    · have hmin : Nat.min n xs.length = min n xs.length := rfl
      obtain ⟨ad, rfl, hc⟩ := hcell (by omega)
      refine wpList_copy_own hgd s x t t ho e ht hsz g 0 xs.length c0 ad n c hs hx cur e hh cs hcsl ?_ hfit' h1 ?_
      · intro j v hj
        have hjl : j < cs.length := (List.getElem?_eq_some_iff.1 hj).1
        rw [hc j (by omega)]
        rw [hcs0, List.getElem?_take, if_pos (by omega)] at hj
        simp only [encs, List.getElem?_map] at hj
        rw [List.getElem?_eq_getElem (by omega)] at hj
        simp only [Option.map_some, Option.some.injEq] at hj
        rw [← hj, List.getD_eq_getElem?_getD, List.getElem?_eq_getElem (by omega)]
        rfl
      · refine h _ _ (fin _ (by simpa [splice] using setRow_heap W g cur _ e (0, 0) hh)) (below_setRow HB hb _) ⟨by simp [World.setRow], fun i _ hn => setRow_other W g i _ (fun he => hn (by rw [he]; rfl))⟩
end

/-! ### append(xs, ys...) where the two slice types part -/
theorem append2.types {P : Program} {t t2 e : TypeId} (ht : P.underlying t = some (.slice e)) (ht2 : P.underlying t2 = some (.slice e)) {i0 : TypeInfo} (hi : P.info? e = some i0) (ty : TypeId) (A B : Option Addr) (n c m d : Nat) (W : World) :
    (Builtin.append_ #[t, t2] ty #[.slice A n c, .slice B m d]).run P W = (Builtin.append_ #[t, t] ty #[.slice A n c, .slice B m d]).run P W := by
  simp [Builtin.append_, run_underlying ht, run_underlying ht2, sizeOf, typeInfo, hi]

section
variable {P : Program} {ops : Array Oper} {rest : List Oper} {o : Oper} {a : Act} {Q : Exit → Act → World → Prop}
theorem append2.law {w0 W : World} (base : Nat) (hgd : o.guard = none) (s x : Operand) (t t2 e : TypeId) (k : IntKind) (bytes : Nat)
    (ho : o.op = .call { callee := .builtin .append, args := #[s, x], argTypes := #[t, t2] })
    (ht : P.underlying t = some (.slice e)) (ht2 : P.underlying t2 = some (.slice e)) (hinfo : (P.info? e).map (fun i => (i.zero, i.size, i.bytes)) = some (some (.int k 0), 1, bytes)) (hb0 : 0 < bytes)
    (v : Value) (xs ys : List Int) (A : Option Addr) (m c : Nat) (ok : Nat → Prop) (hs : a.eval s = v) (hx : a.eval x = .slice A m c)
    (HO : (Kd.int k).R e W base ok v xs) (HR : (Kd.int k).C W A m ys) (hfresh : ∀ k, W.heap.size ≤ k → ok k) (HB : Below base w0 W) (hbase : base ≤ W.heap.size) (hl : (xs.length + m) * bytes ≤ 140737488355328)
    (h : ∀ v1 w1, (Kd.int k).R e w1 base ok v1 (xs ++ ys) → Below base w0 w1 → W.grownBy w1 v.ownBlock → (v1.ownBlock = v.ownBlock ∨ ∃ b, v1.ownBlock = some b ∧ W.heap.size ≤ b) → wpList P ops Q rest (a.put o.dst v1) w1) :
    wpList P ops Q (o :: rest) a W := by
  have HO0 := HO
  have hRd : ReadsOf (Value.int k) 0 W A m ys := Kd.reads_of_C (d := (0 : Int)) HR
  have HO : W.ownsRow base e 1 v xs.length (nums k xs) := Kd.own_of_R HO
  obtain ⟨i0, hi, hzz⟩ := Option.map_eq_some_iff.1 hinfo
  simp only [Prod.mk.injEq] at hzz
  obtain ⟨hz0, hz1, hz2⟩ := hzz
  have hm : ys.length = m := hRd.1
  have hlen : xs.length + m ≤ 140737488355328 := Nat.le_trans (Nat.le_mul_of_pos_right _ hb0) hl
  have hrun : ∃ v1 w1, (Builtin.append_ #[t, t] o.type #[v, .slice A m c]).run P W = .ok v1 w1 ∧ w1.ownsRow base e 1 v1 (xs ++ ys).length (nums k (xs ++ ys)) ∧ W.grownBy w1 v.ownBlock ∧ (v1.ownBlock = v.ownBlock ∨ v1.ownBlock = some W.heap.size) := by
    rcases A with _ | ad
    · have h0 : m = 0 := by
        rcases Nat.eq_zero_or_pos m with h0 | h0
        · exact h0
        · obtain ⟨ad, h, _⟩ := hRd.2.2 h0
          cases h
      subst h0
      obtain rfl : ys = [] := List.eq_nil_of_length_eq_zero hm
      refine ⟨v, W, ?_, by simpa using HO, World.grownBy.refl W _, .inl rfl⟩
      rcases HO.2 with ⟨rfl, hn⟩ | ⟨g, cap, cur, rfl, _, _, hnc, _⟩
      · simp [Builtin.append_, run_underlying ht, sizeOf, typeInfo, hi, Builtin.lenOf, Builtin.firstCells]
      · simp [Builtin.append_, run_underlying ht, sizeOf, typeInfo, hi, Builtin.lenOf, Builtin.firstCells, hnc, storeCells]
    · have hcells : ∀ j u, (nums k ys)[j]? = some u → W.cell? (ad.add j) = some u := by
        intro j u hu
        have hj : j < ys.length := by
          rcases Nat.lt_or_ge j ys.length with h | h
          · exact h
          · simp [nums, List.getElem?_eq_none h] at hu
        obtain ⟨ad', h', hc⟩ := hRd.2.2 (by omega)
        injection h' with h'
        subst h'
        have := hc j (by omega)
        simp [nums, List.getElem?_eq_getElem hj] at hu
        subst hu
        rw [this]
        simp [List.getD_eq_getElem?_getD, List.getElem?_eq_getElem hj]
      obtain ⟨v1, w1, hr, h2, h3, _, h5⟩ := run_append_own_at (P := P) W base t o.type e i0 (.int k 0) 1 bytes ht hi hz0 hz1 hz2 rfl (by omega) v xs.length (nums k xs) HO ad m c (nums k ys) (by simp [nums, hm]) hcells
        (by intro u hu; simp only [nums, List.mem_map] at hu; obtain ⟨q, _, rfl⟩ := hu; rfl) (by simp only [maxLen]; omega) hl hbase
      exact ⟨v1, w1, hr, by simpa [nums, hm] using h2, h3, h5⟩
  obtain ⟨v1, w1, hr, hown, hg, hat⟩ := hrun
  have hat' : v1.ownBlock = v.ownBlock ∨ ∃ b, v1.ownBlock = some b ∧ W.heap.size ≤ b := by
    rcases hat with hat | hat
    · exact .inl hat
    · exact .inr ⟨_, hat, Nat.le_refl _⟩
  have hR1 : (Kd.int k).R e w1 base ok v1 (xs ++ ys) := by
    refine Kd.R_of_own hown (fun k' hk' => ?_)
    rcases hat' with e1 | ⟨b, e1, hbb⟩
    · exact HO0.1 k' (by rw [← e1]; exact hk')
    · rw [e1] at hk'
      injection hk' with hk'
      subst hk'
      exact hfresh _ hbb
  obtain ⟨Av, cv, rfl⟩ := Kd.R_slice HO0
  rw [← append2.types ht ht2 hi] at hr
  refine wpList_plain hgd fun K hK => ?_
  unfold Oper.wp execOp
  simp only [ho, resolve, invoke, builtin, Sem.run_bind, Sem.run_pure, Result.andThen_ok, List.map_toArray, List.map_cons, List.map_nil, hs, hx, hr]
  exact hK _ _ (h v1 w1 hR1 (HB.grown hg hbase (own_base HO)) hg hat')
end

theorem u64_of_u8 (z : Int) : IntKind.u64.wrap (IntKind.u8.wrap z) = z % 256 := by
  have e1 : IntKind.u8.wrap z = z % 256 := by simp [IntKind.wrap, IntKind.bits, IntKind.signed]
  have e2 : IntKind.u64.wrap (z % 256) = z % 256 % 18446744073709551616 := by simp [IntKind.wrap, IntKind.bits, IntKind.signed]
  rw [e1, e2]; omega

end Go.Proofs.Ytpalpikenkkhlaa.Nt
