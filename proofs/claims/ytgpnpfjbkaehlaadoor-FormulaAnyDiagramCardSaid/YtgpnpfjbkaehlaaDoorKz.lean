/- The walks' own words; what an identifier is. -/
import Derived.Deep.AppendLies
import Derived.Deep.RegionLaw
import Derived.Deep.DeepFit
import Derived.Lib.Hide
import Derived.Maps.OwnSet
import Derived.Maps.OwnOps
import Derived.DeepKeys4
import Derived.Defers
import Derived.Recover
import Derived.Test.YtgpnpfjbkaehlaaDoorNa
import Derived.Test.YtgpnpfjbkaehlaaDoorTa
namespace Go.Proofs.YtgpnpfjbkaehlaaDoor.Wk
open Go.RowKit Go.Proofs.YtgpnpfjbkaehlaaDoorW.PrintWords Go.Proofs.YtgpnpfjbkaehlaaDoorW.PrintLast Go.Proofs.YtgpnpfjbkaehlaaDoorW.PrintMore Go.Proofs.YtgpnpfjbkaehlaaDoor.Nt
set_option linter.unusedVariables false
set_option linter.unusedSimpArgs false

/-- An append at a step of a region that draws, in the words of a kind. -/
theorem step_append_R {P : Program} {ops : Array Oper} {o : Oper} {a : Act} {w : World} {K : Act → World → Prop} {Q : Exit → Act → World → Prop} {E : Prop} {α : Type} (d : Kd α)
    (hg : o.guard = none) (s x : Operand) (t e : TypeId) (z : Value) (bytes : Nat)
    (ho : o.op = .call { callee := .builtin .append, args := #[s, x], argTypes := #[t, t] })
    (ht : P.underlying t = some (.slice e)) (hinfo : (P.info? e).map (fun i => (i.zero, i.size, i.bytes)) = some (some z, d.sz, bytes)) (hz : z.cells.size = d.sz) (hs0 : 0 < d.sz)
    (v : Value) (xs : List α) (p : α) (cs : List Value) (ok okp : Nat → Prop) (hs : a.eval s = v) (ad : Addr) (hx : a.eval x = .slice (some ad) 1 1) (hcs : ∀ j u, cs[j]? = some u → w.cell? (ad.add j) = some u)
    (hp : d.M w 0 okp p cs) (hokp : ∀ k, okp k → ok k ∧ some k ≠ v.ownBlock) (hfresh : ∀ k, w.heap.size ≤ k → ok k)
    (HO : d.R e w 0 ok v xs) (hl : (xs.length + 1) * bytes ≤ 140737488355328) (hb0 : 0 < bytes)
    (h : ∀ g cap w1, d.R e w1 0 ok (.slice (some ⟨g, 0, none⟩) (xs.length + 1) cap) (xs ++ [p]) → w.grownBy w1 v.ownBlock → (v.ownBlock = some g ∨ g = w.heap.size) → g < w1.heap.size → K (a.put o.dst (.slice (some ⟨g, 0, none⟩) (xs.length + 1) cap)) w1) :
    if Region.wanted o (yielded ops a.tmps) = true then Oper.wp P o a w K Q else E := by
  have hw : Region.wanted o (yielded ops a.tmps) = true := by simp [Region.wanted, hg]
  rw [if_pos hw]
  obtain ⟨h0, inner, hown, hr⟩ := HO
  obtain ⟨i, hi, hi1, hi2, hi3⟩ := info_parts hinfo
  have hml : (xs.length + 1) ≤ maxLen := by unfold maxLen; have := Nat.le_mul_of_pos_right (xs.length + 1) hb0; omega
  refine wp_append_lies w s x t ho 0 e i z d.sz bytes ht hi hi1 hi2 hi3 hz hs0 v xs.length inner hs hown ad 1 1 cs hx (by rw [Nat.one_mul]; exact d.K_len (d.K_of_M hp)) hcs (d.K_one (d.K_of_M hp)) (by omega) hml hl (Nat.zero_le _) w.heap.size rfl ?_
  intro g cap w1 hown1 hg1 hat hlt
  refine h g cap w1 ?_ hg1 hat hlt
  refine Kd.R_appended h0 hr hp hokp hfresh hown1 hg1 ?_
  rcases hat with hat | hat
  · exact .inl (by rw [hat]; rfl)
  · exact .inr ⟨g, rfl, by omega⟩

/-- Nothing but the object p, the row of its slice, and new blocks has turned; and where the new slice lies. -/
def Turn (p : Nat) (fv : Value) (w : World) (fv' : Value) (w' : World) : Prop :=
  Kept w w' (fun k => k = p ∨ some k = fv.ownBlock) ∧ (fv'.ownBlock = fv.ownBlock ∨ ∃ b, fv'.ownBlock = some b ∧ w.heap.size ≤ b) ∧ Below 0 w w'

theorem below_zero {w w1 : World} {B : Nat} (h : Below B w w1) : Below 0 w w1 := h.mono (Nat.zero_le _)

theorem Turn.refl (p : Nat) (fv : Value) (w : World) : Turn p fv w fv w := ⟨Kept.refl _ _, .inl rfl, Below.refl _ _⟩

theorem Turn.trans {p : Nat} {fv fv1 fv2 : Value} {w w1 w2 : World} (h : Turn p fv w fv1 w1) (k : Turn p fv1 w1 fv2 w2) : Turn p fv w fv2 w2 := by
  obtain ⟨h1, h2, h3⟩ := h
  obtain ⟨k1, k2, k3⟩ := k
  refine ⟨h1.then_ k1 ?_, ?_, h3.trans k3⟩
  · rintro i (rfl | hi)
    · exact .inl (.inl rfl)
    · rcases h2 with h2 | ⟨b, h2, hb⟩
      · exact .inl (.inr (hi.trans h2))
      · rw [h2] at hi; injection hi with hi; subst hi; exact .inr hb
  · rcases k2 with k2 | ⟨b, k2, hb⟩
    · rw [k2]; exact h2
    · exact .inr ⟨b, k2, Nat.le_trans h1.1 hb⟩

theorem Turn.below {p : Nat} {fv fv1 : Value} {w w1 w2 : World} (h : Turn p fv w fv1 w1) (hb : Below w1.heap.size w1 w2) : Turn p fv w fv1 w2 := ⟨h.1.below hb, h.2.1, h.2.2.trans (below_zero hb)⟩

theorem below_turn {p : Nat} {fv fv1 : Value} {w w1 w2 : World} (hb : Below w.heap.size w w1) (h : Turn p fv w1 fv1 w2) : Turn p fv w fv1 w2 := by
  obtain ⟨h1, h2, h3⟩ := h
  refine ⟨(Kept.of_below hb _).then_ h1 (fun k hk => .inl hk), ?_, (below_zero hb).trans h3⟩
  rcases h2 with h2 | ⟨b, h2, hle⟩
  · exact .inl h2
  · exact .inr ⟨b, h2, Nat.le_trans hb.size hle⟩

theorem Turn.size {p : Nat} {fv fv1 : Value} {w w1 : World} (h : Turn p fv w fv1 w1) : w.heap.size ≤ w1.heap.size := h.1.1

/-- An object of the call's own, and its row. -/
theorem Turn.own {p B : Nat} {fv fv1 : Value} {w w1 : World} (h : Turn p fv w fv1 w1) (hB : B ≤ w.heap.size) (hp : B ≤ p) (hf : ∀ k, some k = fv.ownBlock → B ≤ k) : Below B w w1 := by
  obtain ⟨h1, _, h3⟩ := h
  refine ⟨h3.os, h3.tape, h3.output, h3.size, fun i hi => ?_⟩
  refine h1.2 i (by omega) ?_
  rintro (rfl | hk)
  · omega
  · have := hf i hk; omega

/-- A block that is neither the object nor its row. -/
theorem Turn.blk {p g : Nat} {fv fv1 : Value} {w w1 : World} {o : Obj} (h : Turn p fv w fv1 w1) (hb : w.heap[g]? = some o) (h1 : g ≠ p) (h2 : some g ≠ fv.ownBlock) : w1.heap[g]? = some o :=
  blk_kept hb h.1 (fun hk => by rcases hk with hk | hk; exact h1 hk; exact h2 hk)

theorem bcell {W w1 : World} (hb : Below W.heap.size W w1) : (∀ b o, b < W.heap.size → w1.cell? ⟨b, o, none⟩ = W.cell? ⟨b, o, none⟩) ∧ (∀ b o, b < W.heap.size → w1.frozen? ⟨b, o, none⟩ = W.frozen? ⟨b, o, none⟩) :=
  ⟨fun b o h => hb.cell (p := ⟨b, o, none⟩) h, fun b o h => hb.frozen (p := ⟨b, o, none⟩) h⟩

theorem blk_free {w : World} {g : Nat} {t : TypeId} {cs : Array Value} (h : w.heap[g]? = some (.cells cs t (0, 0))) (i : Nat) : w.frozen? ⟨g, i, none⟩ = false := by
  simp [World.frozen?, h]

/-- Behind an append to the row fv and a store into the object p. -/
theorem turn_append {p g cap m i : Nat} {fv u : Value} {w W w1 : World} (hW : Below w.heap.size w W) (hg : W.grownBy w1 fv.ownBlock) (hat : fv.ownBlock = some g ∨ g = W.heap.size) :
    Turn p fv w (.slice (some ⟨g, 0, none⟩) m cap) (w1.setCell ⟨p, i, none⟩ u) := by
  refine ⟨(Kept.of_grown hg (Kept.of_below hW _) (fun k hk => .inl (.inr hk.symm))).setCell (.inl (.inl rfl)) u, ?_, ((below_zero hW).trans ⟨hg.os, hg.tape, hg.output, hg.size, fun i hi => absurd hi (Nat.not_lt_zero _)⟩).setCell (Nat.zero_le _) _⟩
  rcases hat with hat | hat
  · exact .inl hat.symm
  · exact .inr ⟨g, rfl, by rw [hat]; exact hW.size⟩

/-- The cells of a new block, behind a draw. -/
theorem new_cells (w : World) (cs : List Value) (t : TypeId) (H : Nat) (hH : w.heap.size = H) : ∀ (j : Nat) (u : Value), cs[j]? = some u → (w.alloc (.cells cs.toArray t)).drew.cell? ((⟨H, 0, none⟩ : Addr).add j) = some u := by
  subst hH
  intro j u hj
  have h := blk_new w (.cells cs.toArray t)
  have h2 : (w.alloc (.cells cs.toArray t)).cell? ⟨w.heap.size, j, none⟩ = cs.toArray[j]? := blk_cell h j
  have h3 : (w.alloc (.cells cs.toArray t)).drew.cell? ((⟨w.heap.size, 0, none⟩ : Addr).add j) = (w.alloc (.cells cs.toArray t)).cell? ⟨w.heap.size, j, none⟩ := by
    have e : ((⟨w.heap.size, 0, none⟩ : Addr).add j) = ⟨w.heap.size, j, none⟩ := by cases j <;> simp [Addr.add]
    rw [e]
    rfl
  rw [h3, h2, List.getElem?_toArray, hj]
end Go.Proofs.YtgpnpfjbkaehlaaDoor.Wk
namespace Go.Proofs.YtgpnpfjbkaehlaaDoor.Wk
open Go.RowKit Go.Shelf Go.Lib Go.Proofs.YtgpnpfjbkaehlaaDoorW.PrintWords Go.Proofs.YtgpnpfjbkaehlaaDoorW.PrintLast Go.Proofs.YtgpnpfjbkaehlaaDoorW.PrintMore Go.Proofs.YtgpnpfjbkaehlaaDoor.Nt Go.Proofs.YtgpnpfjbkaehlaaDoor.Fm
set_option linter.unusedVariables false
set_option linter.unusedSimpArgs false

theorem pid_t {r : Nat} (h : ¬ ((97 ≤ r ∧ r ≤ 122) ∨ (65 ≤ r ∧ r ≤ 90) ∨ r = 95 ∨ (48 ≤ r ∧ r ≤ 57))) : Value.bool true = .bool (pid r) := by
  congr 1
  unfold pid
  symm
  rw [Bool.not_eq_true', Bool.eq_false_iff]
  intro h'
  apply h
  simp only [Bool.or_eq_true, Bool.and_eq_true, decide_eq_true_eq, beq_iff_eq] at h'
  omega
theorem pid_f {r : Nat} (h : (97 ≤ r ∧ r ≤ 122) ∨ (65 ≤ r ∧ r ≤ 90) ∨ r = 95 ∨ (48 ≤ r ∧ r ≤ 57)) : Value.bool false = .bool (pid r) := by
  congr 1
  unfold pid
  symm
  rw [Bool.not_eq_false']
  simp only [Bool.or_eq_true, Bool.and_eq_true, decide_eq_true_eq, beq_iff_eq]
  omega
theorem ret_v {a b : Value} (h : a = b) : Ending.returned a = .returned b := by rw [h]

theorem ident1_at (w : World) : PredAt Tryd.prog 99 #[] encR pid w := fun W r _ => by
  unfold FnGives
  rcases (by omega : r < 48 ∨ (48 ≤ r ∧ r ≤ 57) ∨ (57 < r ∧ r < 65) ∨ (65 ≤ r ∧ r ≤ 90) ∨ (90 < r ∧ r < 95) ∨ r = 95 ∨ r = 96 ∨ (97 ≤ r ∧ r ≤ 122) ∨ 122 < r) with h | h | h | h | h | h | h | h | h
  all_goals
    first
    | (subst h
       go_enter Tryd.func99, Tryd.ntmps99
       go_wp2
       go_ret
       exact ⟨by simp [pid], 0, rfl⟩)
    | (have h95 : ((r : Int) != 95) = true := by simp; omega
       go_enter Tryd.func99, Tryd.ntmps99
       go_wp2
       go_ret
       refine ⟨ret_v ?_, 0, rfl⟩
       first | exact pid_t (r := r) (by omega) | exact pid_f (r := r) (by omega) | (show Value.bool _ = Value.bool (pid r); congr 1; rw [Bool.eq_iff_iff]; simp [pid]; omega))

theorem idl_nil (s : ByteArray) (h : ¬ 0 < s.size) : idl s.data.toList = 0 := by
  have : s.data.toList = [] := List.eq_nil_of_length_eq_zero (by rw [Array.length_toList]; show s.size = 0; omega)
  rw [this]; rfl
theorem data_cons (s : ByteArray) (h : 0 < s.size) : ∃ r, s.data.toList = s[0] :: r := by
  have hl : 0 < s.data.toList.length := by rw [Array.length_toList]; exact h
  cases hd : s.data.toList with
  | nil => rw [hd] at hl; simp at hl
  | cons c r =>
    refine ⟨r, ?_⟩
    have : s[0] = c := by
      have h2 : s.data.toList[0]? = some c := by rw [hd]; rfl
      rw [Array.getElem?_toList] at h2
      have h3 : s.data[0]? = some s[0] := Array.getElem?_eq_some_iff.2 ⟨h, rfl⟩
      rw [h3] at h2
      exact Option.some.inj h2
    rw [this]
theorem idl_d (s : ByteArray) (h : 0 < s.size) (h1 : 48 ≤ (s[0].toNat : Int)) (h2 : (s[0].toNat : Int) ≤ 57) : idl s.data.toList = 0 := by
  obtain ⟨r, e⟩ := data_cons s h
  rw [e, idl_cons, if_pos (by simp [dig]; omega)]
theorem idl_n (s : ByteArray) (h : 0 < s.size) (h1 : (s[0].toNat : Int) < 48 ∨ 57 < (s[0].toNat : Int)) : idl s.data.toList = (s.data.toList.takeWhile idc).length := by
  obtain ⟨r, e⟩ := data_cons s h
  rw [e, idl_cons, if_neg (by simp [dig]; omega)]
theorem idl_0 (s : ByteArray) (h : (s.data.toList.takeWhile idc).length = 0) : idl s.data.toList = 0 := by
  cases hd : s.data.toList with
  | nil => rfl
  | cons c r => rw [idl_cons, ← hd, h]; split <;> rfl
theorem val_i {a b : Int} (h : a = b) : Value.int .i64 a = .int .i64 b := by rw [h]

set_option maxHeartbeats 1000000 in
theorem ident_any (s : ByteArray) (w : World) (hs : s.size ≤ 9223372036854775807) :
    Calls Tryd.prog 70 #[.string s] w fun e w' => e = .returned (.int .i64 (idl s.data.toList : Nat)) ∧ Below w.heap.size w w' := by
  have hC := fun W => Tryd.strings_IndexFunc 99 #[] (enters_of Tryd.func99 (by kernel_rfl) rfl) pid s W (ident1_at W)
  rw [idx_is] at hC
  have hsz : s.data.toList.length = s.size := by rw [Array.length_toList]; rfl
  have hle : (s.data.toList.takeWhile idc).length ≤ s.data.toList.length := (List.takeWhile_sublist _).length_le
  obtain ⟨k, hk⟩ : ∃ k, k = (s.data.toList.takeWhile idc).length := ⟨_, rfl⟩
  rw [← hk] at hC hle
  rw [hsz] at hle
  have HK := Lib.hid hk
  clear hk hsz
  by_cases h1 : k = s.size
  · simp only [h1, if_true] at hC
    have H1 := Lib.hid h1
    clear h1
    go_enter Tryd.func70, Tryd.ntmps70
    go_wp2_with (go_at_call 98; refine (hC _).mono ?_; rintro e w' ⟨rfl, hb⟩)
    all_goals go_ret
    · exact ⟨ret_v (val_i (by rw [idl_d s (by assumption) (by assumption) (by assumption)]; rfl)), hb⟩
    · exact ⟨ret_v (val_i (by rw [idl_n s (by assumption) (.inr (by assumption)), ← HK.out, H1.out])), hb⟩
    · exact ⟨ret_v (val_i (by rw [idl_n s (by assumption) (.inl (by assumption)), ← HK.out, H1.out])), hb⟩
    · exact ⟨ret_v (val_i (by rw [idl_nil s (by assumption)]; omega)), hb⟩
  · simp only [h1, if_false] at hC
    have H1 := Lib.hid h1
    clear h1
    go_enter Tryd.func70, Tryd.ntmps70
    go_wp2_with (go_at_call 98; refine (hC _).mono ?_; rintro e w' ⟨rfl, hb⟩)
    all_goals go_ret
    · exact ⟨ret_v (val_i (by rw [idl_d s (by assumption) (by assumption) (by assumption)]; rfl)), hb⟩
    · exact ⟨ret_v (val_i (by rw [idl_n s (by assumption) (.inr (by assumption)), ← HK.out])), hb⟩
    · exact ⟨ret_v (val_i (by rw [idl_n s (by assumption) (.inl (by assumption)), ← HK.out])), hb⟩
    · exact ⟨ret_v (val_i (by rw [idl_0 s (by rw [← HK.out]; omega)]; omega)), hb⟩
end Go.Proofs.YtgpnpfjbkaehlaaDoor.Wk
